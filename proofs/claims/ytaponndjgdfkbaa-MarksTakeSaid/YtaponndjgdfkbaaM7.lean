import Derived.Test.YtaponndjgdfkbaaM6
namespace Go.Ev.S1
open Go Go.Proofs Go.Ev
theorem f3_ev (steps : List Int) (hn63 : steps.length < 9223372036854775808) (nil : Bool) (hnil : nil = true → steps = []) (back : Int) :
    call cx 3 [.vsl nil (intsD steps) steps.length, .int .i64 back] [] = some (.bool true, []) := by
  have hf := first_ev
  have hi := id2_ev
  have hid16 : (idOf 2).length = 16 := rfl
  refine call_run Try.func3 rfl rfl ?_
  by_cases h30 : steps.length ≤ 30
  · have h30' : ¬ (30 : Int) < (steps.length : Int) := by omega
    simp [Try.f3, hf, hi, h30', hid16]
    have hr := loop3 steps h30 nil hnil back
    simp only [L3, cAt, bodyOf, Try.f3, Option.getD] at hr
    refine Run.mono (hr _ ?_ ?_ ?_ ?_ ?_ ?_ ?_ ?_ ?_) ?_
    iterate 9 simp
    rintro ex e H ⟨rfl, h5, h6 | ⟨b, h6⟩⟩
    · simp [h5, h6]
    · simp [h5, h6]
  · have h30' : (30 : Int) < (steps.length : Int) := by omega
    simp [Try.f3, hf, h30']
end Go.Ev.S1
