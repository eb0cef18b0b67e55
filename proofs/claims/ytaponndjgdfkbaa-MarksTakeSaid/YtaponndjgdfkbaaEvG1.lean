import Derived.Test.YtaponndjgdfkbaaEvT1
namespace Go.Ev
open Go Go.Proofs
/-- All functions' code may be taken in the text's order. -/
def allOk (X : Cx) : Nat → Bool
  | 0 => true
  | n + 1 => allOk X n && match X.P.funcs[n]? with
    | some fn => (fn.name != "runtime.NumGoroutine") && match fn.body with
      | some c => X.bad n || okCode X c
      | none => true
    | none => true
theorem allOk_get {X : Cx} : ∀ {n : Nat}, allOk X n = true → ∀ {f : Nat} {fn : Func}, f < n → X.P.funcs[f]? = some fn → (fn.name == "runtime.NumGoroutine") = false ∧ ∀ c, fn.body = some c → X.bad f = false → okCode X c = true
  | 0, _, _, _, hf, _ => by omega
  | n + 1, h, f, fn, hf, hfn => by
    simp only [allOk, Bool.and_eq_true] at h
    by_cases hn : f = n
    · subst hn
      have h2 := h.2
      simp only [hfn, Bool.and_eq_true, bne_iff_ne, ne_eq] at h2
      refine ⟨by simpa using h2.1, fun c hc hb => ?_⟩
      have h3 := h2.2
      simpa [hc, hb] using h3
    · exact allOk_get h.1 (by omega) hfn
end Go.Ev
namespace Go.Ev.S1
open Go Go.Proofs Go.Ev
theorem all_ok : allOk cx 89 = true := by kernel_rfl
theorem fsize : Try.prog.funcs.size = 89 := by kernel_rfl
theorem good : Good cx where
  mixed := by kernel_rfl
  okc f fn c hf hc hb := (allOk_get all_ok (by rw [← fsize]; exact (Array.getElem?_eq_some_iff.1 hf).1) hf).2 c hc hb
  ng f fn hf := (allOk_get all_ok (by rw [← fsize]; exact (Array.getElem?_eq_some_iff.1 hf).1) hf).1
  ext f fn args d hf hn h ok w ι H vs hs hv := by
    by_cases h49 : f = 49
    · subst h49
      rw [ex49] at h
      have hff := Try.func49
      rw [show cx.P.funcs[49]? = Try.prog.funcs[49]? from rfl, hff] at hf
      injection hf with hf
      subst hf
      exact cmpExt_run (P := cx.P) hff rfl (by kernel_rfl) (by kernel_rfl) (by kernel_rfl) h hv
    · have : cx.ext f args = none := by
        show extT f args = none
        unfold extT
        split
        · exact absurd rfl h49
        · rfl
      rw [this] at h
      cases h
end Go.Ev.S1
