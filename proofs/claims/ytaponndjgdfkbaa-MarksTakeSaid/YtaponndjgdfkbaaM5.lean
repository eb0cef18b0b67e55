import Derived.Test.YtaponndjgdfkbaaM4
import Derived.Test.YtaponndjgdfkbaaEv24
namespace Go.Ev
open Go Go.Proofs
@[simp] theorem cells_vFreeL (m : Mk) : vFree.vFreeL m.cells = true := by simp [Mk.cells, vFree.vFreeL, vFree]
@[simp] theorem mks_one (m : Mk) : mks [m] = m.cells := by simp [mks]
/-- Numbers as cells. -/
def intsD (l : List Int) : List D := l.map (.int .i64 ·)
@[simp] theorem intsD_len (l : List Int) : (intsD l).length = l.length := by simp [intsD]
theorem intsD_drop (l : List Int) {i : Nat} (h : i < l.length) : (intsD l).drop i = .int .i64 l[i] :: intsD (l.drop (i + 1)) := by
  rw [intsD, ← List.map_drop, List.drop_eq_getElem_cons h]
  rfl
/-- A number below another one. -/
def num (n b : Int) : Int := if b < 1 then 0 else (IntKind.i64.wrap (n.tmod b + b)).tmod b
theorem num_bnd {n b : Int} (h : 1 ≤ b ∧ b ≤ 1000000) : 0 ≤ num n b ∧ num n b < b := by
  have h1 : n.tmod b < b := Int.tmod_lt_of_pos n (by omega)
  have h2 : -b < n.tmod b := by
    have := Int.tmod_lt_of_pos (-n) (show 0 < b by omega)
    rw [Int.neg_tmod] at this
    omega
  have hw : IntKind.i64.wrap (n.tmod b + b) = n.tmod b + b := by rw [wrap_i64]; omega
  rw [num, if_neg (by omega), hw]
  exact ⟨Int.tmod_nonneg b (by omega), Int.tmod_lt_of_pos _ (by omega)⟩
end Go.Ev
namespace Go.Ev.S1
open Go Go.Proofs Go.Ev
def idOf (k : UInt8) : List UInt8 := [94, 0, 0, 0, 0, 0, 0, 0, 0, 0, 0, 0, 0, 0, 0, k]
theorem id2_ev : call cx 8 [.int .i64 2] [] = some (.agg (ofBytes (idOf 2)), []) := call_some.2 ⟨60, by kernel_rfl⟩
theorem number_at (n b : Int) (H : Heap) : callD cx (call cx) 9 [.int .i64 n, .int .i64 b] H = some (.int .i64 (num n b), H) := by
  simp [number_ev, num]
theorem get_at (m : Mk) (hm : m.Ok) (H : Heap) (b : Nat) (h : hget H b = some m.cells) : callD cx (call cx) 11 [.osl b 19 0 1 19, .agg (ofBytes m.id)] H = some (.agg m.cells, H) := by
  have hg := get_ev [m] (by simpa using hm) (by simp) false (by simp) m.id hm.len
  have hgm : getM [m] m.id = m := by simp [getM]
  rw [hgm] at hg
  simp at hg
  simp [hget_at h, hm.len, hg]
theorem putM_one (a m : Mk) (h : a.id = m.id) : putM [a] m = [m] := by simp [putM, find?, h]
theorem It.cells_free {it : It} (hi : it.Ok) : idFree.idFreeL it.cells = true := by
  have hf := isFields_free hi.fields
  simp [It.cells, idFree.idFreeL, idFree, hf]
theorem take_at0 (it : It) (hi : it.Ok) (over : Bool) (hid : it.id = idOf 2) (hg : goesM ⟨idOf 2, 0, 0, 0⟩ it = true) (H : Heap) :
    callD cx (call cx) 10 [.vsl true [] 0, .agg it.cells, .bool over] H = some (.tup [.osl H.length 19 0 1 19, .int .i64 0], H ++ [some (stepM ⟨idOf 2, 0, 0, 0⟩ it over).cells]) := by
  have hgm : getM [] it.id = ⟨idOf 2, 0, 0, 0⟩ := by rw [hid]; rfl
  have hmay : mayM [] it.id = 0 := rfl
  have h := take_ok [] (by simp) true (by simp) it hi over hmay (by rw [hgm]; exact hg)
  have hp : putM [] (stepM ⟨idOf 2, 0, 0, 0⟩ it over) = [stepM ⟨idOf 2, 0, 0, 0⟩ it over] := rfl
  rw [hgm, hp] at h
  simp at h
  simp [h, It.cells_free hi]
theorem take_at1 (m : Mk) (hm : m.Ok) (it : It) (hi : it.Ok) (over : Bool) (hid : it.id = m.id) (hg : goesM m it = true) (H : Heap) (b : Nat) (hb : hget H b = some m.cells) :
    callD cx (call cx) 10 [.osl b 19 0 1 19, .agg it.cells, .bool over] H = some (.tup [.osl H.length 19 0 1 19, .int .i64 0], H ++ [some (stepM m it over).cells]) := by
  have hgm : getM [m] it.id = m := by rw [hid]; simp [getM]
  have hmay : mayM [m] it.id = 0 := by simp [mayM, rightM, risesM]
  have h := take_ok [m] (by simpa using hm) false (by simp) it hi over hmay (by rw [hgm]; exact hg)
  have hs : m.id = (stepM m it over).id := by unfold stepM; split <;> rfl
  rw [hgm, putM_one _ _ hs] at h
  simp at h
  simp [hget_at hb, hm.len, h, It.cells_free hi]
theorem order_at1 (m : Mk) (hm : m.Ok) (it : It) (hi : it.Ok) (over : Bool) (hid : it.id = m.id) (hg : goesM m it = false) (H : Heap) (b : Nat) (hb : hget H b = some m.cells) :
    callD cx (call cx) 10 [.osl b 19 0 1 19, .agg it.cells, .bool over] H = some (.tup [.vsl true [] 0, .int .i64 13], H) := by
  have hgm : getM [m] it.id = m := by rw [hid]; simp [getM]
  have hmay : mayM [m] it.id = 0 := by simp [mayM, rightM, risesM]
  have h := take_order [m] (by simpa using hm) false (by simp) it hi over hmay (by rw [hgm]; exact hg)
  simp at h
  simp [hget_at hb, hm.len, h, It.cells_free hi]
end Go.Ev.S1
