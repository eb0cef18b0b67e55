import Derived.Test.YtaponndjgdfkbaaEv23
/- Memory that grows. -/
namespace Go.Ev
@[simp] theorem app_get (H L : Heap) (k : Nat) : (H ++ L)[H.length + k]? = L[k]? := by rw [List.getElem?_append_right (Nat.le_add_right _ _), Nat.add_sub_cancel_left]
@[simp] theorem app_get0 (H L : Heap) : (H ++ L)[H.length]? = L[0]? := app_get H L 0
@[simp] theorem app_set (H L : Heap) (k : Nat) (x : Option (List D)) : (H ++ L).set (H.length + k) x = H ++ L.set k x := by
  rw [List.set_append_right _ _ (Nat.le_add_right _ _), Nat.add_sub_cancel_left]
@[simp] theorem app_set0 (H L : Heap) (x : Option (List D)) : (H ++ L).set H.length x = H ++ L.set 0 x := app_set H L 0 x
theorem hget_app {H : Heap} {b : Nat} {ds : List D} (h : hget H b = some ds) (L : Heap) : (H ++ L)[b]? = some (some ds) := by
  have hb : b < H.length := by
    rcases Nat.lt_or_ge b H.length with h1 | h1
    · exact h1
    · rw [hget, List.getElem?_eq_none h1] at h; cases h
  rw [List.getElem?_append_left hb]
  rw [hget, List.getElem?_eq_getElem hb] at h
  rw [List.getElem?_eq_getElem hb]
  simp only [Option.getD_some] at h
  rw [h]
theorem hget_at {H : Heap} {b : Nat} {ds : List D} (h : hget H b = some ds) : H[b]? = some (some ds) := by
  have := hget_app h []
  rwa [List.append_nil] at this
end Go.Ev
