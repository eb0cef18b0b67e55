import Derived.Test.YtaponndjgdfkbaaEv25
/- What arguments read as. -/
namespace Go.Ev
open Go Go.Proofs Go.ChangeShapes Go.WideShapes Go.ChangeAt Go.RowKit
def intsK (k : IntKind) (l : List Int) : List D := l.map (.int k ·)
theorem read_ints {H : Type} {enc : TypeId × Value → H} {P : Program} {W : World} {t e : TypeId} {k : IntKind} {v : Value} {d : DataW H} {ps : List MemPlace} {base : Nat} (ht : P.underlying t = some (.slice e)) (he : P.underlying e = some (.int k)) (hc : P.cellsOf e = 1)
    (hv : Value.okWide P W .any base t v) (h : DataW.Trod enc P W 0 (fun _ => true) true t v d ps) :
    ∃ (nil : Bool) (zs : List Int), Rep (· < W.heap.size) W iota0 [] (.vsl nil (intsK k zs) zs.length) v ∧ (nil = true → zs = []) ∧ (∀ n ∈ zs, (Lit.int k n).wf = true) ∧ zs.length < 9223372036854775808 := by
  obtain ⟨n, hn⟩ := h
  obtain ⟨a0, len0, cap0, rfl⟩ := okWide_slice ht hv
  rcases open_ints ht he hc hn with ⟨hcs, hx⟩ | ⟨a, len, cap, zs, hcs, hb, hl, hm, hz, hx, hcell, hwf⟩
  · simp only [Value.cells, List.cons.injEq, and_true] at hcs
    rw [hcs]
    exact ⟨true, [], .vnil, fun _ => rfl, by simp, by decide⟩
  · simp only [Value.cells, List.cons.injEq, and_true] at hcs
    rw [hcs] at hv ⊢
    simp only [if_true] at hz
    have hlen : (zs.take len).length = len := by rw [List.length_take]; omega
    have hblk : a.block < W.heap.size := by
      simp only [Value.okWide, ht, Cell.okWide, Cell.ok] at hv
      obtain ⟨_, _, _, _, row, cells, hs, _⟩ := hv
      unfold World.shape? at hs
      rcases Nat.lt_or_ge a.block W.heap.size with h | h
      · exact h
      · rw [Array.getElem?_eq_none h] at hs
        simp at hs
    refine ⟨false, zs.take len, ?_, by simp, fun n hn => hwf n (List.mem_of_mem_take hn), by rw [hlen]; unfold maxLen at hm; omega⟩
    rw [hlen]
    refine .vsl a (fun j => .int k (zs.getD j 0)) hblk (fun d hd => ?_) (fun j d hj => ?_) (fun j d hj => ?_) hl
    · simp only [intsK, List.mem_map] at hd
      obtain ⟨n, _, rfl⟩ := hd
      rfl
    · have hjl : j < len := by
        have := (List.getElem?_eq_some_iff.1 hj).1
        simp [intsK] at this
        omega
      exact hcell j (by omega)
    · have hjl : j < len := by
        have := (List.getElem?_eq_some_iff.1 hj).1
        simp [intsK] at this
        omega
      have : d = .int k (zs.getD j 0) := by
        simp only [intsK, List.getElem?_map, List.getElem?_take_of_lt hjl] at hj
        have hzl : j < zs.length := by omega
        rw [List.getElem?_eq_getElem hzl] at hj
        simp only [Option.map_some, Option.some.injEq] at hj
        rw [← hj, List.getD_eq_getElem?_getD, List.getElem?_eq_getElem hzl]
        rfl
      rw [this]
      exact .int _ _
end Go.Ev
