import Derived.Test.YtaponndjgdfkbaaEv9
/-
  Calls: what goes in, what comes out.
-/
namespace Go.Ev

section
variable {X : Cx} {P : Program} {ok ok' : Nat → Prop} {w w' : World} {ι : Iota} {H H' : Heap}

theorem Rep.okMono {d : D} {v : Value} (h : Rep ok w ι H d v) (hm : ∀ b, ok b → ok' b) : Rep ok' w ι H d v := by
  induction h with
  | bool b => exact .bool b
  | int k n => exact .int k n
  | str s => exact .str s
  | nilp => exact .nilp
  | nilf => exact .nilf
  | nili => exact .nili
  | agg hl hc h ih => exact .agg hl hc ih
  | tup hl h ih => exact .tup hl ih
  | fn hl h ih => exact .fn hl ih
  | iface h ih => exact .iface ih
  | optr a hi h => exact .optr a hi h
  | osl a hi h hlc => exact .osl a hi h hlc
  | vptr a f ha hc hr h ih => exact .vptr a f (hm _ ha) hc hr ih
  | vnil => exact .vnil
  | vsl a f ha hc hr h hlc ih => exact .vsl a f (hm _ ha) hc hr ih hlc

/-- What has nothing of others' memory in it reads the same whatever may be read. -/
theorem Rep.vfree {d : D} {v : Value} (h : Rep ok w ι H d v) (hv : vFree d = true) (ok' : Nat → Prop) : Rep ok' w ι H d v := by
  induction h with
  | bool b => exact .bool b
  | int k n => exact .int k n
  | str s => exact .str s
  | nilp => exact .nilp
  | nilf => exact .nilf
  | nili => exact .nili
  | agg hl hc h ih =>
    simp only [vFree, vFreeL_iff] at hv
    exact .agg hl hc fun j d hj => ih j d hj (hv d (mem_of_get? hj))
  | tup hl h ih =>
    simp only [vFree, vFreeL_iff] at hv
    exact .tup hl fun j d hj => ih j d hj (hv d (mem_of_get? hj))
  | fn hl h ih =>
    simp only [vFree, vFreeL_iff] at hv
    exact .fn hl fun j d hj => ih j d hj (hv d (mem_of_get? hj))
  | iface h ih => exact .iface (ih hv)
  | optr a hi h => exact .optr a hi h
  | osl a hi h hlc => exact .osl a hi h hlc
  | vptr a f ha hc hr h ih => simp [vFree] at hv
  | vnil => exact .vnil
  | vsl a f ha hc hr h hlc ih => simp [vFree] at hv

/-- All that may be read, the run's own blocks too. -/
def okAll (ok : Nat → Prop) (ι : Iota) (H : Heap) (b : Nat) : Prop := ok b ∨ ∃ i ds s, hget H i = some ds ∧ ι i = some (b, s)

theorem allFree {ds : List D} (h : ds.all idFree = true) : ∀ d, d ∈ ds → idFree d = true := by
  intro d hd
  exact List.all_eq_true.1 h d hd

theorem freeze_rep (hs : Sim X ok w ι H) : ∀ (d : D) {d' : D} {v : Value}, Rep ok w ι H d v → freeze H d = some d' → Rep (okAll ok ι H) w iota0 [] d' v
  | .osl i st off len k, d', v, h, hf => by
    simp only [freeze] at hf
    split at hf
    · rename_i ds hd
      split at hf
      · rename_i hcond
        injection hf with hf
        subst hf
        cases h with
        | @osl _ _ _ _ _ _ _ c a hi hh hlc =>
          obtain ⟨b, s, q1, rfl, q3⟩ := (hh ds hd).2 hcond.1
          obtain ⟨b', arr, e, fr, k1, k2, k3, k4, k5, k6, k7, k8⟩ := hs.blk i ds hd
          have k1' := k1
          rw [q1] at k1
          injection k1 with k1
          injection k1 with k1 _
          subst k1
          refine .vsl _ (fun j => arr.getD (off + j) undef) (.inr ⟨i, ds, _, hd, q1⟩) (fun d hd => k7 d (List.mem_of_mem_drop (List.mem_of_mem_take hd))) (fun j d hj => ?_) (fun j d hj => ?_) hlc
          · rw [List.getElem?_take] at hj
            split at hj
            · rw [List.getElem?_drop] at hj
              have hlt : off + j < arr.size := Nat.lt_of_lt_of_le (List.getElem?_eq_some_iff.1 hj).1 k4
              rw [addr_add, cell_of_heap k3]
              simp [hlt]
            · cases hj
          · rw [List.getElem?_take] at hj
            split at hj
            · rw [List.getElem?_drop] at hj
              exact ((k8 _ d hj).free (allFree hcond.2.2 d (mem_of_get? hj)) _ _).okMono fun b hb => .inl hb
            · cases hj
      · cases hf
    · cases hf
  | .optr i st off, d', v, h, hf => by
    simp only [freeze] at hf
    split at hf
    · rename_i ds hd
      split at hf
      · rename_i hcond
        injection hf with hf
        subst hf
        cases h with
        | optr a hi hh =>
          obtain ⟨b, s, q1, rfl⟩ := (hh ds hd).2 hcond.1
          obtain ⟨b', arr, e, fr, k1, k2, k3, k4, k5, k6, k7, k8⟩ := hs.blk i ds hd
          rw [q1] at k1
          injection k1 with k1
          injection k1 with k1 _
          subst k1
          refine .vptr _ (fun j => arr.getD (off + j) undef) (.inr ⟨i, ds, _, hd, q1⟩) (fun d hd => k7 d (List.mem_of_mem_drop hd)) (fun j d hj => ?_) (fun j d hj => ?_)
          · rw [List.getElem?_drop] at hj
            have hlt : off + j < arr.size := Nat.lt_of_lt_of_le (List.getElem?_eq_some_iff.1 hj).1 k4
            rw [addr_add, cell_of_heap k3]
            simp [hlt]
          · rw [List.getElem?_drop] at hj
            exact ((k8 _ d hj).free (allFree hcond.2 d (mem_of_get? hj)) _ _).okMono fun b hb => .inl hb
      · cases hf
    · cases hf
  | .fn f caps, d', v, h, hf => by
    simp only [freeze] at hf
    cases hc : freeze.freezeL H caps with
    | none => simp [hc] at hf
    | some cs =>
      simp only [hc, Option.map_some, Option.some.injEq] at hf
      subst hf
      cases h with
      | fn hl hh =>
        obtain ⟨l1, l2⟩ := freezeL_rep hs caps (vs := fun j => (_ : Array Value).getD j undef) hh hc
        exact .fn (by rw [hl, l1]) l2
  | .agg cs, d', v, h, hf => by
    simp only [freeze] at hf
    cases hc : freeze.freezeL H cs with
    | none => simp [hc] at hf
    | some cs' =>
      simp only [hc, Option.map_some, Option.some.injEq] at hf
      subst hf
      cases h with
      | agg hl hcc hh =>
        obtain ⟨l1, l2⟩ := freezeL_rep hs cs (vs := fun j => (_ : Array Value).getD j undef) hh hc
        refine .agg (by rw [hl, l1]) ?_ l2
        intro d hd
        obtain ⟨j, hj⟩ := List.mem_iff_getElem?.1 hd
        have hr := l2 j d hj
        have hjl : j < cs.length := by rw [l1]; exact (List.getElem?_eq_some_iff.1 hj).1
        have h0 : cs[j]? = some cs[j] := List.getElem?_eq_getElem hjl
        have hone := (hh j _ h0).oneCell (hcc _ (mem_of_get? h0))
        generalize Array.getD _ j undef = x at hr hone
        cases hr <;> first | rfl | simp [Value.oneCell'] at hone
  | .tup cs, d', v, h, hf => by
    simp only [freeze] at hf
    split at hf
    · rename_i hfree; injection hf with hf; subst hf; exact (h.free hfree _ _).okMono fun b hb => .inl hb
    · cases hf
  | .iface t d, d', v, h, hf => by
    simp only [freeze] at hf
    split at hf
    · rename_i hfree; injection hf with hf; subst hf; exact (h.free hfree _ _).okMono fun b hb => .inl hb
    · cases hf
  | .bool _, d', v, h, hf | .int _ _, d', v, h, hf | .str _, d', v, h, hf | .nilp, d', v, h, hf | .nilf, d', v, h, hf | .nili, d', v, h, hf | .vptr _, d', v, h, hf | .vsl _ _ _, d', v, h, hf => by
    simp only [freeze, idFree, if_true, Option.some.injEq] at hf
    subst hf
    exact (h.free rfl _ _).okMono fun b hb => .inl hb
where freezeL_rep (hs : Sim X ok w ι H) : ∀ (l : List D) {l' : List D} {vs : Nat → Value}, (∀ (j : Nat) d, l[j]? = some d → Rep ok w ι H d (vs j)) → freeze.freezeL H l = some l' →
    l.length = l'.length ∧ ∀ (j : Nat) d, l'[j]? = some d → Rep (okAll ok ι H) w iota0 [] d (vs j)
  | [], l', vs, _, hf => by
    simp only [freeze.freezeL, Option.some.injEq] at hf
    subst hf
    simp
  | d :: l, l', vs, h, hf => by
    simp only [freeze.freezeL] at hf
    split at hf
    · rename_i d1 l1 h1 h2
      injection hf with hf
      subst hf
      obtain ⟨k1, k2⟩ := freezeL_rep hs l (vs := fun j => vs (j + 1)) (fun j x hx => h (j + 1) x (by simpa using hx)) h2
      refine ⟨by simp [k1], fun j x hx => ?_⟩
      cases j with
      | zero =>
        simp only [List.getElem?_cons_zero, Option.some.injEq] at hx
        subst hx
        exact freeze_rep hs d (h 0 d rfl) h1
      | succ j => exact k2 j x (by simpa using hx)
    · cases hf

theorem shiftL_get (n : Nat) : ∀ (l : List D) (j : Nat), (shift.shiftL n l)[j]? = (l[j]?).map (shift n)
  | [], j => by simp [shift.shiftL]
  | d :: l, 0 => by simp [shift.shiftL]
  | d :: l, j + 1 => by simp [shift.shiftL, shiftL_get n l j]
theorem shiftL_length (n : Nat) : ∀ (l : List D), (shift.shiftL n l).length = l.length
  | [] => rfl
  | d :: l => by simp [shift.shiftL, shiftL_length n l]

def joinI (n : Nat) (ι ι1 : Iota) : Iota := fun i => if i < n then ι i else ι1 (i - n)

theorem hget_join_lt {L : Heap} {i : Nat} (h : i < H.length) : hget (H ++ L) i = hget H i := by simp [hget, List.getElem?_append_left h]
theorem hget_join_ge {L : Heap} {i : Nat} : hget (H ++ L) (H.length + i) = hget L i := by
  unfold hget
  rw [List.getElem?_append_right (by omega)]
  congr 2
  omega
theorem joinI_ge {n i : Nat} {ι ι1 : Iota} : joinI n ι ι1 (n + i) = ι1 i := by
  unfold joinI
  rw [if_neg (by omega)]
  congr 1
  omega

theorem shift_cell {n : Nat} {d : D} (h : isCell d = true) : isCell (shift n d) = true := by cases d <;> first | rfl | simp [isCell] at h

theorem Rep.shift {L : Heap} {ι1 : Iota} {d : D} {v : Value} (h : Rep ok w ι1 L d v) (ι : Iota) (H : Heap) : Rep ok w (joinI H.length ι ι1) (H ++ L) (Ev.shift H.length d) v := by
  induction h with
  | bool b => exact .bool b
  | int k n => exact .int k n
  | str s => exact .str s
  | nilp => exact .nilp
  | nilf => exact .nilf
  | nili => exact .nili
  | agg hl hc h ih =>
    refine .agg (by rw [shiftL_length]; exact hl) ?_ fun j d hj => ?_
    · intro d hd
      obtain ⟨j, hj⟩ := List.mem_iff_getElem?.1 hd
      rw [shiftL_get] at hj
      simp only [Option.map_eq_some_iff] at hj
      obtain ⟨x, hx, rfl⟩ := hj
      exact shift_cell (hc x (mem_of_get? hx))
    · rw [shiftL_get] at hj
      simp only [Option.map_eq_some_iff] at hj
      obtain ⟨x, hx, rfl⟩ := hj
      exact ih j x hx
  | tup hl h ih =>
    refine .tup (by rw [shiftL_length]; exact hl) fun j d hj => ?_
    rw [shiftL_get] at hj
    simp only [Option.map_eq_some_iff] at hj
    obtain ⟨x, hx, rfl⟩ := hj
    exact ih j x hx
  | fn hl h ih =>
    refine .fn (by rw [shiftL_length]; exact hl) fun j d hj => ?_
    rw [shiftL_get] at hj
    simp only [Option.map_eq_some_iff] at hj
    obtain ⟨x, hx, rfl⟩ := hj
    exact ih j x hx
  | iface h ih => exact .iface ih
  | optr a hi h =>
    refine .optr a (by simp; omega) fun ds hd => ?_
    rw [hget_join_ge] at hd
    obtain ⟨h1, h2⟩ := h ds hd
    refine ⟨h1, fun e => ?_⟩
    obtain ⟨b, s, q1, q2⟩ := h2 e
    exact ⟨b, s, by rw [joinI_ge]; exact q1, q2⟩
  | osl a hi h hlc =>
    refine .osl a (by simp; omega) (fun ds hd => ?_) hlc
    rw [hget_join_ge] at hd
    obtain ⟨h1, h2⟩ := h ds hd
    refine ⟨h1, fun e => ?_⟩
    obtain ⟨b, s, q1, q2⟩ := h2 e
    exact ⟨b, s, by rw [joinI_ge]; exact q1, q2⟩
  | vptr a f ha hc hr h ih => exact .vptr a f ha hc hr h
  | vnil => exact .vnil
  | vsl a f ha hc hr h hlc ih => exact .vsl a f ha hc hr h hlc

/-- A call that worked in memory of its own, joined to the caller's. -/
theorem call_join {L : Heap} {ι1 : Iota} {ok2 : Nat → Prop} (hs : Sim X ok w ι H) (hw : SameS w w') (hsz : w.heap.size ≤ w'.heap.size) (hfr : ∀ b, b < w.heap.size → w'.heap[b]? = w.heap[b]?)
    (h1 : ∀ b, ok b → ok2 b) (h2 : ∀ b, ok2 b → b < w.heap.size → ok b) (h3 : ∀ b, ok2 b → b < w'.heap.size)
    (hi : ∀ i j ds es b s s', hget L i = some ds → hget L j = some es → ι1 i = some (b, s) → ι1 j = some (b, s') → i = j)
    (hL : ∀ i ds, hget L i = some ds → ∃ b arr e fr, ι1 i = some (b, arr.size) ∧ w.heap.size ≤ b ∧ ¬ ok2 b ∧ w'.heap[b]? = some (.cells arr e fr) ∧ ds.length ≤ arr.size ∧
      (∀ j, j < arr.size → ¬ (fr.1 ≤ j ∧ j < fr.2)) ∧ (∀ j, j < arr.size → (arr.getD j undef).oneCell' = true) ∧ (∀ d, d ∈ ds → isCell d = true) ∧
      (∀ (j : Nat) d, ds[j]? = some d → Rep ok2 w' iota0 [] d (arr.getD j undef))) :
    Sim X ok2 w' (joinI H.length ι ι1) (H ++ L) ∧ Evol H.length ok w ι H ok2 w' (joinI H.length ι ι1) (H ++ L) := by
  have hsp : ∀ i ds, hget (H ++ L) i = some ds → (i < H.length ∧ hget H i = some ds ∧ joinI H.length ι ι1 i = ι i) ∨ (H.length ≤ i ∧ hget L (i - H.length) = some ds ∧ joinI H.length ι ι1 i = ι1 (i - H.length)) := by
    intro i ds hd
    by_cases hlt : i < H.length
    · rw [hget_join_lt hlt] at hd
      exact .inl ⟨hlt, hd, by simp [joinI, hlt]⟩
    · obtain ⟨k, rfl⟩ : ∃ k, i = H.length + k := ⟨i - H.length, by omega⟩
      rw [hget_join_ge] at hd
      exact .inr ⟨by omega, by simpa using hd, by rw [joinI_ge]; congr 1; omega⟩
  have hev : Evol H.length ok w ι H ok2 w' (joinI H.length ι ι1) (H ++ L) := by
    refine ⟨hw.1, hw.2.1, hw.2.2, hsz, fun b hb _ => hfr b hb, h1, h2, ⟨Nat.le_refl _, by simp⟩, ?_, ?_⟩
    · intro i hlt ds hd
      rw [hget_join_lt hlt] at hd
      exact ⟨ds, hd, Nat.le_refl _, fun _ => by simp [joinI, hlt]⟩
    · intro i ds b s hd hb hlt
      rcases hsp i ds hd with ⟨k1, k2, k3⟩ | ⟨k1, k2, k3⟩
      · exact ⟨i, ds, s, k2, by rw [← k3]; exact hb⟩
      · obtain ⟨b', arr, e, fr, q1, q2, _⟩ := hL _ ds k2
        rw [k3, q1] at hb
        injection hb with hb
        injection hb with hb _
        omega
  refine ⟨⟨h3, ?_, ?_, ?_⟩, hev⟩
  · intro g cs hg
    exact (((hs.glob g cs hg).lift (ι := ι) (H := H)).evol hs hev rfl).free rfl _ _
  · intro i j ds es b s s' hd he hb hb'
    rcases hsp i ds hd with ⟨k1, k2, k3⟩ | ⟨k1, k2, k3⟩ <;> rcases hsp j es he with ⟨l1, l2, l3⟩ | ⟨l1, l2, l3⟩
    · exact hs.inj i j ds es b s s' k2 l2 (by rw [← k3]; exact hb) (by rw [← l3]; exact hb')
    · have hlt := hs.lt k2 (by rw [← k3]; exact hb)
      obtain ⟨b', arr, e, fr, q1, q2, _⟩ := hL _ es l2
      rw [l3, q1] at hb'
      injection hb' with hb'
      injection hb' with hb' _
      omega
    · have hlt := hs.lt l2 (by rw [← l3]; exact hb')
      obtain ⟨b', arr, e, fr, q1, q2, _⟩ := hL _ ds k2
      rw [k3, q1] at hb
      injection hb with hb
      injection hb with hb _
      omega
    · have := hi _ _ ds es b s s' k2 l2 (by rw [← k3]; exact hb) (by rw [← l3]; exact hb')
      omega
  · intro i ds hd
    rcases hsp i ds hd with ⟨k1, k2, k3⟩ | ⟨k1, k2, k3⟩
    · obtain ⟨b, arr, e, fr, q1, q2, q3, q4, q5, q6, q7, q8⟩ := hs.blk i ds k2
      have hlt := hs.lt k2 q1
      exact ⟨b, arr, e, fr, by rw [k3]; exact q1, fun h => q2 (h2 b h hlt), by rw [hfr b hlt]; exact q3, q4, q5, q6, q7, fun j d hj => (q8 j d hj).evol hs hev (q8 j d hj).closed⟩
    · obtain ⟨b, arr, e, fr, q1, q2, q3, q4, q5, q6, q7, q8, q9⟩ := hL _ ds k2
      exact ⟨b, arr, e, fr, by rw [k3]; exact q1, q3, q4, q5, q6, q7, q8, fun j d hj => (q9 j d hj).lift⟩

end
end Go.Ev
