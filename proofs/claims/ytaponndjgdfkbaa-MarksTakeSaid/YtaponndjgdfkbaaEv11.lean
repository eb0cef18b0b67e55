import Derived.Test.YtaponndjgdfkbaaEv10
/-
  What a function hands back: its blocks, named anew.
-/
namespace Go.Ev

section
variable {X : Cx} {P : Program} {ok ok' : Nat → Prop} {w w' : World} {ι : Iota} {H H' : Heap}

structure PInv (n0 : Nat) (H : Heap) (seen : List Nat) (acc : Heap) : Prop where
  len : acc.length = seen.length
  at_ : ∀ (p i : Nat), seen[p]? = some i → n0 ≤ i ∧ ∃ ds, hget H i = some ds ∧ acc[p]? = some (some ds) ∧ ds.all idFree = true
  nd : seen.Nodup

def packI (n0 : Nat) (ι : Iota) (S : List Nat) : Iota := fun i => if i < n0 then ι i else (S[i - n0]?).bind ι

/-- What packing one value gives. -/
def PackOk (n0 : Nat) (H : Heap) (seen seen' : List Nat) (acc acc' : Heap) : Prop :=
  PInv n0 H seen' acc' ∧ (∃ t, seen' = seen ++ t) ∧ (∃ u, acc' = acc ++ u)

theorem hget_take_lt {n0 i : Nat} (h : i < n0) : hget (H.take n0) i = hget H i := by
  simp [hget, h]

theorem hget_pack_lt {n0 i : Nat} {A : Heap} (hn : n0 ≤ H.length) (h : i < n0) : hget (H.take n0 ++ A) i = hget H i := by
  rw [hget_join_lt (by simp; omega), hget_take_lt h]

theorem hget_pack_ge {n0 p : Nat} {A : Heap} (hn : n0 ≤ H.length) : hget (H.take n0 ++ A) (n0 + p) = hget A p := by
  have : (H.take n0).length = n0 := by simp; omega
  have h := hget_join_ge (H := H.take n0) (L := A) (i := p)
  rwa [this] at h

theorem packI_ge {n0 p : Nat} {S : List Nat} : packI n0 ι S (n0 + p) = (S[p]?).bind ι := by
  unfold packI
  rw [if_neg (by omega)]
  congr 2
  omega

theorem handle_new {n0 i : Nat} {seen S : List Nat} {acc A : Heap} (hn : n0 ≤ H.length) (hinv : PInv n0 H seen acc) (hA : PInv n0 H S A) (hpre : ∃ t, S = seen ++ [i] ++ t) :
    hget (H.take n0 ++ A) (n0 + acc.length) = hget H i ∧ packI n0 ι S (n0 + acc.length) = ι i ∧ n0 + acc.length < (H.take n0 ++ A).length := by
  obtain ⟨t, rfl⟩ := hpre
  have hS : (seen ++ [i] ++ t)[acc.length]? = some i := by
    rw [hinv.len]
    simp
  obtain ⟨_, ds, h1, h2, _⟩ := hA.at_ _ _ hS
  refine ⟨?_, ?_, ?_⟩
  · rw [hget_pack_ge hn, h1]
    simp [hget, h2]
  · rw [packI_ge, hS]
    rfl
  · have : acc.length < A.length := (List.getElem?_eq_some_iff.1 h2).1
    simp
    omega

theorem PInv.add {n0 i : Nat} {seen : List Nat} {acc : Heap} {ds : List D} (hinv : PInv n0 H seen acc) (hi : n0 ≤ i) (hd : hget H i = some ds) (hf : ds.all idFree = true) (hns : i ∉ seen) : PInv n0 H (seen ++ [i]) (acc ++ [some ds]) := by
  refine ⟨by simp [hinv.len], fun p j hp => ?_, ?_⟩
  · by_cases hlt : p < seen.length
    · rw [List.getElem?_append_left hlt] at hp
      obtain ⟨h1, es, h2, h3, h4⟩ := hinv.at_ p j hp
      exact ⟨h1, es, h2, by rw [List.getElem?_append_left (by rw [hinv.len]; exact hlt)]; exact h3, h4⟩
    · have hpe : p = seen.length := by
        have := (List.getElem?_eq_some_iff.1 hp).1
        simp at this
        omega
      subst hpe
      simp at hp
      subst hp
      exact ⟨hi, ds, hd, by rw [← hinv.len]; simp, hf⟩
  · rw [List.nodup_append]
    exact ⟨hinv.nd, by simp, by intro a ha b hb; simp at hb; subst hb; intro e; subst e; exact hns ha⟩

theorem pack1_rep (n0 : Nat) (hn : n0 ≤ H.length) : ∀ (d : D) {seen seen' : List Nat} {acc acc' : Heap} {d' : D}, PInv n0 H seen acc → pack1 n0 H seen acc d = some (d', seen', acc') →
    PackOk n0 H seen seen' acc acc' ∧ (isCell d = true → isCell d' = true) ∧ ∀ (S : List Nat) (A : Heap) (v : Value), PInv n0 H S A → (∃ t, S = seen' ++ t) → Rep ok w ι H d v → Rep ok w (packI n0 ι S) (H.take n0 ++ A) d' v
  | .osl i st off len k, seen, seen', acc, acc', d', hinv, h => by
    simp only [pack1] at h
    split at h
    · rename_i hlt
      simp only [Option.some.injEq, Prod.mk.injEq] at h
      obtain ⟨rfl, rfl, rfl⟩ := h
      refine ⟨⟨hinv, ⟨[], by simp⟩, ⟨[], by simp⟩⟩, fun _ => rfl, fun S A v hA hp hr => ?_⟩
      cases hr with
      | osl a hi hh hlc =>
        refine .osl a (by simp; omega) (fun ds hd => ?_) hlc
        rw [hget_pack_lt hn hlt] at hd
        have : packI n0 ι S i = ι i := by simp [packI, hlt]
        rw [this]
        exact hh ds hd
    · rename_i hge
      split at h
      · rename_i ds hd
        split at h
        · rename_i hcond
          simp only [Option.some.injEq, Prod.mk.injEq] at h
          obtain ⟨rfl, rfl, rfl⟩ := h
          refine ⟨⟨hinv.add (by omega) hd hcond.1 hcond.2, ⟨[i], rfl⟩, ⟨_, rfl⟩⟩, fun _ => rfl, fun S A v hA hp hr => ?_⟩
          obtain ⟨k1, k2, k3⟩ := handle_new (ι := ι) hn hinv hA hp
          cases hr with
          | osl a hi hh hlc =>
            refine .osl a k3 (fun ds hd => ?_) hlc
            rw [k1] at hd
            rw [k2]
            exact hh ds hd
        · cases h
      · cases h
  | .optr i st off, seen, seen', acc, acc', d', hinv, h => by
    simp only [pack1] at h
    split at h
    · rename_i hlt
      simp only [Option.some.injEq, Prod.mk.injEq] at h
      obtain ⟨rfl, rfl, rfl⟩ := h
      refine ⟨⟨hinv, ⟨[], by simp⟩, ⟨[], by simp⟩⟩, fun _ => rfl, fun S A v hA hp hr => ?_⟩
      cases hr with
      | optr a hi hh =>
        refine .optr a (by simp; omega) fun ds hd => ?_
        rw [hget_pack_lt hn hlt] at hd
        have : packI n0 ι S i = ι i := by simp [packI, hlt]
        rw [this]
        exact hh ds hd
    · rename_i hge
      split at h
      · rename_i ds hd
        split at h
        · rename_i hcond
          simp only [Option.some.injEq, Prod.mk.injEq] at h
          obtain ⟨rfl, rfl, rfl⟩ := h
          refine ⟨⟨hinv.add (by omega) hd hcond.1 hcond.2, ⟨[i], rfl⟩, ⟨_, rfl⟩⟩, fun _ => rfl, fun S A v hA hp hr => ?_⟩
          obtain ⟨k1, k2, k3⟩ := handle_new (ι := ι) hn hinv hA hp
          cases hr with
          | optr a hi hh =>
            refine .optr a k3 fun ds hd => ?_
            rw [k1] at hd
            rw [k2]
            exact hh ds hd
        · cases h
      · cases h
  | .agg cs, seen, seen', acc, acc', d', hinv, h => by
    simp only [pack1] at h
    cases hp : pack1.packs n0 H seen acc cs with
    | none => simp [hp] at h
    | some r =>
      obtain ⟨cs', s', a'⟩ := r
      simp only [hp, Option.map_some, Option.some.injEq, Prod.mk.injEq] at h
      obtain ⟨rfl, rfl, rfl⟩ := h
      obtain ⟨k1, k2, k3, k4⟩ := packs_rep n0 hn cs hinv hp
      refine ⟨k1, fun h => by simp [isCell] at h, fun S A v hA hp hr => ?_⟩
      cases hr with
      | agg hl hc hh => exact .agg (by rw [hl, k2]) (k4 hc) (k3 S A (fun j => (_ : Array Value).getD j undef) hA hp hh)
  | .tup cs, seen, seen', acc, acc', d', hinv, h => by
    simp only [pack1] at h
    cases hp : pack1.packs n0 H seen acc cs with
    | none => simp [hp] at h
    | some r =>
      obtain ⟨cs', s', a'⟩ := r
      simp only [hp, Option.map_some, Option.some.injEq, Prod.mk.injEq] at h
      obtain ⟨rfl, rfl, rfl⟩ := h
      obtain ⟨k1, k2, k3, k4⟩ := packs_rep n0 hn cs hinv hp
      refine ⟨k1, fun h => by simp [isCell] at h, fun S A v hA hp hr => ?_⟩
      cases hr with
      | tup hl hh => exact .tup (by rw [hl, k2]) (k3 S A (fun j => (_ : Array Value).getD j undef) hA hp hh)
  | .bool _, seen, seen', acc, acc', d', hinv, h | .int _ _, seen, seen', acc, acc', d', hinv, h | .str _, seen, seen', acc, acc', d', hinv, h | .nilp, seen, seen', acc, acc', d', hinv, h
  | .nilf, seen, seen', acc, acc', d', hinv, h | .nili, seen, seen', acc, acc', d', hinv, h | .vptr _, seen, seen', acc, acc', d', hinv, h | .vsl _ _ _, seen, seen', acc, acc', d', hinv, h
  | .fn _ _, seen, seen', acc, acc', d', hinv, h | .iface _ _, seen, seen', acc, acc', d', hinv, h => by
    simp only [pack1] at h
    split at h
    · rename_i hf
      simp only [Option.some.injEq, Prod.mk.injEq] at h
      obtain ⟨rfl, rfl, rfl⟩ := h
      exact ⟨⟨hinv, ⟨[], by simp⟩, ⟨[], by simp⟩⟩, fun h => h, fun S A v hA hp hr => hr.free hf _ _⟩
    · cases h
where packs_rep (n0 : Nat) (hn : n0 ≤ H.length) : ∀ (l : List D) {seen seen' : List Nat} {acc acc' : Heap} {l' : List D}, PInv n0 H seen acc → pack1.packs n0 H seen acc l = some (l', seen', acc') →
    PackOk n0 H seen seen' acc acc' ∧ l.length = l'.length ∧ (∀ (S : List Nat) (A : Heap) (v : Nat → Value), PInv n0 H S A → (∃ t, S = seen' ++ t) → (∀ (j : Nat) d, l[j]? = some d → Rep ok w ι H d (v j)) →
      ∀ (j : Nat) d, l'[j]? = some d → Rep ok w (packI n0 ι S) (H.take n0 ++ A) d (v j)) ∧ ((∀ d, d ∈ l → isCell d = true) → ∀ d, d ∈ l' → isCell d = true)
  | [], seen, seen', acc, acc', l', hinv, h => by
    simp only [pack1.packs, Option.some.injEq, Prod.mk.injEq] at h
    obtain ⟨rfl, rfl, rfl⟩ := h
    exact ⟨⟨hinv, ⟨[], by simp⟩, ⟨[], by simp⟩⟩, rfl, fun _ _ _ _ _ _ => by simp, fun _ => by simp⟩
  | d :: l, seen, seen', acc, acc', l', hinv, h => by
    simp only [pack1.packs] at h
    split at h
    · rename_i d1 s1 a1 h1
      split at h
      · rename_i l1 s2 a2 h2
        simp only [Option.some.injEq, Prod.mk.injEq] at h
        obtain ⟨rfl, rfl, rfl⟩ := h
        obtain ⟨⟨k1, ⟨t1, k2⟩, ⟨u1, k3⟩⟩, k4, k5⟩ := pack1_rep n0 hn d hinv h1
        obtain ⟨⟨q1, ⟨t2, q2⟩, ⟨u2, q3⟩⟩, q4, q5, q6⟩ := packs_rep n0 hn l k1 h2
        refine ⟨⟨q1, ⟨t1 ++ t2, by rw [q2, k2]; simp⟩, ⟨u1 ++ u2, by rw [q3, k3]; simp⟩⟩, by simp [q4], fun S A v hA hp hr j x hx => ?_, fun hc x hx => ?_⟩
        · cases j with
          | zero =>
            simp only [List.getElem?_cons_zero, Option.some.injEq] at hx
            subst hx
            obtain ⟨t, ht⟩ := hp
            exact k5 S A (v 0) hA ⟨t2 ++ t, by rw [ht, q2]; simp⟩ (hr 0 d rfl)
          | succ j => exact q5 S A (fun j => v (j + 1)) hA hp (fun j x hx => hr (j + 1) x (by simpa using hx)) j x (by simpa using hx)
        · rcases List.mem_cons.1 hx with rfl | hx
          · exact k4 (hc d (List.mem_cons_self ..))
          · exact q6 (fun y hy => hc y (List.mem_cons_of_mem _ hy)) x hx
      · cases h
    · cases h

/-- The state is cut to the first names, all of which speak of these alone. -/
theorem cut_evol {m : Nat} (hm : m ≤ H.length) : Evol m ok w ι H ok w ι (H.take m) :=
  ⟨rfl, rfl, rfl, Nat.le_refl _, fun _ _ _ => rfl, fun _ h => h, fun _ h _ => h, ⟨hm, by simp; omega⟩, fun i hi ds hd => ⟨ds, by rwa [hget_take_lt hi] at hd, Nat.le_refl _, fun _ => rfl⟩,
    fun i ds b s hd hb _ => by
      have hi : i < m := by
        have := hget_lt hd
        simp at this
        omega
      rw [hget_take_lt hi] at hd
      exact ⟨i, ds, s, hd, hb⟩⟩

theorem blkClosed_take {m i : Nat} {ds : List D} (h : (H.take m).all (blkClosed m) = true) (hi : i < m) (hd : hget H i = some ds) : ∀ d, d ∈ ds → closed m d = true := by
  have hl := hget_lt hd
  have hg : H[i]? = some (some ds) := by
    unfold hget at hd
    rw [List.getElem?_eq_getElem hl] at hd ⊢
    simpa using hd
  have hmem : some ds ∈ H.take m := List.mem_of_getElem? (i := i) (by rw [List.getElem?_take, if_pos hi]; exact hg)
  have := List.all_eq_true.1 h _ hmem
  simp only [blkClosed] at this
  exact List.all_eq_true.1 this

theorem cut_sim {m : Nat} (hm : m ≤ H.length) (hs : Sim X ok w ι H) (hc : (H.take m).all (blkClosed m) = true) : Sim X ok w ι (H.take m) := by
  have hlt : ∀ i ds, hget (H.take m) i = some ds → i < m ∧ hget H i = some ds := by
    intro i ds hd
    have hi : i < m := by
      have := hget_lt hd
      simp at this
      omega
    exact ⟨hi, by rwa [hget_take_lt hi] at hd⟩
  refine ⟨hs.okS, hs.glob, fun i j ds es b s s' hd he => hs.inj i j ds es b s s' (hlt i ds hd).2 (hlt j es he).2, fun i ds hd => ?_⟩
  obtain ⟨hi, hd⟩ := hlt i ds hd
  obtain ⟨b, arr, e, fr, q1, q2, q3, q4, q5, q6, q7, q8⟩ := hs.blk i ds hd
  exact ⟨b, arr, e, fr, q1, q2, q3, q4, q5, q6, q7, fun j d hj => (q8 j d hj).evol hs (cut_evol hm) (blkClosed_take hc hi hd d (mem_of_get? hj))⟩

theorem pack_rep {n0 : Nat} (hn : n0 ≤ H.length) (hs : Sim X ok w ι H) {r r' : D} {v : Value} (hr : Rep ok w ι H r v) (h : pack n0 H r = some (r', H')) :
    ∃ ι', Sim X ok w ι' H' ∧ Rep ok w ι' H' r' v ∧ Evol n0 ok w ι H ok w ι' H' ∧ (∀ i ds, n0 ≤ i → hget H' i = some ds → ds.all idFree = true) := by
  unfold pack at h
  split at h
  · rename_i r1 S A hp
    split at h
    · rename_i hc
      simp only [Option.some.injEq, Prod.mk.injEq] at h
      obtain ⟨rfl, rfl⟩ := h
      obtain ⟨⟨k1, _, _⟩, _, k3⟩ := pack1_rep (ok := ok) (w := w) (ι := ι) n0 hn r (seen := []) (acc := []) ⟨rfl, by simp, by simp⟩ hp
      have hrep := k3 S A v k1 ⟨[], by simp⟩ hr
      have hsp : ∀ i ds, hget (H.take n0 ++ A) i = some ds → (i < n0 ∧ hget H i = some ds ∧ packI n0 ι S i = ι i) ∨ (∃ p j, i = n0 + p ∧ S[p]? = some j ∧ n0 ≤ j ∧ hget H j = some ds ∧ packI n0 ι S i = ι j ∧ ds.all idFree = true) := by
        intro i ds hd
        by_cases hlt : i < n0
        · rw [hget_pack_lt hn hlt] at hd
          exact .inl ⟨hlt, hd, by simp [packI, hlt]⟩
        · obtain ⟨p, rfl⟩ : ∃ p, i = n0 + p := ⟨i - n0, by omega⟩
          rw [hget_pack_ge hn] at hd
          have hpl := hget_lt hd
          have hSp : S[p]? = some (S[p]'(by rw [← k1.len]; exact hpl)) := List.getElem?_eq_getElem _
          obtain ⟨q1, es, q2, q3, q4⟩ := k1.at_ _ _ hSp
          have : es = ds := by
            unfold hget at hd
            rw [q3] at hd
            simpa using hd
          subst this
          exact .inr ⟨p, _, rfl, hSp, q1, q2, by rw [packI_ge, hSp]; rfl, q4⟩
      have hev : Evol n0 ok w ι H ok w (packI n0 ι S) (H.take n0 ++ A) := by
        refine ⟨rfl, rfl, rfl, Nat.le_refl _, fun _ _ _ => rfl, fun _ h => h, fun _ h _ => h, ⟨hn, by simp; omega⟩, ?_, ?_⟩
        · intro i hi ds hd
          rw [hget_pack_lt hn hi] at hd
          exact ⟨ds, hd, Nat.le_refl _, fun _ => by simp [packI, hi]⟩
        · intro i ds b s hd hb _
          rcases hsp i ds hd with ⟨q1, q2, q3⟩ | ⟨p, j, _, _, _, q2, q3, _⟩
          · exact ⟨i, ds, s, q2, by rw [← q3]; exact hb⟩
          · exact ⟨j, ds, s, q2, by rw [← q3]; exact hb⟩
      refine ⟨packI n0 ι S, ⟨hs.okS, hs.glob, ?_, ?_⟩, hrep, hev, ?_⟩
      · intro i j ds es b s s' hd he hb hb'
        rcases hsp i ds hd with ⟨q1, q2, q3⟩ | ⟨p, i', rfl, q1, q1', q2, q3, _⟩ <;> rcases hsp j es he with ⟨l1, l2, l3⟩ | ⟨p', j', rfl, l1, l1', l2, l3, _⟩
        · exact hs.inj i j ds es b s s' q2 l2 (by rw [← q3]; exact hb) (by rw [← l3]; exact hb')
        · have := hs.inj i j' ds es b s s' q2 l2 (by rw [← q3]; exact hb) (by rw [← l3]; exact hb')
          omega
        · have := hs.inj i' j ds es b s s' q2 l2 (by rw [← q3]; exact hb) (by rw [← l3]; exact hb')
          omega
        · have := hs.inj i' j' ds es b s s' q2 l2 (by rw [← q3]; exact hb) (by rw [← l3]; exact hb')
          subst this
          have hp1 := (List.getElem?_eq_some_iff.1 q1)
          have hp2 := (List.getElem?_eq_some_iff.1 l1)
          obtain ⟨a1, a2⟩ := hp1
          obtain ⟨b1, b2⟩ := hp2
          have hpw := List.pairwise_iff_getElem.1 k1.nd
          rcases Nat.lt_trichotomy p p' with hlt | heq | hgt
          · exact absurd (a2.trans b2.symm) (hpw p p' a1 b1 hlt)
          · omega
          · exact absurd (b2.trans a2.symm) (hpw p' p b1 a1 hgt)
      · intro i ds hd
        rcases hsp i ds hd with ⟨q1, q2, q3⟩ | ⟨p, j, rfl, q1, q1', q2, q3, q4⟩
        · obtain ⟨b, arr, e, fr, c1, c2, c3, c4, c5, c6, c7, c8⟩ := hs.blk i ds q2
          exact ⟨b, arr, e, fr, by rw [q3]; exact c1, c2, c3, c4, c5, c6, c7, fun j d hj => (c8 j d hj).evol hs hev (blkClosed_take hc q1 q2 d (mem_of_get? hj))⟩
        · obtain ⟨b, arr, e, fr, c1, c2, c3, c4, c5, c6, c7, c8⟩ := hs.blk j ds q2
          exact ⟨b, arr, e, fr, by rw [q3]; exact c1, c2, c3, c4, c5, c6, c7, fun j d hj => (c8 j d hj).free (allFree q4 d (mem_of_get? hj)) _ _⟩
      · intro i ds hi hd
        rcases hsp i ds hd with ⟨q1, q2, q3⟩ | ⟨p, j, rfl, q1, q1', q2, q3, q4⟩
        · omega
        · exact q4
    · cases h
  · cases h

end
end Go.Ev
