import Derived.Test.YtgbahhhhfgppjaaGreatDoorC1
import Derived.Scope
import Derived.LoopN
import Derived.Shelf.Abstract
import Derived.Orders
/-
  What a function hands back: its blocks, named anew.
-/
namespace Go.Ev

section
variable {X : Cx} {P : Program} {ok ok' : Nat → Prop} {w w' : World} {ι : Iota} {H H' : Heap}

structure PInv (n0 : Nat) (H : Heap) (seen : List Nat) (acc : Heap) : Prop where
  len : acc.length = seen.length
  at_ : ∀ (p i : Nat), seen[p]? = some i → n0 ≤ i ∧ ∃ ds, hget H i = some ds ∧ acc[p]? = some (some ds) ∧ ds.all idFree = true
  nd : seen.Nodup

def packI (n0 : Nat) (ι : Iota) (S : List Nat) : Iota := fun i => if i < n0 then ι i else (S[i - n0]?).bind ι

/-- What packing one value gives. -/
def PackOk (n0 : Nat) (H : Heap) (seen seen' : List Nat) (acc acc' : Heap) : Prop :=
  PInv n0 H seen' acc' ∧ (∃ t, seen' = seen ++ t) ∧ (∃ u, acc' = acc ++ u)

theorem hget_take_lt {n0 i : Nat} (h : i < n0) : hget (H.take n0) i = hget H i := by
  simp [hget, h]

theorem hget_pack_lt {n0 i : Nat} {A : Heap} (hn : n0 ≤ H.length) (h : i < n0) : hget (H.take n0 ++ A) i = hget H i := by
  rw [hget_join_lt (by simp; omega), hget_take_lt h]

theorem hget_pack_ge {n0 p : Nat} {A : Heap} (hn : n0 ≤ H.length) : hget (H.take n0 ++ A) (n0 + p) = hget A p := by
  have : (H.take n0).length = n0 := by simp; omega
  have h := hget_join_ge (H := H.take n0) (L := A) (i := p)
  rwa [this] at h

theorem packI_ge {n0 p : Nat} {S : List Nat} : packI n0 ι S (n0 + p) = (S[p]?).bind ι := by
  unfold packI
  rw [if_neg (by omega)]
  congr 2
  omega

theorem handle_new {n0 i : Nat} {seen S : List Nat} {acc A : Heap} (hn : n0 ≤ H.length) (hinv : PInv n0 H seen acc) (hA : PInv n0 H S A) (hpre : ∃ t, S = seen ++ [i] ++ t) :
    hget (H.take n0 ++ A) (n0 + acc.length) = hget H i ∧ packI n0 ι S (n0 + acc.length) = ι i ∧ n0 + acc.length < (H.take n0 ++ A).length := by
  obtain ⟨t, rfl⟩ := hpre
  have hS : (seen ++ [i] ++ t)[acc.length]? = some i := by
    rw [hinv.len]
    simp
  obtain ⟨_, ds, h1, h2, _⟩ := hA.at_ _ _ hS
  refine ⟨?_, ?_, ?_⟩
  · rw [hget_pack_ge hn, h1]
    simp [hget, h2]
  · rw [packI_ge, hS]
    rfl
  · have : acc.length < A.length := (List.getElem?_eq_some_iff.1 h2).1
    simp
    omega

theorem PInv.add {n0 i : Nat} {seen : List Nat} {acc : Heap} {ds : List D} (hinv : PInv n0 H seen acc) (hi : n0 ≤ i) (hd : hget H i = some ds) (hf : ds.all idFree = true) (hns : i ∉ seen) : PInv n0 H (seen ++ [i]) (acc ++ [some ds]) := by
  refine ⟨by simp [hinv.len], fun p j hp => ?_, ?_⟩
  · by_cases hlt : p < seen.length
    · rw [List.getElem?_append_left hlt] at hp
      obtain ⟨h1, es, h2, h3, h4⟩ := hinv.at_ p j hp
      exact ⟨h1, es, h2, by rw [List.getElem?_append_left (by rw [hinv.len]; exact hlt)]; exact h3, h4⟩
    · have hpe : p = seen.length := by
        have := (List.getElem?_eq_some_iff.1 hp).1
        simp at this
        omega
      subst hpe
      simp at hp
      subst hp
      exact ⟨hi, ds, hd, by rw [← hinv.len]; simp, hf⟩
  · rw [List.nodup_append]
    exact ⟨hinv.nd, by simp, by intro a ha b hb; simp at hb; subst hb; intro e; subst e; exact hns ha⟩

theorem pack1_rep (n0 : Nat) (hn : n0 ≤ H.length) : ∀ (d : D) {seen seen' : List Nat} {acc acc' : Heap} {d' : D}, PInv n0 H seen acc → pack1 n0 H seen acc d = some (d', seen', acc') →
    PackOk n0 H seen seen' acc acc' ∧ (isCell d = true → isCell d' = true) ∧ ∀ (S : List Nat) (A : Heap) (v : Value), PInv n0 H S A → (∃ t, S = seen' ++ t) → Rep ok w ι H d v → Rep ok w (packI n0 ι S) (H.take n0 ++ A) d' v
  | .osl i st off len k, seen, seen', acc, acc', d', hinv, h => by
    simp only [pack1] at h
    split at h
    · rename_i hlt
      simp only [Option.some.injEq, Prod.mk.injEq] at h
      obtain ⟨rfl, rfl, rfl⟩ := h
      refine ⟨⟨hinv, ⟨[], by simp⟩, ⟨[], by simp⟩⟩, fun _ => rfl, fun S A v hA hp hr => ?_⟩
      cases hr with
      | osl a hi hh hlc =>
        refine .osl a (by simp; omega) (fun ds hd => ?_) hlc
        rw [hget_pack_lt hn hlt] at hd
        have : packI n0 ι S i = ι i := by simp [packI, hlt]
        rw [this]
        exact hh ds hd
    · rename_i hge
      split at h
      · rename_i ds hd
        split at h
        · rename_i hcond
          simp only [Option.some.injEq, Prod.mk.injEq] at h
          obtain ⟨rfl, rfl, rfl⟩ := h
          refine ⟨⟨hinv.add (by omega) hd hcond.1 hcond.2, ⟨[i], rfl⟩, ⟨_, rfl⟩⟩, fun _ => rfl, fun S A v hA hp hr => ?_⟩
          obtain ⟨k1, k2, k3⟩ := handle_new (ι := ι) hn hinv hA hp
          cases hr with
          | osl a hi hh hlc =>
            refine .osl a k3 (fun ds hd => ?_) hlc
            rw [k1] at hd
            rw [k2]
            exact hh ds hd
        · cases h
      · cases h
  | .optr i st off, seen, seen', acc, acc', d', hinv, h => by
    simp only [pack1] at h
    split at h
    · rename_i hlt
      simp only [Option.some.injEq, Prod.mk.injEq] at h
      obtain ⟨rfl, rfl, rfl⟩ := h
      refine ⟨⟨hinv, ⟨[], by simp⟩, ⟨[], by simp⟩⟩, fun _ => rfl, fun S A v hA hp hr => ?_⟩
      cases hr with
      | optr a hi hh =>
        refine .optr a (by simp; omega) fun ds hd => ?_
        rw [hget_pack_lt hn hlt] at hd
        have : packI n0 ι S i = ι i := by simp [packI, hlt]
        rw [this]
        exact hh ds hd
    · rename_i hge
      split at h
      · rename_i ds hd
        split at h
        · rename_i hcond
          simp only [Option.some.injEq, Prod.mk.injEq] at h
          obtain ⟨rfl, rfl, rfl⟩ := h
          refine ⟨⟨hinv.add (by omega) hd hcond.1 hcond.2, ⟨[i], rfl⟩, ⟨_, rfl⟩⟩, fun _ => rfl, fun S A v hA hp hr => ?_⟩
          obtain ⟨k1, k2, k3⟩ := handle_new (ι := ι) hn hinv hA hp
          cases hr with
          | optr a hi hh =>
            refine .optr a k3 fun ds hd => ?_
            rw [k1] at hd
            rw [k2]
            exact hh ds hd
        · cases h
      · cases h
  | .agg cs, seen, seen', acc, acc', d', hinv, h => by
    simp only [pack1] at h
    cases hp : pack1.packs n0 H seen acc cs with
    | none => simp [hp] at h
    | some r =>
      obtain ⟨cs', s', a'⟩ := r
      simp only [hp, Option.map_some, Option.some.injEq, Prod.mk.injEq] at h
      obtain ⟨rfl, rfl, rfl⟩ := h
      obtain ⟨k1, k2, k3, k4⟩ := packs_rep n0 hn cs hinv hp
      refine ⟨k1, fun h => by simp [isCell] at h, fun S A v hA hp hr => ?_⟩
      cases hr with
      | agg hl hc hh => exact .agg (by rw [hl, k2]) (k4 hc) (k3 S A (fun j => (_ : Array Value).getD j undef) hA hp hh)
  | .tup cs, seen, seen', acc, acc', d', hinv, h => by
    simp only [pack1] at h
    cases hp : pack1.packs n0 H seen acc cs with
    | none => simp [hp] at h
    | some r =>
      obtain ⟨cs', s', a'⟩ := r
      simp only [hp, Option.map_some, Option.some.injEq, Prod.mk.injEq] at h
      obtain ⟨rfl, rfl, rfl⟩ := h
      obtain ⟨k1, k2, k3, k4⟩ := packs_rep n0 hn cs hinv hp
      refine ⟨k1, fun h => by simp [isCell] at h, fun S A v hA hp hr => ?_⟩
      cases hr with
      | tup hl hh => exact .tup (by rw [hl, k2]) (k3 S A (fun j => (_ : Array Value).getD j undef) hA hp hh)
  | .bool _, seen, seen', acc, acc', d', hinv, h | .int _ _, seen, seen', acc, acc', d', hinv, h | .str _, seen, seen', acc, acc', d', hinv, h | .nilp, seen, seen', acc, acc', d', hinv, h
  | .nilf, seen, seen', acc, acc', d', hinv, h | .nili, seen, seen', acc, acc', d', hinv, h | .raw _, seen, seen', acc, acc', d', hinv, h | .vptr _, seen, seen', acc, acc', d', hinv, h | .vsl _ _ _, seen, seen', acc, acc', d', hinv, h
  | .fn _ _, seen, seen', acc, acc', d', hinv, h | .iface _ _, seen, seen', acc, acc', d', hinv, h => by
    simp only [pack1] at h
    split at h
    · rename_i hf
      simp only [Option.some.injEq, Prod.mk.injEq] at h
      obtain ⟨rfl, rfl, rfl⟩ := h
      exact ⟨⟨hinv, ⟨[], by simp⟩, ⟨[], by simp⟩⟩, fun h => h, fun S A v hA hp hr => hr.free hf _ _⟩
    · cases h
where packs_rep (n0 : Nat) (hn : n0 ≤ H.length) : ∀ (l : List D) {seen seen' : List Nat} {acc acc' : Heap} {l' : List D}, PInv n0 H seen acc → pack1.packs n0 H seen acc l = some (l', seen', acc') →
    PackOk n0 H seen seen' acc acc' ∧ l.length = l'.length ∧ (∀ (S : List Nat) (A : Heap) (v : Nat → Value), PInv n0 H S A → (∃ t, S = seen' ++ t) → (∀ (j : Nat) d, l[j]? = some d → Rep ok w ι H d (v j)) →
      ∀ (j : Nat) d, l'[j]? = some d → Rep ok w (packI n0 ι S) (H.take n0 ++ A) d (v j)) ∧ ((∀ d, d ∈ l → isCell d = true) → ∀ d, d ∈ l' → isCell d = true)
  | [], seen, seen', acc, acc', l', hinv, h => by
    simp only [pack1.packs, Option.some.injEq, Prod.mk.injEq] at h
    obtain ⟨rfl, rfl, rfl⟩ := h
    exact ⟨⟨hinv, ⟨[], by simp⟩, ⟨[], by simp⟩⟩, rfl, fun _ _ _ _ _ _ => by simp, fun _ => by simp⟩
  | d :: l, seen, seen', acc, acc', l', hinv, h => by
    simp only [pack1.packs] at h
    split at h
    · rename_i d1 s1 a1 h1
      split at h
      · rename_i l1 s2 a2 h2
        simp only [Option.some.injEq, Prod.mk.injEq] at h
        obtain ⟨rfl, rfl, rfl⟩ := h
        obtain ⟨⟨k1, ⟨t1, k2⟩, ⟨u1, k3⟩⟩, k4, k5⟩ := pack1_rep n0 hn d hinv h1
        obtain ⟨⟨q1, ⟨t2, q2⟩, ⟨u2, q3⟩⟩, q4, q5, q6⟩ := packs_rep n0 hn l k1 h2
        refine ⟨⟨q1, ⟨t1 ++ t2, by rw [q2, k2]; simp⟩, ⟨u1 ++ u2, by rw [q3, k3]; simp⟩⟩, by simp [q4], fun S A v hA hp hr j x hx => ?_, fun hc x hx => ?_⟩
        · cases j with
          | zero =>
            simp only [List.getElem?_cons_zero, Option.some.injEq] at hx
            subst hx
            obtain ⟨t, ht⟩ := hp
            exact k5 S A (v 0) hA ⟨t2 ++ t, by rw [ht, q2]; simp⟩ (hr 0 d rfl)
          | succ j => exact q5 S A (fun j => v (j + 1)) hA hp (fun j x hx => hr (j + 1) x (by simpa using hx)) j x (by simpa using hx)
        · rcases List.mem_cons.1 hx with rfl | hx
          · exact k4 (hc d (List.mem_cons_self ..))
          · exact q6 (fun y hy => hc y (List.mem_cons_of_mem _ hy)) x hx
      · cases h
    · cases h

/-- The state is cut to the first names, all of which speak of these alone. -/
theorem cut_evol {m : Nat} (hm : m ≤ H.length) : Evol m ok w ι H ok w ι (H.take m) :=
  ⟨rfl, rfl, rfl, Nat.le_refl _, fun _ _ _ => rfl, fun _ h => h, fun _ h _ => .inl h, ⟨hm, by simp; omega⟩, fun i hi ds hd => ⟨ds, by rwa [hget_take_lt hi] at hd, Nat.le_refl _, fun _ => rfl⟩,
    fun i ds b s hd hb _ => by
      have hi : i < m := by
        have := hget_lt hd
        simp at this
        omega
      rw [hget_take_lt hi] at hd
      exact ⟨i, ds, s, hd, hb⟩⟩

theorem blkClosed_take {m i : Nat} {ds : List D} (h : (H.take m).all (blkClosed m) = true) (hi : i < m) (hd : hget H i = some ds) : ∀ d, d ∈ ds → closed m d = true := by
  have hl := hget_lt hd
  have hg : H[i]? = some (some ds) := by
    unfold hget at hd
    rw [List.getElem?_eq_getElem hl] at hd ⊢
    simpa using hd
  have hmem : some ds ∈ H.take m := List.mem_of_getElem? (i := i) (by rw [List.getElem?_take, if_pos hi]; exact hg)
  have := List.all_eq_true.1 h _ hmem
  simp only [blkClosed] at this
  exact List.all_eq_true.1 this

theorem cut_sim {m : Nat} (hm : m ≤ H.length) (hs : Sim X ok w ι H) (hc : (H.take m).all (blkClosed m) = true) : Sim X ok w ι (H.take m) := by
  have hlt : ∀ i ds, hget (H.take m) i = some ds → i < m ∧ hget H i = some ds := by
    intro i ds hd
    have hi : i < m := by
      have := hget_lt hd
      simp at this
      omega
    exact ⟨hi, by rwa [hget_take_lt hi] at hd⟩
  refine ⟨hs.okS, hs.glob, fun i j ds es b s s' hd he => hs.inj i j ds es b s s' (hlt i ds hd).2 (hlt j es he).2, fun i ds hd => ?_⟩
  obtain ⟨hi, hd⟩ := hlt i ds hd
  obtain ⟨b, arr, e, fr, q1, q2, q3, q4, q5, q6, q7, q8⟩ := hs.blk i ds hd
  exact ⟨b, arr, e, fr, q1, q2, q3, q4, q5, q6, q7, fun j d hj => (q8 j d hj).evol hs (cut_evol hm) (blkClosed_take hc hi hd d (mem_of_get? hj))⟩

theorem pack_rep {n0 : Nat} (hn : n0 ≤ H.length) (hs : Sim X ok w ι H) {r r' : D} {v : Value} (hr : Rep ok w ι H r v) (h : pack n0 H r = some (r', H')) :
    ∃ ι', Sim X ok w ι' H' ∧ Rep ok w ι' H' r' v ∧ Evol n0 ok w ι H ok w ι' H' ∧ (∀ i ds, n0 ≤ i → hget H' i = some ds → ds.all idFree = true) := by
  unfold pack at h
  split at h
  · rename_i r1 S A hp
    split at h
    · rename_i hc
      simp only [Option.some.injEq, Prod.mk.injEq] at h
      obtain ⟨rfl, rfl⟩ := h
      obtain ⟨⟨k1, _, _⟩, _, k3⟩ := pack1_rep (ok := ok) (w := w) (ι := ι) n0 hn r (seen := []) (acc := []) ⟨rfl, by simp, by simp⟩ hp
      have hrep := k3 S A v k1 ⟨[], by simp⟩ hr
      have hsp : ∀ i ds, hget (H.take n0 ++ A) i = some ds → (i < n0 ∧ hget H i = some ds ∧ packI n0 ι S i = ι i) ∨ (∃ p j, i = n0 + p ∧ S[p]? = some j ∧ n0 ≤ j ∧ hget H j = some ds ∧ packI n0 ι S i = ι j ∧ ds.all idFree = true) := by
        intro i ds hd
        by_cases hlt : i < n0
        · rw [hget_pack_lt hn hlt] at hd
          exact .inl ⟨hlt, hd, by simp [packI, hlt]⟩
        · obtain ⟨p, rfl⟩ : ∃ p, i = n0 + p := ⟨i - n0, by omega⟩
          rw [hget_pack_ge hn] at hd
          have hpl := hget_lt hd
          have hSp : S[p]? = some (S[p]'(by rw [← k1.len]; exact hpl)) := List.getElem?_eq_getElem _
          obtain ⟨q1, es, q2, q3, q4⟩ := k1.at_ _ _ hSp
          have : es = ds := by
            unfold hget at hd
            rw [q3] at hd
            simpa using hd
          subst this
          exact .inr ⟨p, _, rfl, hSp, q1, q2, by rw [packI_ge, hSp]; rfl, q4⟩
      have hev : Evol n0 ok w ι H ok w (packI n0 ι S) (H.take n0 ++ A) := by
        refine ⟨rfl, rfl, rfl, Nat.le_refl _, fun _ _ _ => rfl, fun _ h => h, fun _ h _ => .inl h, ⟨hn, by simp; omega⟩, ?_, ?_⟩
        · intro i hi ds hd
          rw [hget_pack_lt hn hi] at hd
          exact ⟨ds, hd, Nat.le_refl _, fun _ => by simp [packI, hi]⟩
        · intro i ds b s hd hb _
          rcases hsp i ds hd with ⟨q1, q2, q3⟩ | ⟨p, j, _, _, _, q2, q3, _⟩
          · exact ⟨i, ds, s, q2, by rw [← q3]; exact hb⟩
          · exact ⟨j, ds, s, q2, by rw [← q3]; exact hb⟩
      refine ⟨packI n0 ι S, ⟨hs.okS, hs.glob, ?_, ?_⟩, hrep, hev, ?_⟩
      · intro i j ds es b s s' hd he hb hb'
        rcases hsp i ds hd with ⟨q1, q2, q3⟩ | ⟨p, i', rfl, q1, q1', q2, q3, _⟩ <;> rcases hsp j es he with ⟨l1, l2, l3⟩ | ⟨p', j', rfl, l1, l1', l2, l3, _⟩
        · exact hs.inj i j ds es b s s' q2 l2 (by rw [← q3]; exact hb) (by rw [← l3]; exact hb')
        · have := hs.inj i j' ds es b s s' q2 l2 (by rw [← q3]; exact hb) (by rw [← l3]; exact hb')
          omega
        · have := hs.inj i' j ds es b s s' q2 l2 (by rw [← q3]; exact hb) (by rw [← l3]; exact hb')
          omega
        · have := hs.inj i' j' ds es b s s' q2 l2 (by rw [← q3]; exact hb) (by rw [← l3]; exact hb')
          subst this
          have hp1 := (List.getElem?_eq_some_iff.1 q1)
          have hp2 := (List.getElem?_eq_some_iff.1 l1)
          obtain ⟨a1, a2⟩ := hp1
          obtain ⟨b1, b2⟩ := hp2
          have hpw := List.pairwise_iff_getElem.1 k1.nd
          rcases Nat.lt_trichotomy p p' with hlt | heq | hgt
          · exact absurd (a2.trans b2.symm) (hpw p p' a1 b1 hlt)
          · omega
          · exact absurd (b2.trans a2.symm) (hpw p' p b1 a1 hgt)
      · intro i ds hd
        rcases hsp i ds hd with ⟨q1, q2, q3⟩ | ⟨p, j, rfl, q1, q1', q2, q3, q4⟩
        · obtain ⟨b, arr, e, fr, c1, c2, c3, c4, c5, c6, c7, c8⟩ := hs.blk i ds q2
          exact ⟨b, arr, e, fr, by rw [q3]; exact c1, c2, c3, c4, c5, c6, c7, fun j d hj => (c8 j d hj).evol hs hev (blkClosed_take hc q1 q2 d (mem_of_get? hj))⟩
        · obtain ⟨b, arr, e, fr, c1, c2, c3, c4, c5, c6, c7, c8⟩ := hs.blk j ds q2
          exact ⟨b, arr, e, fr, by rw [q3]; exact c1, c2, c3, c4, c5, c6, c7, fun j d hj => (c8 j d hj).free (allFree q4 d (mem_of_get? hj)) _ _⟩
      · intro i ds hi hd
        rcases hsp i ds hd with ⟨q1, q2, q3⟩ | ⟨p, j, rfl, q1, q1', q2, q3, q4⟩
        · omega
        · exact q4
    · cases h
  · cases h

end
end Go.Ev
/-
  What is told by value for good.
-/
namespace Go.Ev

section
variable {X : Cx} {ok ok' : Nat → Prop} {w w' : World} {ι : Iota} {H H' : Heap}

theorem isCell_of_one {d : D} {v : Value} (h : Rep ok w ι H d v) (hone : v.oneCell' = true) : isCell d = true := by
  cases h <;> first | rfl | exact hone | simp [Value.oneCell'] at hone

theorem length_clr : ∀ (l : List Nat) (H : Heap), (clr H l).length = H.length
  | [], H => rfl
  | i :: l, H => by rw [clr, length_clr l, List.length_set]

theorem hget_clr : ∀ (l : List Nat) (H : Heap) {j : Nat} {ds : List D}, hget (clr H l) j = some ds → hget H j = some ds ∧ j ∉ l
  | [], H, j, ds, h => ⟨h, by simp⟩
  | i :: l, H, j, ds, h => by
    obtain ⟨h1, h2⟩ := hget_clr l _ h
    unfold hget at h1
    by_cases hij : i = j
    · subst hij
      rw [List.getElem?_set] at h1
      simp only [if_true] at h1
      split at h1 <;> simp at h1
    · rw [List.getElem?_set_ne hij] at h1
      exact ⟨h1, by simp only [List.mem_cons, not_or]; exact ⟨fun h => hij h.symm, h2⟩⟩

/-- What may be read, the blocks of a list too. -/
def okL (ok : Nat → Prop) (ι : Iota) (H : Heap) (l : List Nat) (b : Nat) : Prop := ok b ∨ ∃ i ds s, i ∈ l ∧ hget H i = some ds ∧ ι i = some (b, s)

theorem stayL_rep {okF : Nat → Prop} {cond : Nat → Prop} {g : D → Option (D × List Nat)}
    (hg : ∀ d d' l v, Rep ok w ι H d v → g d = some (d', l) → (∀ i, i ∈ l → cond i) → Rep okF w iota0 [] d' v) :
    ∀ (ds : List D) {ds' : List D} {l : List Nat} {vs : Nat → Value}, (∀ (j : Nat) d, ds[j]? = some d → Rep ok w ι H d (vs j)) → stayL g ds = some (ds', l) → (∀ i, i ∈ l → cond i) →
      ds.length = ds'.length ∧ ∀ (j : Nat) d, ds'[j]? = some d → Rep okF w iota0 [] d (vs j)
  | [], ds', l, vs, _, h, _ => by
    simp only [stayL, Option.some.injEq, Prod.mk.injEq] at h
    obtain ⟨rfl, rfl⟩ := h
    simp
  | d :: ds, ds', l, vs, hr, h, hl => by
    simp only [stayL] at h
    split at h
    · rename_i d1 a l1 b h1 h2
      simp only [Option.some.injEq, Prod.mk.injEq] at h
      obtain ⟨rfl, rfl⟩ := h
      obtain ⟨k1, k2⟩ := stayL_rep hg ds (vs := fun j => vs (j + 1)) (fun j x hx => hr (j + 1) x (by simpa using hx)) h2 (fun i hi => hl i (List.mem_append_right _ hi))
      refine ⟨by simp [k1], fun j x hx => ?_⟩
      cases j with
      | zero =>
        simp only [List.getElem?_cons_zero, Option.some.injEq] at hx
        subst hx
        exact hg d _ _ _ (hr 0 d rfl) h1 fun i hi => hl i (List.mem_append_left _ hi)
      | succ j => exact k2 j x (by simpa using hx)
    · cases h

theorem stay_rep (hs : Sim X ok w ι H) {okF : Nat → Prop} (hm : ∀ b, ok b → okF b) : ∀ (n : Nat) (d d' : D) (l : List Nat) (v : Value), Rep ok w ι H d v → stay H n d = some (d', l) →
    (∀ i, i ∈ l → ∀ ds b s, hget H i = some ds → ι i = some (b, s) → okF b) → Rep okF w iota0 [] d' v
  | 0, d, d', l, v, _, h, _ => by simp [stay] at h
  | n + 1, d, d', l, v, hr, h, hl => by
    have ih := stay_rep hs hm n
    have free_ : idFree d = true → d' = d → Rep okF w iota0 [] d' v := fun hf he => by subst he; exact (hr.free hf _ _).okMono hm
    simp only [stay] at h
    split at h
    · rename_i hfree
      simp only [Option.some.injEq, Prod.mk.injEq] at h
      exact free_ hfree h.1.symm
    rename_i hnfree
    clear hnfree
    cases hr with
    | bool b => simp only [Option.some.injEq, Prod.mk.injEq] at h; exact free_ rfl h.1.symm
    | int k n => simp only [Option.some.injEq, Prod.mk.injEq] at h; exact free_ rfl h.1.symm
    | str s => simp only [Option.some.injEq, Prod.mk.injEq] at h; exact free_ rfl h.1.symm
    | nilp => simp only [Option.some.injEq, Prod.mk.injEq] at h; exact free_ rfl h.1.symm
    | nilf => simp only [Option.some.injEq, Prod.mk.injEq] at h; exact free_ rfl h.1.symm
    | nili => simp only [Option.some.injEq, Prod.mk.injEq] at h; exact free_ rfl h.1.symm
    | raw v => simp only [Option.some.injEq, Prod.mk.injEq] at h; exact free_ rfl h.1.symm
    | vnil => simp only [Option.some.injEq, Prod.mk.injEq] at h; exact free_ rfl h.1.symm
    | vptr a f ha hc hr hh => simp only [Option.some.injEq, Prod.mk.injEq] at h; exact free_ rfl h.1.symm
    | vsl a f ha hc hr hh hlc => simp only [Option.some.injEq, Prod.mk.injEq] at h; exact free_ rfl h.1.symm
    | @agg _ _ cs vs hlen hc hh =>
      simp only at h
      cases hst : stayL (stay H n) cs with
      | none => simp [hst] at h
      | some q =>
        obtain ⟨cs', l'⟩ := q
        simp only [hst, Option.map_some, Option.some.injEq, Prod.mk.injEq] at h
        obtain ⟨rfl, rfl⟩ := h
        obtain ⟨k1, k2⟩ := stayL_rep (cond := fun i => ∀ ds b s, hget H i = some ds → ι i = some (b, s) → okF b) ih cs hh hst hl
        refine .agg (by rw [hlen, k1]) (fun d hd => ?_) k2
        obtain ⟨j, hj⟩ := List.mem_iff_getElem?.1 hd
        have hjl : j < cs.length := by rw [k1]; exact (List.getElem?_eq_some_iff.1 hj).1
        have h0 : cs[j]? = some cs[j] := List.getElem?_eq_getElem hjl
        exact isCell_of_one (k2 j d hj) ((hh j _ h0).oneCell (hc _ (mem_of_get? h0)))
    | @tup _ _ cs vs hlen hh =>
      simp only at h
      cases hst : stayL (stay H n) cs with
      | none => simp [hst] at h
      | some q =>
        obtain ⟨cs', l'⟩ := q
        simp only [hst, Option.map_some, Option.some.injEq, Prod.mk.injEq] at h
        obtain ⟨rfl, rfl⟩ := h
        obtain ⟨k1, k2⟩ := stayL_rep (cond := fun i => ∀ ds b s, hget H i = some ds → ι i = some (b, s) → okF b) ih cs hh hst hl
        exact .tup (by rw [hlen, k1]) k2
    | @fn _ _ f cs vs hlen hh =>
      simp only at h
      cases hst : stayL (stay H n) cs with
      | none => simp [hst] at h
      | some q =>
        obtain ⟨cs', l'⟩ := q
        simp only [hst, Option.map_some, Option.some.injEq, Prod.mk.injEq] at h
        obtain ⟨rfl, rfl⟩ := h
        obtain ⟨k1, k2⟩ := stayL_rep (cond := fun i => ∀ ds b s, hget H i = some ds → ι i = some (b, s) → okF b) ih cs hh hst hl
        exact .fn (by rw [hlen, k1]) k2
    | iface hh =>
      simp only at h
      rename_i t d v
      cases hst : stay H n d with
      | none => simp [hst] at h
      | some q =>
        obtain ⟨d1, l'⟩ := q
        simp only [hst, Option.map_some, Option.some.injEq, Prod.mk.injEq] at h
        obtain ⟨rfl, rfl⟩ := h
        exact .iface (ih d _ _ _ hh hst hl)
    | @optr _ _ i st off a hi hh =>
      simp only at h
      split at h
      · rename_i ds hd
        split at h
        · rename_i hst
          obtain ⟨b, s, q1, rfl⟩ := (hh ds hd).2 hst
          obtain ⟨b', arr, e, fr, k1, k2, k3, k4, k5, k6, k7, k8⟩ := hs.blk i ds hd
          have hq := q1
          rw [q1] at k1
          injection k1 with k1
          injection k1 with k1 _
          subst k1
          have main : ∀ ds' : List D, ds.length = ds'.length → (∀ (j : Nat) d, ds'[j]? = some d → Rep okF w iota0 [] d (arr.getD j undef)) → i ∈ l → Rep okF w iota0 [] (.vptr (ds'.drop off)) (.pointer (some ⟨b, off, none⟩)) := by
            intro ds' hlen hrep hil
            refine .vptr _ (fun j => arr.getD (off + j) undef) (fun _ _ => hl i hil ds b s hd hq) (fun d hd' => ?_) (fun j d hj => ?_) (fun j d hj => ?_)
            · obtain ⟨j, hj⟩ := List.mem_iff_getElem?.1 (List.mem_of_mem_drop hd')
              have hjl : j < ds.length := by rw [hlen]; exact (List.getElem?_eq_some_iff.1 hj).1
              exact isCell_of_one (hrep j d hj) (k6 j (by omega))
            · rw [List.getElem?_drop] at hj
              have hlt : off + j < arr.size := by have := (List.getElem?_eq_some_iff.1 hj).1; omega
              rw [addr_add, cell_of_heap k3]
              simp [hlt]
            · rw [List.getElem?_drop] at hj
              exact hrep _ d hj
          split at h
          · rename_i hfree
            simp only [Option.some.injEq, Prod.mk.injEq] at h
            obtain ⟨rfl, rfl⟩ := h
            exact main ds rfl (fun j d hj => ((k8 j d hj).free ((idFreeL_iff _).1 hfree d (mem_of_get? hj)) _ _).okMono hm) (by simp)
          · split at h
            · rename_i ds' l' hsl
              simp only [Option.some.injEq, Prod.mk.injEq] at h
              obtain ⟨rfl, rfl⟩ := h
              obtain ⟨e1, e2⟩ := stayL_rep (cond := fun i => ∀ ds b s, hget H i = some ds → ι i = some (b, s) → okF b) ih ds (vs := fun j => arr.getD j undef) k8 hsl (fun i hi => hl i (List.mem_cons_of_mem _ hi))
              exact main ds' e1 e2 (by simp)
            · cases h
        · cases h
      · cases h
    | @osl _ _ i st off len k c a hi hh hlc =>
      simp only at h
      split at h
      · rename_i ds hd
        split at h
        · rename_i hst
          obtain ⟨b, s, q1, rfl, q3⟩ := (hh ds hd).2 hst.1
          obtain ⟨b', arr, e, fr, k1, k2, k3, k4, k5, k6, k7, k8⟩ := hs.blk i ds hd
          have hq := q1
          rw [q1] at k1
          injection k1 with k1
          injection k1 with k1 _
          subst k1
          have main : ∀ ds' : List D, ds.length = ds'.length → (∀ (j : Nat) d, ds'[j]? = some d → Rep okF w iota0 [] d (arr.getD j undef)) → i ∈ l → Rep okF w iota0 [] (.vsl false ((ds'.drop off).take (len * k)) len) (.slice (some ⟨b, off, none⟩) len c) := by
            intro ds' hlen hrep hil
            refine .vsl _ (fun j => arr.getD (off + j) undef) (fun _ _ => hl i hil ds b s hd hq) (fun d hd' => ?_) (fun j d hj => ?_) (fun j d hj => ?_) hlc
            · obtain ⟨j, hj⟩ := List.mem_iff_getElem?.1 (List.mem_of_mem_drop (List.mem_of_mem_take hd'))
              have hjl : j < ds.length := by rw [hlen]; exact (List.getElem?_eq_some_iff.1 hj).1
              exact isCell_of_one (hrep j d hj) (k6 j (by omega))
            · rw [List.getElem?_take] at hj
              split at hj
              · rw [List.getElem?_drop] at hj
                have hlt : off + j < arr.size := by have := (List.getElem?_eq_some_iff.1 hj).1; omega
                rw [addr_add, cell_of_heap k3]
                simp [hlt]
              · cases hj
            · rw [List.getElem?_take] at hj
              split at hj
              · rw [List.getElem?_drop] at hj
                exact hrep _ d hj
              · cases hj
          split at h
          · rename_i hfree
            simp only [Option.some.injEq, Prod.mk.injEq] at h
            obtain ⟨rfl, rfl⟩ := h
            exact main ds rfl (fun j d hj => ((k8 j d hj).free ((idFreeL_iff _).1 hfree d (mem_of_get? hj)) _ _).okMono hm) (by simp)
          · split at h
            · rename_i ds' l' hsl
              simp only [Option.some.injEq, Prod.mk.injEq] at h
              obtain ⟨rfl, rfl⟩ := h
              obtain ⟨e1, e2⟩ := stayL_rep (cond := fun i => ∀ ds b s, hget H i = some ds → ι i = some (b, s) → okF b) ih ds (vs := fun j => arr.getD j undef) k8 hsl (fun i hi => hl i (List.mem_cons_of_mem _ hi))
              exact main ds' e1 e2 (by simp)
            · cases h
        · cases h
      · cases h

theorem clr_evol (l : List Nat) : Evol H.length ok w ι H (okL ok ι H l) w ι (clr H l) :=
  ⟨rfl, rfl, rfl, Nat.le_refl _, fun _ _ _ => rfl, fun _ h => .inl h, fun b h _ => h.imp id fun ⟨i, ds, s, _, hd, hi⟩ => ⟨i, ds, s, hd, hi⟩, ⟨Nat.le_refl _, by rw [length_clr]; exact Nat.le_refl _⟩,
    fun i _ ds hd => ⟨ds, (hget_clr l H hd).1, Nat.le_refl _, fun _ => rfl⟩, fun i ds b s hd hi _ => ⟨i, ds, s, (hget_clr l H hd).1, hi⟩⟩

theorem clr_sim (hs : Sim X ok w ι H) (l : List Nat) : Sim X (okL ok ι H l) w ι (clr H l) where
  okS b hb := by
    rcases hb with hb | ⟨i, ds, s, _, hd, hi⟩
    · exact hs.okS b hb
    · exact hs.lt hd hi
  glob g cs hg := (hs.glob g cs hg).okMono fun b hb => .inl hb
  inj i j ds es b s s' hd he hi hj := hs.inj i j ds es b s s' (hget_clr l H hd).1 (hget_clr l H he).1 hi hj
  blk i ds hd := by
    obtain ⟨h1, h2⟩ := hget_clr l H hd
    obtain ⟨b, arr, e, fr, k1, k2, k3, k4, k5, k6, k7, k8⟩ := hs.blk i ds h1
    refine ⟨b, arr, e, fr, k1, ?_, k3, k4, k5, k6, k7, fun j d hj => (k8 j d hj).evol hs (clr_evol l) (k8 j d hj).closed⟩
    rintro (hb | ⟨i', ds', s, hm, hd', hi'⟩)
    · exact k2 hb
    · have := hs.inj i' i ds' ds b s arr.size hd' h1 hi' k1
      subst this
      exact h2 hm

theorem look_append : ∀ (e' e : Env) (t : Nat), look (e' ++ e) t = (look e' t).or (look e t)
  | [], e, t => by simp [look]
  | (s, d) :: e', e, t => by
    simp only [List.cons_append, look]
    by_cases h : s = t
    · simp [h]
    · simp only [h, if_false]
      exact look_append e' e t

theorem staySlots_rep (hs : Sim X ok w ι H) {e : Env} {tmps : Array Value} (he : EnvRep ok w ι H e tmps) {okF : Nat → Prop} (hm : ∀ b, ok b → okF b) : ∀ (ss : List Nat) {e' : Env} {l : List Nat}, staySlots H e ss = some (e', l) →
    (∀ i, i ∈ l → ∀ ds b s, hget H i = some ds → ι i = some (b, s) → okF b) → EnvRep okF w iota0 [] e' tmps
  | [], e', l, h, _ => by
    simp only [staySlots, Option.some.injEq, Prod.mk.injEq] at h
    obtain ⟨rfl, rfl⟩ := h
    intro t d ht
    simp [look] at ht
  | s :: ss, e', l, h, hl => by
    simp only [staySlots] at h
    split at h
    · exact staySlots_rep hs he hm ss h hl
    · rename_i d hd
      split at h
      · rename_i d1 a e1 b h1 h2
        simp only [Option.some.injEq, Prod.mk.injEq] at h
        obtain ⟨rfl, rfl⟩ := h
        have ih := staySlots_rep hs he hm ss h2 fun i hi => hl i (List.mem_append_right _ hi)
        intro t x ht
        simp only [look] at ht
        split at ht
        · rename_i hst
          subst hst
          injection ht with ht
          subst ht
          obtain ⟨q1, q2⟩ := he _ _ hd
          exact ⟨q1, stay_rep hs hm _ _ _ _ _ q2 h1 fun i hi => hl i (List.mem_append_left _ hi)⟩
        · exact ih t x ht
      · cases h

theorem freezeE_sound {ss : List Nat} {e e' : Env} {tmps : Array Value} (h : freezeE ss e H = some (e', H')) (hs : Sim X ok w ι H) (he : EnvRep ok w ι H e tmps) :
    ∃ ok', Sim X ok' w ι H' ∧ EnvRep ok' w ι H' e' tmps ∧ Evol H.length ok w ι H ok' w ι H' := by
  unfold freezeE at h
  split at h
  · rename_i e1 l hst
    simp only [Option.some.injEq, Prod.mk.injEq] at h
    obtain ⟨rfl, rfl⟩ := h
    refine ⟨okL ok ι H l, clr_sim hs l, fun t d ht => ?_, clr_evol l⟩
    rw [look_append] at ht
    cases hx : look e1 t with
    | some x =>
      rw [hx] at ht
      simp only [Option.some_or, Option.some.injEq] at ht
      subst ht
      obtain ⟨q1, q2⟩ := staySlots_rep hs he (okF := okL ok ι H l) (fun b hb => .inl hb) ss hst (fun i hi ds b s hd hb => .inr ⟨i, ds, s, hi, hd, hb⟩) t x hx
      exact ⟨q1, q2.lift⟩
    | none =>
      rw [hx, Option.none_or] at ht
      obtain ⟨q1, q2⟩ := he t d ht
      exact ⟨q1, q2.evol hs (clr_evol l) q2.closed⟩
  · cases h

theorem valsE_get {e : Env} : ∀ {S : List Nat} {ds : List D}, valsE e S = some ds → S.length = ds.length ∧ ∀ (j : Nat) s d, S[j]? = some s → ds[j]? = some d → look e s = some d
  | [], ds, h => by
    simp only [valsE, Option.some.injEq] at h
    subst h
    simp
  | s :: ss, ds, h => by
    simp only [valsE] at h
    split at h
    · rename_i d ds' h1 h2
      injection h with h
      subst h
      obtain ⟨k1, k2⟩ := valsE_get h2
      refine ⟨by simp [k1], fun j s' d' hs hd => ?_⟩
      cases j with
      | zero =>
        simp only [List.getElem?_cons_zero, Option.some.injEq] at hs hd
        subst hs; subst hd
        exact h1
      | succ j => exact k2 j s' d' (by simpa using hs) (by simpa using hd)
    · cases h

theorem look_zipE : ∀ {S : List Nat} {ds : List D} {t : Nat} {d : D}, look (zipE S ds) t = some d → ∃ j : Nat, S[j]? = some t ∧ ds[j]? = some d
  | [], _, t, d, h => by simp [zipE, look] at h
  | _ :: _, [], t, d, h => by simp [zipE, look] at h
  | s :: S, x :: ds, t, d, h => by
    simp only [zipE, look] at h
    split at h
    · rename_i hst
      subst hst
      injection h with h
      subst h
      exact ⟨0, rfl, rfl⟩
    · obtain ⟨j, h1, h2⟩ := look_zipE h
      exact ⟨j + 1, by simpa using h1, by simpa using h2⟩

theorem look_keepE' : ∀ {ks : List Nat} {e : Env} {t : Nat} {d : D}, look (keepE ks e) t = some d → look e t = some d
  | [], e, t, d, h => by simp [keepE, look] at h
  | k :: ks, e, t, d, h => by
    simp only [keepE] at h
    split at h
    · rename_i x hk
      simp only [look] at h
      split at h
      · rename_i hkt
        subst hkt
        rw [hk]
        exact h
      · exact look_keepE' h
    · exact look_keepE' h

theorem look_envClosed' {n : Nat} : ∀ {e : Env} {t : Nat} {d : D}, envClosed n e = true → look e t = some d → closed n d = true
  | [], t, d, _, h => by simp [look] at h
  | (s, x) :: e, t, d, hc, h => by
    simp only [envClosed, Bool.and_eq_true] at hc
    simp only [look] at h
    split at h
    · injection h with h
      subst h
      exact hc.1
    · exact look_envClosed' hc.2 h

theorem retF_sound {n0 : Nat} {S ks : List Nat} {e e' : Env} {tmps : Array Value} (h : retF n0 S ks e H = some (e', H')) (hn : n0 ≤ H.length) (hs : Sim X ok w ι H) (he : EnvRep ok w ι H e tmps) :
    ∃ ι', Sim X ok w ι' H' ∧ EnvRep ok w ι' H' e' tmps ∧ Evol n0 ok w ι H ok w ι' H' := by
  unfold retF at h
  split at h
  · cases h
  · rename_i ds hv
    split at h
    · rename_i ds' H1 hp
      split at h
      · rename_i hc
        simp only [Option.some.injEq, Prod.mk.injEq] at h
        obtain ⟨rfl, rfl⟩ := h
        obtain ⟨g1, g2⟩ := valsE_get hv
        have hrep : Rep ok w ι H (.tup ds) (.tuple (S.map fun s => tmps.getD s undef).toArray) := by
          refine .tup (by simp [g1]) fun j d hj => ?_
          have hjs : j < S.length := by rw [g1]; exact (List.getElem?_eq_some_iff.1 hj).1
          have h0 : S[j]? = some S[j] := List.getElem?_eq_getElem hjs
          have := (he _ _ (g2 j _ d h0 hj)).2
          simpa [Array.getD_eq_getD_getElem?, hjs] using this
        obtain ⟨ι2, p1, p2, p3, p4⟩ := pack_rep hn hs hrep hp
        refine ⟨ι2, p1, fun t d ht => ?_, p3⟩
        rw [look_append] at ht
        cases hx : look (zipE S ds') t with
        | some x =>
          rw [hx] at ht
          simp only [Option.some_or, Option.some.injEq] at ht
          subst ht
          obtain ⟨j, q1, q2⟩ := look_zipE hx
          have hjs : j < S.length := (List.getElem?_eq_some_iff.1 q1).1
          have hjd : j < ds.length := by omega
          refine ⟨(he _ _ (g2 j t _ q1 (List.getElem?_eq_getElem hjd))).1, ?_⟩
          cases p2 with
          | tup hl hh =>
            have := hh j x q2
            have e1 : S[j] = t := by rw [List.getElem?_eq_getElem hjs] at q1; exact Option.some.inj q1
            simpa [Array.getD_eq_getD_getElem?, hjs, e1] using this
        | none =>
          rw [hx, Option.none_or] at ht
          obtain ⟨q1, q2⟩ := he t d (look_keepE' ht)
          exact ⟨q1, q2.evol hs p3 (look_envClosed' hc ht)⟩
      · cases h
    · cases h

theorem idxP_get : ∀ {p : List Nat} {i k j : Nat}, idxP p i k = some j → k ≤ j ∧ p[j - k]? = some i
  | [], i, k, j, h => by cases h
  | a :: l, i, k, j, h => by
    simp only [idxP] at h
    split at h
    · rename_i ha
      injection h with h
      subst h; subst ha
      exact ⟨Nat.le_refl _, by simp⟩
    · obtain ⟨h1, h2⟩ := idxP_get h
      refine ⟨by omega, ?_⟩
      rw [show j - k = (j - (k + 1)) + 1 by omega, List.getElem?_cons_succ]
      exact h2
theorem renL_len {p : List Nat} : ∀ {cs ds : List D}, renD.renL p cs = some ds → ds.length = cs.length
  | [], ds, h => by
    simp only [renD.renL, Option.some.injEq] at h
    subst h
    rfl
  | c :: cs, ds, h => by
    simp only [renD.renL] at h
    split at h
    · rename_i d l h1 h2
      injection h with h
      subst h
      simp [renL_len h2]
    · cases h
theorem renL_get {p : List Nat} : ∀ {cs ds : List D}, renD.renL p cs = some ds → ∀ {j : Nat} {d : D}, ds[j]? = some d → ∃ c, cs[j]? = some c ∧ renD p c = some d
  | [], ds, h, j, d, hj => by
    simp only [renD.renL, Option.some.injEq] at h
    subst h
    simp at hj
  | c :: cs, ds, h, j, d, hj => by
    simp only [renD.renL] at h
    split at h
    · rename_i d0 l h1 h2
      injection h with h
      subst h
      cases j with
      | zero =>
        simp only [List.getElem?_cons_zero, Option.some.injEq] at hj
        subst hj
        exact ⟨c, rfl, h1⟩
      | succ j => exact renL_get h2 (by simpa using hj)
    · cases h
theorem renD_cell {p : List Nat} {c d : D} (h : renD p c = some d) (hc : isCell c = true) : isCell d = true := by
  cases c <;> simp only [renD, Option.map_eq_some_iff, Option.some.injEq] at h <;> first | (simp [isCell] at hc; done) | (obtain ⟨_, _, rfl⟩ := h; rfl) | (subst h; exact hc)
theorem rep_ren {p : List Nat} {ι2 : Iota} {H2 : Heap} (hp : ∀ i j, idxP p i 0 = some j → i < H.length → j < H2.length ∧ ι2 j = ι i ∧ ∀ ds2, hget H2 j = some ds2 → ∃ ds, hget H i = some ds ∧ ds.length = ds2.length)
    {ι1 : Iota} {H1 : Heap} {d : D} {v : Value} (h : Rep ok w ι1 H1 d v) : ι1 = ι → H1 = H → ∀ d2, renD p d = some d2 → Rep ok w ι2 H2 d2 v := by
  induction h with
  | bool b => intro _ _ d2 hd; simp only [renD, Option.some.injEq] at hd; subst hd; exact .bool b
  | int k n => intro _ _ d2 hd; simp only [renD, Option.some.injEq] at hd; subst hd; exact .int k n
  | str s => intro _ _ d2 hd; simp only [renD, Option.some.injEq] at hd; subst hd; exact .str s
  | nilp => intro _ _ d2 hd; simp only [renD, Option.some.injEq] at hd; subst hd; exact .nilp
  | nilf => intro _ _ d2 hd; simp only [renD, Option.some.injEq] at hd; subst hd; exact .nilf
  | nili => intro _ _ d2 hd; simp only [renD, Option.some.injEq] at hd; subst hd; exact .nili
  | raw v => intro _ _ d2 hd; simp only [renD, Option.some.injEq] at hd; subst hd; exact .raw v
  | agg hl hc h ih =>
    intro h1 h2 d2 hd
    simp only [renD, Option.map_eq_some_iff] at hd
    obtain ⟨cs, hcs, rfl⟩ := hd
    refine .agg (by rw [hl, renL_len hcs]) (fun d hd => ?_) (fun j d hj => ?_)
    · obtain ⟨j, hj, he⟩ := List.getElem_of_mem hd
      obtain ⟨c, q1, q2⟩ := renL_get hcs (show cs[j]? = some d by rw [List.getElem?_eq_getElem hj, he])
      exact renD_cell q2 (hc c (mem_of_get? q1))
    · obtain ⟨c, q1, q2⟩ := renL_get hcs hj
      exact ih j c q1 h1 h2 d q2
  | tup hl h ih =>
    intro h1 h2 d2 hd
    simp only [renD, Option.map_eq_some_iff] at hd
    obtain ⟨cs, hcs, rfl⟩ := hd
    refine .tup (by rw [hl, renL_len hcs]) (fun j d hj => ?_)
    obtain ⟨c, q1, q2⟩ := renL_get hcs hj
    exact ih j c q1 h1 h2 d q2
  | fn hl h ih =>
    intro h1 h2 d2 hd
    simp only [renD, Option.map_eq_some_iff] at hd
    obtain ⟨cs, hcs, rfl⟩ := hd
    refine .fn (by rw [hl, renL_len hcs]) (fun j d hj => ?_)
    obtain ⟨c, q1, q2⟩ := renL_get hcs hj
    exact ih j c q1 h1 h2 d q2
  | iface h ih =>
    intro h1 h2 d2 hd
    simp only [renD, Option.map_eq_some_iff] at hd
    obtain ⟨c, hcs, rfl⟩ := hd
    exact .iface (ih h1 h2 c hcs)
  | optr a hi hk =>
    intro h1 h2 d2 hd
    subst h1; subst h2
    simp only [renD, Option.map_eq_some_iff] at hd
    obtain ⟨j, hj, rfl⟩ := hd
    obtain ⟨q1, q2, q3⟩ := hp _ j hj hi
    refine .optr a q1 fun ds2 hd2 => ?_
    obtain ⟨ds, r1, r2⟩ := q3 ds2 hd2
    obtain ⟨k1, k2⟩ := hk ds r1
    rw [r2] at k1 k2
    rw [q2]
    exact ⟨k1, k2⟩
  | osl a hi hk hlc =>
    intro h1 h2 d2 hd
    subst h1; subst h2
    simp only [renD, Option.map_eq_some_iff] at hd
    obtain ⟨j, hj, rfl⟩ := hd
    obtain ⟨q1, q2, q3⟩ := hp _ j hj hi
    refine .osl a q1 (fun ds2 hd2 => ?_) hlc
    obtain ⟨ds, r1, r2⟩ := q3 ds2 hd2
    obtain ⟨k1, k2⟩ := hk ds r1
    rw [r2] at k1 k2
    rw [q2]
    exact ⟨k1, k2⟩
  | vptr a f ha hc hr h ih => intro _ _ d2 hd; simp only [renD, Option.some.injEq] at hd; subst hd; exact .vptr a f ha hc hr h
  | vnil => intro _ _ d2 hd; simp only [renD, Option.some.injEq] at hd; subst hd; exact .vnil
  | vsl a f ha hc hr h hlc ih => intro _ _ d2 hd; simp only [renD, Option.some.injEq] at hd; subst hd; exact .vsl a f ha hc hr h hlc
theorem renH_get {p : List Nat} : ∀ {l : List Nat} {L : Heap}, renH p H l = some L → L.length = l.length ∧ ∀ {j : Nat} {ds2 : List D}, hget L j = some ds2 → ∃ i ds, l[j]? = some i ∧ hget H i = some ds ∧ renB p ds = some ds2
  | [], L, h => by
    simp only [renH, Option.some.injEq] at h
    subst h
    exact ⟨rfl, fun {j ds2} hj => by simp [hget] at hj⟩
  | i :: l, L, h => by
    simp only [renH] at h
    split at h
    · cases h
    · rename_i ds hd
      split at h
      · rename_i ds' L' h1 h2
        injection h with h
        subst h
        obtain ⟨g1, g2⟩ := renH_get h2
        refine ⟨by simp [g1], fun {j ds2} hj => ?_⟩
        cases j with
        | zero =>
          simp only [hget, List.getElem?_cons_zero, Option.getD_some, Option.some.injEq] at hj
          subst hj
          exact ⟨i, ds, rfl, hd, h1⟩
        | succ j =>
          obtain ⟨i', ds0, q1, q2, q3⟩ := g2 (j := j) (ds2 := ds2) (by simpa [hget] using hj)
          exact ⟨i', ds0, by simpa using q1, q2, q3⟩
      · cases h
theorem renH_some {p : List Nat} : ∀ {l : List Nat} {L : Heap}, renH p H l = some L → ∀ {j i : Nat}, l[j]? = some i → ∃ ds ds2, hget H i = some ds ∧ renB p ds = some ds2 ∧ hget L j = some ds2
  | [], L, h, j, i, hj => by simp at hj
  | i0 :: l, L, h, j, i, hj => by
    simp only [renH] at h
    split at h
    · cases h
    · rename_i ds hd
      split at h
      · rename_i ds' L' h1 h2
        injection h with h
        subst h
        cases j with
        | zero =>
          simp only [List.getElem?_cons_zero, Option.some.injEq] at hj
          subst hj
          exact ⟨ds, ds', hd, h1, by simp [hget]⟩
        | succ j =>
          obtain ⟨a, b, q1, q2, q3⟩ := renH_some h2 (j := j) (i := i) (by simpa using hj)
          exact ⟨a, b, q1, q2, by simpa [hget] using q3⟩
      · cases h
theorem renB_len {p : List Nat} {ds ds2 : List D} (h : renB p ds = some ds2) : ds2.length = ds.length := by
  unfold renB at h
  split at h
  · injection h with h
    rw [h]
  · exact renL_len h
theorem look_renE {p : List Nat} : ∀ {e e' : Env}, renE p e = some e' → ∀ {t : Nat} {d2 : D}, look e' t = some d2 → ∃ d, look e t = some d ∧ renV p d = some d2
  | [], e', h, t, d2, hl => by
    simp only [renE, Option.some.injEq] at h
    subst h
    simp [look] at hl
  | (s, d) :: e, e', h, t, d2, hl => by
    simp only [renE] at h
    split at h
    · rename_i d' e1 h1 h2
      injection h with h
      subst h
      simp only [look] at hl ⊢
      split at hl
      · rename_i hst
        injection hl with hl
        subst hl
        exact ⟨d, by rw [if_pos hst], h1⟩
      · rename_i hst
        obtain ⟨d0, q1, q2⟩ := look_renE h2 hl
        exact ⟨d0, by rw [if_neg hst]; exact q1, q2⟩
    · cases h
theorem upN_len : ∀ n, (upN n).length = n
  | 0 => rfl
  | n + 1 => by rw [upN, List.length_append, upN_len n]; rfl
theorem upN_get : ∀ {n i : Nat}, i < n → (upN n)[i]? = some i
  | n + 1, i, h => by
    rw [upN]
    by_cases hi : i < n
    · rw [List.getElem?_append_left (by rw [upN_len]; exact hi), upN_get hi]
    · have : i = n := by omega
      subst this
      rw [List.getElem?_append_right (by rw [upN_len]; exact Nat.le_refl _), upN_len, Nat.sub_self]
      rfl
theorem take_get {p : List Nat} {n0 i : Nat} (h : p.take n0 = upN n0) (hi : i < n0) : p[i]? = some i := by
  rw [← List.getElem?_take_of_lt hi, h, upN_get hi]
theorem take_len {p : List Nat} {n0 : Nat} (h : p.take n0 = upN n0) : n0 ≤ p.length := by
  have := congrArg List.length h
  rw [List.length_take, upN_len] at this
  omega
theorem retP_sound0 {n0 : Nat} {p : List Nat} {e e' : Env} {tmps : Array Value} (h : retP n0 p e H = some (e', H')) (hs : Sim X ok w ι H) (he : EnvRep ok w ι H e tmps) :
    Sim X ok w (fun j => ι (p.getD j 0)) H' ∧ EnvRep ok w (fun j => ι (p.getD j 0)) H' e' tmps ∧ Evol n0 ok w ι H ok w (fun j => ι (p.getD j 0)) H' := by
  unfold retP at h
  split at h
  · rename_i e1 H1 hE hH
    split at h
    · rename_i hnd0
      obtain ⟨hnd, hup⟩ := hnd0
      simp only [Option.some.injEq, Prod.mk.injEq] at h
      obtain ⟨rfl, rfl⟩ := h
      obtain ⟨hl, hg⟩ := renH_get hH
      have hp : ∀ i j, idxP p i 0 = some j → i < H.length → j < H1.length ∧ (fun j => ι (p.getD j 0)) j = ι i ∧ ∀ ds2, hget H1 j = some ds2 → ∃ ds, hget H i = some ds ∧ ds.length = ds2.length := by
        intro i j hij _
        obtain ⟨-, h1⟩ := idxP_get hij
        rw [Nat.sub_zero] at h1
        have hj := (List.getElem?_eq_some_iff.1 h1).1
        refine ⟨by rw [hl]; exact hj, ?_, fun ds2 hd2 => ?_⟩
        · show ι (p.getD j 0) = ι i
          rw [List.getD_eq_getElem?_getD, h1]
          rfl
        · obtain ⟨i', ds, q1, q2, q3⟩ := hg hd2
          rw [h1] at q1
          injection q1 with q1
          subst q1
          exact ⟨ds, q2, (renB_len q3).symm⟩
      have hB : ∀ {ds ds2 : List D} {f : Nat → Value}, renB p ds = some ds2 → (∀ (j : Nat) d, ds[j]? = some d → Rep ok w ι H d (f j)) → ∀ (j : Nat) d, ds2[j]? = some d → Rep ok w (fun j => ι (p.getD j 0)) H1 d (f j) := by
        intro ds ds2 f hr hd j d hj
        unfold renB at hr
        split at hr
        · rename_i hfree
          injection hr with hr
          subst hr
          exact (hd j d hj).free ((idFreeL_iff _).1 hfree d (mem_of_get? hj)) _ _
        · obtain ⟨c, q1, q2⟩ := renL_get hr hj
          exact rep_ren hp (hd j c q1) rfl rfl d q2
      have hC : ∀ {ds ds2 : List D}, renB p ds = some ds2 → (∀ d, d ∈ ds → isCell d = true) → ∀ d, d ∈ ds2 → isCell d = true := by
        intro ds ds2 hr hc d hd
        unfold renB at hr
        split at hr
        · injection hr with hr
          subst hr
          exact hc d hd
        · obtain ⟨j, hj, hje⟩ := List.getElem_of_mem hd
          obtain ⟨c, q1, q2⟩ := renL_get hr (show ds2[j]? = some d by rw [List.getElem?_eq_getElem hj, hje])
          exact renD_cell q2 (hc c (mem_of_get? q1))
      refine ⟨⟨hs.okS, hs.glob, ?_, ?_⟩, fun t d2 ht => ?_, ?_⟩
      · intro a b ds es blk s s' ha hb ia ib
        obtain ⟨i1, d1, q1, q2, q3⟩ := hg ha
        obtain ⟨i2, d2, r1, r2, r3⟩ := hg hb
        have e1 : p.getD a 0 = i1 := by rw [List.getD_eq_getElem?_getD, q1]; rfl
        have e2 : p.getD b 0 = i2 := by rw [List.getD_eq_getElem?_getD, r1]; rfl
        simp only [e1] at ia
        simp only [e2] at ib
        have := hs.inj i1 i2 d1 d2 blk s s' q2 r2 ia ib
        subst this
        obtain ⟨ha', hae⟩ := List.getElem?_eq_some_iff.1 q1
        obtain ⟨hb', hbe⟩ := List.getElem?_eq_some_iff.1 r1
        exact (List.getElem?_inj ha' hnd).1 (q1.trans r1.symm)
      · intro a ds2 ha
        obtain ⟨i1, d1, q1, q2, q3⟩ := hg ha
        have e1 : p.getD a 0 = i1 := by rw [List.getD_eq_getElem?_getD, q1]; rfl
        obtain ⟨b, arr, ty, fr, u1, u2, u3, u4, u5, u6, u7, u8⟩ := hs.blk i1 d1 q2
        exact ⟨b, arr, ty, fr, by show ι (p.getD a 0) = _; rw [e1]; exact u1, u2, u3, by rw [renB_len q3]; exact u4, u5, u6, hC q3 u7, hB (f := fun j => arr.getD j undef) q3 u8⟩
      · obtain ⟨d, q1, q2⟩ := look_renE hE ht
        obtain ⟨g1, g2⟩ := he t d q1
        refine ⟨g1, ?_⟩
        unfold renV at q2
        split at q2
        · rename_i hf
          injection q2 with q2
          subst q2
          exact g2.free hf _ _
        · exact rep_ren hp g2 rfl rfl d2 q2
      · refine ⟨rfl, rfl, rfl, Nat.le_refl _, fun _ _ _ => rfl, fun _ h => h, fun _ h _ => .inl h, ⟨?_, by rw [hl]; exact take_len hup⟩, fun i hi ds2 hd2 => ?_, fun j ds2 b s hd hi hb => ?_⟩
        · rcases Nat.eq_zero_or_pos n0 with rfl | hpos
          · exact Nat.zero_le _
          · obtain ⟨ds, _, q1, _⟩ := renH_some hH (take_get hup (show n0 - 1 < n0 by omega))
            have := hget_lt q1
            omega
        · obtain ⟨i1, ds, q1, q2, q3⟩ := hg hd2
          rw [take_get hup hi] at q1
          injection q1 with q1
          subst q1
          refine ⟨ds, q2, Nat.le_of_eq (renB_len q3).symm, fun _ => ?_⟩
          show ι (p.getD i 0) = ι i
          rw [List.getD_eq_getElem?_getD, take_get hup hi]
          rfl
        obtain ⟨i1, d1, q1, q2, q3⟩ := hg hd
        have e1 : p.getD j 0 = i1 := by rw [List.getD_eq_getElem?_getD, q1]; rfl
        simp only [e1] at hi
        exact ⟨i1, d1, s, q2, hi⟩
    · cases h
  · cases h
theorem look_zip {S : List Nat} {ds : List D} {e : Env} (hv : valsE e S = some ds) : ∀ {t : Nat} {d : D}, look (zipE S ds) t = some d → look e t = some d := by
  induction S generalizing ds with
  | nil =>
    intro t d h
    simp only [valsE, Option.some.injEq] at hv
    subst hv
    simp [zipE, look] at h
  | cons s S ih =>
    intro t d h
    simp only [valsE] at hv
    split at hv
    · rename_i d0 ds0 h1 h2
      injection hv with hv
      subst hv
      simp only [zipE, look] at h
      split at h
      · rename_i hst
        injection h with h
        subst h
        rw [← hst]
        exact h1
      · exact ih h2 h
    · cases hv
theorem retP_sound {n0 : Nat} {p : List Nat} {e e' : Env} {tmps : Array Value} (h : retP n0 p e H = some (e', H')) (hs : Sim X ok w ι H) (he : EnvRep ok w ι H e tmps) :
    ∃ ι', Sim X ok w ι' H' ∧ EnvRep ok w ι' H' e' tmps ∧ Evol n0 ok w ι H ok w ι' H' := ⟨_, retP_sound0 h hs he⟩
theorem packA_rep {n0 : Nat} (hn : n0 ≤ H.length) (hs : Sim X ok w ι H) {r r' : D} {v : Value} (hr : Rep ok w ι H r v) (h : packA n0 H r = some (r', H')) :
    ∃ ι', Sim X ok w ι' H' ∧ Rep ok w ι' H' r' v ∧ Evol n0 ok w ι H ok w ι' H' ∧ (∀ i ds, n0 ≤ i → hget H' i = some ds → ds.all idFree = true) := by
  unfold packA at h
  cases hq0 : pack n0 H r with
  | some q =>
    rw [hq0, orP_some] at h
    injection h with h
    subst h
    exact pack_rep hn hs hr hq0
  | none =>
    rw [hq0, orP_none] at h
    unfold packN at h
    split at h
    · rename_i t r1 H1 hq
      split at h
      · rename_i hall
        simp only [Option.some.injEq, Prod.mk.injEq] at h
        obtain ⟨rfl, rfl⟩ := h
        have he : EnvRep ok w ι H [(0, r)] #[v] := fun t d ht => by
          simp only [look] at ht
          split at ht
          · rename_i h0
            injection ht with ht
            subst ht; subst h0
            exact ⟨by simp, hr⟩
          · cases ht
        obtain ⟨ι', s1, s2, s3⟩ := retP_sound hq hs he
        have ht : t = 0 := by
          unfold retP at hq
          split at hq
          · rename_i e1 H2 hE hH
            split at hq
            · simp only [Option.some.injEq, Prod.mk.injEq] at hq
              obtain ⟨rfl, rfl⟩ := hq
              simp only [renE] at hE
              split at hE
              · rename_i d2 e2 g1 g2
                simp only [Option.some.injEq, List.cons.injEq, Prod.mk.injEq] at hE
                exact hE.1.1.symm
              · cases hE
            · cases hq
          · cases hq
        subst ht
        refine ⟨ι', s1, (s2 0 r1 (by simp [look])).2, s3, fun i ds hi hd => ?_⟩
        have hm : some ds ∈ H1.drop n0 := by
          have hlt := hget_lt hd
          rw [List.mem_iff_getElem?]
          refine ⟨i - n0, ?_⟩
          rw [List.getElem?_drop, show n0 + (i - n0) = i by omega]
          unfold hget at hd
          rw [List.getElem?_eq_getElem hlt] at hd ⊢
          simpa using hd
        have := List.all_eq_true.1 hall _ hm
        simpa [blkFree] using this
      · cases h
    · cases h
theorem packR_rep {z : Bool} {n0 : Nat} (hn : n0 ≤ H.length) (hs : Sim X ok w ι H) {r r' : D} {v : Value} (hr : Rep ok w ι H r v) (h : packR z n0 H r = some (r', H')) :
    ∃ ok' ι', Sim X ok' w ι' H' ∧ Rep ok' w ι' H' r' v ∧ Evol n0 ok w ι H ok' w ι' H' ∧ ∀ i ds, n0 ≤ i → hget H' i = some ds → ds.all idFree = true := by
  cases z with
  | false =>
    simp only [packR] at h
    obtain ⟨ι2, p1, p2, p3, p4⟩ := packA_rep hn hs hr h
    exact ⟨ok, ι2, p1, p2, p3, p4⟩
  | true =>
    simp only [packR] at h
    split at h
    · rename_i r1 l hst
      have h1 := stay_rep hs (okF := okL ok ι H l) (fun b hb => .inl hb) _ _ _ _ _ hr hst (fun i hi ds b s hd hb => .inr ⟨i, ds, s, hi, hd, hb⟩)
      obtain ⟨ι2, p1, p2, p3, p4⟩ := packA_rep (by rw [length_clr]; exact hn) (clr_sim hs l) (h1.lift (ι := ι) (H := clr H l)) h
      exact ⟨_, ι2, p1, p2, ((clr_evol l).mono hn).trans p3, p4⟩
    · cases h
theorem retE_sound {n0 : Nat} {S ks : List Nat} {e e' : Env} {tmps : Array Value} (h : retE n0 S ks e H = some (e', H')) (hn : n0 ≤ H.length) (hs : Sim X ok w ι H) (he : EnvRep ok w ι H e tmps) :
    ∃ ι', Sim X ok w ι' H' ∧ EnvRep ok w ι' H' e' tmps ∧ Evol n0 ok w ι H ok w ι' H' := by
  unfold retE at h
  split at h
  · rename_i r hr
    injection h with h
    subst h
    exact retF_sound hr hn hs he
  · unfold retN at h
    split at h
    · rename_i ds hv
      refine retP_sound h hs fun t d ht => ?_
      rw [look_append] at ht
      cases hx : look (zipE S ds) t with
      | some x =>
        rw [hx] at ht
        injection ht with ht
        subst ht
        exact he t _ (look_zip hv hx)
      | none =>
        rw [hx] at ht
        exact he t d (look_keepE' ht)
    · cases h

end
end Go.Ev
/-
  Operations, regions, code, functions: what the evaluator says is what the program does.
-/
namespace Go.Ev

section
variable {X : Cx} {ok ok' : Nat → Prop} {w w' : World} {ι : Iota} {H H' : Heap}

/-- What a step of the run comes to. -/
def Goes (P : Program) (s : Sem Next) (w : World) (R : Value → World → Prop) : Prop :=
  match s.run P w with
  | .ok (.value v) w' => R v w'
  | .ok .skip w' => R undef w'
  | .ok (.enter f args) w' => Calls P f args w' fun e w'' => ∃ v, e = .returned v ∧ R v w''
  | _ => False

theorem Goes.value {P : Program} {s : Sem Next} {v : Value} {R : Value → World → Prop} (h : s.run P w = .ok (.value v) w') (hr : R v w') : Goes P s w R := by
  unfold Goes; rw [h]; exact hr
theorem Goes.skip {P : Program} {s : Sem Next} {R : Value → World → Prop} (h : s.run P w = .ok .skip w') (hr : R undef w') : Goes P s w R := by
  unfold Goes; rw [h]; exact hr
theorem Goes.mono {P : Program} {s : Sem Next} {R R' : Value → World → Prop} (h : Goes P s w R) (hr : ∀ v w', R v w' → R' v w') : Goes P s w R' := by
  unfold Goes at *
  split at h
  · exact hr _ _ h
  · exact hr _ _ h
  · exact h.mono fun e w'' ⟨v, h1, h2⟩ => ⟨v, h1, hr _ _ h2⟩
  · exact h.elim

theorem Goes.upon {P : Program} {o : Oper} {a : Act} {s : Sem Next} {next : Act → World → Prop} {Q : Exit → Act → World → Prop} (h : Goes P s w fun v w' => next (a.put o.dst v) w') : o.upon P a next Q (s.run P w) := by
  unfold Goes at h
  split at h
  · rename_i v w' hr; rw [hr]; exact h
  · rename_i w' hr; rw [hr]; exact h
  · rename_i f args w' hr
    rw [hr]
    simp only [Oper.upon]
    exact h.mono fun e w'' ⟨v, h1, h2⟩ => by subst h1; exact h2
  · exact h.elim

/-- What a call leaves. -/
def CallPost (X : Cx) (ok : Nat → Prop) (w : World) (ι : Iota) (H : Heap) (r : D) (H' : Heap) (v : Value) (w' : World) : Prop :=
  ∃ ι' ok', Sim X ok' w' ι' H' ∧ Rep ok' w' ι' H' r v ∧ Evol H.length ok w ι H ok' w' ι' H' ∧ ∀ i ds, H.length ≤ i → hget H' i = some ds → ds.all idFree = true

/-- What a call leaves; a function of 'gr' may leave names in what it made. -/
def CallPostG (X : Cx) (g : Bool) (ok : Nat → Prop) (w : World) (ι : Iota) (H : Heap) (r : D) (H' : Heap) (v : Value) (w' : World) : Prop :=
  ∃ ι' ok', Sim X ok' w' ι' H' ∧ Rep ok' w' ι' H' r v ∧ Evol H.length ok w ι H ok' w' ι' H' ∧ (g = false → ∀ i ds, H.length ≤ i → hget H' i = some ds → ds.all idFree = true)
theorem CallPost.g {ok : Nat → Prop} {w : World} {ι : Iota} {H H' : Heap} {r : D} {v : Value} {w' : World} (h : CallPost X ok w ι H r H' v w') (g : Bool) : CallPostG X g ok w ι H r H' v w' := by
  obtain ⟨ι', ok', h1, h2, h3, h4⟩ := h
  exact ⟨ι', ok', h1, h2, h3, fun _ => h4⟩
def SoundF (X : Cx) (F : CallF) : Prop :=
  ∀ (f : Nat) (args : List D) (H : Heap) (r : D) (H' : Heap) (ok : Nat → Prop) (w : World) (ι : Iota) (vs : List Value), F f args H = some (r, H') → Sim X ok w ι H → RepL ok w ι H args vs →
    Goes X.P (callFunc f vs.toArray) w (CallPostG X (X.gr f && X.byRef f) ok w ι H r H')

structure Good (X : Cx) : Prop where
  mixed : X.P.follows .mixedOrders = true
  okc : ∀ (f : Nat) (fn : Func) (c : Code), X.P.funcs[f]? = some fn → fn.body = some c → X.bad f = false → okCode X f c = true
  ng : ∀ (f : Nat) (fn : Func), X.P.funcs[f]? = some fn → (fn.name == "runtime.NumGoroutine") = false
  ext : ∀ (f : Nat) (fn : Func) (args : List D) (d : D), X.P.funcs[f]? = some fn → fn.body = none → X.ext f args = some d →
    ∀ (ok : Nat → Prop) (w : World) (ι : Iota) (H : Heap) (vs : List Value), Sim X ok w ι H → RepL ok w ι H args vs → ∃ v, (callFunc f vs.toArray).run X.P w = .ok (.value v) w ∧ Rep ok w ι H d v ∧ idFree d = true
  con : ∀ (f : Nat) (args : List D) (H : Heap) (r : D) (H' : Heap), X.con f args H = some (r, H') → ∀ (ok : Nat → Prop) (w : World) (ι : Iota) (vs : List Value), Sim X ok w ι H → RepL ok w ι H args vs →
    Goes X.P (callFunc f vs.toArray) w (CallPost X ok w ι H r H')

theorem sim_alone (hs : Sim X ok w ι H) : Sim X ok w iota0 [] :=
  ⟨hs.okS, hs.glob, fun i j ds es b s s' hd => by simp [hget] at hd, fun i ds hd => by simp [hget] at hd⟩

theorem sim_all (hs : Sim X ok w ι H) : Sim X (okAll ok ι H) w iota0 [] :=
  ⟨fun b hb => by
      rcases hb with hb | ⟨i, ds, s, hd, hi⟩
      · exact hs.okS b hb
      · exact hs.lt hd hi, fun g cs hg => (hs.glob g cs hg).okMono fun b hb => .inl hb, fun i j ds es b s s' hd => by simp [hget] at hd, fun i ds hd => by simp [hget] at hd⟩

theorem noZL_iff (l : List D) : noZ.noZL l = true ↔ ∀ d, d ∈ l → noZ d = true := by
  induction l with
  | nil => simp [noZ.noZL]
  | cons d l ih => simp [noZ.noZL, ih]
theorem shiftL_map (n : Nat) (l : List D) : shift.shiftL n l = l.map (shift n) := by
  induction l with
  | nil => rfl
  | cons d l ih => simp [shift.shiftL, ih]
theorem isCell_shift (n : Nat) (d : D) : isCell (shift n d) = isCell d := by cases d <;> rfl
/-- A value reads the same by other names. -/
theorem Rep.moved {m : Nat} {ι1 ι2 : Iota} {H1 H2 : Heap} (hm : ∀ k, 1 ≤ k → k < H1.length → m + k < H2.length ∧ hget H2 (m + k) = hget H1 k ∧ ι2 (m + k) = ι1 k) {d : D} {v : Value} (h : Rep ok w ι1 H1 d v) (hz : noZ d = true) : Rep ok w ι2 H2 (Ev.shift m d) v := by
  induction h with
  | bool b => exact .bool b
  | int k n => exact .int k n
  | str s => exact .str s
  | nilp => exact .nilp
  | nilf => exact .nilf
  | nili => exact .nili
  | raw v => exact .raw v
  | agg hl hc h ih =>
    simp only [noZ, noZL_iff] at hz
    simp only [Ev.shift, shiftL_map]
    refine .agg (by simpa using hl) (fun d hd => ?_) fun j d hj => ?_
    · obtain ⟨d', hd', rfl⟩ := List.mem_map.1 hd
      rw [isCell_shift]; exact hc d' hd'
    · rw [List.getElem?_map, Option.map_eq_some_iff] at hj
      obtain ⟨d', hd', rfl⟩ := hj
      exact ih j d' hd' hm (hz d' (mem_of_get? hd'))
  | tup hl h ih =>
    simp only [noZ, noZL_iff] at hz
    simp only [Ev.shift, shiftL_map]
    refine .tup (by simpa using hl) fun j d hj => ?_
    rw [List.getElem?_map, Option.map_eq_some_iff] at hj
    obtain ⟨d', hd', rfl⟩ := hj
    exact ih j d' hd' hm (hz d' (mem_of_get? hd'))
  | fn hl h ih =>
    simp only [noZ, noZL_iff] at hz
    simp only [Ev.shift, shiftL_map]
    refine .fn (by simpa using hl) fun j d hj => ?_
    rw [List.getElem?_map, Option.map_eq_some_iff] at hj
    obtain ⟨d', hd', rfl⟩ := hj
    exact ih j d' hd' hm (hz d' (mem_of_get? hd'))
  | iface h ih => exact .iface (ih hm (by simpa [noZ] using hz))
  | optr a hi h =>
    simp only [noZ, decide_eq_true_eq] at hz
    obtain ⟨m1, m2, m3⟩ := hm _ hz hi
    refine .optr a m1 fun ds hd => ?_
    rw [m2] at hd
    rw [m3]
    exact h ds hd
  | osl a hi h hlc =>
    simp only [noZ, decide_eq_true_eq] at hz
    obtain ⟨m1, m2, m3⟩ := hm _ hz hi
    refine .osl a m1 (fun ds hd => ?_) hlc
    rw [m2] at hd
    rw [m3]
    exact h ds hd
  | vptr a f ha hc hr h _ => exact .vptr a f ha hc hr h
  | vnil => exact .vnil
  | vsl a f ha hc hr h hlc _ => exact .vsl a f ha hc hr h hlc

/-- A call on one block alone. -/
theorem callL_sound {F : CallF} (hF : SoundF X F) {f : Nat} (hgr : (X.gr f && X.byRef f) = false) {args : List D} {r : D} {vs : List Value} (h : callL F f args H = some (r, H')) (hs : Sim X ok w ι H) (hv : RepL ok w ι H args vs) :
    Goes X.P (callFunc f vs.toArray) w (Post X H.length ok w ι H r H') := by
  unfold callL at h
  split at h
  · rename_i i st off rest
    split at h
    · rename_i ds hd
      split at h
      · rename_i hfree
        rw [Bool.and_eq_true] at hfree
        split at h
        · rename_i r0 ds' L hc
          split at h
          · rename_i hok
            rw [Bool.and_eq_true] at hok
            injection h with h
            injection h with h1 h2
            subst h1; subst h2
            have hlt : i < H.length := hget_lt hd
            let ι1 : Iota := fun k => if k = 0 then ι i else none
            have hg0 : ∀ k es, hget [some ds] k = some es → k = 0 ∧ es = ds := by
              intro k es hk
              cases k with
              | zero => simp [hget] at hk; exact ⟨rfl, hk.symm⟩
              | succ k => simp [hget] at hk
            have hs1 : Sim X ok w ι1 [some ds] := by
              refine ⟨hs.okS, hs.glob, fun a b es es' c s s' ha hb _ _ => by rw [(hg0 a es ha).1, (hg0 b es' hb).1], fun k es hk => ?_⟩
              obtain ⟨rfl, rfl⟩ := hg0 k es hk
              obtain ⟨b, arr, e, fr, q1, q2, q3, q4, q5, q6, q7, q8⟩ := hs.blk i es hd
              exact ⟨b, arr, e, fr, q1, q2, q3, q4, q5, q6, q7, fun j d hj => (q8 j d hj).free (allFree hfree.2 d (mem_of_get? hj)) _ _⟩
            have hv1 : RepL ok w ι1 [some ds] (.optr 0 st off :: rest) vs := by
              refine ⟨by simpa using hv.1, fun j d hj => ?_⟩
              cases j with
              | zero =>
                simp only [List.getElem?_cons_zero, Option.some.injEq] at hj
                subst hj
                have h0 := hv.2 0 (.optr i st off) rfl
                generalize vs.getD 0 undef = v0 at h0 ⊢
                cases h0 with
                | optr a hi hk =>
                  refine .optr a (by simp) fun es he => ?_
                  obtain ⟨_, rfl⟩ := hg0 0 es he
                  exact hk es hd
              | succ j =>
                have := hv.2 (j + 1) d (by simpa using hj)
                exact this.free (allFree hfree.1 d (mem_of_get? (by simpa using hj))) _ _
            refine (hF f _ _ _ _ ok w ι1 vs hc hs1 hv1).mono fun v w' hp => ?_
            obtain ⟨ι', ok', k1, k2, k3, k4⟩ := hp
            replace k4 := k4 hgr
            have hfr : ∀ b, b < w.heap.size → (∀ s, ι i ≠ some (b, s)) → w'.heap[b]? = w.heap[b]? := fun b hb hno => k3.frame b hb fun k es s hk hi => by
              obtain ⟨rfl, _⟩ := hg0 k es hk
              exact hno s hi
            have hown : ∀ k es b s, hget (some ds' :: L) k = some es → ι' k = some (b, s) → b < w.heap.size → ∃ s', ι i = some (b, s') := fun k es b s hk hb hlt' => by
              obtain ⟨j, es', s', hj, hi⟩ := k3.own k es b s hk hb hlt'
              obtain ⟨rfl, _⟩ := hg0 j es' hj
              exact ⟨s', hi⟩
            have hokN : ∀ b, ok' b → b < w.heap.size → ok b ∨ ∃ s, ι i = some (b, s) := fun b hb hlt' => by
              rcases k3.okN b hb hlt' with h | ⟨k, es, s, hk, hi⟩
              · exact .inl h
              · obtain ⟨rfl, _⟩ := hg0 k es hk
                exact .inr ⟨s, hi⟩
            let n := H.length
            let ι2 : Iota := fun j => if j = i then ι' 0 else if j < n then ι j else ι' (j - n + 1)
            have hn : (hset H i ds').length = n := by simp [hset, n]
            have hH : ∀ j es, hget (hset H i ds' ++ L) j = some es → (j = i ∧ es = ds' ∧ ι2 j = ι' 0) ∨ (j ≠ i ∧ j < n ∧ hget H j = some es ∧ ι2 j = ι j) ∨ (n ≤ j ∧ hget (some ds' :: L) (j - n + 1) = some es ∧ ι2 j = ι' (j - n + 1)) := by
              intro j es hj
              by_cases hjn : j < n
              · rw [hget_join_lt (by rw [hn]; exact hjn)] at hj
                by_cases hji : j = i
                · subst hji
                  refine .inl ⟨rfl, ?_, by simp [ι2]⟩
                  simp only [hget, hset] at hj
                  rw [List.getElem?_set_self hlt] at hj
                  simpa using hj.symm
                · refine .inr (.inl ⟨hji, hjn, ?_, by simp [ι2, hji, hjn]⟩)
                  simp only [hget, hset] at hj ⊢
                  rwa [List.getElem?_set_ne (Ne.symm hji)] at hj
              · obtain ⟨k, rfl⟩ : ∃ k, j = n + k := ⟨j - n, by omega⟩
                have hj' : hget (hset H i ds' ++ L) ((hset H i ds').length + k) = some es := by rw [hn]; exact hj
                rw [hget_join_ge] at hj'
                have hne : n + k ≠ i := by omega
                have e1 : n + k - n + 1 = k + 1 := by omega
                refine .inr (.inr ⟨by omega, ?_, ?_⟩)
                · rw [e1]
                  simpa [hget] using hj'
                · show (if n + k = i then ι' 0 else if n + k < n then ι (n + k) else ι' (n + k - n + 1)) = _
                  rw [if_neg hne, if_neg hjn]
            have hev : Evol n ok w ι H ok' w' ι2 (hset H i ds' ++ L) := by
              refine ⟨k3.os, k3.tape, k3.output, k3.size, fun b hb hno => hfr b hb fun s => hno i ds s hd, k3.okU, fun b hb hlt' => ?_, ⟨Nat.le_refl _, by rw [List.length_append, hn]; omega⟩, ?_, ?_⟩
              · rcases hokN b hb hlt' with h | ⟨s, hi⟩
                · exact .inl h
                · exact .inr ⟨i, ds, s, hd, hi⟩
              · intro j hjn es hj
                rcases hH j es hj with ⟨rfl, rfl, e⟩ | ⟨_, _, q, e⟩ | ⟨q, _, _⟩
                · obtain ⟨ds2, hd2, hle, hi2⟩ := k3.heap 0 (by simp) es rfl
                  obtain ⟨_, rfl⟩ := hg0 0 ds2 hd2
                  exact ⟨ds2, hd, hle, fun hl => by rw [e, hi2 hl]; rfl⟩
                · exact ⟨es, q, Nat.le_refl _, fun _ => e⟩
                · omega
              · intro j es b s hj hb hlt'
                rcases hH j es hj with ⟨rfl, rfl, e⟩ | ⟨_, _, q, e⟩ | ⟨q, hk, e⟩
                · rw [e] at hb
                  obtain ⟨s', hi⟩ := hown 0 es b s rfl hb hlt'
                  exact ⟨j, ds, s', hd, hi⟩
                · rw [e] at hb
                  exact ⟨j, es, s, q, hb⟩
                · rw [e] at hb
                  obtain ⟨s', hi⟩ := hown _ es b s hk hb hlt'
                  exact ⟨i, ds, s', hd, hi⟩
            have hsep : ∀ j es b s, j ≠ i → hget H j = some es → ι j = some (b, s) → b < w.heap.size ∧ ∀ s', ι i ≠ some (b, s') := fun j es b s hji hj hb => ⟨hs.lt hj hb, fun s' hi => hji (hs.inj j i es ds b s s' hj hd hb hi)⟩
            have hs2 : Sim X ok' w' ι2 (hset H i ds' ++ L) := by
              refine ⟨k1.okS, k1.glob, ?_, ?_⟩
              · intro a c es es' b s s' ha hc hb hb'
                have cross : ∀ {j es b s k es' s'}, j ≠ i → j < n → hget H j = some es → ι j = some (b, s) → hget (some ds' :: L) k = some es' → ι' k = some (b, s') → False := by
                  intro j es b s k es' s' hji _ hj hb hk hb'
                  obtain ⟨q1, q2⟩ := hsep j es b s hji hj hb
                  obtain ⟨s2, hi⟩ := hown k es' b s' hk hb' q1
                  exact q2 s2 hi
                rcases hH a es ha with ⟨a1, rfl, ea⟩ | ⟨a1, a2, qa, ea⟩ | ⟨a1, qa, ea⟩ <;> rcases hH c es' hc with ⟨c1, rfl, ec⟩ | ⟨c1, c2, qc, ec⟩ | ⟨c1, qc, ec⟩ <;> rw [ea] at hb <;> rw [ec] at hb'
                · rw [a1, c1]
                · exact (cross c1 c2 qc hb' (k := 0) rfl hb).elim
                · have := k1.inj 0 _ _ _ b s s' rfl qc hb hb'
                  omega
                · exact (cross a1 a2 qa hb (k := 0) rfl hb').elim
                · exact hs.inj a c es es' b s s' qa qc hb hb'
                · exact (cross a1 a2 qa hb qc hb').elim
                · have := k1.inj _ 0 _ _ b s s' qa rfl hb hb'
                  omega
                · exact (cross c1 c2 qc hb' qa hb).elim
                · have := k1.inj _ _ _ _ b s s' qa qc hb hb'
                  omega
              · intro j es hj
                rcases hH j es hj with ⟨rfl, rfl, e⟩ | ⟨j1, j2, qj, e⟩ | ⟨j1, qj, e⟩
                · obtain ⟨b, arr, e1, fr, q1, q2, q3, q4, q5, q6, q7, q8⟩ := k1.blk 0 es rfl
                  exact ⟨b, arr, e1, fr, by rw [e]; exact q1, q2, q3, q4, q5, q6, q7, fun m d hm => (q8 m d hm).free (allFree hok.2 d (mem_of_get? hm)) _ _⟩
                · obtain ⟨b, arr, e1, fr, q1, q2, q3, q4, q5, q6, q7, q8⟩ := hs.blk j es qj
                  obtain ⟨p1, p2⟩ := hsep j es b _ j1 qj q1
                  refine ⟨b, arr, e1, fr, by rw [e]; exact q1, fun hb => ?_, by rw [hfr b p1 p2]; exact q3, q4, q5, q6, q7, fun m d hm => (q8 m d hm).evol hs hev (q8 m d hm).closed⟩
                  rcases hokN b hb p1 with h | ⟨s, hi⟩
                  · exact q2 h
                  · exact p2 s hi
                · obtain ⟨b, arr, e1, fr, q1, q2, q3, q4, q5, q6, q7, q8⟩ := k1.blk _ es qj
                  have hfr4 := k4 _ es (by simp) qj
                  exact ⟨b, arr, e1, fr, by rw [e]; exact q1, q2, q3, q4, q5, q6, q7, fun m d hm => (q8 m d hm).free (allFree hfr4 d (mem_of_get? hm)) _ _⟩
            refine ⟨ι2, ok', hs2, ?_, hev⟩
            refine k2.moved (m := H.length - 1) (fun k hk1 hk2 => ?_) hok.1
            have e1 : H.length - 1 + k = n + (k - 1) := by show H.length - 1 + k = H.length + (k - 1); omega
            have e2 : k = k - 1 + 1 := by omega
            refine ⟨?_, ?_, ?_⟩
            · rw [e1, List.length_append, hn]
              simp at hk2
              omega
            · rw [e1]
              have : hget (hset H i ds' ++ L) ((hset H i ds').length + (k - 1)) = hget L (k - 1) := hget_join_ge
              rw [hn] at this
              rw [this]
              conv => rhs; rw [e2]
              simp [hget]
            · rw [e1]
              have hne : ¬ n + (k - 1) = i := by omega
              have hnl : ¬ n + (k - 1) < n := by omega
              simp only [ι2, hne, hnl, if_false]
              congr 1
              omega
          · cases h
        · cases h
      · cases h
    · cases h
  · cases h

theorem mvL_map (p : List Nat) (n : Nat) (l : List D) : mv.mvL p n l = l.map (mv p n) := by
  induction l with
  | nil => rfl
  | cons d l ih => simp [mv.mvL, ih]
theorem isCell_mv (p : List Nat) (n : Nat) (d : D) : isCell (mv p n d) = isCell d := by cases d <;> rfl
/-- A value reads the same by other names. -/
theorem Rep.back {p : List Nat} {n : Nat} {ι1 ι2 : Iota} {H1 H2 : Heap} (hm : ∀ a, a < H1.length → mvN p n a < H2.length ∧ (∀ ds2, hget H2 (mvN p n a) = some ds2 → ∃ ds, hget H1 a = some ds ∧ ds.length = ds2.length) ∧ ι2 (mvN p n a) = ι1 a) {d : D} {v : Value} (h : Rep ok w ι1 H1 d v) : Rep ok w ι2 H2 (mv p n d) v := by
  induction h with
  | bool b => exact .bool b
  | int k n => exact .int k n
  | str s => exact .str s
  | nilp => exact .nilp
  | nilf => exact .nilf
  | nili => exact .nili
  | raw v => exact .raw v
  | agg hl hc h ih =>
    simp only [mv, mvL_map]
    refine .agg (by simpa using hl) (fun d hd => ?_) fun j d hj => ?_
    · obtain ⟨d', hd', rfl⟩ := List.mem_map.1 hd
      rw [isCell_mv]; exact hc d' hd'
    · rw [List.getElem?_map, Option.map_eq_some_iff] at hj
      obtain ⟨d', hd', rfl⟩ := hj
      exact ih j d' hd' hm
  | tup hl h ih =>
    simp only [mv, mvL_map]
    refine .tup (by simpa using hl) fun j d hj => ?_
    rw [List.getElem?_map, Option.map_eq_some_iff] at hj
    obtain ⟨d', hd', rfl⟩ := hj
    exact ih j d' hd' hm
  | fn hl h ih =>
    simp only [mv, mvL_map]
    refine .fn (by simpa using hl) fun j d hj => ?_
    rw [List.getElem?_map, Option.map_eq_some_iff] at hj
    obtain ⟨d', hd', rfl⟩ := hj
    exact ih j d' hd' hm
  | iface h ih => exact .iface (ih hm)
  | optr a hi h =>
    obtain ⟨m1, m2, m3⟩ := hm _ hi
    refine .optr a m1 fun ds2 hd2 => ?_
    obtain ⟨ds, r1, r2⟩ := m2 ds2 hd2
    obtain ⟨k1, k2⟩ := h ds r1
    rw [r2] at k1 k2
    rw [m3]
    exact ⟨k1, k2⟩
  | osl a hi h hlc =>
    obtain ⟨m1, m2, m3⟩ := hm _ hi
    refine .osl a m1 (fun ds2 hd2 => ?_) hlc
    obtain ⟨ds, r1, r2⟩ := m2 ds2 hd2
    obtain ⟨k1, k2⟩ := h ds r1
    rw [r2] at k1 k2
    rw [m3]
    exact ⟨k1, k2⟩
  | vptr a f ha hc hr h _ => exact .vptr a f ha hc hr h
  | vnil => exact .vnil
  | vsl a f ha hc hr h hlc _ => exact .vsl a f ha hc hr h hlc
theorem setAll_len : ∀ (p : List Nat) (T H : Heap), (setAll H p T).length = H.length
  | [], _, _ => by simp [setAll]
  | _ :: _, [], _ => by simp [setAll]
  | i :: p, b :: T, H => by rw [setAll, setAll_len p T, List.length_set]
theorem setAll_out {i : Nat} : ∀ (p : List Nat) (T H : Heap), i ∉ p → hget (setAll H p T) i = hget H i
  | [], _, _, _ => by simp [setAll]
  | _ :: _, [], _, _ => by simp [setAll]
  | a :: p, b :: T, H, h => by
    rw [setAll, setAll_out p T _ fun hp => h (List.mem_cons_of_mem _ hp)]
    unfold hget
    rw [List.getElem?_set_ne fun ha => h (by rw [ha]; exact List.mem_cons_self ..)]
theorem setAll_in {i : Nat} : ∀ (p : List Nat) (T H : Heap) (a : Nat), p.Nodup → i < H.length → p[a]? = some i → a < T.length → hget (setAll H p T) i = hget T a
  | [], _, _, _, _, _, h, _ => by simp at h
  | _ :: _, [], _, _, _, _, _, h => by simp at h
  | c :: p, b :: T, H, 0, hn, hi, h, _ => by
    simp only [List.getElem?_cons_zero, Option.some.injEq] at h
    subst h
    rw [setAll, setAll_out p T _ (List.nodup_cons.1 hn).1]
    unfold hget
    rw [List.getElem?_set_self hi]
    rfl
  | c :: p, b :: T, H, a + 1, hn, hi, h, ha => by
    rw [setAll, setAll_in p T _ a (List.nodup_cons.1 hn).2 (by rw [List.length_set]; exact hi) (by simpa using h) (by simpa using ha)]
    simp [hget]
theorem idxP_of : ∀ {p : List Nat} {a i k : Nat}, p.Nodup → p[a]? = some i → idxP p i k = some (k + a)
  | [], _, _, _, _, h => by simp at h
  | c :: p, 0, i, k, _, h => by
    simp only [List.getElem?_cons_zero, Option.some.injEq] at h
    simp [idxP, h]
  | c :: p, a + 1, i, k, hn, h => by
    have hm : i ∈ p := List.mem_of_getElem? (by simpa using h)
    have hne : c ≠ i := fun he => (List.nodup_cons.1 hn).1 (by rw [he]; exact hm)
    rw [idxP, if_neg hne, idxP_of (List.nodup_cons.1 hn).2 (by simpa using h)]
    congr 1
    omega
theorem idxP_no {p : List Nat} {i : Nat} (h : i ∉ p) : idxP p i 0 = none := by
  cases hx : idxP p i 0 with
  | none => rfl
  | some a => exact absurd (List.mem_of_getElem? (idxP_get hx).2) h
theorem addN_pre : ∀ (l p : List Nat) {a i : Nat}, p[a]? = some i → (addN p l)[a]? = some i
  | [], _, _, _, h => h
  | x :: l, p, a, i, h => by
    rw [addN]
    split
    · exact addN_pre l p h
    · exact addN_pre l _ (by rw [List.getElem?_append_left (List.getElem?_eq_some_iff.1 h).1]; exact h)
theorem renA_get {p : List Nat} : ∀ {l l' : List D}, renA p l = some l' → l'.length = l.length ∧ ∀ {j : Nat} {d' : D}, l'[j]? = some d' → ∃ d, l[j]? = some d ∧ renV p d = some d'
  | [], l', h => by
    simp only [renA, Option.some.injEq] at h
    subst h
    exact ⟨rfl, fun {j d'} hj => by simp at hj⟩
  | d :: l, l', h => by
    simp only [renA] at h
    split at h
    · rename_i d1 l1 h1 h2
      injection h with h
      subst h
      obtain ⟨g1, g2⟩ := renA_get h2
      refine ⟨by simp [g1], fun {j d'} hj => ?_⟩
      cases j with
      | zero =>
        simp only [List.getElem?_cons_zero, Option.some.injEq] at hj
        subst hj
        exact ⟨d, rfl, h1⟩
      | succ j => simpa using g2 (j := j) (d' := d') (by simpa using hj)
    · cases h
/-- A call on some blocks alone. -/
theorem callP_sound {F : CallF} (hF : SoundF X F) {f i : Nat} (hgr : (X.gr f && X.byRef f) = false) {args : List D} {p : List Nat} (hp0 : p[0]? = some i) {r : D} {vs : List Value} (h : callP F f args H p = some (r, H')) (hs : Sim X ok w ι H) (hv : RepL ok w ι H args vs) :
    Goes X.P (callFunc f vs.toArray) w (Post X H.length ok w ι H r H') := by
  unfold callP at h
  split at h
  · rename_i args' H0 hA hH
    split at h
    · rename_i hfree
      rw [Bool.and_eq_true, decide_eq_true_eq] at hfree
      obtain ⟨hnd, hfr2⟩ := hfree
      split at h
      · rename_i r0 A T hc
        split at h
        · rename_i hT
          injection h with h
          injection h with h1 h2
          subst h1; subst h2
          obtain ⟨hl, hg⟩ := renH_get hH
          obtain ⟨hal, hag⟩ := renA_get hA
          have hS : ∀ {a j : Nat}, p[a]? = some j → ∃ ds ds2, hget H j = some ds ∧ renB p ds = some ds2 ∧ hget H0 a = some ds2 := fun h => renH_some hH h
          have hret : ∀ {d d' : D}, renV p d = some d' → retP 0 p [(0, d)] H = some ([(0, d')], H0) := fun {d d'} hd => by
            unfold retP
            simp [renE, hd, hH, hnd, upN]
          have hret0 : retP 0 p [] H = some ([], H0) := by
            unfold retP
            simp [renE, hH, hnd, upN]
          obtain ⟨hs1, -, -⟩ := retP_sound0 (tmps := #[]) hret0 hs (fun t d ht => by simp [look] at ht)
          let ι0 : Iota := fun j => ι (p.getD j 0)
          have hι0 : ∀ {a j : Nat}, p[a]? = some j → ι0 a = ι j := fun {a j} h => by
            show ι (p.getD a 0) = ι j
            rw [List.getD_eq_getElem?_getD, h]
            rfl
          have hv1 : RepL ok w ι0 H0 args' vs := by
            refine ⟨by rw [hal]; exact hv.1, fun j d' hj => ?_⟩
            obtain ⟨d, q1, q2⟩ := hag hj
            have h0 := hv.2 j d q1
            have he : EnvRep ok w ι H [(0, d)] #[vs.getD j undef] := fun t c ht => by
              simp only [look] at ht
              split at ht
              · rename_i h0'
                injection ht with ht
                subst ht; subst h0'
                exact ⟨by simp, h0⟩
              · cases ht
            obtain ⟨-, he1, -⟩ := retP_sound0 (hret q2) hs he
            exact (he1 0 d' (by simp [look])).2
          refine (hF f _ _ _ _ ok w ι0 vs hc hs1 hv1).mono fun v w' hp => ?_
          obtain ⟨ι', ok', k1, k2, k3, k4⟩ := hp
          replace k4 := k4 hgr
          have hkT : p.length ≤ (some A :: T).length := by rw [← hl]; exact k3.nle.2
          have hpos : 0 < p.length := (List.getElem?_eq_some_iff.1 hp0).1
          have hfr : ∀ b, b < w.heap.size → (∀ a j s, p[a]? = some j → ι j ≠ some (b, s)) → w'.heap[b]? = w.heap[b]? := fun b hb hno => k3.frame b hb fun a ds s ha hi => by
            obtain ⟨j, _, q1, _⟩ := hg ha
            exact hno a j s q1 (by rw [← hι0 q1]; exact hi)
          have hown : ∀ a es b s, hget (some A :: T) a = some es → ι' a = some (b, s) → b < w.heap.size → ∃ c j s', p[c]? = some j ∧ ι j = some (b, s') := fun a es b s hk hb hlt' => by
            obtain ⟨c, es', s', hj, hi⟩ := k3.own a es b s hk hb hlt'
            obtain ⟨j, _, q1, _⟩ := hg hj
            exact ⟨c, j, s', q1, by rw [← hι0 q1]; exact hi⟩
          have hokN : ∀ b, ok' b → b < w.heap.size → ok b ∨ ∃ c j s, p[c]? = some j ∧ ι j = some (b, s) := fun b hb hlt' => by
            rcases k3.okN b hb hlt' with h | ⟨c, es, s, hk, hi⟩
            · exact .inl h
            · obtain ⟨j, _, q1, _⟩ := hg hk
              exact .inr ⟨c, j, s, q1, by rw [← hι0 q1]; exact hi⟩
          have hpn : ∀ {a j : Nat}, p[a]? = some j → j < H.length := fun h => by
            obtain ⟨ds, _, q, _⟩ := hS h
            exact hget_lt q
          obtain ⟨B, hB⟩ : ∃ B : Heap, B = some (mv.mvL p H.length A) :: T := ⟨_, rfl⟩
          have hBl : B.length = (some A :: T).length := by rw [hB]; rfl
          -- a block told by old names, and by new ones
          have hBH : ∀ a es, hget B a = some es → ∃ es1, hget (some A :: T) a = some es1 ∧ es1.length = es.length ∧ ((a = 0 ∧ es = mv.mvL p H.length es1) ∨ (es = es1 ∧ es.all idFree = true)) := by
            intro a es ha
            rw [hB] at ha
            cases a with
            | zero =>
              simp only [hget, List.getElem?_cons_zero, Option.getD_some, Option.some.injEq] at ha
              subst ha
              exact ⟨A, rfl, by simp [mvL_map], .inl ⟨rfl, rfl⟩⟩
            | succ a =>
              have ha' : hget T a = some es := by simpa [hget] using ha
              refine ⟨es, by simpa [hget] using ha, rfl, .inr ⟨rfl, ?_⟩⟩
              have hlt := hget_lt ha'
              have hm : some es ∈ T := by
                unfold hget at ha'
                rw [List.getElem?_eq_getElem hlt] at ha'
                rw [← show T[a] = some es by simpa using ha']
                exact List.getElem_mem hlt
              simpa [blkFree] using List.all_eq_true.1 hT _ hm
          let n := H.length
          let k := p.length
          let H2 : Heap := setAll H p B ++ T.drop (k - 1)
          have hn : (setAll H p B).length = n := setAll_len _ _ _
          let ι2 : Iota := fun j => match idxP p j 0 with
            | some a => ι' a
            | none => if j < n then ι j else ι' (j - n + k)
          have i2a : ∀ {a j : Nat}, p[a]? = some j → ι2 j = ι' a := fun {a j} h => by
            have := idxP_of (k := 0) hnd h
            show (match idxP p j 0 with | some a => ι' a | none => _) = _
            rw [this, Nat.zero_add]
          have i2b : ∀ {j : Nat}, j ∉ p → j < n → ι2 j = ι j := fun {j} h hj => by
            show (match idxP p j 0 with | some a => ι' a | none => if j < n then ι j else ι' (j - n + k)) = _
            rw [idxP_no h]
            simp only
            rw [if_pos hj]
          have i2c : ∀ {j : Nat}, n ≤ j → ι2 j = ι' (j - n + k) := fun {j} hj => by
            have hnp : j ∉ p := fun h => by
              obtain ⟨a, ha⟩ := List.mem_iff_getElem?.1 h
              have := hpn ha
              omega
            show (match idxP p j 0 with | some a => ι' a | none => if j < n then ι j else ι' (j - n + k)) = _
            rw [idxP_no hnp]
            simp only
            rw [if_neg (by omega)]
          have g3 : ∀ {j : Nat}, n ≤ j → hget H2 j = hget (some A :: T) (j - n + k) := fun {j} hj => by
            obtain ⟨m, rfl⟩ : ∃ m, j = n + m := ⟨j - n, by omega⟩
            have e1 : hget H2 ((setAll H p B).length + m) = hget (T.drop (k - 1)) m := hget_join_ge
            rw [hn] at e1
            rw [e1]
            have e2 : n + m - n + k = (k - 1 + m) + 1 := by omega
            rw [e2]
            simp [hget, List.getElem?_drop]
          have hH : ∀ j es, hget H2 j = some es → (∃ a, p[a]? = some j ∧ hget B a = some es ∧ ι2 j = ι' a) ∨ (j ∉ p ∧ j < n ∧ hget H j = some es ∧ ι2 j = ι j) ∨ (n ≤ j ∧ hget (some A :: T) (j - n + k) = some es ∧ ι2 j = ι' (j - n + k)) := by
            intro j es hj
            by_cases hjn : j < n
            · rw [hget_join_lt (by rw [hn]; exact hjn)] at hj
              by_cases hjp : j ∈ p
              · obtain ⟨a, ha⟩ := List.mem_iff_getElem?.1 hjp
                have hal : a < B.length := by
                  have := (List.getElem?_eq_some_iff.1 ha).1
                  omega
                rw [setAll_in p B H a hnd hjn ha hal] at hj
                exact .inl ⟨a, ha, hj, i2a ha⟩
              · rw [setAll_out p B H hjp] at hj
                exact .inr (.inl ⟨hjp, hjn, hj, i2b hjp hjn⟩)
            · have hjn' : n ≤ j := by omega
              rw [g3 hjn'] at hj
              exact .inr (.inr ⟨hjn', hj, i2c hjn'⟩)
          have hev : Evol n ok w ι H ok' w' ι2 H2 := by
            refine ⟨k3.os, k3.tape, k3.output, k3.size, fun b hb hno => hfr b hb fun a j s ha => ?_, k3.okU, fun b hb hlt' => ?_, ⟨Nat.le_refl _, by rw [List.length_append, hn]; omega⟩, ?_, ?_⟩
            · obtain ⟨ds, _, q, _⟩ := hS ha
              exact hno j ds s q
            · rcases hokN b hb hlt' with h | ⟨c, j, s, hc, hi⟩
              · exact .inl h
              · obtain ⟨ds, _, q, _⟩ := hS hc
                exact .inr ⟨j, ds, s, q, hi⟩
            · intro j hjn es hj
              rcases hH j es hj with ⟨a, ha, q, e⟩ | ⟨_, _, q, e⟩ | ⟨q, _, _⟩
              · obtain ⟨es1, q1, q2, -⟩ := hBH a es q
                obtain ⟨ds, ds2, d1, d2, d3⟩ := hS ha
                obtain ⟨ds3, d4, hle, hi2⟩ := k3.heap a (by rw [hl]; exact (List.getElem?_eq_some_iff.1 ha).1) es1 q1
                rw [d3] at d4
                injection d4 with d4
                subst d4
                have hlen := renB_len d2
                exact ⟨ds, d1, by omega, fun hl' => by rw [e, hi2 (by omega)]; exact hι0 ha⟩
              · exact ⟨es, q, Nat.le_refl _, fun _ => e⟩
              · omega
            · intro j es b s hj hb hlt'
              rcases hH j es hj with ⟨a, ha, q, e⟩ | ⟨_, _, q, e⟩ | ⟨q, hk, e⟩
              · rw [e] at hb
                obtain ⟨es1, q1, -⟩ := hBH a es q
                obtain ⟨c, j', s', hc, hi⟩ := hown a es1 b s q1 hb hlt'
                obtain ⟨ds, _, d1, _⟩ := hS hc
                exact ⟨j', ds, s', d1, hi⟩
              · rw [e] at hb
                exact ⟨j, es, s, q, hb⟩
              · rw [e] at hb
                obtain ⟨c, j', s', hc, hi⟩ := hown _ es b s hk hb hlt'
                obtain ⟨ds, _, d1, _⟩ := hS hc
                exact ⟨j', ds, s', d1, hi⟩
          have hsep : ∀ j es b s, j ∉ p → hget H j = some es → ι j = some (b, s) → b < w.heap.size ∧ ∀ a j' s', p[a]? = some j' → ι j' ≠ some (b, s') := fun j es b s hjp hj hb => ⟨hs.lt hj hb, fun a j' s' ha hi => by
            obtain ⟨ds, _, d1, _⟩ := hS ha
            have := hs.inj j j' es ds b s s' hj d1 hb hi
            exact hjp (by rw [this]; exact List.mem_of_getElem? ha)⟩
          have hback : ∀ {d : D} {v : Value}, Rep ok' w' ι' (some A :: T) d v → Rep ok' w' ι2 H2 (mv p n d) v := fun h => by
            refine h.back fun a ha => ?_
            cases hpa : p[a]? with
            | some j =>
              have e1 : mvN p n a = j := by unfold mvN; rw [hpa]
              rw [e1]
              have hj := hpn hpa
              refine ⟨by rw [List.length_append, hn]; omega, fun ds2 hd2 => ?_, i2a hpa⟩
              rw [hget_join_lt (by rw [hn]; exact hj), setAll_in p B H a hnd hj hpa (by rw [hBl]; exact ha)] at hd2
              obtain ⟨es1, q1, q2, -⟩ := hBH a ds2 hd2
              exact ⟨es1, q1, q2⟩
            | none =>
              have hak : k ≤ a := List.getElem?_eq_none_iff.1 hpa
              have e1 : mvN p n a = n + (a - k) := by unfold mvN; rw [hpa]
              have e2 : n + (a - k) - n + k = a := by omega
              rw [e1]
              refine ⟨?_, fun ds2 hd2 => ?_, ?_⟩
              · rw [List.length_append, hn, List.length_drop]
                simp only [List.length_cons] at ha hkT
                omega
              · rw [g3 (by omega), e2] at hd2
                exact ⟨ds2, hd2, rfl⟩
              · rw [i2c (by omega), e2]
          have hs2 : Sim X ok' w' ι2 H2 := by
            refine ⟨k1.okS, k1.glob, ?_, ?_⟩
            · intro a c es es' b s s' ha hc hb hb'
              have cross : ∀ {j es b s a es' s'}, j ∉ p → hget H j = some es → ι j = some (b, s) → hget (some A :: T) a = some es' → ι' a = some (b, s') → False := by
                intro j es b s a es' s' hjp hj hb hk hb'
                obtain ⟨q1, q2⟩ := hsep j es b s hjp hj hb
                obtain ⟨c, j', s2, hc, hi⟩ := hown a es' b s' hk hb' q1
                exact q2 c j' s2 hc hi
              have old : ∀ j es, ((∃ a, p[a]? = some j ∧ hget B a = some es ∧ ι2 j = ι' a) ∨ (n ≤ j ∧ hget (some A :: T) (j - n + k) = some es ∧ ι2 j = ι' (j - n + k))) → ∃ a es1, hget (some A :: T) a = some es1 ∧ ι2 j = ι' a ∧ mvN p n a = j := by
                rintro j es (⟨a, q1, q2, q3⟩ | ⟨q1, q2, q3⟩)
                · obtain ⟨es1, q4, -⟩ := hBH a es q2
                  exact ⟨a, es1, q4, q3, by unfold mvN; rw [q1]⟩
                · refine ⟨_, es, q2, q3, ?_⟩
                  unfold mvN
                  rw [List.getElem?_eq_none_iff.2 (show p.length ≤ j - n + k by omega)]
                  show n + (j - n + k - k) = j
                  omega
              have split2 : ∀ j es, hget H2 j = some es → (∃ a es1, hget (some A :: T) a = some es1 ∧ ι2 j = ι' a ∧ mvN p n a = j) ∨ (j ∉ p ∧ hget H j = some es ∧ ι2 j = ι j) := fun j es hj => by
                rcases hH j es hj with h | ⟨h1, _, h2, h3⟩ | h
                · exact .inl (old j es (.inl h))
                · exact .inr ⟨h1, h2, h3⟩
                · exact .inl (old j es (.inr h))
              rcases split2 a es ha with ⟨a1, e1, qa, ea, ma⟩ | ⟨a1, qa, ea⟩ <;> rcases split2 c es' hc with ⟨c1, e2, qc, ec, mc⟩ | ⟨c1, qc, ec⟩ <;> rw [ea] at hb <;> rw [ec] at hb'
              · have := k1.inj a1 c1 _ _ b s s' qa qc hb hb'
                rw [← ma, ← mc, this]
              · exact (cross c1 qc hb' qa hb).elim
              · exact (cross a1 qa hb qc hb').elim
              · exact hs.inj a c es es' b s s' qa qc hb hb'
            · intro j es hj
              rcases hH j es hj with ⟨a, ha, q, e⟩ | ⟨j1, j2, qj, e⟩ | ⟨j1, qj, e⟩
              · obtain ⟨es1, q1, q2, q3⟩ := hBH a es q
                obtain ⟨b, arr, ty, fr, u1, u2, u3, u4, u5, u6, u7, u8⟩ := k1.blk a es1 q1
                refine ⟨b, arr, ty, fr, by rw [e]; exact u1, u2, u3, by omega, u5, u6, ?_, ?_⟩
                · rcases q3 with ⟨-, rfl⟩ | ⟨rfl, -⟩
                  · intro d hd
                    rw [mvL_map] at hd
                    obtain ⟨d', hd', rfl⟩ := List.mem_map.1 hd
                    rw [isCell_mv]
                    exact u7 d' hd'
                  · exact u7
                · rcases q3 with ⟨-, rfl⟩ | ⟨rfl, hf⟩
                  · intro m d hm
                    rw [mvL_map, List.getElem?_map, Option.map_eq_some_iff] at hm
                    obtain ⟨d', hd', rfl⟩ := hm
                    exact hback (u8 m d' hd')
                  · exact fun m d hm => (u8 m d hm).free (allFree hf d (mem_of_get? hm)) _ _
              · obtain ⟨b, arr, e1, fr, q1, q2, q3, q4, q5, q6, q7, q8⟩ := hs.blk j es qj
                obtain ⟨p1, p2⟩ := hsep j es b _ j1 qj q1
                refine ⟨b, arr, e1, fr, by rw [e]; exact q1, fun hb => ?_, by rw [hfr b p1 p2]; exact q3, q4, q5, q6, q7, fun m d hm => (q8 m d hm).evol hs hev (q8 m d hm).closed⟩
                rcases hokN b hb p1 with h | ⟨c, j', s, hc, hi⟩
                · exact q2 h
                · exact p2 c j' s hc hi
              · obtain ⟨b, arr, e1, fr, q1, q2, q3, q4, q5, q6, q7, q8⟩ := k1.blk _ es qj
                have hf : es.all idFree = true := k4 _ es (by rw [hl]; show k ≤ _; omega) qj
                exact ⟨b, arr, e1, fr, by rw [e]; exact q1, q2, q3, q4, q5, q6, q7, fun m d hm => (q8 m d hm).free (allFree hf d (mem_of_get? hm)) _ _⟩
          rw [← hB]
          exact ⟨ι2, ok', hs2, hback k2, hev⟩
        · cases h
      · cases h
    · cases h
  · cases h
/-- A call on some blocks alone, which may all hold names. -/
theorem callQ_sound {F : CallF} (hF : SoundF X F) {f : Nat} {args : List D} {p : List Nat} {r : D} {vs : List Value} (h : callQ F f args H p = some (r, H')) (hs : Sim X ok w ι H) (hv : RepL ok w ι H args vs) :
    Goes X.P (callFunc f vs.toArray) w (Post X H.length ok w ι H r H') := by
  unfold callQ at h
  split at h
  · rename_i args' H0 hA hH
    split at h
    · rename_i hnd
      split at h
      · rename_i r0 T hc
        · injection h with h
          injection h with h1 h2
          subst h1; subst h2
          obtain ⟨hl, hg⟩ := renH_get hH
          obtain ⟨hal, hag⟩ := renA_get hA
          have hS : ∀ {a j : Nat}, p[a]? = some j → ∃ ds ds2, hget H j = some ds ∧ renB p ds = some ds2 ∧ hget H0 a = some ds2 := fun h => renH_some hH h
          have hret : ∀ {d d' : D}, renV p d = some d' → retP 0 p [(0, d)] H = some ([(0, d')], H0) := fun {d d'} hd => by
            unfold retP
            simp [renE, hd, hH, hnd, upN]
          have hret0 : retP 0 p [] H = some ([], H0) := by
            unfold retP
            simp [renE, hH, hnd, upN]
          obtain ⟨hs1, -, -⟩ := retP_sound0 (tmps := #[]) hret0 hs (fun t d ht => by simp [look] at ht)
          let ι0 : Iota := fun j => ι (p.getD j 0)
          have hι0 : ∀ {a j : Nat}, p[a]? = some j → ι0 a = ι j := fun {a j} h => by
            show ι (p.getD a 0) = ι j
            rw [List.getD_eq_getElem?_getD, h]
            rfl
          have hv1 : RepL ok w ι0 H0 args' vs := by
            refine ⟨by rw [hal]; exact hv.1, fun j d' hj => ?_⟩
            obtain ⟨d, q1, q2⟩ := hag hj
            have h0 := hv.2 j d q1
            have he : EnvRep ok w ι H [(0, d)] #[vs.getD j undef] := fun t c ht => by
              simp only [look] at ht
              split at ht
              · rename_i h0'
                injection ht with ht
                subst ht; subst h0'
                exact ⟨by simp, h0⟩
              · cases ht
            obtain ⟨-, he1, -⟩ := retP_sound0 (hret q2) hs he
            exact (he1 0 d' (by simp [look])).2
          refine (hF f _ _ _ _ ok w ι0 vs hc hs1 hv1).mono fun v w' hp => ?_
          obtain ⟨ι', ok', k1, k2, k3, k4⟩ := hp
          have hkT : p.length ≤ T.length := by rw [← hl]; exact k3.nle.2
          have hfr : ∀ b, b < w.heap.size → (∀ a j s, p[a]? = some j → ι j ≠ some (b, s)) → w'.heap[b]? = w.heap[b]? := fun b hb hno => k3.frame b hb fun a ds s ha hi => by
            obtain ⟨j, _, q1, _⟩ := hg ha
            exact hno a j s q1 (by rw [← hι0 q1]; exact hi)
          have hown : ∀ a es b s, hget T a = some es → ι' a = some (b, s) → b < w.heap.size → ∃ c j s', p[c]? = some j ∧ ι j = some (b, s') := fun a es b s hk hb hlt' => by
            obtain ⟨c, es', s', hj, hi⟩ := k3.own a es b s hk hb hlt'
            obtain ⟨j, _, q1, _⟩ := hg hj
            exact ⟨c, j, s', q1, by rw [← hι0 q1]; exact hi⟩
          have hokN : ∀ b, ok' b → b < w.heap.size → ok b ∨ ∃ c j s, p[c]? = some j ∧ ι j = some (b, s) := fun b hb hlt' => by
            rcases k3.okN b hb hlt' with h | ⟨c, es, s, hk, hi⟩
            · exact .inl h
            · obtain ⟨j, _, q1, _⟩ := hg hk
              exact .inr ⟨c, j, s, q1, by rw [← hι0 q1]; exact hi⟩
          have hpn : ∀ {a j : Nat}, p[a]? = some j → j < H.length := fun h => by
            obtain ⟨ds, _, q, _⟩ := hS h
            exact hget_lt q
          obtain ⟨B, hB⟩ : ∃ B : Heap, B = T.map (mvB p H.length) := ⟨_, rfl⟩
          have hBl : B.length = T.length := by rw [hB, List.length_map]
          -- a block told by old names, and by new ones
          have hBH : ∀ a es, hget B a = some es → ∃ es1, hget T a = some es1 ∧ es1.length = es.length ∧ es = mv.mvL p H.length es1 := by
            intro a es ha
            rw [hB] at ha
            unfold hget at ha ⊢
            rw [List.getElem?_map] at ha
            cases hT : T[a]? with
            | none => rw [hT] at ha; simp at ha
            | some x =>
              rw [hT] at ha
              cases x with
              | none => simp [mvB] at ha
              | some ds =>
                simp only [Option.map_some, mvB, Option.getD_some, Option.some.injEq] at ha
                subst ha
                exact ⟨ds, by simp, by simp [mvL_map], rfl⟩
          let n := H.length
          let k := p.length
          let H2 : Heap := setAll H p B ++ B.drop k
          have hn : (setAll H p B).length = n := setAll_len _ _ _
          let ι2 : Iota := fun j => match idxP p j 0 with
            | some a => ι' a
            | none => if j < n then ι j else ι' (j - n + k)
          have i2a : ∀ {a j : Nat}, p[a]? = some j → ι2 j = ι' a := fun {a j} h => by
            have := idxP_of (k := 0) hnd h
            show (match idxP p j 0 with | some a => ι' a | none => _) = _
            rw [this, Nat.zero_add]
          have i2b : ∀ {j : Nat}, j ∉ p → j < n → ι2 j = ι j := fun {j} h hj => by
            show (match idxP p j 0 with | some a => ι' a | none => if j < n then ι j else ι' (j - n + k)) = _
            rw [idxP_no h]
            simp only
            rw [if_pos hj]
          have i2c : ∀ {j : Nat}, n ≤ j → ι2 j = ι' (j - n + k) := fun {j} hj => by
            have hnp : j ∉ p := fun h => by
              obtain ⟨a, ha⟩ := List.mem_iff_getElem?.1 h
              have := hpn ha
              omega
            show (match idxP p j 0 with | some a => ι' a | none => if j < n then ι j else ι' (j - n + k)) = _
            rw [idxP_no hnp]
            simp only
            rw [if_neg (by omega)]
          have g3 : ∀ {j : Nat}, n ≤ j → hget H2 j = hget B (j - n + k) := fun {j} hj => by
            obtain ⟨m, rfl⟩ : ∃ m, j = n + m := ⟨j - n, by omega⟩
            have e1 : hget H2 ((setAll H p B).length + m) = hget (B.drop k) m := hget_join_ge
            rw [hn] at e1
            rw [e1]
            have e2 : n + m - n + k = k + m := by omega
            rw [e2]
            simp [hget, List.getElem?_drop]
          have hH : ∀ j es, hget H2 j = some es → (∃ a, p[a]? = some j ∧ hget B a = some es ∧ ι2 j = ι' a) ∨ (j ∉ p ∧ j < n ∧ hget H j = some es ∧ ι2 j = ι j) ∨ (n ≤ j ∧ hget B (j - n + k) = some es ∧ ι2 j = ι' (j - n + k)) := by
            intro j es hj
            by_cases hjn : j < n
            · rw [hget_join_lt (by rw [hn]; exact hjn)] at hj
              by_cases hjp : j ∈ p
              · obtain ⟨a, ha⟩ := List.mem_iff_getElem?.1 hjp
                have hal : a < B.length := by
                  have := (List.getElem?_eq_some_iff.1 ha).1
                  omega
                rw [setAll_in p B H a hnd hjn ha hal] at hj
                exact .inl ⟨a, ha, hj, i2a ha⟩
              · rw [setAll_out p B H hjp] at hj
                exact .inr (.inl ⟨hjp, hjn, hj, i2b hjp hjn⟩)
            · have hjn' : n ≤ j := by omega
              rw [g3 hjn'] at hj
              exact .inr (.inr ⟨hjn', hj, i2c hjn'⟩)
          have hev : Evol n ok w ι H ok' w' ι2 H2 := by
            refine ⟨k3.os, k3.tape, k3.output, k3.size, fun b hb hno => hfr b hb fun a j s ha => ?_, k3.okU, fun b hb hlt' => ?_, ⟨Nat.le_refl _, by rw [List.length_append, hn]; omega⟩, ?_, ?_⟩
            · obtain ⟨ds, _, q, _⟩ := hS ha
              exact hno j ds s q
            · rcases hokN b hb hlt' with h | ⟨c, j, s, hc, hi⟩
              · exact .inl h
              · obtain ⟨ds, _, q, _⟩ := hS hc
                exact .inr ⟨j, ds, s, q, hi⟩
            · intro j hjn es hj
              rcases hH j es hj with ⟨a, ha, q, e⟩ | ⟨_, _, q, e⟩ | ⟨q, _, _⟩
              · obtain ⟨es1, q1, q2, -⟩ := hBH a es q
                obtain ⟨ds, ds2, d1, d2, d3⟩ := hS ha
                obtain ⟨ds3, d4, hle, hi2⟩ := k3.heap a (by rw [hl]; exact (List.getElem?_eq_some_iff.1 ha).1) es1 q1
                rw [d3] at d4
                injection d4 with d4
                subst d4
                have hlen := renB_len d2
                exact ⟨ds, d1, by omega, fun hl' => by rw [e, hi2 (by omega)]; exact hι0 ha⟩
              · exact ⟨es, q, Nat.le_refl _, fun _ => e⟩
              · omega
            · intro j es b s hj hb hlt'
              rcases hH j es hj with ⟨a, ha, q, e⟩ | ⟨_, _, q, e⟩ | ⟨q, hk, e⟩
              · rw [e] at hb
                obtain ⟨es1, q1, -⟩ := hBH a es q
                obtain ⟨c, j', s', hc, hi⟩ := hown a es1 b s q1 hb hlt'
                obtain ⟨ds, _, d1, _⟩ := hS hc
                exact ⟨j', ds, s', d1, hi⟩
              · rw [e] at hb
                exact ⟨j, es, s, q, hb⟩
              · rw [e] at hb
                obtain ⟨es1, hk1, -⟩ := hBH _ es hk
                obtain ⟨c, j', s', hc, hi⟩ := hown _ es1 b s hk1 hb hlt'
                obtain ⟨ds, _, d1, _⟩ := hS hc
                exact ⟨j', ds, s', d1, hi⟩
          have hsep : ∀ j es b s, j ∉ p → hget H j = some es → ι j = some (b, s) → b < w.heap.size ∧ ∀ a j' s', p[a]? = some j' → ι j' ≠ some (b, s') := fun j es b s hjp hj hb => ⟨hs.lt hj hb, fun a j' s' ha hi => by
            obtain ⟨ds, _, d1, _⟩ := hS ha
            have := hs.inj j j' es ds b s s' hj d1 hb hi
            exact hjp (by rw [this]; exact List.mem_of_getElem? ha)⟩
          have hback : ∀ {d : D} {v : Value}, Rep ok' w' ι' T d v → Rep ok' w' ι2 H2 (mv p n d) v := fun h => by
            refine h.back fun a ha => ?_
            cases hpa : p[a]? with
            | some j =>
              have e1 : mvN p n a = j := by unfold mvN; rw [hpa]
              rw [e1]
              have hj := hpn hpa
              refine ⟨by rw [List.length_append, hn]; omega, fun ds2 hd2 => ?_, i2a hpa⟩
              rw [hget_join_lt (by rw [hn]; exact hj), setAll_in p B H a hnd hj hpa (by rw [hBl]; exact ha)] at hd2
              obtain ⟨es1, q1, q2, -⟩ := hBH a ds2 hd2
              exact ⟨es1, q1, q2⟩
            | none =>
              have hak : k ≤ a := List.getElem?_eq_none_iff.1 hpa
              have e1 : mvN p n a = n + (a - k) := by unfold mvN; rw [hpa]
              have e2 : n + (a - k) - n + k = a := by omega
              rw [e1]
              refine ⟨?_, fun ds2 hd2 => ?_, ?_⟩
              · rw [List.length_append, hn, List.length_drop, hBl]
                omega
              · rw [g3 (by omega), e2] at hd2
                obtain ⟨es1, q1, q2, -⟩ := hBH a ds2 hd2
                exact ⟨es1, q1, q2⟩
              · rw [i2c (by omega), e2]
          have hs2 : Sim X ok' w' ι2 H2 := by
            refine ⟨k1.okS, k1.glob, ?_, ?_⟩
            · intro a c es es' b s s' ha hc hb hb'
              have cross : ∀ {j es b s a es' s'}, j ∉ p → hget H j = some es → ι j = some (b, s) → hget T a = some es' → ι' a = some (b, s') → False := by
                intro j es b s a es' s' hjp hj hb hk hb'
                obtain ⟨q1, q2⟩ := hsep j es b s hjp hj hb
                obtain ⟨c, j', s2, hc, hi⟩ := hown a es' b s' hk hb' q1
                exact q2 c j' s2 hc hi
              have old : ∀ j es, ((∃ a, p[a]? = some j ∧ hget B a = some es ∧ ι2 j = ι' a) ∨ (n ≤ j ∧ hget B (j - n + k) = some es ∧ ι2 j = ι' (j - n + k))) → ∃ a es1, hget T a = some es1 ∧ ι2 j = ι' a ∧ mvN p n a = j := by
                rintro j es (⟨a, q1, q2, q3⟩ | ⟨q1, q2, q3⟩)
                · obtain ⟨es1, q4, -⟩ := hBH a es q2
                  exact ⟨a, es1, q4, q3, by unfold mvN; rw [q1]⟩
                · obtain ⟨es1, q4, -⟩ := hBH _ es q2
                  refine ⟨_, es1, q4, q3, ?_⟩
                  unfold mvN
                  rw [List.getElem?_eq_none_iff.2 (show p.length ≤ j - n + k by omega)]
                  show n + (j - n + k - k) = j
                  omega
              have split2 : ∀ j es, hget H2 j = some es → (∃ a es1, hget T a = some es1 ∧ ι2 j = ι' a ∧ mvN p n a = j) ∨ (j ∉ p ∧ hget H j = some es ∧ ι2 j = ι j) := fun j es hj => by
                rcases hH j es hj with h | ⟨h1, _, h2, h3⟩ | h
                · exact .inl (old j es (.inl h))
                · exact .inr ⟨h1, h2, h3⟩
                · exact .inl (old j es (.inr h))
              rcases split2 a es ha with ⟨a1, e1, qa, ea, ma⟩ | ⟨a1, qa, ea⟩ <;> rcases split2 c es' hc with ⟨c1, e2, qc, ec, mc⟩ | ⟨c1, qc, ec⟩ <;> rw [ea] at hb <;> rw [ec] at hb'
              · have := k1.inj a1 c1 _ _ b s s' qa qc hb hb'
                rw [← ma, ← mc, this]
              · exact (cross c1 qc hb' qa hb).elim
              · exact (cross a1 qa hb qc hb').elim
              · exact hs.inj a c es es' b s s' qa qc hb hb'
            · intro j es hj
              rcases hH j es hj with ⟨a, ha, q, e⟩ | ⟨j1, j2, qj, e⟩ | ⟨j1, qj, e⟩
              · obtain ⟨es1, q1, q2, q3⟩ := hBH a es q
                obtain ⟨b, arr, ty, fr, u1, u2, u3, u4, u5, u6, u7, u8⟩ := k1.blk a es1 q1
                refine ⟨b, arr, ty, fr, by rw [e]; exact u1, u2, u3, by omega, u5, u6, ?_, ?_⟩
                · subst q3
                  intro d hd
                  rw [mvL_map] at hd
                  obtain ⟨d', hd', rfl⟩ := List.mem_map.1 hd
                  rw [isCell_mv]
                  exact u7 d' hd'
                · subst q3
                  intro m d hm
                  rw [mvL_map, List.getElem?_map, Option.map_eq_some_iff] at hm
                  obtain ⟨d', hd', rfl⟩ := hm
                  exact hback (u8 m d' hd')
              · obtain ⟨b, arr, e1, fr, q1, q2, q3, q4, q5, q6, q7, q8⟩ := hs.blk j es qj
                obtain ⟨p1, p2⟩ := hsep j es b _ j1 qj q1
                refine ⟨b, arr, e1, fr, by rw [e]; exact q1, fun hb => ?_, by rw [hfr b p1 p2]; exact q3, q4, q5, q6, q7, fun m d hm => (q8 m d hm).evol hs hev (q8 m d hm).closed⟩
                rcases hokN b hb p1 with h | ⟨c, j', s, hc, hi⟩
                · exact q2 h
                · exact p2 c j' s hc hi
              · obtain ⟨es1, q1, q2, q3⟩ := hBH _ es qj
                obtain ⟨b, arr, ty, fr, u1, u2, u3, u4, u5, u6, u7, u8⟩ := k1.blk _ es1 q1
                refine ⟨b, arr, ty, fr, by rw [e]; exact u1, u2, u3, by omega, u5, u6, ?_, ?_⟩
                · subst q3
                  intro d hd
                  rw [mvL_map] at hd
                  obtain ⟨d', hd', rfl⟩ := List.mem_map.1 hd
                  rw [isCell_mv]
                  exact u7 d' hd'
                · subst q3
                  intro m d hm
                  rw [mvL_map, List.getElem?_map, Option.map_eq_some_iff] at hm
                  obtain ⟨d', hd', rfl⟩ := hm
                  exact hback (u8 m d' hd')
          rw [← hB]
          exact ⟨ι2, ok', hs2, hback k2, hev⟩
      · cases h
    · cases h
  · cases h
theorem callM_sound {F : CallF} (hF : SoundF X F) {f : Nat} (hgr : (X.gr f && X.byRef f) = false) {args : List D} {r : D} {vs : List Value} (h : callM F f args H = some (r, H')) (hs : Sim X ok w ι H) (hv : RepL ok w ι H args vs) :
    Goes X.P (callFunc f vs.toArray) w (Post X H.length ok w ι H r H') := by
  unfold callM at h
  split at h
  · cases h
  · exact callP_sound hF hgr rfl h hs hv
theorem callK_sound {F : CallF} (hF : SoundF X F) {f : Nat} (hgr : (X.gr f && X.byRef f) = false) {args : List D} {r : D} {vs : List Value} (h : callK X F f args H = some (r, H')) (hs : Sim X ok w ι H) (hv : RepL ok w ι H args vs) :
    Goes X.P (callFunc f vs.toArray) w (Post X H.length ok w ι H r H') := by
  unfold callK at h
  split at h
  · exact callM_sound hF hgr h hs hv
  · exact callL_sound hF hgr h hs hv

theorem callV_sound {F : CallF} (hF : SoundF X F) {f : Nat} {args : List D} {r : D} {vs : List Value} (h : callV X F f args H = some (r, H')) (hs : Sim X ok w ι H) (hv : RepL ok w ι H args vs) :
    Goes X.P (callFunc f vs.toArray) w (Post X H.length ok w ι H r H') := by
  unfold callV at h
  split at h
  · split at h
    · split at h
      · exact callQ_sound hF h hs hv
      · rename_i hgr0
        exact callK_sound hF (by simp [hgr0]) h hs hv
    refine (hF f args H r H' ok w ι vs h hs hv).mono fun v w' hp => ?_
    obtain ⟨ι', ok', h1, h2, h3, _⟩ := hp
    exact ⟨ι', ok', h1, h2, h3⟩
  · rename_i hbr
    have hgr : (X.gr f && X.byRef f) = false := by simp [hbr]
    split at h
    · rename_i hfree
      split at h
      · cases h
      · rename_i r0 L hc
        injection h with h
        injection h with h1 h2
        subst h1; subst h2
        refine (hF f args [] r0 L ok w iota0 vs hc (sim_alone hs) ⟨hv.1, fun j d hj => (hv.2 j d hj).free (allFree hfree d (mem_of_get? hj)) _ _⟩).mono fun v w' hp => ?_
        obtain ⟨ι1, ok1, k1, k2, k3, k4⟩ := hp
        replace k4 := k4 hgr
        have hfr : ∀ b, b < w.heap.size → w'.heap[b]? = w.heap[b]? := fun b hb => k3.frame b hb (fun i ds s hd => by simp [hget] at hd)
        obtain ⟨j1, j2⟩ := call_join (L := L) (ι1 := ι1) (ok2 := ok1) hs ⟨k3.os, k3.tape, k3.output⟩ k3.size hfr k3.okU (fun b hb hlt => (k3.okN b hb hlt).resolve_right fun ⟨i, ds, s, hd, _⟩ => by simp [hget] at hd) k1.okS k1.inj (fun i ds hd => by
          obtain ⟨b, arr, e, fr, q1, q2, q3, q4, q5, q6, q7, q8⟩ := k1.blk i ds hd
          refine ⟨b, arr, e, fr, q1, ?_, q2, q3, q4, q5, q6, q7, fun j d hj => (q8 j d hj).free (allFree (k4 i ds (Nat.zero_le _) hd) d (mem_of_get? hj)) _ _⟩
          rcases Nat.lt_or_ge b w.heap.size with hlt | hge
          · obtain ⟨j, es, s', hj, _⟩ := k3.own i ds b _ hd q1 hlt
            simp [hget] at hj
          · exact hge)
        exact ⟨_, ok1, j1, k2.shift ι H, j2⟩
    · split at h
      · cases h
      · rename_i args' hfz
        split at h
        · cases h
        · rename_i r0 L hc
          split at h
          · rename_i hvf
            rw [Bool.and_eq_true] at hvf
            injection h with h
            injection h with h1 h2
            subst h1; subst h2
            obtain ⟨l1, l2⟩ := freeze_rep.freezeL_rep hs args (vs := fun j => vs.getD j undef) hv.2 hfz
            refine (hF f args' [] r0 L (okAll ok ι H) w iota0 vs hc (sim_all hs) ⟨by rw [hv.1, l1], l2⟩).mono fun v w' hp => ?_
            obtain ⟨ι1, ok1, k1, k2, k3, k4⟩ := hp
            replace k4 := k4 hgr
            have hfr : ∀ b, b < w.heap.size → w'.heap[b]? = w.heap[b]? := fun b hb => k3.frame b hb (fun i ds s hd => by simp [hget] at hd)
            obtain ⟨j1, j2⟩ := call_join (L := L) (ι1 := ι1) (ok2 := ok) hs ⟨k3.os, k3.tape, k3.output⟩ k3.size hfr (fun _ h => h) (fun _ h _ => h) (fun b hb => Nat.lt_of_lt_of_le (hs.okS b hb) k3.size) k1.inj (fun i ds hd => by
              obtain ⟨b, arr, e, fr, q1, q2, q3, q4, q5, q6, q7, q8⟩ := k1.blk i ds hd
              have hge : w.heap.size ≤ b := by
                rcases Nat.lt_or_ge b w.heap.size with hlt | hge
                · obtain ⟨j, es, s', hj, _⟩ := k3.own i ds b _ hd q1 hlt
                  simp [hget] at hj
                · exact hge
              refine ⟨b, arr, e, fr, q1, hge, fun hb => by have := hs.okS b hb; omega, q3, q4, q5, q6, q7, fun j d hj => ?_⟩
              have hdv : vFree d = true := by
                have hl := hget_lt hd
                have hmem : some ds ∈ L := by
                  unfold hget at hd
                  rw [List.getElem?_eq_getElem hl] at hd
                  simp only [Option.getD_some] at hd
                  rw [← hd]
                  exact List.getElem_mem hl
                have := List.all_eq_true.1 hvf.2 _ hmem
                simp only [blkVFree] at this
                exact List.all_eq_true.1 this d (mem_of_get? hj)
              exact ((q8 j d hj).free (allFree (k4 i ds (Nat.zero_le _) hd) d (mem_of_get? hj)) _ _).vfree hdv ok)
            exact ⟨_, ok, j1, (k2.vfree hvf.1 ok).shift ι H, j2⟩
          · cases h

mutual
theorem shift_of_free (n : Nat) : ∀ (d : D), idFree d = true → shift n d = d
  | .agg cs, h => by simp only [idFree] at h; simp only [shift, shiftL_of_free n cs h]
  | .tup cs, h => by simp only [idFree] at h; simp only [shift, shiftL_of_free n cs h]
  | .fn f cs, h => by simp only [idFree] at h; simp only [shift, shiftL_of_free n cs h]
  | .iface t d, h => by simp only [idFree] at h; simp only [shift, shift_of_free n d h]
  | .optr .., h => by simp [idFree] at h
  | .osl .., h => by simp [idFree] at h
  | .bool _, _ => rfl
  | .int _ _, _ => rfl
  | .str _, _ => rfl
  | .nilp, _ => rfl
  | .nilf, _ => rfl
  | .nili, _ => rfl
  | .raw _, _ => rfl
  | .vptr _, _ => rfl
  | .vsl .., _ => rfl
theorem shiftL_of_free (n : Nat) : ∀ (cs : List D), idFree.idFreeL cs = true → shift.shiftL n cs = cs
  | [], _ => rfl
  | d :: l, h => by
    simp only [idFree.idFreeL, Bool.and_eq_true] at h
    simp only [shift.shiftL, shift_of_free n d h.1, shiftL_of_free n l h.2]
end
theorem callW_pure {F : CallF} {f : Nat} {args : List D} {r : D × Heap} (hp : (X.pureF f && !X.byRef f) = true) (h : callW X F f args H = some r) : r.2 = H ∧ idFree r.1 = true ∧
    ((args.all idFree = true ∧ F f args [] = some (r.1, [])) ∨
      (¬ args.all idFree = true ∧ X.perm f = true ∧ args.all (flatQ H) = true ∧ vFree r.1 = true ∧ ∃ args', freezeArgs H args = some args' ∧ F f args' [] = some (r.1, []))) := by
  unfold callW at h
  rw [if_pos hp] at h
  split at h
  · rename_i ha
    split at h
    · rename_i r0 hc
      split at h
      · rename_i hi
        injection h with h
        subst h
        exact ⟨rfl, hi, .inl ⟨ha, hc⟩⟩
      · cases h
    · cases h
  · rename_i ha
    split at h
    · rename_i hpf
      rw [Bool.and_eq_true] at hpf
      split at h
      · rename_i args' hfz
        split at h
        · rename_i r0 hc
          split at h
          · rename_i hi
            rw [Bool.and_eq_true] at hi
            injection h with h
            subst h
            exact ⟨rfl, hi.1, .inr ⟨ha, hpf.1, hpf.2, hi.2, args', hfz, hc⟩⟩
          · cases h
        · cases h
      · cases h
    · cases h
theorem callW_callV {F : CallF} {f : Nat} {args : List D} {r : D × Heap} (h : callW X F f args H = some r) : callV X F f args H = some r := by
  by_cases hp : (X.pureF f && !X.byRef f) = true
  · obtain ⟨h4, h3, h1⟩ := callW_pure hp h
    have hb : ¬ X.byRef f = true := by
      rw [Bool.and_eq_true] at hp
      simpa using hp.2
    obtain ⟨r, H'⟩ := r
    simp only at h3 h4 h1
    subst h4
    unfold callV
    rcases h1 with ⟨h1, h2⟩ | ⟨h1, _, _, hv, args', hfz, h2⟩
    · rw [if_neg hb, if_pos h1, h2]
      simp only [shift_of_free _ _ h3, List.append_nil]
    · rw [if_neg hb, if_neg h1, hfz]
      simp only [h2, hv, List.all_nil, Bool.and_self, if_true, shift_of_free _ _ h3, List.append_nil]
  · unfold callW at h
    rwa [if_neg hp] at h
/-- A block's cells, told another way. -/
theorem sim_put {i : Nat} {ds ds' : List D} (hs : Sim X ok w ι H) (hd : hget H i = some ds) (hl : ds.length = ds'.length) (hr : ∀ b arr e fr, ι i = some (b, arr.size) → w.heap[b]? = some (.cells arr e fr) → ∀ (j : Nat) d, ds'[j]? = some d → Rep ok w iota0 [] d (arr.getD j undef)) :
    Sim X ok w ι (hset H i ds') ∧ Evol H.length ok w ι H ok w ι (hset H i ds') := by
  have hlt : i < H.length := hget_lt hd
  have hg : ∀ j es, hget (hset H i ds') j = some es → (j = i ∧ es = ds') ∨ (j ≠ i ∧ hget H j = some es) := by
    intro j es hj
    by_cases hji : j = i
    · subst hji
      simp only [hget, hset] at hj
      rw [List.getElem?_set_self hlt] at hj
      exact .inl ⟨rfl, by simpa using hj.symm⟩
    · refine .inr ⟨hji, ?_⟩
      simp only [hget, hset] at hj ⊢
      rwa [List.getElem?_set_ne (Ne.symm hji)] at hj
  have hg2 : ∀ j es, hget (hset H i ds') j = some es → ∃ es0, hget H j = some es0 := by
    intro j es hj
    rcases hg j es hj with ⟨rfl, _⟩ | ⟨_, h⟩
    · exact ⟨ds, hd⟩
    · exact ⟨es, h⟩
  have hev : Evol H.length ok w ι H ok w ι (hset H i ds') := by
    refine ⟨rfl, rfl, rfl, Nat.le_refl _, fun _ _ _ => rfl, fun _ h => h, fun b h _ => .inl h, ⟨Nat.le_refl _, by simp [hset]⟩, ?_, ?_⟩
    · intro j _ es hj
      rcases hg j es hj with ⟨rfl, rfl⟩ | ⟨_, h⟩
      · exact ⟨ds, hd, by rw [hl]; exact Nat.le_refl _, fun _ => rfl⟩
      · exact ⟨es, h, Nat.le_refl _, fun _ => rfl⟩
    · intro j es b s hj hb _
      obtain ⟨es0, h0⟩ := hg2 j es hj
      exact ⟨j, es0, s, h0, hb⟩
  refine ⟨⟨hs.okS, hs.glob, ?_, ?_⟩, hev⟩
  · intro a c es es' b s s' ha hc hb hb'
    obtain ⟨e1, h1⟩ := hg2 a es ha
    obtain ⟨e2, h2⟩ := hg2 c es' hc
    exact hs.inj a c e1 e2 b s s' h1 h2 hb hb'
  · intro j es hj
    rcases hg j es hj with ⟨rfl, rfl⟩ | ⟨_, h⟩
    · obtain ⟨b, arr, e, fr, k1, k2, k3, k4, k5, k6, k7, k8⟩ := hs.blk j ds hd
      have hrr := hr b arr e fr k1 k3
      refine ⟨b, arr, e, fr, k1, k2, k3, by rw [← hl]; exact k4, k5, k6, fun d hm => ?_, fun m d hm => (hrr m d hm).lift⟩
      obtain ⟨m, hm1, hm2⟩ := List.mem_iff_getElem.1 hm
      have hm3 : es[m]? = some d := by rw [List.getElem?_eq_getElem hm1, hm2]
      exact isCell_of_one (hrr m d hm3) (k6 m (by omega))
    · obtain ⟨b, arr, e, fr, k1, k2, k3, k4, k5, k6, k7, k8⟩ := hs.blk j es h
      exact ⟨b, arr, e, fr, k1, k2, k3, k4, k5, k6, k7, fun m d hm => (k8 m d hm).evol hs hev (k8 m d hm).closed⟩
theorem clr_evol_nil : Evol H.length ok w ι H ok w ι H :=
  ⟨rfl, rfl, rfl, Nat.le_refl _, fun _ _ _ => rfl, fun _ h => h, fun _ h _ => .inl h, ⟨Nat.le_refl _, Nat.le_refl _⟩, fun _ _ ds hd => ⟨ds, hd, Nat.le_refl _, fun _ => rfl⟩, fun i ds _ s hd hi _ => ⟨i, ds, s, hd, hi⟩⟩
theorem stayBlk_sound {i : Nat} (h : stayBlk H i = some H') (hs : Sim X ok w ι H) : ∃ ok', Sim X ok' w ι H' ∧ Evol H.length ok w ι H ok' w ι H' ∧ H'.length = H.length := by
  unfold stayBlk at h
  split at h
  · rename_i ds hd
    split at h
    · injection h with h
      subst h
      exact ⟨ok, hs, clr_evol_nil, rfl⟩
    split at h
    · rename_i ds' l hsl
      split at h
      · cases h
      · rename_i hil
        injection h with h
        subst h
        have hd1 : hget (clr H l) i = some ds := by
          have : ∀ (l : List Nat) (H : Heap), hget H i = some ds → i ∉ l → hget (clr H l) i = some ds := by
            intro l
            induction l with
            | nil => intro H h _; exact h
            | cons a l ih =>
              intro H h hn
              simp only [List.mem_cons, not_or] at hn
              refine ih _ ?_ hn.2
              unfold hget at h ⊢
              rwa [List.getElem?_set_ne (Ne.symm hn.1)]
          exact this l H hd hil
        have hsc := clr_sim hs l
        have hst2 : ∀ b arr e fr, ι i = some (b, arr.size) → w.heap[b]? = some (.cells arr e fr) → ds.length = ds'.length ∧ ∀ (j : Nat) d, ds'[j]? = some d → Rep (okL ok ι H l) w iota0 [] d (arr.getD j undef) := by
          intro b arr e fr q1 q2
          obtain ⟨b', arr', e', fr', k1, k2, k3, k4, k5, k6, k7, k8⟩ := hs.blk i ds hd
          rw [q1] at k1
          injection k1 with k1
          injection k1 with k1a k1b
          subst k1a
          rw [q2] at k3
          injection k3 with k3
          injection k3 with k3a k3b k3c
          subst k3a
          exact stayL_rep (cond := fun i => ∀ ds b s, hget H i = some ds → ι i = some (b, s) → okL ok ι H l b) (fun d d' l' v hr hd hc => stay_rep hs (okF := okL ok ι H l) (fun b hb => .inl hb) 9 d d' l' v hr hd hc) ds (vs := fun j => arr.getD j undef) k8 hsl
            (fun i hi ds b s hd hb => .inr ⟨i, ds, s, hi, hd, hb⟩)
        obtain ⟨b, arr, e, fr, k1, k2, k3, -⟩ := hs.blk i ds hd
        obtain ⟨s1, s2⟩ := sim_put hsc hd1 (hst2 b arr e fr k1 k3).1 (fun b arr e fr q1 q2 => (hst2 b arr e fr q1 q2).2)
        have hlen : (hset (clr H l) i ds').length = H.length := by rw [hset, List.length_set, length_clr]
        rw [length_clr] at s2
        exact ⟨okL ok ι H l, s1, (clr_evol (ok := ok) (w := w) (ι := ι) (H := H) l).trans s2, hlen⟩
    · cases h
  · cases h
theorem stayIn_sound {e : Env} : ∀ {ss : List Nat} {H H' : Heap} {ok : Nat → Prop}, stayIn e ss H = some H' → Sim X ok w ι H → ∃ ok', Sim X ok' w ι H' ∧ Evol H.length ok w ι H ok' w ι H' ∧ H'.length = H.length
  | [], H, H', ok, h, hs => by
    injection h with h
    subst h
    exact ⟨ok, hs, clr_evol_nil, rfl⟩
  | s :: ss, H, H', ok, h, hs => by
    have go : ∀ {i : Nat}, (match stayBlk H i with
      | some H' => stayIn e ss H'
      | none => none) = some H' → ∃ ok', Sim X ok' w ι H' ∧ Evol H.length ok w ι H ok' w ι H' ∧ H'.length = H.length := by
      intro i h
      split at h
      · rename_i H1 h1
        obtain ⟨ok1, k1, k2, k3⟩ := stayBlk_sound h1 hs
        obtain ⟨ok2, j1, j2, j3⟩ := stayIn_sound h k1
        rw [k3] at j2 j3
        exact ⟨ok2, j1, k2.trans j2, j3⟩
      · cases h
    unfold stayIn at h
    split at h
    · exact go h
    · exact go h
    · exact stayIn_sound h hs
theorem callB_sound {F : CallF} (hF : SoundF X F) {f : Nat} {args : List D} {r : D} {vs : List Value} (h : callB X F f args H = some (r, H')) (hs : Sim X ok w ι H) (hv : RepL ok w ι H args vs) :
    Goes X.P (callFunc f vs.toArray) w (Post X H.length ok w ι H r H') := by
  unfold callB at h
  split at h
  · exact callV_sound hF (callW_callV h) hs hv
  · split at h
    · rename_i H1 hst
      unfold stayB at hst
      split at hst
      · obtain ⟨ok1, s1, hev, hlen⟩ := stayBlk_sound hst hs
        refine (callV_sound hF (callW_callV h) s1 ⟨hv.1, fun j d hj => (hv.2 j d hj).evol hs hev (hv.2 j d hj).closed⟩).mono ?_
        rintro v w' ⟨ι', ok', h1, h2, h3⟩
        rw [hlen] at h3
        exact ⟨ι', ok', h1, h2, hev.trans h3⟩
      · cases hst
    · cases h
theorem callD_sound {F : CallF} (hF : SoundF X F) {f : Nat} {args : List D} {r : D} {vs : List Value} (h : callD X F f args H = some (r, H')) (hs : Sim X ok w ι H) (hv : RepL ok w ι H args vs) :
    Goes X.P (callFunc f vs.toArray) w (Post X H.length ok w ι H r H') := by
  unfold callD at h
  split at h
  · exact callB_sound hF h hs hv
  · split at h
    · rename_i args' l hst
      obtain ⟨s1, s2⟩ := stayL_rep (cond := fun i => ∀ ds b s, hget H i = some ds → ι i = some (b, s) → okL ok ι H l b) (fun d d' l' v hr hd hc => stay_rep hs (okF := okL ok ι H l) (fun b hb => .inl hb) 9 d d' l' v hr hd hc) args (vs := fun j => vs.getD j undef) hv.2 hst
        (fun i hi ds b s hd hb => .inr ⟨i, ds, s, hi, hd, hb⟩)
      refine (callV_sound hF (callW_callV h) (clr_sim hs l) ⟨by rw [hv.1, s1], fun j d hj => (s2 j d hj).lift⟩).mono ?_
      rintro v w' ⟨ι', ok', h1, h2, h3⟩
      rw [length_clr] at h3
      exact ⟨ι', ok', h1, h2, (clr_evol l).trans h3⟩
    · cases h
theorem callD_callW {F : CallF} {f : Nat} {args : List D} {H : Heap} (hp : (X.perm f && !X.pureF f && !X.byRef f) = false) (hb : (X.perm f && X.byRef f) = false) : callD X F f args H = callW X F f args H := by
  unfold callD callB
  rw [hp, hb]

theorem RepL.append {xs ys : List D} {vs us : List Value} (h1 : RepL ok w ι H xs vs) (h2 : RepL ok w ι H ys us) : RepL ok w ι H (xs ++ ys) (vs ++ us) := by
  refine ⟨by simp [h1.1, h2.1], fun j d hj => ?_⟩
  rw [List.getD_eq_getElem?_getD]
  by_cases hlt : j < xs.length
  · rw [List.getElem?_append_left hlt] at hj
    rw [List.getElem?_append_left (by rw [h1.1]; exact hlt)]
    have := h1.2 j d hj
    rwa [List.getD_eq_getElem?_getD] at this
  · rw [List.getElem?_append_right (by omega)] at hj
    rw [List.getElem?_append_right (by rw [h1.1]; omega), h1.1]
    have := h2.2 _ d hj
    rwa [List.getD_eq_getElem?_getD] at this

theorem repL_fn {ds : List D} {vs : Array Value} (hl : vs.size = ds.length) (h : ∀ (j : Nat) d, ds[j]? = some d → Rep ok w ι H d (vs.getD j undef)) : RepL ok w ι H ds vs.toList :=
  ⟨by simpa using hl, fun j d hj => by
    have := h j d hj
    simpa [Array.getD_eq_getD_getElem?, List.getD_eq_getElem?_getD] using this⟩

theorem repL_cons {d : D} {ds : List D} {vs : List Value} (h : RepL ok w ι H (d :: ds) vs) : ∃ v us, vs = v :: us ∧ Rep ok w ι H d v ∧ RepL ok w ι H ds us := by
  cases vs with
  | nil => have := h.1; simp at this
  | cons v us => exact ⟨v, us, rfl, h.2 0 d rfl, by have := h.1; simpa using this, fun j x hj => h.2 (j + 1) x (by simpa using hj)⟩

theorem repL_nil {vs : List Value} (h : RepL ok w ι H [] vs) : vs = [] := List.eq_nil_of_length_eq_zero (by simpa using h.1)

theorem map_some_pair {α : Type} {x : Option α} {H H' : Heap} {d : α} (h : x.map (·, H) = some (d, H')) : x = some d ∧ H = H' := by
  cases x with
  | none => simp at h
  | some y => simp only [Option.map_some, Option.some.injEq, Prod.mk.injEq] at h; exact ⟨by rw [h.1], h.2⟩

theorem minmax_run {mx : Bool} {args : List D} {d : D} {vs : List Value} (hv : RepL ok w ι H args vs) (h : minmaxD mx args = some d) {P : Program} {ts : Array TypeId} {t : TypeId} :
    ∃ v, ((if mx then Builtin.max_ else Builtin.min_) ts t vs.toArray).run P w = .ok v w ∧ Rep ok w ι H d v := by
  unfold minmaxD at h
  split at h
  · split at h
    · rename_i k a k' b hk
      subst hk
      injection h with h
      subst h
      obtain ⟨v1, us, rfl, r1, h2⟩ := repL_cons hv
      obtain ⟨v2, us, rfl, r2, h3⟩ := repL_cons h2
      obtain rfl := repL_nil h3
      cases r1; cases r2
      cases mx
      · exact ⟨_, by simp [Builtin.min_, Builtin.min2], .int _ _⟩
      · exact ⟨_, by simp [Builtin.max_, Builtin.max2], .int _ _⟩
    · cases h
  · cases h

theorem builtin_sound {b : Builtin} {ts : Array TypeId} {t : TypeId} {cst : Array Bool} {args : List D} {d : D} {vs : List Value} (hs : Sim X ok w ι H) (hv : RepL ok w ι H args vs) (h : builtinD X b ts.toList args H = some (d, H')) :
    Goes X.P (builtin b ts t cst vs.toArray) w (Post X H.length ok w ι H d H') := by
  unfold builtinD at h
  split at h
  · rename_i t0 tr x xr hts
    cases hl : lenD X.P t0 x with
    | none => simp [hl] at h
    | some r =>
      simp only [hl, Option.map_some, Option.some.injEq, Prod.mk.injEq] at h
      obtain ⟨rfl, rfl⟩ := h
      obtain ⟨v, us, rfl, r1, _⟩ := repL_cons hv
      obtain ⟨rv, q1, q2⟩ := len_run (P := X.P) (ty := t) (ts := ts) (vs := (v :: us).toArray) (by rw [← Array.getElem?_toList, hts]; rfl) (by simp) r1 hl
      exact Goes.value (by simp [builtin, q1]) (Post.same hs q2)
  · rename_i t0 u tr s x xr hts
    obtain ⟨v1, us, rfl, r1, h2⟩ := repL_cons hv
    obtain ⟨v2, us, rfl, r2, h3⟩ := repL_cons h2
    obtain ⟨rv, w1, q1, q2⟩ := append_run (P := X.P) (ty := t) hs r1 r2 h
    refine Goes.value (w' := w1) (v := rv) ?_ q2
    have e1 : ts[0]? = some t0 := by rw [← Array.getElem?_toList, hts]; rfl
    have e2 : ts[1]? = some u := by rw [← Array.getElem?_toList, hts]; rfl
    have e3 : Builtin.append_ ts t (v1 :: v2 :: us).toArray = Builtin.append_ #[t0, u] t #[v1, v2] := by
      simp only [Builtin.append_, e1, e2]
      rfl
    simp [builtin, e3, q1]
  · rename_i t0 u tr s x xr hts
    obtain ⟨v1, us, rfl, r1, h2⟩ := repL_cons hv
    obtain ⟨v2, us, rfl, r2, h3⟩ := repL_cons h2
    obtain ⟨rv, w1, q1, q2⟩ := copy_run (P := X.P) (ty := t) hs r1 r2 h
    refine Goes.value (w' := w1) (v := rv) ?_ q2
    have e1 : ts[0]? = some t0 := by rw [← Array.getElem?_toList, hts]; rfl
    have e3 : Builtin.copy_ ts t (v1 :: v2 :: us).toArray = Builtin.copy_ #[t0, u] t #[v1, v2] := by
      simp only [Builtin.copy_, e1]
      rfl
    simp [builtin, e3, q1]
  · obtain ⟨hm, rfl⟩ := map_some_pair h
    obtain ⟨v, q1, q2⟩ := minmax_run (P := X.P) (ts := ts) (t := t) hv hm
    simp only [Bool.false_eq_true, if_false] at q1
    exact Goes.value (by simp [builtin, q1]) (Post.same hs q2)
  · obtain ⟨hm, rfl⟩ := map_some_pair h
    obtain ⟨v, q1, q2⟩ := minmax_run (P := X.P) (ts := ts) (t := t) hv hm
    simp only [if_true] at q1
    exact Goes.value (by simp [builtin, q1]) (Post.same hs q2)
  · rename_i t0 tr x xr hts
    obtain ⟨v, us, rfl, r1, _⟩ := repL_cons hv
    obtain ⟨rv, w1, q1, q2⟩ := clear_run (P := X.P) (ty := t) (ts := ts) (us := (v :: us).toArray) (by rw [← Array.getElem?_toList, hts]; rfl) (by simp) hs r1 h
    exact Goes.value (w' := w1) (v := rv) (by simp [builtin, q1]) q2
  · cases h

theorem zeroCell_run {t : TypeId} {cs : List D} (hs : Sim X ok w ι H) (h : (zeroOf X.P t).bind cellsOf = some cs) : ∃ v w', (Instr.alloc t true (.tuple #[])).run X.P w = .ok v w' ∧ Post X H.length ok w ι H (.optr H.length cs.length 0) (newBlk H cs) v w' := by
  cases hz : zeroOf X.P t with
  | none => simp [hz] at h
  | some z =>
    simp only [hz, Option.bind_some] at h
    obtain ⟨zv, z1, z2⟩ := zeroOf_run hz
    obtain ⟨c1, c2, c3⟩ := cellsOf_rep (z2 ok w ι H) h
    obtain ⟨ι', n1, n2, n3⟩ := new_run (e := t) (arr := zv.cells) (ds := cs) hs w ⟨rfl, rfl, rfl⟩ rfl (by omega)
      (fun j hj => by
        have hj' : cs[j]? = some (cs[j]'(by omega)) := List.getElem?_eq_getElem (by omega)
        exact (c3 j _ hj').oneCell (c2 _ (mem_of_get? hj')))
      c2 c3
    refine ⟨.pointer (some ⟨w.heap.size, 0, none⟩), w.alloc (.cells zv.cells t), by simp [Instr.alloc, z1, newVar, newRow], ι', ok, n1, ?_, n2⟩
    refine .optr _ (by rw [length_newBlk]; omega) fun ds hd => ?_
    rw [hget_newBlk_same] at hd
    injection hd with hd
    subst hd
    exact ⟨Nat.le_refl _, fun _ => ⟨_, _, n3, rfl⟩⟩

theorem box_run {t : TypeId} {d : D} {v : Value} {cs : List D} (hs : Sim X ok w ι H) (hd : Rep ok w ι H d v) (h : cellsOf d = some cs) : ∃ v' w', (Instr.box t v).run X.P w = .ok v' w' ∧ Post X H.length ok w ι H (.optr H.length cs.length 0) (newBlk H cs) v' w' := by
  obtain ⟨c1, c2, c3⟩ := cellsOf_rep hd h
  obtain ⟨ι', n1, n2, n3⟩ := new_run (e := t) (arr := v.cells) (ds := cs) hs w ⟨rfl, rfl, rfl⟩ rfl (by omega)
    (fun j hj => by
      have hj' : cs[j]? = some (cs[j]'(by omega)) := List.getElem?_eq_getElem (by omega)
      exact (c3 j _ hj').oneCell (c2 _ (mem_of_get? hj')))
    c2 c3
  refine ⟨.pointer (some ⟨w.heap.size, 0, none⟩), w.alloc (.cells v.cells t), by simp [Instr.box, newVar, newRow], ι', ok, n1, ?_, n2⟩
  refine .optr _ (by rw [length_newBlk]; omega) fun ds hd => ?_
  rw [hget_newBlk_same] at hd
  injection hd with hd
  subst hd
  exact ⟨Nat.le_refl _, fun _ => ⟨_, _, n3, rfl⟩⟩

theorem opt_arg (hs : Sim X ok w ι H) {e : Env} {a : Act} (he : EnvRep ok w ι H e a.tmps) {x : Operand} {d : D} (h : opd X e x = some d) : ∀ y, some d = some y → ∃ v, (some x : Option Operand).map a.eval = some v ∧ Rep ok w ι H y v := by
  intro y hy
  injection hy with hy
  subst hy
  exact ⟨_, rfl, opd_rep hs he h⟩

theorem op_goes {F : CallF} (hF : SoundF X F) {o : Oper} {e : Env} {a : Act} {d : D} (hs : Sim X ok w ι H) (he : EnvRep ok w ι H e a.tmps) (h : evOp X F o.op e H = some (d, H')) :
    Goes X.P (execOp a.eval o) w (Post X H.length ok w ι H d H') := by
  have pure_ : ∀ {v : Value} {d : D}, Rep ok w ι H d v → ∀ {s : Sem Next}, s.run X.P w = .ok (.value v) w → Goes X.P s w (Post X H.length ok w ι H d H) := fun hr _ h => Goes.value h (Post.same hs hr)
  unfold evOp at h
  split at h
  · rename_i x ho
    obtain ⟨h1, rfl⟩ := map_some_pair h
    exact pure_ (opd_rep hs he h1) (by simp [execOp, ho])
  · rename_i x ho
    obtain ⟨h1, rfl⟩ := map_some_pair h
    exact pure_ (opd_rep hs he h1) (by simp [execOp, ho])
  · rename_i c x y ho
    split at h
    · rename_i t hc
      obtain ⟨h1, rfl⟩ := map_some_pair h
      have hb := opd_rep hs he hc
      generalize hcv : a.eval c = cv at hb
      cases hb
      refine pure_ (v := a.eval (if t then x else y)) (opd_rep hs he h1) ?_
      cases t <;> simp [execOp, ho, hcv, asBool]
    · cases h
  · rename_i t ho
    split at h
    · rename_i cs hz
      injection h with h
      injection h with h1 h2
      subst h1; subst h2
      obtain ⟨v, w1, q1, q2⟩ := zeroCell_run hs hz
      exact Goes.value (by simp [execOp, ho, q1]) q2
    · cases h
  · rename_i t x ho
    split at h
    · rename_i cs hz
      split at h
      · injection h with h
        injection h with h1 h2
        subst h1; subst h2
        cases hx : opd X e x with
        | none => simp [hx] at hz
        | some dx =>
          simp only [hx, Option.bind_some] at hz
          obtain ⟨v, w1, q1, q2⟩ := box_run (t := t) hs (opd_rep hs he hx) hz
          exact Goes.value (by simp [execOp, ho, q1]) q2
      · cases h
    · cases h
  · rename_i t parts ho
    split at h
    · rename_i ps hps
      obtain ⟨h1, rfl⟩ := map_some_pair h
      obtain ⟨v, q1, q2⟩ := build_run (P := X.P) (vps := parts.map fun (i, x) => (i, a.eval x)) (by simpa using partsD_rep hs he hps) h1
      exact pure_ q2 (by simp [execOp, ho, q1])
    · cases h
  · rename_i t len parts ho
    split at h
    · rename_i ps hps
      obtain ⟨v, w1, q1, q2⟩ := buildSlice_run (P := X.P) (vps := parts.map fun (i, x) => (i, a.eval x)) hs (by simpa using partsD_rep hs he hps) h
      exact Goes.value (by simp [execOp, ho, q1]) q2
    · cases h
  · rename_i t p ho
    split at h
    · rename_i pd hp
      obtain ⟨h1, rfl⟩ := map_some_pair h
      obtain ⟨v, q1, q2⟩ := load_run hs (opd_rep hs he hp) h1
      exact pure_ q2 (by simp [execOp, ho, q1])
    · cases h
  · rename_i t p x ho
    split at h
    · rename_i pd xd hp hx
      cases hst : stD X.P H t pd xd with
      | none => simp [hst] at h
      | some H1 =>
        simp only [hst, Option.map_some, Option.some.injEq, Prod.mk.injEq] at h
        obtain ⟨rfl, rfl⟩ := h
        obtain ⟨w1, ι', q1, q2, q3⟩ := store_run hs (opd_rep hs he hp) (opd_rep hs he hx) hst
        exact Goes.skip (by simp [execOp, ho, q1]) ⟨ι', ok, q2, .tup rfl (by simp), q3⟩
    · cases h
  · rename_i x ho
    split at h
    · rename_i cs hx
      injection h with h
      injection h with h1 h2
      subst h1; subst h2
      have hb := opd_rep hs he hx
      generalize hcv : a.eval x = cv at hb
      refine pure_ hb ?_
      cases hb
      simp [execOp, ho, hcv]
    · rename_i i st off hx
      injection h with h
      injection h with h1 h2
      subst h1; subst h2
      have hb := opd_rep hs he hx
      generalize hcv : a.eval x = cv at hb
      refine pure_ hb ?_
      cases hb
      simp [execOp, ho, hcv]
    · rename_i f caps hx
      injection h with h
      injection h with h1 h2
      subst h1; subst h2
      have hb := opd_rep hs he hx
      generalize hcv : a.eval x = cv at hb
      refine pure_ hb ?_
      cases hb
      simp [execOp, ho, hcv]
    · rename_i t d hx
      injection h with h
      injection h with h1 h2
      subst h1; subst h2
      have hb := opd_rep hs he hx
      generalize hcv : a.eval x = cv at hb
      refine pure_ hb ?_
      cases hb
      simp [execOp, ho, hcv]
    · cases h
  · rename_i op t x y yt ho
    split at h
    · rename_i p q hx hy
      obtain ⟨h1, rfl⟩ := map_some_pair h
      obtain ⟨v, q1, q2⟩ := binOp_run (P := X.P) (x := x) (y := y) (opd_rep hs he hx) (opd_rep hs he hy) h1
      have e : execOp a.eval o = (do let r ← (do eqGuard op t x y (a.eval x) (a.eval y); binOp op t (a.eval x) (a.eval y) : Sem Value); pure (.value r)) := by simp only [execOp, ho]
      exact pure_ q2 (by rw [e, Sem.run_bind, q1]; rfl)
    · cases h
  · rename_i op t x ho
    split at h
    · rename_i p hx
      obtain ⟨h1, rfl⟩ := map_some_pair h
      obtain ⟨v, q1, q2⟩ := unD_run (P := X.P) (opd_rep hs he hx) h1
      exact pure_ q2 (by simp [execOp, ho, q1])
    · cases h
  · rename_i s t x ho
    split at h
    · rename_i p hx
      obtain ⟨v, w1, q1, q2⟩ := convert_run (P := X.P) hs (opd_rep hs he hx) h
      exact Goes.value (by simp [execOp, ho, q1]) q2
    · cases h
  · rename_i t x ho
    split at h
    · cases h
    · rename_i p u hu hx hni
      injection h with h
      injection h with h1 h2
      subst h1; subst h2
      refine pure_ (.iface (opd_rep hs he hx)) ?_
      simp only [execOp, ho, Instr.makeInterface, Sem.run_bind, run_underlying hni, Result.andThen_ok]
      cases u <;> first | rfl | exact absurd rfl (hu _)
    · cases h
  · rename_i f first caps ho
    split at h
    · rename_i hfe
      cases hcs : opds X e caps.toList with
      | none => simp [hcs] at h
      | some cs =>
        simp only [hcs, Option.map_some, Option.some.injEq, Prod.mk.injEq] at h
        obtain ⟨rfl, rfl⟩ := h
        obtain ⟨l1, l2⟩ := opds_rep hs he hcs
        have hf0 : first = #[] := by simpa using hfe
        subst hf0
        refine pure_ (v := .func (.func f) #[] (caps.map a.eval)) (.fn (by simpa using l1) fun j d hj => ?_) (by simp [execOp, ho, Instr.makeFunc])
        have := l2 j d hj
        simpa [Array.getD_eq_getD_getElem?, List.getD_eq_getElem?_getD] using this
    · cases h
  · rename_i t l c ho
    split at h
    · rename_i ld cd hl hc
      obtain ⟨v, w1, q1, q2⟩ := makeSlice_run (P := X.P) hs (opd_rep hs he hl) (opd_rep hs he hc) h
      exact Goes.value (by simp [execOp, ho, q1]) q2
    · cases h
  · rename_i t x lo hi ho
    split at h
    · rename_i p hx hlo hhi
      obtain ⟨h1, rfl⟩ := map_some_pair h
      have e1 : lo = none := by cases lo <;> simp_all
      have e2 : hi = none := by cases hi <;> simp_all
      subst e1; subst e2
      obtain ⟨v, q1, q2⟩ := sliceAt_run (P := X.P) (lov := none) (hiv := none) hs (opd_rep hs he hx) (fun _ h => by cases h) (fun _ => rfl) (fun _ h => by cases h) (fun _ => rfl) h1
      exact pure_ q2 (by simp [execOp, ho, q1])
    · rename_i p l hx hlo hhi
      obtain ⟨h1, rfl⟩ := map_some_pair h
      have e2 : hi = none := by cases hi <;> simp_all
      subst e2
      cases lo with
      | none => simp at hlo
      | some lo =>
        simp only [Option.map_some, Option.some.injEq] at hlo
        obtain ⟨v, q1, q2⟩ := sliceAt_run (P := X.P) (lov := some (a.eval lo)) (hiv := none) hs (opd_rep hs he hx) (opt_arg hs he hlo) (fun h => by cases h) (fun _ h => by cases h) (fun _ => rfl) h1
        exact pure_ q2 (by simp [execOp, ho, q1])
    · rename_i p l hx hlo hhi
      obtain ⟨h1, rfl⟩ := map_some_pair h
      have e1 : lo = none := by cases lo <;> simp_all
      subst e1
      cases hi with
      | none => simp at hhi
      | some hi =>
        simp only [Option.map_some, Option.some.injEq] at hhi
        obtain ⟨v, q1, q2⟩ := sliceAt_run (P := X.P) (lov := none) (hiv := some (a.eval hi)) hs (opd_rep hs he hx) (fun _ h => by cases h) (fun _ => rfl) (opt_arg hs he hhi) (fun h => by cases h) h1
        exact pure_ q2 (by simp [execOp, ho, q1])
    · rename_i p l l' hx hlo hhi
      obtain ⟨h1, rfl⟩ := map_some_pair h
      cases lo with
      | none => simp at hlo
      | some lo =>
        cases hi with
        | none => simp at hhi
        | some hi =>
          simp only [Option.map_some, Option.some.injEq] at hlo hhi
          obtain ⟨v, q1, q2⟩ := sliceAt_run (P := X.P) (lov := some (a.eval lo)) (hiv := some (a.eval hi)) hs (opd_rep hs he hx) (opt_arg hs he hlo) (fun h => by cases h) (opt_arg hs he hhi) (fun h => by cases h) h1
          exact pure_ q2 (by simp [execOp, ho, q1])
    · cases h
  · rename_i s x f ho
    split at h
    · rename_i p hx
      obtain ⟨h1, rfl⟩ := map_some_pair h
      obtain ⟨v, q1, q2⟩ := fieldAt_run (P := X.P) (opd_rep hs he hx) h1
      exact pure_ q2 (by simp [execOp, ho, q1])
    · cases h
  · rename_i s x f ho
    split at h
    · rename_i p hx
      obtain ⟨h1, rfl⟩ := map_some_pair h
      obtain ⟨v, q1, q2⟩ := field_run (P := X.P) (opd_rep hs he hx) h1
      exact pure_ q2 (by simp [execOp, ho, q1])
    · cases h
  · rename_i t x i ho
    split at h
    · rename_i p q hx hy
      obtain ⟨h1, rfl⟩ := map_some_pair h
      obtain ⟨v, q1, q2⟩ := indexAt_run (P := X.P) (opd_rep hs he hx) (opd_rep hs he hy) h1
      exact pure_ q2 (by simp [execOp, ho, q1])
    · cases h
  · rename_i t x i ho
    split at h
    · rename_i p q hx hy
      obtain ⟨h1, rfl⟩ := map_some_pair h
      obtain ⟨v, q1, q2⟩ := index_run (P := X.P) (opd_rep hs he hx) (opd_rep hs he hy) h1
      exact pure_ q2 (by simp [execOp, ho, q1])
    · cases h
  · rename_i x i ho
    split at h
    · rename_i cs hx
      obtain ⟨h1, rfl⟩ := map_some_pair h
      have hb := opd_rep hs he hx
      generalize hcv : a.eval x = cv at hb
      cases hb with
      | @tup _ _ _ vs hl hh =>
        have hlt : i < vs.size := by rw [hl]; exact (List.getElem?_eq_some_iff.1 h1).1
        have hr := hh i d h1
        rw [Array.getD_eq_getD_getElem?, Array.getElem?_eq_getElem hlt] at hr
        exact pure_ (v := vs[i]) hr (by simp [execOp, ho, hcv, Instr.extract, hlt])
    · cases h
  · rename_i c ho
    split at h
    · rename_i b args hcal hargs
      have hv := opds_rep hs he hargs
      have := builtin_sound (t := o.type) (cst := c.args.map fun | .const _ => true | _ => false) hs hv h
      have e : execOp a.eval o = builtin b c.argTypes o.type (c.args.map fun | .const _ => true | _ => false) (c.args.toList.map a.eval).toArray := by
        simp only [execOp, ho, resolve, hcal]
        simp only [pure_bind, invoke]
        congr 1
        apply Array.ext'
        simp
      rw [e]
      exact this
    · rename_i g args hcal hargs
      split at h
      · rename_i f caps hg
        have hv := opds_rep hs he hargs
        have hb := opd_rep hs he hg
        generalize hcv : a.eval g = cv at hb
        cases hb with
        | @fn _ _ _ _ vs hl hh =>
          have := callD_sound hF h hs (RepL.append hv (repL_fn hl hh))
          have e : execOp a.eval o = callFunc f ((c.args.toList.map a.eval) ++ vs.toList).toArray := by
            simp only [execOp, ho, resolve, hcal, hcv, Deferred.ofValue]
            simp only [pure_bind, invoke]
            congr 1
            apply Array.ext'
            simp
          rw [e]
          exact this
      · cases h
    · cases h
  · cases h

end
end Go.Ev
/-
  Texts of slices and of bytes told by value: what a region that draws its order makes.
-/
namespace Go.Ev

section
variable {X : Cx} {P : Program} {ok ok' : Nat → Prop} {w w' : World} {ι : Iota} {H H' : Heap}

theorem step_lit {ds : List D} {b len c : Nat} {arr : Array Value} {e : TypeId} {fr : Nat × Nat} (hs : Sim X ok w ι H) (hw : SameS w w') (hsz : w.heap.size ≤ w'.heap.size) (hfr : ∀ c, c < w.heap.size → w'.heap[c]? = w.heap[c]?)
    (hb : w'.heap[b]? = some (.cells arr e fr)) (hloc : w.heap.size ≤ b) (hfit : ds.length ≤ arr.size) (hcell : ∀ d, d ∈ ds → isCell d = true) (hfree : ds.all idFree = true) (hlc : len ≤ c)
    (hrep : ∀ (j : Nat) d, ds[j]? = some d → Rep ok w ι H d (arr.getD j undef)) :
    Post X H.length ok w ι H (.vsl false ds len) H (.slice (some ⟨b, 0, none⟩) len c) w' := by
  have hblt : b < w'.heap.size := (Array.getElem?_eq_some_iff.1 hb).1
  have hev : Evol H.length ok w ι H (fun x => ok x ∨ x = b) w' ι H :=
    ⟨hw.1, hw.2.1, hw.2.2, hsz, fun c hc _ => hfr c hc, fun _ h => .inl h, fun x hx hlt => by
      rcases hx with hx | hx
      · exact .inl hx
      · omega, ⟨Nat.le_refl _, Nat.le_refl _⟩, fun _ _ ds hd => ⟨ds, hd, Nat.le_refl _, fun _ => rfl⟩, fun i ds _ s hd hi _ => ⟨i, ds, s, hd, hi⟩⟩
  have hsim : Sim X (fun x => ok x ∨ x = b) w' ι H := by
    refine ⟨fun x hx => ?_, fun g cs hg => (((hs.glob g cs hg).lift (ι := ι) (H := H)).evol hs hev rfl).free rfl _ _, hs.inj, fun i es hd => ?_⟩
    · rcases hx with hx | hx
      · exact Nat.lt_of_lt_of_le (hs.okS x hx) hsz
      · omega
    · obtain ⟨b', arr', e', fr', q1, q2, q3, q4, q5, q6, q7, q8⟩ := hs.blk i es hd
      have hlt := hs.lt hd q1
      refine ⟨b', arr', e', fr', q1, fun h => ?_, by rw [hfr b' hlt]; exact q3, q4, q5, q6, q7, fun j d hj => (q8 j d hj).evol hs hev (q8 j d hj).closed⟩
      rcases h with h | h
      · exact q2 h
      · omega
  refine ⟨ι, _, hsim, .vsl _ (fun j => arr.getD j undef) (fun _ _ => .inr rfl) hcell (fun j d hj => ?_) (fun j d hj => ?_) hlc, hev⟩
  · have hlt : j < arr.size := Nat.lt_of_lt_of_le (List.getElem?_eq_some_iff.1 hj).1 hfit
    rw [addr_add, Nat.zero_add, cell_of_heap hb]
    simp [hlt]
  · exact ((hrep j d hj).evol hs hev (hrep j d hj).closed).free (allFree hfree d (mem_of_get? hj)) _ _

theorem litSlice_run {t : TypeId} {len : Nat} {parts : List (Nat × D)} {vps : Array (Nat × Value)} {i st o n k : Nat} {ds : List D} (hs : Sim X ok w ι H) (hp : RepParts ok w ι H parts vps.toList) (h : buildSliceD X.P [] t len parts = some (.osl i st o n k, [some ds])) :
    ∃ v w', (Instr.buildSlice t len vps).run X.P w = .ok v w' ∧ Post X H.length ok w ι H (.vsl false ds len) H v w' := by
  unfold buildSliceD at h
  split at h
  · rename_i e hu
    split at h
    · rename_i z hz
      split at h
      · rename_i hsmall
        cases hf : fillD (fun i => some (i * szOf X.P e, szOf X.P e)) z parts with
        | none => simp [hf] at h
        | some cs =>
          simp only [hf, Option.bind_some] at h
          split at h
          · rename_i hcs0
            have hcs : cs.all idFree = true ∧ cs.length = len * szOf X.P e := ⟨hcs0.1.resolve_left (by simp), hcs0.2⟩
            clear hcs0
            simp only [newBlk, List.nil_append, Option.some.injEq, Prod.mk.injEq, List.cons.injEq, and_true] at h
            obtain ⟨_, h2⟩ := h
            subst h2
            obtain ⟨zv, z1, z2, z3, z4, z5, z6, z7⟩ := zeroCells_run hz
            obtain ⟨zc, hzc1, hzc2, hzget⟩ : ∃ zc : Array Value, (len * szOf X.P e = 0 → zc = #[]) ∧ (¬ len * szOf X.P e = 0 → zc = zv.cells) ∧
                ∀ j, j < len * szOf X.P e → ((Array.range (len * szOf X.P e)).map (zc[· % zc.size]!)).getD j undef = zv.cells.getD (j % szOf X.P e) undef := by
              by_cases h0 : len * szOf X.P e = 0
              · exact ⟨#[], fun _ => rfl, fun h => absurd h0 h, fun j hj => by omega⟩
              · refine ⟨zv.cells, fun h => absurd h h0, fun _ => rfl, fun j hj => ?_⟩
                rw [zeroRow_get (by omega) hj, z2]
            obtain ⟨arr, q1, q2, q3, q4, q5⟩ := fill_run (place := fun i => some (i * szOf X.P e, szOf X.P e)) (arr := (Array.range (len * szOf X.P e)).map (zc[· % zc.size]!)) hp (by simp [z4]) z5
              (fun j d hj => by
                rw [hzget j (by have := (List.getElem?_eq_some_iff.1 hj).1; omega)]
                exact z7 ok w ι H j d hj) hf
            refine ⟨.slice (some ⟨w.heap.size, 0, none⟩) len len, w.alloc (.cells arr e), ?_, step_lit hs ⟨rfl, rfl, rfl⟩ (by simp) (fun c hc => heap_alloc_old w _ hc) (heap_alloc_new w _) (Nat.le_refl _) (by omega) q3 hcs.1 (Nat.le_refl _) q4⟩
            simp only [Instr.buildSlice, Sem.run_bind, run_underlying hu, Result.andThen_ok, sizeOf_run z3]
            rw [if_neg (by simpa using hsmall)]
            by_cases h0 : len * szOf X.P e = 0
            · rw [hzc1 h0] at q1
              rw [if_pos h0]
              simp only [Sem.run_bind, Sem.run_pure, Result.andThen_ok, q1]
              simp [newRow]
            · rw [hzc2 h0] at q1
              rw [if_neg h0]
              simp only [Sem.run_bind, Sem.run_pure, Result.andThen_ok, z1, q1]
              simp [newRow]
          · cases h
      · cases h
    · cases h
  · cases h

theorem litBytes_run {src dst e : TypeId} {u : TypeDesc} {s : List UInt8} (hs : Sim X ok w ι H) (h1 : X.P.underlying src = some u) (h2 : X.P.underlying dst = some (.slice e)) (he : X.P.underlying e = some (.int .u8)) :
    ∃ v w', (convert src dst (.string ⟨s.toArray⟩)).run X.P w = .ok v w' ∧ Post X H.length ok w ι H (.vsl false (ofBytes s) s.length) H v w' := by
  have hsz : (⟨s.toArray⟩ : ByteArray).size = s.length := by simp [ByteArray.size]
  have hge := grownCap_ge w s.length 0 e
  have hbs : (Lib.bytesCells w e ⟨s.toArray⟩).size = grownCap w s.length 0 e := by
    unfold Lib.bytesCells
    simp only [Array.size_append, Array.size_map, Array.size_replicate, hsz]
    simp
    omega
  have hbg : ∀ j, j < s.length → (Lib.bytesCells w e ⟨s.toArray⟩).getD j undef = (ofBytesV s).getD j undef := by
    intro j hj
    unfold Lib.bytesCells ofBytesV
    rw [Array.getD_eq_getD_getElem?, Array.getElem?_append_left (by simpa using hj), List.getD_eq_getElem?_getD]
    simp
  have hrun := Lib.run_convert_string_bytes w src dst e ⟨s.toArray⟩ h1 h2 he
  rw [hsz] at hrun
  refine ⟨_, _, hrun, step_lit (w' := Lib.bytesWorld w e ⟨s.toArray⟩) (b := w.heap.size) (arr := Lib.bytesCells w e ⟨s.toArray⟩) (ds := ofBytes s) hs
    (by
      refine ⟨?_, ?_, ?_⟩ <;> (unfold Lib.bytesWorld World.freeze; split <;> rfl))
    (by rw [Lib.bytesWorld_size]; omega) (fun c hc => Lib.bytesWorld_at_old w e _ c hc) (Lib.bytesWorld_at_new w e _) (Nat.le_refl _) (by rw [hbs]; simpa [ofBytes] using hge)
    (fun d hd => by
      simp only [ofBytes, List.mem_map] at hd
      obtain ⟨_, _, rfl⟩ := hd
      rfl)
    (by
      rw [List.all_eq_true]
      intro d hd
      simp only [ofBytes, List.mem_map] at hd
      obtain ⟨_, _, rfl⟩ := hd
      rfl) hge
    (fun j d hj => by
      have hjs : j < s.length := by
        have := (List.getElem?_eq_some_iff.1 hj).1
        simpa [ofBytes] using this
      rw [hbg j hjs]
      exact ofBytes_rep s j d hj)⟩

theorem opW_goes {F : CallF} (hF : SoundF X F) {drw : Bool} {o : Oper} {e : Env} {a : Act} {d : D} (hs : Sim X ok w ι H) (he : EnvRep ok w ι H e a.tmps) (h : evOpW X F drw o.op e H = some (d, H')) :
    Goes X.P (execOp a.eval o) w (Post X H.length ok w ι H d H') := by
  unfold evOpW at h
  split at h
  · rename_i t len parts ho
    split at h
    · rename_i ps hps
      split at h
      · rename_i ds hb
        injection h with h
        injection h with h1 h2
        subst h1; subst h2
        obtain ⟨v, w1, q1, q2⟩ := litSlice_run (vps := parts.map fun (i, x) => (i, a.eval x)) hs (by simpa using partsD_rep hs he hps) hb
        exact Goes.value (by simp [execOp, ho, q1]) q2
      · cases h
    · cases h
  · rename_i s t x ho
    split at h
    · rename_i b u hx hu
      split at h
      · rename_i us hus hu8
        injection h with h
        injection h with h1 h2
        subst h1; subst h2
        have hb := opd_rep hs he hx
        generalize hcv : a.eval x = cv at hb
        cases hb
        obtain ⟨v, w1, q1, q2⟩ := litBytes_run (s := b) hs hus hu hu8
        exact Goes.value (by simp [execOp, ho, hcv, q1]) q2
      · cases h
    · rename_i p _ hx
      obtain ⟨v, w1, q1, q2⟩ := convert_run (P := X.P) hs (opd_rep hs he (by assumption)) h
      exact Goes.value (by simp [execOp, ho, q1]) q2
    · cases h
  · rename_i c ho
    have hh : evOp X F (.call c) e H = some (d, H') := by
      split at h
      · cases h
      · exact h
    rw [← ho] at hh
    exact op_goes hF hs he hh
  · exact op_goes hF hs he h

end
end Go.Ev
/-
  Regions that draw their order.
-/
namespace Go.Ev

section
variable {X : Cx} {ok ok' : Nat → Prop} {w w' : World} {ι : Iota} {H H' : Heap}

def edgesIn (S : Nat → Prop) (o : Oper) : Prop := ∀ e, e ∈ o.after.toList → Region.binds .any e = true → S e.on

theorem before_mem {ops : Array Oper} {S : Nat → Prop} (hcl : ∀ (i : Nat) (o : Oper), ops[i]? = some o → S i → edgesIn S o) {j i : Nat} {o : Oper} (hj : ops[j]? = some o)
    (hready : edgesIn S o) (hb : ((Region.before ops).getD j 0).testBit i = true) : S i := by
  have gen : ∀ (l pre : List Oper) (acc : Array Nat), ops.toList = pre ++ l → acc.size = pre.length → (∀ j i, (acc.getD j 0).testBit i = true → ∀ o, ops[j]? = some o → edgesIn S o → S i) →
      ∀ j i, ((l.foldl (fun acc o => acc.push (o.after.foldl (fun s e => if Region.binds .any e then s ||| 2 ^ e.on ||| acc.getD e.on 0 else s) 0)) acc).getD j 0).testBit i = true → ∀ o, ops[j]? = some o → edgesIn S o → S i := by
    intro l
    induction l with
    | nil => intro pre acc _ _ h; exact h
    | cons o l ih =>
      intro pre acc he hsz hacc
      simp only [List.foldl_cons]
      refine ih (pre ++ [o]) _ (by rw [he]; simp) (by simp [hsz]) ?_
      intro j i hi o' ho' hed
      by_cases hlt : j < acc.size
      · have : (acc.push (o.after.foldl (fun s e => if Region.binds .any e then s ||| 2 ^ e.on ||| acc.getD e.on 0 else s) 0)).getD j 0 = acc.getD j 0 := by
          simp only [Array.getD_eq_getD_getElem?]
          rw [Array.getElem?_push, if_neg (by omega)]
        rw [this] at hi
        exact hacc j i hi o' ho' hed
      · by_cases hje : j = acc.size
        · subst hje
          have : (acc.push (o.after.foldl (fun s e => if Region.binds .any e then s ||| 2 ^ e.on ||| acc.getD e.on 0 else s) 0)).getD acc.size 0 = o.after.foldl (fun s e => if Region.binds .any e then s ||| 2 ^ e.on ||| acc.getD e.on 0 else s) 0 := by
            simp only [Array.getD_eq_getD_getElem?]
            rw [Array.getElem?_push, if_pos rfl]
            rfl
          rw [this] at hi
          have hoo : o' = o := by
            have h1 : ops.toList[acc.size]? = some o := by rw [he, hsz]; simp
            rw [Array.getElem?_toList, ho'] at h1
            injection h1
          subst hoo
          rw [← Array.foldl_toList] at hi
          have inner : ∀ (es : List Edge) (s : Nat), (∀ e, e ∈ es → e ∈ o'.after.toList) → (∀ i, s.testBit i = true → S i) →
              ∀ i, (es.foldl (fun s e => if Region.binds .any e then s ||| 2 ^ e.on ||| acc.getD e.on 0 else s) s).testBit i = true → S i := by
            intro es
            induction es with
            | nil => intro s _ hs i hi; exact hs i hi
            | cons e es ih2 =>
              intro s hes hs i hi
              simp only [List.foldl_cons] at hi
              refine ih2 _ (fun x hx => hes x (List.mem_cons_of_mem _ hx)) ?_ i hi
              intro i hi
              split at hi
              · rename_i hbe
                rw [Nat.testBit_or, Nat.testBit_or] at hi
                simp only [Bool.or_eq_true] at hi
                have hse := hed e (hes e (List.mem_cons_self ..)) hbe
                rcases hi with (hi | hi) | hi
                · exact hs i hi
                · rw [Nat.testBit_two_pow] at hi
                  have : e.on = i := by simpa using hi
                  rw [← this]
                  exact hse
                · by_cases hlt2 : e.on < acc.size
                  · have hlo : e.on < ops.size := by
                      have : ops.toList.length = pre.length + (o' :: l).length := by rw [he]; simp
                      simp at this
                      omega
                    have ho := Array.getElem?_eq_getElem hlo
                    exact hacc e.on i hi _ ho (hcl e.on _ ho hse)
                  · simp only [Array.getD_eq_getD_getElem?, Array.getElem?_eq_none (show acc.size ≤ e.on by omega)] at hi
                    simp at hi
              · exact hs i hi
          exact inner _ 0 (fun _ h => h) (fun i hi => by simp at hi) i hi
        · simp only [Array.getD_eq_getD_getElem?] at hi
          rw [Array.getElem?_eq_none (by simp; omega)] at hi
          simp at hi
  have := gen ops.toList [] #[] rfl rfl (fun j i hi => by simp at hi) j i
  unfold Region.before at hb
  rw [← Array.foldl_toList] at hb
  exact this hb o hj hready

/-- One operation of the text's order. -/
def StepOf (X : Cx) (F : CallF) (nt : Nat) (bw : Option Tmp → Bool) (ops : Array Oper) (o : Oper) (e : Env) (H : Heap) (e1 : Env) (H1 : Heap) : Prop :=
  dstOk nt o.dst = true ∧ ((guardQ ops e o.guard = some true ∧ ∃ d, evOpW X F (bw o.dst) o.op e H = some (d, H1) ∧ e1 = putE e o.dst d) ∨ (guardQ ops e o.guard = some false ∧ H1 = H ∧ e1 = putE e o.dst (.tup [])))

theorem trace_exists {F : CallF} {nt : Nat} {drw : Bool} {ops : Array Oper} : ∀ {l : List Oper} {e e' : Env} {H H' : Heap}, evOps X F nt drw ops l e H = some (e', H') →
    ∃ (E : Nat → Env) (T : Nat → Heap), E 0 = e ∧ T 0 = H ∧ E l.length = e' ∧ T l.length = H' ∧ ∀ k o, l[k]? = some o → StepOf X F nt (fun _ => drw) ops o (E k) (T k) (E (k + 1)) (T (k + 1))
  | [], e, e', H, H', h => by
    simp only [evOps, Option.some.injEq, Prod.mk.injEq] at h
    obtain ⟨rfl, rfl⟩ := h
    exact ⟨fun _ => e, fun _ => H, rfl, rfl, rfl, rfl, fun k o hk => by simp at hk⟩
  | o :: l, e, e', H, H', h => by
    simp only [evOps] at h
    have key : ∀ e1 H1, StepOf X F nt (fun _ => drw) ops o e H e1 H1 → evOps X F nt drw ops l e1 H1 = some (e', H') → ∃ (E : Nat → Env) (T : Nat → Heap), E 0 = e ∧ T 0 = H ∧ E (o :: l).length = e' ∧ T (o :: l).length = H' ∧
        ∀ k x, (o :: l)[k]? = some x → StepOf X F nt (fun _ => drw) ops x (E k) (T k) (E (k + 1)) (T (k + 1)) := by
      intro e1 H1 hst hl
      obtain ⟨E, T, k1, k2, k3, k4, k5⟩ := trace_exists hl
      refine ⟨fun k => match k with | 0 => e | k + 1 => E k, fun k => match k with | 0 => H | k + 1 => T k, rfl, rfl, k3, k4, fun k x hx => ?_⟩
      cases k with
      | zero =>
        simp only [List.getElem?_cons_zero, Option.some.injEq] at hx
        subst hx
        simp only [k1, k2]
        exact hst
      | succ k => exact k5 k x (by simpa using hx)
    split at h
    · rename_i hd hg
      split at h
      · rename_i d H1 ho
        exact key _ H1 ⟨hd, .inl ⟨hg, d, ho, rfl⟩⟩ h
      · cases h
    · rename_i hd hg
      exact key _ H ⟨hd, .inr ⟨hg, rfl, rfl⟩⟩ h
    · cases h

/-- The ends of what is written and read, though no order binds them, are apart. -/
def TrOk (X : Cx) (ops : Array Oper) (L : Pairs) (E : Nat → Env) (T : Nat → Heap) : Prop :=
  ∀ i j x y, ops[i]? = some x → ops[j]? = some y → L.contains (i, j) = true → i ≠ j → guardQ ops (E i) x.guard = some true → guardQ ops (E j) y.guard = some true →
    (T i).length ≤ (T (i + 1)).length ∧ ∀ b, b ∈ idsL (y.op.operands.toList.map (opd X (E j))) → hget (T (i + 1)) b = hget (T i) b
theorem trace_existsL {F : CallF} {nt : Nat} {ow : List Nat} {ops : Array Oper} {L : Pairs} : ∀ {l : List Oper} {k : Nat} {ws : List (Nat × Heap × Heap)} {rs : List (Nat × List Nat)} {e e' : Env} {H H' : Heap}, evOpsL X F nt ow ops L k ws rs l e H = some (e', H') →
    ∃ (E : Nat → Env) (T : Nat → Heap), E 0 = e ∧ T 0 = H ∧ E l.length = e' ∧ T l.length = H' ∧ ∀ k o, l[k]? = some o → StepOf X F nt (bwD ow) ops o (E k) (T k) (E (k + 1)) (T (k + 1))
  | [], k, ws, rs, e, e', H, H', h => by
    simp only [evOpsL, Option.some.injEq, Prod.mk.injEq] at h
    obtain ⟨rfl, rfl⟩ := h
    exact ⟨fun _ => e, fun _ => H, rfl, rfl, rfl, rfl, fun k o hk => by simp at hk⟩
  | o :: l, k, ws, rs, e, e', H, H', h => by
    simp only [evOpsL] at h
    have key : ∀ e1 H1 k ws rs, StepOf X F nt (bwD ow) ops o e H e1 H1 → evOpsL X F nt ow ops L k ws rs l e1 H1 = some (e', H') → ∃ (E : Nat → Env) (T : Nat → Heap), E 0 = e ∧ T 0 = H ∧ E (o :: l).length = e' ∧ T (o :: l).length = H' ∧
        ∀ k x, (o :: l)[k]? = some x → StepOf X F nt (bwD ow) ops x (E k) (T k) (E (k + 1)) (T (k + 1)) := by
      intro e1 H1 k ws rs hst hl
      obtain ⟨E, T, k1, k2, k3, k4, k5⟩ := trace_existsL hl
      refine ⟨fun k => match k with | 0 => e | k + 1 => E k, fun k => match k with | 0 => H | k + 1 => T k, rfl, rfl, k3, k4, fun k x hx => ?_⟩
      cases k with
      | zero =>
        simp only [List.getElem?_cons_zero, Option.some.injEq] at hx
        subst hx
        simp only [k1, k2]
        exact hst
      | succ k => exact k5 k x (by simpa using hx)
    cases hd : dstOk nt o.dst with
    | false => simp [hd] at h
    | true =>
      cases hg : guardQ ops e o.guard with
      | none => simp [hd, hg] at h
      | some b =>
        cases b with
        | false =>
          simp only [hd, hg] at h
          exact key _ H _ _ _ ⟨hd, .inr ⟨hg, rfl, rfl⟩⟩ h
        | true =>
          simp only [hd, hg] at h
          cases ho : evOpW X F (bwD ow o.dst) o.op e H with
          | none => simp [ho] at h
          | some q =>
            obtain ⟨d, H1⟩ := q
            simp only [ho] at h
            split at h
            · exact key _ H1 _ _ _ ⟨hd, .inl ⟨hg, d, ho, rfl⟩⟩ h
            · cases h
theorem apartR_get {L : Pairs} {k : Nat} {bs : List Nat} : ∀ {ws : List (Nat × Heap × Heap)}, apartR L k bs ws → ∀ {i : Nat} {A B : Heap}, (i, A, B) ∈ ws → L.contains (i, k) = true → ∀ b, b ∈ bs → hget B b = hget A b
  | [], _, i, A, B, hm, _ => by cases hm
  | (i', A', B') :: ws, h, i, A, B, hm, hc => by
    rcases List.mem_cons.1 hm with hm | hm
    · injection hm with h1 h2
      injection h2 with h2 h3
      subst h1; subst h2; subst h3
      exact h.1 hc
    · exact apartR_get h.2 hm hc
theorem apartW_get {L : Pairs} {k : Nat} {A B : Heap} : ∀ {rs : List (Nat × List Nat)}, apartW L k A B rs → ∀ {j : Nat} {bs : List Nat}, (j, bs) ∈ rs → L.contains (k, j) = true → ∀ b, b ∈ bs → hget B b = hget A b
  | [], _, j, bs, hm, _ => by cases hm
  | (j', bs') :: rs, h, j, bs, hm, hc => by
    rcases List.mem_cons.1 hm with hm | hm
    · injection hm with h1 h2
      subst h1; subst h2
      exact h.1 hc
    · exact apartW_get h.2 hm hc
theorem wIn_of {L : Pairs} {i j : Nat} (h : L.contains (i, j) = true) : wIn L i = true ∧ rIn L j = true := by
  rw [List.contains_iff_mem] at h
  exact ⟨List.any_eq_true.2 ⟨_, h, by simp⟩, List.any_eq_true.2 ⟨_, h, by simp⟩⟩
theorem trOk_of {F : CallF} {nt : Nat} {ow : List Nat} {ops : Array Oper} {L : Pairs} {E : Nat → Env} {T : Nat → Heap} (hst : ∀ k o, ops[k]? = some o → StepOf X F nt (bwD ow) ops o (E k) (T k) (E (k + 1)) (T (k + 1))) :
    ∀ (l : List Oper) (k : Nat) (ws : List (Nat × Heap × Heap)) (rs : List (Nat × List Nat)) (r : Env × Heap), (∀ m, l[m]? = ops[k + m]?) → evOpsL X F nt ow ops L k ws rs l (E k) (T k) = some r →
      (∀ i x, i < k → ops[i]? = some x → wIn L i = true → guardQ ops (E i) x.guard = some true → (i, T i, T (i + 1)) ∈ ws ∧ (T i).length ≤ (T (i + 1)).length) →
      (∀ j y, j < k → ops[j]? = some y → rIn L j = true → guardQ ops (E j) y.guard = some true → (j, idsL (y.op.operands.toList.map (opd X (E j)))) ∈ rs) →
      ∀ i j x y, ops[i]? = some x → ops[j]? = some y → L.contains (i, j) = true → i ≠ j → guardQ ops (E i) x.guard = some true → guardQ ops (E j) y.guard = some true → k ≤ max i j →
        (T i).length ≤ (T (i + 1)).length ∧ ∀ b, b ∈ idsL (y.op.operands.toList.map (opd X (E j))) → hget (T (i + 1)) b = hget (T i) b
  | [], k, ws, rs, r, hl, h, hws, hrs, i, j, x, y, hi, hj, hc, hne, gi, gj, hm => by
    exfalso
    have hi' := (Array.getElem?_eq_some_iff.1 hi).1
    have hj' := (Array.getElem?_eq_some_iff.1 hj).1
    have := hl (max i j - k)
    rw [show k + (max i j - k) = max i j by omega, Array.getElem?_eq_getElem (by omega)] at this
    simp at this
  | o :: l, k, ws, rs, r, hl, h, hws, hrs, i, j, x, y, hi, hj, hc, hne, gi, gj, hm => by
    have ho : ops[k]? = some o := by have := hl 0; simpa using this.symm
    have hl' : ∀ m, l[m]? = ops[k + 1 + m]? := by
      intro m
      have := hl (m + 1)
      rw [show k + 1 + m = k + (m + 1) by omega, ← this]
      simp
    obtain ⟨hd, hcase⟩ := hst k o ho
    obtain ⟨w1, w2⟩ := wIn_of hc
    simp only [evOpsL, hd] at h
    rcases hcase with ⟨hg, d, hop, hE⟩ | ⟨hg, hT, hE⟩
    · simp only [hg, hop] at h
      split at h
      · rename_i hchk
        rw [← hE] at h
        have hws' : ∀ i x, i < k + 1 → ops[i]? = some x → wIn L i = true → guardQ ops (E i) x.guard = some true → (i, T i, T (i + 1)) ∈ (if wIn L k then (k, T k, T (k + 1)) :: ws else ws) ∧ (T i).length ≤ (T (i + 1)).length := by
          intro i x hik hi hwi hgi
          by_cases hik' : i = k
          · subst hik'
            rw [if_pos hwi]
            exact ⟨List.mem_cons_self .., (hchk.2 hwi).1⟩
          · obtain ⟨q1, q2⟩ := hws i x (by omega) hi hwi hgi
            refine ⟨?_, q2⟩
            split
            · exact List.mem_cons_of_mem _ q1
            · exact q1
        have hrs' : ∀ j y, j < k + 1 → ops[j]? = some y → rIn L j = true → guardQ ops (E j) y.guard = some true → (j, idsL (y.op.operands.toList.map (opd X (E j)))) ∈ (if rIn L k then (k, idsL (o.op.operands.toList.map (opd X (E k)))) :: rs else rs) := by
          intro j y hjk hj hrj hgj
          by_cases hjk' : j = k
          · subst hjk'
            rw [ho] at hj
            injection hj with hj
            subst hj
            rw [if_pos hrj]
            exact List.mem_cons_self ..
          · have q1 := hrs j y (by omega) hj hrj hgj
            split
            · exact List.mem_cons_of_mem _ q1
            · exact q1
        by_cases hmk : k + 1 ≤ max i j
        · exact trOk_of hst l (k + 1) _ _ r hl' h hws' hrs' i j x y hi hj hc hne gi gj hmk
        · obtain ⟨q1, q2⟩ := hws' i x (by omega) hi w1 gi
          refine ⟨q2, ?_⟩
          by_cases hik : i = k
          · subst hik
            rw [ho] at hi
            injection hi with hi
            subst hi
            exact apartW_get (hchk.2 w1).2 (hrs j y (by omega) hj w2 gj) hc
          · have hjk : j = k := by omega
            subst hjk
            rw [ho] at hj
            injection hj with hj
            subst hj
            exact apartR_get (hchk.1 w2) (hws i x (by omega) hi w1 gi).1 hc
      · cases h
    · simp only [hg] at h
      rw [← hE, ← hT] at h
      have hno : ∀ {q : Nat} {z : Oper}, ops[q]? = some z → guardQ ops (E q) z.guard = some true → q ≠ k := by
        rintro q z hq gq rfl
        rw [ho] at hq
        injection hq with hq
        subst hq
        rw [hg] at gq
        cases gq
      have n1 := hno hi gi
      have n2 := hno hj gj
      exact trOk_of hst l (k + 1) ws rs r hl' h (fun i x hik hi hwi hgi => hws i x (by have := hno hi hgi; omega) hi hwi hgi) (fun j y hjk hj hrj hgj => hrs j y (by have := hno hj hgj; omega) hj hrj hgj) i j x y hi hj hc hne gi gj (by omega)

theorem opd_congr {e1 e2 : Env} {x : Operand} (h : ∀ t, t ∈ tmpOf x → look e1 t = look e2 t) : opd X e1 x = opd X e2 x := by
  cases x with
  | tmp t => exact h t (by simp [tmpOf])
  | _ => rfl

theorem opds_congr {e1 e2 : Env} : ∀ {l : List Operand}, (∀ x, x ∈ l → opd X e1 x = opd X e2 x) → opds X e1 l = opds X e2 l
  | [], _ => rfl
  | x :: l, h => by
    simp only [opds, h x (List.mem_cons_self ..), opds_congr (fun y hy => h y (List.mem_cons_of_mem _ hy))]

theorem partsD_congr {e1 e2 : Env} : ∀ {l : List (Nat × Operand)}, (∀ x, x ∈ l.map (·.2) → opd X e1 x = opd X e2 x) → partsD X e1 l = partsD X e2 l
  | [], _ => rfl
  | (i, x) :: l, h => by
    simp only [partsD, h x (by simp), partsD_congr (l := l) (fun y hy => h y (by simp only [List.map_cons, List.mem_cons]; exact .inr hy))]

theorem evOp_congr {F : CallF} {o : Op} {e1 e2 : Env} (h : ∀ x, x ∈ o.operands.toList → opd X e1 x = opd X e2 x) : evOp X F o e1 H = evOp X F o e2 H := by
  cases o with
  | build t parts =>
    simp only [evOp]
    rw [partsD_congr (e2 := e2) (fun x hx => h x (by simpa [Op.operands] using hx))]
  | buildSlice t n parts =>
    simp only [evOp]
    rw [partsD_congr (e2 := e2) (fun x hx => h x (by simpa [Op.operands] using hx))]
  | makeFunc fn first caps =>
    cases fn with
    | func f =>
      simp only [evOp]
      rw [opds_congr (e2 := e2) (fun x hx => h x (by
        simp only [Op.operands, Array.toList_append, List.mem_append]
        exact .inr hx))]
    | _ => rfl
  | slice t x lo hi mx =>
    cases mx with
    | none =>
      have hx := h x (by simp [Op.operands])
      have hlo : lo.map (opd X e1) = lo.map (opd X e2) := by
        cases lo with
        | none => rfl
        | some l => simp [h l (by simp [Op.operands])]
      have hhi : hi.map (opd X e1) = hi.map (opd X e2) := by
        cases hi with
        | none => rfl
        | some l => simp [h l (by simp [Op.operands])]
      simp only [evOp, hx, hlo, hhi]
    | some m => rfl
  | call c =>
    simp only [evOp]
    have ha : opds X e1 c.args.toList = opds X e2 c.args.toList := opds_congr fun x hx => h x (by
      simp only [Op.operands, Call.operands, Array.toList_append, List.mem_append]
      exact .inr hx)
    rw [ha]
    cases hc : c.callee with
    | builtin b => cases opds X e2 c.args.toList <;> rfl
    | value g =>
      have hg := h g (by simp [Op.operands, Call.operands, hc])
      cases opds X e2 c.args.toList with
      | none => rfl
      | some args => simp only [hg]
    | invoke r m => cases opds X e2 c.args.toList <;> rfl
  | pick c a b =>
    simp only [evOp]
    rw [h c (by simp [Op.operands])]
    split
    · rename_i t _
      cases t
      · simp only [Bool.false_eq_true, if_false]; rw [h b (by simp [Op.operands])]
      · simp only [if_true]; rw [h a (by simp [Op.operands])]
    · rfl
  | move x => simp only [evOp, h x (by simp [Op.operands])]
  | assign x => simp only [evOp, h x (by simp [Op.operands])]
  | box t x => simp only [evOp, h x (by simp [Op.operands])]
  | load t x => simp only [evOp, h x (by simp [Op.operands])]
  | store t x y => simp only [evOp, h x (by simp [Op.operands]), h y (by simp [Op.operands])]
  | nilCheck x => simp only [evOp, h x (by simp [Op.operands])]
  | binOp op t x y u => simp only [evOp, h x (by simp [Op.operands]), h y (by simp [Op.operands])]
  | unOp op t x => simp only [evOp, h x (by simp [Op.operands])]
  | convert s d x => simp only [evOp, h x (by simp [Op.operands])]
  | makeInterface t x => simp only [evOp, h x (by simp [Op.operands])]
  | makeSlice t x y => simp only [evOp, h x (by simp [Op.operands]), h y (by simp [Op.operands])]
  | fieldAddr s x f => simp only [evOp, h x (by simp [Op.operands])]
  | field s x f => simp only [evOp, h x (by simp [Op.operands])]
  | indexAddr t x y => simp only [evOp, h x (by simp [Op.operands]), h y (by simp [Op.operands])]
  | index t x y => simp only [evOp, h x (by simp [Op.operands]), h y (by simp [Op.operands])]
  | extract x i => simp only [evOp, h x (by simp [Op.operands])]
  | _ => rfl

theorem evOpW_congr {F : CallF} {drw : Bool} {o : Op} {e1 e2 : Env} (h : ∀ x, x ∈ o.operands.toList → opd X e1 x = opd X e2 x) : evOpW X F drw o e1 H = evOpW X F drw o e2 H := by
  unfold evOpW
  split
  · rw [partsD_congr (e2 := e2) (fun x hx => h x (by simpa [Op.operands] using hx))]
  · rw [h _ (by simp [Op.operands])]
  · rename_i c
    rw [evOp_congr (o := .call c) h]
    have hd : dynBad X c e1 = dynBad X c e2 := by
      unfold dynBad
      cases X.dynV with
      | false => rfl
      | true =>
        cases hc : c.callee with
        | value g =>
          cases g with
          | tmp t =>
            have hg : look e1 t = look e2 t := h (.tmp t) (by simp [Op.operands, Call.operands, hc])
            simp only [hg]
          | _ => rfl
        | _ => rfl
    rw [hd]
  · exact evOp_congr h

theorem guardQ_congr {ops : Array Oper} {e1 e2 : Env} {g : Option (Nat × Bool)} (h : ∀ k want t, g = some (k, want) → (ops[k]?).bind (·.dst) = some t → look e1 t = look e2 t) : guardQ ops e1 g = guardQ ops e2 g := by
  unfold guardQ
  cases g with
  | none => rfl
  | some kw =>
    obtain ⟨k, want⟩ := kw
    simp only
    cases hd : (ops[k]?).bind (·.dst) with
    | none => rfl
    | some t => simp only [h k want t rfl hd]

theorem map_pair {x : Option D} {d : D} (h : x.map (·, H) = some (d, H')) : H' = H ∧ ∀ H2 : Heap, x.map (·, H2) = some (d, H2) := by
  obtain ⟨rfl, rfl⟩ := map_some_pair h
  exact ⟨rfl, fun _ => rfl⟩

theorem builtinD_v {b : Builtin} {ts : List TypeId} {args : List D} {d : D} (hb : b = .len ∨ b = .min ∨ b = .max) (h : builtinD X b ts args H = some (d, H')) : H' = H ∧ ∀ H2, builtinD X b ts args H2 = some (d, H2) := by
  rcases hb with rfl | rfl | rfl
  · rcases ts with _ | ⟨t, ts⟩
    · simp [builtinD] at h
    · rcases args with _ | ⟨x, args⟩
      · simp [builtinD] at h
      · exact map_pair h
  · exact map_pair h
  · exact map_pair h

/-- What turns on no memory gives the same in whatever memory. -/
theorem kind_v {F : CallF} {o : Op} {e : Env} {d : D} (hk : opKind X o = .v) (h : evOpW X F true o e H = some (d, H')) : H' = H ∧ ∀ H2, evOpW X F true o e H2 = some (d, H2) := by
  have mp : ∀ {x : Option D}, x.map (·, H) = some (d, H') → H' = H ∧ ∀ H2 : Heap, x.map (·, H2) = some (d, H2) := by
    intro x hx
    obtain ⟨rfl, rfl⟩ := map_some_pair hx
    exact ⟨rfl, fun _ => rfl⟩
  cases o with
  | buildSlice t n parts =>
    simp only [evOpW] at h ⊢
    split at h
    · rename_i ps hp
      split at h
      · rename_i ds hb
        injection h with h
        injection h with h1 h2
        subst h1; subst h2
        exact ⟨rfl, fun H2 => rfl⟩
      · cases h
    · cases h
  | move x => exact mp h
  | assign x => exact mp h
  | pick c a b =>
    simp only [evOpW, evOp] at h ⊢
    split at h
    · exact mp h
    · cases h
  | build t parts =>
    simp only [evOpW, evOp] at h ⊢
    split at h
    · exact mp h
    · cases h
  | nilCheck x =>
    simp only [evOpW, evOp] at h ⊢
    split at h <;> first | (cases h; done) | skip
    all_goals
      injection h with h
      injection h with h1 h2
      subst h1; subst h2
      exact ⟨rfl, fun _ => rfl⟩
  | binOp op t x y u =>
    simp only [evOpW, evOp] at h ⊢
    split at h
    · exact mp h
    · cases h
  | unOp op t x =>
    simp only [evOpW, evOp] at h ⊢
    split at h
    · exact mp h
    · cases h
  | makeInterface t x =>
    simp only [evOpW, evOp] at h ⊢
    split at h
    · cases h
    · injection h with h
      injection h with h1 h2
      subst h1; subst h2
      exact ⟨rfl, fun _ => rfl⟩
    · cases h
  | makeFunc fn first caps =>
    cases fn with
    | func f =>
      simp only [evOpW, evOp] at h ⊢
      split at h
      · rename_i hf
        cases hc : opds X e caps.toList with
        | none => simp [hc] at h
        | some cs =>
          simp only [hc, Option.map_some, Option.some.injEq, Prod.mk.injEq] at h
          obtain ⟨rfl, rfl⟩ := h
          exact ⟨rfl, fun _ => by simp [hf]⟩
      · cases h
    | _ => simp [evOpW, evOp] at h
  | slice t x lo hi mx =>
    cases mx with
    | none =>
      simp only [evOpW, evOp] at h ⊢
      split at h <;> first | (cases h; done) | exact mp h
    | some m => simp [evOpW, evOp] at h
  | fieldAddr s x f =>
    simp only [evOpW, evOp] at h ⊢
    split at h
    · exact mp h
    · cases h
  | field s x f =>
    simp only [evOpW, evOp] at h ⊢
    split at h
    · exact mp h
    · cases h
  | indexAddr t x y =>
    simp only [evOpW, evOp] at h ⊢
    split at h
    · exact mp h
    · cases h
  | index t x y =>
    simp only [evOpW, evOp] at h ⊢
    split at h
    · exact mp h
    · cases h
  | extract x i =>
    simp only [evOpW, evOp] at h ⊢
    split at h
    · exact mp h
    · cases h
  | call c =>
    have hc : (c.callee = .builtin .len ∨ c.callee = .builtin .min ∨ c.callee = .builtin .max) ∨ (∃ f, c.callee = .value (.func f) ∧ (X.pureF f && !X.byRef f && !X.perm f) = true) ∨ (∃ t, c.callee = .value (.tmp t) ∧ X.dynV = true) := by
      simp only [opKind] at hk
      split at hk
      · rename_i hc; exact .inl (.inl hc)
      · rename_i hc; exact .inl (.inr (.inl hc))
      · rename_i hc; exact .inl (.inr (.inr hc))
      · rename_i f hc
        refine .inr (.inl ⟨f, hc, ?_⟩)
        split at hk
        · cases hk
        · rename_i hb
          split at hk
          · rename_i hp
            split at hk
            · cases hk
            · rename_i hpm
              rw [hp]; simp [hb, hpm]
          · split at hk <;> cases hk
      · rename_i t hc
        refine .inr (.inr ⟨t, hc, ?_⟩)
        split at hk
        · assumption
        · cases hk
      · cases hk
    have pureGo : ∀ {f : Nat} {args : List D}, (X.pureF f && !X.byRef f && !X.perm f) = true → callD X F f args H = some (d, H') → H' = H ∧ ∀ H2, callD X F f args H2 = some (d, H2) := by
      intro f args hp0 h
      rw [Bool.and_eq_true] at hp0
      have hp := hp0.1
      have hpn : X.perm f = false := by simpa using hp0.2
      have hpm : (X.perm f && !X.pureF f && !X.byRef f) = false := by
        simp [hpn]
      have hpb : (X.perm f && X.byRef f) = false := by simp [hpn]
      rw [callD_callW hpm hpb] at h
      obtain ⟨h4, h3, h1⟩ := callW_pure hp h
      rcases h1 with ⟨h1, h2⟩ | ⟨_, h1, _⟩
      · refine ⟨h4, fun H2 => ?_⟩
        rw [callD_callW hpm hpb]
        unfold callW
        rw [if_pos hp, if_pos h1, h2]
        simp only at h3
        simp only [h3, if_true]
      · rw [hpn] at h1; cases h1
    rcases hc with hc | ⟨f, hc, hp⟩ | ⟨t, hc, hdy⟩
    rotate_left
    · have hw : ∀ H2, evOpW X F true (.call c) e H2 = evOp X F (.call c) e H2 := fun H2 => by
        simp only [evOpW, dynBad, hc]
        cases X.dynV <;> rfl
      rw [hw] at h
      simp only [hw]
      simp only [evOp] at h ⊢
      simp only [hc] at h ⊢
      cases ha : opds X e c.args.toList with
      | none => simp [ha] at h
      | some args =>
        simp only [ha, opd] at h ⊢
        exact pureGo hp h
    · simp only [evOpW] at h ⊢
      split at h
      · cases h
      · rename_i hb
        have hb' : dynBad X c e = false := by simpa using hb
        simp only [hb', Bool.false_eq_true, if_false]
        unfold dynBad at hb'
        simp only [hc, hdy] at hb'
        split at hb'
        · rename_i f caps hl
          have hp : (X.pureF f && !X.byRef f && !X.perm f) = true := by simpa using hb'
          simp only [evOp, hc] at h ⊢
          cases ha : opds X e c.args.toList with
          | none => simp [ha] at h
          | some args =>
            simp only [ha, opd, hl] at h ⊢
            exact pureGo hp h
        · cases hb'
    have hw : ∀ H2, evOpW X F true (.call c) e H2 = evOp X F (.call c) e H2 := fun H2 => by
      simp only [evOpW, dynBad]
      rcases hc with hc | hc | hc <;> (simp only [hc]; cases X.dynV <;> rfl)
    rw [hw] at h
    simp only [hw]
    simp only [evOp] at h ⊢
    cases ha : opds X e c.args.toList with
    | none => rcases hc with hc | hc | hc <;> simp [hc, ha] at h
    | some args => rcases hc with hc | hc | hc <;> (simp only [hc, ha] at h ⊢; exact builtinD_v (by simp) h)
  | load _ _ => simp [opKind] at hk
  | convert _ _ _ => simp [opKind] at hk
  | alloc _ => simp [opKind] at hk
  | box _ _ => simp [opKind] at hk
  | makeSlice _ _ _ => simp [opKind] at hk
  | store _ _ _ => simp [opKind] at hk
  | _ => simp [evOpW, evOp] at h

theorem mem_pre {T1 T2 : Heap} {p : D} {cs : List D} (hg : ∀ i, topId p = some i → hget T1 i ≠ none → hget T2 i = hget T1 i) (h : mem T1 p = some cs) : mem T2 p = some cs := by
  cases p <;> simp only [mem, reduceCtorEq] at h ⊢
  · exact h
  · rename_i i st off
    split at h
    · rename_i ds hd
      have := hg i rfl (by rw [hd]; simp)
      rw [this, hd]
      exact h
    · cases h

theorem slc_pre {T1 T2 : Heap} {p : D} {k : Nat} {r : List D × Nat} (hg : ∀ i, topId p = some i → hget T1 i ≠ none → hget T2 i = hget T1 i) (h : slc T1 k p = some r) : slc T2 k p = some r := by
  cases p <;> simp only [slc, reduceCtorEq] at h ⊢
  · exact h
  · rename_i i st off len k'
    split at h
    · rename_i ds hd
      have := hg i rfl (by rw [hd]; simp)
      rw [this, hd]
      exact h
    · cases h

theorem opds_mem {e : Env} : ∀ {l : List Operand} {ds : List D}, opds X e l = some ds → ∀ d, d ∈ ds → ∃ x, x ∈ l ∧ opd X e x = some d
  | [], ds, h, d, hd => by
    simp only [opds, Option.some.injEq] at h
    subst h
    cases hd
  | x :: l, ds, h, d, hd => by
    simp only [opds] at h
    split at h
    · rename_i d0 ds0 h1 h2
      injection h with h
      subst h
      rcases List.mem_cons.1 hd with rfl | hd
      · exact ⟨x, List.mem_cons_self .., h1⟩
      · obtain ⟨y, hy, hyd⟩ := opds_mem h2 d hd
        exact ⟨y, List.mem_cons_of_mem _ hy, hyd⟩
    · cases h

mutual
theorem freeze_idf (T1 T2 : Heap) : ∀ (d : D), idFree d = true → freeze T2 d = freeze T1 d
  | .agg cs, h => by simp only [idFree] at h; simp only [freeze, freezeL_idf T1 T2 cs h]
  | .fn f cs, h => by simp only [idFree] at h; simp only [freeze, freezeL_idf T1 T2 cs h]
  | .tup _, _ => rfl
  | .iface _ _, _ => rfl
  | .optr .., h => by simp [idFree] at h
  | .osl .., h => by simp [idFree] at h
  | .bool _, _ => rfl
  | .int _ _, _ => rfl
  | .str _, _ => rfl
  | .nilp, _ => rfl
  | .nilf, _ => rfl
  | .nili, _ => rfl
  | .raw _, _ => rfl
  | .vptr _, _ => rfl
  | .vsl .., _ => rfl
theorem freezeL_idf (T1 T2 : Heap) : ∀ (cs : List D), idFree.idFreeL cs = true → freeze.freezeL T2 cs = freeze.freezeL T1 cs
  | [], _ => rfl
  | d :: l, h => by
    simp only [idFree.idFreeL, Bool.and_eq_true] at h
    simp only [freeze.freezeL, freeze_idf T1 T2 d h.1, freezeL_idf T1 T2 l h.2]
end

theorem flat_one {T1 T2 : Heap} {p : D} (hg : ∀ i, topId p = some i → hget T1 i ≠ none → hget T2 i = hget T1 i) (h : flatQ T1 p = true) : flatQ T2 p = true ∧ freeze T2 p = freeze T1 p := by
  cases p with
  | osl i st off len k =>
    simp only [flatQ] at h
    split at h
    · rename_i ds hd
      have e1 := hg i rfl (by rw [hd]; simp)
      constructor
      · simp only [flatQ, e1, hd]; exact h
      · simp only [freeze, e1]
    · cases h
  | optr i st off => simp [flatQ, idFree] at h
  | _ => exact ⟨h, freeze_idf T1 T2 _ h⟩

theorem flat_pre {T1 T2 : Heap} : ∀ (args : List D), (∀ p, p ∈ args → ∀ i, topId p = some i → hget T1 i ≠ none → hget T2 i = hget T1 i) → args.all (flatQ T1) = true → args.all (flatQ T2) = true ∧ freezeArgs T2 args = freezeArgs T1 args
  | [], _, _ => ⟨rfl, rfl⟩
  | p :: l, hg, h => by
    simp only [List.all_cons, Bool.and_eq_true] at h
    obtain ⟨a1, a2⟩ := flat_one (hg p (List.mem_cons_self ..)) h.1
    obtain ⟨b1, b2⟩ := flat_pre l (fun q hq => hg q (List.mem_cons_of_mem _ hq)) h.2
    unfold freezeArgs at b2 ⊢
    exact ⟨by simp [a1, b1], by simp only [freeze.freezeL, a2, b2]⟩

/-- What reads gives the same where what it reads is the same. -/
theorem kind_r {F : CallF} {o : Op} {e : Env} {d : D} {T1 T2 : Heap} (hk : opKind X o = .r) (h : evOpW X F true o e T1 = some (d, H'))
    (hg : ∀ x, x ∈ o.operands.toList → ∀ p i, opd X e x = some p → topId p = some i → hget T1 i ≠ none → hget T2 i = hget T1 i) : H' = T1 ∧ evOpW X F true o e T2 = some (d, T2) := by
  cases o with
  | load t x =>
    simp only [evOpW, evOp] at h ⊢
    split at h
    · rename_i p hp
      obtain ⟨h1, rfl⟩ := map_some_pair h
      refine ⟨rfl, ?_⟩
      have hl : ldD X.P T2 t p = some d := by
        unfold ldD at h1 ⊢
        split at h1
        · rename_i cs hq hm
          rw [mem_pre (hg x (by simp [Op.operands]) p · hp) hm]
          simp only [hq]
          exact h1
        · rename_i x' l hq hm
          rw [mem_pre (hg x (by simp [Op.operands]) p · hp) hm]
          simp only [hq]
          exact h1
        · cases h1
      rw [hl]
      rfl
    · cases h
  | convert s t x =>
    simp only [evOpW] at h ⊢
    split at h
    · rename_i b u hx hu
      split at h
      · injection h with h
        injection h with h1 h2
        subst h1; subst h2
        exact ⟨rfl, rfl⟩
      · cases h
    · rename_i a hx _
      have hgx : ∀ i, topId a = some i → hget T1 i ≠ none → hget T2 i = hget T1 i := fun i => hg x (by simp [Op.operands]) a i hx
      unfold convD at h ⊢
      split at h
      · rename_i k k' n h1 h2
        injection h with h
        injection h with h3 h4
        subst h3; subst h4
        exact ⟨rfl, rfl⟩
      · rename_i b h1 h2
        injection h with h
        injection h with h3 h4
        subst h3; subst h4
        exact ⟨rfl, rfl⟩
      · injection h with h
        injection h with h3 h4
        subst h3; subst h4
        exact ⟨rfl, rfl⟩
      · exfalso
        simp_all
      · rename_i e' _ h1 h2
        split at h
        · rename_i cs n he hsl
          obtain ⟨h3, rfl⟩ : ((bytesD cs).map fun s => D.str s) = some d ∧ T1 = H' := by
            cases hb : bytesD cs with
            | none => simp [hb] at h
            | some s =>
              simp only [hb, Option.map_some, Option.some.injEq, Prod.mk.injEq] at h
              exact ⟨by simp [h.1], h.2⟩
          refine ⟨rfl, ?_⟩
          rw [slc_pre hgx hsl]
          simp only [he]
          cases hb : bytesD cs with
          | none => simp [hb] at h3
          | some s => simpa [hb] using h3
        · cases h
      · rename_i i st off len k h1 _ h2
        split at h
        · rename_i ds he hd
          have e1 := hgx i rfl (by rw [hd]; simp)
          split at h
          · rename_i hc
            injection h with h
            injection h with h3 h4
            subst h3; subst h4
            refine ⟨rfl, ?_⟩
            rw [e1, hd]
            simp only [he, hc, and_self, if_true]
          · cases h
        · cases h
      · cases h
    · cases h
  | call c =>
    simp only [opKind] at hk
    split at hk <;> first | (cases hk; done) | skip
    · rename_i f hc
      split at hk
      · cases hk
      · rename_i hb
        split at hk
        · rename_i hpu
          split at hk
          · rename_i hpe
            have hp : (X.pureF f && !X.byRef f) = true := by simp [hpu, hb]
            have hpm : (X.perm f && !X.pureF f && !X.byRef f) = false := by simp [hpu]
            have hw : ∀ T, evOpW X F true (.call c) e T = evOp X F (.call c) e T := fun T => by
              simp only [evOpW, dynBad, hc]
              cases X.dynV <;> rfl
            rw [hw] at h
            rw [hw]
            simp only [evOp, hc] at h ⊢
            cases ha : opds X e c.args.toList with
            | none => simp [ha] at h
            | some args =>
              simp only [ha, opd, List.append_nil] at h ⊢
              rw [callD_callW hpm (by simp [hb])] at h ⊢
              obtain ⟨h4, h3, h1⟩ := callW_pure hp h
              simp only at h3 h4 h1
              refine ⟨h4, ?_⟩
              unfold callW
              rw [if_pos hp]
              rcases h1 with ⟨h1, h2⟩ | ⟨h1, hpe2, hfl, hv, args', hfz, h2⟩
              · rw [if_pos h1, h2]
                simp only [h3, if_true]
              · obtain ⟨g1, g2⟩ := flat_pre args (fun p hpm i hi hne => by
                  obtain ⟨x, hx, hxp⟩ := opds_mem ha p hpm
                  exact hg x (by
                    simp only [Op.operands, Call.operands, Array.toList_append, List.mem_append]
                    exact .inr hx) p i hxp hi hne) hfl
                rw [if_neg h1]
                simp only [hpe2, g1, Bool.and_self, if_true, g2, hfz, h2, h3, hv]
          · cases hk
        · split at hk <;> cases hk
    · split at hk <;> cases hk
  | _ => simp [opKind] at hk

/-- What makes adds behind. -/
theorem kind_e {F : CallF} {o : Op} {e : Env} {d : D} (hk : opKind X o = .e) (h : evOpW X F true o e H = some (d, H')) : ∃ N, H' = H ++ N := by
  cases o with
  | alloc t =>
    simp only [evOpW, evOp] at h
    split at h
    · injection h with h
      injection h with h1 h2
      exact ⟨_, h2.symm⟩
    · cases h
  | box t x =>
    simp only [evOpW, evOp] at h
    split at h
    · split at h
      · injection h with h
        injection h with h1 h2
        exact ⟨_, h2.symm⟩
      · cases h
    · cases h
  | makeSlice t x y =>
    simp only [evOpW, evOp] at h
    split at h
    · unfold makeSliceD at h
      split at h
      · split at h
        · simp only [Option.bind_eq_some_iff] at h
          obtain ⟨z, _, h⟩ := h
          split at h
          · injection h with h
            injection h with h1 h2
            exact ⟨_, h2.symm⟩
          · cases h
        · cases h
      · cases h
    · cases h
  | call c =>
    simp only [opKind] at hk
    split at hk <;> first | (cases hk; done) | skip
    rotate_left
    · split at hk <;> cases hk
    rename_i f hc
    split at hk
    · cases hk
    · rename_i hnr
      have hpm : (X.perm f && !X.pureF f && !X.byRef f) = false := by
        split at hk
        · split at hk <;> cases hk
        · split at hk
          · cases hk
          · rename_i hpp
            simp [hpp]
      have hw : evOpW X F true (.call c) e H = evOp X F (.call c) e H := by
        simp only [evOpW, dynBad, hc]
        cases X.dynV <;> rfl
      rw [hw] at h
      simp only [evOp, hc] at h
      cases ha : opds X e c.args.toList with
      | none => simp [ha] at h
      | some args =>
        simp only [ha, opd] at h
        rw [callD_callW hpm (by simp [hnr])] at h
        replace h := callW_callV h
        unfold callV at h
        rw [if_neg hnr] at h
        split at h
        · split at h
          · cases h
          · injection h with h
            injection h with h1 h2
            exact ⟨_, h2.symm⟩
        · split at h
          · cases h
          · split at h
            · cases h
            · split at h
              · injection h with h
                injection h with h1 h2
                exact ⟨_, h2.symm⟩
              · cases h
  | _ => simp [opKind] at hk

theorem evOpW_plain {F : CallF} {o : Op} {e : Env} : evOpW X F false o e H = evOp X F o e H := by cases o <;> rfl
theorem kindB_cases {bw : Bool} {F : CallF} {o : Op} : (opKindB X bw o = opKind X o ∧ (∀ (e : Env) (H : Heap), evOpW X F bw o e H = evOpW X F true o e H)) ∨ (bw = false ∧ (opKindB X bw o = .e ∧ ((∃ t n ps, o = .buildSlice t n ps) ∨ ∃ s d x, o = .convert s d x)) ∨ (opKindB X bw o = .m)) := by
  cases bw with
  | true => exact .inl ⟨rfl, fun _ _ => rfl⟩
  | false =>
    cases o with
    | buildSlice t n ps => exact .inr (.inl ⟨rfl, rfl, .inl ⟨t, n, ps, rfl⟩⟩)
    | convert s d x => exact .inr (.inl ⟨rfl, rfl, .inr ⟨s, d, x, rfl⟩⟩)
    | call c =>
      cases hc : c.callee with
      | value g =>
        cases g with
        | tmp t => exact .inr (.inr (by simp only [opKindB, hc]))
        | _ => exact .inl ⟨by simp only [opKindB, hc], fun e H => by simp only [evOpW, dynBad, hc]; cases X.dynV <;> rfl⟩
      | builtin b => exact .inl ⟨by simp only [opKindB, hc], fun e H => by simp only [evOpW, dynBad, hc]; cases X.dynV <;> rfl⟩
      | invoke r m => exact .inl ⟨by simp only [opKindB, hc], fun e H => by simp only [evOpW, dynBad, hc]; cases X.dynV <;> rfl⟩
    | _ => exact .inl ⟨rfl, fun _ _ => rfl⟩

theorem kind_vB {bw : Bool} {F : CallF} {o : Op} {e : Env} {d : D} (hk : opKindB X bw o = .v) (h : evOpW X F bw o e H = some (d, H')) : H' = H ∧ ∀ H2, evOpW X F bw o e H2 = some (d, H2) := by
  rcases kindB_cases (X := X) (bw := bw) (F := F) (o := o) with ⟨h1, h2⟩ | ⟨_, h1, _⟩ | h1
  · rw [h1] at hk
    rw [h2] at h
    simp only [h2]
    exact kind_v hk h
  · rw [h1] at hk; cases hk
  · rw [h1] at hk; cases hk
theorem kind_rB {bw : Bool} {F : CallF} {o : Op} {e : Env} {d : D} {T1 T2 : Heap} (hk : opKindB X bw o = .r) (h : evOpW X F bw o e T1 = some (d, H'))
    (hg : ∀ x, x ∈ o.operands.toList → ∀ p i, opd X e x = some p → topId p = some i → hget T1 i ≠ none → hget T2 i = hget T1 i) : H' = T1 ∧ evOpW X F bw o e T2 = some (d, T2) := by
  rcases kindB_cases (X := X) (bw := bw) (F := F) (o := o) with ⟨h1, h2⟩ | ⟨_, h1, _⟩ | h1
  · rw [h1] at hk
    rw [h2] at h
    rw [h2]
    exact kind_r hk h hg
  · rw [h1] at hk; cases hk
  · rw [h1] at hk; cases hk
theorem conv_adds {P : Program} {s t : TypeId} {x d : D} (h : convD P H s t x = some (d, H')) : ∃ N, H' = H ++ N := by
  unfold convD at h
  split at h
  · injection h with h; injection h with h1 h2; exact ⟨[], by simp [h2]⟩
  · injection h with h; injection h with h1 h2; exact ⟨[], by simp [h2]⟩
  · injection h with h; injection h with h1 h2; exact ⟨[], by simp [h2]⟩
  · split at h
    · injection h with h; injection h with h1 h2; exact ⟨_, h2.symm⟩
    · cases h
  · split at h
    · rename_i cs n he hsl
      cases hb : bytesD cs with
      | none => simp [hb] at h
      | some s =>
        simp only [hb, Option.map_some, Option.some.injEq, Prod.mk.injEq] at h
        exact ⟨[], by simp [h.2]⟩
    · cases h
  · split at h
    · split at h
      · injection h with h; injection h with h1 h2; exact ⟨[], by simp [h2]⟩
      · cases h
    · cases h
  · cases h
theorem lit_adds {P : Program} {t : TypeId} {n : Nat} {ps : List (Nat × D)} {d : D} (h : buildSliceD P H t n ps = some (d, H')) : ∃ N, H' = H ++ N := by
  unfold buildSliceD at h
  split at h
  · split at h
    · split at h
      · simp only [Option.bind_eq_some_iff] at h
        obtain ⟨cs, _, h⟩ := h
        split at h
        · injection h with h; injection h with h1 h2; exact ⟨_, h2.symm⟩
        · cases h
      · cases h
    · cases h
  · cases h
theorem kind_eB {bw : Bool} {F : CallF} {o : Op} {e : Env} {d : D} (hk : opKindB X bw o = .e) (h : evOpW X F bw o e H = some (d, H')) : ∃ N, H' = H ++ N := by
  rcases kindB_cases (X := X) (bw := bw) (F := F) (o := o) with ⟨h1, h2⟩ | ⟨rfl, h1, ⟨t, n, ps, rfl⟩ | ⟨s, t, x, rfl⟩⟩ | h1
  · rw [h1] at hk
    rw [h2] at h
    exact kind_e hk h
  · rw [evOpW_plain] at h
    simp only [evOp] at h
    split at h
    · exact lit_adds h
    · cases h
  · rw [evOpW_plain] at h
    simp only [evOp] at h
    split at h
    · exact conv_adds h
    · cases h
  · rw [h1] at hk; cases hk

end
end Go.Ev
