import Derived.Test.YtaponndjgdfkbaaEv2
import Derived.Laws.AppendOwn
/-
  Steps on memory: a new block, a block that is written, cells read.
-/
namespace Go.Ev

section
variable {X : Cx} {P : Program} {ok : Nat → Prop} {w w' : World} {ι : Iota} {H : Heap}

theorem closed0_idFree : ∀ d, closed 0 d = true → idFree d = true
  | .agg cs, h | .tup cs, h | .fn _ cs, h => by
    simp only [closed, closedL_iff, idFree, idFreeL_iff] at h ⊢
    intro d hd
    exact closed0_idFree d (h d hd)
  | .iface _ d, h => by simp only [closed, idFree] at h ⊢; exact closed0_idFree d h
  | .optr i _ _, h | .osl i _ _ _ _, h => by simp [closed] at h
  | .bool _, _ | .int _ _, _ | .str _, _ | .nilp, _ | .nilf, _ | .nili, _ | .vptr _, _ | .vsl _ _ _, _ => rfl

theorem Rep.lift {d : D} {v : Value} (h : Rep ok w iota0 [] d v) : Rep ok w ι H d v := h.free (closed0_idFree d h.closed) _ _

theorem hget_lt {i : Nat} {ds : List D} (h : hget H i = some ds) : i < H.length := by
  unfold hget at h
  rcases Nat.lt_or_ge i H.length with hlt | hge
  · exact hlt
  · rw [List.getElem?_eq_none hge] at h; simp at h
theorem hget_hset_same {i : Nat} {ds : List D} (h : i < H.length) : hget (hset H i ds) i = some ds := by
  simp [hget, hset, h]
theorem hget_hset_other {i j : Nat} {ds : List D} (h : j ≠ i) : hget (hset H i ds) j = hget H j := by
  simp [hget, hset, Ne.symm h]
theorem length_hset {i : Nat} {ds : List D} : (hset H i ds).length = H.length := by simp [hset]
theorem hget_newBlk_same {ds : List D} : hget (newBlk H ds) H.length = some ds := by simp [hget, newBlk]
theorem hget_newBlk_lt {ds : List D} {i : Nat} (h : i < H.length) : hget (newBlk H ds) i = hget H i := by
  simp [hget, newBlk, List.getElem?_append_left h]
theorem length_newBlk {ds : List D} : (newBlk H ds).length = H.length + 1 := by simp [newBlk]

/-- the streams are as they were -/
def SameS (w w' : World) : Prop := w'.os = w.os ∧ w'.tape = w.tape ∧ w'.output = w.output

theorem Sim.lt (hs : Sim X ok w ι H) {i : Nat} {ds : List D} {b s : Nat} (hd : hget H i = some ds) (hi : ι i = some (b, s)) : b < w.heap.size := by
  obtain ⟨b', arr, e, fr, hb', hn, hh, _⟩ := hs.blk i ds hd
  rw [hi] at hb'
  injection hb' with hb'
  injection hb' with hb' _
  subst hb'
  exact (Array.getElem?_eq_some_iff.1 hh).1

theorem step_set {i : Nat} {ds ds' : List D} {b sz b' : Nat} {arr' : Array Value} {e : TypeId} {fr : Nat × Nat} (hs : Sim X ok w ι H) (hd : hget H i = some ds) (hι : ι i = some (b, sz))
    (hw : SameS w w') (hsz : w.heap.size ≤ w'.heap.size) (hfr : ∀ c, c < w.heap.size → c ≠ b → w'.heap[c]? = w.heap[c]?)
    (hb' : w'.heap[b']? = some (.cells arr' e fr)) (hloc : (b' = b ∧ arr'.size = sz) ∨ (w.heap.size ≤ b' ∧ ds.length < ds'.length)) (hlen : ds.length ≤ ds'.length)
    (hfit : ds'.length ≤ arr'.size) (hfz : ∀ j, j < arr'.size → ¬ (fr.1 ≤ j ∧ j < fr.2)) (hone : ∀ j, j < arr'.size → (arr'.getD j undef).oneCell' = true)
    (hcell : ∀ d, d ∈ ds' → isCell d = true) (hrep : ∀ (j : Nat) d, ds'[j]? = some d → Rep ok w ι H d (arr'.getD j undef)) :
    ∃ ι', Sim X ok w' ι' (hset H i ds') ∧ Evol H.length ok w ι H ok w' ι' (hset H i ds') ∧ ι' i = some (b', arr'.size) := by
  have hi := hget_lt hd
  have hnb : ¬ ok b := by
    intro hb
    exact hs.notOwn hb i ds sz hd hι
  refine ⟨fun k => if k = i then some (b', arr'.size) else ι k, ?_⟩
  have hev : Evol H.length ok w ι H ok w' (fun k => if k = i then some (b', arr'.size) else ι k) (hset H i ds') := by
    refine ⟨hw.1, hw.2.1, hw.2.2, hsz, ?_, fun _ h => h, fun _ h _ => h, ⟨Nat.le_refl _, by rw [length_hset]; exact Nat.le_refl _⟩, ?_, ?_⟩
    · intro c hc hno
      exact hfr c hc (fun e => hno i ds sz hd (by rw [hι, e]))
    · intro k hk es he
      by_cases hki : k = i
      · subst hki
        rw [hget_hset_same hi] at he
        injection he with he
        subst he
        refine ⟨ds, hd, hlen, fun heq => ?_⟩
        rcases hloc with ⟨h1, h2⟩ | ⟨_, h2⟩
        · simp only [if_true, h1, h2, hι]
        · omega
      · rw [hget_hset_other hki] at he
        exact ⟨es, he, Nat.le_refl _, fun _ => by simp [hki]⟩
    · intro k es c s he hk hc
      by_cases hki : k = i
      · subst hki
        simp only [if_true, Option.some.injEq, Prod.mk.injEq] at hk
        rcases hloc with ⟨h1, h2⟩ | ⟨h1, _⟩
        · exact ⟨k, ds, sz, hd, by rw [hι, ← hk.1, h1]⟩
        · omega
      · rw [hget_hset_other hki] at he
        simp only [hki, if_false] at hk
        exact ⟨k, es, s, he, hk⟩
  refine ⟨⟨fun c hc => Nat.lt_of_lt_of_le (hs.okS c hc) hsz, ?_, ?_, ?_⟩, hev, by simp⟩
  · intro g cs hg
    have h := (hs.glob g cs hg).lift (ι := ι) (H := H)
    have h2 := h.evol hs hev rfl
    exact h2.free rfl _ _
  · intro p q es fs c s s' hp hq hιp hιq
    have old : ∀ k, k ≠ i → ∀ es c s, hget H k = some es → ι k = some (c, s) → c ≠ b' := by
      intro k hk es c s he hc heq
      rcases hloc with ⟨h1, _⟩ | ⟨h1, _⟩
      · exact hk (hs.inj k i es ds c s sz he hd hc (by rw [hι, heq, h1]))
      · have := hs.lt he hc; omega
    by_cases hpi : p = i <;> by_cases hqi : q = i
    · rw [hpi, hqi]
    · subst hpi
      rw [hget_hset_other hqi] at hq
      simp only [if_true, hqi, if_false, Option.some.injEq, Prod.mk.injEq] at hιp hιq
      exact absurd hιp.1.symm (old q hqi fs c s' hq hιq)
    · subst hqi
      rw [hget_hset_other hpi] at hp
      simp only [if_true, hpi, if_false, Option.some.injEq, Prod.mk.injEq] at hιp hιq
      exact absurd hιq.1.symm (old p hpi es c s hp hιp)
    · rw [hget_hset_other hpi] at hp
      rw [hget_hset_other hqi] at hq
      simp only [hpi, hqi, if_false] at hιp hιq
      exact hs.inj p q es fs c s s' hp hq hιp hιq
  · intro k es he
    by_cases hki : k = i
    · subst hki
      rw [hget_hset_same hi] at he
      injection he with he
      subst he
      refine ⟨b', arr', e, fr, by simp, ?_, hb', hfit, hfz, hone, hcell, fun j d hj => (hrep j d hj).evol hs hev (hrep j d hj).closed⟩
      rcases hloc with ⟨h1, _⟩ | ⟨h1, _⟩
      · rw [h1]; exact hnb
      · intro h; have := hs.okS _ h; omega
    · rw [hget_hset_other hki] at he
      obtain ⟨c, arr, e2, fr2, h1, h2, h3, h4, h5, h6, h7, h8⟩ := hs.blk k es he
      refine ⟨c, arr, e2, fr2, by simp [hki, h1], h2, ?_, h4, h5, h6, h7, fun j d hj => (h8 j d hj).evol hs hev (h8 j d hj).closed⟩
      rw [hfr c (hs.lt he h1)]
      · exact h3
      · rintro rfl
        exact hki (hs.inj k i es ds c arr.size sz he hd h1 hι)

theorem step_new {ds : List D} {b' : Nat} {arr : Array Value} {e : TypeId} {fr : Nat × Nat} (hs : Sim X ok w ι H)
    (hw : SameS w w') (hsz : w.heap.size ≤ w'.heap.size) (hfr : ∀ c, c < w.heap.size → w'.heap[c]? = w.heap[c]?)
    (hb' : w'.heap[b']? = some (.cells arr e fr)) (hloc : w.heap.size ≤ b')
    (hfit : ds.length ≤ arr.size) (hfz : ∀ j, j < arr.size → ¬ (fr.1 ≤ j ∧ j < fr.2)) (hone : ∀ j, j < arr.size → (arr.getD j undef).oneCell' = true)
    (hcell : ∀ d, d ∈ ds → isCell d = true) (hrep : ∀ (j : Nat) d, ds[j]? = some d → Rep ok w ι H d (arr.getD j undef)) :
    ∃ ι', Sim X ok w' ι' (newBlk H ds) ∧ Evol H.length ok w ι H ok w' ι' (newBlk H ds) ∧ ι' H.length = some (b', arr.size) := by
  refine ⟨fun k => if k = H.length then some (b', arr.size) else ι k, ?_⟩
  have hev : Evol H.length ok w ι H ok w' (fun k => if k = H.length then some (b', arr.size) else ι k) (newBlk H ds) := by
    refine ⟨hw.1, hw.2.1, hw.2.2, hsz, fun c hc _ => hfr c hc, fun _ h => h, fun _ h _ => h, ⟨Nat.le_refl _, by rw [length_newBlk]; omega⟩, ?_, ?_⟩
    · intro k hk es he
      rw [hget_newBlk_lt hk] at he
      exact ⟨es, he, Nat.le_refl _, fun _ => by simp [Nat.ne_of_lt hk]⟩
    · intro k es c s he hk hc
      by_cases hki : k = H.length
      · subst hki
        simp only [if_true, Option.some.injEq, Prod.mk.injEq] at hk
        omega
      · have hlt : k < H.length := by
          have := hget_lt he
          rw [length_newBlk] at this
          omega
        rw [hget_newBlk_lt hlt] at he
        simp only [hki, if_false] at hk
        exact ⟨k, es, s, he, hk⟩
  have split : ∀ k es, hget (newBlk H ds) k = some es → (k = H.length ∧ es = ds) ∨ (k < H.length ∧ hget H k = some es) := by
    intro k es he
    by_cases hki : k = H.length
    · subst hki
      rw [hget_newBlk_same] at he
      injection he with he
      exact .inl ⟨rfl, he.symm⟩
    · have hlt : k < H.length := by
        have := hget_lt he
        rw [length_newBlk] at this
        omega
      rw [hget_newBlk_lt hlt] at he
      exact .inr ⟨hlt, he⟩
  refine ⟨⟨fun c hc => Nat.lt_of_lt_of_le (hs.okS c hc) hsz, ?_, ?_, ?_⟩, hev, by simp⟩
  · intro g cs hg
    have h := (hs.glob g cs hg).lift (ι := ι) (H := H)
    have h2 := h.evol hs hev rfl
    exact h2.free rfl _ _
  · intro p q es fs c s s' hp hq hιp hιq
    rcases split p es hp with ⟨rfl, _⟩ | ⟨hp1, hp2⟩ <;> rcases split q fs hq with ⟨rfl, _⟩ | ⟨hq1, hq2⟩
    · rfl
    · simp only [if_true, Nat.ne_of_lt hq1, if_false, Option.some.injEq, Prod.mk.injEq] at hιp hιq
      have := hs.lt hq2 hιq
      omega
    · simp only [if_true, Nat.ne_of_lt hp1, if_false, Option.some.injEq, Prod.mk.injEq] at hιp hιq
      have := hs.lt hp2 hιp
      omega
    · simp only [Nat.ne_of_lt hp1, Nat.ne_of_lt hq1, if_false] at hιp hιq
      exact hs.inj p q es fs c s s' hp2 hq2 hιp hιq
  · intro k es he
    rcases split k es he with ⟨rfl, rfl⟩ | ⟨hk, he⟩
    · exact ⟨b', arr, e, fr, by simp, fun h => by have := hs.okS _ h; omega, hb', hfit, hfz, hone, hcell, fun j d hj => (hrep j d hj).evol hs hev (hrep j d hj).closed⟩
    · obtain ⟨c, arr2, e2, fr2, h1, h2, h3, h4, h5, h6, h7, h8⟩ := hs.blk k es he
      refine ⟨c, arr2, e2, fr2, by simp [Nat.ne_of_lt hk, h1], h2, ?_, h4, h5, h6, h7, fun j d hj => (h8 j d hj).evol hs hev (h8 j d hj).closed⟩
      rw [hfr c (hs.lt he h1)]
      exact h3

/-- A step that turns nothing that is told of: a draw. -/
theorem step_same (hs : Sim X ok w ι H) (hw : SameS w w') (hh : w'.heap = w.heap) : Sim X ok w' ι H ∧ Evol H.length ok w ι H ok w' ι H := by
  have hev : Evol H.length ok w ι H ok w' ι H :=
    ⟨hw.1, hw.2.1, hw.2.2, by rw [hh]; exact Nat.le_refl _, fun _ _ _ => by rw [hh], fun _ h => h, fun _ h _ => h, ⟨Nat.le_refl _, Nat.le_refl _⟩, fun _ _ ds hd => ⟨ds, hd, Nat.le_refl _, fun _ => rfl⟩,
      fun i ds _ s hd hi _ => ⟨i, ds, s, hd, hi⟩⟩
  refine ⟨⟨fun c hc => by rw [hh]; exact hs.okS c hc, fun g cs hg => ?_, hs.inj, fun k es he => ?_⟩, hev⟩
  · have h := (hs.glob g cs hg).lift (ι := ι) (H := H)
    exact (h.evol hs hev rfl).free rfl _ _
  · obtain ⟨c, arr2, e2, fr2, h1, h2, h3, h4, h5, h6, h7, h8⟩ := hs.blk k es he
    exact ⟨c, arr2, e2, fr2, h1, h2, by rw [hh]; exact h3, h4, h5, h6, h7, fun j d hj => (h8 j d hj).evol hs hev (h8 j d hj).closed⟩

theorem addr_add (b o j : Nat) : (⟨b, o, none⟩ : Addr).add j = ⟨b, o + j, none⟩ := by
  unfold Addr.add
  split
  · simp_all
  · rfl
theorem addr_add_add (a : Addr) (i j : Nat) : (a.add i).add j = a.add (i + j) := by
  unfold Addr.add
  by_cases hi : i = 0 <;> by_cases hj : j = 0 <;> simp [hi, hj, Nat.add_assoc]

/-- What lies from a place on is read so. -/
theorem mem_read {p : D} {cs : List D} {a : Addr} (hs : Sim X ok w ι H) (hp : Rep ok w ι H p (.pointer (some a))) (hm : mem H p = some cs) :
    (∀ d, d ∈ cs → isCell d = true) ∧ ∃ f : Nat → Value, ∀ (j : Nat) d, cs[j]? = some d → w.cell? (a.add j) = some (f j) ∧ Rep ok w ι H d (f j) := by
  cases hp with
  | vptr a f ha hc hr h =>
    simp only [mem, Option.some.injEq] at hm
    subst hm
    exact ⟨hc, f, fun j d hj => ⟨hr j d hj, (h j d hj).lift⟩⟩
  | optr a hi h =>
    rename_i i st off
    simp only [mem] at hm
    split at hm
    · rename_i ds hd
      split at hm
      · rename_i hst
        injection hm with hm
        subst hm
        obtain ⟨b, s, h1, rfl⟩ := (h ds hd).2 hst
        obtain ⟨b', arr, e, fr, k1, k2, k3, k4, k5, k6, k7, k8⟩ := hs.blk i ds hd
        rw [h1] at k1
        injection k1 with k1
        injection k1 with k1 _
        subst k1
        refine ⟨fun d hd => k7 d (List.mem_of_mem_drop hd), fun j => arr.getD (off + j) undef, fun j d hj => ?_⟩
        rw [List.getElem?_drop] at hj
        refine ⟨?_, k8 _ d hj⟩
        have hlt : off + j < arr.size := Nat.lt_of_lt_of_le (List.getElem?_eq_some_iff.1 hj).1 k4
        rw [addr_add]
        simp [World.cell?, k3, hlt]
      · cases hm
    · cases hm

theorem isAgg_run {t : TypeId} {q : Bool} (h : aggQ P t = some q) (w : World) : (isAgg t).run P w = .ok q w := by
  unfold aggQ at h
  unfold isAgg
  rw [Sem.run_bind]
  cases hu : P.underlying t with
  | none => simp [hu] at h
  | some d => rw [run_underlying hu w]; cases d <;> simp_all

theorem info_of_underlying {t : TypeId} {d : TypeDesc} (h : P.underlying t = some d) : ∃ i, P.info? t = some i := by
  cases hi : P.info? t with
  | some i => exact ⟨i, rfl⟩
  | none =>
    unfold Program.underlying at h
    rw [hi] at h
    simp at h

end
end Go.Ev
