import Derived.Test.YtaponndjgdfkbaaEv3
/-
  Each operation on data is what the operation does.
-/
namespace Go.Ev

section
variable {X : Cx} {P : Program} {ok : Nat → Prop} {w w' : World} {ι : Iota} {H H' : Heap}

theorem sizeOf_run {t : TypeId} (h : 0 < szOf P t) (w : World) : (sizeOf t).run P w = .ok (szOf P t) w := by
  unfold szOf at h ⊢
  cases hi : P.info? t with
  | none => simp [hi] at h
  | some i => simp [sizeOf, typeInfo, hi]

theorem sizeOf_run' {t : TypeId} {d : TypeDesc} (h : P.underlying t = some d) (w : World) : (sizeOf t).run P w = .ok (szOf P t) w := by
  obtain ⟨i, hi⟩ := info_of_underlying h
  simp [sizeOf, typeInfo, hi, szOf]

theorem info_sz {t : TypeId} (h : 0 < szOf P t) : ∃ i, P.info? t = some i ∧ i.size = szOf P t ∧ i.bytes = bytesOf P t := by
  unfold szOf bytesOf at *
  cases hi : P.info? t with
  | none => simp [hi] at h
  | some i => exact ⟨i, rfl, by simp, by simp⟩

theorem ofVal1_rep {v : Value} {d : D} (h : ofVal1 v = some d) : Rep ok w ι H d v := by
  unfold ofVal1 at h
  split at h <;> cases h
  · exact .bool _
  · exact .int _ _
  · rename_i s
    have : s = ⟨s.data.toList.toArray⟩ := by simp
    rw [this]
    exact .str _
  · exact .nilp
  · exact .vnil
  · exact .nilf
  · exact .nili

theorem ofVal1_cell {v : Value} {d : D} (h : ofVal1 v = some d) : isCell d = true := by
  unfold ofVal1 at h
  split at h <;> cases h <;> rfl

theorem ofVals_rep : ∀ {l : List Value} {ds : List D}, ofVals l = some ds → l.length = ds.length ∧ (∀ d, d ∈ ds → isCell d = true) ∧ ∀ (j : Nat) d, ds[j]? = some d → Rep ok w ι H d (l.getD j undef)
  | [], ds, h => by
    simp only [ofVals, Option.some.injEq] at h
    subst h
    simp
  | v :: l, ds, h => by
    simp only [ofVals] at h
    split at h
    · rename_i d ds' h1 h2
      injection h with h
      subst h
      obtain ⟨k1, k2, k3⟩ := ofVals_rep h2
      refine ⟨by simp [k1], ?_, ?_⟩
      · intro x hx
        rcases List.mem_cons.1 hx with rfl | hx
        · exact ofVal1_cell h1
        · exact k2 x hx
      · intro j x hx
        cases j with
        | zero =>
          simp only [List.getElem?_cons_zero, Option.some.injEq] at hx
          subst hx
          exact ofVal1_rep h1
        | succ j => exact k3 j x (by simpa using hx)
    · cases h

theorem ofVal_rep {v : Value} {d : D} (h : ofVal v = some d) : Rep ok w ι H d v := by
  unfold ofVal at h
  split at h
  · rename_i cs
    cases hv : ofVals cs.toList with
    | none => simp [hv] at h
    | some ds =>
      simp only [hv, Option.map_some, Option.some.injEq] at h
      subst h
      obtain ⟨k1, k2, k3⟩ := ofVals_rep (ok := ok) (w := w) (ι := ι) (H := H) hv
      refine .agg (by simpa using k1) k2 fun j d hj => ?_
      have := k3 j d hj
      simpa [Array.getD_eq_getD_getElem?, List.getD_eq_getElem?_getD] using this
  · exact ofVal1_rep h

theorem opd_rep (hs : Sim X ok w ι H) {e : Env} {a : Act} (he : EnvRep ok w ι H e a.tmps) {x : Operand} {d : D} (h : opd X e x = some d) : Rep ok w ι H d (a.eval x) := by
  cases x with
  | tmp t => exact (he t d h).2
  | const v => exact ofVal_rep h
  | func f =>
    simp only [opd, Option.some.injEq] at h
    subst h
    exact .fn rfl (by simp)
  | global g =>
    simp only [opd] at h
    cases hg : X.glob g with
    | none => simp [hg] at h
    | some cs =>
      simp only [hg, Option.map_some, Option.some.injEq] at h
      subst h
      exact (hs.glob g cs hg).lift

theorem opds_rep (hs : Sim X ok w ι H) {e : Env} {a : Act} (he : EnvRep ok w ι H e a.tmps) : ∀ {l : List Operand} {ds : List D}, opds X e l = some ds → RepL ok w ι H ds (l.map a.eval)
  | [], ds, h => by
    simp only [opds, Option.some.injEq] at h
    subst h
    exact ⟨rfl, by simp⟩
  | x :: l, ds, h => by
    simp only [opds] at h
    split at h
    · rename_i d ds' h1 h2
      injection h with h
      subst h
      obtain ⟨k1, k2⟩ := opds_rep hs he h2
      refine ⟨by simpa using k1, fun j x hx => ?_⟩
      cases j with
      | zero =>
        simp only [List.getElem?_cons_zero, Option.some.injEq] at hx
        subst hx
        exact opd_rep hs he h1
      | succ j => exact k2 j x (by simpa using hx)
    · cases h

/-- What an operation leaves. -/
def Post (X : Cx) (n : Nat) (ok : Nat → Prop) (w : World) (ι : Iota) (H : Heap) (d : D) (H' : Heap) (v : Value) (w' : World) : Prop :=
  ∃ ι' ok', Sim X ok' w' ι' H' ∧ Rep ok' w' ι' H' d v ∧ Evol n ok w ι H ok' w' ι' H'

theorem Post.same (hs : Sim X ok w ι H) {d : D} {v : Value} (h : Rep ok w ι H d v) : Post X H.length ok w ι H d H v w :=
  ⟨ι, ok, hs, h, .refl _ (Nat.le_refl _)⟩

theorem cellsOf_rep {d : D} {v : Value} {cs : List D} (h : Rep ok w ι H d v) (hc : cellsOf d = some cs) :
    v.cells.size = cs.length ∧ (∀ d, d ∈ cs → isCell d = true) ∧ ∀ (j : Nat) d, cs[j]? = some d → Rep ok w ι H d (v.cells.getD j undef) := by
  have one : ∀ {d : D} {v : Value}, Rep ok w ι H d v → isCell d = true → v.cells = #[v] → (#[v] : Array Value).size = [d].length ∧ (∀ x, x ∈ [d] → isCell x = true) ∧ ∀ (j : Nat) x, [d][j]? = some x → Rep ok w ι H x ((#[v] : Array Value).getD j undef) := by
    intro d v h hd _
    refine ⟨rfl, by simpa using hd, fun j x hx => ?_⟩
    cases j with
    | zero =>
      simp only [List.getElem?_cons_zero, Option.some.injEq] at hx
      subst hx
      exact h
    | succ j => simp at hx
  cases h with
  | agg hl hcs h =>
    simp only [cellsOf, Option.some.injEq] at hc
    subst hc
    exact ⟨hl, hcs, h⟩
  | tup hl h => simp [cellsOf] at hc
  | bool b => simp only [cellsOf, Option.some.injEq] at hc; subst hc; exact one (.bool b) rfl rfl
  | int k n => simp only [cellsOf, Option.some.injEq] at hc; subst hc; exact one (.int k n) rfl rfl
  | str s => simp only [cellsOf, Option.some.injEq] at hc; subst hc; exact one (.str s) rfl rfl
  | nilp => simp only [cellsOf, Option.some.injEq] at hc; subst hc; exact one .nilp rfl rfl
  | nilf => simp only [cellsOf, Option.some.injEq] at hc; subst hc; exact one .nilf rfl rfl
  | nili => simp only [cellsOf, Option.some.injEq] at hc; subst hc; exact one .nili rfl rfl
  | vptr a f ha hc1 hr h => simp only [cellsOf, Option.some.injEq] at hc; subst hc; exact one (.vptr a f ha hc1 hr h) rfl rfl
  | optr a hi h => simp only [cellsOf, Option.some.injEq] at hc; subst hc; exact one (.optr a hi h) rfl rfl
  | vnil => simp only [cellsOf, Option.some.injEq] at hc; subst hc; exact one .vnil rfl rfl
  | vsl a f ha hc1 hr h hlc => simp only [cellsOf, Option.some.injEq] at hc; subst hc; exact one (.vsl a f ha hc1 hr h hlc) rfl rfl
  | osl a hi h hlc => simp only [cellsOf, Option.some.injEq] at hc; subst hc; exact one (.osl a hi h hlc) rfl rfl
  | fn hl h => simp only [cellsOf, Option.some.injEq] at hc; subst hc; exact one (.fn hl h) rfl rfl
  | iface h => simp only [cellsOf, Option.some.injEq] at hc; subst hc; exact one (.iface h) rfl rfl

theorem Rep.ptr {p : D} {v : Value} {cs : List D} (h : Rep ok w ι H p v) (hm : mem H p = some cs) : ∃ a, v = .pointer (some a) := by
  cases h <;> first | (simp [mem] at hm; done) | exact ⟨_, rfl⟩

theorem getD_range_map {f : Nat → Value} {n j : Nat} (h : j < n) : (((List.range n).map f).toArray).getD j undef = f j := by
  simp [h]

theorem load_run {p d : D} {pv : Value} {t : TypeId} (hs : Sim X ok w ι H) (hp : Rep ok w ι H p pv) (h : ldD P H t p = some d) :
    ∃ v, (Instr.loadAt t pv).run P w = .ok v w ∧ Rep ok w ι H d v := by
  unfold ldD at h
  split at h
  · rename_i cs hq hm
    split at h
    · rename_i hle
      injection h with h
      subst h
      obtain ⟨a, rfl⟩ := hp.ptr hm
      obtain ⟨hc, f, hf⟩ := mem_read hs hp hm
      have hlt : ∀ j, j < szOf P t → ∃ d, cs[j]? = some d := fun j hj => ⟨cs[j], List.getElem?_eq_getElem (by omega)⟩
      have hl := run_loadCells (P := P) w a (szOf P t) f (fun j hj => by
        obtain ⟨d, hd⟩ := hlt j hj
        exact (hf j d hd).1)
      have hu : ∃ dsc, P.underlying t = some dsc := by
        unfold aggQ at hq
        cases hu : P.underlying t with
        | none => simp [hu] at hq
        | some x => exact ⟨x, rfl⟩
      obtain ⟨dsc, hu⟩ := hu
      refine ⟨.agg ((List.range (szOf P t)).map f).toArray, ?_, ?_⟩
      · simp [Instr.loadAt, Instr.sureAddr, loadVar, isAgg_run hq, sizeOf_run' hu, hl]
      · refine .agg (by simp; omega) (fun d hd => hc d (List.mem_of_mem_take hd)) fun j d hj => ?_
        rw [List.getElem?_take] at hj
        split at hj
        · rename_i hjl
          rw [getD_range_map hjl]
          exact (hf j d hj).2
        · cases hj
    · cases h
  · rename_i d' rest hq hm
    injection h with h
    subst h
    obtain ⟨a, rfl⟩ := hp.ptr hm
    obtain ⟨hc, f, hf⟩ := mem_read hs hp hm
    obtain ⟨h1, h2⟩ := hf 0 d' rfl
    refine ⟨f 0, ?_, h2⟩
    have : a.add 0 = a := rfl
    rw [this] at h1
    simp [Instr.loadAt, Instr.sureAddr, loadVar, isAgg_run hq, h1]
  · cases h

theorem cell_of_heap {b o : Nat} {arr : Array Value} {e : TypeId} {fr : Nat × Nat} (h : w.heap[b]? = some (.cells arr e fr)) : w.cell? ⟨b, o, none⟩ = arr[o]? := by
  simp [World.cell?, h]
theorem frozen_of_heap {b o : Nat} {arr : Array Value} {e : TypeId} {fr : Nat × Nat} (h : w.heap[b]? = some (.cells arr e fr)) : w.frozen? ⟨b, o, none⟩ = (decide (fr.1 ≤ o) && decide (o < fr.2)) := by
  simp [World.frozen?, h]

/-- Cells stored one behind the other into a block. -/
theorem storeCells_run (b o : Nat) (e : TypeId) (fr : Nat × Nat) : ∀ (vs : List Value) (i : Nat) (arr : Array Value) (w : World), w.heap[b]? = some (.cells arr e fr) → o + i + vs.length ≤ arr.size →
    (∀ v, v ∈ vs → v.oneCell' = true) → (∀ j, j < arr.size → ¬ (fr.1 ≤ j ∧ j < fr.2)) →
    ∃ w' arr', (storeCells ⟨b, o, none⟩ vs i).run P w = .ok () w' ∧ SameS w w' ∧ w'.heap.size = w.heap.size ∧ (∀ c, c ≠ b → w'.heap[c]? = w.heap[c]?) ∧ w'.heap[b]? = some (.cells arr' e fr) ∧ arr'.size = arr.size ∧
      ∀ j, arr'[j]? = if o + i ≤ j ∧ j < o + i + vs.length then vs[j - (o + i)]? else arr[j]?
  | [], i, arr, w, hb, hl, h1, hz => by
    refine ⟨w, arr, rfl, ⟨rfl, rfl, rfl⟩, rfl, fun _ _ => rfl, hb, rfl, fun j => ?_⟩
    rw [if_neg (by simp)]
  | v :: vs, i, arr, w, hb, hl, h1, hz => by
    simp only [List.length_cons] at hl
    have hlt : o + i < arr.size := by omega
    have hcell : w.cell? ⟨b, o + i, none⟩ = some arr[o + i] := by rw [cell_of_heap hb]; simp [hlt]
    have hfz : w.frozen? ⟨b, o + i, none⟩ = false := by
      rw [frozen_of_heap hb]
      have := hz _ hlt
      simp only [Bool.and_eq_false_iff, decide_eq_false_iff_not]
      omega
    have hb2 : (w.setCell ⟨b, o + i, none⟩ v).heap[b]? = some (.cells (arr.setIfInBounds (o + i) v) e fr) := by
      simp [World.setCell, Array.getElem?_modify, hb]
    obtain ⟨w', arr', k1, k2, k3, k4, k5, k6, k7⟩ := storeCells_run b o e fr vs (i + 1) (arr.setIfInBounds (o + i) v) (w.setCell ⟨b, o + i, none⟩ v) hb2 (by simp; omega)
      (fun u hu => h1 u (List.mem_cons_of_mem _ hu)) (by simpa using hz)
    refine ⟨w', arr', ?_, ⟨k2.1, k2.2.1, k2.2.2⟩, by simpa [World.setCell] using k3, ?_, k5, by simpa using k6, ?_⟩
    · simp only [storeCells, Sem.run_bind, addr_add, run_store P w _ v .plain (h1 v (List.mem_cons_self ..)), hcell, hfz, Bool.false_eq_true, if_false, Result.andThen_ok]
      exact k1
    · intro c hc
      rw [k4 c hc]
      simp [World.setCell, Array.getElem?_modify, Ne.symm hc]
    · intro j
      rw [k7 j]
      simp only [List.length_cons]
      by_cases hj : j = o + i
      · subst hj
        rw [if_neg (by omega), if_pos (by omega)]
        simp [hlt]
      · by_cases hr : o + (i + 1) ≤ j ∧ j < o + (i + 1) + vs.length
        · rw [if_pos hr, if_pos (by omega)]
          have : j - (o + i) = (j - (o + (i + 1))) + 1 := by omega
          rw [this, List.getElem?_cons_succ]
        · rw [if_neg hr, if_neg (by omega)]
          rw [Array.getElem?_setIfInBounds_ne (by omega)]

theorem setRange_length {ds xs : List D} {off : Nat} (h : off + xs.length ≤ ds.length) : (setRange ds off xs).length = ds.length := by
  simp [setRange]; omega

theorem setRange_get {ds xs : List D} {off : Nat} (h : off + xs.length ≤ ds.length) (j : Nat) : (setRange ds off xs)[j]? = if off ≤ j ∧ j < off + xs.length then xs[j - off]? else ds[j]? := by
  unfold setRange
  have hl : (ds.take off).length = off := by simp; omega
  by_cases h1 : j < off
  · rw [if_neg (by omega), List.append_assoc, List.getElem?_append_left (by omega), List.getElem?_take, if_pos h1]
  · by_cases h2 : j < off + xs.length
    · rw [if_pos (by omega), List.append_assoc, List.getElem?_append_right (by omega), List.getElem?_append_left (by omega), hl]
    · rw [if_neg (by omega), List.getElem?_append_right (by simp; omega), List.getElem?_drop]
      congr 1
      simp
      omega

theorem mem_setRange {ds xs : List D} {off : Nat} {d : D} (h : d ∈ setRange ds off xs) : d ∈ ds ∨ d ∈ xs := by
  unfold setRange at h
  simp only [List.mem_append] at h
  rcases h with (h | h) | h
  · exact .inl (List.mem_of_mem_take h)
  · exact .inr h
  · exact .inl (List.mem_of_mem_drop h)

/-- A range of a block of the run's own is written. -/
theorem write_run {i st off b sz : Nat} {ds xs : List D} {vs : List Value} {a : Addr} (hs : Sim X ok w ι H) (hd : hget H i = some ds) (_hst : ds.length = st) (hι : ι i = some (b, sz)) (ha : a = ⟨b, off, none⟩)
    (hle : off + xs.length ≤ ds.length) (hl : vs.length = xs.length) (hc : ∀ d, d ∈ xs → isCell d = true) (hx : ∀ (j : Nat) d, xs[j]? = some d → Rep ok w ι H d (vs.getD j undef)) :
    ∃ w' ι', (storeCells a vs).run P w = .ok () w' ∧ Sim X ok w' ι' (hset H i (setRange ds off xs)) ∧ Evol H.length ok w ι H ok w' ι' (hset H i (setRange ds off xs)) := by
  obtain ⟨b', arr, e, fr, k1, k2, k3, k4, k5, k6, k7, k8⟩ := hs.blk i ds hd
  rw [hι] at k1
  injection k1 with k1
  injection k1 with k1 k1'
  subst k1
  subst ha
  have hone : ∀ v, v ∈ vs → v.oneCell' = true := by
    intro v hv
    obtain ⟨j, hj⟩ := List.mem_iff_getElem?.1 hv
    have hjl : j < vs.length := (List.getElem?_eq_some_iff.1 hj).1
    have hxj : xs[j]? = some (xs[j]'(by omega)) := List.getElem?_eq_getElem (by omega)
    have h := hx j _ hxj
    rw [List.getD_eq_getElem?_getD, hj] at h
    exact h.oneCell (hc _ (mem_of_get? hxj))
  obtain ⟨w', arr', q1, q2, q3, q4, q5, q6, q7⟩ := storeCells_run (P := P) b off e fr vs 0 arr w k3 (by omega) hone k5
  have hget : ∀ j, j < arr.size → arr'.getD j undef = if off ≤ j ∧ j < off + xs.length then vs.getD (j - off) undef else arr.getD j undef := by
    intro j hj
    simp only [Array.getD_eq_getD_getElem?, q7 j, List.getD_eq_getElem?_getD, Nat.add_zero, hl]
    split <;> rfl
  obtain ⟨ι', r1, r2, r3⟩ := step_set (i := i) (ds := ds) (ds' := setRange ds off xs) (b := b) (sz := sz) (b' := b) (arr' := arr') (e := e) (fr := fr) (w' := w') hs hd hι q2 (by omega) (fun c _ hc => q4 c hc) q5 (.inl ⟨rfl, by omega⟩)
    (by rw [setRange_length hle]; exact Nat.le_refl _) (by rw [setRange_length hle]; omega) (by rw [q6]; exact k5)
    (by
      intro j hj
      rw [q6] at hj
      rw [hget j hj]
      by_cases hr : off ≤ j ∧ j < off + xs.length
      · rw [if_pos hr]
        have : j - off < vs.length := by omega
        rw [List.getD_eq_getElem?_getD, List.getElem?_eq_getElem this]
        exact hone _ (List.getElem_mem this)
      · rw [if_neg hr]
        exact k6 j hj)
    (by
      intro d hd'
      rcases mem_setRange hd' with h | h
      · exact k7 d h
      · exact hc d h)
    (by
      intro j d hj
      have hjl : j < ds.length := by
        have := (List.getElem?_eq_some_iff.1 hj).1
        rwa [setRange_length hle] at this
      rw [hget j (by omega)]
      rw [setRange_get hle] at hj
      split at hj
      · rename_i hr
        rw [if_pos hr]
        exact hx _ d hj
      · rename_i hr
        rw [if_neg hr]
        exact k8 j d hj)
  exact ⟨w', ι', q1, r1, r2⟩

theorem store_run {p x : D} {pv xv : Value} {t : TypeId} (hs : Sim X ok w ι H) (hp : Rep ok w ι H p pv) (hx : Rep ok w ι H x xv) (h : stD P H t p x = some H') :
    ∃ w' ι', (Instr.storeAt t pv xv).run P w = .ok () w' ∧ Sim X ok w' ι' H' ∧ Evol H.length ok w ι H ok w' ι' H' := by
  unfold stD at h
  split at h
  · rename_i i st off xs hcs
    split at h
    · rename_i ds hd
      split at h
      · rename_i hcond
        obtain ⟨h1, h2, h3, h4, _⟩ := hcond
        injection h with h
        subst h
        cases hp with
        | optr a hi hh =>
          obtain ⟨b, s, hι, rfl⟩ := (hh ds hd).2 h1
          obtain ⟨c1, c2, c3⟩ := cellsOf_rep hx hcs
          obtain ⟨w', ι', q1, q2, q3⟩ := write_run (P := P) (vs := xv.cells.toList) hs hd h1 hι rfl h4 (by simpa using c1) c2 (fun j d hj => by
            have := c3 j d hj
            simpa [Array.getD_eq_getD_getElem?, List.getD_eq_getElem?_getD] using this)
          refine ⟨w', ι', ?_, q2, q3⟩
          simp [Instr.storeAt, Instr.sureAddr, storeVar, sizeOf_run h3, c1, h2, q1]
      · cases h
    · cases h
  · cases h

end
end Go.Ev
