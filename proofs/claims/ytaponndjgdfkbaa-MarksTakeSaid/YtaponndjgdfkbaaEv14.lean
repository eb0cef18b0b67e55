import Derived.Test.YtaponndjgdfkbaaEv12
/-
  Texts of slices and of bytes told by value: what a region that draws its order makes.
-/
namespace Go.Ev

section
variable {X : Cx} {P : Program} {ok ok' : Nat → Prop} {w w' : World} {ι : Iota} {H H' : Heap}

theorem step_lit {ds : List D} {b len c : Nat} {arr : Array Value} {e : TypeId} {fr : Nat × Nat} (hs : Sim X ok w ι H) (hw : SameS w w') (hsz : w.heap.size ≤ w'.heap.size) (hfr : ∀ c, c < w.heap.size → w'.heap[c]? = w.heap[c]?)
    (hb : w'.heap[b]? = some (.cells arr e fr)) (hloc : w.heap.size ≤ b) (hfit : ds.length ≤ arr.size) (hcell : ∀ d, d ∈ ds → isCell d = true) (hfree : ds.all idFree = true) (hlc : len ≤ c)
    (hrep : ∀ (j : Nat) d, ds[j]? = some d → Rep ok w ι H d (arr.getD j undef)) :
    Post X H.length ok w ι H (.vsl false ds len) H (.slice (some ⟨b, 0, none⟩) len c) w' := by
  have hblt : b < w'.heap.size := (Array.getElem?_eq_some_iff.1 hb).1
  have hev : Evol H.length ok w ι H (fun x => ok x ∨ x = b) w' ι H :=
    ⟨hw.1, hw.2.1, hw.2.2, hsz, fun c hc _ => hfr c hc, fun _ h => .inl h, fun x hx hlt => by
      rcases hx with hx | hx
      · exact hx
      · omega, ⟨Nat.le_refl _, Nat.le_refl _⟩, fun _ _ ds hd => ⟨ds, hd, Nat.le_refl _, fun _ => rfl⟩, fun i ds _ s hd hi _ => ⟨i, ds, s, hd, hi⟩⟩
  have hsim : Sim X (fun x => ok x ∨ x = b) w' ι H := by
    refine ⟨fun x hx => ?_, fun g cs hg => (((hs.glob g cs hg).lift (ι := ι) (H := H)).evol hs hev rfl).free rfl _ _, hs.inj, fun i es hd => ?_⟩
    · rcases hx with hx | hx
      · exact Nat.lt_of_lt_of_le (hs.okS x hx) hsz
      · omega
    · obtain ⟨b', arr', e', fr', q1, q2, q3, q4, q5, q6, q7, q8⟩ := hs.blk i es hd
      have hlt := hs.lt hd q1
      refine ⟨b', arr', e', fr', q1, fun h => ?_, by rw [hfr b' hlt]; exact q3, q4, q5, q6, q7, fun j d hj => (q8 j d hj).evol hs hev (q8 j d hj).closed⟩
      rcases h with h | h
      · exact q2 h
      · omega
  refine ⟨ι, _, hsim, .vsl _ (fun j => arr.getD j undef) (.inr rfl) hcell (fun j d hj => ?_) (fun j d hj => ?_) hlc, hev⟩
  · have hlt : j < arr.size := Nat.lt_of_lt_of_le (List.getElem?_eq_some_iff.1 hj).1 hfit
    rw [addr_add, Nat.zero_add, cell_of_heap hb]
    simp [hlt]
  · exact ((hrep j d hj).evol hs hev (hrep j d hj).closed).free (allFree hfree d (mem_of_get? hj)) _ _

theorem litSlice_run {t : TypeId} {len : Nat} {parts : List (Nat × D)} {vps : Array (Nat × Value)} {i st o n k : Nat} {ds : List D} (hs : Sim X ok w ι H) (hp : RepParts ok w ι H parts vps.toList) (h : buildSliceD X.P [] t len parts = some (.osl i st o n k, [some ds])) :
    ∃ v w', (Instr.buildSlice t len vps).run X.P w = .ok v w' ∧ Post X H.length ok w ι H (.vsl false ds len) H v w' := by
  unfold buildSliceD at h
  split at h
  · rename_i e hu
    split at h
    · rename_i z hz
      split at h
      · rename_i hsmall
        cases hf : fillD (fun i => some (i * szOf X.P e, szOf X.P e)) z parts with
        | none => simp [hf] at h
        | some cs =>
          simp only [hf, Option.bind_some] at h
          split at h
          · rename_i hcs
            simp only [newBlk, List.nil_append, Option.some.injEq, Prod.mk.injEq, List.cons.injEq, and_true] at h
            obtain ⟨_, h2⟩ := h
            subst h2
            obtain ⟨zv, z1, z2, z3, z4, z5, z6, z7⟩ := zeroCells_run hz
            obtain ⟨zc, hzc1, hzc2, hzget⟩ : ∃ zc : Array Value, (len * szOf X.P e = 0 → zc = #[]) ∧ (¬ len * szOf X.P e = 0 → zc = zv.cells) ∧
                ∀ j, j < len * szOf X.P e → ((Array.range (len * szOf X.P e)).map (zc[· % zc.size]!)).getD j undef = zv.cells.getD (j % szOf X.P e) undef := by
              by_cases h0 : len * szOf X.P e = 0
              · exact ⟨#[], fun _ => rfl, fun h => absurd h0 h, fun j hj => by omega⟩
              · refine ⟨zv.cells, fun h => absurd h h0, fun _ => rfl, fun j hj => ?_⟩
                rw [zeroRow_get (by omega) hj, z2]
            obtain ⟨arr, q1, q2, q3, q4, q5⟩ := fill_run (place := fun i => some (i * szOf X.P e, szOf X.P e)) (arr := (Array.range (len * szOf X.P e)).map (zc[· % zc.size]!)) hp (by simp [z4]) z5
              (fun j d hj => by
                rw [hzget j (by have := (List.getElem?_eq_some_iff.1 hj).1; omega)]
                exact z7 ok w ι H j d hj) hf
            refine ⟨.slice (some ⟨w.heap.size, 0, none⟩) len len, w.alloc (.cells arr e), ?_, step_lit hs ⟨rfl, rfl, rfl⟩ (by simp) (fun c hc => heap_alloc_old w _ hc) (heap_alloc_new w _) (Nat.le_refl _) (by omega) q3 hcs.1 (Nat.le_refl _) q4⟩
            simp only [Instr.buildSlice, Sem.run_bind, run_underlying hu, Result.andThen_ok, sizeOf_run z3]
            rw [if_neg (by simpa using hsmall)]
            by_cases h0 : len * szOf X.P e = 0
            · rw [hzc1 h0] at q1
              rw [if_pos h0]
              simp only [Sem.run_bind, Sem.run_pure, Result.andThen_ok, q1]
              simp [newRow]
            · rw [hzc2 h0] at q1
              rw [if_neg h0]
              simp only [Sem.run_bind, Sem.run_pure, Result.andThen_ok, z1, q1]
              simp [newRow]
          · cases h
      · cases h
    · cases h
  · cases h

theorem litBytes_run {src dst e : TypeId} {u : TypeDesc} {s : List UInt8} (hs : Sim X ok w ι H) (h1 : X.P.underlying src = some u) (h2 : X.P.underlying dst = some (.slice e)) (he : X.P.underlying e = some (.int .u8)) :
    ∃ v w', (convert src dst (.string ⟨s.toArray⟩)).run X.P w = .ok v w' ∧ Post X H.length ok w ι H (.vsl false (ofBytes s) s.length) H v w' := by
  have hsz : (⟨s.toArray⟩ : ByteArray).size = s.length := by simp [ByteArray.size]
  have hge := grownCap_ge w s.length 0 e
  have hbs : (Lib.bytesCells w e ⟨s.toArray⟩).size = grownCap w s.length 0 e := by
    unfold Lib.bytesCells
    simp only [Array.size_append, Array.size_map, Array.size_replicate, hsz]
    simp
    omega
  have hbg : ∀ j, j < s.length → (Lib.bytesCells w e ⟨s.toArray⟩).getD j undef = (ofBytesV s).getD j undef := by
    intro j hj
    unfold Lib.bytesCells ofBytesV
    rw [Array.getD_eq_getD_getElem?, Array.getElem?_append_left (by simpa using hj), List.getD_eq_getElem?_getD]
    simp
  have hrun := Lib.run_convert_string_bytes w src dst e ⟨s.toArray⟩ h1 h2 he
  rw [hsz] at hrun
  refine ⟨_, _, hrun, step_lit (w' := Lib.bytesWorld w e ⟨s.toArray⟩) (b := w.heap.size) (arr := Lib.bytesCells w e ⟨s.toArray⟩) (ds := ofBytes s) hs
    (by
      refine ⟨?_, ?_, ?_⟩ <;> (unfold Lib.bytesWorld World.freeze; split <;> rfl))
    (by rw [Lib.bytesWorld_size]; omega) (fun c hc => Lib.bytesWorld_at_old w e _ c hc) (Lib.bytesWorld_at_new w e _) (Nat.le_refl _) (by rw [hbs]; simpa [ofBytes] using hge)
    (fun d hd => by
      simp only [ofBytes, List.mem_map] at hd
      obtain ⟨_, _, rfl⟩ := hd
      rfl)
    (by
      rw [List.all_eq_true]
      intro d hd
      simp only [ofBytes, List.mem_map] at hd
      obtain ⟨_, _, rfl⟩ := hd
      rfl) hge
    (fun j d hj => by
      have hjs : j < s.length := by
        have := (List.getElem?_eq_some_iff.1 hj).1
        simpa [ofBytes] using this
      rw [hbg j hjs]
      exact ofBytes_rep s j d hj)⟩

theorem opW_goes {F : CallF} (hF : SoundF X F) {drw : Bool} {o : Oper} {e : Env} {a : Act} {d : D} (hs : Sim X ok w ι H) (he : EnvRep ok w ι H e a.tmps) (h : evOpW X F drw o.op e H = some (d, H')) :
    Goes X.P (execOp a.eval o) w (Post X H.length ok w ι H d H') := by
  unfold evOpW at h
  split at h
  · rename_i t len parts ho
    split at h
    · rename_i ps hps
      split at h
      · rename_i ds hb
        injection h with h
        injection h with h1 h2
        subst h1; subst h2
        obtain ⟨v, w1, q1, q2⟩ := litSlice_run (vps := parts.map fun (i, x) => (i, a.eval x)) hs (by simpa using partsD_rep hs he hps) hb
        exact Goes.value (by simp [execOp, ho, q1]) q2
      · cases h
    · cases h
  · rename_i s t x ho
    split at h
    · rename_i b u hx hu
      split at h
      · rename_i us hus hu8
        injection h with h
        injection h with h1 h2
        subst h1; subst h2
        have hb := opd_rep hs he hx
        generalize hcv : a.eval x = cv at hb
        cases hb
        obtain ⟨v, w1, q1, q2⟩ := litBytes_run (s := b) hs hus hu hu8
        exact Goes.value (by simp [execOp, ho, hcv, q1]) q2
      · cases h
    · rename_i p _ hx
      obtain ⟨v, w1, q1, q2⟩ := convert_run (P := X.P) hs (opd_rep hs he (by assumption)) h
      exact Goes.value (by simp [execOp, ho, q1]) q2
    · cases h
  · exact op_goes hF hs he h

end
end Go.Ev
