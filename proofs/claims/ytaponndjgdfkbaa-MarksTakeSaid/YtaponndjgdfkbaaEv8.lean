import Derived.Test.YtaponndjgdfkbaaEv7
import Derived.Lib.ConvBytes
import Derived.Laws.BytesArg
/-
  Each operation on data is what the operation does: conversions, parts laid together, new slices.
-/
namespace Go.Ev

section
variable {X : Cx} {P : Program} {ok : Nat → Prop} {w w' : World} {ι : Iota} {H H' : Heap}

theorem bytesD_rep : ∀ {cs : List D} {s : List UInt8}, bytesD cs = some s → ∃ ns : List Int, cs = ns.map (D.int .u8) ∧ s = ns.map fun n => UInt8.ofNat n.toNat
  | [], s, h => by
    simp only [bytesD, Option.some.injEq] at h
    exact ⟨[], rfl, h.symm⟩
  | .int .u8 n :: l, s, h => by
    simp only [bytesD] at h
    cases hb : bytesD l with
    | none => simp [hb] at h
    | some r =>
      simp only [hb, Option.map_some, Option.some.injEq] at h
      obtain ⟨ns, h1, h2⟩ := bytesD_rep hb
      exact ⟨n :: ns, by simp [h1], by simp [← h, h2]⟩
  | .int .i8 _ :: _, _, h | .int .i16 _ :: _, _, h | .int .i32 _ :: _, _, h | .int .i64 _ :: _, _, h | .int .u16 _ :: _, _, h | .int .u32 _ :: _, _, h | .int .u64 _ :: _, _, h
  | .bool _ :: _, _, h | .str _ :: _, _, h | .nilp :: _, _, h | .nilf :: _, _, h | .nili :: _, _, h | .agg _ :: _, _, h | .tup _ :: _, _, h | .vptr _ :: _, _, h | .optr _ _ _ :: _, _, h | .vsl _ _ _ :: _, _, h
  | .osl _ _ _ _ _ :: _, _, h | .fn _ _ :: _, _, h | .iface _ _ :: _, _, h => by simp [bytesD] at h

theorem convert_run {src dst : TypeId} {x d : D} {v : Value} (hs : Sim X ok w ι H) (hx : Rep ok w ι H x v) (h : convD P H src dst x = some (d, H')) :
    ∃ v' w', (convert src dst v).run P w = .ok v' w' ∧ Post X H.length ok w ι H d H' v' w' := by
  unfold convD at h
  split at h
  · rename_i k k' n h1 h2
    injection h with h
    injection h with h3 h4
    subst h3; subst h4
    cases hx
    exact ⟨.int k (k.wrap n), w, by simp [convert, run_underlying h1, run_underlying h2, Conv.intToInt], Post.same hs (.int _ _)⟩
  · rename_i s h1 h2
    injection h with h
    injection h with h3 h4
    subst h3; subst h4
    cases hx
    exact ⟨.string ⟨s.toArray⟩, w, by simp [convert, run_underlying h1, run_underlying h2], Post.same hs (.str _)⟩
  · rename_i e s h1 h2
    split at h
    · rename_i he
      injection h with h
      injection h with h3 h4
      subst h3; subst h4
      cases hx
      have hsz : (⟨s.toArray⟩ : ByteArray).size = s.length := by simp [ByteArray.size]
      have hge := grownCap_ge w s.length 0 e
      have hbs : (Lib.bytesCells w e ⟨s.toArray⟩).size = grownCap w s.length 0 e := by
        unfold Lib.bytesCells
        simp only [Array.size_append, Array.size_map, Array.size_replicate, hsz]
        simp
        omega
      have hbg : ∀ j, j < s.length → (Lib.bytesCells w e ⟨s.toArray⟩).getD j undef = (ofBytesV s).getD j undef := by
        intro j hj
        unfold Lib.bytesCells ofBytesV
        rw [Array.getD_eq_getD_getElem?, Array.getElem?_append_left (by simpa using hj), List.getD_eq_getElem?_getD]
        simp
      have hbz : ∀ j, s.length ≤ j → j < grownCap w s.length 0 e → (Lib.bytesCells w e ⟨s.toArray⟩).getD j undef = .int .u8 0 := by
        intro j hj hjl
        unfold Lib.bytesCells
        rw [Array.getD_eq_getD_getElem?, Array.getElem?_append_right (by simpa using hj)]
        simp only [hsz]
        rw [Array.getElem?_replicate, if_pos (by simp; omega)]
        rfl
      obtain ⟨ι', n1, n2, n3⟩ := step_new (w' := Lib.bytesWorld w e ⟨s.toArray⟩) (b' := w.heap.size) (arr := Lib.bytesCells w e ⟨s.toArray⟩) (ds := ofBytes s) hs
        (by
          refine ⟨?_, ?_, ?_⟩ <;> (unfold Lib.bytesWorld World.freeze; split <;> rfl))
        (by rw [Lib.bytesWorld_size]; omega) (fun c hc => Lib.bytesWorld_at_old w e _ c hc) (Lib.bytesWorld_at_new w e _) (Nat.le_refl _) (by rw [hbs]; simpa [ofBytes] using hge)
        (fun j hj hc => by simp only at hc; omega)
        (fun j hj => by
          rw [hbs] at hj
          by_cases hjs : j < s.length
          · rw [hbg j hjs]
            unfold ofBytesV
            simp [List.getD_eq_getElem?_getD, hjs, Value.oneCell']
          · rw [hbz j (by omega) hj]
            rfl)
        (fun d hd => by
          simp only [ofBytes, List.mem_map] at hd
          obtain ⟨_, _, rfl⟩ := hd
          rfl)
        (fun j d hj => by
          have hjs : j < s.length := by
            have := (List.getElem?_eq_some_iff.1 hj).1
            simpa [ofBytes] using this
          rw [hbg j hjs]
          exact ofBytes_rep s j d hj)
      refine ⟨_, _, Lib.run_convert_string_bytes w src dst e ⟨s.toArray⟩ h1 h2 he, ι', ok, n1, ?_, n2⟩
      rw [hsz]
      refine .osl _ (by rw [length_newBlk]; omega) (fun ds hd => ?_) hge
      rw [hget_newBlk_same] at hd
      injection hd with hd
      subst hd
      refine ⟨by simp [ofBytes], fun _ => ⟨_, _, n3, rfl, by rw [hbs]; omega⟩⟩
    · cases h
  · rename_i _ e h1 h2
    split at h
    · rename_i cs n he hsl
      cases hb : bytesD cs with
      | none => simp [hb] at h
      | some s =>
        simp only [hb, Option.map_some, Option.some.injEq, Prod.mk.injEq] at h
        obtain ⟨h3, h4⟩ := h
        subst h3; subst h4
        obtain ⟨ns, rfl, rfl⟩ := bytesD_rep hb
        obtain ⟨k1, k2, A, c, rfl, hlc, hA, f, hf⟩ := slc_read hs hx hsl
        simp only [List.length_map, Nat.mul_one] at k1
        cases A with
        | none =>
          have hn : n = 0 := hA rfl
          subst hn
          have : ns = [] := List.eq_nil_of_length_eq_zero k1
          subst this
          refine ⟨.string ByteArray.empty, w, run_convert_bytes_nil w src e h1 he _ _ dst h2, Post.same hs ?_⟩
          exact .str []
        | some a =>
          have hl : (loadCells a n).run P w = .ok (ns.map (Value.int .u8)).toArray w := by
            have := run_loadCells_list (P := P) w a (ns.map (Value.int .u8)) (fun j v hj => by
              rw [List.getElem?_map] at hj
              cases hj' : ns[j]? with
              | none => simp [hj'] at hj
              | some m =>
                simp only [hj', Option.map_some, Option.some.injEq] at hj
                subst hj
                obtain ⟨a', ha', hc, hr⟩ := hf j (.int .u8 m) (by simp [hj'])
                injection ha' with ha'
                subst ha'
                rw [hc]
                generalize f j = fv at hr
                cases hr
                rfl)
            simpa [k1] using this
          refine ⟨_, w, ?_, Post.same hs (.str _)⟩
          rw [run_convert_bytes_string w src dst e _ n c h1 he h2, run_bytesToString w _ n c ns hl, foldl_push_bytes]
          simp [ByteArray.empty, ByteArray.emptyWithCapacity]
          rfl
    · cases h
  · cases h

theorem foldl_set (off : Nat) : ∀ (l : List Value) (n : Nat) (cs : Array Value),
    ((l.zipIdx n).foldl (fun cs (c, j) => cs.setIfInBounds (off + j) c) cs).size = cs.size ∧
    ∀ j, ((l.zipIdx n).foldl (fun cs (c, j) => cs.setIfInBounds (off + j) c) cs)[j]? = if off + n ≤ j ∧ j < off + n + l.length ∧ j < cs.size then l[j - (off + n)]? else cs[j]?
  | [], n, cs => by
    refine ⟨rfl, fun j => ?_⟩
    rw [if_neg (by simp; omega)]
    rfl
  | v :: l, n, cs => by
    obtain ⟨h1, h2⟩ := foldl_set off l (n + 1) (cs.setIfInBounds (off + n) v)
    simp only [List.zipIdx_cons, List.foldl_cons]
    refine ⟨by rw [h1]; simp, fun j => ?_⟩
    rw [h2 j]
    simp only [Array.size_setIfInBounds, List.length_cons]
    by_cases hj : j = off + n
    · subst hj
      rw [if_neg (by omega)]
      by_cases hlt : off + n < cs.size
      · rw [if_pos (by omega)]
        simp [hlt]
      · rw [if_neg (by omega), Array.getElem?_eq_none (by simp; omega), Array.getElem?_eq_none (by omega)]
    · rw [Array.getElem?_setIfInBounds_ne (by omega)]
      by_cases hr : off + (n + 1) ≤ j ∧ j < off + (n + 1) + l.length ∧ j < cs.size
      · rw [if_pos hr, if_pos (by omega)]
        rw [show j - (off + n) = (j - (off + (n + 1))) + 1 by omega, List.getElem?_cons_succ]
      · rw [if_neg hr, if_neg (by omega)]

def RepParts (ok : Nat → Prop) (w : World) (ι : Iota) (H : Heap) : List (Nat × D) → List (Nat × Value) → Prop
  | [], [] => True
  | (i, d) :: ds, (j, v) :: vs => i = j ∧ Rep ok w ι H d v ∧ RepParts ok w ι H ds vs
  | _, _ => False

theorem fill_run {place : Nat → Option (Nat × Nat)} : ∀ {parts : List (Nat × D)} {vps : List (Nat × Value)} {cs cs' : List D} {arr : Array Value}, RepParts ok w ι H parts vps → arr.size = cs.length →
    (∀ d, d ∈ cs → isCell d = true) → (∀ (j : Nat) d, cs[j]? = some d → Rep ok w ι H d (arr.getD j undef)) → fillD place cs parts = some cs' →
    ∃ arr', Instr.fill place arr vps = some arr' ∧ arr'.size = cs'.length ∧ (∀ d, d ∈ cs' → isCell d = true) ∧ (∀ (j : Nat) d, cs'[j]? = some d → Rep ok w ι H d (arr'.getD j undef)) ∧ cs'.length = cs.length
  | [], [], cs, cs', arr, _, hl, hc, hr, h => by
    simp only [fillD, Option.some.injEq] at h
    subst h
    exact ⟨arr, rfl, hl, hc, hr, rfl⟩
  | (i, d) :: ps, (i', v) :: vps, cs, cs', arr, hp, hl, hc, hr, h => by
    obtain ⟨rfl, hv, hp⟩ := hp
    simp only [fillD] at h
    split at h
    · rename_i off size xs hpl hcs
      split at h
      · rename_i hcond
        obtain ⟨h1, h2⟩ := hcond
        obtain ⟨c1, c2, c3⟩ := cellsOf_rep hv hcs
        obtain ⟨f1, f2⟩ := foldl_set off v.cells.toList 0 arr
        have hfold : v.cells.zipIdx.foldl (fun cs (c, j) => cs.setIfInBounds (off + j) c) arr = (v.cells.toList.zipIdx 0).foldl (fun cs (c, j) => cs.setIfInBounds (off + j) c) arr := by
          rw [← Array.foldl_toList]
          simp
        have hle : off + xs.length ≤ cs.length := h2
        obtain ⟨arr', q1, q2, q3, q4, q5⟩ := fill_run (place := place) (arr := v.cells.zipIdx.foldl (fun cs (c, j) => cs.setIfInBounds (off + j) c) arr) hp (by rw [hfold, f1, setRange_length hle]; exact hl)
          (fun d hd => by
            rcases mem_setRange hd with h | h
            · exact hc d h
            · exact c2 d h)
          (fun j d hj => by
            have hjl : j < cs.length := by
              have := (List.getElem?_eq_some_iff.1 hj).1
              rwa [setRange_length hle] at this
            rw [hfold, Array.getD_eq_getD_getElem?, f2 j]
            simp only [Nat.add_zero, Array.length_toList, c1]
            rw [setRange_get hle] at hj
            by_cases hr' : off ≤ j ∧ j < off + xs.length
            · rw [if_pos hr'] at hj
              rw [if_pos ⟨hr'.1, hr'.2, by omega⟩]
              have := c3 _ d hj
              simpa [Array.getD_eq_getD_getElem?] using this
            · rw [if_neg hr'] at hj
              rw [if_neg (by omega)]
              have := hr j d hj
              rwa [Array.getD_eq_getD_getElem?] at this) h
        refine ⟨arr', ?_, q2, q3, q4, by rw [q5, setRange_length hle]⟩
        simp only [Instr.fill, hpl]
        rw [if_neg (by simp; omega)]
        exact q1
      · cases h
    · cases h
  | [], _ :: _, _, _, _, hp, _, _, _, _ => by simp [RepParts] at hp
  | _ :: _, [], _, _, _, hp, _, _, _, _ => by simp [RepParts] at hp

theorem partsD_rep (hs : Sim X ok w ι H) {e : Env} {a : Act} (he : EnvRep ok w ι H e a.tmps) : ∀ {l : List (Nat × Operand)} {ps : List (Nat × D)}, partsD X e l = some ps → RepParts ok w ι H ps (l.map fun (i, x) => (i, a.eval x))
  | [], ps, h => by
    simp only [partsD, Option.some.injEq] at h
    subst h
    trivial
  | (i, x) :: l, ps, h => by
    simp only [partsD] at h
    split at h
    · rename_i d ds h1 h2
      injection h with h
      subst h
      exact ⟨rfl, opd_rep hs he h1, partsD_rep hs he h2⟩
    · cases h

theorem places_run {fs : Array Field} (h : fs.all (fun f => decide (0 < szOf P f.type)) = true) (w : World) :
    (fs.mapM fun f => (do pure (f.offset, ← sizeOf f.type) : Sem (Nat × Nat))).run P w = .ok (fs.map fun f => (f.offset, szOf P f.type)) w := by
  have key : ∀ l : List Field, (∀ f, f ∈ l → 0 < szOf P f.type) → (l.mapM fun f => (do pure (f.offset, ← sizeOf f.type) : Sem (Nat × Nat))).run P w = .ok (l.map fun f => (f.offset, szOf P f.type)) w := by
    intro l
    induction l with
    | nil => intro _; simp
    | cons f l ih =>
      intro hl
      have h1 := hl f (List.mem_cons_self ..)
      have h2 := ih fun g hg => hl g (List.mem_cons_of_mem _ hg)
      rw [List.mapM_cons]
      simp only [Sem.run_bind, sizeOf_run h1, Result.andThen_ok, Sem.run_pure, h2, List.map_cons]
  rw [Array.mapM_eq_mapM_toList]
  rw [Sem.run_map, key fs.toList (fun f hf => by
    have := Array.all_eq_true'.1 h f (by simpa using hf)
    simpa using this)]
  simp
  apply Array.ext'
  simp

theorem build_run {t : TypeId} {parts : List (Nat × D)} {vps : Array (Nat × Value)} {d : D} (hp : RepParts ok w ι H parts vps.toList) (h : buildD P t parts = some d) :
    ∃ v, (Instr.build t vps).run P w = .ok v w ∧ Rep ok w ι H d v := by
  unfold buildD at h
  split at h
  · rename_i z fs hz hu
    split at h
    · rename_i hall
      obtain ⟨zv, z1, z2⟩ := zeroOf_run hz
      have zr := z2 ok w ι H
      obtain ⟨c1, c2, c3⟩ := cellsOf_rep zr rfl
      cases hf : fillD (structPlace P fs) z parts with
      | none => simp [hf] at h
      | some cs =>
        simp only [hf, Option.map_some, Option.some.injEq] at h
        subst h
        have hpl : (fun i => (fs.map fun f => (f.offset, szOf P f.type))[i]?) = structPlace P fs := by
          funext i
          simp [structPlace]
        obtain ⟨arr, q1, q2, q3, q4, _⟩ := fill_run (place := structPlace P fs) hp c1 c2 c3 hf
        refine ⟨.agg arr, ?_, .agg q2 q3 q4⟩
        simp only [Instr.build, Sem.run_bind, z1, Result.andThen_ok, run_underlying hu, places_run hall, hpl, q1, Sem.run_pure]
    · cases h
  · rename_i z n e hz hu
    split at h
    · rename_i hpos
      obtain ⟨zv, z1, z2⟩ := zeroOf_run hz
      have zr := z2 ok w ι H
      obtain ⟨c1, c2, c3⟩ := cellsOf_rep zr rfl
      cases hf : fillD (fun i => some (i * szOf P e, szOf P e)) z parts with
      | none => simp [hf] at h
      | some cs =>
        simp only [hf, Option.map_some, Option.some.injEq] at h
        subst h
        obtain ⟨arr, q1, q2, q3, q4, _⟩ := fill_run (place := fun i => some (i * szOf P e, szOf P e)) hp c1 c2 c3 hf
        refine ⟨.agg arr, ?_, .agg q2 q3 q4⟩
        simp only [Instr.build, Sem.run_bind, z1, Result.andThen_ok, run_underlying hu, sizeOf_run hpos, q1, Sem.run_pure]
    · cases h
  · cases h

theorem zeroRow_get {z : Array Value} {n j : Nat} (hz : 0 < z.size) (h : j < n) : ((Array.range n).map (z[· % z.size]!)).getD j undef = z.getD (j % z.size) undef := by
  have hm := Nat.mod_lt j hz
  simp [Array.getD_eq_getD_getElem?, h, hm]

theorem buildSlice_run {t : TypeId} {len : Nat} {parts : List (Nat × D)} {vps : Array (Nat × Value)} {d : D} (hs : Sim X ok w ι H) (hp : RepParts ok w ι H parts vps.toList) (h : buildSliceD P H t len parts = some (d, H')) :
    ∃ v w', (Instr.buildSlice t len vps).run P w = .ok v w' ∧ Post X H.length ok w ι H d H' v w' := by
  unfold buildSliceD at h
  split at h
  · rename_i e hu
    split at h
    · rename_i z hz
      split at h
      · rename_i hsmall
        cases hf : fillD (fun i => some (i * szOf P e, szOf P e)) z parts with
        | none => simp [hf] at h
        | some cs =>
          simp only [hf, Option.bind_some] at h
          split at h
          · rename_i hcs
            injection h with h
            injection h with h1 h2
            subst h1; subst h2
            obtain ⟨zv, z1, z2, z3, z4, z5, z6, z7⟩ := zeroCells_run hz
            have hne : len * szOf P e = 0 → z = [] := fun h0 => List.eq_nil_of_length_eq_zero (by omega)
            obtain ⟨zc, hzc1, hzc2, hzget⟩ : ∃ zc : Array Value, (len * szOf P e = 0 → zc = #[]) ∧ (¬ len * szOf P e = 0 → zc = zv.cells) ∧
                ∀ j, j < len * szOf P e → ((Array.range (len * szOf P e)).map (zc[· % zc.size]!)).getD j undef = zv.cells.getD (j % szOf P e) undef := by
              by_cases h0 : len * szOf P e = 0
              · exact ⟨#[], fun _ => rfl, fun h => absurd h0 h, fun j hj => by omega⟩
              · refine ⟨zv.cells, fun h => absurd h h0, fun _ => rfl, fun j hj => ?_⟩
                rw [zeroRow_get (by omega) hj, z2]
            obtain ⟨arr, q1, q2, q3, q4, q5⟩ := fill_run (place := fun i => some (i * szOf P e, szOf P e)) (arr := (Array.range (len * szOf P e)).map (zc[· % zc.size]!)) hp (by simp [z4]) z5
              (fun j d hj => by
                rw [hzget j (by have := (List.getElem?_eq_some_iff.1 hj).1; omega)]
                exact z7 ok w ι H j d hj) hf
            obtain ⟨ι', n1, n2, n3⟩ := new_run (e := e) (arr := arr) (ds := cs) hs w ⟨rfl, rfl, rfl⟩ rfl (by omega)
              (fun j hj => by
                have hj' : cs[j]? = some (cs[j]'(by omega)) := List.getElem?_eq_getElem (by omega)
                exact (q4 j _ hj').oneCell (q3 _ (mem_of_get? hj')))
              q3 q4
            refine ⟨.slice (some ⟨w.heap.size, 0, none⟩) len len, w.alloc (.cells arr e), ?_, ι', ok, n1, ?_, n2⟩
            · have hs16 : ¬ (16777216 < len * szOf P e) := by omega
              simp only [Instr.buildSlice, Sem.run_bind, run_underlying hu, Result.andThen_ok, sizeOf_run z3]
              rw [if_neg (by simpa using hsmall)]
              by_cases h0 : len * szOf P e = 0
              · rw [hzc1 h0] at q1
                rw [if_pos h0]
                simp only [Sem.run_bind, Sem.run_pure, Result.andThen_ok, q1]
                simp [newRow]
              · rw [hzc2 h0] at q1
                rw [if_neg h0]
                simp only [Sem.run_bind, Sem.run_pure, Result.andThen_ok, z1, q1]
                simp [newRow]
            · refine .osl _ (by rw [length_newBlk]; omega) (fun ds hd => ?_) (Nat.le_refl _)
              rw [hget_newBlk_same] at hd
              injection hd with hd
              subst hd
              exact ⟨Nat.le_refl _, fun _ => ⟨_, _, n3, rfl, by omega⟩⟩
          · cases h
      · cases h
    · cases h
  · cases h

theorem makeSlice_run {t : TypeId} {l c d : D} {lv cv : Value} (hs : Sim X ok w ι H) (hl : Rep ok w ι H l lv) (hc : Rep ok w ι H c cv) (h : makeSliceD P H t l c = some (d, H')) :
    ∃ v w', (Instr.makeSlice t lv cv).run P w = .ok v w' ∧ Post X H.length ok w ι H d H' v w' := by
  unfold makeSliceD at h
  split at h
  · rename_i e l c hu
    split at h
    · rename_i hcond
      obtain ⟨b1, b2, b3, b4⟩ := hcond
      cases hz : zeroCellsD P e l.toNat with
      | none => simp [hz] at h
      | some z =>
        simp only [hz, Option.bind_some] at h
        split at h
        · rename_i hzl
          injection h with h
          injection h with h1 h2
          subst h1; subst h2
          cases hl; cases hc
          obtain ⟨zv, z1, z2, z3, z4, z5, z6, z7⟩ := zeroCells_run hz
          obtain ⟨inf, i1, i2, i3⟩ := info_sz z3
          simp only [maxBytes] at b3 b4
          have wl : IntKind.i64.wrap l = l := by rw [IntKind.wrap_i64]; omega
          have wc : IntKind.i64.wrap c = c := by rw [IntKind.wrap_i64]; omega
          have hcs : ((Array.range (c.toNat * szOf P e)).map (zv.cells[· % zv.cells.size]!)).size = c.toNat * szOf P e := by simp
          have hle : l.toNat * szOf P e ≤ c.toNat * szOf P e := Nat.mul_le_mul_right _ (by omega)
          by_cases h0 : c.toNat * szOf P e = 0
          · have hc0 : c.toNat = 0 := by
              rcases Nat.mul_eq_zero.1 h0 with h | h
              · exact h
              · omega
            have hl0 : l.toNat = 0 := by omega
            have hz0 : z = [] := List.eq_nil_of_length_eq_zero (by rw [z4, hl0, Nat.zero_mul])
            subst hz0
            obtain ⟨ι', n1, n2, n3⟩ := new_run (e := e) (arr := #[]) (ds := []) hs w ⟨rfl, rfl, rfl⟩ rfl (by simp) (by simp) (by simp) (by simp)
            refine ⟨.slice (some ⟨w.heap.size, 0, none⟩) l.toNat c.toNat, w.alloc (.cells #[] e), ?_, ι', ok, n1, ?_, n2⟩
            · simp only [Instr.makeSlice, Sem.run_bind, run_underlying hu, Result.andThen_ok, asInt, asIntOf, typeInfo, run_program, i1, Sem.run_pure, wl, wc]
              rw [if_neg (by
                simp only [i3, Bool.or_eq_true, decide_eq_true_eq, not_or]
                refine ⟨⟨⟨by omega, ?_⟩, by omega⟩, by omega⟩
                omega)]
              simp [sizeOf_run z3, h0, newRow, show Array.range 0 = #[] from rfl]
            · refine .osl _ (by rw [length_newBlk]; omega) (fun ds hd => ?_) (by omega)
              rw [hget_newBlk_same] at hd
              injection hd with hd
              subst hd
              exact ⟨Nat.le_refl _, fun _ => ⟨_, _, n3, rfl, by simp [h0]⟩⟩
          · have hzget : ∀ j, j < c.toNat * szOf P e → ((Array.range (c.toNat * szOf P e)).map (zv.cells[· % zv.cells.size]!)).getD j undef = zv.cells.getD (j % szOf P e) undef := by
              intro j hj
              rw [zeroRow_get (by omega) hj, z2]
            obtain ⟨ι', n1, n2, n3⟩ := new_run (e := e) (arr := (Array.range (c.toNat * szOf P e)).map (zv.cells[· % zv.cells.size]!)) (ds := z) hs w ⟨rfl, rfl, rfl⟩ rfl (by rw [hcs]; omega)
              (fun j hj => by
                rw [hcs] at hj
                rw [hzget j hj]
                exact z6 _ (Nat.mod_lt _ z3))
              z5 (fun j d hj => by
                rw [hzget j (by have := (List.getElem?_eq_some_iff.1 hj).1; omega)]
                exact z7 ok w ι H j d hj)
            refine ⟨.slice (some ⟨w.heap.size, 0, none⟩) l.toNat c.toNat, w.alloc (.cells ((Array.range (c.toNat * szOf P e)).map (zv.cells[· % zv.cells.size]!)) e), ?_, ι', ok, n1, ?_, n2⟩
            · simp only [Instr.makeSlice, Sem.run_bind, run_underlying hu, Result.andThen_ok, asInt, asIntOf, typeInfo, run_program, i1, Sem.run_pure, wl, wc]
              rw [if_neg (by
                simp only [i3, Bool.or_eq_true, decide_eq_true_eq, not_or]
                refine ⟨⟨⟨by omega, ?_⟩, by omega⟩, by omega⟩
                omega)]
              simp [sizeOf_run z3, h0, newRow, z1]
            · refine .osl _ (by rw [length_newBlk]; omega) (fun ds hd => ?_) (by omega)
              rw [hget_newBlk_same] at hd
              injection hd with hd
              subst hd
              exact ⟨Nat.le_refl _, fun _ => ⟨_, _, n3, rfl, by rw [hcs]; omega⟩⟩
        · cases h
    · cases h
  · cases h

end
end Go.Ev
