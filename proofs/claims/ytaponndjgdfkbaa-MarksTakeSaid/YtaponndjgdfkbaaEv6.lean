import Derived.Test.YtaponndjgdfkbaaEv5
import Derived.Laws.Append
/-
  Each operation on data is what the operation does: slices, append, copy.
-/
namespace Go.Ev

section
variable {X : Cx} {P : Program} {ok : Nat → Prop} {w w' : World} {ι : Iota} {H H' : Heap}

theorem cell_of_sameHeap {w w1 : World} (h : w1.heap = w.heap) (a : Addr) : w1.cell? a = w.cell? a := by simp [World.cell?, h]

/-- The cells of a slice's elements are read so. -/
theorem slc_read {k n : Nat} {x : D} {v : Value} {cs : List D} (hs : Sim X ok w ι H) (hx : Rep ok w ι H x v) (h : slc H k x = some (cs, n)) :
    cs.length = n * k ∧ (∀ d, d ∈ cs → isCell d = true) ∧ ∃ A c, v = .slice A n c ∧ n ≤ c ∧ (A = none → n = 0) ∧
      ∃ f : Nat → Value, ∀ (j : Nat) d, cs[j]? = some d → ∃ a, A = some a ∧ w.cell? (a.add j) = some (f j) ∧ Rep ok w ι H d (f j) := by
  cases hx with
  | vnil =>
    simp only [slc] at h
    split at h
    · rename_i hl
      injection h with h
      injection h with h1 h2
      subst h1; subst h2
      exact ⟨hl, by simp, none, 0, rfl, Nat.le_refl _, fun _ => rfl, fun _ => undef, by simp⟩
    · cases h
  | vsl a f ha hc hr hh hlc =>
    simp only [slc] at h
    split at h
    · rename_i hl
      injection h with h
      injection h with h1 h2
      subst h1; subst h2
      exact ⟨hl, hc, some a, _, rfl, hlc, fun h => by (cases h), f, fun j d hj => ⟨a, rfl, hr j d hj, (hh j d hj).lift⟩⟩
    · cases h
  | @osl _ _ i st off len k' c a hi hh hlc =>
    simp only [slc] at h
    split at h
    · rename_i ds hd
      split at h
      · rename_i hcond
        obtain ⟨h1, h2, h3⟩ := hcond
        injection h with h
        injection h with h4 h5
        subst h4; subst h5
        obtain ⟨b, s, q1, rfl, q3⟩ := (hh ds hd).2 h1
        obtain ⟨b', arr, e, fr, k1, k2, k3, k4, k5, k6, k7, k8⟩ := hs.blk i ds hd
        rw [q1] at k1
        injection k1 with k1
        injection k1 with k1 _
        subst k1
        refine ⟨by simp; omega, fun d hd => k7 d (List.mem_of_mem_drop (List.mem_of_mem_take hd)), some ⟨b, off, none⟩, c, rfl, hlc, (fun h => by cases h), fun j => arr.getD (off + j) undef, fun j d hj => ⟨_, rfl, ?_⟩⟩
        rw [List.getElem?_take] at hj
        split at hj
        · rw [List.getElem?_drop] at hj
          have hlt : off + j < arr.size := Nat.lt_of_lt_of_le (List.getElem?_eq_some_iff.1 hj).1 k4
          refine ⟨?_, k8 _ d hj⟩
          rw [addr_add, cell_of_heap k3]
          simp [hlt]
        · cases hj
      · cases h
    · cases h
  | _ => simp [slc] at h

def ofBytesV (s : List UInt8) : List Value := s.map fun b => .int .u8 (b.toNat : Int)

theorem ofBytes_rep (s : List UInt8) (j : Nat) (d : D) (h : (ofBytes s)[j]? = some d) : Rep ok w ι H d (((ofBytesV s)).getD j undef) := by
  unfold ofBytes at h
  rw [List.getElem?_map] at h
  cases hj : s[j]? with
  | none => simp [hj] at h
  | some b =>
    simp only [hj, Option.map_some, Option.some.injEq] at h
    subst h
    have : (ofBytesV s).getD j undef = .int .u8 (b.toNat : Int) := by
      unfold ofBytesV
      simp [List.getD_eq_getElem?_getD, hj]
    rw [this]
    exact .int _ _

/-- What is appended or copied, as the built-ins read it. -/
theorem src_run {k m : Nat} {xt : TypeId} {x : D} {v : Value} {xs : List D} (hs : Sim X ok w ι H) (hx : Rep ok w ι H x v) (h : srcD P H k xt x = some (xs, m)) :
    xs.length = m * k ∧ (∀ d, d ∈ xs → isCell d = true) ∧ (∃ dsc, P.underlying xt = some dsc ∧ ∀ q, dsc ≠ .int q) ∧
    (∀ w1 : World, (Builtin.lenOf v).run P w1 = .ok m w1) ∧
    ∀ n, n ≤ m → ∃ vs : List Value, vs.length = n * k ∧ (∀ w1 : World, w1.heap = w.heap → (Builtin.firstCells k n v).run P w1 = .ok vs.toArray w1) ∧
      ∀ (j : Nat) d, j < n * k → xs[j]? = some d → Rep ok w ι H d (vs.getD j undef) := by
  unfold srcD at h
  split at h
  · rename_i b hu
    split at h
    · rename_i hk
      subst hk
      injection h with h
      injection h with h1 h2
      subst h1; subst h2
      cases hx
      refine ⟨by simp [ofBytes], ?_, ⟨_, hu, fun q => by simp⟩, fun w1 => by simp [Builtin.lenOf, ByteArray.size], fun n hn => ⟨(ofBytesV b).take n, by simp [ofBytesV]; omega, fun w1 _ => ?_, fun j d hj hd => ?_⟩⟩
      · intro d hd
        simp only [ofBytes, List.mem_map] at hd
        obtain ⟨_, _, rfl⟩ := hd
        rfl
      · have he : (⟨b.toArray⟩ : ByteArray).extract 0 n = ⟨(b.take n).toArray⟩ := by
          apply ByteArray.ext
          simp
        simp [Builtin.firstCells, he, ofBytesV, List.map_take]
      · have h := ofBytes_rep (ok := ok) (w := w) (ι := ι) (H := H) b j d hd
        rw [List.getD_eq_getElem?_getD] at h ⊢
        rw [List.getElem?_take, if_pos (by omega)]
        exact h
    · cases h
  · rename_i e hu
    obtain ⟨h1, h2, A, c, rfl, hlc, hA, f, hf⟩ := slc_read hs hx h
    refine ⟨h1, h2, ⟨_, hu, fun q => by simp⟩, fun w1 => by simp [Builtin.lenOf], fun n hn => ?_⟩
    have hlt : ∀ j, j < n * k → ∃ d, xs[j]? = some d := fun j hj => ⟨xs[j]'(by have := Nat.mul_le_mul_right k hn; omega), List.getElem?_eq_getElem _⟩
    cases A with
    | none =>
      have hm : m = 0 := hA rfl
      subst hm
      have hn0 : n = 0 := by omega
      subst hn0
      exact ⟨[], by simp, fun w1 _ => by simp [Builtin.firstCells], fun j d hj _ => by simp at hj⟩
    | some a =>
      refine ⟨(List.range (n * k)).map f, by simp, fun w1 hw1 => ?_, fun j d hj hd => ?_⟩
      · have hl := run_loadCells (P := P) w1 a (n * k) f (fun j hj => by
          obtain ⟨d, hd⟩ := hlt j hj
          obtain ⟨a', ha', hc, _⟩ := hf j d hd
          injection ha' with ha'
          subst ha'
          rw [cell_of_sameHeap hw1]
          exact hc)
        simp [Builtin.firstCells, hl]
      · obtain ⟨_, _, _, hr⟩ := hf j d hd
        rw [List.getD_eq_getElem?_getD]
        simpa [hj] using hr
  · cases h

theorem zeroOf_run {t : TypeId} {z : D} (h : zeroOf P t = some z) : ∃ v, (∀ w1 : World, (zeroValue t).run P w1 = .ok v w1) ∧ ∀ (ok : Nat → Prop) (w : World) (ι : Iota) (H : Heap), Rep ok w ι H z v := by
  unfold zeroOf at h
  cases hi : P.info? t with
  | none => simp [hi] at h
  | some i =>
    cases hz : i.zero with
    | none => simp [hi, hz] at h
    | some v =>
      simp only [hi, hz, Option.bind_some] at h
      exact ⟨v, fun w1 => by simp [zeroValue, typeInfo, hi, hz], fun ok w ι H => ofVal_rep h⟩

theorem flatten_replicate_get {z : List D} {n j : Nat} (h : j < n * z.length) : ((List.replicate n z).flatten)[j]? = z[j % z.length]? := by
  induction n generalizing j with
  | zero => omega
  | succ n ih =>
    rw [List.replicate_succ, List.flatten_cons]
    by_cases hj : j < z.length
    · rw [List.getElem?_append_left hj, Nat.mod_eq_of_lt hj]
    · have hz : z.length ≤ j := by omega
      have h' : j < n * z.length + z.length := by rw [← Nat.succ_mul]; exact h
      rw [List.getElem?_append_right hz, ih (by omega)]
      congr 1
      rw [Nat.mod_eq_sub_mod hz]

theorem zeroCells_run {t : TypeId} {n : Nat} {zs : List D} (h : zeroCellsD P t n = some zs) : ∃ v, (∀ w1 : World, (zeroValue t).run P w1 = .ok v w1) ∧ v.cells.size = szOf P t ∧ 0 < szOf P t ∧ zs.length = n * szOf P t ∧
    (∀ d, d ∈ zs → isCell d = true) ∧ (∀ j, j < szOf P t → (v.cells.getD j undef).oneCell' = true) ∧
    ∀ (ok : Nat → Prop) (w : World) (ι : Iota) (H : Heap) (j : Nat) d, zs[j]? = some d → Rep ok w ι H d (v.cells.getD (j % szOf P t) undef) := by
  unfold zeroCellsD at h
  split at h
  · rename_i z hz
    split at h
    · rename_i hl
      obtain ⟨hl, hpos⟩ := hl
      injection h with h
      subst h
      cases hzo : zeroOf P t with
      | none => simp [hzo] at hz
      | some zd =>
        simp only [hzo, Option.bind_some] at hz
        obtain ⟨v, hv, hr⟩ := zeroOf_run hzo
        obtain ⟨c1, c2, _⟩ := cellsOf_rep (hr (fun _ => True) default iota0 []) hz
        refine ⟨v, hv, by omega, hpos, by simp [hl], ?_, ?_, ?_⟩
        · intro d hd
          rw [List.mem_flatten] at hd
          obtain ⟨l, h1, h2⟩ := hd
          rw [(List.mem_replicate.1 h1).2] at h2
          exact c2 d h2
        · intro j hj
          obtain ⟨_, c2, c3⟩ := cellsOf_rep (hr (fun _ => True) default iota0 []) hz
          have hz' : z[j]? = some (z[j]'(by omega)) := List.getElem?_eq_getElem (by omega)
          exact (c3 j _ hz').oneCell (c2 _ (mem_of_get? hz'))
        · intro ok w ι H j d hj
          have hjl : j < n * z.length := by
            have := (List.getElem?_eq_some_iff.1 hj).1
            simpa using this
          rw [flatten_replicate_get hjl, hl] at hj
          obtain ⟨_, _, c3⟩ := cellsOf_rep (hr ok w ι H) hz
          exact c3 _ d hj
    · cases h
  · cases h

theorem zeroCells_get {z : Array Value} {n j : Nat} (h : j < n * z.size) : (Builtin.zeroCells z n)[j]? = some (z.getD (j % z.size) undef) := by
  unfold Builtin.zeroCells
  have hz : 0 < z.size := by
    rcases Nat.eq_zero_or_pos z.size with h0 | h0
    · rw [h0] at h; omega
    · exact h0
  have hm := Nat.mod_lt j hz
  rw [Array.getElem?_map, Array.getElem?_range]
  simp only [h, if_true, Option.map_some, Option.some.injEq]
  rw [Array.getD_eq_getD_getElem?, Array.getElem?_eq_getElem hm]
  simp [hm]

/-- A new block made of cells that stand so. -/
theorem new_run {ds : List D} {arr : Array Value} {e : TypeId} (hs : Sim X ok w ι H) (w1 : World) (hw1 : SameS w w1) (hh : w1.heap = w.heap) (hl : ds.length ≤ arr.size)
    (hone : ∀ j, j < arr.size → (arr.getD j undef).oneCell' = true) (hc : ∀ d, d ∈ ds → isCell d = true) (hr : ∀ (j : Nat) d, ds[j]? = some d → Rep ok w ι H d (arr.getD j undef)) :
    ∃ ι', Sim X ok (w1.alloc (.cells arr e)) ι' (newBlk H ds) ∧ Evol H.length ok w ι H ok (w1.alloc (.cells arr e)) ι' (newBlk H ds) ∧ ι' H.length = some (w.heap.size, arr.size) := by
  refine step_new (fr := (0, 0)) (e := e) hs hw1 (by simp [hh]) (fun c hcl => ?_) ?_ (Nat.le_refl _) hl (fun j _ h => by omega) hone hc hr
  · rw [← hh]; exact heap_alloc_old w1 _ (by rw [hh]; exact hcl)
  · rw [← hh]; exact heap_alloc_new w1 _

theorem drew_same (w : World) : SameS w w.drew := ⟨rfl, rfl, rfl⟩

theorem drew_eq (w : World) : ({ w with drawn := w.drawn + 1 } : World) = w.drew := rfl

theorem run_append_grown {st xt ty e : TypeId} {dsc : TypeDesc} {zv xv : Value} {base : Option Addr} {sLen sCap m : Nat} {olds news : List Value} (hu : P.underlying st = some (.slice e)) (hxu : P.underlying xt = some dsc)
    (hni : ∀ q, dsc ≠ .int q) (hz : ∀ w1 : World, (zeroValue e).run P w1 = .ok zv w1) (hsz : 0 < szOf P e) (hlen : ∀ w1 : World, (Builtin.lenOf xv).run P w1 = .ok m w1)
    (hold : ∀ w1 : World, w1.heap = w.heap → (Builtin.firstCells (szOf P e) sLen (.slice base sLen sCap)).run P w1 = .ok olds.toArray w1)
    (hnew : ∀ w1 : World, w1.heap = w.heap → (Builtin.firstCells (szOf P e) m xv).run P w1 = .ok news.toArray w1)
    (hg : sCap < sLen + m) (h1 : sLen + m ≤ maxBytes) (h2 : (sLen + m) * bytesOf P e ≤ maxBytes) :
    (Builtin.append_ #[st, xt] ty #[.slice base sLen sCap, xv]).run P w =
      .ok (.slice (some ⟨w.heap.size, 0, none⟩) (sLen + m) (grownCap w (sLen + m) sCap e))
        (w.drew.alloc (.cells (olds.toArray ++ news.toArray ++ Builtin.zeroCells zv.cells (grownCap w (sLen + m) sCap e - (sLen + m))) e)) := by
  obtain ⟨i, hi, i2, i3⟩ := info_sz hsz
  have hn : ¬ (sLen + m ≤ sCap) := by omega
  simp only [maxBytes] at h1 h2
  have h63' : ¬ (9223372036854775807 < ((sLen : Int) + (m : Int))) := by omega
  have h48 := growslice_fits (need := sLen + m) (old := sCap) (by omega) h2
  have h48' : ¬ (281474976710656 < Builtin.nextslicecap (sLen + m) sCap * i.bytes) := by rw [i3]; omega
  have hf := hnew w.drew rfl
  have hfo := hold w.drew rfl
  simp [Builtin.append_, run_underlying hu, run_underlying hxu, sizeOf_run hsz, hlen, typeInfo, hi, hn, h63', h48', Question.forced, hz, hf, hfo, newRow, grownCap]
  congr 2
  apply Array.ext'
  simp [List.append_assoc]

theorem grown_get {e : TypeId} {zv : Value} {old news : List Value} {xs : List D} {n : Nat} (hz : zv.cells.size = szOf P e) (hpos : 0 < szOf P e) (z6 : ∀ j, j < szOf P e → (zv.cells.getD j undef).oneCell' = true)
    (c2 : ∀ d, d ∈ xs → isCell d = true) (hl : (old ++ news).length = xs.length) (hr : ∀ (j : Nat) d, xs[j]? = some d → Rep ok w ι H d ((old ++ news).getD j undef)) :
    (∀ j, j < (old.toArray ++ news.toArray ++ Builtin.zeroCells zv.cells n).size → ((old.toArray ++ news.toArray ++ Builtin.zeroCells zv.cells n).getD j undef).oneCell' = true) ∧
    ∀ (j : Nat) d, xs[j]? = some d → Rep ok w ι H d ((old.toArray ++ news.toArray ++ Builtin.zeroCells zv.cells n).getD j undef) := by
  have hlo : ∀ j, j < xs.length → (old.toArray ++ news.toArray ++ Builtin.zeroCells zv.cells n).getD j undef = (old ++ news).getD j undef := by
    intro j hj
    rw [Array.getD_eq_getD_getElem?, Array.getElem?_append_left (by simp at hl ⊢; omega), List.getD_eq_getElem?_getD]
    simp
  constructor
  · intro j hj
    by_cases hjx : j < xs.length
    · rw [hlo j hjx]
      have hxj : xs[j]? = some (xs[j]'(by omega)) := List.getElem?_eq_getElem (by omega)
      exact (hr j _ hxj).oneCell (c2 _ (mem_of_get? hxj))
    · have hll : (old ++ news).length = old.length + news.length := List.length_append
      rw [Array.getD_eq_getD_getElem?, Array.getElem?_append_right (by simp; omega)]
      simp only [Array.size_append, List.size_toArray, size_zeroCells] at hj ⊢
      rw [zeroCells_get (by omega)]
      exact z6 _ (by rw [← hz]; exact Nat.mod_lt _ (by omega))
  · intro j d hj
    rw [hlo j (List.getElem?_eq_some_iff.1 hj).1]
    exact hr j d hj

theorem append_run {st xt ty : TypeId} {s x d : D} {sv xv : Value} (hs : Sim X ok w ι H) (hsv : Rep ok w ι H s sv) (hx : Rep ok w ι H x xv) (h : appendD P H st xt s x = some (d, H')) :
    ∃ v w', (Builtin.append_ #[st, xt] ty #[sv, xv]).run P w = .ok v w' ∧ Post X H.length ok w ι H d H' v w' := by
  unfold appendD at h
  split at h
  · rename_i e hu
    split at h
    · rename_i xs m _ hsrc hz
      obtain ⟨c1, c2, ⟨dsc, hxu, hni⟩, c3, c4⟩ := src_run (P := P) hs hx hsrc
      obtain ⟨zv, z1, z2, z3, _, _, z6, _⟩ := zeroCells_run hz
      obtain ⟨inf, i1, i2, i3⟩ := info_sz z3
      cases hsv
      split at h
      · rename_i hm
        subst hm
        injection h with h
        injection h with h1 h2
        subst h1; subst h2
        obtain ⟨vs, v1, v2, _⟩ := c4 0 (Nat.le_refl _)
        refine ⟨.slice none 0 0, w, ?_, Post.same hs .vnil⟩
        simp [Builtin.append_, run_underlying hu, run_underlying hxu, sizeOf_run z3, c3, v2 w rfl]
      · rename_i hm
        split at h
        · rename_i hcond
          obtain ⟨b1, b2, b3⟩ := hcond
          injection h with h
          injection h with h1 h2
          subst h1; subst h2
          obtain ⟨vs, v1, v2, v3⟩ := c4 m (Nat.le_refl _)
          obtain ⟨g1, g2⟩ := grown_get (old := []) (news := vs) (n := grownCap w (0 + m) 0 e - (0 + m)) z2 z3 z6 c2 (by simp; omega) (fun j d hj => v3 j d (by have := (List.getElem?_eq_some_iff.1 hj).1; omega) hj)
          obtain ⟨ι', n1, n2, n3⟩ := new_run (e := e) (ds := xs) hs w.drew (drew_same w) rfl (by simp; omega) g1 c2 g2
          refine ⟨_, _, run_append_grown (olds := []) (news := vs) hu hxu hni z1 z3 c3 (fun w1 _ => by simp [Builtin.firstCells]) v2 (by omega) (by omega) (by rw [Nat.zero_add]; exact b1), ι', ok, n1, ?_, n2⟩
          have hge := grownCap_ge w (0 + m) 0 e
          rw [Nat.zero_add] at hge ⊢
          refine .osl _ (by rw [length_newBlk]; omega) (fun ds hd => ?_) hge
          rw [hget_newBlk_same] at hd
          injection hd with hd
          subst hd
          refine ⟨Nat.le_refl _, fun _ => ⟨_, _, n3, rfl, ?_⟩⟩
          simp only [Array.size_append, List.size_toArray, size_zeroCells, z2, v1, List.length_nil, Nat.zero_add, ← Nat.add_mul]
          rw [show m + (grownCap w m 0 e - m) = grownCap w m 0 e by omega]
          exact Nat.le_refl _
        · cases h
    · rename_i xs m _ i sm len k hsrc hz
      split at h
      · rename_i ds hd
        split at h
        · rename_i hcond
          obtain ⟨b1, b2, b3, b4, b5, b6⟩ := hcond
          injection h with h
          injection h with h1 h2
          subst h1; subst h2
          obtain ⟨c1, c2, ⟨dsc, hxu, hni⟩, c3, c4⟩ := src_run (P := P) hs hx hsrc
          obtain ⟨zv, z1, z2, z3, _, _, z6, _⟩ := zeroCells_run hz
          obtain ⟨vs, v1, v2, v3⟩ := c4 m (Nat.le_refl _)
          subst b2
          cases hsv with
          | @osl _ _ _ _ _ _ _ c a hi hh hlc =>
            obtain ⟨b, s, q1, rfl, q3⟩ := (hh ds hd).2 b1
            obtain ⟨b', arr, e2, fr, k1, k2, k3, k4, k5, k6, k7, k8⟩ := hs.blk i ds hd
            rw [q1] at k1
            injection k1 with k1
            injection k1 with k1 k1'
            subst k1
            have hdl : ds.length = len * szOf P e := by omega
            have happ : ∀ d, d ∈ ds ++ xs → isCell d = true := by
              intro d hd
              rcases List.mem_append.1 hd with h | h
              · exact k7 d h
              · exact c2 d h
            by_cases hroom : len + m ≤ c
            · -- in place
              have hmul : (len + m) * szOf P e ≤ c * szOf P e := Nat.mul_le_mul_right _ hroom
              rw [Nat.add_mul] at hmul
              have hone : ∀ v, v ∈ vs → v.oneCell' = true := by
                intro v hv
                obtain ⟨j, hj⟩ := List.mem_iff_getElem?.1 hv
                have hjl : j < vs.length := (List.getElem?_eq_some_iff.1 hj).1
                have hxj : xs[j]? = some (xs[j]'(by omega)) := List.getElem?_eq_getElem (by omega)
                have h := v3 j _ (by omega) hxj
                rw [List.getD_eq_getElem?_getD, hj] at h
                exact h.oneCell (c2 _ (mem_of_get? hxj))
              obtain ⟨w', arr', r1, r2, r3, r4, r5, r6, r7⟩ := storeCells_run (P := P) b (len * szOf P e) e2 fr vs 0 arr w k3 (by omega) hone k5
              have hget : ∀ j, j < arr.size → arr'.getD j undef = if len * szOf P e ≤ j ∧ j < len * szOf P e + m * szOf P e then vs.getD (j - len * szOf P e) undef else arr.getD j undef := by
                intro j hj
                simp only [Array.getD_eq_getD_getElem?, r7 j, List.getD_eq_getElem?_getD, Nat.add_zero, v1]
                split <;> rfl
              obtain ⟨ι', s1, s2, s3⟩ := step_set (i := i) (ds := ds) (ds' := ds ++ xs) (b := b) (sz := s) (b' := b) (arr' := arr') (e := e2) (fr := fr) (w' := w') hs hd q1 r2 (by omega) (fun c _ hc => r4 c hc) r5 (.inl ⟨rfl, by omega⟩)
                (by simp) (by simp; omega) (by rw [r6]; exact k5)
                (by
                  intro j hj
                  rw [r6] at hj
                  rw [hget j hj]
                  by_cases hr : len * szOf P e ≤ j ∧ j < len * szOf P e + m * szOf P e
                  · rw [if_pos hr]
                    have : j - len * szOf P e < vs.length := by omega
                    rw [List.getD_eq_getElem?_getD, List.getElem?_eq_getElem this]
                    exact hone _ (List.getElem_mem this)
                  · rw [if_neg hr]
                    exact k6 j hj)
                happ
                (by
                  intro j d hj
                  have hjl : j < ds.length + xs.length := by
                    have := (List.getElem?_eq_some_iff.1 hj).1
                    simpa using this
                  rw [hget j (by omega)]
                  by_cases hjd : j < ds.length
                  · rw [if_neg (by omega)]
                    rw [List.getElem?_append_left hjd] at hj
                    exact k8 j d hj
                  · rw [if_pos (by omega)]
                    rw [List.getElem?_append_right (by omega)] at hj
                    rw [← hdl]
                    exact v3 _ d (by omega) hj)
              refine ⟨.slice (some ⟨b, 0, none⟩) (len + m) c, w', ?_, ι', ok, s1, ?_, s2⟩
              · simp [Builtin.append_, run_underlying hu, run_underlying hxu, sizeOf_run z3, c3, hroom, v2 w rfl, addr_add, r1]
              · refine .osl _ (by rw [length_hset]; exact hi) (fun ds' hd' => ?_) hroom
                rw [hget_hset_same hi] at hd'
                injection hd' with hd'
                subst hd'
                refine ⟨by simp [b1], fun _ => ⟨b, arr'.size, s3, rfl, by omega⟩⟩
            · -- a new block
              have hold : ∀ w1 : World, w1.heap = w.heap → (Builtin.firstCells (szOf P e) len (.slice (some ⟨b, 0, none⟩) len c)).run P w1 = .ok ((List.range (len * szOf P e)).map fun j => arr.getD j undef).toArray w1 := by
                intro w1 hw1
                have hl := run_loadCells (P := P) w1 ⟨b, 0, none⟩ (len * szOf P e) (fun j => arr.getD j undef) (fun j hj => by
                  rw [addr_add, cell_of_sameHeap hw1, cell_of_heap k3]
                  have : j < arr.size := by omega
                  simp [this])
                simp only [Builtin.firstCells]
                exact hl
              obtain ⟨g1, g2⟩ := grown_get (xs := ds ++ xs) (old := (List.range (len * szOf P e)).map fun j => arr.getD j undef) (news := vs) (n := grownCap w (len + m) c e - (len + m)) z2 z3 z6 happ (by simp; omega)
                (fun j d hj => by
                  have hjl : j < ds.length + xs.length := by
                    have := (List.getElem?_eq_some_iff.1 hj).1
                    simpa using this
                  rw [List.getD_eq_getElem?_getD]
                  by_cases hjd : j < ds.length
                  · rw [List.getElem?_append_left hjd] at hj
                    rw [List.getElem?_append_left (by simp; omega)]
                    have := k8 j d hj
                    simpa [show j < len * szOf P e by omega] using this
                  · rw [List.getElem?_append_right (by omega)] at hj
                    rw [List.getElem?_append_right (by simp; omega)]
                    have := v3 _ d (by omega) hj
                    rw [List.getD_eq_getElem?_getD] at this
                    simpa [hdl] using this)
              have hsize : (((List.range (len * szOf P e)).map fun j => arr.getD j undef).toArray ++ vs.toArray ++ Builtin.zeroCells zv.cells (grownCap w (len + m) c e - (len + m))).size = grownCap w (len + m) c e * szOf P e := by
                have hge := grownCap_ge w (len + m) c e
                simp only [Array.size_append, List.size_toArray, size_zeroCells, z2, v1, List.length_map, List.length_range, ← Nat.add_mul]
                rw [show len + m + (grownCap w (len + m) c e - (len + m)) = grownCap w (len + m) c e by omega]
              have hm : 0 < m := by omega
              have hmk : 0 < m * szOf P e := Nat.mul_pos hm z3
              obtain ⟨ι', s1, s2, s3⟩ := step_set (i := i) (ds := ds) (ds' := ds ++ xs) (b := b) (sz := s) (b' := w.heap.size) (w' := w.drew.alloc (.cells (((List.range (len * szOf P e)).map fun j => arr.getD j undef).toArray ++ vs.toArray ++ Builtin.zeroCells zv.cells (grownCap w (len + m) c e - (len + m))) e))
                (e := e) (fr := (0, 0)) hs hd q1 (drew_same w) (by simp) (fun c hc _ => heap_alloc_old w.drew _ hc) (heap_alloc_new w.drew _) (.inr ⟨Nat.le_refl _, by simp; omega⟩) (by simp)
                (by
                  rw [hsize]
                  have hge := Nat.mul_le_mul_right (szOf P e) (grownCap_ge w (len + m) c e)
                  rw [Nat.add_mul] at hge
                  simp
                  omega) (fun j _ h => by omega) g1 happ g2
              refine ⟨_, _, run_append_grown hu hxu hni z1 z3 c3 hold v2 (by omega) b5 b4, ι', ok, s1, ?_, s2⟩
              refine .osl _ (by rw [length_hset]; exact hi) (fun ds' hd' => ?_) (grownCap_ge w (len + m) c e)
              rw [hget_hset_same hi] at hd'
              injection hd' with hd'
              subst hd'
              refine ⟨by simp [b1], fun _ => ⟨_, _, s3, rfl, by rw [hsize]; omega⟩⟩
        · cases h
      · cases h
    · cases h
  · cases h

end
end Go.Ev
