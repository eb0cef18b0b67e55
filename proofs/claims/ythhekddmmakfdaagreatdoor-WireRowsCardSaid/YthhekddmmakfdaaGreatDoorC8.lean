import Derived.Test.YthhekddmmakfdaaGreatDoorC7
import Derived.Handed
import Derived.LaidMore
namespace Go.Ev.S
open Go Go.Proofs Go.Ev
def sameFrom : List Mk → List Mk → Bool
  | a :: x, b :: y => a == b && sameFrom x y
  | [], [] => true
  | _, _ => false
theorem sameFrom_eq : ∀ (x y : List Mk), sameFrom x y = (x == y)
  | [], [] => rfl
  | [], _ :: _ => rfl
  | _ :: _, [] => rfl
  | a :: x, b :: y => by rw [sameFrom, sameFrom_eq x y, List.cons_beq_cons]
set_option maxHeartbeats 1000000 in
theorem rmsame_ev [MaxL] [TxtC] (a b : Sl Mk) (ha : a.l.length < 4611686018427387904) :
    call cx 35 [(.vsl a.nil (encs a.l) a.l.length), (.vsl b.nil (encs b.l) b.l.length)] [] = some (.bool (a.l == b.l), []) := by
  refine call_run Tryz.func35 rfl ⟨rfl, rfl⟩ ?_
  by_cases hl : a.l.length = b.l.length
  · simp [Tryz.f35, hl]
    refine Run.loopThen (fun (i : Nat) e H => i ≤ b.l.length ∧ H = [] ∧ look e 0 = some (.vsl a.nil (encs a.l) a.l.length) ∧ look e 1 = some (.vsl b.nil (encs b.l) b.l.length) ∧ look e 5 = some (.int .i64 i) ∧ sameFrom a.l b.l = sameFrom (a.l.drop i) (b.l.drop i)) (fun i => b.l.length - i) 0 (by simp [hl]) ?_
    rintro i e H ⟨hi, rfl, h0, h1, h5, hr⟩
    rw [sameFrom_eq a.l b.l] at hr
    by_cases hlt : i < b.l.length
    · have hlt' : (i : Int) < (b.l.length : Int) := by omega
      have hla : i < a.l.length := by omega
      have hw : IntKind.i64.wrap ((i : Int) + 1) = ((i + 1 : Nat) : Int) := by rw [wrap_i64] <;> omega
      rw [List.drop_eq_getElem_cons hlt, List.drop_eq_getElem_cons hla, sameFrom] at hr
      have hc := cellsEqMk a.l[i] b.l[i]
      cases he : a.l[i] == b.l[i] with
      | true =>
        rw [he] at hr hc
        rw [Bool.true_and] at hr
        simp [h0, h1, h5, hl, hlt', hlt, Sl.nn hlt, Sl.nn hla, hc, hw]
        exact ⟨i + 1, by omega, by omega, rfl, by rw [sameFrom_eq a.l b.l]; exact hr⟩
      | false =>
        rw [he] at hr hc
        rw [Bool.false_and] at hr
        simp [h0, h1, h5, hl, hlt', hlt, Sl.nn hlt, Sl.nn hla, hc, hr]
    · have hlt' : ¬ (i : Int) < (b.l.length : Int) := by omega
      have h1d : a.l.drop i = [] := List.drop_eq_nil_of_le (by omega)
      have h2d : b.l.drop i = [] := List.drop_eq_nil_of_le (by omega)
      rw [h1d, h2d, sameFrom] at hr
      simp [h0, h1, h5, hl, hlt', hr]
  · have hl' : ¬ ((a.l.length : Int) = (b.l.length : Int)) := by omega
    have he : (a.l == b.l) = false := by
      rw [beq_eq_false_iff_ne]
      intro h
      exact hl (by rw [h])
    simp [Tryz.f35, hl', he]
end Go.Ev.S
namespace Go.Ev.S
open Go Go.Proofs Go.Ev
def sameIs : List It → List It → Bool
  | [], [] => true
  | x :: xs, y :: ys => sameI x y && sameIs xs ys
  | _, _ => false
theorem sameIs_len : ∀ {x y : List It}, sameIs x y = true → x.length = y.length
  | [], [], _ => rfl
  | _ :: xs, _ :: ys, h => by
    rw [sameIs, Bool.and_eq_true] at h
    rw [List.length_cons, List.length_cons, sameIs_len h.2]
  | [], _ :: _, h => by cases h
  | _ :: _, [], h => by cases h
set_option maxHeartbeats 2000000 in
theorem rsames_ev [MaxL] (a b : Sl It) (ha : ∀ x ∈ a.l, x.rc.fields.l.length < 1000000) (hb : ∀ x ∈ b.l, x.rc.fields.l.length < 1000000) (han : a.l.length < 1000000) : call cx 34 [(.vsl a.nil (encs a.l) a.l.length), (.vsl b.nil (encs b.l) b.l.length)] [] = some (.bool (sameIs a.l b.l), []) := by
  refine call_run Tryz.func34 rfl ⟨rfl, rfl⟩ ?_
  by_cases hl : a.l.length = b.l.length
  case neg =>
    have hf : sameIs a.l b.l = false := by
      cases h : sameIs a.l b.l with
      | false => rfl
      | true => exact absurd (sameIs_len h) hl
    have hl' : ¬ (a.l.length : Int) = (b.l.length : Int) := by omega
    simp [Tryz.f34, hl', hf]
  obtain ⟨r, hr⟩ : ∃ r, sameIs a.l b.l = r := ⟨_, rfl⟩
  rw [hr]
  simp [Tryz.f34, hl]
  refine Run.loopThen (fun (i : Nat) e H' => i ≤ b.l.length ∧ sameIs (a.l.drop i) (b.l.drop i) = r ∧ look e 0 = some (.vsl a.nil (encs a.l) a.l.length) ∧ look e 1 = some (.vsl b.nil (encs b.l) b.l.length) ∧ look e 5 = some (.int .i64 (i : Nat)) ∧ H' = []) (fun i => b.l.length - i) 0 ⟨Nat.zero_le _, by simpa using hr, by simp [hl], by simp, by simp, rfl⟩ ?_
  rintro i e H' ⟨hi, hR, k0, k1, k5, rfl⟩
  by_cases hlt : i < b.l.length
  · have hlt' : (i : Int) < (b.l.length : Int) := by omega
    have hla : i < a.l.length := by omega
    have hw : IntKind.i64.wrap ((i : Int) + 1) = ((i + 1 : Nat) : Int) := by rw [wrap_i64] <;> omega
    have hs := ritem_ev a.l[i] b.l[i] (ha _ (List.getElem_mem hla)) (hb _ (List.getElem_mem hlt))
    rw [List.drop_eq_getElem_cons hla, List.drop_eq_getElem_cons hlt, sameIs] at hR
    have hea : List.drop (i * 39) (encs a.l) = Enc.cells a.l[i] ++ encs (a.l.drop (i + 1)) := It.ea hla
    have heb : List.drop (i * 39) (encs b.l) = Enc.cells b.l[i] ++ encs (b.l.drop (i + 1)) := It.ea hlt
    have n1 := Sl.nn hla
    have n2 := Sl.nn hlt
    generalize a.l[i] = x at *
    generalize b.l[i] = y at *
    cases hx : sameI x y with
    | true =>
      rw [hx] at hs hR
      simp [-It.ea, k0, k1, k5, hl, hlt', n1, n2, hea, heb, hs, hw]
      exact ⟨i + 1, by omega, by omega, by simpa using hR, by omega⟩
    | false =>
      rw [hx] at hs hR
      simp [-It.ea, k0, k1, k5, hl, hlt', n1, n2, hea, heb, hs, ← hR]
  · have hi2 : i = b.l.length := by omega
    rw [List.drop_eq_nil_of_le (by omega), List.drop_eq_nil_of_le (by omega)] at hR
    replace hR : true = r := hR
    subst hR
    simp [k0, k1, k5, hl, hlt]
theorem sames_norm : ∀ {l : List It}, (∀ x ∈ l, sameI (normI x) x = true) → sameIs (l.map normI) l = true
  | [], _ => rfl
  | x :: l, h => by
    rw [List.map_cons, sameIs, h x (List.mem_cons_self ..), sames_norm fun y hy => h y (List.mem_cons_of_mem _ hy)]
    rfl
end Go.Ev.S
namespace Go.Ev.S
open Go Go.Proofs Go.Ev
theorem idN_lt : ∀ j < 4, ∀ i < j, cmpB (idN i).l (idN j).l < 0 := by decide
structure FewN (i : Nat) (l : List Mk) : Prop where
  rises : risesM l = true
  ok : ∀ m ∈ l, m.Ok
  id : ∀ m ∈ l, ∃ j, j < i ∧ m.id = idN j
  len : l.length ≤ i
theorem rises_snocN : ∀ {l : List Mk} {m : Mk}, risesM l = true → (∀ x ∈ l, cmpB x.id.l m.id.l < 0) → risesM (l ++ [m]) = true
  | [], _, _, _ => rfl
  | [a], m, _, h => by simp [risesM, h a (List.mem_cons_self ..)]
  | a :: b :: l, m, hr, h => by
    simp only [risesM, Bool.and_eq_true] at hr
    have := rises_snocN (l := b :: l) hr.2 fun x hx => h x (List.mem_cons_of_mem _ hx)
    simp only [List.cons_append, risesM, Bool.and_eq_true] at this ⊢
    exact ⟨hr.1, this⟩
theorem FewN.same {i : Nat} {l : List Mk} (h : FewN i l) : FewN (i + 1) l :=
  ⟨h.rises, h.ok, fun m hm => by obtain ⟨j, h1, h2⟩ := h.id m hm; exact ⟨j, by omega, h2⟩, by have := h.len; omega⟩
theorem FewN.add {i : Nat} {l : List Mk} (h : FewN i l) (hi : i < 4) {a b c : Nat} (ha : a < 1000) (hb : b < 1000) (hc : c < 1000) : FewN (i + 1) (l ++ [⟨idN i, a, b, c⟩]) := by
  refine ⟨rises_snocN h.rises fun x hx => ?_, fun m hm => ?_, fun m hm => ?_, by have := h.len; simp; omega⟩
  · obtain ⟨j, h1, h2⟩ := h.id x hx
    rw [h2]
    exact idN_lt i hi j h1
  · rcases List.mem_append.1 hm with h' | h'
    · exact h.ok m h'
    · rw [List.mem_singleton.1 h']
      exact ⟨by simp only [isU64]; omega, by simp only [isU64]; omega, by simp only [isU64]; omega⟩
  · rcases List.mem_append.1 hm with h' | h'
    · obtain ⟨j, h1, h2⟩ := h.id m h'
      exact ⟨j, by omega, h2⟩
    · rw [List.mem_singleton.1 h']
      exact ⟨i, by omega, rfl⟩
def GrowM (S : List D) (l : List Mk) (d : D) (H : Heap) : Prop :=
  (l = [] ∧ d = .vsl true [] 0 ∧ H = [some S]) ∨ (l ≠ [] ∧ ∃ n k t, n = l.length * 19 ∧ k = l.length ∧ ((d = .osl 2 n 0 k 19 ∧ H = [some S, some t, some (encs l)]) ∨ (d = .osl 1 n 0 k 19 ∧ H = [some S, some (encs l), some t]) ∨ (d = .osl 1 n 0 k 19 ∧ H = [some S, some (encs l)])))
def MksQ (nil : Bool) (zs : List Int) (q : D × Heap) : Prop := ∃ (l : List Mk) (k' : Nat), FewN 4 l ∧ q = ((.vsl ((⟨l.isEmpty, l, fun h => by simpa using h⟩ : Sl Mk)).nil (encs ((⟨l.isEmpty, l, fun h => by simpa using h⟩ : Sl Mk)).l) ((⟨l.isEmpty, l, fun h => by simpa using h⟩ : Sl Mk)).l.length), [some (seqD nil zs k')])
set_option maxHeartbeats 2000000 in
theorem mmarks_ev [MaxL] [TxtC] (nil : Bool) (zs : List Int) (hnil : nil = true → zs = []) (hz : zs.length ≤ 1000000) (k : Nat) :
    ∃ q, call cx 28 [.optr 0 2 0] [some (seqD nil zs k)] = some q ∧ MksQ nil zs q := by
  refine call_runE (X := cx) (f := 28) (args := [.optr 0 2 0]) (H := [some (seqD nil zs k)]) (MksQ nil zs) Tryz.func28 rfl ⟨rfl, rfl⟩ ?_
  have sf := seqD_free nil zs
  have sl := seqD_len nil zs
  have sc := seqD_cl nil zs
  simp [Tryz.f28]
  refine Run.loopThen (fun (q : List Mk × Nat × Nat) e H' => q.2.1 ≤ 4 ∧ FewN q.2.1 q.1 ∧ look e 0 = some (.optr 0 2 0) ∧ look e 4 = some (.int .i64 (q.2.1 : Nat)) ∧ ∃ d, look e 3 = some d ∧ GrowM (seqD nil zs q.2.2) q.1 d H') (fun q => 4 - q.2.1) ([], 0, k) ?_ ?_
  · exact ⟨by simp, ⟨rfl, by simp, by simp, by simp⟩, by simp, by simp, _, by simp, .inl ⟨rfl, rfl, rfl⟩⟩
  rintro ⟨l, i, k1⟩ e H' ⟨hi, hf, k0, k4, d, k3, hH⟩
  simp only at hi hf k4 hH
  have hlen := hf.len
  obtain ⟨x, k2, hx, -, c1⟩ := n_ev nil zs hnil hz k1 2 (by decide) (by decide)
  obtain ⟨a, k5, ha, -, c2⟩ := n_ev nil zs hnil hz k2 9 (by decide) (by decide)
  obtain ⟨b, k6, hb, -, c3⟩ := n_ev nil zs hnil hz k5 9 (by decide) (by decide)
  obtain ⟨c, k7, hc, -, c4⟩ := n_ev nil zs hnil hz k6 9 (by decide) (by decide)
  have hw : IntKind.i64.wrap ((i : Int) + 1) = ((i + 1 : Nat) : Int) := by rw [wrap_i64] <;> omega
  have wa : IntKind.u64.wrap (a : Int) = (a : Int) := by rw [wrap_u64]; omega
  have wb : IntKind.u64.wrap (b : Int) = (b : Int) := by rw [wrap_u64]; omega
  have wc : IntKind.u64.wrap (c : Int) = (c : Int) := by rw [wrap_u64]; omega
  rcases hH with ⟨rfl, rfl, rfl⟩ | ⟨hne, n, m, t, hn, hm, hH⟩
  · by_cases h4 : i < 4
    · have h4i : (i : Int) < 4 := by omega
      have hid := mid_small (j := i) (by omega)
      have hadd := hf.add h4 (a := a) (b := b) (c := c) (by omega) (by omega) (by omega)
      have hsame := hf.same
      generalize idN i = q at *
      have hq := q.h
      have hq16 : List.take 16 (ofBytes q.l) = ofBytes q.l := List.take_of_length_le (by simp)
      by_cases hx1 : x = 1
      · subst hx1
        simp [k0, k3, k4, h4i, c1, c2, c3, c4, hid, sf, sc, hw, wa, wb, wc, hq, maxBytes, List.take_append, List.drop_append, drop_bytes]
        exact ⟨[⟨q, a, b, c⟩], i + 1, by omega, by omega, hadd, by simp, k7, .inr ⟨by simp, 19, 1, _, rfl, rfl, .inl ⟨rfl, by rw [encs_one]; rfl⟩⟩⟩
      · have hx1' : ¬ (x : Int) = 1 := by omega
        simp [k0, k3, k4, h4i, c1, hx1', sf, sc, hw]
        exact ⟨[], i + 1, by omega, by omega, hsame, by simp, k2, .inl ⟨rfl, rfl, rfl⟩⟩
    · have h4i : ¬ (i : Int) < 4 := by omega
      simp [k0, k3, k4, h4i, sc]
      have hi4 : i = 4 := by omega
      subst hi4
      exact ⟨[], k1, hf, rfl⟩
  · have hlk : l.length = m := hm.symm
    have hkn : m * 19 = n := by omega
    have htk : List.take n (encs l) = encs l := List.take_of_length_le (by simp; omega)
    have hm1 : (m + 1) * 40 ≤ 140737488355328 := by omega
    have hm2 : m + 1 ≤ 140737488355328 := by omega
    by_cases h4 : i < 4
    · have h4i : (i : Int) < 4 := by omega
      have hid := mid_small (j := i) (by omega)
      have hadd := hf.add h4 (a := a) (b := b) (c := c) (by omega) (by omega) (by omega)
      have hsame := hf.same
      generalize idN i = q at *
      have hq := q.h
      have hq16 : List.take 16 (ofBytes q.l) = ofBytes q.l := List.take_of_length_le (by simp)
      rcases hH with ⟨rfl, rfl⟩ | ⟨rfl, rfl⟩ | ⟨rfl, rfl⟩
      all_goals
        by_cases hx1 : x = 1
        · subst hx1
          simp [k0, k3, k4, h4i, c1, c2, c3, c4, hid, sf, sc, hw, wa, wb, wc, hq, maxBytes, List.take_append, List.drop_append, drop_bytes, hlk, hkn, hm1, hm2]
          exact ⟨l ++ [⟨q, a, b, c⟩], i + 1, by omega, by omega, hadd, by simp, k7, .inr ⟨by simp, n + 19, m + 1, _, by simp; omega, by simp [hlk], .inr (.inl ⟨rfl, by rw [encs_snoc]; rfl⟩)⟩⟩
        · have hx1' : ¬ (x : Int) = 1 := by omega
          simp [k0, k3, k4, h4i, c1, hx1', sf, sc, hw]
          exact ⟨l, i + 1, by omega, by omega, hsame, by simp, k2, .inr ⟨hne, n, m, [], hn, hm, .inr (.inr ⟨rfl, rfl⟩)⟩⟩
    · have h4i : ¬ (i : Int) < 4 := by omega
      have hie : l.isEmpty = false := by simpa using hne
      rcases hH with ⟨rfl, rfl⟩ | ⟨rfl, rfl⟩ | ⟨rfl, rfl⟩
      all_goals
        simp [k0, k3, k4, h4i, sc, hlk, hkn, htk]
        have hi4 : i = 4 := by omega
        subst hi4
        exact ⟨l, k1, hf, by simp [hie, hlk]⟩
end Go.Ev.S
namespace Go.Ev.S
open Go Go.Proofs Go.Ev
theorem made_itsB {L : List It} (h : ∀ x ∈ L, MadeI x) : ItsB L := fun x hx => by
  obtain ⟨h1, h2, h3, h4⟩ := h x hx
  refine ⟨h1, by omega, fun p hp => ?_⟩
  have := mkOk_len (h4 p hp)
  exact ⟨by omega, by omega⟩
theorem norm_n {x : It} (h : x.rc.fields.l.length < 1000000) : (normI x).rc.fields.l.length < 1000000 := by
  unfold normI
  split
  · exact Nat.zero_lt_succ _
  · exact h
def lenG (L : List It) (i : Nat) : Nat := ((L.take i).map fun x => 4 + (textL x).length).sum
set_option maxHeartbeats 4000000 in
set_option maxRecDepth 8000 in
theorem wrows_ev [MaxL] (n1 : Bool) (z1 : List Int) (h1 : n1 = true → z1 = []) (n2 : Bool) (z2 : List Int) (h2 : n2 = true → z2 = []) : call cx 8 [.vsl n1 (intsK .i64 z1) z1.length, .vsl n2 (intsK .i64 z2) z2.length] [] = some (.bool true, []) := by
  have f0 := first_ev
  refine call_run Tryz.func8 rfl ⟨rfl, rfl⟩ ?_
  by_cases hz1 : z1.length ≤ 200
  case neg =>
    have hz' : (200 : Int) < (z1.length : Int) := by omega
    simp [Tryz.f8, f0, hz']
  have hz' : ¬ (200 : Int) < (z1.length : Int) := by omega
  by_cases hz2 : z2.length ≤ 30
  case neg =>
    have hk' : (30 : Int) < (z2.length : Int) := by omega
    simp [Tryz.f8, f0, hz', hk']
  have hk' : ¬ (30 : Int) < (z2.length : Int) := by omega
  obtain ⟨q, hq, L, k', hL12, hLm, hsh⟩ := items_ev n1 z1 h1 (by omega) 0 12 (by decide)
  obtain ⟨q2, hq2, M, k2, hM, rfl⟩ := mmarks_ev n2 z2 h2 (by omega) 0
  have sf := seqD_free n1 z1
  have sl := seqD_len n1 z1
  have sc := seqD_cl n1 z1
  have sf2 := seqD_free n2 z2
  have sl2 := seqD_len n2 z2
  have sc2 := seqD_cl n2 z2
  replace hq2 : call cx 28 [.optr 0 2 0] [some [.vsl n2 (intsK .i64 z2) z2.length, .int .i64 0]] = some (.vsl M.isEmpty (encs M) M.length, [some (seqD n2 z2 k2)]) := hq2
  have hr : rightM M = true := by
    unfold rightM
    rw [decide_eq_true hM.len, hM.rises]
    rfl
  have hM4 := hM.len
  obtain ⟨p1, p2, p3, p4⟩ := put_made hLm (by omega) hr
  have hp := wput_ev (Sl.grown L) (Sl.grown M) (made_itsB hLm) hM.ok (by rw [Sl.grown_l]; omega)
  have hg := wget_ev (.of (sealB (rawB L M))) (by rw [Sl.of_l]; omega)
  have hgm := got_made hLm (by omega) hr hM.ok
  have hs := rsames_ev (Sl.grown (L.map normI)) (Sl.grown L) (fun x hx => by
    rw [Sl.grown_l] at hx
    obtain ⟨y, hy, rfl⟩ := List.mem_map.1 hx
    exact norm_n (made_itsB hLm y hy).2.1) (fun x hx => (made_itsB hLm x hx).2.1) (by rw [Sl.grown_l, List.length_map]; omega)
  have hsm := rmsame_ev (Sl.grown M) (Sl.grown M) (by rw [Sl.grown_l]; omega)
  rw [Sl.grown_l, Sl.grown_l, sames_norm fun x hx => same_norm (hLm x hx).1 (hLm x hx).2.1] at hs
  rw [Sl.grown_l, beq_self_eq_true] at hsm
  rw [Sl.grown_l, Sl.grown_l, p2] at hp
  rw [Sl.of_l, hgm] at hg
  unfold trD at hg
  simp only at hg
  clear p1 p2 hgm
  generalize sealB (rawB L M) = b at *
  have eM : (Sl.grown M).nil = M.isEmpty := rfl
  simp only [Sl.grown_l, Sl.of_l, Sl.of_nil, eM] at hp hg hs hsm
  have w1 : IntKind.i64.wrap (40 * (M.length : Int)) = 40 * (M.length : Int) := by rw [wrap_i64]; omega
  have w2 : IntKind.i64.wrap (11 + 40 * (M.length : Int)) = 11 + 40 * (M.length : Int) := by rw [wrap_i64]; omega
  rcases hsh with ⟨rfl, rfl⟩ | ⟨hne, n, m, hn, hmm, rfl⟩
  · replace hq : call cx 13 [.optr 0 2 0, .int .i64 12] [some [.vsl n1 (intsK .i64 z1) z1.length, .int .i64 0]] = some (.vsl true [] 0, [some (seqD n1 z1 k')]) := hq
    replace hp : call cx 25 [.vsl true [] 0, .vsl M.isEmpty (encs M) M.length] [] = some (.vsl false (ofBytes b) b.length, []) := hp
    replace hg : call cx 32 [.vsl false (ofBytes b) b.length] [] = some (.tup [.vsl true [] 0, .vsl M.isEmpty (encs M) M.length, .int .i64 0], []) := hg
    replace hs : call cx 34 [.vsl true [] 0, .vsl true [] 0] [] = some (.bool true, []) := hs
    have hb : (b.length : Int) = 11 + 40 * (M.length : Int) := by rw [p3]; simp
    simp [Tryz.f8, f0, hz', hk', hq, hq2, sf, sf2, hp, w1, w2]
    refine run_unroll ?_
    simp [hg, hs, hsm, hb]
  · replace hq : call cx 13 [.optr 0 2 0, .int .i64 12] [some [.vsl n1 (intsK .i64 z1) z1.length, .int .i64 0]] = some (.osl 1 n 0 m 39, [some (seqD n1 z1 k'), some (encs L)]) := hq
    have hkn : m * 39 = n := by omega
    have hlk : L.length = m := hmm.symm
    have htk : List.take n (encs L) = encs L := List.take_of_length_le (by simp; omega)
    have e1 : (Sl.grown L).nil = false := by simp [Sl.grown, hne]
    have e2 : (Sl.grown (L.map normI)).nil = false := by simp [Sl.grown, hne]
    rw [e1, hlk] at hp
    rw [e2] at hg
    rw [e1, e2, List.length_map, hlk] at hs
    rw [List.length_map, hlk] at hg
    simp [Tryz.f8, f0, hz', hk', hq, hq2, sf, sf2, hkn, hlk, htk, hp, w1, w2]
    refine Run.loopThen (fun (i : Nat) e H' => i ≤ L.length ∧ look e 5 = some (.bool true) ∧ look e 6 = some (.vsl false (encs L) m) ∧ look e 7 = some (.vsl M.isEmpty (encs M) M.length) ∧ look e 8 = some (.vsl false (ofBytes b) b.length) ∧ look e 9 = some (.int .i64 (11 + 40 * M.length + lenG L i : Nat)) ∧ look e 10 = some (.int .i64 (i : Nat))) (fun i => L.length - i) 0 ⟨Nat.zero_le _, by simp, by simp, by simp, by simp, by simp [lenG], by simp⟩ ?_
    rintro i e H' ⟨hi, k5, k6, k7, k8, k9, k10⟩
    by_cases hlt : i < m
    · have hlt' : (i : Int) < (m : Int) := by omega
      have hlL : i < L.length := by omega
      have hw : IntKind.i64.wrap ((i : Int) + 1) = ((i + 1 : Nat) : Int) := by rw [wrap_i64] <;> omega
      obtain ⟨x1, x2, x3⟩ := made_itsB hLm L[i] (List.getElem_mem hlL)
      have hms := textL_small (hLm L[i] (List.getElem_mem hlL))
      have t1 := text_ev L[i] x1 x3 x2
      unfold textD at t1
      rw [(hLm L[i] (List.getElem_mem hlL)).2.1, if_pos rfl] at t1
      have hea : List.drop (i * 39) (encs L) = Enc.cells L[i] ++ encs (L.drop (i + 1)) := It.ea hlL
      have hsum : lenG L (i + 1) = lenG L i + (4 + (textL L[i]).length) := by
        unfold lenG
        rw [List.take_succ_eq_append_getElem hlL]
        simp only [List.map_append, List.sum_append, List.map_cons, List.map_nil, List.sum_cons, List.sum_nil, Nat.add_zero]
      have hsl : lenG L i ≤ 12 * 664 := by
        have h := sum_small (L := L.take i) fun x hx => hLm x (List.mem_of_mem_take hx)
        rw [List.length_take] at h
        have : min i L.length * 664 ≤ 12 * 664 := Nat.mul_le_mul_right _ (by omega)
        unfold lenG
        omega
      generalize lenG L i = g at *
      generalize hg' : lenG L (i + 1) = g' at *
      generalize textL L[i] = t at *
      generalize L[i] = x at *
      have v1 : IntKind.i64.wrap (((11 + 40 * M.length + g : Nat) : Int) + 4) = ((11 + 40 * M.length + g + 4 : Nat) : Int) := by rw [wrap_i64] <;> omega
      have v2 : IntKind.i64.wrap (((11 + 40 * M.length + g + 4 : Nat) : Int) + (t.length : Int)) = ((11 + 40 * M.length + g' : Nat) : Int) := by rw [wrap_i64] <;> omega
      generalize (11 + 40 * M.length + g : Nat) = gg at *
      generalize (gg + 4 : Nat) = gh at *
      generalize hgi : (11 + 40 * M.length + g' : Nat) = gi at *
      simp [-It.ea, k5, k6, k7, k8, k9, k10, hlt', hea, t1, hw, v1, v2, hlk]
      exact ⟨i + 1, by omega, by omega, by rw [hg', ← hgi]; simp, by omega⟩
    · have hlt' : ¬ (i : Int) < (m : Int) := by omega
      have hil : i = L.length := by omega
      have hb : ((11 + 40 * M.length + lenG L i : Nat) : Int) = (b.length : Int) := by
        rw [p3]
        unfold lenG
        rw [List.take_of_length_le (by omega)]
      rw [hb] at k9
      simp [k5, k6, k7, k8, k9, k10, hlt', hg, hs, hsm]
end Go.Ev.S
namespace Go.Ev.S
open Go Go.Proofs Go.Ev
end Go.Ev.S
namespace Go.Ev
open Go Go.Proofs Go.ChangeShapes Go.WideShapes Go.ChangeAt Go.RowKit
theorem handed_shaped {H : Type} {enc : TypeId × Value → H} {a : Assume} {C : Checked} {os : Os} {f : FuncId} {fn : Func} {s : ChangeSpec} {conds : List PathCond} {apart fresh handsOn again : Bool} {X : World → Array Value → Prop}
    (hX : ∀ (w w' : World) (args : Array Value), w.heap = w'.heap → X w args → X w' args)
    (own : ownKnob C.prog.godebug = none) (started : os.Started) (noInit : C.prog.inits.idxOf? f = none) (hfn : C.prog.funcs[f]? = some fn)
    (witness : ∃ (w : World) (tape : Tape) (i : Input), w.os = os ∧ (w.forCall tape i).Shaped C.prog ∧ i.vars = [] ∧ Input.okWide C.prog (w.forCall tape i) .any w.heap.size f i ∧
      ((s.pre enc C.prog fn conds apart (w.forCall tape i).memory i.args ∧ X (w.forCall tape i).memory i.args) ∧ sizedMet enc C.prog fn (OpenSpec.ofChange s) apart (w.forCall tape i).memory i.args) ∧ a.holds C.prog (lone (Frame.enter C.prog f i.args .normal) [] (w.forCall tape i)))
    (contract : ∀ (W : World) (base : Nat) (args : Array Value) (ds gs : List (DataW H)) (before : List MemPlace),
      (∀ (j : Nat) t v, fn.params[j]? = some t → args[j]? = some v → Value.okWide C.prog W .any base t v) →
      DataW.Whole enc C.prog fn.params.toList s.vars apart W args.toList ds gs before → X W args → W.ShapedOpen C.prog →
      Calls C.prog f args W fun e W' => ∃ v, e = .returned v ∧ s.post enc C.prog fn apart fresh handsOn again W args v W') :
    ReturnsInHanded a C os f .any (fun w args => (s.pre enc C.prog fn conds apart w args ∧ X w args) ∧ sizedMet enc C.prog fn (OpenSpec.ofChange s) apart w args) (s.post enc C.prog fn apart fresh handsOn again) := by
  refine returnsInHanded_of_calls own started noInit witness ?_
  intro w tape i _ hsh _ hok hpre _
  obtain ⟨_, _, _, fn', hfn', _, _, _, _, hval⟩ := hok
  have e : fn' = fn := Option.some.inj (hfn'.symm.trans hfn)
  subst e
  obtain ⟨⟨⟨ds, gs, before, hw, hc⟩, hx⟩, hz⟩ := hpre
  have hw' := DataW.Whole.of_heap (w' := w.forCall tape i) (by rfl) hw
  refine (contract (w.forCall tape i) w.heap.size i.args ds gs before hval hw' (hX _ _ _ (by rfl) hx) hsh).mono fun e W' ⟨v, he, hp⟩ => ?_
  subst he
  exact ChangeSpec.post_blind hp
end Go.Ev
