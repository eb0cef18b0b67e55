import Derived.Test.YtdmkldmbjclifaaGreatDoorC6
import Derived.Handed
import Derived.LaidMore
namespace Go.Ev.S
open Go Go.Proofs Go.Ev
set_option maxHeartbeats 4000000 in
theorem rmatch_ev [TxtC] (m : Mat) (hm : MatB m.rows.l) : call cx 19 [.agg [(.vsl m.rows.nil (encs m.rows.l) m.rows.l.length)]] [] = some (.bool (matOk m.rows.l), []) := by
  obtain ⟨M⟩ := m
  simp only at hm ⊢
  refine call_run Tryz.func19 rfl ⟨rfl, rfl⟩ ?_
  have hwd := matB_words hm
  obtain ⟨h5, hb⟩ := hm
  obtain ⟨T, hT⟩ : ∃ T : Int, T = (M.l.length : Int) - 1 + wordsR M.l := ⟨_, rfl⟩
  obtain ⟨r, hr⟩ : ∃ r, matOk M.l = r := ⟨_, rfl⟩
  have hr2 : (M.l.all rowOk && decide (T ≤ 32)) = r := by
    rw [← hr]
    unfold matOk
    congr 1
    rw [decide_eq_decide, hT]
    rcases Nat.eq_zero_or_pos M.l.length with h0 | hpos
    · have : wordsR M.l = 0 := by rw [List.eq_nil_of_length_eq_zero h0]; rfl
      omega
    · omega
  rw [hr]
  clear hr
  have hw : IntKind.i64.wrap ((M.l.length : Int) - 1) = (M.l.length : Int) - 1 := by rw [wrap_i64] <;> omega
  simp [Tryz.f19, hw]
  refine Run.loopThen (fun (q : Nat × Int) e H' => q.1 ≤ M.l.length ∧ H' = [some [(.vsl M.nil (encs M.l) M.l.length)]] ∧ look e 1 = some (.optr 0 1 0) ∧ look e 3 = some (.int .i64 q.2) ∧ look e 4 = some (.int .i64 (q.1 : Nat)) ∧ ((M.l.drop q.1).all rowOk && decide (T ≤ 32)) = r ∧ -1 ≤ q.2 ∧ q.2 + wordsR (M.l.drop q.1) = T) (fun q => M.l.length - q.1) (0, (M.l.length : Int) - 1) ⟨Nat.zero_le _, rfl, by simp, by simp, by simp, by simpa using hr2, by show -1 ≤ (M.l.length : Int) - 1; omega, by rw [List.drop_zero, hT]⟩ ?_
  rintro ⟨i, c⟩ e H ⟨hi, rfl, g1, g3, g4, gf, gc, gT⟩
  simp only at hi g3 g4 gf gc gT
  by_cases hlt : i < M.l.length
  case neg =>
    have hlt' : ¬ ((i : Int) < (M.l.length : Int)) := by omega
    rw [List.drop_eq_nil_of_le (by omega)] at gf gT
    simp only [List.all_nil, Bool.true_and, wordsR, List.map_nil, List.sum_nil] at gf gT
    have hcT : c = T := by omega
    subst hcT
    by_cases h32 : c ≤ 32
    · rw [decide_eq_true h32] at gf
      subst gf
      simp [g1, g3, g4, hlt', h32]
    · rw [decide_eq_false h32] at gf
      subst gf
      simp [g1, g3, g4, hlt', h32]
  have hlt' : ((i : Int) < (M.l.length : Int)) := by omega
  have hwi : IntKind.i64.wrap ((i : Int) + 1) = ((i + 1 : Nat) : Int) := by rw [wrap_i64] <;> omega
  have hea := Row.ea hlt
  have hnn := Sl.nn hlt
  obtain ⟨b1, b2⟩ := hb _ (List.getElem_mem hlt)
  rw [List.drop_eq_getElem_cons hlt, List.all_cons] at gf
  rw [List.drop_eq_getElem_cons hlt, wordsR_cons] at gT
  generalize M.l[i] = x at *
  obtain ⟨R⟩ := x
  simp only at b1 b2 hea gf gT
  by_cases h0 : R.l.length = 0
  · have h0i : (R.l.length : Int) = 0 := by omega
    have hro : rowOk ⟨R⟩ = false := by
      unfold rowOk
      simp [List.eq_nil_of_length_eq_zero h0]
    rw [hro, Bool.false_and, Bool.false_and] at gf
    subst gf
    simp [g1, g3, g4, hlt', hnn, hea, h0]
  have h0i : ¬ (R.l.length : Int) = 0 := by omega
  have hro : rowOk ⟨R⟩ = rangeAll R.l.length (altsOk R.l) 0 := by
    have hne : R.l ≠ [] := fun h => h0 (by rw [h]; rfl)
    unfold rowOk
    simp [hne]
  rw [hro, Bool.and_assoc] at gf
  simp [g1, g3, g4, hlt', hnn, hea, h0]
  refine Run.loopThen (fun (q : Nat × Int) e H' => q.1 ≤ R.l.length ∧ H' = [some [(.vsl M.nil (encs M.l) M.l.length)]] ∧ look e 1 = some (.optr 0 1 0) ∧ look e 3 = some (.int .i64 q.2) ∧ look e 4 = some (.int .i64 (i : Nat)) ∧ look e 5 = some (.int .i64 (q.1 : Nat)) ∧ (rangeAll R.l.length (altsOk R.l) q.1 && ((M.l.drop (i + 1)).all rowOk && decide (T ≤ 32))) = r ∧ -1 ≤ q.2 ∧ q.2 + (wordsA (R.l.drop q.1) + wordsR (M.l.drop (i + 1)) : Nat) = T) (fun q => R.l.length - q.1) (0, c) ⟨Nat.zero_le _, by rw [hnn], by simp, by simp, by simp, by simp, gf, gc, by rw [List.drop_zero]; exact gT⟩ ?_
  rintro ⟨k, d⟩ e' H' ⟨hk, rfl, k1, k3, k4, k5, kf, kc, kT⟩
  simp only at hk k3 k5 kf kc kT
  by_cases hkt : k < R.l.length
  case neg =>
    have hkt' : ¬ ((k : Int) < (R.l.length : Int)) := by omega
    rw [rangeAll_end (by omega), Bool.true_and] at kf
    rw [List.drop_eq_nil_of_le (show R.l.length ≤ k by omega)] at kT
    simp only [wordsA, List.map_nil, List.sum_nil, Nat.zero_add] at kT
    simp [k1, k3, k4, k5, hlt', hnn, hea, hkt', hwi]
    exact ⟨i + 1, by omega, by omega, by omega, kf, kc, kT⟩
  have hkt' : ((k : Int) < (R.l.length : Int)) := by omega
  have hwk : IntKind.i64.wrap ((k : Int) + 1) = ((k + 1 : Nat) : Int) := by rw [wrap_i64] <;> omega
  have heb := Alt.ea hkt
  have hnl := Sl.nn hkt
  obtain ⟨c1, c2⟩ := b2 _ (List.getElem_mem hkt)
  have hn := rname_evX R.l[k].name c2
  obtain ⟨o, ho⟩ : ∃ o, (decide (k = 0) || Op.bytesLess (aAt R.l (k - 1)).name R.l[k].name) = o := ⟨_, rfl⟩
  have hlast := alt_last hkt ho
  have hak : altsOk R.l k = (o && altOk R.l[k]) := by unfold altsOk; rw [aAt_at hkt, ho]
  rw [rangeAll_step hkt, hak, Bool.and_assoc] at kf
  rw [List.drop_eq_getElem_cons hkt, wordsA_cons] at kT
  clear ho hak
  generalize R.l[k] = a at *
  unfold altOk at kf
  cases hq : nameOk a.name with
  | false =>
    rw [hq] at hn kf
    simp only [Bool.false_and, Bool.and_false] at kf
    subst kf
    simp [k1, k3, k4, k5, hlt', hnn, hea, hkt', hnl, heb, hn]
  | true =>
  rw [hq] at hn kf
  by_cases hv0 : a.vals.l = []
  · have hv0' : a.vals.l.length = 0 := by rw [hv0]; rfl
    rw [decide_eq_false (fun h => h hv0)] at kf
    simp only [Bool.false_and, Bool.and_false] at kf
    subst kf
    simp [k1, k3, k4, k5, hlt', hnn, hea, hkt', hnl, heb, hn, hv0]
  have hv0' : ¬ a.vals.l.length = 0 := fun h => hv0 (List.eq_nil_of_length_eq_zero h)
  have hv0i : ¬ (a.vals.l.length : Int) = 0 := by omega
  rw [decide_eq_true hv0, Bool.true_and, Bool.true_and] at kf
  have hgo : o = false ∨ (o = true ∧ (rangeAll a.vals.l.length (vOk a.vals.l) 0 && (rangeAll R.l.length (altsOk R.l) (k + 1) && ((M.l.drop (i + 1)).all rowOk && decide (T ≤ 32)))) = r) := by
    cases o with
    | false => exact .inl rfl
    | true => exact .inr ⟨rfl, by simpa [Bool.and_assoc] using kf⟩
  have hk1 : k = 0 ∨ ∃ j, k = j + 1 := by
    cases k with
    | zero => exact .inl rfl
    | succ j => exact .inr ⟨j, rfl⟩
  rcases hgo with rfl | ⟨rfl, kf⟩
  · rw [Bool.false_and] at kf
    subst kf
    rcases hlast with ⟨h1, h2⟩ | ⟨j, z, rest, h1, -, h2, h3⟩
    · cases h2
    have hi0 : (0 : Int) < (k : Int) := by omega
    have hwj : IntKind.i64.wrap ((k : Int) - 1) = (j : Int) := by rw [wrap_i64] <;> omega
    have hji : (j : Int) < (R.l.length : Int) := by omega
    have hjn : j < R.l.length := by omega
    have hin : 0 < k := by omega
    simp [k1, k3, k4, k5, hlt', hnn, hea, hkt', hnl, heb, hn, hv0', hwj, hji, hin, h2, h3]
  rcases hlast with ⟨h1, h2⟩ | ⟨j, z, rest, h1, -, h2, h3⟩
  · have hi0 : ¬ (0 : Int) < (k : Int) := by omega
    have hin : ¬ 0 < k := by omega
    have hin2 : k = 0 := h1
    clear h1
    simp [k1, k3, k4, k5, hlt', hnn, hea, hkt', hnl, heb, hn, hv0', hin]
    refine Run.loopThen (fun (q : Nat × Int) e H' => q.1 ≤ a.vals.l.length ∧ H' = [some [.vsl false (encs M.l) M.l.length], some [.str a.name, (.vsl a.vals.nil (encs a.vals.l) a.vals.l.length)]] ∧ look e 1 = some (.optr 0 1 0) ∧ look e 3 = some (.int .i64 q.2) ∧ look e 4 = some (.int .i64 (i : Nat)) ∧ look e 5 = some (.int .i64 (k : Nat)) ∧ look e 6 = some (.optr 1 2 0) ∧ look e 7 = some (.int .i64 (q.1 : Nat)) ∧ (rangeAll a.vals.l.length (vOk a.vals.l) q.1 && (rangeAll R.l.length (altsOk R.l) (k + 1) && ((M.l.drop (i + 1)).all rowOk && decide (T ≤ 32)))) = r ∧ -1 ≤ q.2 ∧ q.2 + ((a.vals.l.length - q.1) + wordsA (R.l.drop (k + 1)) + wordsR (M.l.drop (i + 1)) : Nat) = T) (fun q => a.vals.l.length - q.1) (0, d) ⟨Nat.zero_le _, rfl, by simp, by simp, by simp, by simp, by simp, by simp, kf, kc, by rw [Nat.sub_zero]; exact kT⟩ ?_
    rintro ⟨q, f⟩ e2 H2 ⟨hq1, rfl, m1, m3, m4, m5, m6, m7, mf, mc, mT⟩
    simp only at hq1 m3 m7 mf mc mT
    by_cases hqt : q < a.vals.l.length
    case neg =>
      have hqt' : ¬ ((q : Int) < (a.vals.l.length : Int)) := by omega
      rw [rangeAll_end (by omega), Bool.true_and] at mf
      simp [m1, m3, m4, m5, m6, m7, hqt', hwk]
      exact ⟨k + 1, by omega, by omega, by omega, mf, mc, by omega⟩
    have hqt' : ((q : Int) < (a.vals.l.length : Int)) := by omega
    have hwq : IntKind.i64.wrap ((q : Int) + 1) = ((q + 1 : Nat) : Int) := by rw [wrap_i64] <;> omega
    have hwf : IntKind.i64.wrap (f + 1) = f + 1 := by rw [wrap_i64] <;> omega
    have hes := Str.ea hqt
    have hns := Sl.nn hqt
    rw [rangeAll_step hqt, vOk_at hqt] at mf
    by_cases h256 : a.vals.l[q].s.length ≤ 256
    case neg =>
      rw [decide_eq_false h256, Bool.false_and, Bool.false_and, Bool.false_and] at mf
      subst mf
      have h256' : (256 : Int) < (a.vals.l[q].s.length : Int) := by omega
      have h256n : 256 < a.vals.l[q].s.length := by omega
      generalize a.vals.l[q] = v at *
      simp [m1, m3, m4, m5, m6, m7, hqt', hns, hes, h256']
    have h256' : ¬ (256 : Int) < (a.vals.l[q].s.length : Int) := by omega
    have h256n : ¬ 256 < a.vals.l[q].s.length := by omega
    rw [decide_eq_true h256, Bool.true_and] at mf
    cases q with
    | zero =>
      rw [decide_eq_true rfl, Bool.true_or, Bool.true_and] at mf
      generalize a.vals.l[0] = v at *
      rw [show ((0 : Nat) : Int) = 0 from rfl] at m7 hqt' hwq
      simp at hes
      simp [m1, m3, m4, m5, m6, m7, hqt, hns, hes, h256', hwf]
      exact ⟨1, by omega, by omega, rfl, mf, by omega, by omega⟩
    | succ p =>
      have hp2 : p < a.vals.l.length := by omega
      have het := Str.ea hp2
      rw [Nat.add_sub_cancel, getD_str hp2, decide_eq_false (by omega), Bool.false_or] at mf
      have hwp : IntKind.i64.wrap (((p + 1 : Nat) : Int) - 1) = (p : Int) := by rw [wrap_i64] <;> omega
      have hp0 : (0 : Int) < ((p + 1 : Nat) : Int) := by omega
      have hpi : (p : Int) < (a.vals.l.length : Int) := by omega
      have hp0n : 0 < p + 1 := by omega
      generalize a.vals.l[p + 1] = v at *
      generalize a.vals.l[p] = u at *
      generalize p + 1 = q at *
      cases hbl : Op.bytesLess u.s v.s with
      | false =>
        rw [hbl, Bool.false_and] at mf
        subst mf
        simp [m1, m3, m4, m5, m6, m7, hqt', hns, hes, het, h256', hwp, hp0n, hpi, hbl]
      | true =>
        rw [hbl, Bool.true_and] at mf
        simp [m1, m3, m4, m5, m6, m7, hqt', hns, hes, het, h256', hwp, hp0n, hpi, hbl, hwq, hwf]
        exact ⟨q + 1, by omega, by omega, by omega, mf, by omega, by omega⟩
  · have hi0 : (0 : Int) < (k : Int) := by omega
    have hwj : IntKind.i64.wrap ((k : Int) - 1) = (j : Int) := by rw [wrap_i64] <;> omega
    have hji : (j : Int) < (R.l.length : Int) := by omega
    have hjn : j < R.l.length := by omega
    have hin : 0 < k := by omega
    simp [k1, k3, k4, k5, hlt', hnn, hea, hkt', hnl, heb, hn, hv0', hwj, hji, hin, h2, h3]
    refine Run.loopThen (fun (q : Nat × Int) e H' => q.1 ≤ a.vals.l.length ∧ H' = [some [.vsl false (encs M.l) M.l.length], some [.str a.name, (.vsl a.vals.nil (encs a.vals.l) a.vals.l.length)]] ∧ look e 1 = some (.optr 0 1 0) ∧ look e 3 = some (.int .i64 q.2) ∧ look e 4 = some (.int .i64 (i : Nat)) ∧ look e 5 = some (.int .i64 (k : Nat)) ∧ look e 6 = some (.optr 1 2 0) ∧ look e 7 = some (.int .i64 (q.1 : Nat)) ∧ (rangeAll a.vals.l.length (vOk a.vals.l) q.1 && (rangeAll R.l.length (altsOk R.l) (k + 1) && ((M.l.drop (i + 1)).all rowOk && decide (T ≤ 32)))) = r ∧ -1 ≤ q.2 ∧ q.2 + ((a.vals.l.length - q.1) + wordsA (R.l.drop (k + 1)) + wordsR (M.l.drop (i + 1)) : Nat) = T) (fun q => a.vals.l.length - q.1) (0, d) ⟨Nat.zero_le _, rfl, by simp, by simp, by simp, by simp, by simp, by simp, kf, kc, by rw [Nat.sub_zero]; exact kT⟩ ?_
    rintro ⟨q, f⟩ e2 H2 ⟨hq1, rfl, m1, m3, m4, m5, m6, m7, mf, mc, mT⟩
    simp only at hq1 m3 m7 mf mc mT
    by_cases hqt : q < a.vals.l.length
    case neg =>
      have hqt' : ¬ ((q : Int) < (a.vals.l.length : Int)) := by omega
      rw [rangeAll_end (by omega), Bool.true_and] at mf
      simp [m1, m3, m4, m5, m6, m7, hqt', hwk]
      exact ⟨k + 1, by omega, by omega, by omega, mf, mc, by omega⟩
    have hqt' : ((q : Int) < (a.vals.l.length : Int)) := by omega
    have hwq : IntKind.i64.wrap ((q : Int) + 1) = ((q + 1 : Nat) : Int) := by rw [wrap_i64] <;> omega
    have hwf : IntKind.i64.wrap (f + 1) = f + 1 := by rw [wrap_i64] <;> omega
    have hes := Str.ea hqt
    have hns := Sl.nn hqt
    rw [rangeAll_step hqt, vOk_at hqt] at mf
    by_cases h256 : a.vals.l[q].s.length ≤ 256
    case neg =>
      rw [decide_eq_false h256, Bool.false_and, Bool.false_and, Bool.false_and] at mf
      subst mf
      have h256' : (256 : Int) < (a.vals.l[q].s.length : Int) := by omega
      have h256n : 256 < a.vals.l[q].s.length := by omega
      generalize a.vals.l[q] = v at *
      simp [m1, m3, m4, m5, m6, m7, hqt', hns, hes, h256']
    have h256' : ¬ (256 : Int) < (a.vals.l[q].s.length : Int) := by omega
    have h256n : ¬ 256 < a.vals.l[q].s.length := by omega
    rw [decide_eq_true h256, Bool.true_and] at mf
    cases q with
    | zero =>
      rw [decide_eq_true rfl, Bool.true_or, Bool.true_and] at mf
      generalize a.vals.l[0] = v at *
      rw [show ((0 : Nat) : Int) = 0 from rfl] at m7 hqt' hwq
      simp at hes
      simp [m1, m3, m4, m5, m6, m7, hqt, hns, hes, h256', hwf]
      exact ⟨1, by omega, by omega, rfl, mf, by omega, by omega⟩
    | succ p =>
      have hp2 : p < a.vals.l.length := by omega
      have het := Str.ea hp2
      rw [Nat.add_sub_cancel, getD_str hp2, decide_eq_false (by omega), Bool.false_or] at mf
      have hwp : IntKind.i64.wrap (((p + 1 : Nat) : Int) - 1) = (p : Int) := by rw [wrap_i64] <;> omega
      have hp0 : (0 : Int) < ((p + 1 : Nat) : Int) := by omega
      have hpi : (p : Int) < (a.vals.l.length : Int) := by omega
      have hp0n : 0 < p + 1 := by omega
      generalize a.vals.l[p + 1] = v at *
      generalize a.vals.l[p] = u at *
      generalize p + 1 = q at *
      cases hbl : Op.bytesLess u.s v.s with
      | false =>
        rw [hbl, Bool.false_and] at mf
        subst mf
        simp [m1, m3, m4, m5, m6, m7, hqt', hns, hes, het, h256', hwp, hp0n, hpi, hbl]
      | true =>
        rw [hbl, Bool.true_and] at mf
        simp [m1, m3, m4, m5, m6, m7, hqt', hns, hes, het, h256', hwp, hp0n, hpi, hbl, hwq, hwf]
        exact ⟨q + 1, by omega, by omega, by omega, mf, by omega, by omega⟩
end Go.Ev.S
namespace Go.Ev.S
open Go Go.Proofs Go.Ev
end Go.Ev.S
namespace Go.Ev.S
open Go Go.Proofs Go.Ev
end Go.Ev.S
namespace Go.Ev.S
open Go Go.Proofs Go.Ev
end Go.Ev.S
namespace Go.Ev.S
open Go Go.Proofs Go.Ev
set_option maxRecDepth 100000 in
theorem first_evB : call cx 9 [] [] = some (.bool true, []) := call_some.2 ⟨600, by kernel_rfl⟩
end Go.Ev.S
namespace Go.Ev.S
open Go Go.Proofs Go.Ev
section
variable (hd : List Pr → Bool) (sz : It → Nat) (lim : Lim)
end
end Go.Ev.S
namespace Go.Ev.S
open Go Go.Proofs Go.Ev
structure MadeB (L : List It) (M : List Row) (lim : Lim) (r : BatS) (n : Nat) : Prop where
  bld : bldGo takeC takeL (matHolds M) szT lim L ⟨[], [], 0, 0⟩ = (r, 0)
  le : n ≤ L.length
  used : r.used = n
  items : r.items = (L.take n).filter (goesB (matHolds M) szT lim)
  bytes : r.bytes = sumB szT r.items
  fin : r.fin = finB takeL (matHolds M) szT lim (L.take n) []
  stop : ∀ h : n < L.length, stopB (matHolds M) szT lim r L[n] = true
  count : (r.items.length : Int) ≤ lim.count
  small : r.items.length ≤ 1 ∨ (r.bytes : Int) ≤ lim.bytes
end Go.Ev.S
namespace Go.Ev.S
open Go Go.Proofs Go.Ev
theorem matB_nil : MatB (Sl.none : Sl Row).l := ⟨Nat.zero_le _, fun _ h => by cases h⟩
end Go.Ev.S
namespace Go.Ev.S
open Go Go.Proofs Go.Ev
end Go.Ev.S
namespace Go.Ev.S
open Go Go.Proofs Go.Ev
end Go.Ev.S
namespace Go.Ev.S
open Go Go.Proofs Go.Ev
section
variable (hd : List Pr → Bool) (lim : Lim)
end
end Go.Ev.S
namespace Go.Ev.S
open Go Go.Proofs Go.Ev
end Go.Ev.S
namespace Go.Ev.S
open Go Go.Proofs Go.Ev
theorem takeC_no1 {d : List Mk} (h : rightM d = true) (x : It) : takeC d x ≠ 1 := by
  unfold takeC mayM
  rw [h]
  simp only [Bool.true_eq_false, if_false]
  by_cases h1 : d.length = 4 ∧ find? (fun m => m.id == x.id) d 0 < 0
  · rw [if_pos h1, if_pos (by decide)]
    decide
  · rw [if_neg h1, if_neg (by decide)]
    by_cases h2 : goesM (getM d x.id) x = true
    · rw [if_pos h2]
      decide
    · rw [if_neg h2]
      decide
theorem bldP_is (l : List It) (m : Mat) (lim : Lim) (d : List Mk) : ((bldP l m lim d).2 = 1 ↔ mayB l m lim d = false) ∧ ((bldP l m lim d).2 = 0 ∨ (bldP l m lim d).1 = BatS.none) := by
  unfold bldP
  cases h : mayB l m lim d with
  | false => exact ⟨⟨fun _ => rfl, fun _ => rfl⟩, .inr rfl⟩
  | true =>
    rw [if_pos rfl]
    have hr : rightM d = true := by
      unfold mayB at h
      simp only [Bool.and_eq_true] at h
      exact h.2.2.1
    by_cases h0 : (bldGo takeC takeL (matHolds m.rows.l) szT lim l ⟨[], d, 0, 0⟩).2 = 0
    · rw [h0]
      exact ⟨⟨fun h => absurd h (by decide), fun h => by cases h⟩, .inl rfl⟩
    · obtain ⟨-, x, l', -, -, -, he⟩ := bldGo_code takeC takeL (matHolds m.rows.l) szT lim l _ h0
      rw [he]
      exact ⟨⟨fun h => absurd h (takeC_no1 hr x), fun h => by cases h⟩, .inr rfl⟩
def lim4 : Lim := ⟨4, 2000, 16384⟩
theorem bld_any (T : Sl It) (hl : T.l.length ≤ 1000) (hx : ∀ x ∈ T.l, x.Ok) (M : Sl Row) (hm : MatB M.l) (lim : Lim) (d : Sl Mk) (hd : d.l.length ≤ 8) :
    ∃ (I : List It) (F : List Mk) (u b : Nat) (c : Int), call cx 14 [(.vsl T.nil (encs T.l) T.l.length), .agg [(.vsl M.nil (encs M.l) M.l.length)], .agg [.int .i64 lim.count, .int .i64 lim.bytes, .int .i64 lim.hard], (.vsl d.nil (encs d.l) d.l.length)] [] = some (.tup [.agg [.vsl I.isEmpty (encs I) I.length, .vsl F.isEmpty (encs F) F.length, .int .i64 u, .int .i64 b], .int .i64 c], []) ∧ (c = 1 ↔ mayB T.l ⟨M⟩ lim d.l = false) ∧ (c = 0 ∨ (I = [] ∧ F = [] ∧ u = 0 ∧ b = 0)) := by
  have hb := bbuild_ev T (by omega) ⟨M⟩ hm lim d (by omega) hx
  obtain ⟨h1, h2⟩ := bldP_is T.l ⟨M⟩ lim d.l
  refine ⟨(bldP T.l ⟨M⟩ lim d.l).1.items.map nrmF, (bldP T.l ⟨M⟩ lim d.l).1.fin, (bldP T.l ⟨M⟩ lim d.l).1.used, (bldP T.l ⟨M⟩ lim d.l).1.bytes, (bldP T.l ⟨M⟩ lim d.l).2, ?_, h1, ?_⟩
  · rw [hb]
    unfold bOut
    rw [List.length_map]
    cases (bldP T.l ⟨M⟩ lim d.l).1.items <;> rfl
  · rcases h2 with h | h
    · exact .inl h
    · rw [h]
      exact .inr ⟨rfl, rfl, rfl, rfl⟩
def RowB (r : Row) : Prop := r.r.l.length ≤ 20 ∧ ∀ a ∈ r.r.l, a.vals.l.length ≤ 40
def ArgE (lims : Lim) (M : Sl Row) (d : Sl Mk) (it : It) (n1 : Bool) (z1 : List Int) (e : Env) (H : Heap) : Prop :=
  look e 2 = some (.vsl d.nil (encs d.l) d.l.length) ∧ look e 4 = some (.vsl n1 (intsK .i64 z1) z1.length) ∧ look e 5 = some (.optr 0 3 0) ∧ look e 6 = some (.optr 1 1 0) ∧ look e 8 = some (.optr 2 39 0) ∧ look e 11 = some (.bool true) ∧ H = [some [.int .i64 lims.count, .int .i64 lims.bytes, .int .i64 lims.hard], some [(.vsl M.nil (encs M.l) M.l.length)], some (Enc.cells it)]
set_option maxRecDepth 4000 in
set_option maxHeartbeats 16000000 in
theorem bargs_ev (lims : Lim) (M : Sl Row) (hnm : ∀ r ∈ M.l, ∀ a ∈ r.r.l, a.name.length ≤ 9223372036854775807) (d : Sl Mk) (it : It) (hi : it.Ok) (hfit : it.rc.Fit) (n1 : Bool) (z1 : List Int) (h1 : n1 = true → z1 = []) :
    call cx 4 [.agg [.int .i64 lims.count, .int .i64 lims.bytes, .int .i64 lims.hard], .agg [(.vsl M.nil (encs M.l) M.l.length)], (.vsl d.nil (encs d.l) d.l.length), .agg (Enc.cells it), .vsl n1 (intsK .i64 z1) z1.length] [] = some (.bool true, []) := by
  have f0 := first_evB
  have hd38 := It.d38 it
  refine call_run Tryz.func4 rfl ⟨rfl, rfl⟩ ?_
  by_cases hM : M.l.length ≤ 5
  case neg =>
    have hM' : (5 : Int) < (M.l.length : Int) := by omega
    simp [Tryz.f4, f0, hM']
  have hM' : ¬ (5 : Int) < (M.l.length : Int) := by omega
  by_cases hd : d.l.length ≤ 8
  case neg =>
    have hd' : (8 : Int) < (d.l.length : Int) := by omega
    simp [Tryz.f4, f0, hM', hd']
  have hd' : ¬ (8 : Int) < (d.l.length : Int) := by omega
  by_cases hf : it.rc.fields.l.length ≤ 20
  case neg =>
    have hf' : (20 : Int) < (it.rc.fields.l.length : Int) := by omega
    simp [Tryz.f4, f0, hM', hd', hf', hd38]
  have hf' : ¬ (20 : Int) < (it.rc.fields.l.length : Int) := by omega
  by_cases hz1 : z1.length ≤ 60
  case neg =>
    have hz1' : (60 : Int) < (z1.length : Int) := by omega
    simp [Tryz.f4, f0, hM', hd', hf', hd38, hz1']
  have hz1' : ¬ (60 : Int) < (z1.length : Int) := by omega
  simp [Tryz.f4, f0, hM', hd', hf', hd38, hz1']
  refine Run.loopThen (fun (i : Nat) e H => i ≤ M.l.length ∧ (∀ r ∈ M.l.take i, RowB r) ∧ ArgE lims M d it n1 z1 e H ∧ look e 12 = some (.int .i64 (i : Nat))) (fun i => M.l.length - i) 0 ⟨Nat.zero_le _, by simp, ⟨by simp, by simp, by simp, by simp, by simp, by simp, rfl⟩, by simp⟩ ?_
  rintro i e H ⟨hiM, hrows, ⟨k2, k4, k5, k6, k8, k11, rfl⟩, k12⟩
  by_cases hlt : i < M.l.length
  · have hlt' : (i : Int) < (M.l.length : Int) := by omega
    have hw : IntKind.i64.wrap ((i : Int) + 1) = ((i + 1 : Nat) : Int) := by rw [wrap_i64] <;> omega
    have hea : List.drop i (encs M.l) = .vsl M.l[i].r.nil (encs M.l[i].r.l) M.l[i].r.l.length :: encs (M.l.drop (i + 1)) := Row.ea hlt
    have hMn := Sl.nn hlt
    have hts : M.l.take (i + 1) = M.l.take i ++ [M.l[i]] := List.take_succ_eq_append_getElem hlt
    generalize M.l[i] = r at *
    by_cases h20 : r.r.l.length ≤ 20
    case neg =>
      have h20' : (20 : Int) < (r.r.l.length : Int) := by omega
      simp [k2, k4, k5, k6, k8, k11, k12, hlt', hMn, hea, h20']
    have h20' : ¬ (20 : Int) < (r.r.l.length : Int) := by omega
    simp [k2, k4, k5, k6, k8, k11, k12, hlt', hMn, hea, h20']
    refine Run.loopThen (fun (j : Nat) e H => j ≤ r.r.l.length ∧ (∀ a ∈ r.r.l.take j, a.vals.l.length ≤ 40) ∧ ArgE lims M d it n1 z1 e H ∧ look e 12 = some (.int .i64 (i : Nat)) ∧ look e 13 = some (.int .i64 (j : Nat))) (fun j => r.r.l.length - j) 0 ⟨Nat.zero_le _, by simp, ⟨by simp, by simp, by simp, by simp, by simp, by simp, by rw [hMn]⟩, by simp, by simp⟩ ?_
    clear k2 k4 k5 k6 k8 k11 k12
    rintro j e' H' ⟨hjM, halts, ⟨k2, k4, k5, k6, k8, k11, rfl⟩, k12, k13⟩
    by_cases hjt : j < r.r.l.length
    · have hjt' : (j : Int) < (r.r.l.length : Int) := by omega
      have hwj : IntKind.i64.wrap ((j : Int) + 1) = ((j + 1 : Nat) : Int) := by rw [wrap_i64] <;> omega
      have heb := Alt.ea hjt
      have hRn := Sl.nn hjt
      have htj : r.r.l.take (j + 1) = r.r.l.take j ++ [r.r.l[j]] := List.take_succ_eq_append_getElem hjt
      generalize r.r.l[j] = a at *
      by_cases h40 : a.vals.l.length ≤ 40
      case neg =>
        have h40' : (40 : Int) < (a.vals.l.length : Int) := by omega
        simp [k2, k4, k5, k6, k8, k11, k12, k13, hlt', hMn, hea, hjt', hRn, heb, h40']
      have h40' : ¬ (40 : Int) < (a.vals.l.length : Int) := by omega
      simp [k2, k4, k5, k6, k8, k11, k12, k13, hlt', hMn, hea, hjt', hRn, heb, h40', hwj]
      exact ⟨j + 1, by omega, by omega, fun x hx => by
        rw [htj] at hx
        rcases List.mem_append.1 hx with h | h
        · exact halts x h
        · rw [List.mem_singleton.1 h]
          exact h40, ⟨by simp, by simp, by simp, by simp, by simp, by simp, by rw [hMn]⟩, by omega⟩
    · have hjt' : ¬ (j : Int) < (r.r.l.length : Int) := by omega
      simp [k2, k4, k5, k6, k8, k11, k12, k13, hlt', hMn, hea, hjt', hw]
      exact ⟨i + 1, by omega, by omega, fun x hx => by
        rw [hts] at hx
        rcases List.mem_append.1 hx with h | h
        · exact hrows x h
        · rw [List.mem_singleton.1 h]
          exact ⟨h20, fun b hb => halts b (by rw [List.take_of_length_le (by omega)]; exact hb)⟩, ⟨by simp, by simp, by simp, by simp, by simp, by simp, by rw [hMn]⟩, by omega⟩
  · have hlt' : ¬ (i : Int) < (M.l.length : Int) := by omega
    have hmb : MatB M.l := by
      refine ⟨hM, fun r hr => ?_⟩
      have h := hrows r (by rw [List.take_of_length_le (by omega)]; exact hr)
      exact ⟨h.1, fun a ha => ⟨h.2 a ha, hnm r hr a ha⟩⟩
    obtain ⟨q, hq, L, k3, hL4, hLm, -, hseq, hsh⟩ := items_evr n1 z1 h1 (by omega) 0 4 (by decide)
    have sf1 := seqD_free n1 z1
    have sl1 := seqD_len n1 z1
    have sc1 := seqD_cl n1 z1
    have hxo : ∀ x ∈ L, x.Ok := fun x hx => (hLm x hx).1
    have hall : L.all itOk = true := List.all_eq_true.2 fun x hx => (hLm x hx).2.1
    obtain ⟨I1, F1, u1, v1, c1, b1, e1, -⟩ := bld_any (Sl.grown L) (by rw [Sl.grown_l]; omega) hxo .none matB_nil lims .none (by decide)
    obtain ⟨I2, F2, u2, v2, c2, b2, e2, -⟩ := bld_any (Sl.grown L) (by rw [Sl.grown_l]; omega) hxo M hmb lim4 .none (by decide)
    obtain ⟨I3, F3, u3, v3, c3, b3, e3, -⟩ := bld_any (Sl.grown L) (by rw [Sl.grown_l]; omega) hxo .none matB_nil lim4 d hd
    obtain ⟨I4, F4, u4, v4, c4, b4, e4, e5⟩ := bld_any (Sl.of (L ++ [it])) (by show (L ++ [it]).length ≤ _; rw [List.length_append, List.length_singleton]; omega) (fun x hx => by
      rcases List.mem_append.1 hx with h | h
      · exact hxo x h
      · rw [List.mem_singleton.1 h]
        exact hi) .none matB_nil lim4 .none (by decide)
    have m1 : mayB (Sl.grown L).l ⟨.none⟩ lims (Sl.none : Sl Mk).l = limOk lims := by
      show (limOk lims && (true && (true && L.all itOk))) = _
      rw [hall]
      simp
    have m2 : mayB (Sl.grown L).l ⟨M⟩ lim4 (Sl.none : Sl Mk).l = matOk M.l := by
      show (true && (matOk M.l && (true && L.all itOk))) = _
      rw [hall]
      simp
    have m3 : mayB (Sl.grown L).l ⟨.none⟩ lim4 d.l = rightM d.l := by
      show (true && (true && (rightM d.l && L.all itOk))) = _
      rw [hall]
      simp
    have m4 : mayB (Sl.of (L ++ [it])).l ⟨.none⟩ lim4 (Sl.none : Sl Mk).l = itOk it := by
      show (true && (true && (true && (L ++ [it]).all itOk))) = _
      rw [List.all_append, hall]
      simp
    rw [m1] at e1
    rw [m2] at e2
    rw [m3] at e3
    rw [m4] at e4
    have g1 := rlim_ev lims
    have g2 := rmatch_ev ⟨M⟩ hmb
    have g3 := krright_ev d (by omega)
    have g4 := rright_evX it hi (fun p hp => (hfit.2 p hp).1) (by omega)
    generalize limOk lims = B1 at *
    generalize matOk M.l = B2 at *
    generalize rightM d.l = B3 at *
    generalize itOk it = B4 at *
    have hc1 : (c1 == 1) = !B1 := by cases B1 <;> simp_all
    have hc2 : (c2 == 1) = !B2 := by cases B2 <;> simp_all
    have hc3 : (c3 == 1) = !B3 := by cases B3 <;> simp_all
    have hc4 : (c4 == 1) = !B4 := by cases B4 <;> simp_all
    clear e1 e2 e3 e4 m1 m2 m3 m4
    have hb4 : call cx 14 [.vsl false (encs L ++ Enc.cells it) (L.length + 1), .agg [.vsl true [] 0], .agg [.int .i64 4, .int .i64 2000, .int .i64 16384], .vsl true [] 0] [] = some (.tup [.agg [.vsl I4.isEmpty (encs I4) I4.length, .vsl F4.isEmpty (encs F4) F4.length, .int .i64 u4, .int .i64 v4], .int .i64 c4], []) := by
      have h := b4
      have e : (Sl.of (L ++ [it])).l = L ++ [it] := rfl
      rw [e, encs_append, encs_one, List.length_append] at h
      exact h
    clear b4
    have hm1 : L.length * 104 ≤ 140737488355328 := by omega
    have hm2 : L.length ≤ 140737488355328 := by omega
    have hm3 : (L.length + 1) * 104 ≤ 140737488355328 := by omega
    have hm4 : L.length + 1 ≤ 140737488355328 := by omega
    simp only [lim4] at b1 b2 b3
    simp only [Sl.none_nil, Sl.none_l, encs_nil, List.length_nil, Sl.grown_l] at b1 b2 b3
    have eG : (Sl.grown L).nil = L.isEmpty := rfl
    rw [eG] at b1 b2 b3
    rcases hsh with ⟨hL0, hqe⟩ | ⟨hne, n', m', hn', hm', hqe⟩
    · subst hqe
      rw [hL0] at b1 b2 b3 hb4
      simp only [List.isEmpty_nil, encs_nil, List.length_nil, List.nil_append, Nat.zero_add] at b1 b2 b3 hb4
      replace hq : call cx 13 [.optr 0 2 0, .int .i64 4] [some [.vsl n1 (intsK .i64 z1) z1.length, .int .i64 0]] = some (.vsl true [] 0, [some (seqD n1 z1 k3)]) := hq
      by_cases h0 : c4 = 0
      · subst h0
        simp [k2, k4, k5, k6, k8, k11, k12, hlt', hq, sf1, b1, b2, b3, hb4, g1, g2, g3, g4, hc1, hc2, hc3, hc4, maxBytes]
      · obtain ⟨rfl, rfl, rfl, rfl⟩ : I4 = [] ∧ F4 = [] ∧ u4 = 0 ∧ v4 = 0 := by
          rcases e5 with h | h
          · exact absurd h h0
          · exact h
        simp [k2, k4, k5, k6, k8, k11, k12, hlt', hq, sf1, b1, b2, b3, hb4, g1, g2, g3, g4, hc1, hc2, hc3, hc4, h0, maxBytes]
    · subst hqe hn' hm'
      rw [List.isEmpty_eq_false_iff.2 hne] at b1 b2 b3
      replace hq : call cx 13 [.optr 0 2 0, .int .i64 4] [some [.vsl n1 (intsK .i64 z1) z1.length, .int .i64 0]] = some (.osl 1 (L.length * 39) 0 L.length 39, [some (seqD n1 z1 k3), some (encs L)]) := hq
      have hl0 : ¬ L.length = 0 := fun h => hne (List.length_eq_zero_iff.1 h)
      obtain ⟨w, hw⟩ : ∃ w, L.length = w := ⟨_, rfl⟩
      have htk : List.take (w * 39 + 39) (encs L ++ Enc.cells it) = encs L ++ Enc.cells it := List.take_of_length_le (by rw [List.length_append, It.el, It.cl, hw]; omega)
      have htw : List.take w L = L := List.take_of_length_le (by omega)
      have hm7 : (w + 1) * 39 = w * 39 + 39 := by omega
      rw [hw] at hl0 hm1 hm2 hm3 hm4 hb4 b1 b2 b3 hq
      by_cases h0 : c4 = 0
      · subst h0
        simp [k2, k4, k5, k6, k8, k11, k12, hlt', hq, sf1, b1, b2, b3, hb4, g1, g2, g3, g4, hc1, hc2, hc3, hc4, maxBytes, hw, hm1, hm2, hm3, hm4, hm7, htk, htw]
      · obtain ⟨rfl, rfl, rfl, rfl⟩ : I4 = [] ∧ F4 = [] ∧ u4 = 0 ∧ v4 = 0 := by
          rcases e5 with h | h
          · exact absurd h h0
          · exact h
        simp [k2, k4, k5, k6, k8, k11, k12, hlt', hq, sf1, b1, b2, b3, hb4, g1, g2, g3, g4, hc1, hc2, hc3, hc4, h0, maxBytes, hw, hm1, hm2, hm3, hm4, hm7, htk, htw]
end Go.Ev.S
namespace Go.Ev
open Go Go.Proofs Go.ChangeShapes Go.WideShapes Go.ChangeAt Go.RowKit
theorem handed_shaped {H : Type} {enc : TypeId × Value → H} {a : Assume} {C : Checked} {os : Os} {f : FuncId} {fn : Func} {s : ChangeSpec} {conds : List PathCond} {apart fresh handsOn again : Bool} {X : World → Array Value → Prop}
    (hX : ∀ (w w' : World) (args : Array Value), w.heap = w'.heap → X w args → X w' args)
    (own : ownKnob C.prog.godebug = none) (started : os.Started) (noInit : C.prog.inits.idxOf? f = none) (hfn : C.prog.funcs[f]? = some fn)
    (witness : ∃ (w : World) (tape : Tape) (i : Input), w.os = os ∧ (w.forCall tape i).Shaped C.prog ∧ i.vars = [] ∧ Input.okWide C.prog (w.forCall tape i) .any w.heap.size f i ∧
      ((s.pre enc C.prog fn conds apart (w.forCall tape i).memory i.args ∧ X (w.forCall tape i).memory i.args) ∧ sizedMet enc C.prog fn (OpenSpec.ofChange s) apart (w.forCall tape i).memory i.args) ∧ a.holds C.prog (lone (Frame.enter C.prog f i.args .normal) [] (w.forCall tape i)))
    (contract : ∀ (W : World) (base : Nat) (args : Array Value) (ds gs : List (DataW H)) (before : List MemPlace),
      (∀ (j : Nat) t v, fn.params[j]? = some t → args[j]? = some v → Value.okWide C.prog W .any base t v) →
      DataW.Whole enc C.prog fn.params.toList s.vars apart W args.toList ds gs before → X W args → W.ShapedOpen C.prog →
      Calls C.prog f args W fun e W' => ∃ v, e = .returned v ∧ s.post enc C.prog fn apart fresh handsOn again W args v W') :
    ReturnsInHanded a C os f .any (fun w args => (s.pre enc C.prog fn conds apart w args ∧ X w args) ∧ sizedMet enc C.prog fn (OpenSpec.ofChange s) apart w args) (s.post enc C.prog fn apart fresh handsOn again) := by
  refine returnsInHanded_of_calls own started noInit witness ?_
  intro w tape i _ hsh _ hok hpre _
  obtain ⟨_, _, _, fn', hfn', _, _, _, _, hval⟩ := hok
  have e : fn' = fn := Option.some.inj (hfn'.symm.trans hfn)
  subst e
  obtain ⟨⟨⟨ds, gs, before, hw, hc⟩, hx⟩, hz⟩ := hpre
  have hw' := DataW.Whole.of_heap (w' := w.forCall tape i) (by rfl) hw
  refine (contract (w.forCall tape i) w.heap.size i.args ds gs before hval hw' (hX _ _ _ (by rfl) hx) hsh).mono fun e W' ⟨v, he, hp⟩ => ?_
  subst he
  exact ChangeSpec.post_blind hp
end Go.Ev
