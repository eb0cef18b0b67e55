import Derived.Test.YtgbahhhhfgppjaaGreatDoorC6
import Derived.Test.YtgbahhhhfgppjaaGreatDoorTie
import Derived.Test.YtgbahhhhfgppjaaGreatDoorCards
import Derived.LaidMore
import Derived.SevenTiedAt
import Derived.Handed
/- What is asked may be asked: the document's. -/
namespace Go.Ev.S
open Go Go.Proofs Go.Ev
set_option maxHeartbeats 4000000 in
theorem rmatch_ev [MaxL] (m : Mat) (hm : MatC m.rows.l) : call cx 6 [.agg [(.vsl m.rows.nil (encs m.rows.l) m.rows.l.length)]] [] = some (.bool (matOk m.rows.l), []) := by
  obtain ⟨M⟩ := m
  simp only at hm ⊢
  refine call_run Tryz.func6 rfl ⟨rfl, rfl⟩ ?_
  have hwd := matC_words hm
  obtain ⟨h5, hb⟩ := hm
  obtain ⟨T, hT⟩ : ∃ T : Int, T = (M.l.length : Int) - 1 + wordsR M.l := ⟨_, rfl⟩
  obtain ⟨r, hr⟩ : ∃ r, matOk M.l = r := ⟨_, rfl⟩
  have hr2 : (M.l.all rowOk && decide (T ≤ 32)) = r := by
    rw [← hr]
    unfold matOk
    congr 1
    rw [decide_eq_decide, hT]
    rcases Nat.eq_zero_or_pos M.l.length with h0 | hpos
    · have : wordsR M.l = 0 := by rw [List.eq_nil_of_length_eq_zero h0]; rfl
      omega
    · omega
  rw [hr]
  clear hr
  have hw : IntKind.i64.wrap ((M.l.length : Int) - 1) = (M.l.length : Int) - 1 := by rw [wrap_i64] <;> omega
  simp [Tryz.f6, hw]
  refine Run.loopThen (fun (q : Nat × Int) e H' => q.1 ≤ M.l.length ∧ H' = [some [(.vsl M.nil (encs M.l) M.l.length)]] ∧ look e 1 = some (.optr 0 1 0) ∧ look e 3 = some (.int .i64 q.2) ∧ look e 4 = some (.int .i64 (q.1 : Nat)) ∧ ((M.l.drop q.1).all rowOk && decide (T ≤ 32)) = r ∧ -1 ≤ q.2 ∧ q.2 + wordsR (M.l.drop q.1) = T) (fun q => M.l.length - q.1) (0, (M.l.length : Int) - 1) ⟨Nat.zero_le _, rfl, by simp, by simp, by simp, by simpa using hr2, by show -1 ≤ (M.l.length : Int) - 1; omega, by rw [List.drop_zero, hT]⟩ ?_
  rintro ⟨i, c⟩ e H ⟨hi, rfl, g1, g3, g4, gf, gc, gT⟩
  simp only at hi g3 g4 gf gc gT
  by_cases hlt : i < M.l.length
  case neg =>
    have hlt' : ¬ ((i : Int) < (M.l.length : Int)) := by omega
    rw [List.drop_eq_nil_of_le (by omega)] at gf gT
    simp only [List.all_nil, Bool.true_and, wordsR, List.map_nil, List.sum_nil] at gf gT
    have hcT : c = T := by omega
    subst hcT
    by_cases h32 : c ≤ 32
    · rw [decide_eq_true h32] at gf
      subst gf
      simp [g1, g3, g4, hlt', h32]
    · rw [decide_eq_false h32] at gf
      subst gf
      simp [g1, g3, g4, hlt', h32]
  have hlt' : ((i : Int) < (M.l.length : Int)) := by omega
  have hwi : IntKind.i64.wrap ((i : Int) + 1) = ((i + 1 : Nat) : Int) := by rw [wrap_i64] <;> omega
  have hea := Row.ea hlt
  have hnn := Sl.nn hlt
  obtain ⟨b1, b2⟩ := hb _ (List.getElem_mem hlt)
  rw [List.drop_eq_getElem_cons hlt, List.all_cons] at gf
  rw [List.drop_eq_getElem_cons hlt, wordsR_cons] at gT
  generalize M.l[i] = x at *
  obtain ⟨R⟩ := x
  simp only at b1 b2 hea gf gT
  by_cases h0 : R.l.length = 0
  · have h0i : (R.l.length : Int) = 0 := by omega
    have hro : rowOk ⟨R⟩ = false := by
      unfold rowOk
      simp [List.eq_nil_of_length_eq_zero h0]
    rw [hro, Bool.false_and, Bool.false_and] at gf
    subst gf
    simp [g1, g3, g4, hlt', hnn, hea, h0]
  have h0i : ¬ (R.l.length : Int) = 0 := by omega
  have hro : rowOk ⟨R⟩ = rangeAll R.l.length (altsOk R.l) 0 := by
    have hne : R.l ≠ [] := fun h => h0 (by rw [h]; rfl)
    unfold rowOk
    simp [hne]
  rw [hro, Bool.and_assoc] at gf
  simp [g1, g3, g4, hlt', hnn, hea, h0]
  refine Run.loopThen (fun (q : Nat × Int) e H' => q.1 ≤ R.l.length ∧ H' = [some [(.vsl M.nil (encs M.l) M.l.length)]] ∧ look e 1 = some (.optr 0 1 0) ∧ look e 3 = some (.int .i64 q.2) ∧ look e 4 = some (.int .i64 (i : Nat)) ∧ look e 5 = some (.int .i64 (q.1 : Nat)) ∧ (rangeAll R.l.length (altsOk R.l) q.1 && ((M.l.drop (i + 1)).all rowOk && decide (T ≤ 32))) = r ∧ -1 ≤ q.2 ∧ q.2 + (wordsA (R.l.drop q.1) + wordsR (M.l.drop (i + 1)) : Nat) = T) (fun q => R.l.length - q.1) (0, c) ⟨Nat.zero_le _, by rw [hnn], by simp, by simp, by simp, by simp, gf, gc, by rw [List.drop_zero]; exact gT⟩ ?_
  rintro ⟨k, d⟩ e' H' ⟨hk, rfl, k1, k3, k4, k5, kf, kc, kT⟩
  simp only at hk k3 k5 kf kc kT
  by_cases hkt : k < R.l.length
  case neg =>
    have hkt' : ¬ ((k : Int) < (R.l.length : Int)) := by omega
    rw [rangeAll_end (by omega), Bool.true_and] at kf
    rw [List.drop_eq_nil_of_le (show R.l.length ≤ k by omega)] at kT
    simp only [wordsA, List.map_nil, List.sum_nil, Nat.zero_add] at kT
    simp [k1, k3, k4, k5, hlt', hnn, hea, hkt', hwi]
    exact ⟨i + 1, by omega, by omega, by omega, kf, kc, kT⟩
  have hkt' : ((k : Int) < (R.l.length : Int)) := by omega
  have hwk : IntKind.i64.wrap ((k : Int) + 1) = ((k + 1 : Nat) : Int) := by rw [wrap_i64] <;> omega
  have heb := Alt.ea hkt
  have hnl := Sl.nn hkt
  obtain ⟨c1, c2⟩ := b2 _ (List.getElem_mem hkt)
  have hn := rname_evX R.l[k].name c2
  obtain ⟨o, ho⟩ : ∃ o, (decide (k = 0) || Op.bytesLess (aAt R.l (k - 1)).name R.l[k].name) = o := ⟨_, rfl⟩
  have hlast := alt_last hkt ho
  have hak : altsOk R.l k = (o && altOk R.l[k]) := by unfold altsOk; rw [aAt_at hkt, ho]
  rw [rangeAll_step hkt, hak, Bool.and_assoc] at kf
  rw [List.drop_eq_getElem_cons hkt, wordsA_cons] at kT
  clear ho hak
  generalize R.l[k] = a at *
  unfold altOk at kf
  cases hq : nameOk a.name with
  | false =>
    rw [hq] at hn kf
    simp only [Bool.false_and, Bool.and_false] at kf
    subst kf
    simp [k1, k3, k4, k5, hlt', hnn, hea, hkt', hnl, heb, hn]
  | true =>
  rw [hq] at hn kf
  by_cases hv0 : a.vals.l = []
  · have hv0' : a.vals.l.length = 0 := by rw [hv0]; rfl
    rw [decide_eq_false (fun h => h hv0)] at kf
    simp only [Bool.false_and, Bool.and_false] at kf
    subst kf
    simp [k1, k3, k4, k5, hlt', hnn, hea, hkt', hnl, heb, hn, hv0]
  have hv0' : ¬ a.vals.l.length = 0 := fun h => hv0 (List.eq_nil_of_length_eq_zero h)
  have hv0i : ¬ (a.vals.l.length : Int) = 0 := by omega
  rw [decide_eq_true hv0, Bool.true_and, Bool.true_and] at kf
  have hgo : o = false ∨ (o = true ∧ (rangeAll a.vals.l.length (vOk a.vals.l) 0 && (rangeAll R.l.length (altsOk R.l) (k + 1) && ((M.l.drop (i + 1)).all rowOk && decide (T ≤ 32)))) = r) := by
    cases o with
    | false => exact .inl rfl
    | true => exact .inr ⟨rfl, by simpa [Bool.and_assoc] using kf⟩
  have hk1 : k = 0 ∨ ∃ j, k = j + 1 := by
    cases k with
    | zero => exact .inl rfl
    | succ j => exact .inr ⟨j, rfl⟩
  rcases hgo with rfl | ⟨rfl, kf⟩
  · rw [Bool.false_and] at kf
    subst kf
    rcases hlast with ⟨h1, h2⟩ | ⟨j, z, rest, h1, -, h2, h3⟩
    · cases h2
    have hi0 : (0 : Int) < (k : Int) := by omega
    have hwj : IntKind.i64.wrap ((k : Int) - 1) = (j : Int) := by rw [wrap_i64] <;> omega
    have hji : (j : Int) < (R.l.length : Int) := by omega
    have hjn : j < R.l.length := by omega
    have hin : 0 < k := by omega
    simp [k1, k3, k4, k5, hlt', hnn, hea, hkt', hnl, heb, hn, hv0', hwj, hji, hin, h2, h3]
  rcases hlast with ⟨h1, h2⟩ | ⟨j, z, rest, h1, -, h2, h3⟩
  · have hi0 : ¬ (0 : Int) < (k : Int) := by omega
    have hin : ¬ 0 < k := by omega
    have hin2 : k = 0 := h1
    clear h1
    simp [k1, k3, k4, k5, hlt', hnn, hea, hkt', hnl, heb, hn, hv0', hin]
    refine Run.loopThen (fun (q : Nat × Int) e H' => q.1 ≤ a.vals.l.length ∧ H' = [some [.vsl false (encs M.l) M.l.length], some [.str a.name, (.vsl a.vals.nil (encs a.vals.l) a.vals.l.length)]] ∧ look e 1 = some (.optr 0 1 0) ∧ look e 3 = some (.int .i64 q.2) ∧ look e 4 = some (.int .i64 (i : Nat)) ∧ look e 5 = some (.int .i64 (k : Nat)) ∧ look e 6 = some (.optr 1 2 0) ∧ look e 7 = some (.int .i64 (q.1 : Nat)) ∧ (rangeAll a.vals.l.length (vOk a.vals.l) q.1 && (rangeAll R.l.length (altsOk R.l) (k + 1) && ((M.l.drop (i + 1)).all rowOk && decide (T ≤ 32)))) = r ∧ -1 ≤ q.2 ∧ q.2 + ((a.vals.l.length - q.1) + wordsA (R.l.drop (k + 1)) + wordsR (M.l.drop (i + 1)) : Nat) = T) (fun q => a.vals.l.length - q.1) (0, d) ⟨Nat.zero_le _, rfl, by simp, by simp, by simp, by simp, by simp, by simp, kf, kc, by rw [Nat.sub_zero]; exact kT⟩ ?_
    rintro ⟨q, f⟩ e2 H2 ⟨hq1, rfl, m1, m3, m4, m5, m6, m7, mf, mc, mT⟩
    simp only at hq1 m3 m7 mf mc mT
    by_cases hqt : q < a.vals.l.length
    case neg =>
      have hqt' : ¬ ((q : Int) < (a.vals.l.length : Int)) := by omega
      rw [rangeAll_end (by omega), Bool.true_and] at mf
      simp [m1, m3, m4, m5, m6, m7, hqt', hwk]
      exact ⟨k + 1, by omega, by omega, by omega, mf, mc, by omega⟩
    have hqt' : ((q : Int) < (a.vals.l.length : Int)) := by omega
    have hwq : IntKind.i64.wrap ((q : Int) + 1) = ((q + 1 : Nat) : Int) := by rw [wrap_i64] <;> omega
    have hwf : IntKind.i64.wrap (f + 1) = f + 1 := by rw [wrap_i64] <;> omega
    have hes := Str.ea hqt
    have hns := Sl.nn hqt
    rw [rangeAll_step hqt, vOk_at hqt] at mf
    by_cases h256 : a.vals.l[q].s.length ≤ 256
    case neg =>
      rw [decide_eq_false h256, Bool.false_and, Bool.false_and, Bool.false_and] at mf
      subst mf
      have h256' : (256 : Int) < (a.vals.l[q].s.length : Int) := by omega
      have h256n : 256 < a.vals.l[q].s.length := by omega
      generalize a.vals.l[q] = v at *
      simp [m1, m3, m4, m5, m6, m7, hqt', hns, hes, h256']
    have h256' : ¬ (256 : Int) < (a.vals.l[q].s.length : Int) := by omega
    have h256n : ¬ 256 < a.vals.l[q].s.length := by omega
    rw [decide_eq_true h256, Bool.true_and] at mf
    cases q with
    | zero =>
      rw [decide_eq_true rfl, Bool.true_or, Bool.true_and] at mf
      generalize a.vals.l[0] = v at *
      rw [show ((0 : Nat) : Int) = 0 from rfl] at m7 hqt' hwq
      simp at hes
      simp [m1, m3, m4, m5, m6, m7, hqt, hns, hes, h256', hwf]
      exact ⟨1, by omega, by omega, rfl, mf, by omega, by omega⟩
    | succ p =>
      have hp2 : p < a.vals.l.length := by omega
      have het := Str.ea hp2
      rw [Nat.add_sub_cancel, getD_str hp2, decide_eq_false (by omega), Bool.false_or] at mf
      have hwp : IntKind.i64.wrap (((p + 1 : Nat) : Int) - 1) = (p : Int) := by rw [wrap_i64] <;> omega
      have hp0 : (0 : Int) < ((p + 1 : Nat) : Int) := by omega
      have hpi : (p : Int) < (a.vals.l.length : Int) := by omega
      have hp0n : 0 < p + 1 := by omega
      generalize a.vals.l[p + 1] = v at *
      generalize a.vals.l[p] = u at *
      generalize p + 1 = q at *
      cases hbl : Op.bytesLess u.s v.s with
      | false =>
        rw [hbl, Bool.false_and] at mf
        subst mf
        simp [m1, m3, m4, m5, m6, m7, hqt', hns, hes, het, h256', hwp, hp0n, hpi, hbl]
      | true =>
        rw [hbl, Bool.true_and] at mf
        simp [m1, m3, m4, m5, m6, m7, hqt', hns, hes, het, h256', hwp, hp0n, hpi, hbl, hwq, hwf]
        exact ⟨q + 1, by omega, by omega, by omega, mf, by omega, by omega⟩
  · have hi0 : (0 : Int) < (k : Int) := by omega
    have hwj : IntKind.i64.wrap ((k : Int) - 1) = (j : Int) := by rw [wrap_i64] <;> omega
    have hji : (j : Int) < (R.l.length : Int) := by omega
    have hjn : j < R.l.length := by omega
    have hin : 0 < k := by omega
    simp [k1, k3, k4, k5, hlt', hnn, hea, hkt', hnl, heb, hn, hv0', hwj, hji, hin, h2, h3]
    refine Run.loopThen (fun (q : Nat × Int) e H' => q.1 ≤ a.vals.l.length ∧ H' = [some [.vsl false (encs M.l) M.l.length], some [.str a.name, (.vsl a.vals.nil (encs a.vals.l) a.vals.l.length)]] ∧ look e 1 = some (.optr 0 1 0) ∧ look e 3 = some (.int .i64 q.2) ∧ look e 4 = some (.int .i64 (i : Nat)) ∧ look e 5 = some (.int .i64 (k : Nat)) ∧ look e 6 = some (.optr 1 2 0) ∧ look e 7 = some (.int .i64 (q.1 : Nat)) ∧ (rangeAll a.vals.l.length (vOk a.vals.l) q.1 && (rangeAll R.l.length (altsOk R.l) (k + 1) && ((M.l.drop (i + 1)).all rowOk && decide (T ≤ 32)))) = r ∧ -1 ≤ q.2 ∧ q.2 + ((a.vals.l.length - q.1) + wordsA (R.l.drop (k + 1)) + wordsR (M.l.drop (i + 1)) : Nat) = T) (fun q => a.vals.l.length - q.1) (0, d) ⟨Nat.zero_le _, rfl, by simp, by simp, by simp, by simp, by simp, by simp, kf, kc, by rw [Nat.sub_zero]; exact kT⟩ ?_
    rintro ⟨q, f⟩ e2 H2 ⟨hq1, rfl, m1, m3, m4, m5, m6, m7, mf, mc, mT⟩
    simp only at hq1 m3 m7 mf mc mT
    by_cases hqt : q < a.vals.l.length
    case neg =>
      have hqt' : ¬ ((q : Int) < (a.vals.l.length : Int)) := by omega
      rw [rangeAll_end (by omega), Bool.true_and] at mf
      simp [m1, m3, m4, m5, m6, m7, hqt', hwk]
      exact ⟨k + 1, by omega, by omega, by omega, mf, mc, by omega⟩
    have hqt' : ((q : Int) < (a.vals.l.length : Int)) := by omega
    have hwq : IntKind.i64.wrap ((q : Int) + 1) = ((q + 1 : Nat) : Int) := by rw [wrap_i64] <;> omega
    have hwf : IntKind.i64.wrap (f + 1) = f + 1 := by rw [wrap_i64] <;> omega
    have hes := Str.ea hqt
    have hns := Sl.nn hqt
    rw [rangeAll_step hqt, vOk_at hqt] at mf
    by_cases h256 : a.vals.l[q].s.length ≤ 256
    case neg =>
      rw [decide_eq_false h256, Bool.false_and, Bool.false_and, Bool.false_and] at mf
      subst mf
      have h256' : (256 : Int) < (a.vals.l[q].s.length : Int) := by omega
      have h256n : 256 < a.vals.l[q].s.length := by omega
      generalize a.vals.l[q] = v at *
      simp [m1, m3, m4, m5, m6, m7, hqt', hns, hes, h256']
    have h256' : ¬ (256 : Int) < (a.vals.l[q].s.length : Int) := by omega
    have h256n : ¬ 256 < a.vals.l[q].s.length := by omega
    rw [decide_eq_true h256, Bool.true_and] at mf
    cases q with
    | zero =>
      rw [decide_eq_true rfl, Bool.true_or, Bool.true_and] at mf
      generalize a.vals.l[0] = v at *
      rw [show ((0 : Nat) : Int) = 0 from rfl] at m7 hqt' hwq
      simp at hes
      simp [m1, m3, m4, m5, m6, m7, hqt, hns, hes, h256', hwf]
      exact ⟨1, by omega, by omega, rfl, mf, by omega, by omega⟩
    | succ p =>
      have hp2 : p < a.vals.l.length := by omega
      have het := Str.ea hp2
      rw [Nat.add_sub_cancel, getD_str hp2, decide_eq_false (by omega), Bool.false_or] at mf
      have hwp : IntKind.i64.wrap (((p + 1 : Nat) : Int) - 1) = (p : Int) := by rw [wrap_i64] <;> omega
      have hp0 : (0 : Int) < ((p + 1 : Nat) : Int) := by omega
      have hpi : (p : Int) < (a.vals.l.length : Int) := by omega
      have hp0n : 0 < p + 1 := by omega
      generalize a.vals.l[p + 1] = v at *
      generalize a.vals.l[p] = u at *
      generalize p + 1 = q at *
      cases hbl : Op.bytesLess u.s v.s with
      | false =>
        rw [hbl, Bool.false_and] at mf
        subst mf
        simp [m1, m3, m4, m5, m6, m7, hqt', hns, hes, het, h256', hwp, hp0n, hpi, hbl]
      | true =>
        rw [hbl, Bool.true_and] at mf
        simp [m1, m3, m4, m5, m6, m7, hqt', hns, hes, het, h256', hwp, hp0n, hpi, hbl, hwq, hwf]
        exact ⟨q + 1, by omega, by omega, by omega, mf, by omega, by omega⟩
end Go.Ev.S
/- AgentArgs: the law answers true. -/
namespace Go.Ev.S
open Go Go.Proofs Go.Ev
/-- What the document asks of an agent's times. -/
theorem fits_eq (f k : Int) : sndOk f k = (decide (1 ≤ f) && (decide (f ≤ k) && decide (k ≤ 1000))) := by
  unfold sndOk
  cases decide (1 ≤ f) <;> cases decide (f ≤ k) <;> cases decide (k ≤ 1000) <;> rfl
def rowLen (l : List Row) (i : Nat) : Prop := ∀ r ∈ l.take i, r.r.l.length ≤ 20
set_option maxHeartbeats 8000000 in
set_option maxRecDepth 10000 in
theorem args_ev [MaxL] (m : Mat) (hm : ∀ r ∈ m.rows.l, ∀ a ∈ r.r.l, a.vals.l.length ≤ 10000000000000 ∧ a.name.length ≤ 9223372036854775807) (l : Lim) (f k now : Int) (nil : Bool) (zs : List Int) (hnil : nil = true → zs = []) :
    call cx 3 [.agg [(.vsl m.rows.nil (encs m.rows.l) m.rows.l.length)], .agg [.int .i64 l.count, .int .i64 l.bytes, .int .i64 l.hard], .int .i64 f, .int .i64 k, .int .i64 now, .vsl nil (intsK .i64 zs) zs.length] [] = some (.bool true, []) := by
  obtain ⟨M⟩ := m
  simp only at hm ⊢
  have f0 := first32_ev
  refine call_run Tryz.func3 rfl ⟨rfl, rfl⟩ ?_
  by_cases h5 : M.l.length ≤ 5
  case neg =>
    have h5' : (5 : Int) < (M.l.length : Int) := by omega
    simp [Tryz.f3, f0, h5']
  have h5' : ¬ (5 : Int) < (M.l.length : Int) := by omega
  by_cases h20 : zs.length ≤ 20
  case neg =>
    have h20' : (20 : Int) < (zs.length : Int) := by omega
    simp [Tryz.f3, f0, h5', h20']
  have h20' : ¬ (20 : Int) < (zs.length : Int) := by omega
  simp [Tryz.f3, f0, h5', h20']
  refine Run.loopThen (fun (i : Nat) e H => i ≤ M.l.length ∧ rowLen M.l i ∧ H = [some [(.vsl M.nil (encs M.l) M.l.length)], some [.int .i64 l.count, .int .i64 l.bytes, .int .i64 l.hard]] ∧ look e 2 = some (.int .i64 f) ∧ look e 3 = some (.int .i64 k) ∧ look e 4 = some (.int .i64 now) ∧ look e 5 = some (.vsl nil (intsK .i64 zs) zs.length) ∧ look e 6 = some (.optr 0 1 0) ∧ look e 7 = some (.optr 1 3 0) ∧ look e 13 = some (.bool true) ∧ look e 14 = some (.int .i64 i)) (fun i => M.l.length - i) 0 ?_ ?_
  · refine ⟨Nat.zero_le _, fun r hr => by simp at hr, rfl, ?_⟩
    simp
  rintro i e H ⟨hi, hrl, rfl, p2, p3, p4, p5, p6, p7, p13, p14⟩
  by_cases hlt : i < M.l.length
  · have hlt' : (i : Int) < (M.l.length : Int) := by omega
    have hwi : IntKind.i64.wrap ((i : Int) + 1) = ((i + 1 : Nat) : Int) := by rw [wrap_i64] <;> omega
    have hea := Row.ea hlt
    have hnn := Sl.nn hlt
    have htk : M.l.take (i + 1) = M.l.take i ++ [M.l[i]] := List.take_succ_eq_append_getElem hlt
    generalize M.l[i] = x at *
    obtain ⟨A⟩ := x
    simp only at hea
    by_cases ha : A.l.length ≤ 20
    case neg =>
      have ha' : (20 : Int) < (A.l.length : Int) := by omega
      simp [p2, p3, p4, p5, p6, p7, p13, p14, hlt', hea, hnn, ha']
    have ha' : ¬ (20 : Int) < (A.l.length : Int) := by omega
    simp [p2, p3, p4, p5, p6, p7, p13, p14, hlt', hea, hnn, ha', hwi]
    refine ⟨i + 1, by omega, by omega, fun r hr => ?_, by omega⟩
    rw [htk] at hr
    rcases List.mem_append.1 hr with h | h
    · exact hrl r h
    · rw [List.mem_singleton.1 h]; exact ha
  have hlt' : ¬ (i : Int) < (M.l.length : Int) := by omega
  have hmc : MatC M.l := ⟨h5, fun r hr => ⟨hrl r (by rw [List.take_of_length_le (by omega)]; exact hr), hm r hr⟩⟩
  obtain ⟨q, hq, hQ⟩ := agent_new ⟨M⟩ hmc l f k [(.vsl M.nil (encs M.l) M.l.length)] [.int .i64 l.count, .int .i64 l.bytes, .int .i64 l.hard]
  have g1 := rmatch_ev ⟨M⟩ hmc
  have g2 := rlim_ev l
  obtain ⟨i0, lim, f1, k1, hi0, hlim, hsnd, hconf⟩ := conf_ev nil zs hnil (by omega)
  obtain ⟨nl, xs, n, hnew⟩ := agent_newF (asksM i0) (asks_b i0) lim f1 k1 hsnd (asks_ok i0 hi0) hlim fsZ
  have e0 := fs_new
  have e1 := law_1 nl xs n lim f1 k1
  have e2 := law_2 nl xs n lim f1 k1
  have e3 := law_3 nl xs n lim f1 k1
  have e4 := law_4 nl xs n lim f1 k1
  have e5 := law_5 nl xs n lim f1 k1
  have e6 := law_6 nl xs n lim f1 k1
  have e10 := law_10 nl xs n lim f1 k1
  have e11 := law_11 nl xs n lim f1 k1
  have hfit : newOk ⟨M⟩ l f k = (matOk M.l && (limOk l && (decide (1 ≤ f) && (decide (f ≤ k) && decide (k ≤ 1000))))) := by
    unfold newOk
    rw [fits_eq]
    simp only
    cases matOk M.l <;> cases limOk l <;> simp
  obtain ⟨qd, qH⟩ := q
  obtain ⟨T, hT, hQ⟩ := hQ
  simp only at hT hQ
  subst hT hQ
  unfold cfgD at hq hconf hnew
  rw [hfit] at hq
  have hs : ∃ r1 b1 T1, call cx 12 [.optr 3 15 0, .optr 0 5 0, .int .i64 now] (lH6 nl xs n lim f1 k1) = some (.tup [.vsl true [] 0, .int .i64 r1], T1) ∧ call cx 14 [.optr 3 15 0] T1 = some (.int .i64 b1, T1) ∧ ((now < 0 ∧ r1 = 1 ∧ b1 = 0) ∨ (¬ now < 0 ∧ 1099511627776 < now ∧ r1 = 1 ∧ b1 = 0) ∨ (¬ now < 0 ∧ ¬ 1099511627776 < now ∧ r1 = 0 ∧ b1 = 1)) := by
    by_cases hn : now < 0
    · exact ⟨1, 0, _, step_late nl xs n lim f1 k1 (.inl hn), e10, .inl ⟨hn, rfl, rfl⟩⟩
    · by_cases hn2 : 1099511627776 < now
      · exact ⟨1, 0, _, step_late nl xs n lim f1 k1 (.inr hn2), e10, .inr (.inl ⟨hn, hn2, rfl, rfl⟩)⟩
      · exact ⟨0, 1, _, step_now nl xs n lim f1 k1 (by omega), e11, .inr (.inr ⟨hn, hn2, rfl, rfl⟩)⟩
  obtain ⟨r1, b1, T1, es, et, hs⟩ := hs
  cases hA : matOk M.l with
  | false =>
    rw [hA] at hq g1
    simp only [Bool.false_and, Bool.false_eq_true, if_false] at hq
    rcases hs with ⟨n1, rfl, rfl⟩ | ⟨n1, n2, rfl, rfl⟩ | ⟨n1, n2, rfl, rfl⟩
    · simp [p2, p3, p4, p5, p6, p7, p13, p14, hlt', hq, g1, e0, e1, e2, e3, e4, e5, e6, es, et, hconf, hnew, n1]
    · simp [p2, p3, p4, p5, p6, p7, p13, p14, hlt', hq, g1, e0, e1, e2, e3, e4, e5, e6, es, et, hconf, hnew, n1, n2]
    · simp [p2, p3, p4, p5, p6, p7, p13, p14, hlt', hq, g1, e0, e1, e2, e3, e4, e5, e6, es, et, hconf, hnew, n1, n2]
  | true =>
  rw [hA] at hq g1
  cases hB : limOk l with
  | false =>
    rw [hB] at hq g2
    simp only [Bool.false_and, Bool.and_false, Bool.false_eq_true, if_false] at hq
    rcases hs with ⟨n1, rfl, rfl⟩ | ⟨n1, n2, rfl, rfl⟩ | ⟨n1, n2, rfl, rfl⟩
    · simp [p2, p3, p4, p5, p6, p7, p13, p14, hlt', hq, g1, g2, e0, e1, e2, e3, e4, e5, e6, es, et, hconf, hnew, n1]
    · simp [p2, p3, p4, p5, p6, p7, p13, p14, hlt', hq, g1, g2, e0, e1, e2, e3, e4, e5, e6, es, et, hconf, hnew, n1, n2]
    · simp [p2, p3, p4, p5, p6, p7, p13, p14, hlt', hq, g1, g2, e0, e1, e2, e3, e4, e5, e6, es, et, hconf, hnew, n1, n2]
  | true =>
  rw [hB] at hq g2
  by_cases c3 : 1 ≤ f
  case neg =>
    rw [decide_eq_false c3] at hq
    simp only [Bool.false_and, Bool.and_false, Bool.false_eq_true, if_false] at hq
    rcases hs with ⟨n1, rfl, rfl⟩ | ⟨n1, n2, rfl, rfl⟩ | ⟨n1, n2, rfl, rfl⟩
    · simp [p2, p3, p4, p5, p6, p7, p13, p14, hlt', hq, g1, g2, e0, e1, e2, e3, e4, e5, e6, es, et, hconf, hnew, n1, c3]
    · simp [p2, p3, p4, p5, p6, p7, p13, p14, hlt', hq, g1, g2, e0, e1, e2, e3, e4, e5, e6, es, et, hconf, hnew, n1, n2, c3]
    · simp [p2, p3, p4, p5, p6, p7, p13, p14, hlt', hq, g1, g2, e0, e1, e2, e3, e4, e5, e6, es, et, hconf, hnew, n1, n2, c3]
  rw [decide_eq_true c3] at hq
  by_cases c4 : f ≤ k
  case neg =>
    rw [decide_eq_false c4] at hq
    simp only [Bool.false_and, Bool.and_false, Bool.false_eq_true, if_false] at hq
    rcases hs with ⟨n1, rfl, rfl⟩ | ⟨n1, n2, rfl, rfl⟩ | ⟨n1, n2, rfl, rfl⟩
    · simp [p2, p3, p4, p5, p6, p7, p13, p14, hlt', hq, g1, g2, e0, e1, e2, e3, e4, e5, e6, es, et, hconf, hnew, n1, c3, c4]
    · simp [p2, p3, p4, p5, p6, p7, p13, p14, hlt', hq, g1, g2, e0, e1, e2, e3, e4, e5, e6, es, et, hconf, hnew, n1, n2, c3, c4]
    · simp [p2, p3, p4, p5, p6, p7, p13, p14, hlt', hq, g1, g2, e0, e1, e2, e3, e4, e5, e6, es, et, hconf, hnew, n1, n2, c3, c4]
  rw [decide_eq_true c4] at hq
  by_cases c5 : k ≤ 1000
  case neg =>
    rw [decide_eq_false c5] at hq
    simp only [Bool.and_false, Bool.false_eq_true, if_false] at hq
    rcases hs with ⟨n1, rfl, rfl⟩ | ⟨n1, n2, rfl, rfl⟩ | ⟨n1, n2, rfl, rfl⟩
    · simp [p2, p3, p4, p5, p6, p7, p13, p14, hlt', hq, g1, g2, e0, e1, e2, e3, e4, e5, e6, es, et, hconf, hnew, n1, c3, c4, c5]
    · simp [p2, p3, p4, p5, p6, p7, p13, p14, hlt', hq, g1, g2, e0, e1, e2, e3, e4, e5, e6, es, et, hconf, hnew, n1, n2, c3, c4, c5]
    · simp [p2, p3, p4, p5, p6, p7, p13, p14, hlt', hq, g1, g2, e0, e1, e2, e3, e4, e5, e6, es, et, hconf, hnew, n1, n2, c3, c4, c5]
  rw [decide_eq_true c5] at hq
  simp only [Bool.and_true, if_true] at hq
  rcases hs with ⟨n1, rfl, rfl⟩ | ⟨n1, n2, rfl, rfl⟩ | ⟨n1, n2, rfl, rfl⟩
  · simp [p2, p3, p4, p5, p6, p7, p13, p14, hlt', hq, g1, g2, e0, e1, e2, e3, e4, e5, e6, es, et, hconf, hnew, n1, c3, c4, c5]
  · simp [p2, p3, p4, p5, p6, p7, p13, p14, hlt', hq, g1, g2, e0, e1, e2, e3, e4, e5, e6, es, et, hconf, hnew, n1, n2, c3, c4, c5]
  · simp [p2, p3, p4, p5, p6, p7, p13, p14, hlt', hq, g1, g2, e0, e1, e2, e3, e4, e5, e6, es, et, hconf, hnew, n1, n2, c3, c4, c5]
end Go.Ev.S
/- What is asked: of what size it can be. -/
namespace Go.Ev.S
open Go Go.Proofs Go.Ev
theorem bytes_str : Tryz.prog.bytesOf 9 = 16 := by kernel_rfl
theorem has_AltS {n : Nat} {cs : List D} (h : HasT Tryz.prog (n + 2 + 1) 68 cs) : ∃ a : Alt, cs = Enc.cells a ∧ (a.vals.l.length ≤ 10000000000000 ∧ a.name.length ≤ 9223372036854775807) := by
  have h := has_struct (P := Tryz.prog) (n := n + 2) (t := 68) Tryz.underlying68 h
  simp only [HasFs] at h
  obtain ⟨a, b, rfl, -, ha, c, d, rfl, -, hc, rfl⟩ := h
  obtain ⟨x1, rfl, w1⟩ := has_str un9 ha
  obtain ⟨s, rfl, s1, s2⟩ := has_sliceB (α := Str) un66 (fun l => has_Str) hc
  rw [bytes_str] at s1
  unfold reachBytes at s1
  unfold maxLen at w1
  exact ⟨⟨x1, s⟩, by simp [Alt.cells], by simp only; omega, w1⟩
theorem has_RowS {n : Nat} {cs : List D} (h : HasT Tryz.prog (n + 3 + 1) 29 cs) : ∃ r : Row, cs = Enc.cells r ∧ ∀ a ∈ r.r.l, a.vals.l.length ≤ 10000000000000 ∧ a.name.length ≤ 9223372036854775807 := by
  obtain ⟨s, rfl, s1, s2⟩ := has_slice (α := Alt) un29 (fun l => has_AltS) h
  exact ⟨⟨s⟩, rfl, s2⟩
theorem has_MatS {n : Nat} {cs : List D} (h : HasT Tryz.prog (n + 5 + 1) 24 cs) : ∃ m : Mat, cs = Enc.cells m ∧ ∀ r ∈ m.rows.l, ∀ a ∈ r.r.l, a.vals.l.length ≤ 10000000000000 ∧ a.name.length ≤ 9223372036854775807 := by
  have h := has_struct (P := Tryz.prog) (n := n + 5) (t := 24) Tryz.underlying24 h
  simp only [HasFs] at h
  obtain ⟨a, b, rfl, -, ha, rfl⟩ := h
  obtain ⟨s, rfl, s1, s2⟩ := has_slice (α := Row) un22 (fun l => has_RowS) ha
  exact ⟨⟨s⟩, by simp, s2⟩
end Go.Ev.S
/- AgentArgs: what the row's cells are, by the program's text. -/
namespace Go.Proofs.YtgbahhhhfgppjaaGreatDoor.agentArgs
open Go.ChangeShapes Go.WideShapes Go.ChangeAt Go.RowKit
theorem jf0 : (Rows.agentArgsRow.wf (OpenSpec.ofChange Rows.agentArgsSpec)) = true := by kernel_rfl
theorem jf1 : (laidOutB Tryz.prog) = true := by kernel_rfl
theorem jf2 : (mapsRowed Tryz.prog) = true := by kernel_rfl
theorem jf3 : (Tryz.f3.params.all (Tryz.prog.readableRec ·)) = true := by kernel_rfl
theorem jf4 : (namedTie Tryz.prog Rows.agentArgsRow.named Rows.agentArgsSpec.vars) = true := by kernel_rfl
theorem jf5 : ((Rows.agentArgsRow.stops == [])) = true := by kernel_rfl
theorem jf6 : ((Tryz.prog.stops == [])) = true := by kernel_rfl
theorem jf7 : ((Rows.agentArgsRow.knobs == [])) = true := by kernel_rfl
theorem jf8 : ((Tryz.prog.stopKnobs == [])) = true := by kernel_rfl
theorem jf9 : ((Rows.agentArgsRow.inPlace == Tryz.prog.inPlace 3)) = true := by kernel_rfl
theorem jf10 : ((Rows.agentArgsRow.unfollowed == Tryz.prog.unfollowed 3)) = true := by kernel_rfl
theorem jf11 : ((Rows.agentArgsRow.recurses == Tryz.prog.recurses 3)) = true := by kernel_rfl
theorem jf12 : ((Rows.agentArgsRow.named == Tryz.prog.varsNamed 3)) = true := by kernel_rfl
theorem jf13 : ((Rows.agentArgsRow.maps == (Tryz.f3.params.toList ++ Rows.agentArgsSpec.plain.varTypes Tryz.prog).any (Tryz.prog.mapsRec ·))) = true := by kernel_rfl
theorem jf14 : ((Rows.agentArgsRow.ifaces == (Tryz.f3.params.toList ++ Rows.agentArgsSpec.plain.varTypes Tryz.prog).any (Tryz.prog.ifacesRec ·))) = true := by kernel_rfl
theorem jf15 : ((Rows.agentArgsRow.mapsOut == Tryz.prog.mapsAmong Tryz.f3.resultTypes.toList)) = true := by kernel_rfl
theorem jf16 : ((Rows.agentArgsRow.loops == (Tryz.f3.params.toList ++ Rows.agentArgsSpec.plain.varTypes Tryz.prog).any (Tryz.prog.loopsFrom ·))) = true := by kernel_rfl
theorem jf17 : ((Rows.agentArgsRow.wideKeys == (Tryz.f3.params.toList ++ Rows.agentArgsSpec.plain.varTypes Tryz.prog ++ Tryz.f3.resultTypes.toList).any (Tryz.prog.wideKeysFrom ·))) = true := by kernel_rfl
theorem jf18 : (Rows.agentArgsSpec.vars.all (Tryz.prog.varReadable ·)) = true := by kernel_rfl
theorem jf19 : (Tryz.f3.resultTypes.all (fun t => Tryz.prog.readableRec t && decide (t < Tryz.prog.types.size))) = true := by kernel_rfl
theorem jf20 : ((Rows.agentArgsRow.ifacesOut == Tryz.f3.resultTypes.toList.any (Tryz.prog.ifacesRec ·))) = true := by kernel_rfl
theorem jf21 : ((Rows.agentArgsRow.loopsOut == Tryz.f3.resultTypes.toList.any (Tryz.prog.loopsFrom ·))) = true := by kernel_rfl
theorem jf22 : ((Rows.agentArgsRow.plainKeys == Tryz.prog.plainKeys)) = true := by kernel_rfl
theorem jf23 : (Rows.agentArgsRow.shortTexts.isNone) = true := by kernel_rfl
theorem jf24 : (Tryz.prog.stopsHeard) = true := by kernel_rfl
theorem jf25 : (Tryz.prog.mayEnter) = true := by kernel_rfl
theorem jf26 : ((Rows.agentArgsRow.lifted == Tryz.prog.liftsFinal)) = true := by kernel_rfl
theorem jf27 : ((Tryz.prog.make == some Rows.agentArgsRow.make)) = true := by kernel_rfl
theorem jf28 : ((Rows.agentArgsRow.kinds == (if Rows.agentArgsRow.domain.isEmpty then [] else Tryz.f3.params.toList.map fun t => match Tryz.prog.underlying t with | some (.int k) => some k | _ => none))) = true := by kernel_rfl
theorem jf29 : ((Rows.agentArgsRow.pinned == Rows.agentArgsRow.pinnedBy)) = true := by kernel_rfl
theorem jf30 : ((Rows.agentArgsRow.veiled == (Tryz.f3.params.toList ++ Rows.agentArgsSpec.plain.varTypes Tryz.prog ++ Tryz.f3.resultTypes.toList).any (Tryz.prog.veiledRec ·))) = true := by kernel_rfl
theorem jf31 : (Rows.agentArgsRow.veiledFits Tryz.prog Tryz.f3.params.toList (Tryz.f3.params.toList ++ Rows.agentArgsSpec.plain.varTypes Tryz.prog ++ Tryz.f3.resultTypes.toList)) = true := by kernel_rfl
theorem band {a b : Bool} (h1 : a = true) (h2 : b = true) : (a && b) = true := by rw [h1, h2]; rfl
set_option maxRecDepth 100000 in
theorem facts : joinedFacts Tryz.prog 3 Tryz.f3 Rows.agentArgsSpec Rows.agentArgsRow = true := by
  unfold joinedFacts
  exact (band (band (band (band (band (band (band (band (band (band (band (band (band (band (band (band (band (band (band (band (band (band (band (band (band (band (band (band (band (band (band jf0 jf1) jf2) jf3) jf4) jf5) jf6) jf7) jf8) jf9) jf10) jf11) jf12) jf13) jf14) jf15) jf16) jf17) jf18) jf19) jf20) jf21) jf22) jf23) jf24) jf25) jf26) jf27) jf28) jf29) jf30) jf31)
theorem pw : Rows.agentArgsRow.wfByText (OpenSpec.ofChange Rows.agentArgsSpec) = true := by kernel_rfl
theorem pm : Tryz.pinned.checked.prog.mainIs = some ((true, Rows.agentArgsCard.stood.harness.2).1, (true, Rows.agentArgsCard.stood.harness.2).2.toList) := by kernel_rfl
theorem pf : Tryz.prog.funcNamed Tryz.f3.name = some 3 := by kernel_rfl
theorem pl : true = Tryz.prog.looks [] := by kernel_rfl
theorem pa : ([24, 26, 3, 3, 3, 27].all fun u => !Tryz.prog.wantsStandIn u) = true := by kernel_rfl
theorem pg : false = Rows.agentArgsRow.goesBy Tryz.pinned.checked.prog := by kernel_rfl
end Go.Proofs.YtgbahhhhfgppjaaGreatDoor.agentArgs
/- A law whose rows list variables: the world is of the program's shape, too. -/
namespace Go.Ev
open Go Go.Proofs Go.ChangeShapes Go.WideShapes Go.ChangeAt Go.RowKit
theorem handed_shaped {H : Type} {enc : TypeId × Value → H} {a : Assume} {C : Checked} {os : Os} {f : FuncId} {fn : Func} {s : ChangeSpec} {conds : List PathCond} {apart fresh handsOn again : Bool} {X : World → Array Value → Prop}
    (hX : ∀ (w w' : World) (args : Array Value), w.heap = w'.heap → X w args → X w' args)
    (own : ownKnob C.prog.godebug = none) (started : os.Started) (noInit : C.prog.inits.idxOf? f = none) (hfn : C.prog.funcs[f]? = some fn)
    (witness : ∃ (w : World) (tape : Tape) (i : Input), w.os = os ∧ (w.forCall tape i).Shaped C.prog ∧ i.vars = [] ∧ Input.okWide C.prog (w.forCall tape i) .any w.heap.size f i ∧
      ((s.pre enc C.prog fn conds apart (w.forCall tape i).memory i.args ∧ X (w.forCall tape i).memory i.args) ∧ sizedMet enc C.prog fn (OpenSpec.ofChange s) apart (w.forCall tape i).memory i.args) ∧ a.holds C.prog (lone (Frame.enter C.prog f i.args .normal) [] (w.forCall tape i)))
    (contract : ∀ (W : World) (base : Nat) (args : Array Value) (ds gs : List (DataW H)) (before : List MemPlace),
      (∀ (j : Nat) t v, fn.params[j]? = some t → args[j]? = some v → Value.okWide C.prog W .any base t v) →
      DataW.Whole enc C.prog fn.params.toList s.vars apart W args.toList ds gs before → X W args → W.ShapedOpen C.prog →
      Calls C.prog f args W fun e W' => ∃ v, e = .returned v ∧ s.post enc C.prog fn apart fresh handsOn again W args v W') :
    ReturnsInHanded a C os f .any (fun w args => (s.pre enc C.prog fn conds apart w args ∧ X w args) ∧ sizedMet enc C.prog fn (OpenSpec.ofChange s) apart w args) (s.post enc C.prog fn apart fresh handsOn again) := by
  refine returnsInHanded_of_calls own started noInit witness ?_
  intro w tape i _ hsh _ hok hpre _
  obtain ⟨_, _, _, fn', hfn', _, _, _, _, hval⟩ := hok
  have e : fn' = fn := Option.some.inj (hfn'.symm.trans hfn)
  subst e
  obtain ⟨⟨⟨ds, gs, before, hw, hc⟩, hx⟩, hz⟩ := hpre
  have hw' := DataW.Whole.of_heap (w' := w.forCall tape i) (by rfl) hw
  refine (contract (w.forCall tape i) w.heap.size i.args ds gs before hval hw' (hX _ _ _ (by rfl) hx) hsh).mono fun e W' ⟨v, he, hp⟩ => ?_
  subst he
  exact ChangeSpec.post_blind hp
end Go.Ev
/- An argument's size is one that memory can have. -/
namespace Go.Ev
open Go Go.Proofs Go.ChangeShapes Go.WideShapes Go.ChangeAt Go.RowKit
theorem wokEach_cons {H : Type} {P : Program} {t : TypeId} {ts : List TypeId} {d : DataW H} {r : List (DataW H)} (h : (DataW.weightsEach P (t :: ts) (d :: r)).all (fun k => decide (k ≤ reachBytes)) = true) :
    Wok P t d ∧ (DataW.weightsEach P ts r).all (fun k => decide (k ≤ reachBytes)) = true := by
  unfold DataW.weightsEach at h
  rw [List.all_append, Bool.and_eq_true] at h
  exact ⟨fun k hk => by simpa using List.all_eq_true.1 h.1 k hk, h.2⟩
theorem handed_sized {H : Type} {enc : TypeId × Value → H} {a : Assume} {C : Checked} {os : Os} {f : FuncId} {fn : Func} {s : ChangeSpec} {conds : List PathCond} {apart fresh handsOn again : Bool} {X : World → Array Value → Prop}
    (hX : ∀ (w w' : World) (args : Array Value), w.heap = w'.heap → X w args → X w' args)
    (own : ownKnob C.prog.godebug = none) (started : os.Started) (noInit : C.prog.inits.idxOf? f = none) (hfn : C.prog.funcs[f]? = some fn)
    (witness : ∃ (w : World) (tape : Tape) (i : Input), w.os = os ∧ (w.forCall tape i).Shaped C.prog ∧ i.vars = [] ∧ Input.okWide C.prog (w.forCall tape i) .any w.heap.size f i ∧
      ((s.pre enc C.prog fn conds apart (w.forCall tape i).memory i.args ∧ X (w.forCall tape i).memory i.args) ∧ sizedMet enc C.prog fn (OpenSpec.ofChange s) apart (w.forCall tape i).memory i.args) ∧ a.holds C.prog (lone (Frame.enter C.prog f i.args .normal) [] (w.forCall tape i)))
    (contract : ∀ (W : World) (base : Nat) (args : Array Value) (ds gs : List (DataW H)) (before : List MemPlace),
      (∀ (j : Nat) t v, fn.params[j]? = some t → args[j]? = some v → Value.okWide C.prog W .any base t v) →
      DataW.Whole enc C.prog fn.params.toList s.vars apart W args.toList ds gs before → (DataW.weightsEach C.prog (fn.params.toList ++ (OpenSpec.ofChange s).bare.plain.varTypes C.prog) (ds ++ gs)).all (fun k => decide (k ≤ reachBytes)) = true → X W args → W.ShapedOpen C.prog →
      Calls C.prog f args W fun e W' => ∃ v, e = .returned v ∧ s.post enc C.prog fn apart fresh handsOn again W args v W') :
    ReturnsInHanded a C os f .any (fun w args => (s.pre enc C.prog fn conds apart w args ∧ X w args) ∧ sizedMet enc C.prog fn (OpenSpec.ofChange s) apart w args) (s.post enc C.prog fn apart fresh handsOn again) := by
  refine returnsInHanded_of_calls own started noInit witness ?_
  intro w tape i _ hsh _ hok hpre _
  obtain ⟨_, _, _, fn', hfn', _, _, _, _, hval⟩ := hok
  have e : fn' = fn := Option.some.inj (hfn'.symm.trans hfn)
  subst e
  obtain ⟨⟨_, hx⟩, hz⟩ := hpre
  obtain ⟨_, ds, gs, before, hw, hs⟩ := hz
  have hw' := DataW.Whole.of_heap (w' := w.forCall tape i) (by rfl) hw
  refine (contract (w.forCall tape i) w.heap.size i.args ds gs before hval hw' hs (hX _ _ _ (by rfl) hx) hsh).mono fun e W' ⟨v, he, hp⟩ => ?_
  subst he
  exact ChangeSpec.post_blind hp
end Go.Ev
