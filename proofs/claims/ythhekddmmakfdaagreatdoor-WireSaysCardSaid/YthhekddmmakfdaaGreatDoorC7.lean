import Derived.Test.YthhekddmmakfdaaGreatDoorC6
import Derived.Handed
import Derived.LaidMore
namespace Go.Ev
open Go Go.Proofs
mutual
theorem noZ_free : ∀ (d : D), idFree d = true → noZ d = true
  | .agg cs, h => by simp only [idFree] at h; simp only [noZ]; exact noZL_free cs h
  | .tup cs, h => by simp only [idFree] at h; simp only [noZ]; exact noZL_free cs h
  | .fn _ cs, h => by simp only [idFree] at h; simp only [noZ]; exact noZL_free cs h
  | .iface _ d, h => by simp only [idFree] at h; simp only [noZ]; exact noZ_free d h
  | .optr .., h => by simp [idFree] at h
  | .osl .., h => by simp [idFree] at h
  | .bool _, _ => rfl
  | .int _ _, _ => rfl
  | .str _, _ => rfl
  | .nilp, _ => rfl
  | .nilf, _ => rfl
  | .nili, _ => rfl
  | .vptr _, _ => rfl
  | .vsl .., _ => rfl
  | .raw _, _ => rfl
theorem noZL_free : ∀ (l : List D), idFree.idFreeL l = true → noZ.noZL l = true
  | [], _ => rfl
  | d :: l, h => by
    simp only [idFree.idFreeL, Bool.and_eq_true] at h
    simp only [noZ.noZL, noZ_free d h.1, noZL_free l h.2, Bool.and_self]
end
@[simp] theorem noZL_append (a b : List D) : noZ.noZL (a ++ b) = (noZ.noZL a && noZ.noZL b) := by
  induction a with
  | nil => simp [noZ.noZL]
  | cons d l ih => simp [noZ.noZL, ih, Bool.and_assoc]
@[simp] theorem noZL_of (l : List UInt8) : noZ.noZL (ofBytes l) = true := noZL_free _ (by simp)
@[simp] theorem noZL_cells {α : Type} [Enc α] (a : α) : noZ.noZL (Enc.cells a) = true := noZL_free _ (cells_idFreeL a)
@[simp] theorem noZL_encs {α : Type} [Enc α] (l : List α) : noZ.noZL (encs l) = true := noZL_free _ (encs_idFreeL l)
end Go.Ev
namespace Go.Ev.S
open Go Go.Proofs Go.Ev
theorem anyI_cases : ∀ (l : List UInt8) (n : Nat), (∃ k : Nat, anyI l n = ((n + k : Nat) : Int) ∧ ∃ h : k < l.length, (l[k] = 61 ∨ l[k] = 10) ∧ ∀ j (hj : j < k), l[j] ≠ 61 ∧ l[j] ≠ 10) ∨ anyI l n = -1
  | [], n => .inr rfl
  | b :: l, n => by
    by_cases hb : b = 61 ∨ b = 10
    · exact .inl ⟨0, by rw [anyI, if_pos hb]; simp, by simp, hb, fun j hj => by omega⟩
    · rw [anyI, if_neg hb]
      rcases anyI_cases l (n + 1) with ⟨k, h1, h2, h3, h4⟩ | h
      · refine .inl ⟨k + 1, by rw [h1]; congr 1; omega, by simpa using h2, by simpa using h3, fun j hj => ?_⟩
        cases j with
        | zero => exact ⟨fun e => hb (.inl e), fun e => hb (.inr e)⟩
        | succ j => exact h4 j (by omega)
      · exact .inr h
def pairP (b : List UInt8) : Option (Pr × List UInt8) :=
  if anyI b 0 < 1 then none
  else if b.getD (anyI b 0).toNat 0 = 61 then some (⟨b.take (anyI b 0).toNat, lnL (b.drop ((anyI b 0).toNat + 1))⟩, lnR (b.drop ((anyI b 0).toNat + 1)))
  else match leGet (b.drop ((anyI b 0).toNat + 1)) 0 8 with
    | none => none
    | some n => if 256 < n ∨ (b.drop ((anyI b 0).toNat + 1)).length < 9 + n then none
      else some (⟨b.take (anyI b 0).toNat, ((b.drop ((anyI b 0).toNat + 1)).drop 8).take n⟩, (b.drop ((anyI b 0).toNat + 1)).drop (9 + n))
theorem leGet_lt (l : List UInt8) (n : Nat) (h : leGet l 0 8 = some n) : n < 18446744073709551616 ∧ 8 ≤ l.length := by
  unfold leGet at h
  split at h
  · rename_i hc
    injection h with h
    refine ⟨?_, by omega⟩
    rw [← h]
    have := leN_lt ((l.drop (0 : Int).toNat).take (8 : Int).toNat)
    refine Nat.lt_of_lt_of_le this ?_
    have hl : ((l.drop (0 : Int).toNat).take (8 : Int).toNat).length ≤ 8 := by simp; omega
    exact Nat.le_trans (Nat.pow_le_pow_right (by decide) hl) (by decide)
  · cases h
set_option maxHeartbeats 4000000 in
set_option maxRecDepth 8000 in
theorem lpair_ev [MaxL] (s : Sl UInt8) (hs : s.l.length < 1000000) : ∃ r : Sl UInt8, (∀ p b, pairP s.l = some (p, b) → r.l = b) ∧
    call cx 92 [.optr 0 1 0] [some [(.vsl s.nil (ofBytes s.l) s.l.length)]] = some (.tup [.agg (match pairP s.l with | some (p, _) => [.str p.name, .str p.value] | none => [.str [], .str []]), .bool (pairP s.l).isSome], [some [(.vsl r.nil (ofBytes r.l) r.l.length)]]) := by
  have ha := any_ev s hs
  rcases anyI_cases s.l 0 with ⟨k, h1, h2, h3, -⟩ | h1
  · rw [Nat.zero_add] at h1
    rw [h1] at ha
    cases k with
    | zero =>
      have hP : pairP s.l = none := by unfold pairP; rw [h1, if_pos (by decide)]
      rw [hP]
      refine ⟨s, fun p b h => (by cases h), ?_⟩
      have ha0 : call cx 120 [(.vsl s.nil (ofBytes s.l) s.l.length), .str [61, 10]] [] = some (.int .i64 0, []) := ha
      refine call_run Tryz.func92 rfl ⟨rfl, rfl⟩ ?_
      simp [Tryz.f92, ha0]
    | succ m =>
      obtain ⟨k, hk⟩ : ∃ k, k = m + 1 := ⟨_, rfl⟩
      rw [← hk] at h1 ha h2
      have hk1 : 1 ≤ k := by omega
      have h3' : s.l[k] = 61 ∨ s.l[k] = 10 := by subst hk; exact h3
      clear h3
      have hkn : ¬ (k : Int) < 1 := by omega
      have hnn : s.nil = false := Sl.nn h2
      rw [hnn] at ha
      have hat := ofBytes_at h2
      have hgd : s.l.getD k 0 = s.l[k] := by rw [List.getD, List.getElem?_eq_getElem h2]; rfl
      have hw1 : IntKind.i64.wrap ((k : Int) + 1) = ((k + 1 : Nat) : Int) := by rw [wrap_i64] <;> omega
      have t1 : List.take k (ofBytes s.l) = ofBytes (s.l.take k) := ofBytes_take _ _
      have t1l : (s.l.take k).length = k := by simp; omega
      have t1b : bytesD (ofBytes (s.l.take k)) = some (s.l.take k) := bytesD_of _
      have t1t : List.take k (ofBytes (s.l.take k)) = ofBytes (s.l.take k) := List.take_of_length_le (by simp; omega)
      obtain ⟨R, hR⟩ : ∃ R : Sl UInt8, R = ⟨false, s.l.drop (k + 1), fun e => by cases e⟩ := ⟨_, rfl⟩
      have hRl : R.l = s.l.drop (k + 1) := by rw [hR]
      have hRn : R.nil = false := by rw [hR]
      have hRlen : R.l.length = s.l.length - (k + 1) := by rw [hRl]; simp
      have t2 : List.take (s.l.length - (k + 1)) (List.drop (k + 1) (ofBytes s.l)) = ofBytes R.l := by
        rw [ofBytes_drop, ← hRl]
        exact List.take_of_length_le (by simp [hRlen])
      have g1 : k ≤ s.l.length := by omega
      have g1' : (k : Int) ≤ (s.l.length : Int) := by omega
      have g0' : (k : Int) < (s.l.length : Int) := by omega
      have g2 : k + 1 ≤ s.l.length := by omega
      have g2' : ((k + 1 : Nat) : Int) ≤ (s.l.length : Int) := by omega
      obtain ⟨j, hj⟩ : ∃ j, j = k + 1 := ⟨_, rfl⟩
      have g3 : ((s.l.length : Int) - (j : Int)).toNat = s.l.length - j := by omega
      have hln := line_ev R (by omega) [] (by decide)
      obtain ⟨r, hr1, hr2⟩ := hln
      have htr : trimL [] (lnL R.l) = lnL R.l := by unfold trimL; simp
      rw [htr] at hr2
      have hlg := leget_ev R 0 8 ⟨by decide, by decide⟩ (by omega)
      have hP : pairP s.l = if s.l[k] = 61 then some (⟨s.l.take k, lnL R.l⟩, lnR R.l) else match leGet R.l 0 8 with
          | none => none
          | some n => if 256 < n ∨ R.l.length < 9 + n then none else some (⟨s.l.take k, (R.l.drop 8).take n⟩, R.l.drop (9 + n)) := by
        unfold pairP
        have hkn' : ((k : Int)).toNat = k := by omega
        rw [h1, if_neg hkn, hkn', hgd, ← hRl]
      rw [hP]
      have hc10 : s.l[k] ≠ 61 → s.l[k] = 10 := fun h => h3'.resolve_left h
      rw [hRn] at hr2 hlg
      rw [← hRlen] at t2
      generalize s.l[k] = c at *
      have hsl : s.l.length - (k + 1) = R.l.length := hRlen.symm
      rw [← hj] at hw1 t2 g2 g2' hsl
      by_cases hc : c = 61
      · rw [if_pos hc]
        subst hc
        refine ⟨r, fun p b h => (by injection h with h; injection h with _ h; rw [← h]; exact hr1), ?_⟩
        clear hlg hP hc10 h3'
        refine call_run Tryz.func92 rfl ⟨rfl, rfl⟩ ?_
        simp [Tryz.f92, ha, hkn, hnn, hat, hw1, t1, t1l, t1b, t2, g0', g1', g2', hsl, hr2]
      · rw [if_neg hc]
        have hc2 := hc10 hc
        subst hc2
        clear hr1 hr2 htr hP hc10 h3' hc
        cases hg : leGet R.l 0 8 with
        | none =>
          rw [hg] at hlg
          simp only [optN, Option.getD_none, Option.isSome_none] at hlg
          refine ⟨R, fun p b h => (by cases h), ?_⟩
          rw [hRn]
          refine call_run Tryz.func92 rfl ⟨rfl, rfl⟩ ?_
          simp [Tryz.f92, ha, hkn, hnn, hat, hw1, t1, t1l, t1b, t2, g0', g1', g2', hsl, hlg]
        | some n =>
          obtain ⟨hn64, hR8⟩ := leGet_lt _ _ hg
          rw [hg] at hlg
          simp only [optN, Option.getD_some, Option.isSome_some] at hlg
          by_cases hbig : 256 < n
          · have hbig' : (256 : Int) < (n : Int) := by omega
            refine ⟨R, fun p b h => (by simp only [hbig, true_or, if_true] at h; cases h), ?_⟩
            rw [hRn]
            simp only [hbig, true_or, if_true]
            refine call_run Tryz.func92 rfl ⟨rfl, rfl⟩ ?_
            simp [Tryz.f92, ha, hkn, hnn, hat, hw1, t1, t1l, t1b, t2, g0', g1', g2', hsl, hlg, hbig']
          · have hbig' : ¬ (256 : Int) < (n : Int) := by omega
            have hwn : IntKind.i64.wrap (n : Int) = (n : Int) := by rw [wrap_i64] <;> omega
            have hwn9 : IntKind.i64.wrap (9 + (n : Int)) = 9 + (n : Int) := by rw [wrap_i64] <;> omega
            by_cases hsh : R.l.length < 9 + n
            · have hsh' : (R.l.length : Int) < 9 + (n : Int) := by omega
              refine ⟨R, fun p b h => (by simp only [hsh, or_true, if_true] at h; cases h), ?_⟩
              rw [hRn]
              simp only [hsh, or_true, if_true]
              refine call_run Tryz.func92 rfl ⟨rfl, rfl⟩ ?_
              simp [Tryz.f92, ha, hkn, hnn, hat, hw1, t1, t1l, t1b, t2, g0', g1', g2', hsl, hlg, hbig', hwn, hwn9, hsh']
            · have hsh' : ¬ (R.l.length : Int) < 9 + (n : Int) := by omega
              have hno : ¬ (256 < n ∨ R.l.length < 9 + n) := by omega
              simp only [hno, if_false]
              obtain ⟨V, hV⟩ : ∃ V, V = (R.l.drop 8).take n := ⟨_, rfl⟩
              have hVl : V.length = n := by rw [hV]; simp; omega
              obtain ⟨q, hq⟩ : ∃ q, q = 9 + n := ⟨_, rfl⟩
              obtain ⟨q8, hq8⟩ : ∃ q, q = 8 + n := ⟨_, rfl⟩
              have w8 : IntKind.u64.wrap (8 + (n : Int)) = (q8 : Int) := by rw [wrap_u64] <;> omega
              have w9 : IntKind.u64.wrap (q : Int) = (q : Int) := by rw [wrap_u64] <;> omega
              have hq9 : 9 + (n : Int) = (q : Int) := by omega
              have e8 : ((q8 : Int) - 8).toNat = n := by omega
              have eq9 : ((R.l.length : Int) - (q : Int)).toNat = R.l.length - q := by omega
              have b1 : (q8 : Int) ≤ (R.l.length : Int) := by omega
              have b2 : (8 : Int) ≤ (q8 : Int) := by omega
              have b3 : (q : Int) ≤ (R.l.length : Int) := by omega
              have b4 : q8 ≤ R.l.length := by omega
              have b5 : 8 ≤ q8 := by omega
              have b6 : q ≤ R.l.length := by omega
              have b7 : q8 - 8 = n := by omega
              have tv : List.take n (List.drop 8 (ofBytes R.l)) = ofBytes V := by rw [ofBytes_drop, ofBytes_take, ← hV]
              have tvb : bytesD (ofBytes V) = some V := bytesD_of _
              have tvt : List.take n (ofBytes V) = ofBytes V := List.take_of_length_le (by simp; omega)
              obtain ⟨Q, hQ⟩ : ∃ Q : Sl UInt8, Q = ⟨false, R.l.drop q, fun e => by cases e⟩ := ⟨_, rfl⟩
              have hQl : Q.l = R.l.drop q := by rw [hQ]
              have hQn : Q.nil = false := by rw [hQ]
              have hQlen : R.l.length - q = Q.l.length := by rw [hQl]; simp
              have tq : List.take (R.l.length - q) (List.drop q (ofBytes R.l)) = ofBytes Q.l := by
                rw [ofBytes_drop, ← hQl]
                exact List.take_of_length_le (by simp [hQlen])
              rw [hQlen] at tq
              refine ⟨Q, fun p b h => (by injection h with h; injection h with _ h; rw [← h, hQl, hq]), ?_⟩
              rw [hQn]
              rw [hq9] at hsh' hwn9
              rw [← hV]
              clear hg hV hQl hQ hR hRl hsh
              refine call_run Tryz.func92 rfl ⟨rfl, rfl⟩ ?_
              simp [Tryz.f92, ha, hkn, hnn, hat, hw1, t1, t1l, t1b, t2, g0', g1', g2', hsl, hlg, hbig', hwn, hq9, hwn9, hsh', w8, w9, b1, b2, b3, b7, tv, tvb, tq, hVl, hQlen]
  · have hP : pairP s.l = none := by unfold pairP; rw [h1, if_pos (by decide)]
    rw [hP]
    refine ⟨s, fun p b h => (by cases h), ?_⟩
    rw [h1] at ha
    refine call_run Tryz.func92 rfl ⟨rfl, rfl⟩ ?_
    simp [Tryz.f92, ha]
end Go.Ev.S
namespace Go.Ev.S
open Go Go.Proofs Go.Ev
def Rec.zero : Rec := ⟨0, 0, 0, ID.zero, .none⟩
def gapP (b : List UInt8) : It := ⟨idI kId (lnR b), true, ((pu 10 (cutL [45] (trimL kGap (lnL b))).1).getD 0 : Nat), ((pu 10 (cutL [45] (trimL kGap (lnL b))).2.1).getD 0 : Nat), Rec.zero⟩
theorem pu_ev10 [MaxL] (s : List UInt8) (hs : s.length ≤ 1000000) :
    (∃ v : Nat, (pu 10 s).getD 0 = v ∧ call cx 89 [.str s, .int .i64 10, .int .i64 64] [] = some (.tup [.int .u64 v, .nili], [])) ∨
    ((pu 10 s).getD 0 = 0 ∧ ∃ (x : Nat) (d : List D), call cx 89 [.str s, .int .i64 10, .int .i64 64] [] = some (.tup [.int .u64 x, .iface 179 (.vptr d)], [])) := by
  rcases pu_ev 10 (.inl rfl) s (by omega) with ⟨v, e1, e2⟩ | ⟨e1, x, d, e2⟩
  · exact .inl ⟨v, by rw [e1]; rfl, e2⟩
  · exact .inr ⟨by rw [e1]; rfl, x, d, e2⟩
set_option maxHeartbeats 4000000 in
set_option maxRecDepth 8000 in
theorem gap_ev [MaxL] (s : Sl UInt8) (hs : s.l.length < 1000000) : ∃ r : Sl UInt8, call cx 50 [.optr 0 1 0] [some [(.vsl s.nil (ofBytes s.l) s.l.length)]] = some (.agg (Enc.cells (gapP s.l)), [some [(.vsl r.nil (ofBytes r.l) r.l.length)]]) := by
  obtain ⟨r1, hr1, hl1⟩ := line_ev s hs kGap (by decide)
  have hln := lnL_len s.l
  have hlr := lnR_len s.l
  have htl := trim_len kGap (lnL s.l)
  obtain ⟨r2, hr2, hl2⟩ := idline_ev r1 (by rw [hr1]; omega) kId (by decide)
  have hcl := cut_len [45] (trimL kGap (lnL s.l))
  have hct := cut_ev (trimL kGap (lnL s.l)) [45] (by omega) (by decide)
  have p1 := pu_ev10 (cutL [45] (trimL kGap (lnL s.l))).1 (by omega)
  have p2 := pu_ev10 (cutL [45] (trimL kGap (lnL s.l))).2.1 (by omega)
  refine ⟨r2, ?_⟩
  rw [It.cells]
  unfold gapP
  simp only
  rw [← hr1]
  generalize idI kId r1.l = q at *
  generalize (cutL [45] (trimL kGap (lnL s.l))).2.2 = f at *
  generalize (cutL [45] (trimL kGap (lnL s.l))).2.1 = y at *
  generalize (cutL [45] (trimL kGap (lnL s.l))).1 = x at *
  generalize trimL kGap (lnL s.l) = t at *
  have hq := q.h
  have hq16 : List.take 16 (ofBytes q.l) = ofBytes q.l := List.take_of_length_le (by simp)
  have hq39 : List.take 39 (ofBytes q.l) = ofBytes q.l := List.take_of_length_le (by simp)
  have z16 : ofBytes ID.zero.l = [.int .u8 0, .int .u8 0, .int .u8 0, .int .u8 0, .int .u8 0, .int .u8 0, .int .u8 0, .int .u8 0, .int .u8 0, .int .u8 0, .int .u8 0, .int .u8 0, .int .u8 0, .int .u8 0, .int .u8 0, .int .u8 0] := rfl
  clear hlr htl hln hcl
  simp only [kGap, kId] at hl1 hl2
  refine call_run Tryz.func50 rfl ⟨rfl, rfl⟩ ?_
  rcases p1 with ⟨v1, e1, c1⟩ | ⟨e1, x1, d1, c1⟩ <;> rcases p2 with ⟨v2, e2, c2⟩ | ⟨e2, x2, d2, c2⟩ <;> rw [e1, e2] <;> clear e1 e2
  all_goals
    simp [Tryz.f50, hl1, hct]
    refine run_unroll ?_
    simp [c1]
    refine run_unroll ?_
    simp [c2]
    refine run_unroll ?_
    simp [hl2, hq39, hq, z16, Rec.zero, List.take_append]
end Go.Ev.S
namespace Go.Ev.S
open Go Go.Proofs Go.Ev
def fldP : Nat → List UInt8 → List Pr
  | 0, _ => []
  | n + 1, b => match pairP b with
    | none => []
    | some (p, r) => p :: fldP n r
def slP (l : List Pr) : Sl Pr := ⟨l.isEmpty, l, fun h => by simpa using h⟩
def entP (b : List UInt8) : It := ⟨idI kId (lnR (lnR (lnR (lnR b)))), false, 0, 0, ⟨(nmI kSeq (lnR (lnR (lnR b))) : Nat), (nmI kReal (lnR b) : Nat), (nmI kMono (lnR (lnR b)) : Nat), idI kBoot (lnR (lnR (lnR (lnR (lnR b))))), slP (fldP 17 (lnR (lnR (lnR (lnR (lnR (lnR b)))))))⟩⟩
theorem pairP_len {b : List UInt8} {p : Pr} {r : List UInt8} (h : pairP b = some (p, r)) : r.length ≤ b.length := by
  unfold pairP at h
  split at h
  · cases h
  · split at h
    · injection h with h
      injection h with _ h
      rw [← h]
      exact Nat.le_trans (lnR_len _) (by simp)
    · split at h
      · cases h
      · split at h
        · cases h
        · injection h with h
          injection h with _ h
          rw [← h]
          simp
def entX (q : ID) (sq rl mn : Nat) (bt : ID) : List D := ofBytes q.l ++ ([.bool false, .int .u64 0, .int .u64 0, .int .u64 sq, .int .u64 rl, .int .u64 mn] ++ ofBytes bt.l)
theorem entX_len (q : ID) (sq rl mn : Nat) (bt : ID) : (entX q sq rl mn bt).length = 38 := by
  simp [entX, q.h, bt.h]
theorem entX_free (q : ID) (sq rl mn : Nat) (bt : ID) : idFree.idFreeL (entX q sq rl mn bt) = true := by
  simp [entX, idFree]
def EntH (X : List D) (Z : Option (List D)) (fs : List Pr) (r : Sl UInt8) (H : Heap) : Prop :=
  (fs = [] ∧ H = [some [(.vsl r.nil (ofBytes r.l) r.l.length)], Z, some (X ++ [.vsl true [] 0])]) ∨
  (fs ≠ [] ∧ ∃ (n k : Nat) (t u : Pr), n = fs.length * 2 ∧ k = fs.length ∧ (H = [some [(.vsl r.nil (ofBytes r.l) r.l.length)], Z, some (X ++ [.osl 5 n 0 k 2]), some [.str t.name, .str t.value], some [.str u.name, .str u.value], some (encs fs)] ∨
    ∃ v w : Pr, H = [some [(.vsl r.nil (ofBytes r.l) r.l.length)], Z, some (X ++ [.osl 5 n 0 k 2]), some [.str t.name, .str t.value], some [.str u.name, .str u.value], some (encs fs), some [.str v.name, .str v.value], some [.str w.name, .str w.value]]))
theorem stay_ent {X : List D} (hX : idFree.idFreeL X = true) {fs : List Pr} {i n k : Nat} (hn : fs.length * 2 = n) (hk : fs.length = k) {H : Heap} (hg : (H[i]?).getD none = some (encs fs)) : stay H 9 (.agg (X ++ [.osl i n 0 k 2])) = some (.agg (X ++ [.vsl false (encs fs) k]), [i]) := by
  have h8 : stay H 8 (.osl i n 0 k 2) = some (.vsl false (encs fs) k, [i]) := by
    rw [stay, if_neg (by simp [idFree])]
    have hl : (encs fs).length = n := by simp [hn]
    have h0 : 0 + k * 2 ≤ n := by omega
    simp only [hget, hg]
    rw [if_pos ⟨hl, h0⟩, if_pos (by simp), List.drop_zero, List.take_of_length_le (by simp; omega)]
  rw [stay, if_neg (by simp [idFree])]
  simp only [stayL_append, stayL_free8 hX, stayL, h8]
  rfl
set_option maxHeartbeats 4000000 in
set_option maxRecDepth 8000 in
theorem entry_ev [MaxL] (s : Sl UInt8) (hs : s.l.length < 1000000) : ∃ q, call cx 51 [.optr 0 1 0] [some [(.vsl s.nil (ofBytes s.l) s.l.length)]] = some q ∧ ∃ r : Sl UInt8, q = (.agg (Enc.cells (entP s.l)), [some [(.vsl r.nil (ofBytes r.l) r.l.length)]]) := by
  obtain ⟨r1, hr1, hl1⟩ := line_ev s hs kPlace (by decide)
  have n0 := lnR_len s.l
  obtain ⟨r2, hr2, hl2⟩ := nline_ev r1 (by rw [hr1]; omega) kReal (by decide)
  have n1 := lnR_len r1.l
  rw [← hr1] at n0
  obtain ⟨r3, hr3, hl3⟩ := nline_ev r2 (by rw [hr2]; omega) kMono (by decide)
  have n2 := lnR_len r2.l
  rw [← hr2] at n1
  obtain ⟨r4, hr4, hl4⟩ := nline_ev r3 (by rw [hr3]; omega) kSeq (by decide)
  have n3 := lnR_len r3.l
  rw [← hr3] at n2
  obtain ⟨r5, hr5, hl5⟩ := idline_ev r4 (by rw [hr4]; omega) kId (by decide)
  have n4 := lnR_len r4.l
  rw [← hr4] at n3
  obtain ⟨r6, hr6, hl6⟩ := idline_ev r5 (by rw [hr5]; omega) kBoot (by decide)
  have n5 := lnR_len r5.l
  rw [← hr5] at n4
  rw [← hr6] at n5
  have hE : Enc.cells (entP s.l) = entX (idI kId r4.l) (nmI kSeq r3.l) (nmI kReal r1.l) (nmI kMono r2.l) (idI kBoot r5.l) ++ [(.vsl (slP (fldP 17 r6.l)).nil (encs (slP (fldP 17 r6.l)).l) (slP (fldP 17 r6.l)).l.length)] := by
    rw [It.cells]
    unfold entP entX
    simp only
    rw [← hr1, ← hr2, ← hr3, ← hr4, ← hr5, ← hr6]
    simp
  rw [hE]
  have hr6' : r6.l.length < 1000000 := by omega
  clear hE n0 n1 n2 n3 n4 n5 hr1 hr2 hr3 hr4 hr5 hr6
  have hXl := entX_len (idI kId r4.l) (nmI kSeq r3.l) (nmI kReal r1.l) (nmI kMono r2.l) (idI kBoot r5.l)
  have hXf := entX_free (idI kId r4.l) (nmI kSeq r3.l) (nmI kReal r1.l) (nmI kMono r2.l) (idI kBoot r5.l)
  obtain ⟨X, hX⟩ : ∃ X, X = entX (idI kId r4.l) (nmI kSeq r3.l) (nmI kReal r1.l) (nmI kMono r2.l) (idI kBoot r5.l) := ⟨_, rfl⟩
  rw [← hX] at hXl hXf ⊢
  unfold entX at hX
  obtain ⟨F, hF⟩ : ∃ F, F = fldP 17 r6.l := ⟨_, rfl⟩
  rw [← hF]
  have hq := (idI kId r4.l).h
  have hb := (idI kBoot r5.l).h
  generalize idI kId r4.l = q at *
  generalize idI kBoot r5.l = bt at *
  generalize nmI kSeq r3.l = sq at *
  generalize nmI kReal r1.l = rl at *
  generalize nmI kMono r2.l = mn at *
  have hq16 : List.take 16 (ofBytes q.l) = ofBytes q.l := List.take_of_length_le (by simp)
  have hb16 : List.take 16 (ofBytes bt.l) = ofBytes bt.l := List.take_of_length_le (by simp)
  simp only [kPlace, kReal, kMono, kSeq, kId, kBoot] at hl1 hl2 hl3 hl4 hl5 hl6
  have hXd : List.drop 38 X = [] := List.drop_eq_nil_of_le (by omega)
  have hXd9 : List.drop 39 X = [] := List.drop_eq_nil_of_le (by omega)
  have hXt : List.take 38 X = X := List.take_of_length_le (by omega)
  have hXt9 : List.take 39 X = X := List.take_of_length_le (by omega)
  have hXc : ∀ n, (∀ x, x ∈ X → closed n x = true) = True := fun n => eq_true (by
    have := closedL_free n X hXf
    rw [closedL_all] at this
    exact List.all_eq_true.1 this)
  refine call_runE (X := cx) (f := 51) (args := [.optr 0 1 0]) (H := [some [(.vsl s.nil (ofBytes s.l) s.l.length)]]) (fun q => ∃ r : Sl UInt8, q = (.agg (X ++ [(.vsl (slP F).nil (encs (slP F).l) (slP F).l.length)]), [some [(.vsl r.nil (ofBytes r.l) r.l.length)]])) Tryz.func51 rfl ⟨rfl, rfl⟩ ?_
  simp [Tryz.f51, hl1, hl2, hl3, hl4, hl5, hl6, hq, hb, List.take_append, List.drop_append, drop_bytes]
  have hZf : idFree.idFreeL [D.int .u8 0, D.int .u8 0, D.int .u8 0, D.int .u8 0, D.int .u8 0, D.int .u8 0, D.int .u8 0, D.int .u8 0, D.int .u8 0, D.int .u8 0, D.int .u8 0, D.int .u8 0, D.int .u8 0, D.int .u8 0, D.int .u8 0, D.int .u8 0, D.bool false, D.int .u64 0, D.int .u64 0, D.int .u64 0, D.int .u64 0, D.int .u64 0, D.int .u8 0, D.int .u8 0, D.int .u8 0, D.int .u8 0, D.int .u8 0, D.int .u8 0, D.int .u8 0, D.int .u8 0, D.int .u8 0, D.int .u8 0, D.int .u8 0, D.int .u8 0, D.int .u8 0, D.int .u8 0, D.int .u8 0, D.int .u8 0, D.vsl true [] 0] = true := rfl
  have hZl : [D.int .u8 0, D.int .u8 0, D.int .u8 0, D.int .u8 0, D.int .u8 0, D.int .u8 0, D.int .u8 0, D.int .u8 0, D.int .u8 0, D.int .u8 0, D.int .u8 0, D.int .u8 0, D.int .u8 0, D.int .u8 0, D.int .u8 0, D.int .u8 0, D.bool false, D.int .u64 0, D.int .u64 0, D.int .u64 0, D.int .u64 0, D.int .u64 0, D.int .u8 0, D.int .u8 0, D.int .u8 0, D.int .u8 0, D.int .u8 0, D.int .u8 0, D.int .u8 0, D.int .u8 0, D.int .u8 0, D.int .u8 0, D.int .u8 0, D.int .u8 0, D.int .u8 0, D.int .u8 0, D.int .u8 0, D.int .u8 0, D.vsl true [] 0].length = 39 := rfl
  generalize [D.int .u8 0, D.int .u8 0, D.int .u8 0, D.int .u8 0, D.int .u8 0, D.int .u8 0, D.int .u8 0, D.int .u8 0, D.int .u8 0, D.int .u8 0, D.int .u8 0, D.int .u8 0, D.int .u8 0, D.int .u8 0, D.int .u8 0, D.int .u8 0, D.bool false, D.int .u64 0, D.int .u64 0, D.int .u64 0, D.int .u64 0, D.int .u64 0, D.int .u8 0, D.int .u8 0, D.int .u8 0, D.int .u8 0, D.int .u8 0, D.int .u8 0, D.int .u8 0, D.int .u8 0, D.int .u8 0, D.int .u8 0, D.int .u8 0, D.int .u8 0, D.int .u8 0, D.int .u8 0, D.int .u8 0, D.int .u8 0, D.vsl true [] 0] = Z at *
  have hZc : ∀ n, (∀ x, x ∈ Z → closed n x = true) = True := fun n => eq_true (by
    have := closedL_free n Z hZf
    rw [closedL_all] at this
    exact List.all_eq_true.1 this)
  have hZd : List.drop 39 Z = [] := List.drop_eq_nil_of_le (by omega)
  refine Run.loopThen (fun (q : List Pr × Sl UInt8) e H' => q.1.length ≤ 17 ∧ q.2.l.length < 1000000 ∧ q.1 ++ fldP (17 - q.1.length) q.2.l = F ∧ EntH X (some Z) q.1 q.2 H' ∧ look e 0 = some (.optr 0 1 0) ∧ look e 2 = some (.optr 1 39 0) ∧ look e 3 = some (.optr 2 39 0) ∧ look e 4 = some (.optr 2 39 19)) (fun q => 17 - q.1.length) ([], r6) ?_ ?_
  · refine ⟨by simp, hr6', by rw [hF]; rfl, .inl ⟨rfl, ?_⟩, by simp, by simp, by simp, by simp⟩
    rw [hX]
    simp
  rintro ⟨fs, r⟩ e H' ⟨hk, hrl, hFf, hH, k0, k2, k3, k4⟩
  simp only at hk hrl hFf hH
  clear hX hF hl1 hl2 hl3 hl4 hl5 hl6 hr6'
  have hl0 := lnR_len r.l
  obtain ⟨r', hr', hp⟩ := lpair_ev r hrl
  rcases hH with ⟨rfl, rfl⟩ | ⟨hne, n, k, t, u, hn, hk2, hH⟩
  · simp only [List.nil_append, List.length_nil, Nat.sub_zero, fldP] at hFf
    cases hpp : pairP r.l with
    | none =>
      rw [hpp] at hp hFf
      simp only [Option.isSome_none] at hp hFf
      subst hFf
      simp [k0, k2, k3, k4, hp, hXl, hXt9, hXc, hXf, hZl, hZd, List.take_append, List.drop_append, slP]
      exact ⟨r', rfl, rfl, rfl⟩
    | some pr =>
      obtain ⟨p, b⟩ := pr
      rw [hpp] at hp hFf
      simp only [Option.isSome_some] at hp hFf
      have hrb := hr' p b hpp
      have hbl := pairP_len hpp
      simp [k0, k2, k3, k4, hp, hXl, hXd9, List.drop_append, maxBytes]
      exact ⟨[p], by simp, by simp, r', by rw [hrb]; omega, by rw [hrb]; exact hFf, .inr ⟨by simp, 2, 1, p, p, rfl, rfl, .inl rfl⟩⟩
  · have hk17 : (k : Int) ≤ 16 ↔ k ≤ 16 := by omega
    have hlk : fs.length = k := hk2.symm
    have hkn : k * 2 = n := by omega
    have hm1 : (k + 1) * 32 ≤ 140737488355328 := by omega
    have hm2 : k + 1 ≤ 140737488355328 := by omega
    have hie : fs.isEmpty = false := by simpa using hne
    have htk : List.take n (encs fs) = encs fs := List.take_of_length_le (by simp; omega)
    have hst := fun {i : Nat} {H : Heap} => stay_ent hXf (fs := fs) (i := i) (n := n) (k := k) hn.symm hlk (H := H)
    by_cases hle : k ≤ 16
    · have hle' : (k : Int) ≤ 16 := by omega
      have hfu : 17 - fs.length = (16 - fs.length) + 1 := by omega
      rw [hfu, fldP] at hFf
      cases hpp : pairP r.l with
      | none =>
        rw [hpp] at hp hFf
        simp only [Option.isSome_none, List.append_nil] at hp hFf
        subst hFf
        rcases hH with rfl | ⟨v, w, rfl⟩
        · simp [-stay, k0, k2, k3, k4, hle', hp, hst, hlk, hXl, hXt9, hXc, hXf, hZl, hZd, List.take_append, List.drop_append, slP, hie]
          exact ⟨r', rfl, rfl, rfl⟩
        · simp [-stay, k0, k2, k3, k4, hle', hp, hst, hlk, hXl, hXt9, hXc, hXf, hZl, hZc, hZd, List.take_append, List.drop_append, slP, hie]
          exact ⟨r', rfl, rfl, rfl⟩
      | some pr =>
        obtain ⟨p, b⟩ := pr
        rw [hpp] at hp hFf
        simp only [Option.isSome_some] at hp hFf
        have hrb := hr' p b hpp
        have hbl := pairP_len hpp
        rcases hH with rfl | ⟨v, w, rfl⟩
        · simp [k0, k2, k3, k4, hle', hp, hlk, hkn, hm1, hm2, hXl, hXd9, List.drop_append, maxBytes]
          refine ⟨fs ++ [p], by simp; omega, by simp [hlk]; omega, r', by rw [hrb]; omega, ?_, .inr ⟨by simp, n + 2, k + 1, t, u, by simp; omega, by simp; omega, .inr ⟨p, p, by rw [encs_snoc]; rfl⟩⟩⟩
          rw [← hFf, hrb, List.append_assoc]
          have e1 : 17 - (fs ++ [p]).length = 16 - fs.length := by simp
          rw [e1]
          rfl
        · simp [k0, k2, k3, k4, hle', hp, hlk, hkn, hm1, hm2, hXl, hXd9, hXc, hZc, List.drop_append, maxBytes]
          refine ⟨fs ++ [p], by simp; omega, by simp [hlk]; omega, r', by rw [hrb]; omega, ?_, .inr ⟨by simp, n + 2, k + 1, t, u, by simp; omega, by simp; omega, .inr ⟨p, p, by rw [encs_snoc]; rfl⟩⟩⟩
          rw [← hFf, hrb, List.append_assoc]
          have e1 : 17 - (fs ++ [p]).length = 16 - fs.length := by simp
          rw [e1]
          rfl
    · have hle' : ¬ (k : Int) ≤ 16 := by omega
      have hfu : 17 - fs.length = 0 := by omega
      rw [hfu, fldP, List.append_nil] at hFf
      subst hFf
      rcases hH with rfl | ⟨v, w, rfl⟩
      · simp [-stay, k0, k2, k3, k4, hle', hst, hlk, hXl, hXt9, hXc, hXf, hZl, hZd, List.take_append, List.drop_append, slP, hie]
        exact ⟨r, rfl, rfl, rfl⟩
      · simp [-stay, k0, k2, k3, k4, hle', hst, hlk, hXl, hXt9, hXc, hXf, hZl, hZc, hZd, List.take_append, List.drop_append, slP, hie]
        exact ⟨r, rfl, rfl, rfl⟩
end Go.Ev.S
namespace Go.Ev.S
open Go Go.Proofs Go.Ev
theorem bequal_ev [MaxL] (a b : Sl UInt8) (_ : a.l.length < 1000000) (_ : b.l.length < 1000000) : call cx 86 [(.vsl a.nil (ofBytes a.l) a.l.length), (.vsl b.nil (ofBytes b.l) b.l.length)] [] = some (.bool (a.l == b.l), []) := by
  have t1 : List.take a.l.length (ofBytes a.l) = ofBytes a.l := List.take_of_length_le (by simp)
  have t2 : List.take b.l.length (ofBytes b.l) = ofBytes b.l := List.take_of_length_le (by simp)
  refine call_run Tryz.func86 rfl ⟨rfl, rfl⟩ ?_
  simp [Tryz.f86]
theorem bpfx_ev [MaxL] (s : Sl UInt8) (p : List UInt8) (hs : s.l.length < 1000000) (hp : p.length < 1000000) (h1 : 1 ≤ p.length) : call cx 49 [(.vsl s.nil (ofBytes s.l) s.l.length), .vsl false (ofBytes p) p.length] [] = some (.bool (pre p s.l), []) := by
  unfold pre
  refine call_run Tryz.func49 rfl ⟨rfl, rfl⟩ ?_
  by_cases hle : p.length ≤ s.l.length
  · have hle' : (p.length : Int) ≤ (s.l.length : Int) := by omega
    have hnn : s.nil = false := Sl.nn (i := 0) (by omega)
    have he := bequal_ev (.of (s.l.take p.length)) (.of p) (by simp; omega) hp
    simp only [Sl.of_l, Sl.of_nil] at he
    have t1 : List.take p.length (ofBytes s.l) = ofBytes (s.l.take p.length) := ofBytes_take _ _
    have l1 : (s.l.take p.length).length = p.length := by simp; omega
    rw [l1] at he
    simp [Tryz.f49, hle', hnn, t1, he]
  · have hle' : ¬ (p.length : Int) ≤ (s.l.length : Int) := by omega
    have hne : (s.l.take p.length == p) = false := by
      refine beq_eq_false_iff_ne.2 fun e => ?_
      have := congrArg List.length e
      simp at this
      omega
    rw [hne]
    simp [Tryz.f49, hle']
def It.zero : It := ⟨ID.zero, false, 0, 0, Rec.zero⟩
theorem pu_lt {s : List UInt8} : (pu 10 s).getD 0 < 18446744073709551616 := by
  cases h : pu 10 s with
  | none => decide
  | some v =>
    unfold pu at h
    split at h
    · cases h
    · exact puGo_lt 10 _ _ _ (by decide) h
theorem nmI_lt (p b : List UInt8) : isU64 (nmI p b : Nat) := by
  have : nmI p b < 18446744073709551616 := pu_lt
  unfold isU64
  omega
theorem u64_zero : isU64 0 := by unfold isU64; decide
theorem Rec.zero_ok : Rec.zero.Ok := ⟨u64_zero, u64_zero, u64_zero⟩
theorem gapP_ok (b : List UInt8) : (gapP b).Ok := by
  have h1 := pu_lt (s := (cutL [45] (trimL kGap (lnL b))).1)
  have h2 := pu_lt (s := (cutL [45] (trimL kGap (lnL b))).2.1)
  refine ⟨?_, ?_, Rec.zero_ok⟩ <;> (unfold gapP isU64; simp only; omega)
theorem entP_ok (b : List UInt8) : (entP b).Ok := ⟨u64_zero, u64_zero, nmI_lt _ _, nmI_lt _ _, nmI_lt _ _⟩
theorem pairP_b {b : List UInt8} {p : Pr} {r : List UInt8} (h : pairP b = some (p, r)) : p.name.length ≤ b.length ∧ p.value.length ≤ b.length := by
  unfold pairP at h
  split at h
  · cases h
  · split at h
    · injection h with h
      injection h with h _
      rw [← h]
      exact ⟨by simp; omega, Nat.le_trans (lnL_len _) (by simp)⟩
    · split at h
      · cases h
      · split at h
        · cases h
        · injection h with h
          injection h with h _
          rw [← h]
          constructor
          · simp; omega
          · simp; omega
theorem fldP_b : ∀ (n : Nat) (b : List UInt8), (∀ p ∈ fldP n b, p.name.length ≤ b.length ∧ p.value.length ≤ b.length) ∧ (fldP n b).length ≤ n
  | 0, b => ⟨fun p h => by simp [fldP] at h, by simp [fldP]⟩
  | n + 1, b => by
    rw [fldP]
    cases h : pairP b with
    | none => exact ⟨fun p h => by simp at h, by simp⟩
    | some q =>
      obtain ⟨p, r⟩ := q
      simp only
      obtain ⟨h1, h2⟩ := fldP_b n r
      have hr := pairP_len h
      refine ⟨fun x hx => ?_, by simpa using h2⟩
      rcases List.mem_cons.1 hx with rfl | hx
      · exact pairP_b h
      · have := h1 x hx
        omega
def itemP (b : List UInt8) : It := if pre kGap b then gapP b else entP b
theorem itemP_ok (b : List UInt8) : (itemP b).Ok := by
  unfold itemP
  split
  · exact gapP_ok b
  · exact entP_ok b
theorem itemP_b (b : List UInt8) (hb : b.length < 1000000) : (∀ p ∈ (itemP b).rc.fields.l, PrB p) ∧ (itemP b).rc.fields.l.length < 1000000 := by
  unfold itemP
  split
  · exact ⟨fun p hp => (by cases hp), (by show (0 : Nat) < 1000000; decide)⟩
  · obtain ⟨h1, h2⟩ := fldP_b 17 (lnR (lnR (lnR (lnR (lnR (lnR b))))))
    have l1 := lnR_len b
    have l2 := lnR_len (lnR b)
    have l3 := lnR_len (lnR (lnR b))
    have l4 := lnR_len (lnR (lnR (lnR b)))
    have l5 := lnR_len (lnR (lnR (lnR (lnR b))))
    have l6 := lnR_len (lnR (lnR (lnR (lnR (lnR b)))))
    refine ⟨fun p hp => ?_, ?_⟩
    · obtain ⟨q1, q2⟩ := h1 p hp
      exact ⟨by omega, by omega⟩
    · show (fldP 17 _).length < _
      omega
def readOk (b : List UInt8) : Bool := itOk (itemP b) && pre (textL (itemP b)) b
def readD (b : List UInt8) : D := if readOk b then .tup [.agg (Enc.cells (itemP b)), .int .i64 (textL (itemP b)).length, .int .i64 0] else .tup [.agg (Enc.cells It.zero), .int .i64 0, .int .i64 20]
set_option maxHeartbeats 4000000 in
set_option maxRecDepth 8000 in
theorem read_ev [MaxL] (s : Sl UInt8) (hs : s.l.length < 1000000) (hlong : itOk (itemP s.l) = true → (textL (itemP s.l)).length < 1000000 ∧ 1 ≤ (textL (itemP s.l)).length) : call cx 16 [(.vsl s.nil (ofBytes s.l) s.l.length)] [] = some (readD s.l, []) := by
  have hok := itemP_ok s.l
  obtain ⟨hb, hn⟩ := itemP_b s.l hs
  have ht := text_ev (itemP s.l) hok hb hn
  have hpg := bpfx_ev s kGap hs (by decide) (by decide)
  obtain ⟨rg, hgap⟩ := gap_ev s hs
  obtain ⟨qe, hent, re, rfl⟩ := entry_ev s hs
  have hI : itemP s.l = if pre kGap s.l then gapP s.l else entP s.l := rfl
  unfold readD readOk
  unfold textD at ht
  generalize itemP s.l = it at *
  replace hpg : call cx 49 [(.vsl s.nil (ofBytes s.l) s.l.length), .vsl false [.int .u8 95, .int .u8 95, .int .u8 71, .int .u8 65, .int .u8 80, .int .u8 61] 6] [] = some (.bool (pre kGap s.l), []) := hpg
  refine call_run Tryz.func16 rfl ⟨rfl, rfl⟩ ?_
  cases hp : pre kGap s.l with
  | true =>
    rw [hp] at hI hpg
    simp only [if_true] at hI
    rw [← hI] at hgap
    cases ho : itOk it with
    | true =>
      obtain ⟨q1, q2⟩ := hlong ho
      rw [ho] at ht
      simp only [if_true] at ht
      have hps := bpfx_ev s (textL it) hs q1 q2
      have hne : ¬ (textL it).length = 0 := by omega
      generalize textL it = t at *
      cases hpt : pre t s.l with
      | true =>
        rw [hpt] at hps
        simp [Tryz.f16, hpg, hgap, ht, hps, hne]
      | false =>
        rw [hpt] at hps
        simp [Tryz.f16, hpg, hgap, ht, hps, hne]
        rfl
    | false =>
      rw [ho] at ht
      simp [Tryz.f16, hpg, hgap, ht]
      rfl
  | false =>
    rw [hp] at hI hpg
    simp only [Bool.false_eq_true, if_false] at hI
    rw [← hI] at hent
    cases ho : itOk it with
    | true =>
      obtain ⟨q1, q2⟩ := hlong ho
      rw [ho] at ht
      simp only [if_true] at ht
      have hps := bpfx_ev s (textL it) hs q1 q2
      have hne : ¬ (textL it).length = 0 := by omega
      generalize textL it = t at *
      cases hpt : pre t s.l with
      | true =>
        rw [hpt] at hps
        simp [Tryz.f16, hpg, hent, ht, hps, hne]
      | false =>
        rw [hpt] at hps
        simp [Tryz.f16, hpg, hent, ht, hps, hne]
        rfl
    | false =>
      rw [ho] at ht
      simp [Tryz.f16, hpg, hent, ht]
      rfl
end Go.Ev.S
namespace Go.Ev.S
open Go Go.Proofs Go.Ev
def rlnP (t : List UInt8) : Option (List UInt8 × Nat) := if idxB 10 t 0 < 0 then none else some (t.take (idxB 10 t 0).toNat, (idxB 10 t 0).toNat + 1)
theorem idxB_from (c : UInt8) : ∀ (l : List UInt8) (n m : Nat), idxB c l (n + m) = if idxB c l n < 0 then -1 else idxB c l n + m
  | [], n, m => by simp [idxB]
  | b :: l, n, m => by
    simp only [idxB]
    by_cases hb : b = c
    · simp only [hb, if_true]
      rw [if_neg (by omega)]
      omega
    · simp only [hb, if_false]
      have := idxB_from c l (n + 1) m
      rw [show n + m + 1 = n + 1 + m by omega]
      exact this
theorem idxB_rng (c : UInt8) (l : List UInt8) : idxB c l 0 = -1 ∨ ∃ i : Nat, i < l.length ∧ idxB c l 0 = (i : Int) := by
  rcases idx_range c l 0 with h | ⟨m, h1, h2⟩
  · exact .inl h
  · exact .inr ⟨m, h1, by simpa using h2⟩
set_option maxHeartbeats 2000000 in
theorem rline_ev [MaxL] (s : Sl UInt8) (hs : s.l.length < 1000000) (at_ : Nat) (hat : at_ ≤ s.l.length) : call cx 97 [(.vsl s.nil (ofBytes s.l) s.l.length), .int .i64 at_] [] = some (.tup (match rlnP (s.l.drop at_) with
    | none => [.str [], .int .i64 0, .bool false]
    | some (t, n) => [.str t, .int .i64 (at_ + n : Nat), .bool true]), []) := by
  refine call_run Tryz.func97 rfl ⟨rfl, rfl⟩ ?_
  obtain ⟨r, hr⟩ : ∃ r, idxB 10 (s.l.drop at_) at_ = r := ⟨_, rfl⟩
  have h0 := idxB_from 10 (s.l.drop at_) 0 at_
  rw [Nat.zero_add, hr] at h0
  simp [Tryz.f97]
  refine Run.loopThen (fun (i : Nat) e H' => at_ ≤ i ∧ i ≤ s.l.length ∧ idxB 10 (s.l.drop i) i = r ∧ H' = [] ∧ look e 0 = some (.vsl s.nil (ofBytes s.l) s.l.length) ∧ look e 1 = some (.int .i64 at_) ∧ look e 7 = some (.int .i64 i)) (fun i => s.l.length - i) at_ ?_ ?_
  · simp [hat, hr]
  rintro i e H' ⟨h1, h2, hR, rfl, k0, k1, k7⟩
  by_cases hlt : i < s.l.length
  · have hlt' : (i : Int) < (s.l.length : Int) := by omega
    have hw : IntKind.i64.wrap ((i : Int) + 1) = ((i + 1 : Nat) : Int) := by rw [wrap_i64] <;> omega
    have hnn := Sl.nn hlt
    have hA := ofBytes_at hlt
    rw [List.drop_eq_getElem_cons hlt, idxB] at hR
    generalize s.l[i] = c at *
    by_cases hc : c = 10
    · rw [if_pos hc] at hR
      subst hc
      have hneg : ¬ idxB 10 (s.l.drop at_) 0 < 0 := by
        intro h
        rw [if_pos h] at h0
        omega
      rw [if_neg hneg] at h0
      have hi0 : idxB 10 (s.l.drop at_) 0 = ((i - at_ : Nat) : Int) := by omega
      have g1 : (at_ : Int) ≤ (i : Int) := by omega
      have g2 : (i : Int) ≤ (s.l.length : Int) := by omega
      have g3 : ((i : Int) - (at_ : Int)).toNat = i - at_ := by omega
      have t1 : List.take (i - at_) (List.drop at_ (ofBytes s.l)) = ofBytes ((s.l.drop at_).take (i - at_)) := by rw [ofBytes_drop, ofBytes_take]
      have t1l : ((s.l.drop at_).take (i - at_)).length = i - at_ := by simp; omega
      have t1b : bytesD (ofBytes ((s.l.drop at_).take (i - at_))) = some ((s.l.drop at_).take (i - at_)) := bytesD_of _
      have t1t : List.take (i - at_) (ofBytes ((s.l.drop at_).take (i - at_))) = ofBytes ((s.l.drop at_).take (i - at_)) := List.take_of_length_le (by simp; omega)
      have hP : rlnP (s.l.drop at_) = some ((s.l.drop at_).take (i - at_), i - at_ + 1) := by
        unfold rlnP
        rw [if_neg hneg, hi0]
        rfl
      rw [hP]
      have e1 : at_ + (i - at_ + 1) = i + 1 := by omega
      simp only
      generalize List.take (i - at_) (List.drop at_ s.l) = t at *
      simp [k0, k1, k7, hlt', hnn, hA, hw, g1, g2, t1, t1l, t1b]
      omega
    · rw [if_neg hc] at hR
      have hc' : ¬ (c.toNat : Int) = 10 := by
        intro e
        exact hc (UInt8.toNat_inj.1 (by show c.toNat = 10; omega))
      have hc2 : ¬ c.toNat = 10 := by omega
      simp [k0, k1, k7, hlt', hnn, hA, hw, hc']
      exact ⟨i + 1, by omega, by omega, by omega, hR, by omega⟩
  · have hlt' : ¬ (i : Int) < (s.l.length : Int) := by omega
    rw [List.drop_eq_nil_of_le (by omega), idxB] at hR
    have hneg : idxB 10 (s.l.drop at_) 0 < 0 := by
      rcases Int.lt_or_le (idxB 10 (s.l.drop at_) 0) 0 with h | h
      · exact h
      · rw [if_neg (by omega)] at h0
        omega
    have hP : rlnP (s.l.drop at_) = none := by unfold rlnP; rw [if_pos hneg]
    rw [hP]
    simp [k0, k1, k7, hlt']
def linesP (b : List UInt8) : Nat → List (List UInt8) → Option (List (List UInt8) × Nat)
  | a, [] => some ([], a)
  | a, f :: fs => match rlnP (b.drop a) with
    | none => none
    | some (t, n) => if pre f t then match linesP b (a + n) fs with
        | none => none
        | some (l, z) => some (t.drop f.length :: l, z)
      else none
def strs (l : List (List UInt8)) : List D := l.map D.str
theorem strs_free (l : List (List UInt8)) : idFree.idFreeL (strs l) = true := by
  induction l with
  | nil => rfl
  | cons a l ih => simp [strs, idFree] at *; exact ih
theorem strs_len (l : List (List UInt8)) : (strs l).length = l.length := by simp [strs]
theorem rlnP_len {t s : List UInt8} {n : Nat} (h : rlnP t = some (s, n)) : n ≤ t.length ∧ s.length + 1 = n := by
  unfold rlnP at h
  rcases idxB_rng 10 t with hr | ⟨i, hi, hr⟩
  · rw [hr, if_pos (by decide)] at h; cases h
  · rw [hr, if_neg (by omega)] at h
    injection h with h
    injection h with h1 h2
    subst h1; subst h2
    have e : ((i : Int)).toNat = i := by omega
    rw [e]
    refine ⟨by omega, ?_⟩
    simp
    omega
theorem linesP_len {b : List UInt8} : ∀ {fs : List (List UInt8)} {a z : Nat} {l : List (List UInt8)}, a ≤ b.length → linesP b a fs = some (l, z) → z ≤ b.length ∧ l.length = fs.length ∧ ∀ s ∈ l, s.length ≤ b.length
  | [], a, z, l, ha, h => by
    simp only [linesP, Option.some.injEq, Prod.mk.injEq] at h
    obtain ⟨rfl, rfl⟩ := h
    exact ⟨ha, rfl, fun s hs => by cases hs⟩
  | f :: fs, a, z, l, ha, h => by
    rw [linesP] at h
    cases hr : rlnP (b.drop a) with
    | none => rw [hr] at h; cases h
    | some q =>
      obtain ⟨t, n⟩ := q
      rw [hr] at h
      simp only at h
      obtain ⟨k1, k2⟩ := rlnP_len hr
      simp only [List.length_drop] at k1
      split at h
      · cases hl : linesP b (a + n) fs with
        | none => rw [hl] at h; cases h
        | some q =>
          obtain ⟨l', z'⟩ := q
          rw [hl] at h
          simp only [Option.some.injEq, Prod.mk.injEq] at h
          obtain ⟨rfl, rfl⟩ := h
          obtain ⟨q1, q2, q3⟩ := linesP_len (by omega) hl
          refine ⟨q1, by simp [q2], fun s hs => ?_⟩
          rcases List.mem_cons.1 hs with rfl | hs
          · rw [List.length_drop]; omega
          · exact q3 s hs
      · cases h
end Go.Ev.S
namespace Go.Ev.S
open Go Go.Proofs Go.Ev
theorem strs_at {l : List (List UInt8)} {k : Nat} (h : k < l.length) : List.drop k (strs l) = .str l[k] :: strs (l.drop (k + 1)) := by
  unfold strs
  rw [← List.map_drop, List.drop_eq_getElem_cons h]
  rfl
theorem strs_snoc (l : List (List UInt8)) (t : List UInt8) : strs l ++ [.str t] = strs (l ++ [t]) := by simp [strs]
set_option maxHeartbeats 4000000 in
theorem rlines_ev [MaxL] (s : Sl UInt8) (hs : s.l.length < 1000000) (fs : List (List UInt8)) (hf : ∀ f ∈ fs, f.length < 1000) (h1 : 1 ≤ fs.length) (h10 : fs.length ≤ 10) : call cx 94 [(.vsl s.nil (ofBytes s.l) s.l.length), .vsl false (strs fs) fs.length] [] = some (.tup (match linesP s.l 0 fs with
    | none => [.vsl true [] 0, .int .i64 0, .bool false]
    | some (l, z) => [.vsl false (strs l) l.length, .int .i64 (z : Nat), .bool true]), []) := by
  refine call_run Tryz.func94 rfl ⟨rfl, rfl⟩ ?_
  obtain ⟨R, hR⟩ : ∃ R, linesP s.l 0 fs = R := ⟨_, rfl⟩
  rw [hR]
  simp [Tryz.f94]
  refine Run.loopThen (fun (q : Nat × Nat × List (List UInt8)) e H' => q.1 ≤ fs.length ∧ q.2.1 ≤ s.l.length ∧ q.2.2.length = q.1 ∧ (match linesP s.l q.2.1 (fs.drop q.1) with | none => none | some (l, z) => some (q.2.2 ++ l, z)) = R ∧
      ((q.2.2 = [] ∧ H' = [] ∧ look e 7 = some (.vsl true [] 0)) ∨ (∃ n, n = q.2.2.length ∧ q.2.2 ≠ [] ∧ H' = [some (strs q.2.2)] ∧ look e 7 = some (.osl 0 n 0 n 1))) ∧
      look e 0 = some (.vsl s.nil (ofBytes s.l) s.l.length) ∧ look e 1 = some (.vsl false (strs fs) fs.length) ∧ look e 8 = some (.int .i64 (q.2.1 : Nat)) ∧ look e 9 = some (.int .i64 (q.1 : Nat))) (fun q => fs.length - q.1) (0, 0, []) ?_ ?_
  · refine ⟨by omega, by simp, rfl, ?_, .inl ⟨rfl, rfl, by simp⟩, by simp, by simp, by simp, by simp⟩
    simp only [List.drop_zero, List.nil_append]
    rw [hR]
    cases R <;> rfl
  rintro ⟨k, a, o⟩ e H' ⟨hk, ha, ho, hG, hH, k0, k1, k8, k9⟩
  simp only at hk ha ho hG hH k8 k9
  by_cases hlt : k < fs.length
  · have hlt' : (k : Int) < (fs.length : Int) := by omega
    have hw : IntKind.i64.wrap ((k : Int) + 1) = ((k + 1 : Nat) : Int) := by rw [wrap_i64] <;> omega
    have hA := strs_at hlt
    have hfk := hf _ (List.getElem_mem hlt)
    rw [List.drop_eq_getElem_cons hlt, linesP] at hG
    have hl := rline_ev s hs a ha
    cases hr : rlnP (s.l.drop a) with
    | none =>
      rw [hr] at hG hl
      simp only at hG hl
      subst hG
      rcases hH with ⟨rfl, rfl, k7⟩ | ⟨n, hn, hne, rfl, k7⟩ <;> simp [k0, k1, k7, k8, k9, hlt', hl]
    | some q =>
      obtain ⟨t, n1⟩ := q
      rw [hr] at hG hl
      simp only at hG hl
      obtain ⟨r1, r2⟩ := rlnP_len hr
      simp only [List.length_drop] at r1
      have hbe := behind_ev t fs[k] (by omega) (by omega)
      generalize fs[k] = f at *
      cases hp : pre f t with
      | false =>
        rw [hp] at hG hbe
        simp only [Bool.false_eq_true, if_false] at hG hbe
        subst hG
        rcases hH with ⟨rfl, rfl, k7⟩ | ⟨n, hn, hne, rfl, k7⟩ <;> simp [k0, k1, k7, k8, k9, hlt', hl, hA, hbe]
      | true =>
        rw [hp] at hG hbe
        simp only [if_true] at hG hbe
        have han : ((a + n1 : Nat) : Int) = (a : Int) + (n1 : Int) := by omega
        rcases hH with ⟨rfl, rfl, k7⟩ | ⟨n, hn, hne, rfl, k7⟩
        · have hk0 : k = 0 := by simpa using ho.symm
          simp [k0, k1, k7, k8, k9, hlt', hl, hA, hbe, maxBytes]
          refine ⟨k + 1, by omega, by omega, a + n1, by omega, [t.drop f.length], by simp [hk0], ?_, ⟨by simp, rfl, rfl⟩, by omega, hw⟩
          rw [← hG]
          cases linesP s.l (a + n1) (fs.drop (k + 1)) <;> rfl
        · have hsl := strs_len o
          have hsf := strs_free o
          have hsa : (∀ x, x ∈ strs o → idFree x = true) = True := eq_true (by
            rw [idFreeL_all] at hsf
            exact List.all_eq_true.1 hsf)
          have hm1 : (n + 1) * 16 ≤ 140737488355328 := by omega
          have hm2 : n ≤ 140737488355327 := by omega
          simp [k0, k1, k7, k8, k9, hlt', hl, hA, hbe, hsl, hsa, ← hn, hm1, hm2, maxBytes]
          refine ⟨k + 1, by omega, by omega, a + n1, by omega, o ++ [t.drop f.length], by simp [ho], ?_, ⟨by simp, by rw [strs_snoc], by simp; omega⟩, by omega, hw⟩
          rw [← hG]
          cases linesP s.l (a + n1) (fs.drop (k + 1)) <;> simp
  · have hlt' : ¬ (k : Int) < (fs.length : Int) := by omega
    rw [List.drop_eq_nil_of_le (by omega), linesP] at hG
    simp only [List.append_nil] at hG
    subst hG
    rcases hH with ⟨rfl, rfl, k7⟩ | ⟨n, hn, hne, rfl, k7⟩
    · exfalso
      simp only [List.length_nil] at ho
      omega
    · have hsl := strs_len o
      have hsf := strs_free o
      have htk : List.take n (strs o) = strs o := List.take_of_length_le (by rw [hsl, hn]; exact Nat.le_refl _)
      simp [k0, k1, k7, k8, k9, hlt', hsl, hsf, htk, ← hn]
end Go.Ev.S
namespace Go.Ev.S
open Go Go.Proofs Go.Ev
theorem mul256 (x : Nat) (y : Nat) (hy : y < 256) (hx : x < 256 ^ 7) : IntKind.u64.wrap (IntKind.u64.wrap ((x : Int) * 256) + (y : Int)) = ((x * 256 + y : Nat) : Int) := by
  have e1 : IntKind.u64.wrap ((x : Int) * 256) = ((x * 256 : Nat) : Int) := by
    rw [wrap_u64] <;> omega
  rw [e1, wrap_u64] <;> omega
set_option maxHeartbeats 1000000 in
theorem rget8_ev [MaxL] (s : Sl UInt8) (a : Nat) (h : a + 8 ≤ s.l.length) (_ : s.l.length < 4611686018427387904) :
    call cx 75 [(.vsl s.nil (ofBytes s.l) s.l.length), .int .i64 a, .int .i64 8] [] = some (.tup [.int .u64 (leN ((s.l.drop a).take 8)), .bool true], []) := by
  have hnn : s.nil = false := Sl.nn (i := a) (by omega)
  have g0 : ¬ (a : Int) < 0 := by omega
  have g1 : ¬ (s.l.length : Int) < (a : Int) := by omega
  have hw : IntKind.i64.wrap ((s.l.length : Int) - (a : Int)) = (s.l.length : Int) - (a : Int) := by rw [wrap_i64]; omega
  have g2 : ¬ (s.l.length : Int) - (a : Int) < 8 := by omega
  refine call_run Tryz.func75 rfl ⟨rfl, rfl⟩ ?_
  simp [Tryz.f75, hnn, g0, g1, hw, g2]
  refine Run.loopThen (fun (i : Nat) e H => i ≤ 8 ∧ H = [] ∧ look e 0 = some (.vsl s.nil (ofBytes s.l) s.l.length) ∧ look e 1 = some (.int .i64 a) ∧ look e 8 = some (.int .u64 (leN ((s.l.drop (a + i)).take (8 - i)) : Nat)) ∧ look e 9 = some (.int .i64 ((i : Int) - 1))) (fun i => i) 8 (by simp [leN, hnn]) ?_
  rintro i e H ⟨hi, rfl, h0, h1, h8, h9⟩
  cases i with
  | zero => simp [h0, h1, h8, h9]
  | succ j =>
    have hj : (0 : Int) ≤ (j : Int) := by omega
    have hwj : IntKind.i64.wrap ((a : Int) + (j : Int)) = ((a + j : Nat) : Int) := by rw [wrap_i64] <;> omega
    have hwk : IntKind.i64.wrap ((j : Int) - 1) = (j : Int) - 1 := by rw [wrap_i64]; omega
    have hlt : a + j < s.l.length := by omega
    have e1 : ((j + 1 : Nat) : Int) - 1 = (j : Int) := by omega
    rw [e1] at h9
    have hd : (s.l.drop (a + j)).take (8 - j) = s.l[a + j] :: (s.l.drop (a + (j + 1))).take (8 - (j + 1)) := by
      rw [List.drop_eq_getElem_cons hlt, show 8 - j = (8 - (j + 1)) + 1 by omega, List.take_succ_cons, Nat.add_assoc]
    have hn8 : leN ((s.l.drop (a + (j + 1))).take (8 - (j + 1))) < 256 ^ 7 := by
      refine Nat.lt_of_lt_of_le (leN_lt _) (Nat.pow_le_pow_right (by decide) ?_)
      rw [List.length_take]
      omega
    have hst := mul256 (leN ((s.l.drop (a + (j + 1))).take (8 - (j + 1)))) s.l[a + j].toNat s.l[a + j].toNat_lt hn8
    have hwu : IntKind.u64.wrap (s.l[a + j].toNat : Int) = (s.l[a + j].toNat : Int) := by rw [wrap_u64]; have := s.l[a + j].toNat_lt; omega
    have g1 : (0 : Int) ≤ (a : Int) + (j : Int) := by omega
    have g2 : (a : Int) + (j : Int) < (s.l.length : Int) := by omega
    have g3 : ((a : Int) + (j : Int)).toNat = a + j := by omega
    simp [h0, h1, h8, h9, hj, hwj, hwk, hwu, hnn, g1, g2, g3, ofBytes_at hlt, -Nat.reduceSubDiff]
    rw [hst]
    clear hn8 hst hwu
    exact ⟨j, by omega, by omega, by rw [hd, leN, Nat.mul_comm, Nat.add_comm], rfl⟩
theorem rget8_none [MaxL] (s : Sl UInt8) (a : Nat) (ha : a ≤ s.l.length) (h : s.l.length < a + 8) (_ : s.l.length < 4611686018427387904) :
    call cx 75 [(.vsl s.nil (ofBytes s.l) s.l.length), .int .i64 a, .int .i64 8] [] = some (.tup [.int .u64 0, .bool false], []) := by
  have g0 : ¬ (a : Int) < 0 := by omega
  have g1 : ¬ (s.l.length : Int) < (a : Int) := by omega
  have hw : IntKind.i64.wrap ((s.l.length : Int) - (a : Int)) = (s.l.length : Int) - (a : Int) := by rw [wrap_i64]; omega
  have g2 : (s.l.length : Int) - (a : Int) < 8 := by omega
  refine call_run Tryz.func75 rfl ⟨rfl, rfl⟩ ?_
  simp [Tryz.f75, g0, g1, hw, g2]
def splitP (b : List UInt8) : Pr × Int :=
  if idxB 61 b 0 < 0 then (⟨[], []⟩, 20)
  else if nameOk (b.take (idxB 61 b 0).toNat) = false then (⟨[], []⟩, 20)
  else if 256 < b.length - (idxB 61 b 0).toNat - 1 then (⟨[], []⟩, 21)
  else (⟨b.take (idxB 61 b 0).toNat, b.drop ((idxB 61 b 0).toNat + 1)⟩, 0)
set_option maxHeartbeats 4000000 in
theorem rsplit_ev [MaxL] (s : List UInt8) (hs : s.length < 1000000) : call cx 98 [.vsl false (ofBytes s) s.length] [] = some (.tup [.agg [.str (splitP s).1.name, .str (splitP s).1.value], .int .i64 (splitP s).2], []) := by
  refine call_run Tryz.func98 rfl ⟨rfl, rfl⟩ ?_
  obtain ⟨r, hr⟩ : ∃ r, idxB 61 s 0 = r := ⟨_, rfl⟩
  simp [Tryz.f98]
  refine Run.loopThen (fun (i : Nat) e H' => i ≤ s.length ∧ idxB 61 (s.drop i) i = r ∧ H' = [some [.str [], .str []]] ∧ look e 0 = some (.vsl false (ofBytes s) s.length) ∧ look e 2 = some (.optr 0 2 0) ∧ look e 4 = some (.int .i64 i)) (fun i => s.length - i) 0 ?_ ?_
  · simpa using hr
  rintro i e H' ⟨h2, hR, rfl, k0, k2, k4⟩
  by_cases hlt : i < s.length
  · have hlt' : (i : Int) < (s.length : Int) := by omega
    have hw : IntKind.i64.wrap ((i : Int) + 1) = ((i + 1 : Nat) : Int) := by rw [wrap_i64] <;> omega
    have hA := ofBytes_at hlt
    rw [List.drop_eq_getElem_cons hlt, idxB] at hR
    generalize s[i] = c at *
    by_cases hc : c = 61
    · rw [if_pos hc] at hR
      subst hc
      have g2 : (i : Int) ≤ (s.length : Int) := by omega
      have t1 : List.take i (ofBytes s) = ofBytes (s.take i) := ofBytes_take _ _
      have t1l : (s.take i).length = i := by simp; omega
      have t1b : bytesD (ofBytes (s.take i)) = some (s.take i) := bytesD_of _
      have t1t : List.take i (ofBytes (s.take i)) = ofBytes (s.take i) := List.take_of_length_le (by simp; omega)
      have hnm := rname_ev (s.take i) (by omega)
      have hP : splitP s = if nameOk (s.take i) = false then (⟨[], []⟩, 20) else if 256 < s.length - i - 1 then (⟨[], []⟩, 21) else (⟨s.take i, s.drop (i + 1)⟩, 0) := by
        unfold splitP
        rw [hr, ← hR, if_neg (by omega)]
        rfl
      rw [hP]
      have w1 : IntKind.i64.wrap ((s.length : Int) - (i : Int)) = (s.length : Int) - (i : Int) := by rw [wrap_i64]; omega
      have w2 : IntKind.i64.wrap ((s.length : Int) - (i : Int) - 1) = (s.length : Int) - (i : Int) - 1 := by rw [wrap_i64]; omega
      cases hn : nameOk (s.take i) with
      | false =>
        rw [hn] at hnm
        simp [k0, k2, k4, hlt', hA, g2, t1, t1l, t1b, hnm]
      | true =>
        rw [hn] at hnm
        by_cases hb : 256 < s.length - i - 1
        · have hb' : (256 : Int) < (s.length : Int) - (i : Int) - 1 := by omega
          simp [k0, k2, k4, hlt', hA, g2, t1, t1l, t1b, hnm, w1, w2, hb, hb']
        · have hb' : ¬ (256 : Int) < (s.length : Int) - (i : Int) - 1 := by omega
          obtain ⟨j, hj⟩ : ∃ j, j = i + 1 := ⟨_, rfl⟩
          rw [← hj] at hw
          have g3 : (j : Int) ≤ (s.length : Int) := by omega
          have g3n : j ≤ s.length := by omega
          have g4 : ((s.length : Int) - (j : Int)).toNat = s.length - j := by omega
          have t2 : List.take (s.length - j) (List.drop j (ofBytes s)) = ofBytes (s.drop j) := by
            rw [ofBytes_drop]
            exact List.take_of_length_le (by simp)
          have t2l : (s.drop j).length = s.length - j := by simp
          have t2b : bytesD (ofBytes (s.drop j)) = some (s.drop j) := bytesD_of _
          have t2t : List.take (s.length - j) (ofBytes (s.drop j)) = ofBytes (s.drop j) := List.take_of_length_le (by simp)
          simp only [hb, if_false, Bool.true_eq_false, ← hj]
          simp [k0, k2, k4, hlt', hA, g2, t1, t1l, t1b, hnm, w1, w2, hb', hw, g3, t2, t2l, t2b]
    · rw [if_neg hc] at hR
      have hc' : ¬ (c.toNat : Int) = 61 := by
        intro e
        exact hc (UInt8.toNat_inj.1 (by show c.toNat = 61; omega))
      have hc2 : ¬ c.toNat = 61 := by omega
      simp [k0, k2, k4, hlt', hA, hw, hc']
      exact ⟨i + 1, by omega, by omega, hR, by omega⟩
  · have hlt' : ¬ (i : Int) < (s.length : Int) := by omega
    rw [List.drop_eq_nil_of_le (by omega), idxB] at hR
    have hP : splitP s = (⟨[], []⟩, 20) := by
      unfold splitP
      rw [hr, ← hR, if_pos (by decide)]
    rw [hP]
    simp [k0, k2, k4, hlt']
end Go.Ev.S
namespace Go.Ev.S
open Go Go.Proofs Go.Ev
def rgapP (b : List UInt8) : It × Nat × Bool := match linesP b 0 [kGap, kId, []] with
  | some ([x, y, _], z) => if idxB 45 x 0 < 0 then (It.zero, 0, false)
    else (⟨idOf y, true, ((numP (x.take (idxB 45 x 0).toNat)).getD 0 : Nat), ((numP (x.drop ((idxB 45 x 0).toNat + 1))).getD 0 : Nat), Rec.zero⟩, z, (idP y).isSome && (numP (x.take (idxB 45 x 0).toNat)).isSome && (numP (x.drop ((idxB 45 x 0).toNat + 1))).isSome)
  | _ => (It.zero, 0, false)
theorem rnum_ev' [MaxL] (s : List UInt8) (hs : s.length < 1000000) : call cx 96 [.str s] [] = some (.tup [.int .u64 ((numP s).getD 0 : Nat), .bool (numP s).isSome], []) := by
  have h := rnum_ev s hs
  rw [h]
  cases numP s <;> rfl
def retR (q : It × Nat × Bool) : D := .tup [.agg (Enc.cells q.1), .int .i64 (q.2.1 : Nat), .bool q.2.2]
set_option maxHeartbeats 4000000 in
set_option maxRecDepth 8000 in
theorem rgap_ev [MaxL] (s : Sl UInt8) (hs : s.l.length < 1000000) : call cx 53 [(.vsl s.nil (ofBytes s.l) s.l.length)] [] = some (retR (rgapP s.l), []) := by
  have hl := rlines_ev s hs [kGap, kId, []] (by intro f hf; simp only [List.mem_cons, List.not_mem_nil, or_false] at hf; rcases hf with rfl | rfl | rfl <;> decide) (by decide) (by decide)
  replace hl : call cx 94 [(.vsl s.nil (ofBytes s.l) s.l.length), .vsl false [.str [95, 95, 71, 65, 80, 61], .str [95, 95, 83, 69, 81, 78, 85, 77, 95, 73, 68, 61], .str []] 3] [] = _ := hl
  unfold rgapP retR
  refine call_run Tryz.func53 rfl ⟨rfl, rfl⟩ ?_
  cases hL : linesP s.l 0 [kGap, kId, []] with
  | none =>
    rw [hL] at hl
    simp only at hl
    simp [Tryz.f53, hl]
    rfl
  | some q =>
    obtain ⟨l, z⟩ := q
    rw [hL] at hl
    obtain ⟨z1, z2, z3⟩ := linesP_len (Nat.zero_le _) hL
    match l, z2, z3, hl with
    | [x, y, w], _, z3, hl =>
      have hx := z3 x (by simp)
      have hy := z3 y (by simp)
      simp only at hl
      replace hl : call cx 94 [(.vsl s.nil (ofBytes s.l) s.l.length), .vsl false [.str [95, 95, 71, 65, 80, 61], .str [95, 95, 83, 69, 81, 78, 85, 77, 95, 73, 68, 61], .str []] 3] [] = some (.tup [.vsl false [.str x, .str y, .str w] 3, .int .i64 z, .bool true], []) := hl
      have hid := rid_ev y (by omega)
      replace hid : call cx 95 [.str y] [] = some (.tup [.agg (ofBytes (idOf y).l), .bool (idP y).isSome], []) := hid
      have hq := (idOf y).h
      simp only
      generalize idOf y = q at *
      generalize (idP y).isSome = ob at *
      have hq16 : List.take 16 (ofBytes q.l) = ofBytes q.l := List.take_of_length_le (by simp)
      have hq39 : List.take 39 (ofBytes q.l) = ofBytes q.l := List.take_of_length_le (by simp)
      have z16 : ofBytes ID.zero.l = [.int .u8 0, .int .u8 0, .int .u8 0, .int .u8 0, .int .u8 0, .int .u8 0, .int .u8 0, .int .u8 0, .int .u8 0, .int .u8 0, .int .u8 0, .int .u8 0, .int .u8 0, .int .u8 0, .int .u8 0, .int .u8 0] := rfl
      obtain ⟨r, hr⟩ : ∃ r, idxB 45 x 0 = r := ⟨_, rfl⟩
      rw [hr]
      simp [Tryz.f53, hl, hid, hq, hq16]
      refine Run.loopThen (fun (i : Nat) e H' => i ≤ x.length ∧ idxB 45 (x.drop i) i = r ∧ H' = [some (Enc.cells It.zero), some (ofBytes q.l ++ .bool true :: (Enc.cells It.zero).drop 17), some (ofBytes q.l)] ∧
          look e 2 = some (.optr 0 39 0) ∧ look e 5 = some (.vsl false [.str x, .str y, .str w] 3) ∧ look e 6 = some (.int .i64 z) ∧ look e 8 = some (.optr 1 39 0) ∧ look e 10 = some (.bool ob) ∧ look e 11 = some (.int .i64 i)) (fun i => x.length - i) 0 ?_ ?_
      · refine ⟨by omega, by simpa using hr, rfl, by simp, by simp, by simp, by simp, by simp, by simp⟩
      rintro i e H' ⟨h2, hR, rfl, k2, k5, k6, k8, k10, k11⟩
      by_cases hlt : i < x.length
      · have hlt' : (i : Int) < (x.length : Int) := by omega
        have hw : IntKind.i64.wrap ((i : Int) + 1) = ((i + 1 : Nat) : Int) := by rw [wrap_i64] <;> omega
        have hxi : x[i]? = some x[i] := List.getElem?_eq_getElem hlt
        rw [List.drop_eq_getElem_cons hlt, idxB] at hR
        generalize x[i] = c at *
        by_cases hc : c = 45
        · rw [if_pos hc] at hR
          subst hc
          have hneg : ¬ r < 0 := by omega
          have hrn : r.toNat = i := by omega
          have g2 : (i : Int) ≤ (x.length : Int) := by omega
          have n1 := rnum_ev' (x.take i) (by simp; omega)
          have n2 := rnum_ev' (x.drop (i + 1)) (by simp; omega)
          obtain ⟨j, hj⟩ : ∃ j, j = i + 1 := ⟨_, rfl⟩
          rw [← hj] at hw n2
          have g3 : (j : Int) ≤ (x.length : Int) := by omega
          have g3n : j ≤ x.length := by omega
          have g4 : ((x.length : Int) - (j : Int)).toNat = x.length - j := by omega
          have t2 : List.take (x.length - j) (List.drop j x) = List.drop j x := List.take_of_length_le (by simp)
          simp only [hneg, if_false, hrn, ← hj]
          generalize (numP (List.take i x)).getD 0 = v1 at *
          generalize (numP (List.take i x)).isSome = b1 at *
          generalize (numP (List.drop j x)).getD 0 = v2 at *
          generalize (numP (List.drop j x)).isSome = b2 at *
          cases ob <;> cases b1 <;> cases b2 <;> simp [k2, k5, k6, k8, k10, k11, hlt', hxi, hw, g2, g3, t2, n1, n2, It.cells, It.zero, Rec.zero, z16, hq, hq39, List.take_append, List.drop_append, drop_bytes]
        · rw [if_neg hc] at hR
          have hc' : ¬ (c.toNat : Int) = 45 := by
            intro e
            exact hc (UInt8.toNat_inj.1 (by show c.toNat = 45; omega))
          have hc2 : ¬ c.toNat = 45 := by omega
          simp [k2, k5, k6, k8, k10, k11, hlt', hxi, hw, hc']
          exact ⟨i + 1, by omega, by omega, hR, by omega⟩
      · have hlt' : ¬ (i : Int) < (x.length : Int) := by omega
        rw [List.drop_eq_nil_of_le (by omega), idxB] at hR
        have hneg : r < 0 := by omega
        simp only [hneg, if_true]
        simp [k2, k5, k6, k8, k10, k11, hlt']
        rfl
end Go.Ev.S
namespace Go.Ev.S
open Go Go.Proofs Go.Ev
def rfldP (b : List UInt8) : Nat → Nat → Option (List Pr × Nat)
  | 0, _ => none
  | n + 1, a => match rlnP (b.drop a) with
    | none => none
    | some (t, k) => if t = [] then some ([], a + k)
      else if (splitP t).2 = 0 then match rfldP b n (a + k) with
        | none => none
        | some (l, z) => some ((splitP t).1 :: l, z)
      else if b.length < a + k + 8 then none
      else if 256 < leN ((b.drop (a + k)).take 8) ∨ b.length - (a + k) - 8 ≤ leN ((b.drop (a + k)).take 8) ∨ b.getD (a + k + 8 + leN ((b.drop (a + k)).take 8)) 0 ≠ 10 then none
      else match rfldP b n (a + k + 8 + leN ((b.drop (a + k)).take 8) + 1) with
        | none => none
        | some (l, z) => some (⟨t, (b.drop (a + k + 8)).take (leN ((b.drop (a + k)).take 8))⟩ :: l, z)
def rsix : List (List UInt8) := [kPlace, kReal, kMono, kSeq, kId, kBoot]
def rentP (b : List UInt8) : It × Nat × Bool := match linesP b 0 rsix with
  | some ([_, x1, x2, x3, x4, x5], z) =>
    if (numP x1).isSome && (numP x2).isSome && (numP x3).isSome && (idP x4).isSome && (idP x5).isSome then
      match rfldP b 17 z with
      | none => (It.zero, 0, false)
      | some (l, z') => (⟨idOf x4, false, 0, 0, ⟨((numP x3).getD 0 : Nat), ((numP x1).getD 0 : Nat), ((numP x2).getD 0 : Nat), idOf x5, slP l⟩⟩, z', true)
    else (It.zero, 0, false)
  | _ => (It.zero, 0, false)
theorem rid_ev' [MaxL] (s : List UInt8) (hs : s.length < 1000000) : call cx 95 [.str s] [] = some (.tup [.agg (ofBytes (idOf s).l), .bool (idP s).isSome], []) := rid_ev s hs
theorem stay_entN {X : List D} (hX : idFree.idFreeL X = true) {fs : List Pr} {i n k : Nat} (m : Nat) (hn : fs.length * 2 = n) (hk : fs.length = k) {H : Heap} (hg : (H[i]?).getD none = some (encs fs)) : stay H (m + 2) (.agg (X ++ [.osl i n 0 k 2])) = some (.agg (X ++ [.vsl false (encs fs) k]), [i]) := by
  have h8 : stay H (m + 1) (.osl i n 0 k 2) = some (.vsl false (encs fs) k, [i]) := by
    rw [stay, if_neg (by simp [idFree])]
    have hl : (encs fs).length = n := by simp [hn]
    have h0 : 0 + k * 2 ≤ n := by omega
    simp only [hget, hg]
    rw [if_pos ⟨hl, h0⟩, if_pos (by simp), List.drop_zero, List.take_of_length_le (by simp; omega)]
  rw [stay, if_neg (by simp [idFree])]
  simp only [stayL_append, stayL_free hX, stayL, h8]
  rfl
theorem stay_tup {X : List D} (hX : idFree.idFreeL X = true) {fs : List Pr} {i n k : Nat} (hn : fs.length * 2 = n) (hk : fs.length = k) {H : Heap} (hg : (H[i]?).getD none = some (encs fs)) (z : Int) (b : Bool) : stay H 9 (.tup [.agg (X ++ [.osl i n 0 k 2]), .int .i64 z, .bool b]) = some (.tup [.agg (X ++ [.vsl false (encs fs) k]), .int .i64 z, .bool b], [i]) := by
  have h1 := stay_entN hX 6 hn hk hg
  rw [stay, if_neg (by simp [idFree])]
  have h2 : stay H 8 (.int .i64 z) = some (.int .i64 z, []) := stay_free rfl
  have h3 : stay H 8 (.bool b) = some (.bool b, []) := stay_free rfl
  simp only [stayL, h1, h2, h3]
  rfl
def RntH (X : List D) (fs : List Pr) (H : Heap) : Prop :=
  (fs = [] ∧ H = [some (Enc.cells It.zero), some (X ++ [.vsl true [] 0]), some [.bool true, .bool true, .bool true, .bool true, .bool true]]) ∨
  (fs ≠ [] ∧ ∃ (n k : Nat) (c3 : List UInt8) (t u : Pr), n = fs.length * 2 ∧ k = fs.length ∧
    (H = [some (Enc.cells It.zero), some (X ++ [.osl 6 n 0 k 2]), some [.bool true, .bool true, .bool true, .bool true, .bool true], some (ofBytes c3), some [.str t.name, .str t.value], some [.str u.name, .str u.value], some (encs fs)] ∨
    (∃ (c : List UInt8) (v w : Option (List D)), H = [some (Enc.cells It.zero), some (X ++ [.osl 6 n 0 k 2]), some [.bool true, .bool true, .bool true, .bool true, .bool true], some (ofBytes c3), some [.str t.name, .str t.value], some [.str u.name, .str u.value], some (encs fs), some (ofBytes c), v, w]) ∨
    (∃ (c : List UInt8) (v w y : Option (List D)), H = [some (Enc.cells It.zero), some (X ++ [.osl 6 n 0 k 2]), some [.bool true, .bool true, .bool true, .bool true, .bool true], some (ofBytes c3), some [.str t.name, .str t.value], some [.str u.name, .str u.value], some (encs fs), some (ofBytes c), v, w, y])))
theorem rfldP_le (b : List UInt8) : ∀ (n a : Nat) (l : List Pr) (z : Nat), a ≤ b.length → rfldP b n a = some (l, z) → z ≤ b.length ∧ l.length ≤ n ∧ ∀ p ∈ l, p.name.length ≤ b.length ∧ p.value.length ≤ b.length
  | 0, a, l, z, _, h => by cases h
  | n + 1, a, l, z, ha, h => by
    rw [rfldP] at h
    cases hr : rlnP (b.drop a) with
    | none => rw [hr] at h; cases h
    | some q =>
      obtain ⟨t, k⟩ := q
      rw [hr] at h
      obtain ⟨k1, k2⟩ := rlnP_len hr
      simp only [List.length_drop] at k1
      simp only at h
      split at h
      · injection h with h
        injection h with h1 h2
        subst h1; subst h2
        exact ⟨by omega, by simp, fun p hp => by cases hp⟩
      · split at h
        · cases hl : rfldP b n (a + k) with
          | none => rw [hl] at h; cases h
          | some q =>
            obtain ⟨l', z'⟩ := q
            rw [hl] at h
            injection h with h
            injection h with h1 h2
            subst h1; subst h2
            obtain ⟨q1, q2, q3⟩ := rfldP_le b n (a + k) l' z' (by omega) hl
            refine ⟨q1, by simpa using q2, fun p hp => ?_⟩
            rcases List.mem_cons.1 hp with rfl | hp
            · unfold splitP
              split
              · exact ⟨Nat.zero_le _, Nat.zero_le _⟩
              · split
                · exact ⟨Nat.zero_le _, Nat.zero_le _⟩
                · split
                  · exact ⟨Nat.zero_le _, Nat.zero_le _⟩
                  · constructor
                    · simp; omega
                    · simp; omega
            · exact q3 p hp
        · split at h
          · cases h
          · split at h
            · cases h
            · rename_i hno
              simp only [not_or, Nat.not_lt, Nat.not_le] at hno
              cases hl : rfldP b n (a + k + 8 + leN ((b.drop (a + k)).take 8) + 1) with
              | none => rw [hl] at h; cases h
              | some q =>
                obtain ⟨l', z'⟩ := q
                rw [hl] at h
                injection h with h
                injection h with h1 h2
                subst h1; subst h2
                obtain ⟨q1, q2, q3⟩ := rfldP_le b n _ l' z' (by omega) hl
                refine ⟨q1, by simpa using q2, fun p hp => ?_⟩
                rcases List.mem_cons.1 hp with rfl | hp
                · constructor
                  · show t.length ≤ _
                    omega
                  · simp; omega
                · exact q3 p hp
set_option maxHeartbeats 4000000 in
set_option maxRecDepth 8000 in
theorem rentry_ev [MaxL] (s : Sl UInt8) (hs : s.l.length < 1000000) : call cx 54 [(.vsl s.nil (ofBytes s.l) s.l.length)] [] = some (retR (rentP s.l), []) := by
  have hl := rlines_ev s hs rsix (by intro f hf; simp only [rsix, List.mem_cons, List.not_mem_nil, or_false] at hf; rcases hf with rfl | rfl | rfl | rfl | rfl | rfl <;> decide) (by decide) (by decide)
  replace hl : call cx 94 [(.vsl s.nil (ofBytes s.l) s.l.length), .vsl false [.str [95, 95, 67, 85, 82, 83, 79, 82, 61], .str [95, 95, 82, 69, 65, 76, 84, 73, 77, 69, 95, 84, 73, 77, 69, 83, 84, 65, 77, 80, 61], .str [95, 95, 77, 79, 78, 79, 84, 79, 78, 73, 67, 95, 84, 73, 77, 69, 83, 84, 65, 77, 80, 61], .str [95, 95, 83, 69, 81, 78, 85, 77, 61], .str [95, 95, 83, 69, 81, 78, 85, 77, 95, 73, 68, 61], .str [95, 66, 79, 79, 84, 95, 73, 68, 61]] 6] [] = _ := hl
  have z16 : ofBytes ID.zero.l = [.int .u8 0, .int .u8 0, .int .u8 0, .int .u8 0, .int .u8 0, .int .u8 0, .int .u8 0, .int .u8 0, .int .u8 0, .int .u8 0, .int .u8 0, .int .u8 0, .int .u8 0, .int .u8 0, .int .u8 0, .int .u8 0] := rfl
  unfold rentP retR
  refine call_run Tryz.func54 rfl ⟨rfl, rfl⟩ ?_
  cases hL : linesP s.l 0 rsix with
  | none =>
    rw [hL] at hl
    simp only at hl
    simp [Tryz.f54, hl]
    rfl
  | some q =>
    obtain ⟨l, z⟩ := q
    rw [hL] at hl
    obtain ⟨z1, z2, z3⟩ := linesP_len (Nat.zero_le _) hL
    match l, z2, z3, hl with
    | [x0, x1, x2, x3, x4, x5], _, z3, hl =>
      have hx1 := z3 x1 (by simp)
      have hx2 := z3 x2 (by simp)
      have hx3 := z3 x3 (by simp)
      have hx4 := z3 x4 (by simp)
      have hx5 := z3 x5 (by simp)
      simp only at hl
      replace hl : call cx 94 [(.vsl s.nil (ofBytes s.l) s.l.length), .vsl false [.str [95, 95, 67, 85, 82, 83, 79, 82, 61], .str [95, 95, 82, 69, 65, 76, 84, 73, 77, 69, 95, 84, 73, 77, 69, 83, 84, 65, 77, 80, 61], .str [95, 95, 77, 79, 78, 79, 84, 79, 78, 73, 67, 95, 84, 73, 77, 69, 83, 84, 65, 77, 80, 61], .str [95, 95, 83, 69, 81, 78, 85, 77, 61], .str [95, 95, 83, 69, 81, 78, 85, 77, 95, 73, 68, 61], .str [95, 66, 79, 79, 84, 95, 73, 68, 61]] 6] [] = some (.tup [.vsl false [.str x0, .str x1, .str x2, .str x3, .str x4, .str x5] 6, .int .i64 z, .bool true], []) := hl
      have n1 := rnum_ev' x1 (by omega)
      have n2 := rnum_ev' x2 (by omega)
      have n3 := rnum_ev' x3 (by omega)
      have i4 := rid_ev' x4 (by omega)
      have i5 := rid_ev' x5 (by omega)
      have hq := (idOf x4).h
      have hb := (idOf x5).h
      simp only
      generalize idOf x4 = q at *
      generalize idOf x5 = bt at *
      generalize (numP x1).getD 0 = rl at *
      generalize (numP x2).getD 0 = mn at *
      generalize (numP x3).getD 0 = sq at *
      generalize (numP x1).isSome = b1 at *
      generalize (numP x2).isSome = b2 at *
      generalize (numP x3).isSome = b3 at *
      generalize (idP x4).isSome = b4 at *
      generalize (idP x5).isSome = b5 at *
      have hq16 : List.take 16 (ofBytes q.l) = ofBytes q.l := List.take_of_length_le (by simp)
      have hb16 : List.take 16 (ofBytes bt.l) = ofBytes bt.l := List.take_of_length_le (by simp)
      by_cases hall : (b1 && b2 && b3 && b4 && b5) = true
      · simp only [Bool.and_eq_true] at hall
        obtain ⟨⟨⟨⟨rfl, rfl⟩, rfl⟩, rfl⟩, rfl⟩ := hall
        simp only [Bool.and_self, if_true]
        obtain ⟨R, hR⟩ : ∃ R, rfldP s.l 17 z = R := ⟨_, rfl⟩
        rw [hR]
        have hXl := entX_len q sq rl mn bt
        have hXf := entX_free q sq rl mn bt
        have hfin : ∀ l : List Pr, Enc.cells (⟨q, false, 0, 0, ⟨(sq : Nat), (rl : Nat), (mn : Nat), bt, slP l⟩⟩ : It) = entX q sq rl mn bt ++ [(.vsl (slP l).nil (encs (slP l).l) (slP l).l.length)] := fun l => by rw [It.cells]; simp [entX]
        obtain ⟨X, hX⟩ : ∃ X, X = entX q sq rl mn bt := ⟨_, rfl⟩
        simp [Tryz.f54, hl, n1, n2, n3, i4, i5, hq, hb, List.take_append, List.drop_append, drop_bytes]
        clear n1 n2 n3 i4 i5 hl
        rw [← hX] at hXl hXf
        simp only [← hX] at hfin
        have hXd : List.drop 38 X = [] := List.drop_eq_nil_of_le (by omega)
        have hXd9 : List.drop 39 X = [] := List.drop_eq_nil_of_le (by omega)
        have hXt : List.take 38 X = X := List.take_of_length_le (by omega)
        have hXt9 : List.take 39 X = X := List.take_of_length_le (by omega)
        have hXc : ∀ n, (∀ x, x ∈ X → closed n x = true) = True := fun n => eq_true (by
          have := closedL_free n X hXf
          rw [closedL_all] at this
          exact List.all_eq_true.1 this)
        have hzc : ∀ n, (∀ x, x ∈ Enc.cells It.zero → closed n x = true) = True := fun n => by simp
        have hzt : List.drop 39 (Enc.cells It.zero) = [] := List.drop_eq_nil_of_le (by simp)
        refine Run.loopThen (fun (q : Nat × Nat × List Pr) e H' => q.1 ≤ 17 ∧ q.2.1 ≤ s.l.length ∧ q.2.2.length = q.1 ∧ (match rfldP s.l (17 - q.1) q.2.1 with | none => none | some (l, z) => some (q.2.2 ++ l, z)) = R ∧ RntH X q.2.2 H' ∧
            look e 0 = some (.vsl s.nil (ofBytes s.l) s.l.length) ∧ look e 2 = some (.optr 0 39 0) ∧ look e 6 = some (.int .i64 (q.2.1 : Nat)) ∧ look e 8 = some (.optr 1 39 0) ∧ look e 10 = some (.int .i64 (q.1 : Nat))) (fun q => 17 - q.1) (0, z, []) ?_ ?_
        · refine ⟨by simp, z1, rfl, ?_, .inl ⟨rfl, ?_⟩, by simp, by simp, by simp, by simp, by simp⟩
          · show (match rfldP s.l 17 z with | none => none | some (l, z) => some ([] ++ l, z)) = R
            rw [hR]
            cases R <;> rfl
          · rw [hX]
            simp [entX]
            rfl
        clear hX hR hL z1 z3
        rintro ⟨n, a, fs⟩ e H' ⟨hn17, ha, hfn, hG, hH, k0, k2, k6, k8, k10⟩
        simp only at hn17 ha hfn hG hH k6 k10
        by_cases hle : n ≤ 16
        · have hle' : (n : Int) ≤ 16 := by omega
          have hwn : IntKind.i64.wrap ((n : Int) + 1) = ((n + 1 : Nat) : Int) := by rw [wrap_i64] <;> omega
          have hfu : 17 - n = (16 - n) + 1 := by omega
          rw [hfu, rfldP] at hG
          have hl1 := rline_ev s hs a ha
          cases hr : rlnP (s.l.drop a) with
          | none =>
            rw [hr] at hG hl1
            simp only at hG hl1
            subst hG
            rcases hH with ⟨rfl, rfl⟩ | ⟨hne, m, k, c3, t, u, hm, hk, rfl | ⟨c, v, w, rfl⟩ | ⟨c, v, w, y, rfl⟩⟩
            all_goals
              simp [k0, k2, k6, k8, k10, hle', hl1, hXc, hzt]
              rfl
          | some q =>
            obtain ⟨t, k⟩ := q
            rw [hr] at hG hl1
            simp only at hG hl1
            obtain ⟨r1, r2⟩ := rlnP_len hr
            simp only [List.length_drop] at r1
            obtain ⟨j, hj⟩ : ∃ j, j = a + k := ⟨_, rfl⟩
            rw [← hj] at hG hl1
            by_cases ht : t = []
            · rw [if_pos ht] at hG
              subst hG
              subst ht
              rcases hH with ⟨rfl, rfl⟩ | ⟨hne, m, k, c3, t, u, hm, hk, rfl | ⟨c, v, w, rfl⟩ | ⟨c, v, w, y, rfl⟩⟩
              · simp [k0, k2, k6, k8, k10, hle', hl1, hXl, hXt9, hXc, hXf, List.take_append, List.drop_append, hzt]
                rw [hfin]
                rfl
              all_goals
                have hst := fun {i : Nat} {H : Heap} (hg : (H[i]?).getD none = some (encs fs)) => stay_tup hXf hm.symm hk.symm hg (j : Int) true
                simp [-stay, k0, k2, k6, k8, k10, hle', hl1, hst, hXl, hXt9, hXc, hXf, List.take_append, List.drop_append, hzt]
                rw [hfin]
                simp [slP, hne, hk]
            · rw [if_neg ht] at hG
              have hsp := rsplit_ev t (by omega)
              have htt : List.take t.length (ofBytes t) = ofBytes t := List.take_of_length_le (by simp)
              generalize (splitP t).1 = p at *
              generalize (splitP t).2 = ec at *
              by_cases hec : ec = 0
              · rw [if_pos hec] at hG
                subst hec
                have hG2 : ∀ F : List Pr, F = fs ++ [p] → (match rfldP s.l (17 - (n + 1)) j with | none => none | some (l, z) => some (F ++ l, z)) = R := by
                  rintro F rfl
                  have e1 : 17 - (n + 1) = 16 - n := by omega
                  rw [e1, ← hG]
                  cases rfldP s.l (16 - n) j with
                  | none => rfl
                  | some q => simp
                rcases hH with ⟨rfl, rfl⟩ | ⟨hne, m, k', c3, u1, u2, hm, hk, rfl | ⟨c, v, w, rfl⟩ | ⟨c, v, w, y, rfl⟩⟩
                · simp [k0, k2, k6, k8, k10, hle', hl1, htt, hsp, ht, hXl, hXd9, List.drop_append, maxBytes]
                  exact ⟨n + 1, by omega, by omega, j, by omega, [p], by simp at hfn ⊢; omega, hG2 _ rfl, .inr ⟨by simp, 2, 1, t, p, p, rfl, rfl, .inl rfl⟩, by omega, hwn⟩
                all_goals
                  have hlk : fs.length = k' := hk.symm
                  have hkn : k' * 2 = m := by omega
                  have hm1 : (k' + 1) * 32 ≤ 140737488355328 := by omega
                  have hm2 : k' + 1 ≤ 140737488355328 := by omega
                  have hm3 : k' ≤ 140737488355327 := by omega
                · simp [k0, k2, k6, k8, k10, hle', hl1, htt, hsp, ht, hXl, hXd9, List.drop_append, maxBytes, hlk, hkn, hm1, hm2]
                  exact ⟨n + 1, by omega, by omega, j, by omega, fs ++ [p], by simp; omega, hG2 _ rfl, .inr ⟨by simp, m + 2, k' + 1, c3, u1, u2, by simp; omega, by simp; omega, .inr (.inl ⟨t, some (Enc.cells (p : Pr)), some (Enc.cells (p : Pr)), by rw [encs_snoc]; rfl⟩)⟩, by omega, hwn⟩
                · simp [k0, k2, k6, k8, k10, hle', hl1, htt, hsp, ht, hXl, hXd9, hXc, List.drop_append, maxBytes, hlk, hkn, hm1, hm2]
                  exact ⟨n + 1, by omega, by omega, j, by omega, fs ++ [p], by simp; omega, hG2 _ rfl, .inr ⟨by simp, m + 2, k' + 1, c3, u1, u2, by simp; omega, by simp; omega, .inr (.inr ⟨c, some (ofBytes t), some (Enc.cells (p : Pr)), some (Enc.cells (p : Pr)), by rw [encs_snoc]; rfl⟩)⟩, by omega, hwn⟩
                · simp [k0, k2, k6, k8, k10, hle', hl1, htt, hsp, ht, hXl, hXd9, hXc, List.drop_append, maxBytes, hlk, hkn, hm1, hm2]
                  exact ⟨n + 1, by omega, by omega, j, by omega, fs ++ [p], by simp; omega, hG2 _ rfl, .inr ⟨by simp, m + 2, k' + 1, c3, u1, u2, by simp; omega, by simp; omega, .inr (.inr ⟨c, some (ofBytes t), some (Enc.cells (p : Pr)), some (Enc.cells (p : Pr)), by rw [encs_snoc]; rfl⟩)⟩, by omega, hwn⟩
              · rw [if_neg hec] at hG
                have hec' : ¬ ec = 0 := hec
                by_cases h8 : s.l.length < j + 8
                · rw [if_pos h8] at hG
                  simp only at hG
                  subst hG
                  have hget := rget8_none s j (by omega) h8 (by omega)
                  rcases hH with ⟨rfl, rfl⟩ | ⟨hne, m, k', c3, u1, u2, hm, hk, rfl | ⟨c, v, w, rfl⟩ | ⟨c, v, w, y, rfl⟩⟩
                  all_goals
                    simp [k0, k2, k6, k8, k10, hle', hl1, htt, hsp, hec', ht, hget, hXc, hzt]
                    rfl
                · rw [if_neg h8] at hG
                  have hget := rget8_ev s j (by omega) (by omega)
                  have hN64 : leN ((s.l.drop j).take 8) < 18446744073709551616 := by
                    refine Nat.lt_of_lt_of_le (leN_lt _) ?_
                    have hl8 : ((s.l.drop j).take 8).length ≤ 8 := by simp; omega
                    exact Nat.le_trans (Nat.pow_le_pow_right (by decide) hl8) (by decide)
                  obtain ⟨N, hN⟩ : ∃ N, N = leN ((s.l.drop j).take 8) := ⟨_, rfl⟩
                  rw [← hN] at hG hget hN64
                  have w1 : IntKind.i64.wrap ((s.l.length : Int) - (j : Int)) = (s.l.length : Int) - (j : Int) := by rw [wrap_i64]; omega
                  have w2 : IntKind.i64.wrap ((s.l.length : Int) - (j : Int) - 8) = (s.l.length : Int) - (j : Int) - 8 := by rw [wrap_i64]; omega
                  by_cases hb1 : 256 < N
                  · rw [if_pos (.inl hb1)] at hG
                    simp only at hG
                    subst hG
                    have hb1' : (256 : Int) < (N : Int) := by omega
                    rcases hH with ⟨rfl, rfl⟩ | ⟨hne, m, k', c3, u1, u2, hm, hk, rfl | ⟨c, v, w, rfl⟩ | ⟨c, v, w, y, rfl⟩⟩
                    all_goals
                      simp [k0, k2, k6, k8, k10, hle', hl1, htt, hsp, hec', ht, hget, hb1', hXc, hzt]
                      rfl
                  · have hb1' : ¬ (256 : Int) < (N : Int) := by omega
                    have wN : IntKind.i64.wrap (N : Int) = (N : Int) := by rw [wrap_i64] <;> omega
                    by_cases hb2 : s.l.length - j - 8 ≤ N
                    · rw [if_pos (.inr (.inl hb2))] at hG
                      simp only at hG
                      subst hG
                      have hb2' : (s.l.length : Int) - (j : Int) - 8 ≤ (N : Int) := by omega
                      rcases hH with ⟨rfl, rfl⟩ | ⟨hne, m, k', c3, u1, u2, hm, hk, rfl | ⟨c, v, w, rfl⟩ | ⟨c, v, w, y, rfl⟩⟩
                      all_goals
                        simp [k0, k2, k6, k8, k10, hle', hl1, htt, hsp, hec', ht, hget, hb1', w1, w2, wN, hb2', hXc, hzt]
                        rfl
                    · have hb2' : ¬ (s.l.length : Int) - (j : Int) - 8 ≤ (N : Int) := by omega
                      obtain ⟨j8, hj8⟩ : ∃ j8, j8 = j + 8 := ⟨_, rfl⟩
                      obtain ⟨P, hP⟩ : ∃ P, P = j8 + N := ⟨_, rfl⟩
                      rw [← hj8, ← hP] at hG
                      have w3 : IntKind.i64.wrap ((j : Int) + 8) = (j8 : Int) := by rw [wrap_i64] <;> omega
                      have w4 : IntKind.i64.wrap ((j8 : Int) + (N : Int)) = (P : Int) := by rw [wrap_i64] <;> omega
                      have hPl : P < s.l.length := by omega
                      have hPl' : (P : Int) < (s.l.length : Int) := by omega
                      have hPle : (P : Int) ≤ (s.l.length : Int) := by omega
                      have hPle2 : P ≤ s.l.length := by omega
                      have hnn := Sl.nn hPl
                      rw [hnn] at hl1 hget
                      have hA := ofBytes_at hPl
                      have hgd : s.l.getD P 0 = s.l[P] := by rw [List.getD, List.getElem?_eq_getElem hPl]; rfl
                      rw [hgd] at hG
                      generalize s.l[P] = c10 at *
                      by_cases hb3 : c10 = 10
                      · have hno : ¬ (256 < N ∨ s.l.length - j - 8 ≤ N ∨ c10 ≠ 10) := by
                          rintro (h | h | h)
                          · exact hb1 h
                          · exact hb2 h
                          · exact h hb3
                        rw [if_neg hno] at hG
                        subst hb3
                        obtain ⟨V, hV⟩ : ∃ V, V = (s.l.drop j8).take N := ⟨_, rfl⟩
                        rw [← hV] at hG
                        have hVl : V.length = N := by rw [hV]; simp; omega
                        have g1 : (j8 : Int) ≤ (P : Int) := by omega
                        have g1n : j8 ≤ P := by omega
                        have g2 : ((P : Int) - (j8 : Int)).toNat = N := by omega
                        have g3 : P - j8 = N := by omega
                        have tv : List.take N (List.drop j8 (ofBytes s.l)) = ofBytes V := by rw [ofBytes_drop, ofBytes_take, ← hV]
                        have tvb : bytesD (ofBytes V) = some V := bytesD_of _
                        have tvt : List.take N (ofBytes V) = ofBytes V := List.take_of_length_le (by simp; omega)
                        have w5 : IntKind.i64.wrap ((P : Int) + 1) = ((P + 1 : Nat) : Int) := by rw [wrap_i64] <;> omega
                        clear hN hV
                        have hG2 : ∀ F : List Pr, F = fs ++ [⟨t, V⟩] → (match rfldP s.l (17 - (n + 1)) (P + 1) with | none => none | some (l, z) => some (F ++ l, z)) = R := by
                          rintro F rfl
                          have e1 : 17 - (n + 1) = 16 - n := by omega
                          rw [e1, ← hG]
                          cases rfldP s.l (16 - n) (P + 1) with
                          | none => rfl
                          | some q => simp
                        rcases hH with ⟨rfl, rfl⟩ | ⟨hne, m, k', c3, u1, u2, hm, hk, rfl | ⟨c, v, w, rfl⟩ | ⟨c, v, w, y, rfl⟩⟩
                        · simp [k0, k2, k6, k8, k10, hle', hl1, htt, hsp, ht, hec', hget, hb1', w1, w2, wN, hb2', w3, w4, w5, hPl', hPle, hnn, hA, g1, g3, tv, tvb, hVl, hXl, hXd9, List.drop_append, maxBytes]
                          exact ⟨n + 1, by omega, by omega, (P + 1), by omega, [⟨t, V⟩], by simp at hfn ⊢; omega, hG2 _ rfl, .inr ⟨by simp, 2, 1, t, ⟨t, V⟩, ⟨t, V⟩, rfl, rfl, .inl rfl⟩, by omega, hwn⟩
                        all_goals
                          have hlk : fs.length = k' := hk.symm
                          have hkn : k' * 2 = m := by omega
                          have hm1 : (k' + 1) * 32 ≤ 140737488355328 := by omega
                          have hm2 : k' + 1 ≤ 140737488355328 := by omega
                          have hm3 : k' ≤ 140737488355327 := by omega
                        · simp [k0, k2, k6, k8, k10, hle', hl1, htt, hsp, ht, hec', hget, hb1', w1, w2, wN, hb2', w3, w4, w5, hPl', hPle, hnn, hA, g1, g3, tv, tvb, hVl, hXl, hXd9, List.drop_append, maxBytes, hlk, hkn, hm1, hm2]
                          exact ⟨n + 1, by omega, by omega, (P + 1), by omega, fs ++ [⟨t, V⟩], by simp; omega, hG2 _ rfl, .inr ⟨by simp, m + 2, k' + 1, c3, u1, u2, by simp; omega, by simp; omega, .inr (.inl ⟨t, some (Enc.cells (⟨t, V⟩ : Pr)), some (Enc.cells (⟨t, V⟩ : Pr)), by rw [encs_snoc]; rfl⟩)⟩, by omega, hwn⟩
                        · simp [k0, k2, k6, k8, k10, hle', hl1, htt, hsp, ht, hec', hget, hb1', w1, w2, wN, hb2', w3, w4, w5, hPl', hPle, hnn, hA, g1, g3, tv, tvb, hVl, hXl, hXd9, hXc, List.drop_append, maxBytes, hlk, hkn, hm1, hm2]
                          exact ⟨n + 1, by omega, by omega, (P + 1), by omega, fs ++ [⟨t, V⟩], by simp; omega, hG2 _ rfl, .inr ⟨by simp, m + 2, k' + 1, c3, u1, u2, by simp; omega, by simp; omega, .inr (.inr ⟨c, some (ofBytes t), some (Enc.cells (⟨t, V⟩ : Pr)), some (Enc.cells (⟨t, V⟩ : Pr)), by rw [encs_snoc]; rfl⟩)⟩, by omega, hwn⟩
                        · simp [k0, k2, k6, k8, k10, hle', hl1, htt, hsp, ht, hec', hget, hb1', w1, w2, wN, hb2', w3, w4, w5, hPl', hPle, hnn, hA, g1, g3, tv, tvb, hVl, hXl, hXd9, hXc, List.drop_append, maxBytes, hlk, hkn, hm1, hm2]
                          exact ⟨n + 1, by omega, by omega, (P + 1), by omega, fs ++ [⟨t, V⟩], by simp; omega, hG2 _ rfl, .inr ⟨by simp, m + 2, k' + 1, c3, u1, u2, by simp; omega, by simp; omega, .inr (.inr ⟨c, some (ofBytes t), some (Enc.cells (⟨t, V⟩ : Pr)), some (Enc.cells (⟨t, V⟩ : Pr)), by rw [encs_snoc]; rfl⟩)⟩, by omega, hwn⟩
                      · have hb3' : ¬ (c10.toNat : Int) = 10 := by
                          intro e
                          exact hb3 (UInt8.toNat_inj.1 (by show c10.toNat = 10; omega))
                        have hb3n : ¬ c10.toNat = 10 := by omega
                        rw [if_pos (.inr (.inr hb3))] at hG
                        simp only at hG
                        subst hG
                        rcases hH with ⟨rfl, rfl⟩ | ⟨hne, m, k', c3, u1, u2, hm, hk, rfl | ⟨c, v, w, rfl⟩ | ⟨c, v, w, y, rfl⟩⟩
                        all_goals
                          simp [k0, k2, k6, k8, k10, hle', hl1, htt, hsp, hec', ht, hget, hb1', w1, w2, wN, hb2', w3, w4, hPl', hnn, hA, hb3', hXc, hzt]
                          rfl
        · have hle' : ¬ (n : Int) ≤ 16 := by omega
          have hfu : 17 - n = 0 := by omega
          rw [hfu, rfldP] at hG
          simp only at hG
          subst hG
          rcases hH with ⟨rfl, rfl⟩ | ⟨hne, m, k, c3, t, u, hm, hk, rfl | ⟨c, v, w, rfl⟩ | ⟨c, v, w, y, rfl⟩⟩
          all_goals
            simp [k0, k2, k6, k8, k10, hle', hXc, hzt]
            rfl
      · rw [if_neg hall]
        cases b1 with
        | false => simp [Tryz.f54, hl, n1, n2, n3, i4, i5, hq, hb, List.take_append, List.drop_append, drop_bytes]; rfl
        | true =>
          cases b2 with
          | false => simp [Tryz.f54, hl, n1, n2, n3, i4, i5, hq, hb, List.take_append, List.drop_append, drop_bytes]; rfl
          | true =>
            cases b3 with
            | false => simp [Tryz.f54, hl, n1, n2, n3, i4, i5, hq, hb, List.take_append, List.drop_append, drop_bytes]; rfl
            | true =>
              cases b4 with
              | false => simp [Tryz.f54, hl, n1, n2, n3, i4, i5, hq, hb, List.take_append, List.drop_append, drop_bytes]; rfl
              | true =>
                cases b5 with
                | false => simp [Tryz.f54, hl, n1, n2, n3, i4, i5, hq, hb, List.take_append, List.drop_append, drop_bytes]; rfl
                | true => exact absurd rfl hall
end Go.Ev.S
namespace Go.Ev.S
open Go Go.Proofs Go.Ev
theorem rtext_ev [MaxL] (it : It) (hi : it.Ok) (hb : ∀ p ∈ it.rc.fields.l, PrB p) (hn : it.rc.fields.l.length < 1000000) : call cx 22 [.agg (Enc.cells it)] [] = some (textD it, []) := by
  unfold textD textL
  cases ho : itOk it with
  | false => exact rtext_bad it hi hb hn ho
  | true =>
    cases hg : it.gap with
    | true => exact rtext_gap it hi hg hb hn ho
    | false => exact rtext_rec it hi hg ho
theorem numP_lt (s : List UInt8) : isU64 ((numP s).getD 0 : Nat) := by
  have : (numP s).getD 0 < 18446744073709551616 := by
    cases h : numP s with
    | none => decide
    | some v =>
      unfold numP at h
      split at h
      · cases h
      · exact puGo_lt 10 _ _ _ (by decide) h
  unfold isU64
  omega
theorem It.zero_ok : It.zero.Ok := ⟨u64_zero, u64_zero, Rec.zero_ok⟩
structure ReadQ (b : List UInt8) (q : It × Nat × Bool) : Prop where
  ok : q.1.Ok
  bs : ∀ p ∈ q.1.rc.fields.l, p.name.length ≤ b.length ∧ p.value.length ≤ b.length
  n : q.1.rc.fields.l.length ≤ 17
  le : q.2.1 ≤ b.length
theorem readQ_zero (b : List UInt8) : ReadQ b (It.zero, 0, false) := ⟨It.zero_ok, fun p hp => (by cases hp), Nat.zero_le _, Nat.zero_le _⟩
theorem rgapP_q (b : List UInt8) : ReadQ b (rgapP b) := by
  unfold rgapP
  split
  · rename_i x y w z hL
    obtain ⟨z1, -, -⟩ := linesP_len (Nat.zero_le _) hL
    split
    · exact readQ_zero b
    · exact ⟨⟨numP_lt _, numP_lt _, Rec.zero_ok⟩, fun p hp => (by cases hp), Nat.zero_le _, z1⟩
  · exact readQ_zero b
theorem rentP_q (b : List UInt8) : ReadQ b (rentP b) := by
  unfold rentP
  split
  · rename_i x0 x1 x2 x3 x4 x5 z hL
    obtain ⟨z1, -, -⟩ := linesP_len (Nat.zero_le _) hL
    split
    · cases hF : rfldP b 17 z with
      | none => exact readQ_zero b
      | some q =>
        obtain ⟨l, z'⟩ := q
        obtain ⟨f1, f2, f3⟩ := rfldP_le b 17 z l z' z1 hF
        exact ⟨⟨u64_zero, u64_zero, numP_lt _, numP_lt _, numP_lt _⟩, f3, f2, f1⟩
    · exact readQ_zero b
  · exact readQ_zero b
def rsel (b : List UInt8) : It × Nat × Bool := if (rgapP b).2.2 then rgapP b else rentP b
theorem rsel_q (b : List UInt8) : ReadQ b (rsel b) := by
  unfold rsel
  split
  · exact rgapP_q b
  · exact rentP_q b
def rokP (b : List UInt8) : Bool := (rsel b).2.2 && (itOk (rsel b).1 && (textL (rsel b).1 == b.take (rsel b).2.1))
def rreadD (b : List UInt8) : D := if rokP b then .tup [.agg (Enc.cells (rsel b).1), .int .i64 ((rsel b).2.1 : Nat), .int .i64 0] else .tup [.agg (Enc.cells It.zero), .int .i64 0, .int .i64 20]
set_option maxHeartbeats 4000000 in
set_option maxRecDepth 8000 in
theorem rread_ev [MaxL] (s : Sl UInt8) (hs : s.l.length < 1000000) : call cx 21 [(.vsl s.nil (ofBytes s.l) s.l.length)] [] = some (rreadD s.l, []) := by
  have hg := rgap_ev s hs
  have he := rentry_ev s hs
  obtain ⟨q1, q2, q3, q4⟩ := rsel_q s.l
  have hb : ∀ p ∈ (rsel s.l).1.rc.fields.l, PrB p := fun p hp => by
    have := q2 p hp
    exact ⟨by omega, by omega⟩
  have hr := rright_ev (rsel s.l).1 q1 hb (by omega)
  have ht := rtext_ev (rsel s.l).1 q1 hb (by omega)
  clear q1 q2 q3 hb
  unfold rreadD rokP
  have hS : rsel s.l = if (rgapP s.l).2.2 then rgapP s.l else rentP s.l := rfl
  unfold retR at hg he
  unfold textD at ht
  generalize rsel s.l = q at *
  obtain ⟨it, n, b⟩ := q
  simp only at hr ht q4 ⊢
  generalize rgapP s.l = g at *
  obtain ⟨gi, gn, gb⟩ := g
  generalize rentP s.l = q at *
  obtain ⟨ei, en, eb⟩ := q
  simp only at hg he hS
  have q4' : (n : Int) ≤ (s.l.length : Int) := by omega
  have t1 : List.take n (ofBytes s.l) = ofBytes (s.l.take n) := ofBytes_take _ _
  have t1l : (s.l.take n).length = n := by simp; omega
  have t1b : bytesD (ofBytes (s.l.take n)) = some (s.l.take n) := bytesD_of _
  have t1t : List.take n (ofBytes (s.l.take n)) = ofBytes (s.l.take n) := List.take_of_length_le (by simp; omega)
  refine call_run Tryz.func21 rfl ⟨rfl, rfl⟩ ?_
  cases gb with
  | true =>
    simp only [if_true, Prod.mk.injEq] at hS
    obtain ⟨rfl, rfl, rfl⟩ := hS
    cases ho : itOk it with
    | false =>
      rw [ho] at hr
      simp [Tryz.f21, hg, hr]
      rfl
    | true =>
      rw [ho] at hr ht
      simp only [if_true] at ht
      generalize textL it = t at *
      have tt : List.take t.length (ofBytes t) = ofBytes t := List.take_of_length_le (by simp)
      have ttb : bytesD (ofBytes t) = some t := bytesD_of _
      by_cases hEq : t = s.l.take n
      · have hb2 : (t == s.l.take n) = true := by rw [hEq]; simp
        simp [Tryz.f21, hg, hr, ht, q4', t1, t1l, t1b, ttb, hb2]
      · have hb2 : (t == s.l.take n) = false := beq_eq_false_iff_ne.2 hEq
        simp [Tryz.f21, hg, hr, ht, q4', t1, t1l, t1b, ttb, hb2]
        rfl
  | false =>
    simp only [Bool.false_eq_true, if_false, Prod.mk.injEq] at hS
    obtain ⟨rfl, rfl, rfl⟩ := hS
    cases b with
    | false =>
      simp [Tryz.f21, hg, he]
      rfl
    | true =>
      cases ho : itOk it with
      | false =>
        rw [ho] at hr
        simp [Tryz.f21, hg, he, hr]
        rfl
      | true =>
        rw [ho] at hr ht
        simp only [if_true] at ht
        generalize textL it = t at *
        have tt : List.take t.length (ofBytes t) = ofBytes t := List.take_of_length_le (by simp)
        have ttb : bytesD (ofBytes t) = some t := bytesD_of _
        by_cases hEq : t = s.l.take n
        · have hb2 : (t == s.l.take n) = true := by rw [hEq]; simp
          simp [Tryz.f21, hg, he, hr, ht, q4', t1, t1l, t1b, ttb, hb2]
        · have hb2 : (t == s.l.take n) = false := beq_eq_false_iff_ne.2 hEq
          simp [Tryz.f21, hg, he, hr, ht, q4', t1, t1l, t1b, ttb, hb2]
          rfl
end Go.Ev.S
namespace Go.Ev.S
open Go Go.Proofs Go.Ev
theorem dval_dig {k : Nat} (h : k < 10) : dval (UInt8.ofNat (48 + k)) = some k := by
  have e : (UInt8.ofNat (48 + k)).toNat = 48 + k := UInt8.toNat_ofNat_of_lt' (show 48 + k < 256 by omega)
  unfold dval
  rw [if_pos (by rw [e]; omega), e]
  congr 1
  omega
theorem puGo_append (b : Nat) : ∀ (l r : List UInt8) (n : Nat), puGo b (l ++ r) n = match puGo b l n with
    | none => none
    | some m => puGo b r m
  | [], r, n => by simp [puGo]
  | c :: l, r, n => by
    simp only [List.cons_append, puGo]
    cases dval c with
    | none => rfl
    | some d =>
      simp only
      split
      · rfl
      · split
        · rfl
        · exact puGo_append b l r _
theorem puGo_decF : ∀ (f v : Nat), v < 10 ^ f → 1 ≤ f → v < 18446744073709551616 → puGo 10 (decF f v) 0 = some v
  | f + 1, v, h, _, h64 => by
    rw [decF]
    by_cases hv : v < 10
    · rw [if_pos hv]
      simp only [puGo, dval_dig hv]
      rw [if_neg (by omega), if_neg (by omega)]
      congr 1
      omega
    · rw [if_neg hv, puGo_append]
      have hf : 1 ≤ f := by
        rcases f with _ | f
        · simp at h; omega
        · omega
      rw [puGo_decF f (v / 10) (by rw [Nat.pow_succ] at h; omega) hf (by omega)]
      simp only [puGo, dval_dig (Nat.mod_lt v (by decide : 10 > 0))]
      rw [if_neg (by omega), if_neg (by omega)]
      congr 1
      omega
theorem decF_head : ∀ (f v : Nat), v < 10 ^ f → (decF f v).head? = some 48 → v = 0 ∧ (decF f v).length ≤ 1
  | 0, v, _, h => by simp [decF] at h
  | f + 1, v, hv, h => by
    rw [decF] at h ⊢
    by_cases h10 : v < 10
    · rw [if_pos h10] at h ⊢
      simp only [List.head?_cons, Option.some.injEq] at h
      have := congrArg UInt8.toNat h
      rw [UInt8.toNat_ofNat_of_lt' (show 48 + v < 256 by omega)] at this
      simp at this
      exact ⟨by omega, by simp⟩
    · rw [if_neg h10] at h
      exfalso
      rcases f with _ | f
      · simp at hv; omega
      · have hp : v / 10 < 10 ^ (f + 1) := by rw [Nat.pow_succ] at hv; omega
        have hne : decF (f + 1) (v / 10) ≠ [] := by
          rw [decF]
          split <;> simp
        have h' : (decF (f + 1) (v / 10)).head? = some 48 := by
          obtain ⟨a, l, hal⟩ := List.exists_cons_of_ne_nil hne
          rw [hal] at h ⊢
          exact h
        have := (decF_head (f + 1) (v / 10) hp h').1
        omega
theorem num_dec {v : Nat} (h : v < 18446744073709551616) : numP (dec v) = some v := by
  have h1 := dec_pos v
  have h2 := dec_len v
  have h3 := decF_head 20 v (Nat.lt_trans h (by decide))
  unfold numP
  rw [if_neg]
  · exact puGo_decF 20 v (Nat.lt_trans h (by decide)) (by decide) h
  · rintro (e | e | ⟨e1, e2⟩)
    · rw [e] at h1; simp at h1
    · omega
    · have := (h3 e1).2
      unfold dec at e2
      omega
end Go.Ev.S
namespace Go.Ev.S
open Go Go.Proofs Go.Ev
theorem decF_dig : ∀ (f v : Nat), ∀ x ∈ decF f v, 48 ≤ x.toNat ∧ x.toNat ≤ 57
  | 0, _, x, h => by simp [decF] at h
  | f + 1, v, x, h => by
    rw [decF] at h
    split at h
    · rename_i hv
      rw [List.mem_singleton.1 h, UInt8.toNat_ofNat_of_lt' (show 48 + v < 256 by omega)]
      omega
    · rcases List.mem_append.1 h with h | h
      · exact decF_dig f _ x h
      · rw [List.mem_singleton.1 h, UInt8.toNat_ofNat_of_lt' (show 48 + v % 10 < 256 by omega)]
        omega
theorem dec_dig (v : Nat) : ∀ x ∈ dec v, 48 ≤ x.toNat ∧ x.toNat ≤ 57 := decF_dig 20 v
theorem hexc_ge : ∀ k, k < 16 → 48 ≤ (hexc k).toNat := by decide
theorem hexs_ge : ∀ (l : List UInt8), ∀ x ∈ hexs l, 48 ≤ x.toNat
  | [], x, h => by simp [hexs] at h
  | b :: l, x, h => by
    rw [hexs] at h
    have hb := b.toNat_lt
    rcases List.mem_cons.1 h with rfl | h
    · exact hexc_ge _ (by omega)
    · rcases List.mem_cons.1 h with rfl | h
      · exact hexc_ge _ (by omega)
      · exact hexs_ge l x h
theorem hexF_ge : ∀ (f v : Nat), ∀ x ∈ hexF f v, 48 ≤ x.toNat
  | 0, _, x, h => by simp [hexF] at h
  | f + 1, v, x, h => by
    rw [hexF] at h
    split at h
    · rename_i hv
      rw [List.mem_singleton.1 h]
      exact hexc_ge _ hv
    · rcases List.mem_append.1 h with h | h
      · exact hexF_ge f _ x h
      · rw [List.mem_singleton.1 h]
        exact hexc_ge _ (Nat.mod_lt _ (by decide))
theorem showL_ge (c : Cur) : ∀ x ∈ showL c, 48 ≤ x.toNat := by
  intro x h
  unfold showL at h
  simp only [List.mem_append] at h
  have k : ∀ l : List UInt8, (∀ y ∈ l, 48 ≤ y.toNat) → x ∈ l → 48 ≤ x.toNat := fun l hl hx => hl x hx
  rcases h with h | h | h | h | h | h | h | h | h | h | h | h
  · exact k kS (by decide) h
  · exact hexs_ge _ x h
  · exact k kI (by decide) h
  · exact hexF_ge 16 _ x h
  · exact k kB (by decide) h
  · exact hexs_ge _ x h
  · exact k kM (by decide) h
  · exact hexF_ge 16 _ x h
  · exact k kT (by decide) h
  · exact hexF_ge 16 _ x h
  · exact k kX (by decide) h
  · exact hexF_ge 16 _ x h
theorem ne_of_ge {x c : UInt8} (h : c.toNat < x.toNat) : x ≠ c := by rintro rfl; omega
theorem no10 {l : List UInt8} (h : ∀ x ∈ l, 48 ≤ x.toNat) : ∀ x ∈ l, x ≠ 10 := fun x hx => ne_of_ge (by have := h x hx; show 10 < x.toNat; omega)
theorem no10_app {a b : List UInt8} (ha : ∀ x ∈ a, x ≠ 10) (hb : ∀ x ∈ b, x ≠ 10) : ∀ x ∈ a ++ b, x ≠ 10 := fun x hx => (List.mem_append.1 hx).elim (ha x) (hb x)
theorem idxB_at (c : UInt8) : ∀ (A B : List UInt8) (n : Nat), (∀ x ∈ A, x ≠ c) → idxB c (A ++ c :: B) n = ((n + A.length : Nat) : Int)
  | [], B, n, _ => by simp [idxB]
  | x :: A, B, n, h => by
    rw [List.cons_append, idxB, if_neg (h x (by simp)), idxB_at c A B (n + 1) fun y hy => h y (by simp [hy])]
    simp
    omega
theorem idxB_no (c : UInt8) : ∀ (A : List UInt8) (n : Nat), (∀ x ∈ A, x ≠ c) → idxB c A n = -1
  | [], n, _ => by simp [idxB]
  | x :: A, n, h => by rw [idxB, if_neg (h x (by simp)), idxB_no c A (n + 1) fun y hy => h y (by simp [hy])]
theorem cut_app (c : UInt8) {A : List UInt8} (h : ∀ x ∈ A, x ≠ c) (B : List UInt8) : cutL [c] (A ++ c :: B) = (A, B, true) := by
  have h1 := idx_at c A B 0 h
  rw [Nat.zero_add] at h1
  unfold cutL
  rw [h1, if_neg (by omega)]
  have e : ((A.length : Nat) : Int).toNat = A.length := by omega
  rw [e]
  simp [List.drop_append]
theorem lnL_app {A : List UInt8} (h : ∀ x ∈ A, x ≠ 10) (B : List UInt8) : lnL (A ++ 10 :: B) = A := by unfold lnL; rw [cut_app 10 h]
theorem lnR_app {A : List UInt8} (h : ∀ x ∈ A, x ≠ 10) (B : List UInt8) : lnR (A ++ 10 :: B) = B := by unfold lnR; rw [cut_app 10 h]
theorem rlnP_app {A : List UInt8} (h : ∀ x ∈ A, x ≠ 10) (B : List UInt8) : rlnP (A ++ 10 :: B) = some (A, A.length + 1) := by
  have h1 := idxB_at 10 A B 0 h
  rw [Nat.zero_add] at h1
  unfold rlnP
  rw [h1, if_neg (by omega)]
  have e : ((A.length : Nat) : Int).toNat = A.length := by omega
  rw [e]
  simp
theorem pre_self (p x : List UInt8) : pre p (p ++ x) = true := by unfold pre; simp
theorem trim_self (p x : List UInt8) : trimL p (p ++ x) = x := by unfold trimL; rw [if_pos (pre_self p x)]; simp
theorem pu_dec {v : Nat} (h : v < 18446744073709551616) : pu 10 (dec v) = some v := by
  have hn := num_dec h
  have hp := dec_pos v
  unfold numP at hn
  split at hn
  · cases hn
  · unfold pu
    rw [if_neg (by intro e; rw [e] at hp; simp at hp)]
    exact hn
theorem drop_line (A B : List UInt8) : (A ++ 10 :: B).drop (A.length + 1) = B := by
  rw [List.drop_append]
  simp
theorem linesP_step {b B x f : List UInt8} {a : Nat} {fs : List (List UInt8)} (hb : b.drop a = (f ++ x) ++ 10 :: B) (h10 : ∀ y ∈ f ++ x, y ≠ 10) {l : List (List UInt8)} {z : Nat} (h : linesP b (a + ((f ++ x).length + 1)) fs = some (l, z)) :
    linesP b a (f :: fs) = some (x :: l, z) := by
  rw [linesP, hb, rlnP_app h10]
  simp only [pre_self, if_true, h]
  simp
theorem drop_next {b A B : List UInt8} {a : Nat} (hb : b.drop a = A ++ 10 :: B) : b.drop (a + (A.length + 1)) = B := by
  rw [← List.drop_drop, hb, drop_line]
theorem nameOk_no {n : List UInt8} (h : nameOk n = true) : n ≠ [] ∧ n.length ≤ 64 ∧ ∀ x ∈ n, 48 ≤ x.toNat ∧ x ≠ 61 := by
  unfold nameOk at h
  split at h
  · cases h
  · rename_i c l
    simp only [Bool.and_eq_true, decide_eq_true_eq, List.all_eq_true] at h
    refine ⟨by simp, h.1.1, fun x hx => ?_⟩
    have := h.2 x hx
    unfold nameC at this
    simp only [Bool.or_eq_true, Bool.and_eq_true, decide_eq_true_eq] at this
    refine ⟨by omega, ?_⟩
    rintro rfl
    have e : (61 : UInt8).toNat = 61 := rfl
    rw [e] at this
    omega
theorem plainV_no {v : List UInt8} (h : plainV v = true) : ∀ x ∈ v, x ≠ 10 := by
  intro x hx
  unfold plainV at h
  have := List.all_eq_true.1 h x hx
  unfold plainC at this
  rintro rfl
  revert this
  decide
theorem prOk_is {p : Pr} (h : prOk p = true) : nameOk p.name = true ∧ p.value.length ≤ 256 := by
  unfold prOk at h
  simp only [Bool.and_eq_true, decide_eq_true_eq] at h
  exact h
theorem anyI_at : ∀ (A B : List UInt8) (c : UInt8) (n : Nat), (∀ x ∈ A, x ≠ 61 ∧ x ≠ 10) → c = 61 ∨ c = 10 → anyI (A ++ c :: B) n = ((n + A.length : Nat) : Int)
  | [], B, c, n, _, hc => by simp [anyI, hc]
  | x :: A, B, c, n, h, hc => by
    have hx := h x (by simp)
    rw [List.cons_append, anyI, if_neg (by rintro (e | e); exact hx.1 e; exact hx.2 e), anyI_at A B c (n + 1) (fun y hy => h y (by simp [hy])) hc]
    simp
    omega
theorem leB_get (v : Nat) (hv : v < 18446744073709551616) (R : List UInt8) : leGet (leB 8 v ++ R) 0 8 = some v := by
  have hl := leB_len 8 v
  unfold leGet
  rw [if_pos ⟨by decide, by decide, by simp [hl]; omega⟩]
  have e : ((leB 8 v ++ R).drop (0 : Int).toNat).take (8 : Int).toNat = leB 8 v := by
    show ((leB 8 v ++ R).drop 0).take 8 = _
    rw [List.drop_zero, List.take_left' hl]
  rw [e, leN_leB, Nat.mod_eq_of_lt (by simpa using hv)]
theorem pairP_text {p : Pr} (h : prOk p = true) (R : List UInt8) : pairP (pairL p ++ R) = some (p, R) := by
  obtain ⟨hn, hv⟩ := prOk_is h
  obtain ⟨n0, n1, n2⟩ := nameOk_no hn
  have hne : ∀ x ∈ p.name, x ≠ 61 ∧ x ≠ 10 := fun x hx => ⟨(n2 x hx).2, ne_of_ge (by have := (n2 x hx).1; show 10 < x.toNat; omega)⟩
  have hpos : 1 ≤ p.name.length := by
    cases hc : p.name with
    | nil => exact absurd hc n0
    | cons => simp
  have gen : ∀ (c : UInt8) (T : List UInt8), c = 61 ∨ c = 10 → pairP (p.name ++ c :: T) = if c = 61 then some (⟨p.name, lnL T⟩, lnR T) else match leGet T 0 8 with
      | none => none
      | some n => if 256 < n ∨ T.length < 9 + n then none else some (⟨p.name, (T.drop 8).take n⟩, T.drop (9 + n)) := by
    intro c T hc
    have ha := anyI_at p.name T c 0 hne hc
    rw [Nat.zero_add] at ha
    have e : ((p.name.length : Nat) : Int).toNat = p.name.length := by omega
    have d1 : (p.name ++ c :: T).drop (p.name.length + 1) = T := by rw [List.drop_append]; simp
    have d2 : (p.name ++ c :: T).getD p.name.length 0 = c := by simp [List.getD]
    have d3 : (p.name ++ c :: T).take p.name.length = p.name := by simp
    unfold pairP
    rw [ha, if_neg (by omega), e, d1, d2, d3]
    all_goals (cases leGet T 0 8 <;> rfl)
  unfold pairL
  cases hp : plainV p.value with
  | true =>
    have e : (if true = true then ((p.name ++ [61]) ++ p.value) ++ [10] else (((p.name ++ [10]) ++ leB 8 p.value.length) ++ p.value) ++ [10]) ++ R = p.name ++ 61 :: (p.value ++ 10 :: R) := by simp
    rw [e, gen 61 _ (.inl rfl), if_pos rfl, lnL_app (plainV_no hp), lnR_app (plainV_no hp)]
  | false =>
    have e : (if false = true then ((p.name ++ [61]) ++ p.value) ++ [10] else (((p.name ++ [10]) ++ leB 8 p.value.length) ++ p.value) ++ [10]) ++ R = p.name ++ 10 :: (leB 8 p.value.length ++ (p.value ++ 10 :: R)) := by simp
    rw [e, gen 10 _ (.inr rfl), if_neg (by decide), leB_get _ (by omega)]
    have hl := leB_len 8 p.value.length
    have hno : ¬ (256 < p.value.length ∨ (leB 8 p.value.length ++ (p.value ++ 10 :: R)).length < 9 + p.value.length) := by
      rintro (h | h)
      · omega
      · simp [hl] at h
        omega
    simp only [hno, if_false]
    have d1 : (leB 8 p.value.length ++ (p.value ++ 10 :: R)).drop 8 = p.value ++ 10 :: R := List.drop_left' hl
    have d2 : (leB 8 p.value.length ++ (p.value ++ 10 :: R)).drop (9 + p.value.length) = R := by
      rw [show 9 + p.value.length = 8 + (p.value.length + 1) by omega, ← List.drop_drop, d1, drop_line]
    rw [d1, d2]
    simp
theorem pairP_end (R : List UInt8) : pairP (10 :: R) = none := by
  unfold pairP
  rw [if_pos (by simp [anyI])]
theorem fldP_text : ∀ (F : List Pr) (n : Nat) (R : List UInt8), F.length ≤ n → (∀ p ∈ F, prOk p = true) → fldP n (bodyL F ++ 10 :: R) = F
  | [], 0, R, _, _ => rfl
  | [], n + 1, R, _, _ => by
    rw [fldP]
    show (match pairP (10 :: R) with | none => [] | some (p, r) => p :: fldP n r) = []
    rw [pairP_end]
  | p :: F, 0, R, h, _ => by simp at h
  | p :: F, n + 1, R, h, hp => by
    have e : bodyL (p :: F) ++ 10 :: R = pairL p ++ (bodyL F ++ 10 :: R) := by simp [bodyL]
    rw [e, fldP, pairP_text (hp p (by simp))]
    show p :: fldP n (bodyL F ++ 10 :: R) = _
    rw [fldP_text F n R (by simpa using h) fun q hq => hp q (by simp [hq])]
theorem splitP_eq {n v : List UInt8} (hn : nameOk n = true) (hv : v.length ≤ 256) : splitP (n ++ 61 :: v) = (⟨n, v⟩, 0) := by
  obtain ⟨n0, n1, n2⟩ := nameOk_no hn
  have h1 := idxB_at 61 n v 0 (fun x hx => (n2 x hx).2)
  rw [Nat.zero_add] at h1
  have e : ((n.length : Nat) : Int).toNat = n.length := by omega
  have d1 : (n ++ 61 :: v).take n.length = n := by simp
  have d2 : (n ++ 61 :: v).drop (n.length + 1) = v := by rw [List.drop_append]; simp
  unfold splitP
  rw [h1, if_neg (by omega), e, d1, if_neg (by rw [hn]; simp), if_neg (by simp; omega), d2]
theorem splitP_no {n : List UInt8} (h : ∀ x ∈ n, x ≠ 61) : (splitP n).2 = 20 := by
  unfold splitP
  rw [if_pos (by rw [idxB_no 61 n 0 h]; decide)]
theorem rfldP_text : ∀ (F : List Pr) (n : Nat) (b R : List UInt8) (a : Nat), F.length < n → (∀ p ∈ F, prOk p = true) → b.drop a = bodyL F ++ 10 :: R → rfldP b n a = some (F, a + (bodyL F).length + 1)
  | [], n + 1, b, R, a, _, _, hb => by
    replace hb : b.drop a = [] ++ 10 :: R := hb
    rw [rfldP, hb, rlnP_app (by intro x hx; cases hx)]
    rfl
  | p :: F, n + 1, b, R, a, h, hp, hb => by
    have hpo := hp p (by simp)
    obtain ⟨hn, hv⟩ := prOk_is hpo
    obtain ⟨n0, n1, n2⟩ := nameOk_no hn
    have hne : ∀ x ∈ p.name, x ≠ 10 := fun x hx => ne_of_ge (by have := (n2 x hx).1; show 10 < x.toNat; omega)
    have hbl : (bodyL (p :: F)).length = (pairL p).length + (bodyL F).length := by simp [bodyL]
    have hb1 : b.drop a = pairL p ++ (bodyL F ++ 10 :: R) := by rw [hb]; simp [bodyL]
    have hlen : b.length = a + ((pairL p).length + (bodyL F ++ 10 :: R).length) := by
      have h1 := congrArg List.length hb1
      rw [List.length_drop, List.length_append] at h1
      have h2 : 1 ≤ (bodyL F ++ 10 :: R).length := by simp; omega
      omega
    have hnext : b.drop (a + (pairL p).length) = bodyL F ++ 10 :: R := by
      rw [← List.drop_drop, hb1]
      simp
    have ih := rfldP_text F n b R (a + (pairL p).length) (by simpa using h) (fun q hq => hp q (by simp [hq])) hnext
    rw [rfldP]
    unfold pairL at hb1 hlen hbl ih
    cases hpv : plainV p.value with
    | true =>
      rw [hpv, if_pos rfl] at hb1 hlen hbl ih
      have e : ((p.name ++ [61]) ++ p.value) ++ [10] ++ (bodyL F ++ 10 :: R) = (p.name ++ 61 :: p.value) ++ 10 :: (bodyL F ++ 10 :: R) := by simp
      have h10 : ∀ x ∈ p.name ++ 61 :: p.value, x ≠ 10 := by
        intro x hx
        rcases List.mem_append.1 hx with hx | hx
        · exact hne x hx
        · rcases List.mem_cons.1 hx with rfl | hx
          · decide
          · exact plainV_no hpv x hx
      rw [hb1, e, rlnP_app h10]
      simp only
      rw [if_neg (by simp), splitP_eq hn hv, if_pos rfl]
      have ea : a + ((p.name ++ 61 :: p.value).length + 1) = a + (((p.name ++ [61]) ++ p.value) ++ [10]).length := by simp; omega
      rw [ea, ih]
      simp only [Option.some.injEq, Prod.mk.injEq, true_and]
      omega
    | false =>
      rw [hpv, if_neg (by decide)] at hb1 hlen hbl ih
      have e : (((p.name ++ [10]) ++ leB 8 p.value.length) ++ p.value) ++ [10] ++ (bodyL F ++ 10 :: R) = p.name ++ 10 :: (leB 8 p.value.length ++ (p.value ++ 10 :: (bodyL F ++ 10 :: R))) := by simp
      rw [e] at hb1
      have hl8 := leB_len 8 p.value.length
      have hd1 : b.drop (a + (p.name.length + 1)) = leB 8 p.value.length ++ (p.value ++ 10 :: (bodyL F ++ 10 :: R)) := drop_next hb1
      have hd2 : b.drop (a + (p.name.length + 1) + 8) = p.value ++ 10 :: (bodyL F ++ 10 :: R) := by
        rw [← List.drop_drop, hd1]
        exact List.drop_left' hl8
      have hd3 : b.drop (a + (p.name.length + 1) + 8 + p.value.length) = 10 :: (bodyL F ++ 10 :: R) := by
        rw [← List.drop_drop, hd2]
        simp
      have hN : leN ((b.drop (a + (p.name.length + 1))).take 8) = p.value.length := by
        rw [hd1, List.take_left' hl8, leN_leB, Nat.mod_eq_of_lt (by omega)]
      have hlen2 : b.length = a + (p.name.length + 1) + 8 + p.value.length + 1 + (bodyL F ++ 10 :: R).length := by
        rw [hlen]
        simp [hl8]
        omega
      have hg : b.getD (a + (p.name.length + 1) + 8 + p.value.length) 0 = 10 := by
        have h1 := List.getElem?_drop (xs := b) (i := a + (p.name.length + 1) + 8 + p.value.length) (j := 0)
        rw [hd3] at h1
        simp at h1
        rw [List.getD, show a + (p.name.length + 1) + 8 + p.value.length = a + (p.name.length + 1) + 8 + p.value.length from rfl, ← h1]
        rfl
      rw [hb1, rlnP_app hne]
      simp only
      rw [if_neg n0, if_neg (by rw [splitP_no fun x hx => (n2 x hx).2]; decide), hN, if_neg (by omega), if_neg (by
        rintro (h | h | h)
        · omega
        · omega
        · exact h hg)]
      have ea : a + (p.name.length + 1) + 8 + p.value.length + 1 = a + ((((p.name ++ [10]) ++ leB 8 p.value.length) ++ p.value) ++ [10]).length := by simp [hl8]; omega
      rw [ea, ih, hd2]
      simp only [Option.some.injEq, Prod.mk.injEq, List.take_left']
      refine ⟨by simp, ?_⟩
      omega
end Go.Ev.S
namespace Go.Ev.S
open Go Go.Proofs Go.Ev
def normI (it : It) : It := if it.gap then ⟨it.id, true, it.fr, it.til, Rec.zero⟩ else it
theorem headL_cons (a : List UInt8) (L : List (List UInt8)) (R : List UInt8) : headL (a :: L) ++ R = a ++ 10 :: (headL L ++ R) := by simp [headL]
theorem headL_nil (R : List UInt8) : headL [] ++ R = R := by simp [headL]
theorem textR_eq (it : It) (more : List UInt8) : textR it ++ more = (kPlace ++ showL (cOfP it.id it.rc)) ++ 10 :: ((kReal ++ dec it.rc.real.toNat) ++ 10 :: ((kMono ++ dec it.rc.mono.toNat) ++ 10 :: ((kSeq ++ dec it.rc.seq.toNat) ++ 10 :: ((kId ++ hexs it.id.l) ++ 10 :: ((kBoot ++ hexs it.rc.boot.l) ++ 10 :: (bodyL it.rc.fields.l ++ 10 :: more)))))) := by
  unfold textR sixL
  rw [List.append_assoc, List.append_assoc, headL_cons, headL_cons, headL_cons, headL_cons, headL_cons, headL_cons, headL_nil]
  rfl
theorem textG_eq (it : It) (more : List UInt8) : textG it ++ more = (kGap ++ (dec it.fr.toNat ++ 45 :: dec it.til.toNat)) ++ 10 :: ((kId ++ hexs it.id.l) ++ 10 :: ([] ++ 10 :: more)) := by
  unfold textG
  simp
theorem k10 : (∀ x ∈ kPlace, x ≠ 10) ∧ (∀ x ∈ kReal, x ≠ 10) ∧ (∀ x ∈ kMono, x ≠ 10) ∧ (∀ x ∈ kSeq, x ≠ 10) ∧ (∀ x ∈ kId, x ≠ 10) ∧ (∀ x ∈ kBoot, x ≠ 10) ∧ ∀ x ∈ kGap, x ≠ 10 := by decide
theorem dec10 (v : Nat) : ∀ x ∈ dec v, x ≠ 10 := no10 fun x h => (dec_dig v x h).1
theorem dec45 (v : Nat) : ∀ x ∈ dec v, x ≠ 45 := fun x h => ne_of_ge (by have := (dec_dig v x h).1; show 45 < x.toNat; omega)
theorem gap10 (it : It) : ∀ x ∈ kGap ++ (dec it.fr.toNat ++ 45 :: dec it.til.toNat), x ≠ 10 := by
  refine no10_app k10.2.2.2.2.2.2 (no10_app (dec10 _) fun x h => ?_)
  rcases List.mem_cons.1 h with rfl | h
  · decide
  · exact dec10 _ x h
theorem id10 (i : ID) : ∀ x ∈ kId ++ hexs i.l, x ≠ 10 := no10_app k10.2.2.2.2.1 (no10 (hexs_ge _))
theorem boot10 (i : ID) : ∀ x ∈ kBoot ++ hexs i.l, x ≠ 10 := no10_app k10.2.2.2.2.2.1 (no10 (hexs_ge _))
theorem place10 (c : Cur) : ∀ x ∈ kPlace ++ showL c, x ≠ 10 := no10_app k10.1 (no10 (showL_ge _))
theorem gap_is {it : It} (hi : it.Ok) (ho : itOk it = true) (hg : it.gap = true) : it.fr.toNat < 18446744073709551616 ∧ it.til.toNat < 18446744073709551616 ∧ ((it.fr.toNat : Nat) : Int) = it.fr ∧ ((it.til.toNat : Nat) : Int) = it.til ∧ it.rc.seq = 0 ∧ it.rc.real = 0 ∧ it.rc.mono = 0 ∧ it.rc.boot = ID.zero ∧ it.rc.fields.l = [] ∧ gapOk it = true := by
  have h1 := hi.fr
  have h2 := hi.til
  unfold isU64 at h1 h2
  unfold itOk at ho
  rw [hg, if_pos rfl] at ho
  have ho' := ho
  unfold gapOk at ho
  simp only [Bool.and_eq_true, decide_eq_true_eq] at ho
  obtain ⟨⟨⟨⟨⟨⟨a1, a2⟩, a3⟩, a4⟩, a5⟩, a6⟩, a7⟩ := ho
  exact ⟨by omega, by omega, by omega, by omega, a3, a4, a5, a6, List.eq_nil_of_length_eq_zero a7, ho'⟩
theorem rec_is {it : It} (hi : it.Ok) (ho : itOk it = true) (hg : it.gap = false) : (it.rc.real.toNat < 18446744073709551616 ∧ it.rc.mono.toNat < 18446744073709551616 ∧ it.rc.seq.toNat < 18446744073709551616) ∧ (((it.rc.real.toNat : Nat) : Int) = it.rc.real ∧ ((it.rc.mono.toNat : Nat) : Int) = it.rc.mono ∧ ((it.rc.seq.toNat : Nat) : Int) = it.rc.seq) ∧ it.fr = 0 ∧ it.til = 0 ∧ 1 ≤ it.rc.fields.l.length ∧ it.rc.fields.l.length ≤ 16 ∧ (∀ p ∈ it.rc.fields.l, prOk p = true) ∧ recOk it = true := by
  have h1 := hi.rc.seq
  have h2 := hi.rc.real
  have h3 := hi.rc.mono
  unfold isU64 at h1 h2 h3
  unfold itOk at ho
  rw [hg, if_neg (by decide)] at ho
  have ho' := ho
  unfold recOk at ho
  simp only [Bool.and_eq_true, decide_eq_true_eq, List.all_eq_true] at ho
  obtain ⟨⟨⟨⟨⟨a1, a2⟩, a3⟩, a4⟩, a5⟩, a6⟩ := ho
  exact ⟨⟨by omega, by omega, by omega⟩, ⟨by omega, by omega, by omega⟩, a1, a2, a4, a5, a6, ho'⟩
theorem slP_eq (s : Sl Pr) (h : 1 ≤ s.l.length) : slP s.l = s := by
  obtain ⟨n, l, hn⟩ := s
  cases l with
  | nil => simp at h
  | cons a l =>
    cases n with
    | true => exact absurd (hn rfl) (by simp)
    | false => rfl
theorem gapP_text {it : It} (hi : it.Ok) (ho : itOk it = true) (hg : it.gap = true) (more : List UInt8) : gapP (textG it ++ more) = normI it := by
  obtain ⟨f1, t1, f2, t2, -⟩ := gap_is hi ho hg
  unfold gapP normI
  rw [textG_eq, lnL_app (gap10 it), lnR_app (gap10 it), trim_self, cut_app 45 (dec45 _), hg, if_pos rfl]
  simp only [pu_dec f1, pu_dec t1, Option.getD_some, f2, t2]
  unfold idI
  rw [lnL_app (id10 it.id), trim_self, idOf_hexs]
theorem entP_text {it : It} (hi : it.Ok) (ho : itOk it = true) (hg : it.gap = false) (more : List UInt8) : entP (textR it ++ more) = it := by
  obtain ⟨⟨r1, m1, s1⟩, ⟨r2, m2, s2⟩, a1, a2, a3, a4, a5, -⟩ := rec_is hi ho hg
  have l0 := place10 (cOfP it.id it.rc)
  have l1 := no10_app k10.2.1 (dec10 it.rc.real.toNat)
  have l2 := no10_app k10.2.2.1 (dec10 it.rc.mono.toNat)
  have l3 := no10_app k10.2.2.2.1 (dec10 it.rc.seq.toNat)
  have l4 := id10 it.id
  have l5 := boot10 it.rc.boot
  unfold entP
  rw [textR_eq, lnR_app l0, lnR_app l1, lnR_app l2, lnR_app l3, lnR_app l4, lnR_app l5, fldP_text _ 17 _ (by omega) a5]
  unfold nmI idI
  rw [lnL_app l1, lnL_app l2, lnL_app l3, lnL_app l4, lnL_app l5, trim_self, trim_self, trim_self, trim_self, trim_self, pu_dec r1, pu_dec m1, pu_dec s1, idOf_hexs, idOf_hexs, slP_eq _ a3]
  simp only [Option.getD_some, r2, m2, s2]
  obtain ⟨i, g, f, t, r⟩ := it
  simp only at hg a1 a2
  subst hg a1 a2
  rfl
theorem gap_pre (R : List UInt8) : pre kGap (kPlace ++ R) = false := rfl
theorem itemP_text {it : It} (hi : it.Ok) (ho : itOk it = true) (more : List UInt8) : itemP (textL it ++ more) = normI it := by
  unfold textL itemP
  cases hg : it.gap with
  | true =>
    rw [if_pos rfl, if_pos (by rw [textG_eq, List.append_assoc]; exact pre_self _ _), gapP_text hi ho hg]
  | false =>
    simp only [Bool.false_eq_true, if_false]
    rw [if_neg (by rw [textR_eq, List.append_assoc, gap_pre]; decide), entP_text hi ho hg]
    unfold normI
    rw [hg, if_neg (by decide)]
theorem linesP_end (b : List UInt8) (a : Nat) : linesP b a [] = some ([], a) := rfl
theorem rgapP_text {it : It} (hi : it.Ok) (ho : itOk it = true) (hg : it.gap = true) (more : List UInt8) : rgapP (textG it ++ more) = (normI it, (textG it).length, true) := by
  obtain ⟨f1, t1, f2, t2, -⟩ := gap_is hi ho hg
  have e0 : (textG it ++ more).drop 0 = (kGap ++ (dec it.fr.toNat ++ 45 :: dec it.til.toNat)) ++ 10 :: ((kId ++ hexs it.id.l) ++ 10 :: ([] ++ 10 :: more)) := textG_eq it more
  have e1 := drop_next e0
  have e2 := drop_next e1
  have hL := linesP_step e0 (gap10 it) (linesP_step e1 (id10 it.id) (linesP_step (f := []) (x := []) e2 (by intro y hy; cases hy) (linesP_end (textG it ++ more) _)))
  unfold rgapP
  unfold kId at hL
  unfold kGap at hL
  have h45 := idxB_at 45 (dec it.fr.toNat) (dec it.til.toNat) 0 (dec45 _)
  rw [Nat.zero_add] at h45
  have e : (((dec it.fr.toNat).length : Nat) : Int).toNat = (dec it.fr.toNat).length := by omega
  have d1 : (dec it.fr.toNat ++ 45 :: dec it.til.toNat).take (dec it.fr.toNat).length = dec it.fr.toNat := by simp
  have d2 : (dec it.fr.toNat ++ 45 :: dec it.til.toNat).drop ((dec it.fr.toNat).length + 1) = dec it.til.toNat := by rw [List.drop_append]; simp
  unfold kGap kId
  rw [hL]
  simp only [h45, e, d1, d2]
  rw [if_neg (by omega), num_dec f1, num_dec t1, idOf_hexs, idP_hexs it.id.h]
  unfold normI
  rw [hg, if_pos rfl]
  simp only [Option.getD_some, f2, t2]
  have hl : (textG it).length = (kGap ++ (dec it.fr.toNat ++ 45 :: dec it.til.toNat)).length + 1 + ((kId ++ hexs it.id.l).length + 1) + 1 := by
    have := congrArg List.length (textG_eq it [])
    rw [List.append_nil] at this
    rw [this]
    simp
    omega
  rw [hl]
  unfold kGap kId
  simp
theorem rentP_text {it : It} (hi : it.Ok) (ho : itOk it = true) (hg : it.gap = false) (more : List UInt8) : rentP (textR it ++ more) = (it, (textR it).length, true) := by
  obtain ⟨⟨r1, m1, s1⟩, ⟨r2, m2, s2⟩, a1, a2, a3, a4, a5, -⟩ := rec_is hi ho hg
  have l0 := place10 (cOfP it.id it.rc)
  have l1 := no10_app k10.2.1 (dec10 it.rc.real.toNat)
  have l2 := no10_app k10.2.2.1 (dec10 it.rc.mono.toNat)
  have l3 := no10_app k10.2.2.2.1 (dec10 it.rc.seq.toNat)
  have l4 := id10 it.id
  have l5 := boot10 it.rc.boot
  have e0 : (textR it ++ more).drop 0 = _ := textR_eq it more
  have e1 := drop_next e0
  have e2 := drop_next e1
  have e3 := drop_next e2
  have e4 := drop_next e3
  have e5 := drop_next e4
  have e6 := drop_next e5
  have hL := linesP_step e0 l0 (linesP_step e1 l1 (linesP_step e2 l2 (linesP_step e3 l3 (linesP_step e4 l4 (linesP_step e5 l5 (linesP_end (textR it ++ more) _))))))
  have hF := rfldP_text it.rc.fields.l 17 _ _ _ (by omega) a5 e6
  have hl : (textR it).length = 0 + ((kPlace ++ showL (cOfP it.id it.rc)).length + 1) + ((kReal ++ dec it.rc.real.toNat).length + 1) + ((kMono ++ dec it.rc.mono.toNat).length + 1) + ((kSeq ++ dec it.rc.seq.toNat).length + 1) + ((kId ++ hexs it.id.l).length + 1) + ((kBoot ++ hexs it.rc.boot.l).length + 1) + (bodyL it.rc.fields.l).length + 1 := by
    have := congrArg List.length (textR_eq it [])
    rw [List.append_nil] at this
    rw [this]
    simp only [List.length_append, List.length_cons, List.length_nil]
    omega
  unfold rentP rsix
  rw [hL]
  simp only
  rw [num_dec r1, num_dec m1, num_dec s1, idP_hexs it.id.h, idP_hexs it.rc.boot.h, if_pos (by rfl), hF]
  simp only [Option.getD_some, r2, m2, s2, idOf_hexs, slP_eq _ a3]
  rw [hl]
  obtain ⟨i, g, f, t, r⟩ := it
  simp only at hg a1 a2
  subst hg a1 a2
  rfl
theorem rgapP_rec (it : It) (more : List UInt8) : (rgapP (textR it ++ more)).2.2 = false := by
  have e0 : (textR it ++ more).drop 0 = _ := textR_eq it more
  have hL : linesP (textR it ++ more) 0 [kGap, kId, []] = none := by
    rw [linesP, e0, rlnP_app (place10 _)]
    simp only
    rw [if_neg (by rw [gap_pre]; decide)]
  unfold rgapP
  rw [hL]
theorem rsel_text {it : It} (hi : it.Ok) (ho : itOk it = true) (more : List UInt8) : rsel (textL it ++ more) = (normI it, (textL it).length, true) := by
  unfold rsel textL
  cases hg : it.gap with
  | true =>
    rw [if_pos rfl, rgapP_text hi ho hg]
    rfl
  | false =>
    simp only [Bool.false_eq_true, if_false]
    rw [rgapP_rec, if_neg Bool.false_ne_true, rentP_text hi ho hg]
    unfold normI
    rw [hg, if_neg (by decide)]
theorem normI_text (it : It) : textL (normI it) = textL it := by
  unfold normI
  cases hg : it.gap with
  | true =>
    rw [if_pos rfl]
    unfold textL
    rw [hg, if_pos rfl, if_pos rfl]
    rfl
  | false => rw [if_neg (by decide)]
theorem normI_okB {it : It} (hi : it.Ok) (ho : itOk it = true) : itOk (normI it) = true := by
  unfold normI
  cases hg : it.gap with
  | true =>
    obtain ⟨-, -, -, -, -, -, -, -, -, h⟩ := gap_is hi ho hg
    rw [if_pos rfl]
    unfold itOk
    rw [if_pos rfl]
    unfold gapOk at h ⊢
    simp only [Bool.and_eq_true, decide_eq_true_eq] at h ⊢
    exact ⟨⟨⟨⟨⟨⟨h.1.1.1.1.1.1, h.1.1.1.1.1.2⟩, rfl⟩, rfl⟩, rfl⟩, rfl⟩, rfl⟩
  | false => rw [if_neg (by decide)]; exact ho
theorem textL_len {it : It} (hi : it.Ok) (ho : itOk it = true) : (textL it).length ≤ 10000 ∧ 1 ≤ (textL it).length := by
  unfold textL
  cases hg : it.gap with
  | true =>
    rw [if_pos rfl]
    have l1 := dec_len it.fr.toNat
    have l2 := dec_len it.til.toNat
    have l3 := hexs_len it.id.l
    rw [it.id.h] at l3
    unfold textG kGap kId
    simp
    omega
  | false =>
    rw [if_neg (by decide)]
    obtain ⟨-, -, -, -, -, -, -, h⟩ := rec_is hi ho hg
    obtain ⟨b1, -, b3⟩ := prOk_b h
    have h1 := headL_le (sixL it) (sixL_le it hi)
    have h2 := bodyL_le it.rc.fields.l 400 b3
    have h3 : (sixL it).length = 6 := rfl
    rw [h3] at h1
    unfold textR
    simp only [List.length_append, List.length_cons, List.length_nil]
    have h4 : it.rc.fields.l.length * 400 ≤ 16 * 400 := Nat.mul_le_mul_right _ b1
    omega
theorem pre_is {p s : List UInt8} (h : pre p s = true) : s = p ++ s.drop p.length := by
  unfold pre at h
  have h1 := beq_iff_eq.1 h
  have h2 := List.take_append_drop p.length s
  rw [h1] at h2
  exact h2.symm
theorem read_same (b : List UInt8) : rreadD b = readD b := by
  have hi := itemP_ok b
  have fwd : readOk b = true → rokP b = true ∧ rsel b = (itemP b, (textL (itemP b)).length, true) := by
    intro h
    unfold readOk at h
    rw [Bool.and_eq_true] at h
    obtain ⟨ho, hp⟩ := h
    have hb := pre_is hp
    have h1 := itemP_text hi ho (b.drop (textL (itemP b)).length)
    have h2 := rsel_text hi ho (b.drop (textL (itemP b)).length)
    rw [← hb] at h1 h2
    rw [← h1] at h2
    refine ⟨?_, h2⟩
    unfold rokP
    rw [h2]
    simp only [Bool.true_and, ho]
    unfold pre at hp
    rw [beq_iff_eq] at hp ⊢
    exact hp.symm
  have bwd : rokP b = true → readOk b = true := by
    intro h
    unfold rokP at h
    simp only [Bool.and_eq_true, beq_iff_eq] at h
    obtain ⟨-, ho, ht⟩ := h
    have hq := (rsel_q b).ok
    have hle := (rsel_q b).le
    have hb : b = textL (rsel b).1 ++ b.drop (rsel b).2.1 := by
      rw [ht]
      exact (List.take_append_drop _ _).symm
    have h1 := itemP_text hq ho (b.drop (rsel b).2.1)
    rw [← hb] at h1
    unfold readOk
    rw [h1, normI_okB hq ho, normI_text, Bool.true_and]
    unfold pre
    rw [ht, List.length_take, Nat.min_eq_left hle, beq_self_eq_true]
  unfold rreadD readD
  cases h : readOk b with
  | true =>
    obtain ⟨h1, h2⟩ := fwd h
    rw [h1, h2]
  | false =>
    have h1 : rokP b = false := by
      cases hr : rokP b with
      | false => rfl
      | true => rw [bwd hr] at h; cases h
    rw [h1]
    rfl
end Go.Ev.S
namespace Go.Ev.S
open Go Go.Proofs Go.Ev
theorem sameb_ev [MaxL] (x y : Sl UInt8) : call cx 20 [(.vsl x.nil (ofBytes x.l) x.l.length), (.vsl y.nil (ofBytes y.l) y.l.length)] [] = some (.bool (x.l == y.l), []) := by
  refine call_run Tryz.func20 rfl ⟨rfl, rfl⟩ ?_
  simp [Tryz.f20]
end Go.Ev.S
namespace Go.Ev.S
open Go Go.Proofs Go.Ev
def sameR (r s : Rec) : Bool := r.seq == s.seq && (r.real == s.real && (r.mono == s.mono && (r.boot == s.boot && r.fields.l == s.fields.l)))
def sameI (x y : It) : Bool := x.id == y.id && (x.gap == y.gap && (x.fr == y.fr && (x.til == y.til && sameR x.rc y.rc)))
theorem eqPr (p q : Pr) : (p == q) = (decide (p.name = q.name) && decide (p.value = q.value)) := by
  obtain ⟨a, b⟩ := p
  obtain ⟨c, d⟩ := q
  rw [Bool.eq_iff_iff]
  simp
theorem beq_drop {a b : List Pr} {k : Nat} (ha : k < a.length) (hb : k < b.length) : (a.drop k == b.drop k) = (a[k] == b[k] && a.drop (k + 1) == b.drop (k + 1)) := by
  rw [List.drop_eq_getElem_cons ha, List.drop_eq_getElem_cons hb]
  rfl
set_option maxHeartbeats 1000000 in
theorem spairs_ev [MaxL] (a b : Sl Pr) (ha : a.l.length < 1000000) (_ : b.l.length < 1000000) : call cx 102 [(.vsl a.nil (encs a.l) a.l.length), (.vsl b.nil (encs b.l) b.l.length)] [] = some (.bool (a.l == b.l), []) := by
  refine call_run Tryz.func102 rfl ⟨rfl, rfl⟩ ?_
  by_cases hne : a.l.length = b.l.length
  case neg =>
    have hne' : ¬ (a.l.length : Int) = (b.l.length : Int) := by omega
    have hf : (a.l == b.l) = false := beq_eq_false_iff_ne.2 fun e => hne (by rw [e])
    rw [hf]
    simp [Tryz.f102, hne']
  have hne' : (a.l.length : Int) = (b.l.length : Int) := by omega
  simp [Tryz.f102, hne]
  refine Run.loopThen (fun (k : Nat) e H' => k ≤ a.l.length ∧ (a.l == b.l) = (a.l.drop k == b.l.drop k) ∧ look e 0 = some (.vsl a.nil (encs a.l) a.l.length) ∧ look e 1 = some (.vsl b.nil (encs b.l) b.l.length) ∧ look e 13 = some (.int .i64 (k : Nat)) ∧ look e 12 = some (.int .i64 a.l.length) ∧ H' = []) (fun k => a.l.length - k) 0 ?_ ?_
  · simp [hne]
  rintro k e H' ⟨hk, hR, k0, k1, k13, k12, rfl⟩
  rw [hR]
  by_cases hlt : k < a.l.length
  · have hlt' : (k : Int) < (a.l.length : Int) := by omega
    have hlb : k < b.l.length := by omega
    have hlb' : (k : Int) < (b.l.length : Int) := by omega
    have hw : IntKind.i64.wrap ((k : Int) + 1) = ((k + 1 : Nat) : Int) := by rw [wrap_i64] <;> omega
    have n1 : a.nil = false := Sl.nn hlt
    have n2 : b.nil = false := Sl.nn hlb
    have hE : (a.l[k] == b.l[k]) = (decide (a.l[k].name = b.l[k].name) && decide (a.l[k].value = b.l[k].value)) := eqPr a.l[k] b.l[k]
    rw [beq_drop hlt hlb, hE]
    by_cases h1 : a.l[k].name = b.l[k].name
    · by_cases h2 : a.l[k].value = b.l[k].value
      · simp [k0, k1, k13, k12, hlt, hlb, hlt', hlb', n1, n2, Pr.cells, h1, h2, hw]
        exact ⟨k + 1, by omega, by omega, rfl, rfl⟩
      · simp [k0, k1, k13, k12, hlt, hlb, hlt', hlb', n1, n2, Pr.cells, h1, h2]
    · simp [k0, k1, k13, k12, hlt, hlb, hlt', hlb', n1, n2, Pr.cells, h1]
  · have hlt' : ¬ (k : Int) < (a.l.length : Int) := by omega
    rw [List.drop_eq_nil_of_le (by omega), List.drop_eq_nil_of_le (by omega)]
    have hlt2 : ¬ (k : Int) < (b.l.length : Int) := by omega
    simp [k0, k1, k13, k12, hlt2, hne']
set_option maxHeartbeats 1000000 in
theorem rpairs_ev [MaxL] (a b : Sl Pr) (ha : a.l.length < 1000000) (_ : b.l.length < 1000000) : call cx 93 [(.vsl a.nil (encs a.l) a.l.length), (.vsl b.nil (encs b.l) b.l.length)] [] = some (.bool (a.l == b.l), []) := by
  refine call_run Tryz.func93 rfl ⟨rfl, rfl⟩ ?_
  by_cases hne : a.l.length = b.l.length
  case neg =>
    have hne' : ¬ (a.l.length : Int) = (b.l.length : Int) := by omega
    have hf : (a.l == b.l) = false := beq_eq_false_iff_ne.2 fun e => hne (by rw [e])
    rw [hf]
    simp [Tryz.f93, hne']
  have hne' : (a.l.length : Int) = (b.l.length : Int) := by omega
  simp [Tryz.f93, hne]
  refine Run.loopThen (fun (k : Nat) e H' => k ≤ a.l.length ∧ (a.l == b.l) = (a.l.drop k == b.l.drop k) ∧ look e 0 = some (.vsl a.nil (encs a.l) a.l.length) ∧ look e 1 = some (.vsl b.nil (encs b.l) b.l.length) ∧ look e 5 = some (.int .i64 (k : Nat)) ∧ H' = []) (fun k => a.l.length - k) 0 ?_ ?_
  · simp [hne]
  rintro k e H' ⟨hk, hR, k0, k1, k5, rfl⟩
  rw [hR]
  by_cases hlt : k < a.l.length
  · have hlt' : (k : Int) < (a.l.length : Int) := by omega
    have hlb : k < b.l.length := by omega
    have hlb' : (k : Int) < (b.l.length : Int) := by omega
    have hw : IntKind.i64.wrap ((k : Int) + 1) = ((k + 1 : Nat) : Int) := by rw [wrap_i64] <;> omega
    have n1 : a.nil = false := Sl.nn hlt
    have n2 : b.nil = false := Sl.nn hlb
    have hE : (a.l[k] == b.l[k]) = (decide (a.l[k].name = b.l[k].name) && decide (a.l[k].value = b.l[k].value)) := eqPr a.l[k] b.l[k]
    rw [beq_drop hlt hlb, hE]
    by_cases h1 : a.l[k].name = b.l[k].name
    · by_cases h2 : a.l[k].value = b.l[k].value
      · simp [k0, k1, k5, hlt, hlb, hlt', hlb', n1, n2, Pr.cells, h1, h2, hw]
        exact ⟨k + 1, by omega, by omega, rfl, rfl⟩
      · simp [k0, k1, k5, hlt, hlb, hlt', hlb', n1, n2, Pr.cells, h1, h2]
    · simp [k0, k1, k5, hlt, hlb, hlt', hlb', n1, n2, Pr.cells, h1]
  · have hlt' : ¬ (k : Int) < (a.l.length : Int) := by omega
    rw [List.drop_eq_nil_of_le (by omega), List.drop_eq_nil_of_le (by omega)]
    have hlt2 : ¬ (k : Int) < (b.l.length : Int) := by omega
    simp [k0, k1, k5, hlt2, hne']
set_option maxHeartbeats 1000000 in
theorem srec_ev [MaxL] (r s : Rec) (ha : r.fields.l.length < 1000000) (hb : s.fields.l.length < 1000000) : call cx 62 [.agg (Enc.cells r), .agg (Enc.cells s)] [] = some (.bool (sameR r s), []) := by
  have hp := spairs_ev r.fields s.fields ha hb
  have t1 : List.take 16 (ofBytes r.boot.l ++ [(.vsl r.fields.nil (encs r.fields.l) r.fields.l.length)]) = ofBytes r.boot.l := by rw [List.take_append]; simp
  have t2 : List.take 16 (ofBytes s.boot.l ++ [(.vsl s.fields.nil (encs s.fields.l) s.fields.l.length)]) = ofBytes s.boot.l := by rw [List.take_append]; simp
  have d1 : List.drop 16 (ofBytes r.boot.l ++ [(.vsl r.fields.nil (encs r.fields.l) r.fields.l.length)]) = [(.vsl r.fields.nil (encs r.fields.l) r.fields.l.length)] := by rw [List.drop_append]; simp
  have d2 : List.drop 16 (ofBytes s.boot.l ++ [(.vsl s.fields.nil (encs s.fields.l) s.fields.l.length)]) = [(.vsl s.fields.nil (encs s.fields.l) s.fields.l.length)] := by rw [List.drop_append]; simp
  have b1 : (ofBytes r.boot.l).length = 16 := by simp
  have b2 : (ofBytes s.boot.l).length = 16 := by simp
  unfold sameR
  refine call_run Tryz.func62 rfl ⟨rfl, rfl⟩ ?_
  rw [Rec.cells, Rec.cells]
  cases h1 : (r.seq == s.seq) <;> cases h2 : (r.real == s.real) <;> cases h3 : (r.mono == s.mono) <;> cases h4 : (r.boot == s.boot) <;> simp [Tryz.f62, hp, t1, t2, d1, d2, b1, b2, h1, h2, h3, h4]
set_option maxHeartbeats 1000000 in
theorem rrec_ev [MaxL] (r s : Rec) (ha : r.fields.l.length < 1000000) (hb : s.fields.l.length < 1000000) : call cx 52 [.agg (Enc.cells r), .agg (Enc.cells s)] [] = some (.bool (sameR r s), []) := by
  have hp := rpairs_ev r.fields s.fields ha hb
  have t1 : List.take 16 (ofBytes r.boot.l ++ [(.vsl r.fields.nil (encs r.fields.l) r.fields.l.length)]) = ofBytes r.boot.l := by rw [List.take_append]; simp
  have t2 : List.take 16 (ofBytes s.boot.l ++ [(.vsl s.fields.nil (encs s.fields.l) s.fields.l.length)]) = ofBytes s.boot.l := by rw [List.take_append]; simp
  have d1 : List.drop 16 (ofBytes r.boot.l ++ [(.vsl r.fields.nil (encs r.fields.l) r.fields.l.length)]) = [(.vsl r.fields.nil (encs r.fields.l) r.fields.l.length)] := by rw [List.drop_append]; simp
  have d2 : List.drop 16 (ofBytes s.boot.l ++ [(.vsl s.fields.nil (encs s.fields.l) s.fields.l.length)]) = [(.vsl s.fields.nil (encs s.fields.l) s.fields.l.length)] := by rw [List.drop_append]; simp
  have b1 : (ofBytes r.boot.l).length = 16 := by simp
  have b2 : (ofBytes s.boot.l).length = 16 := by simp
  unfold sameR
  refine call_run Tryz.func52 rfl ⟨rfl, rfl⟩ ?_
  rw [Rec.cells, Rec.cells]
  cases h1 : (r.seq == s.seq) <;> cases h2 : (r.real == s.real) <;> cases h3 : (r.mono == s.mono) <;> cases h4 : (r.boot == s.boot) <;> simp [Tryz.f52, hp, t1, t2, d1, d2, b1, b2, h1, h2, h3, h4]
set_option maxHeartbeats 1000000 in
theorem sitem_ev [MaxL] (x y : It) (ha : x.rc.fields.l.length < 1000000) (hb : y.rc.fields.l.length < 1000000) : call cx 24 [.agg (Enc.cells x), .agg (Enc.cells y)] [] = some (.bool (sameI x y), []) := by
  have hp := srec_ev x.rc y.rc ha hb
  have u1 : List.take 17 (ofBytes x.rc.boot.l ++ [(.vsl x.rc.fields.nil (encs x.rc.fields.l) x.rc.fields.l.length)]) = ofBytes x.rc.boot.l ++ [(.vsl x.rc.fields.nil (encs x.rc.fields.l) x.rc.fields.l.length)] := List.take_of_length_le (by simp)
  have u2 : List.take 17 (ofBytes y.rc.boot.l ++ [(.vsl y.rc.fields.nil (encs y.rc.fields.l) y.rc.fields.l.length)]) = ofBytes y.rc.boot.l ++ [(.vsl y.rc.fields.nil (encs y.rc.fields.l) y.rc.fields.l.length)] := List.take_of_length_le (by simp)
  rw [Rec.cells, Rec.cells] at hp
  simp only [List.cons_append, List.nil_append] at hp
  unfold sameI
  refine call_run Tryz.func24 rfl ⟨rfl, rfl⟩ ?_
  cases h1 : (x.id == y.id) <;> cases h2 : (x.gap == y.gap) <;> cases h3 : (x.fr == y.fr) <;> cases h4 : (x.til == y.til) <;> simp [Tryz.f24, u1, u2, hp, h1, h2, h3, h4]
set_option maxHeartbeats 1000000 in
theorem ritem_ev [MaxL] (x y : It) (ha : x.rc.fields.l.length < 1000000) (hb : y.rc.fields.l.length < 1000000) : call cx 19 [.agg (Enc.cells x), .agg (Enc.cells y)] [] = some (.bool (sameI x y), []) := by
  have hp := rrec_ev x.rc y.rc ha hb
  have u1 : List.take 17 (ofBytes x.rc.boot.l ++ [(.vsl x.rc.fields.nil (encs x.rc.fields.l) x.rc.fields.l.length)]) = ofBytes x.rc.boot.l ++ [(.vsl x.rc.fields.nil (encs x.rc.fields.l) x.rc.fields.l.length)] := List.take_of_length_le (by simp)
  have u2 : List.take 17 (ofBytes y.rc.boot.l ++ [(.vsl y.rc.fields.nil (encs y.rc.fields.l) y.rc.fields.l.length)]) = ofBytes y.rc.boot.l ++ [(.vsl y.rc.fields.nil (encs y.rc.fields.l) y.rc.fields.l.length)] := List.take_of_length_le (by simp)
  rw [Rec.cells, Rec.cells] at hp
  simp only [List.cons_append, List.nil_append] at hp
  unfold sameI
  refine call_run Tryz.func19 rfl ⟨rfl, rfl⟩ ?_
  cases h1 : (x.id == y.id) <;> cases h2 : (x.gap == y.gap) <;> cases h3 : (x.fr == y.fr) <;> cases h4 : (x.til == y.til) <;> simp [Tryz.f19, u1, u2, hp, h1, h2, h3, h4]
end Go.Ev.S
namespace Go.Ev.S
open Go Go.Proofs Go.Ev
def lightP (it : It) : Bool := decide (it.rc.fields.l.length ≤ 20) && it.rc.fields.l.all fun p => decide (p.name.length ≤ 90) && decide (p.value.length ≤ 300)
set_option maxHeartbeats 1000000 in
theorem light_ev [MaxL] (it : It) : call cx 12 [.agg (Enc.cells it)] [] = some (.bool (lightP it), []) := by
  unfold lightP
  generalize hL : it.rc.fields = L at *
  refine call_run Tryz.func12 rfl ⟨rfl, rfl⟩ ?_
  have t17 : List.take 17 (ofBytes it.rc.boot.l ++ [(.vsl L.nil (encs L.l) L.l.length)]) = ofBytes it.rc.boot.l ++ [(.vsl L.nil (encs L.l) L.l.length)] := List.take_of_length_le (by simp)
  by_cases h20 : L.l.length ≤ 20
  case neg =>
    have h20' : (20 : Int) < (L.l.length : Int) := by omega
    simp [Tryz.f12, hL, h20, h20']
  have h20' : ¬ (20 : Int) < (L.l.length : Int) := by omega
  simp [Tryz.f12, hL, h20, h20']
  refine Run.loopThen (fun (k : Nat) e H' => k ≤ L.l.length ∧ (L.l.all fun p => decide (p.name.length ≤ 90) && decide (p.value.length ≤ 300)) = ((L.l.drop k).all fun p => decide (p.name.length ≤ 90) && decide (p.value.length ≤ 300)) ∧ look e 3 = some (.vsl L.nil (encs L.l) L.l.length) ∧ look e 4 = some (.int .i64 (k : Nat)) ∧ H' = [some (Enc.cells it)]) (fun k => L.l.length - k) 0 ?_ ?_
  · simp
  rintro k e H' ⟨hk, hR, k3, k4, rfl⟩
  rw [hR]
  by_cases hlt : k < L.l.length
  · have hlt' : (k : Int) < (L.l.length : Int) := by omega
    have hw : IntKind.i64.wrap ((k : Int) + 1) = ((k + 1 : Nat) : Int) := by rw [wrap_i64] <;> omega
    have n1 : L.nil = false := Sl.nn hlt
    rw [List.drop_eq_getElem_cons hlt, List.all_cons]
    by_cases h1 : L.l[k].name.length ≤ 90
    · have h1' : ¬ (90 : Int) < (L.l[k].name.length : Int) := by omega
      by_cases h2 : L.l[k].value.length ≤ 300
      · have h2' : ¬ (300 : Int) < (L.l[k].value.length : Int) := by omega
        simp [k3, k4, hlt, hlt', n1, Pr.cells, h1, h2, h1', h2', hw]
        refine ⟨k + 1, by omega, by omega, ?_, rfl⟩
        rfl
      · have h2' : (300 : Int) < (L.l[k].value.length : Int) := by omega
        simp [k3, k4, hlt, hlt', n1, Pr.cells, h1, h2, h1', h2']
    · have h1' : (90 : Int) < (L.l[k].name.length : Int) := by omega
      simp [k3, k4, hlt, hlt', n1, Pr.cells, h1, h1']
  · have hlt' : ¬ (k : Int) < (L.l.length : Int) := by omega
    rw [List.drop_eq_nil_of_le (by omega)]
    simp [k3, k4, hlt']
theorem readD_text {it : It} (hi : it.Ok) (ho : itOk it = true) (more : List UInt8) : readD (textL it ++ more) = .tup [.agg (Enc.cells (normI it)), .int .i64 (textL it).length, .int .i64 0] := by
  unfold readD readOk
  rw [itemP_text hi ho, normI_okB hi ho, normI_text, pre_self, Bool.and_self, if_pos rfl]
def firstI : It := ⟨ID.zero, true, 1, 2, Rec.zero⟩
theorem firstI_ok : firstI.Ok := ⟨by unfold isU64 firstI; decide, by unfold isU64 firstI; decide, Rec.zero_ok⟩
theorem first_text : textL firstI = [95, 95, 71, 65, 80, 61, 49, 45, 50, 10, 95, 95, 83, 69, 81, 78, 85, 77, 95, 73, 68, 61, 48, 48, 48, 48, 48, 48, 48, 48, 48, 48, 48, 48, 48, 48, 48, 48, 48, 48, 48, 48, 48, 48, 48, 48, 48, 48, 48, 48, 48, 48, 48, 48, 10, 10] := by decide
theorem first_ok : itOk firstI = true := by decide
set_option maxHeartbeats 1000000 in
set_option maxRecDepth 8000 in
theorem first_ev [MaxL] : call cx 11 [] [] = some (.bool true, []) := by
  have hr := read_ev (.of (textL firstI ++ [109, 111, 114, 101])) (by rw [Sl.of_l, first_text]; decide) fun h => by
    have := textL_len (itemP_ok (textL firstI ++ [109, 111, 114, 101])) h
    simp only [Sl.of_l]
    omega
  rw [Sl.of_l, readD_text firstI_ok first_ok] at hr
  have ht := text_ev firstI firstI_ok (fun p hp => (by cases hp)) (by decide)
  unfold textD at ht
  rw [first_ok, if_pos rfl] at ht
  rw [first_text] at ht hr
  have hc : Enc.cells firstI = ofBytes ID.zero.l ++ [.bool true, .int .u64 1, .int .u64 2, .int .u64 0, .int .u64 0, .int .u64 0] ++ (ofBytes ID.zero.l ++ [.vsl true [] 0]) := rfl
  have z16 : List.replicate 16 (D.int .u8 0) = ofBytes ID.zero.l := rfl
  refine call_run Tryz.func11 rfl ⟨rfl, rfl⟩ ?_
  have hN : normI firstI = firstI := rfl
  rw [hN, hc] at hr
  rw [hc] at ht
  have zz : ofBytes ID.zero.l = [.int .u8 0, .int .u8 0, .int .u8 0, .int .u8 0, .int .u8 0, .int .u8 0, .int .u8 0, .int .u8 0, .int .u8 0, .int .u8 0, .int .u8 0, .int .u8 0, .int .u8 0, .int .u8 0, .int .u8 0, .int .u8 0] := rfl
  rw [zz] at hr ht
  simp only [Sl.of_nil, List.cons_append, List.nil_append, List.length_cons, List.length_nil, Nat.zero_add, Nat.reduceAdd] at hr ht
  simp [Tryz.f11, hr, ht]
end Go.Ev.S
namespace Go.Ev.S
open Go Go.Proofs Go.Ev
def textS (it : It) : Sl UInt8 := if itOk it then .of (textL it) else .none
theorem textS_D (it : It) : textD it = (.vsl (textS it).nil (ofBytes (textS it).l) (textS it).l.length) := by
  unfold textD textS
  split <;> rfl
def rdI (b : List UInt8) : It := if readOk b then itemP b else It.zero
def rdN (b : List UInt8) : Nat := if readOk b then (textL (itemP b)).length else 0
def rdC (b : List UInt8) : Int := if readOk b then 0 else 20
theorem readD_I (b : List UInt8) : readD b = .tup [.agg (Enc.cells (rdI b)), .int .i64 (rdN b : Nat), .int .i64 (rdC b)] := by
  unfold readD rdI rdN rdC
  split <;> rfl
theorem sameI_refl (x : It) : sameI x x = true := by unfold sameI sameR; simp
theorem light_b {x : It} (h : lightP x = true) : x.rc.fields.l.length ≤ 20 ∧ ∀ p ∈ x.rc.fields.l, PrB p := by
  unfold lightP at h
  simp only [Bool.and_eq_true, decide_eq_true_eq, List.all_eq_true] at h
  refine ⟨h.1, fun p hp => ?_⟩
  have := h.2 p hp
  exact ⟨by omega, by omega⟩
theorem rdI_n (b : List UInt8) (hb : b.length < 1000000) : (rdI b).rc.fields.l.length < 1000000 := by
  unfold rdI
  split
  · exact (itemP_b b hb).2
  · decide
theorem sread_ev [MaxL] (s : Sl UInt8) (hs : s.l.length < 1000000) : call cx 16 [(.vsl s.nil (ofBytes s.l) s.l.length)] [] = some (.tup [.agg (Enc.cells (rdI s.l)), .int .i64 (rdN s.l : Nat), .int .i64 (rdC s.l)], []) ∧ call cx 21 [(.vsl s.nil (ofBytes s.l) s.l.length)] [] = some (.tup [.agg (Enc.cells (rdI s.l)), .int .i64 (rdN s.l : Nat), .int .i64 (rdC s.l)], []) := by
  have h1 := read_ev s hs fun h => by have := textL_len (itemP_ok s.l) h; omega
  have h2 := rread_ev s hs
  rw [read_same] at h2
  rw [readD_I] at h1 h2
  exact ⟨h1, h2⟩
set_option maxHeartbeats 4000000 in
set_option maxRecDepth 16000 in
theorem wsays_ev [MaxL] (x y : It) (hx : x.Ok) (b : Sl UInt8) : call cx 5 [.agg (Enc.cells x), .agg (Enc.cells y), (.vsl b.nil (ofBytes b.l) b.l.length)] [] = some (.bool true, []) := by
  refine call_run Tryz.func5 rfl ⟨rfl, rfl⟩ ?_
  have f0 := first_ev
  have lx := light_ev x
  have ly := light_ev y
  cases hlx : lightP x with
  | false =>
    rw [hlx] at lx
    simp [Tryz.f5, f0, lx]
  | true =>
    cases hly : lightP y with
    | false =>
      rw [hlx] at lx
      rw [hly] at ly
      simp [Tryz.f5, f0, lx, ly]
    | true =>
      rw [hlx] at lx
      rw [hly] at ly
      by_cases h9 : b.l.length ≤ 900
      case neg =>
        have h9' : (900 : Int) < (b.l.length : Int) := by omega
        simp [Tryz.f5, f0, lx, ly, h9']
      have h9' : ¬ (900 : Int) < (b.l.length : Int) := by omega
      obtain ⟨nx, bx⟩ := light_b hlx
      obtain ⟨ny, -⟩ := light_b hly
      obtain ⟨r1, r2⟩ := sread_ev b (by omega)
      have t1 := text_ev x hx bx (by omega)
      have t2 := rtext_ev x hx bx (by omega)
      rw [textS_D] at t1 t2
      have w1 := wright_ev x bx (by omega)
      have w2 := rright_ev x hx bx (by omega)
      have s1 := sameb_ev (textS x) (textS x)
      rw [beq_self_eq_true] at s1
      have i1 := ritem_ev (rdI b.l) (rdI b.l) (rdI_n _ (by omega)) (rdI_n _ (by omega))
      have i2 := sitem_ev x y (by omega) (by omega)
      have i3 := ritem_ev x y (by omega) (by omega)
      have i4 := sitem_ev x x (by omega) (by omega)
      rw [sameI_refl] at i1 i4
      generalize rdI b.l = q at *
      generalize rdN b.l = n at *
      generalize rdC b.l = c at *
      generalize textS x = t at *
      generalize itOk x = o at *
      generalize sameI x y = e at *
      simp [Tryz.f5, f0, lx, ly, h9', r1, r2, t1, t2, w1, w2, s1, i1, i2, i3, i4]

end Go.Ev.S
namespace Go.Ev.S
open Go Go.Proofs Go.Ev
theorem has_IDm {n : Nat} {cs : List D} (h : HasT Tryz.prog (n + 2) 23 cs) : ∃ i : ID, cs = ofBytes i.l := has_id un23 un5 h
theorem has_Pr {n : Nat} {cs : List D} (h : HasT Tryz.prog (n + 1 + 1) 70 cs) : ∃ p : Pr, cs = Enc.cells p ∧ (p.name.length ≤ maxLen ∧ p.value.length ≤ maxLen) := by
  have h := has_struct (P := Tryz.prog) (n := n + 1) (t := 70) Tryz.underlying70 h
  simp only [HasFs] at h
  obtain ⟨a, b, rfl, -, ha, c, d, rfl, -, hc, rfl⟩ := h
  obtain ⟨x1, rfl, w1⟩ := has_str un9 ha
  obtain ⟨x2, rfl, w2⟩ := has_str un9 hc
  exact ⟨⟨x1, x2⟩, by simp [Pr.cells], w1, w2⟩
theorem has_Rec {n : Nat} {cs : List D} (h : HasT Tryz.prog (n + 3 + 1) 27 cs) : ∃ r : Rec, cs = Enc.cells r ∧ (r.Ok ∧ r.Fit) := by
  have h := has_struct (P := Tryz.prog) (n := n + 3) (t := 27) Tryz.underlying27 h
  simp only [HasFs] at h
  obtain ⟨a, b, rfl, -, ha, c, d, rfl, -, hc, e, f, rfl, -, he, g, k, rfl, -, hg, i, j, rfl, -, hi, rfl⟩ := h
  obtain ⟨x1, rfl, w1⟩ := has_u64 un24 ha
  obtain ⟨x2, rfl, w2⟩ := has_u64 un24 hc
  obtain ⟨x3, rfl, w3⟩ := has_u64 un24 he
  obtain ⟨id, rfl⟩ := has_IDm hg
  obtain ⟨s, rfl, s1, s2⟩ := has_slice (α := Pr) un25 (fun l => has_Pr) hi
  exact ⟨⟨x1, x2, x3, id, s⟩, by simp [Rec.cells], ⟨w1, w2, w3⟩, s1, s2⟩
theorem has_It {n : Nat} {cs : List D} (h : HasT Tryz.prog (n + 4 + 1) 29 cs) : ∃ i : It, cs = Enc.cells i ∧ (i.Ok ∧ i.rc.Fit) := by
  have h := has_struct (P := Tryz.prog) (n := n + 4) (t := 29) Tryz.underlying29 h
  simp only [HasFs] at h
  obtain ⟨a, b, rfl, -, ha, c, d, rfl, -, hc, e, f, rfl, -, he, g, k, rfl, -, hg, i, j, rfl, -, hi, rfl⟩ := h
  obtain ⟨id, rfl⟩ := has_IDm ha
  obtain ⟨gap, rfl⟩ := has_bool un4 hc
  obtain ⟨x1, rfl, w1⟩ := has_u64 un24 he
  obtain ⟨x2, rfl, w2⟩ := has_u64 un24 hg
  obtain ⟨r, rfl, r1, r2⟩ := has_Rec hi
  exact ⟨⟨id, gap, x1, x2, r⟩, by simp [It.cells, Rec.cells], ⟨w1, w2, r1⟩, r2⟩
end Go.Ev.S
namespace Go.Ev
open Go Go.Proofs Go.ChangeShapes Go.WideShapes Go.ChangeAt Go.RowKit
theorem handed_shaped {H : Type} {enc : TypeId × Value → H} {a : Assume} {C : Checked} {os : Os} {f : FuncId} {fn : Func} {s : ChangeSpec} {conds : List PathCond} {apart fresh handsOn again : Bool} {X : World → Array Value → Prop}
    (hX : ∀ (w w' : World) (args : Array Value), w.heap = w'.heap → X w args → X w' args)
    (own : ownKnob C.prog.godebug = none) (started : os.Started) (noInit : C.prog.inits.idxOf? f = none) (hfn : C.prog.funcs[f]? = some fn)
    (witness : ∃ (w : World) (tape : Tape) (i : Input), w.os = os ∧ (w.forCall tape i).Shaped C.prog ∧ i.vars = [] ∧ Input.okWide C.prog (w.forCall tape i) .any w.heap.size f i ∧
      ((s.pre enc C.prog fn conds apart (w.forCall tape i).memory i.args ∧ X (w.forCall tape i).memory i.args) ∧ sizedMet enc C.prog fn (OpenSpec.ofChange s) apart (w.forCall tape i).memory i.args) ∧ a.holds C.prog (lone (Frame.enter C.prog f i.args .normal) [] (w.forCall tape i)))
    (contract : ∀ (W : World) (base : Nat) (args : Array Value) (ds gs : List (DataW H)) (before : List MemPlace),
      (∀ (j : Nat) t v, fn.params[j]? = some t → args[j]? = some v → Value.okWide C.prog W .any base t v) →
      DataW.Whole enc C.prog fn.params.toList s.vars apart W args.toList ds gs before → X W args → W.ShapedOpen C.prog →
      Calls C.prog f args W fun e W' => ∃ v, e = .returned v ∧ s.post enc C.prog fn apart fresh handsOn again W args v W') :
    ReturnsInHanded a C os f .any (fun w args => (s.pre enc C.prog fn conds apart w args ∧ X w args) ∧ sizedMet enc C.prog fn (OpenSpec.ofChange s) apart w args) (s.post enc C.prog fn apart fresh handsOn again) := by
  refine returnsInHanded_of_calls own started noInit witness ?_
  intro w tape i _ hsh _ hok hpre _
  obtain ⟨_, _, _, fn', hfn', _, _, _, _, hval⟩ := hok
  have e : fn' = fn := Option.some.inj (hfn'.symm.trans hfn)
  subst e
  obtain ⟨⟨⟨ds, gs, before, hw, hc⟩, hx⟩, hz⟩ := hpre
  have hw' := DataW.Whole.of_heap (w' := w.forCall tape i) (by rfl) hw
  refine (contract (w.forCall tape i) w.heap.size i.args ds gs before hval hw' (hX _ _ _ (by rfl) hx) hsh).mono fun e W' ⟨v, he, hp⟩ => ?_
  subst he
  exact ChangeSpec.post_blind hp
end Go.Ev
