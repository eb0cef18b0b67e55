import Derived.Test.YtknidmbkmglfaaaGreatDoorC4
import Derived.Shelf.LaysM
import Derived.Shelf.Strconv.Clone
import Derived.Shelf.Strings.Search2
import Derived.Shelf.Strings.Repeat
import Derived.Test.YtknidmbkmglfaaaGreatDoorProg
import Derived.Shelf.Strings.Shaped
import Derived.Handed
import Derived.LaidMore
/- A hash of bytes: the document's. -/
namespace Go.Ev.S
open Go Go.Proofs Go.Ev
theorem turn_at [MaxL] {x r : Int} {k : Nat} (hk : k < 32) (e : rolI x k = r) {kk : Int} (hkk : kk = k) : call cx 76 [.int .u32 x, .int .u64 kk] [] = some (.int .u32 r, []) := by
  rw [hkk, ← e]
  have hw2 : IntKind.u64.wrap (32 - (k : Int)) = ((32 - k : Nat) : Int) := by rw [wrap_u64] <;> omega
  have m1 : min k 32 = k := by omega
  have hn : ¬ (k : Int) < 0 := by omega
  refine call_run Tryz.func76 rfl ⟨rfl, rfl⟩ ?_
  unfold rolI
  obtain ⟨j, hj⟩ : ∃ j, j = 32 - k := ⟨_, rfl⟩
  rw [← hj] at hw2 ⊢
  have m2 : min j 32 = j := by omega
  have hn2 : ¬ (j : Int) < 0 := by omega
  simp [Tryz.f76, hw2, IntKind.bits, m1, m2, hn, hn2]
theorem bits32 : 2 ^ IntKind.u32.bits = 4294967296 := by simp only [IntKind.bits]
theorem word_step (x y : Nat) (hy : y < 256) (hx : x * 256 + y < 4294967296) : orI .u32 ((x : Int) * 256) (y : Int) = ((x * 256 + y : Nat) : Int) := by
  have e3 : x * 256 < 2 ^ IntKind.u32.bits := Nat.lt_of_lt_of_eq (Nat.lt_of_le_of_lt (Nat.le_add_right _ _) hx) bits32.symm
  have e4 : y < 2 ^ IntKind.u32.bits := Nat.lt_of_lt_of_eq (Nat.lt_of_lt_of_le hy (by decide)) bits32.symm
  have e1 : (x : Int) * 256 = ((x * 256 : Nat) : Int) := by omega
  rw [e1, orI_nat rfl e3 e4, or_shl x y hy]
set_option maxHeartbeats 1000000 in
theorem word_ev [MaxL] (nl : Bool) (l : List UInt8) (hnl : nl = true → l = []) (a : Nat) (ha : a < 5611686018427387904) (_ : l.length < 4611686018427387904) {at_ : Int} (hat : at_ = a) : call cx 75 [.vsl nl (ofBytes l) l.length, .int .i64 at_] [] = some (.int .u32 (wordL l a : Nat), []) := by
  subst hat
  refine call_run Tryz.func75 rfl ⟨rfl, rfl⟩ ?_
  simp [Tryz.f75]
  refine Run.loopThen (fun (k : Nat) e H => k ≤ 4 ∧ H = [] ∧ look e 0 = some (.vsl nl (ofBytes l) l.length) ∧ look e 1 = some (.int .i64 a) ∧ look e 5 = some (.int .u32 (leN ((l.drop (a + k)).take (4 - k)) : Nat)) ∧ look e 6 = some (.int .i64 ((k : Int) - 1))) (fun k => k) 4 (by simp [leN]) ?_
  rintro k e H ⟨hk, rfl, h0, h1, h5, h6⟩
  cases k with
  | zero =>
    simp [h0, h1, h5, h6]
    rfl
  | succ j =>
    have hj : (0 : Int) ≤ (j : Int) := by omega
    have e1 : ((j + 1 : Nat) : Int) - 1 = (j : Int) := by omega
    rw [e1] at h6
    have hwk : IntKind.i64.wrap ((j : Int) - 1) = (j : Int) - 1 := by rw [wrap_i64]; omega
    have hwj : IntKind.i64.wrap ((a : Int) + (j : Int)) = ((a + j : Nat) : Int) := by rw [wrap_i64] <;> omega
    have hp8 : (2 : Int) ^ min 8 IntKind.u32.bits = 256 := by decide
    have hn8 : leN ((l.drop (a + (j + 1))).take (4 - (j + 1))) < 256 ^ 3 := by
      refine Nat.lt_of_lt_of_le (leN_lt _) (Nat.pow_le_pow_right (by decide) ?_)
      rw [List.length_take]
      omega
    obtain ⟨v, hv⟩ : ∃ v, leN ((l.drop (a + (j + 1))).take (4 - (j + 1))) = v := ⟨_, rfl⟩
    rw [hv] at h5 hn8
    have hwv : IntKind.u32.wrap ((v : Int) * 256) = (v : Int) * 256 := by rw [wrap_u32] <;> omega
    by_cases hlt : a + j < l.length
    · have hlt' : ((a + j : Nat) : Int) < (l.length : Int) := by omega
      have hnn : nl = false := by
        cases hq : nl with
        | false => rfl
        | true => rw [hnl hq] at hlt; simp at hlt
      have hd : (l.drop (a + j)).take (4 - j) = l[a + j] :: (l.drop (a + (j + 1))).take (4 - (j + 1)) := by
        rw [List.drop_eq_getElem_cons hlt, show 4 - j = (4 - (j + 1)) + 1 by omega, List.take_succ_cons, Nat.add_assoc]
      have hb := l[a + j].toNat_lt
      have hst := word_step v l[a + j].toNat hb (by omega)
      have hwu : IntKind.u32.wrap (l[a + j].toNat : Int) = (l[a + j].toNat : Int) := by rw [wrap_u32]; omega
      have g1 : (0 : Int) ≤ (a : Int) + (j : Int) := by omega
      have g2 : (a : Int) + (j : Int) < (l.length : Int) := by omega
      have g3 : ((a : Int) + (j : Int)).toNat = a + j := by omega
      have hat := ofBytes_at hlt
      simp [h0, h1, h5, h6, hj, hwj, hwk, hwu, hnn, g1, g2, g3, hat, hp8, hwv, hst]
      exact ⟨j, by omega, by omega, by rw [hd, leN, hv]; omega, rfl⟩
    · have hlt' : ¬ ((a + j : Nat) : Int) < (l.length : Int) := by omega
      have g2 : ¬ (a : Int) + (j : Int) < (l.length : Int) := by omega
      have hv0 : v = 0 := by
        rw [← hv, List.drop_eq_nil_of_le (by omega)]
        simp [leN]
      subst hv0
      simp [h0, h1, h5, h6, hj, hwj, hwk, g2, hp8]
      exact ⟨j, by omega, by omega, by rw [List.drop_eq_nil_of_le (by omega)]; simp [leN], rfl⟩
theorem wordL_drop (l : List UInt8) (a k : Nat) : wordL (l.drop a) k = wordL l (a + k) := by
  unfold wordL
  rw [List.drop_drop]
set_option maxHeartbeats 4000000 in
set_option maxRecDepth 4000 in
theorem rlookup_ev [MaxL] (s : Sl UInt8) (hs : s.l.length < 4611686018427387904) : call cx 47 [(.vsl s.nil (ofBytes s.l) s.l.length)] [] = some (.int .u64 (lookN s.l), []) := by
  refine call_run Tryz.func47 rfl ⟨rfl, rfl⟩ ?_
  have hN : lookN s.l = lookR s.l (add32 3735928559 (IntKind.u32.wrap (s.l.length : Nat)), add32 3735928559 (IntKind.u32.wrap (s.l.length : Nat)), add32 3735928559 (IntKind.u32.wrap (s.l.length : Nat))) := rfl
  obtain ⟨n, hn⟩ : ∃ n, IntKind.u32.wrap (3735928559 + IntKind.u32.wrap (s.l.length : Nat)) = n := ⟨_, rfl⟩
  have hn2 : add32 3735928559 (IntKind.u32.wrap (s.l.length : Nat)) = n := hn
  rw [hn2] at hN
  clear hn2
  have hp64 : (2 : Int) ^ min 32 IntKind.u64.bits = 4294967296 := by decide
  generalize lookN s.l = res at *
  by_cases h0 : s.l.length = 0
  · have h0' : (s.l.length : Int) = 0 := by omega
    rw [lookR_nil h0] at hN
    subst hN
    rw [h0] at hn
    replace hn : IntKind.u32.wrap (3735928559 + IntKind.u32.wrap (0 : Int)) = n := hn
    have hn0 : n = 3735928559 := by rw [← hn]; decide
    subst hn0
    simp [Tryz.f47, h0, outT, hp64]
  have h0' : ¬ (s.l.length : Int) = 0 := by omega
  simp [Tryz.f47, hn, h0]
  refine Run.loopThen (fun (q : Nat × Int × Int × Int) e H' => q.1 < s.l.length ∧ lookR (s.l.drop q.1) q.2 = res ∧ look e 0 = some (.vsl s.nil (ofBytes s.l) s.l.length) ∧ look e 3 = some (.int .u32 q.2.1) ∧ look e 4 = some (.int .u32 q.2.2.1) ∧ look e 5 = some (.int .u32 q.2.2.2) ∧ look e 6 = some (.int .i64 q.1) ∧ H' = []) (fun q => s.l.length - q.1) (0, n, n, n) ?_ ?_
  · simp [hN]
    omega
  rintro ⟨at_, x, y, z⟩ e H' ⟨hat, hR, k0, k3, k4, k5, k6, rfl⟩
  simp only at hat hR k3 k4 k5 k6
  have hsub : IntKind.i64.wrap ((s.l.length : Int) - (at_ : Int)) = ((s.l.length - at_ : Nat) : Int) := by rw [wrap_i64] <;> omega
  have hdl : (s.l.drop at_).length = s.l.length - at_ := List.length_drop
  by_cases h12 : 12 < s.l.length - at_
  · have h12' : (12 : Int) < ((s.l.length - at_ : Nat) : Int) := by omega
    rw [lookR_more (by omega), List.drop_drop] at hR
    have w0 := word_ev s.nil s.l s.h (at_ + 0) (by omega) hs (at_ := (at_ : Int)) (by omega)
    obtain ⟨x0, p0⟩ : ∃ v, add32 x (wordL s.l (at_ + 0) : Nat) = v := ⟨_, rfl⟩
    have w4 := word_ev s.nil s.l s.h (at_ + 4) (by omega) hs (at_ := (at_ : Int) + 4) (by omega)
    obtain ⟨y0, p4⟩ : ∃ v, add32 y (wordL s.l (at_ + 4) : Nat) = v := ⟨_, rfl⟩
    have w8 := word_ev s.nil s.l s.h (at_ + 8) (by omega) hs (at_ := (at_ : Int) + 8) (by omega)
    obtain ⟨z0, p8⟩ : ∃ v, add32 z (wordL s.l (at_ + 8) : Nat) = v := ⟨_, rfl⟩
    have ha : addT (s.l.drop at_) (x, y, z) = (x0, y0, z0) := by simp only [addT, wordL_drop, p0, p4, p8]
    have c0 : IntKind.u32.wrap (x + (wordL s.l (at_ + 0) : Nat)) = x0 := p0
    generalize wordL s.l (at_ + 0) = u0 at *
    have c4 : IntKind.u32.wrap (y + (wordL s.l (at_ + 4) : Nat)) = y0 := p4
    generalize wordL s.l (at_ + 4) = u4 at *
    have c8 : IntKind.u32.wrap (z + (wordL s.l (at_ + 8) : Nat)) = z0 := p8
    generalize wordL s.l (at_ + 8) = u8 at *
    clear p0 p4 p8
    have i4 : IntKind.i64.wrap ((at_ : Int) + 4) = (at_ : Int) + 4 := by rw [wrap_i64] <;> omega
    have i8 : IntKind.i64.wrap ((at_ : Int) + 8) = (at_ : Int) + 8 := by rw [wrap_i64] <;> omega
    rw [ha] at hR
    obtain ⟨a1, h1⟩ : ∃ v, sub32 x0 z0 = v := ⟨_, rfl⟩
    have e0 : IntKind.u32.wrap (x0 - z0) = a1 := h1
    obtain ⟨r0, q0⟩ : ∃ v, rolI z0 4 = v := ⟨_, rfl⟩
    have e1 := turn_at (by omega) q0 (kk := 4) rfl
    obtain ⟨x1, f0⟩ : ∃ v, xorI .u32 a1 r0 = v := ⟨_, rfl⟩
    have h2 : xorI .u32 a1 (rolI z0 4) = x1 := by rw [q0]; exact f0
    obtain ⟨z1, h3⟩ : ∃ v, add32 z0 y0 = v := ⟨_, rfl⟩
    have e2 : IntKind.u32.wrap (z0 + y0) = z1 := h3
    obtain ⟨a2, h4⟩ : ∃ v, sub32 y0 x1 = v := ⟨_, rfl⟩
    have e3 : IntKind.u32.wrap (y0 - x1) = a2 := h4
    obtain ⟨r1, q1⟩ : ∃ v, rolI x1 6 = v := ⟨_, rfl⟩
    have e4 := turn_at (by omega) q1 (kk := 6) rfl
    obtain ⟨y1, f1⟩ : ∃ v, xorI .u32 a2 r1 = v := ⟨_, rfl⟩
    have h5 : xorI .u32 a2 (rolI x1 6) = y1 := by rw [q1]; exact f1
    obtain ⟨x2, h6⟩ : ∃ v, add32 x1 z1 = v := ⟨_, rfl⟩
    have e5 : IntKind.u32.wrap (x1 + z1) = x2 := h6
    obtain ⟨a3, h7⟩ : ∃ v, sub32 z1 y1 = v := ⟨_, rfl⟩
    have e6 : IntKind.u32.wrap (z1 - y1) = a3 := h7
    obtain ⟨r2, q2⟩ : ∃ v, rolI y1 8 = v := ⟨_, rfl⟩
    have e7 := turn_at (by omega) q2 (kk := 8) rfl
    obtain ⟨z2, f2⟩ : ∃ v, xorI .u32 a3 r2 = v := ⟨_, rfl⟩
    have h8 : xorI .u32 a3 (rolI y1 8) = z2 := by rw [q2]; exact f2
    obtain ⟨y2, h9⟩ : ∃ v, add32 y1 x2 = v := ⟨_, rfl⟩
    have e8 : IntKind.u32.wrap (y1 + x2) = y2 := h9
    obtain ⟨a4, g1⟩ : ∃ v, sub32 x2 z2 = v := ⟨_, rfl⟩
    have e9 : IntKind.u32.wrap (x2 - z2) = a4 := g1
    obtain ⟨r3, q3⟩ : ∃ v, rolI z2 16 = v := ⟨_, rfl⟩
    have e10 := turn_at (by omega) q3 (kk := 16) rfl
    obtain ⟨x3, f3⟩ : ∃ v, xorI .u32 a4 r3 = v := ⟨_, rfl⟩
    have g2 : xorI .u32 a4 (rolI z2 16) = x3 := by rw [q3]; exact f3
    obtain ⟨z3, g3⟩ : ∃ v, add32 z2 y2 = v := ⟨_, rfl⟩
    have e11 : IntKind.u32.wrap (z2 + y2) = z3 := g3
    obtain ⟨a5, g4⟩ : ∃ v, sub32 y2 x3 = v := ⟨_, rfl⟩
    have e12 : IntKind.u32.wrap (y2 - x3) = a5 := g4
    obtain ⟨r4, q4⟩ : ∃ v, rolI x3 19 = v := ⟨_, rfl⟩
    have e13 := turn_at (by omega) q4 (kk := 19) rfl
    obtain ⟨y3, f4⟩ : ∃ v, xorI .u32 a5 r4 = v := ⟨_, rfl⟩
    have g5 : xorI .u32 a5 (rolI x3 19) = y3 := by rw [q4]; exact f4
    obtain ⟨x4, g6⟩ : ∃ v, add32 x3 z3 = v := ⟨_, rfl⟩
    have e14 : IntKind.u32.wrap (x3 + z3) = x4 := g6
    obtain ⟨a6, g7⟩ : ∃ v, sub32 z3 y3 = v := ⟨_, rfl⟩
    have e15 : IntKind.u32.wrap (z3 - y3) = a6 := g7
    obtain ⟨r5, q5⟩ : ∃ v, rolI y3 4 = v := ⟨_, rfl⟩
    have e16 := turn_at (by omega) q5 (kk := 4) rfl
    obtain ⟨z4, f5⟩ : ∃ v, xorI .u32 a6 r5 = v := ⟨_, rfl⟩
    have g8 : xorI .u32 a6 (rolI y3 4) = z4 := by rw [q5]; exact f5
    obtain ⟨y4, g9⟩ : ∃ v, add32 y3 x4 = v := ⟨_, rfl⟩
    have e17 : IntKind.u32.wrap (y3 + x4) = y4 := g9
    have hm := mix_at h1 h2 h3 h4 h5 h6 h7 h8 h9 g1 g2 g3 g4 g5 g6 g7 g8 g9
    rw [hm] at hR
    clear g9 g8 g7 g6 g5 g4 g3 g2 g1 h9 h8 h7 h6 h5 h4 h3 h2 h1 hm q0 q1 q2 q3 q4 q5
    have i12 : IntKind.i64.wrap ((at_ : Int) + 12) = ((at_ + 12 : Nat) : Int) := by rw [wrap_i64] <;> omega
    clear ha hN
    generalize hjj : s.l.length - at_ = j at *
    simp [k0, k3, k4, k5, k6, hsub, h12', i12, w0, w4, w8, c0, c4, c8, i4, i8, e0, e1, f0, e2, e3, e4, f1, e5, e6, e7, f2, e8, e9, e10, f3, e11, e12, e13, f4, e14, e15, e16, f5, e17]
    exact ⟨at_ + 12, by omega, by omega, _, _, _, hR, by omega, rfl, rfl, by omega⟩
  · have h12' : ¬ (12 : Int) < ((s.l.length - at_ : Nat) : Int) := by omega
    have w0 := word_ev s.nil s.l s.h (at_ + 0) (by omega) hs (at_ := (at_ : Int)) (by omega)
    obtain ⟨x0, p0⟩ : ∃ v, add32 x (wordL s.l (at_ + 0) : Nat) = v := ⟨_, rfl⟩
    have w4 := word_ev s.nil s.l s.h (at_ + 4) (by omega) hs (at_ := (at_ : Int) + 4) (by omega)
    obtain ⟨y0, p4⟩ : ∃ v, add32 y (wordL s.l (at_ + 4) : Nat) = v := ⟨_, rfl⟩
    have w8 := word_ev s.nil s.l s.h (at_ + 8) (by omega) hs (at_ := (at_ : Int) + 8) (by omega)
    obtain ⟨z0, p8⟩ : ∃ v, add32 z (wordL s.l (at_ + 8) : Nat) = v := ⟨_, rfl⟩
    have ha : addT (s.l.drop at_) (x, y, z) = (x0, y0, z0) := by simp only [addT, wordL_drop, p0, p4, p8]
    have c0 : IntKind.u32.wrap (x + (wordL s.l (at_ + 0) : Nat)) = x0 := p0
    generalize wordL s.l (at_ + 0) = u0 at *
    have c4 : IntKind.u32.wrap (y + (wordL s.l (at_ + 4) : Nat)) = y0 := p4
    generalize wordL s.l (at_ + 4) = u4 at *
    have c8 : IntKind.u32.wrap (z + (wordL s.l (at_ + 8) : Nat)) = z0 := p8
    generalize wordL s.l (at_ + 8) = u8 at *
    clear p0 p4 p8
    have i4 : IntKind.i64.wrap ((at_ : Int) + 4) = (at_ : Int) + 4 := by rw [wrap_i64] <;> omega
    have i8 : IntKind.i64.wrap ((at_ : Int) + 8) = (at_ : Int) + 8 := by rw [wrap_i64] <;> omega
    obtain ⟨a1, h1⟩ : ∃ v, xorI .u32 z0 y0 = v := ⟨_, rfl⟩
    obtain ⟨r0, q0⟩ : ∃ v, rolI y0 14 = v := ⟨_, rfl⟩
    have e1 := turn_at (by omega) q0 (kk := 14) rfl
    obtain ⟨z1, f0⟩ : ∃ v, sub32 a1 r0 = v := ⟨_, rfl⟩
    have d0 : IntKind.u32.wrap (a1 - r0) = z1 := f0
    have h2 : sub32 a1 (rolI y0 14) = z1 := by rw [q0]; exact f0
    obtain ⟨a2, h3⟩ : ∃ v, xorI .u32 x0 z1 = v := ⟨_, rfl⟩
    obtain ⟨r1, q1⟩ : ∃ v, rolI z1 11 = v := ⟨_, rfl⟩
    have e3 := turn_at (by omega) q1 (kk := 11) rfl
    obtain ⟨x1, f1⟩ : ∃ v, sub32 a2 r1 = v := ⟨_, rfl⟩
    have d1 : IntKind.u32.wrap (a2 - r1) = x1 := f1
    have h4 : sub32 a2 (rolI z1 11) = x1 := by rw [q1]; exact f1
    obtain ⟨a3, h5⟩ : ∃ v, xorI .u32 y0 x1 = v := ⟨_, rfl⟩
    obtain ⟨r2, q2⟩ : ∃ v, rolI x1 25 = v := ⟨_, rfl⟩
    have e5 := turn_at (by omega) q2 (kk := 25) rfl
    obtain ⟨y1, f2⟩ : ∃ v, sub32 a3 r2 = v := ⟨_, rfl⟩
    have d2 : IntKind.u32.wrap (a3 - r2) = y1 := f2
    have h6 : sub32 a3 (rolI x1 25) = y1 := by rw [q2]; exact f2
    obtain ⟨a4, h7⟩ : ∃ v, xorI .u32 z1 y1 = v := ⟨_, rfl⟩
    obtain ⟨r3, q3⟩ : ∃ v, rolI y1 16 = v := ⟨_, rfl⟩
    have e7 := turn_at (by omega) q3 (kk := 16) rfl
    obtain ⟨z2, f3⟩ : ∃ v, sub32 a4 r3 = v := ⟨_, rfl⟩
    have d3 : IntKind.u32.wrap (a4 - r3) = z2 := f3
    have h8 : sub32 a4 (rolI y1 16) = z2 := by rw [q3]; exact f3
    obtain ⟨a5, g1⟩ : ∃ v, xorI .u32 x1 z2 = v := ⟨_, rfl⟩
    obtain ⟨r4, q4⟩ : ∃ v, rolI z2 4 = v := ⟨_, rfl⟩
    have e9 := turn_at (by omega) q4 (kk := 4) rfl
    obtain ⟨x2, f4⟩ : ∃ v, sub32 a5 r4 = v := ⟨_, rfl⟩
    have d4 : IntKind.u32.wrap (a5 - r4) = x2 := f4
    have g2 : sub32 a5 (rolI z2 4) = x2 := by rw [q4]; exact f4
    obtain ⟨a6, g3⟩ : ∃ v, xorI .u32 y1 x2 = v := ⟨_, rfl⟩
    obtain ⟨r5, q5⟩ : ∃ v, rolI x2 14 = v := ⟨_, rfl⟩
    have e11 := turn_at (by omega) q5 (kk := 14) rfl
    obtain ⟨y2, f5⟩ : ∃ v, sub32 a6 r5 = v := ⟨_, rfl⟩
    have d5 : IntKind.u32.wrap (a6 - r5) = y2 := f5
    have g4 : sub32 a6 (rolI x2 14) = y2 := by rw [q5]; exact f5
    obtain ⟨a7, g5⟩ : ∃ v, xorI .u32 z2 y2 = v := ⟨_, rfl⟩
    obtain ⟨r6, q6⟩ : ∃ v, rolI y2 24 = v := ⟨_, rfl⟩
    have e13 := turn_at (by omega) q6 (kk := 24) rfl
    obtain ⟨z3, f6⟩ : ∃ v, sub32 a7 r6 = v := ⟨_, rfl⟩
    have d6 : IntKind.u32.wrap (a7 - r6) = z3 := f6
    have g6 : sub32 a7 (rolI y2 24) = z3 := by rw [q6]; exact f6
    have hn := fin_at h1 h2 h3 h4 h5 h6 h7 h8 g1 g2 g3 g4 g5 g6
    clear g6 g4 g2 h8 h6 h4 h2 f0 q0 f1 q1 f2 q2 f3 q3 f4 q4 f5 q5 f6 q6
    rw [lookR_end (by omega) (by omega) (x := x2) (y := y2) (z := z3) (by rw [ha]; exact hn)] at hR
    subst hR
    clear ha hn
    generalize hjj : s.l.length - at_ = j at *
    simp [k0, k3, k4, k5, k6, hsub, h12', outT, hp64, w0, w4, w8, c0, c4, c8, i4, i8, h1, e1, d0, h3, e3, d1, h5, e5, d2, h7, e7, d3, g1, e9, d4, g3, e11, d5, g5, e13, d6]
end Go.Ev.S
/- The library as it lies in this program: the shelf's layings, printed by its tool. -/
namespace Go.Proofs
open Go.Shelf
def Tryz.laysM316_ren : Go.Shelf.Ren := ⟨fun | 316 => 88 | n => n, fun | 9 => 9 | 3 => 3 | 4 => 4 | 37 => 67 | 0 => 0 | 127 => 117 | 5 => 5 | n => n, fun | n => n⟩
theorem Tryz.laysM316 : Go.Proofs.LaysM.n316 Tryz.prog Tryz.laysM316_ren := {
  mixed := by kernel_rfl
  f316 := Tryz.func88.trans (congrArg some (by kernel_rfl))
  t0 := Tryz.underlying0
  a0 := Tryz.isAgg0
  z0 := Tryz.sizeOf0
  v0 := Tryz.zeroValue0
  t3 := Tryz.underlying3
  a3 := Tryz.isAgg3
  z3 := Tryz.sizeOf3
  v3 := Tryz.zeroValue3
  t4 := Tryz.underlying4
  a4 := Tryz.isAgg4
  z4 := Tryz.sizeOf4
  v4 := Tryz.zeroValue4
  t9 := Tryz.underlying9
  a9 := Tryz.isAgg9
  z9 := Tryz.sizeOf9
  v9 := Tryz.zeroValue9
  t37 := Tryz.underlying67
  a37 := Tryz.isAgg67
  z37 := Tryz.sizeOf67
  v37 := Tryz.zeroValue67
  t127 := Tryz.underlying117
  a127 := Tryz.isAgg117
  z127 := Tryz.sizeOf117
  v127 := Tryz.zeroValue117
  t5 := Tryz.underlying5
  a5 := Tryz.isAgg5
  z5 := Tryz.sizeOf5
  v5 := Tryz.zeroValue5
  i0 := by kernel_rfl
  i3 := by kernel_rfl
  i4 := by kernel_rfl
  i5 := by kernel_rfl
  i9 := by kernel_rfl
  i37 := by kernel_rfl
  i127 := by kernel_rfl }
def Tryz.lays219_ren : Go.Shelf.Ren := ⟨fun | 219 => 60 | 217 => 44 | 225 => 85 | 224 => 86 | 267 => 87 | 266 => 67 | 314 => 101 | n => n, fun | 9 => 9 | 3 => 3 | 4 => 4 | 5 => 5 | 46 => 63 | 146 => 113 | 51 => 106 | n => n, fun | 1 => 0 | n => n⟩
theorem Tryz.lays219 : Go.Proofs.Lays.n219 Tryz.prog Tryz.lays219_ren := {
  mixed := by kernel_rfl
  f217 := Tryz.func44.trans (congrArg some (by kernel_rfl))
  f219 := Tryz.func60.trans (congrArg some (by kernel_rfl))
  f224 := Tryz.func86.trans (congrArg some (by kernel_rfl))
  f225 := Tryz.func85.trans (congrArg some (by kernel_rfl))
  f266 := Tryz.func67.trans (congrArg some (by kernel_rfl))
  f267 := Tryz.func87.trans (congrArg some (by kernel_rfl))
  f314 := Tryz.func101.trans (congrArg some (by kernel_rfl))
  t3 := Tryz.underlying3
  a3 := Tryz.isAgg3
  z3 := Tryz.sizeOf3
  v3 := Tryz.zeroValue3
  t4 := Tryz.underlying4
  a4 := Tryz.isAgg4
  z4 := Tryz.sizeOf4
  v4 := Tryz.zeroValue4
  t5 := Tryz.underlying5
  a5 := Tryz.isAgg5
  z5 := Tryz.sizeOf5
  v5 := Tryz.zeroValue5
  t9 := Tryz.underlying9
  a9 := Tryz.isAgg9
  z9 := Tryz.sizeOf9
  v9 := Tryz.zeroValue9
  t46 := Tryz.underlying63
  a46 := Tryz.isAgg63
  z46 := Tryz.sizeOf63
  v46 := Tryz.zeroValue63
  t51 := Tryz.underlying106
  a51 := Tryz.isAgg106
  z51 := Tryz.sizeOf106
  v51 := Tryz.zeroValue106
  t146 := Tryz.underlying113
  a146 := Tryz.isAgg113
  z146 := Tryz.sizeOf113
  v146 := Tryz.zeroValue113
  g1 := by kernel_rfl }
def Tryz.lays105_ren : Go.Shelf.Ren := ⟨fun | 105 => 39 | 212 => 51 | 99 => 52 | 165 => 53 | 166 => 54 | 170 => 55 | 169 => 56 | 263 => 77 | 264 => 78 | 206 => 79 | 240 => 80 | 241 => 81 | 276 => 98 | 277 => 99 | n => n, fun | 9 => 9 | 3 => 3 | 4 => 4 | 20 => 20 | 0 => 0 | 46 => 63 | 109 => 81 | 5 => 5 | 72 => 86 | 76 => 88 | 51 => 106 | 146 => 113 | 53 => 24 | 148 => 115 | 70 => 84 | 37 => 67 | 75 => 57 | 127 => 117 | 164 => 134 | 80 => 91 | n => n, fun | n => n⟩
theorem Tryz.lays105 : Go.Proofs.Lays.n105 Tryz.prog Tryz.lays105_ren := {
  mixed := by kernel_rfl
  f99 := Tryz.func52.trans (congrArg some (by kernel_rfl))
  f105 := Tryz.func39.trans (congrArg some (by kernel_rfl))
  f165 := Tryz.func53.trans (congrArg some (by kernel_rfl))
  f166 := Tryz.func54.trans (congrArg some (by kernel_rfl))
  f169 := Tryz.func56.trans (congrArg some (by kernel_rfl))
  f170 := Tryz.func55.trans (congrArg some (by kernel_rfl))
  f206 := Tryz.func79.trans (congrArg some (by kernel_rfl))
  f212 := Tryz.func51.trans (congrArg some (by kernel_rfl))
  f240 := Tryz.func80.trans (congrArg some (by kernel_rfl))
  f241 := Tryz.func81.trans (congrArg some (by kernel_rfl))
  f263 := Tryz.func77.trans (congrArg some (by kernel_rfl))
  f264 := Tryz.func78.trans (congrArg some (by kernel_rfl))
  f276 := Tryz.func98.trans (congrArg some (by kernel_rfl))
  f277 := Tryz.func99.trans (congrArg some (by kernel_rfl))
  t0 := Tryz.underlying0
  a0 := Tryz.isAgg0
  z0 := Tryz.sizeOf0
  v0 := Tryz.zeroValue0
  t3 := Tryz.underlying3
  a3 := Tryz.isAgg3
  z3 := Tryz.sizeOf3
  v3 := Tryz.zeroValue3
  t4 := Tryz.underlying4
  a4 := Tryz.isAgg4
  z4 := Tryz.sizeOf4
  v4 := Tryz.zeroValue4
  t5 := Tryz.underlying5
  a5 := Tryz.isAgg5
  z5 := Tryz.sizeOf5
  v5 := Tryz.zeroValue5
  t9 := Tryz.underlying9
  a9 := Tryz.isAgg9
  z9 := Tryz.sizeOf9
  v9 := Tryz.zeroValue9
  t20 := Tryz.underlying20
  a20 := Tryz.isAgg20
  z20 := Tryz.sizeOf20
  v20 := Tryz.zeroValue20
  t37 := Tryz.underlying67
  a37 := Tryz.isAgg67
  z37 := Tryz.sizeOf67
  v37 := Tryz.zeroValue67
  t46 := Tryz.underlying63
  a46 := Tryz.isAgg63
  z46 := Tryz.sizeOf63
  v46 := Tryz.zeroValue63
  t51 := Tryz.underlying106
  a51 := Tryz.isAgg106
  z51 := Tryz.sizeOf106
  v51 := Tryz.zeroValue106
  t53 := Tryz.underlying24
  a53 := Tryz.isAgg24
  z53 := Tryz.sizeOf24
  v53 := Tryz.zeroValue24
  t70 := Tryz.underlying84
  a70 := Tryz.isAgg84
  z70 := Tryz.sizeOf84
  v70 := Tryz.zeroValue84
  t72 := Tryz.underlying86
  a72 := Tryz.isAgg86
  z72 := Tryz.sizeOf86
  v72 := Tryz.zeroValue86
  t75 := Tryz.underlying57
  a75 := Tryz.isAgg57
  z75 := Tryz.sizeOf57
  v75 := Tryz.zeroValue57
  t76 := Tryz.underlying88
  a76 := Tryz.isAgg88
  z76 := Tryz.sizeOf88
  v76 := Tryz.zeroValue88
  t109 := Tryz.underlying81
  a109 := Tryz.isAgg81
  z109 := Tryz.sizeOf81
  v109 := Tryz.zeroValue81
  t127 := Tryz.underlying117
  a127 := Tryz.isAgg117
  z127 := Tryz.sizeOf117
  v127 := Tryz.zeroValue117
  t146 := Tryz.underlying113
  a146 := Tryz.isAgg113
  z146 := Tryz.sizeOf113
  v146 := Tryz.zeroValue113
  t148 := Tryz.underlying115
  a148 := Tryz.isAgg115
  z148 := Tryz.sizeOf115
  v148 := Tryz.zeroValue115
  t164 := Tryz.underlying134
  a164 := Tryz.isAgg134
  z164 := Tryz.sizeOf134
  v164 := Tryz.zeroValue134 }
theorem Tryz.Builder_Extra_105 : Builder.Extra Tryz.prog Tryz.lays105_ren := {
  sizeBuilder := by kernel_rfl
  liesBuilder := by kernel_rfl
  t5 := Tryz.underlying5
  a5 := Tryz.isAgg5
  z5 := Tryz.sizeOf5
  v5 := Tryz.zeroValue5
  infoByte := by kernel_rfl
  cellsByte := by kernel_rfl
  sizeByte := by kernel_rfl
  neB5 := by decide }
end Go.Proofs
namespace Go.Ev.S
open Go Go.Proofs Go.Ev
theorem ok_0 [MaxL] : okRange cx 0 40 = true := by kernel_rfl
theorem ok_40 [MaxL] : okRange cx 40 40 = true := by kernel_rfl
theorem ok_80 [MaxL] : okRange cx 80 40 = true := by kernel_rfl
theorem ok_120 [MaxL] : okRange cx 120 17 = true := by kernel_rfl
theorem fsize : Tryz.prog.funcs.size = 137 := by kernel_rfl
theorem all_ok [MaxL] (f : Nat) (h : f < 137) : okOne cx f = true := by
  rcases Nat.lt_or_ge f 40 with h0 | h0
  · exact okRange_get ok_0 (by omega) (by omega)
  rcases Nat.lt_or_ge f 80 with h1 | h1
  · exact okRange_get ok_40 (by omega) (by omega)
  rcases Nat.lt_or_ge f 120 with h2 | h2
  · exact okRange_get ok_80 (by omega) (by omega)
  exact okRange_get ok_120 (by omega) (by omega)
set_option maxRecDepth 100000 in
theorem good [MaxL] : Good cx where
  mixed := by kernel_rfl
  okc f fn c hf hc hb := (okOne_get (all_ok f (by rw [← fsize]; exact (Array.getElem?_eq_some_iff.1 hf).1)) hf).2 c hc hb
  ng f fn hf := (okOne_get (all_ok f (by rw [← fsize]; exact (Array.getElem?_eq_some_iff.1 hf).1)) hf).1
  ext f fn args d hf hn h ok w ι H vs hs hv := by
    by_cases h50 : f = 50
    · subst h50
      rw [ex50] at h
      have hff := Tryz.func50
      rw [show cx.P.funcs[50]? = Tryz.prog.funcs[50]? from rfl, hff] at hf
      injection hf with hf
      subst hf
      exact cmpExt_run (P := cx.P) hff rfl (by kernel_rfl) (by kernel_rfl) (by kernel_rfl) h hv
    by_cases h67 : f = 67
    · subst h67
      rw [ex67] at h
      have hff := Tryz.func67
      rw [show cx.P.funcs[67]? = Tryz.prog.funcs[67]? from rfl, hff] at hf
      injection hf with hf
      subst hf
      exact idxBExt_run (P := cx.P) hff rfl (by kernel_rfl) (by kernel_rfl) (by kernel_rfl) h hv
    by_cases h84 : f = 84
    · subst h84
      rw [ex84] at h
      have hff := Tryz.func84
      rw [show cx.P.funcs[84]? = Tryz.prog.funcs[84]? from rfl, hff] at hf
      injection hf with hf
      subst hf
      exact cntExt_run (P := cx.P) hff rfl (by kernel_rfl) (by kernel_rfl) (by kernel_rfl) h hv
    · have : cx.ext f args = none := by
        show extT f args = none
        unfold extT
        split
        · exact absurd rfl h50
        · exact absurd rfl h67
        · exact absurd rfl h84
        · rfl
      rw [this] at h
      cases h
  con f args H r H' h ok w ι vs hs hv := by
    by_cases h60 : f = 60
    · subst h60
      rw [co60] at h
      exact conIdx_run (X := cx) (m := MaxL.m) Tryz.lays219 rfl h hs hv
    by_cases h88 : f = 88
    · subst h88
      rw [co88] at h
      exact conClone_run (X := cx) Tryz.laysM316 h hs hv
    by_cases h39 : f = 39
    · subst h39
      rw [co39] at h
      exact conRepeat_run (X := cx) Tryz.lays105 Tryz.Builder_Extra_105 h hs hv
    · have : cx.con f args H = none := by
        show conT f args H = none
        unfold conT
        split
        · exact absurd rfl h60
        · exact absurd rfl h88
        · exact absurd rfl h39
        · rfl
      rw [this] at h
      cases h
end Go.Ev.S
namespace Go.Ev.S
open Go Go.Proofs Go.Ev
theorem globs [MaxL] {W : World} (h : laidMet Tryz.prog YtknidmbkmglfaaaGreatDoor.Rows.cursorSaysRow.laid W) (hm0 : W.cell? ⟨0, 0, none⟩ = some (.int .i64 MaxL.m)) : ∀ g cs, cx.glob g = some cs → Rep (· < W.heap.size) W iota0 [] (.vptr cs) (.pointer (some ⟨g, 0, none⟩)) := by
  unfold YtknidmbkmglfaaaGreatDoor.Rows.cursorSaysRow at h
  have t6 := rep_tab (g := 6) (zs := gz6) (Lib.tabIs_of_head (g := 6) (t := 147) (e := 5) (n := 32) (k := .u8) (by kernel_rfl) (by kernel_rfl) (by kernel_rfl) (by kernel_rfl) (by kernel_rfl) (by kernel_rfl) h) (by kernel_rfl)
  replace h := h.tail
  have t7 := rep_tab (g := 7) (zs := gz7) (Lib.tabIs_of_head (g := 7) (t := 148) (e := 5) (n := 64) (k := .u8) (by kernel_rfl) (by kernel_rfl) (by kernel_rfl) (by kernel_rfl) (by kernel_rfl) (by kernel_rfl) h) (by kernel_rfl)
  replace h := h.tail
  have t3 := rep_tab (g := 3) (zs := gz3) (Lib.tabIs_of_head (g := 3) (t := 127) (e := 24) (n := 20) (k := .u64) (by kernel_rfl) (by kernel_rfl) (by kernel_rfl) (by kernel_rfl) (by kernel_rfl) (by kernel_rfl) h) (by kernel_rfl)
  replace h := h.tail
  replace h := h.tail
  have t2 := rep_err (g := 2) (text := gs2) (by kernel_rfl) (laid_sentinel (g := 2) (ti := 57) (tp := 138) (te := 140) (ts := 9) h (by kernel_rfl) (by kernel_rfl) Tryz.underlying57 (err_row (base := "errors.errorString") (by decide) (by kernel_rfl) (by kernel_rfl) (by decide)) Tryz.underlying138 Tryz.underlying140 rfl rfl (by kernel_rfl) (by kernel_rfl) (by kernel_rfl))
  replace h := h.tail
  have t1 := rep_err (g := 1) (text := gs1) (by kernel_rfl) (laid_sentinel (g := 1) (ti := 57) (tp := 138) (te := 140) (ts := 9) h (by kernel_rfl) (by kernel_rfl) Tryz.underlying57 (err_row (base := "errors.errorString") (by decide) (by kernel_rfl) (by kernel_rfl) (by decide)) Tryz.underlying138 Tryz.underlying140 rfl rfl (by kernel_rfl) (by kernel_rfl) (by kernel_rfl))
  replace h := h.tail
  intro g cs hg
  have hgl : globT g = some cs := hg
  unfold globT at hgl
  split at hgl
  · cases hgl; exact t1
  · cases hgl; exact t2
  · cases hgl; exact t3
  · cases hgl; exact t6
  · cases hgl; exact t7
  · cases hgl; exact rep_one hm0
  · cases hgl
end Go.Ev.S
/- Numbers in hexadecimal digits. -/
namespace Go.Ev.S
open Go Go.Proofs Go.Ev
theorem pow2_ev [MaxL] : call cx 94 [.int .i64 16] [] = some (.bool true, []) := call_some.2 ⟨60, by kernel_rfl⟩
theorem tz_ev [MaxL] : call cx 95 [.int .u64 16] [] = some (.int .i64 4, []) := call_some.2 ⟨100, by kernel_rfl⟩
/-- What stands in the row so far. -/
def HexI (v i u : Nat) (s : List UInt8) : Prop := ∃ g, 1 ≤ g ∧ g ≤ 16 ∧ i = 49 + g ∧ s.length + g = 16 ∧ u < 16 ^ g ∧ hexF g u ++ s = hx v
theorem hexI_step {v i u : Nat} {s : List UInt8} (h : HexI v i u s) (hu : 16 ≤ u) : 51 ≤ i ∧ HexI v (i - 1) (u / 16) (hexc (u % 16) :: s) := by
  obtain ⟨g, h1, h2, rfl, h4, h5, h6⟩ := h
  obtain ⟨f, rfl⟩ : ∃ f, g = f + 1 := ⟨g - 1, by omega⟩
  have hf : 1 ≤ f := by
    rcases f with _ | f
    · simp at h5; omega
    · omega
  refine ⟨by omega, f, hf, by omega, by omega, by simp; omega, by rw [Nat.pow_succ] at h5; omega, ?_⟩
  rw [hexF, if_neg (by omega)] at h6
  simpa using h6
theorem hexI_end {v i u : Nat} {s : List UInt8} (h : HexI v i u s) (hu : u < 16) : hexc u :: s = hx v ∧ 50 ≤ i ∧ i ≤ 65 ∧ i + s.length = 65 := by
  obtain ⟨g, h1, h2, rfl, h4, h5, h6⟩ := h
  obtain ⟨f, rfl⟩ : ∃ f, g = f + 1 := ⟨g - 1, by omega⟩
  rw [hexF, if_pos hu] at h6
  exact ⟨by simpa using h6, by omega, by omega, by omega⟩
theorem hexI_len {v i u : Nat} {s : List UInt8} (h : HexI v i u s) : i + s.length = 65 ∧ 50 ≤ i := by
  obtain ⟨g, h1, h2, rfl, h4, h5, h6⟩ := h
  omega
theorem fill_of {i j : Nat} (hi : i = j + 1) (s : List UInt8) (c : UInt8) : setRange (List.replicate i (D.int .u8 0) ++ ofBytes s) j [.int .u8 c.toNat] = List.replicate j (.int .u8 0) ++ ofBytes (c :: s) := by
  rw [hi]; exact fill_behind j s c
set_option maxHeartbeats 2000000 in
theorem fb16_ev [MaxL] (v : Nat) (hv : v < 18446744073709551616) : call cx 71 [.vsl true [] 0, .int .u64 v, .int .i64 16, .bool false, .bool false] [] = some (.tup [.vsl true [] 0, .str (hx v)], []) := by
  have h1 := pow2_ev
  have h2 := tz_ev
  have w16 : IntKind.u64.wrap 16 = 16 := by decide
  have w15 : IntKind.u64.wrap 15 = 15 := by decide
  have w4 : IntKind.u64.wrap 4 = 4 := by decide
  refine call_run Tryz.func71 rfl ⟨rfl, rfl⟩ ?_
  simp [-List.reduceReplicate, Tryz.f71, h1, h2, w16, w15, w4]
  refine Run.loopThen (fun (q : Nat × Nat × List UInt8) e H' => HexI v q.1 q.2.1 q.2.2 ∧ q.2.1 < 18446744073709551616 ∧ H' = [some (List.replicate q.1 (.int .u8 0) ++ ofBytes q.2.2)] ∧
      look e 0 = some (.vsl true [] 0) ∧ look e 1 = some (.int .u64 (q.2.1 : Nat)) ∧ look e 3 = some (.bool false) ∧ look e 4 = some (.bool false) ∧ look e 10 = some (.vsl true [] 0) ∧ look e 11 = some (.str []) ∧ look e 12 = some (.optr 0 65 0) ∧
      look e 13 = some (.int .i64 (q.1 : Nat)) ∧ look e 14 = some (.int .u64 4) ∧ look e 15 = some (.int .u64 16) ∧ look e 16 = some (.int .u64 15)) (fun q => q.2.1) (65, v, []) ?_ ?_
  · refine ⟨⟨16, by omega, by omega, by omega, by simp, by omega, by simp [hx]⟩, hv, ?_, ?_⟩
    · show [some (List.replicate 65 (D.int .u8 0))] = [some (List.replicate 65 (D.int .u8 0) ++ [])]
      rw [List.append_nil]
    · simp
  rintro ⟨i, u, s⟩ e H' ⟨hI, hu, rfl, k0, k1, k3, k4, k10, k11, k12, k13, k14, k15, k16⟩
  simp only at hI hu k1 k13
  obtain ⟨hl, h50⟩ := hexI_len hI
  obtain ⟨j, hj⟩ : ∃ j, i = j + 1 := ⟨i - 1, by omega⟩
  have hw : IntKind.i64.wrap ((i : Int) - 1) = (j : Int) := by rw [wrap_i64] <;> omega
  have hj65 : (j : Int) < 65 := by omega
  have hj1 : j + 1 ≤ i + s.length := by omega
  have hj64 : j ≤ 64 := by omega
  by_cases h16 : 16 ≤ u
  · have h16' : (16 : Int) ≤ (u : Int) := by omega
    obtain ⟨h51, hS⟩ := hexI_step hI h16
    have ha := and15_u64 hu
    have hd := dig36_at (u % 16) (Nat.mod_lt _ (by decide))
    simp only [dig36] at hd
    have hf := fdiv16 u
    have hst := fill_of hj s (hexc (u % 16))
    have e1 : i - 1 = j := by omega
    rw [e1] at hS
    have hu2 : u / 16 < u := by omega
    have hu3 : u / 16 < 18446744073709551616 := by omega
    generalize u / 16 = u2 at *
    generalize hexc (u % 16) = c at *
    obtain ⟨m, hm⟩ : ∃ m, m = u % 16 := ⟨_, rfl⟩
    rw [← hm] at ha hd
    simp [-setRange_eq, k0, k1, k3, k4, k10, k11, k12, k13, k14, k15, k16, h16', hw, hj65, hj64, hl, ha, hd, hst]
    have hp4 : (2 : Int) ^ min 4 IntKind.u64.bits = 16 := by decide
    exact ⟨j, u2, hu2, c :: s, hS, hu3, by simp [hp4, hf]⟩
  · have h16' : ¬ (16 : Int) ≤ (u : Int) := by omega
    obtain ⟨hE, _, _, _⟩ := hexI_end hI (by omega)
    have hd := dig36_at u (by omega)
    simp only [dig36] at hd
    have hst := fill_of hj s (hexc u)
    have hdr : List.take (65 - j) (List.drop j (List.replicate j (D.int .u8 0) ++ ofBytes (hexc u :: s))) = ofBytes (hx v) := by
      rw [List.drop_left' (by simp), hE]
      refine List.take_of_length_le ?_
      rw [← hE]
      simp
      omega
    have hj2 : (j : Int) ≤ 65 := by omega
    have hj3 : j ≤ 65 := by omega
    have hj4 : j < 65 := by omega
    have hl3 : j + (65 - j) = 65 := by omega
    have hl4 : j + (hx v).length = 65 := by rw [← hE]; simp; omega
    have hlh : (hx v).length = 65 - j := by rw [← hE]; simp; omega
    have hl2 : j + (ofBytes (hexc u :: s)).length = 65 := by simp; omega
    simp only [hE] at hst hdr hl2
    generalize hexc u = c at *
    simp [-setRange_eq, k0, k1, k3, k4, k10, k11, k12, k13, k14, k15, k16, h16', hw, hj65, hj64, hl, hd, hst, hj2, hj4, hl3, hlh]
theorem fui16_ev [MaxL] (v : Nat) (hv : v < 18446744073709551616) : call cx 45 [.int .u64 v, .int .i64 16] [] = some (.str (hx v), []) := by
  have h := fb16_ev v hv
  refine call_run Tryz.func45 rfl ⟨rfl, rfl⟩ ?_
  simp [Tryz.f45, h]
theorem fu16_ev [MaxL] (v : Nat) (hv : v < 18446744073709551616) : call cx 30 [.int .u64 v, .int .i64 16] [] = some (.str (hx v), []) := by
  have h := fui16_ev v hv
  refine call_run Tryz.func30 rfl ⟨rfl, rfl⟩ ?_
  simp [Tryz.f30, h]
end Go.Ev.S
/- Numbers that texts are. -/
namespace Go.Ev.S
open Go Go.Proofs Go.Ev
theorem orI_u8 (a b : UInt8) : orI .u8 (a.toNat : Int) (b.toNat : Int) = ((a ||| b).toNat : Int) := by
  unfold orI
  have h := (a ||| b).toNat_lt
  have e : (BitVec.ofInt IntKind.u8.bits (a.toNat : Int) ||| BitVec.ofInt IntKind.u8.bits (b.toNat : Int)).toNat = (a ||| b).toNat := by
    simp [IntKind.bits]
    rfl
  rw [e, wrap_u8]
  omega
theorem lower_ev [MaxL] (c : UInt8) : call cx 61 [.int .u8 c.toNat] [] = some (.int .u8 ((c ||| 32).toNat : Int), []) := by
  have h := orI_u8 c 32
  have h' : orI .u8 (c.toNat : Int) 32 = ((c ||| 32).toNat : Int) := h
  refine call_run Tryz.func61 rfl ⟨rfl, rfl⟩ ?_
  simp [Tryz.f61, h']
theorem all_u8 {p : UInt8 → Bool} (h : ((List.range 256).all fun k => p (UInt8.ofNat k)) = true) (c : UInt8) : p c = true := by
  have := List.all_eq_true.1 h c.toNat (List.mem_range.2 c.toNat_lt)
  rw [UInt8.ofNat_toNat] at this
  exact this
theorem low_lt {c : UInt8} (h : c.toNat < 48) : (c ||| 32).toNat < 97 := by
  have := all_u8 (p := fun c => decide (c.toNat < 48) == false || decide ((c ||| 32).toNat < 97)) (by decide +kernel) c
  simpa [h] using this
theorem low_95 {c : UInt8} (h : c.toNat = 95) : 122 < (c ||| 32).toNat := by
  simp [h]
/-- What a sign counts; none: it is no digit. -/
def dval (c : UInt8) : Option Nat := if 48 ≤ c.toNat ∧ c.toNat ≤ 57 then some (c.toNat - 48) else if 97 ≤ (c ||| 32).toNat ∧ (c ||| 32).toNat ≤ 122 then some ((c ||| 32).toNat - 97 + 10) else none
def puGo (b : Nat) : List UInt8 → Nat → Option Nat
  | [], n => some n
  | c :: l, n => match dval c with
    | none => none
    | some d => if b ≤ d then none else if 18446744073709551616 ≤ n * b + d then none else puGo b l (n * b + d)
def pu (b : Nat) (s : List UInt8) : Option Nat := if s = [] then none else puGo b s 0
def cutoff (b : Nat) : Nat := if b = 10 then 1844674407370955162 else 1152921504606846976
theorem cut_of {b n d : Nat} (hb : b = 10 ∨ b = 16) (h : cutoff b ≤ n) : 18446744073709551616 ≤ n * b + d := by
  unfold cutoff at h
  rcases hb with rfl | rfl
  · simp at h; omega
  · simp at h; omega
theorem cut_ok {b n : Nat} (hb : b = 10 ∨ b = 16) (h : n < cutoff b) : n * b < 18446744073709551616 := by
  unfold cutoff at h
  rcases hb with rfl | rfl
  · simp at h; omega
  · simp at h; omega
theorem wrap_over {x d : Nat} (hx : x < 18446744073709551616) (hd : d < 16) (h : 18446744073709551616 ≤ x + d) : IntKind.u64.wrap ((x : Int) + (d : Int)) < (x : Int) := by
  simp only [IntKind.wrap, IntKind.signed, IntKind.bits]
  simp
  omega
theorem puGo_lt (b : Nat) : ∀ (l : List UInt8) (n v : Nat), n < 18446744073709551616 → puGo b l n = some v → v < 18446744073709551616
  | [], n, v, hn, h => by simp [puGo] at h; omega
  | c :: l, n, v, hn, h => by
    unfold puGo at h
    split at h
    · cases h
    · split at h
      · cases h
      · split at h
        · cases h
        · exact puGo_lt b l _ v (by omega) h
set_option maxHeartbeats 2000000 in
set_option maxRecDepth 4000 in
theorem pui_ev [MaxL] (b : Nat) (hb : b = 10 ∨ b = 16) (s : List UInt8) (hs : s.length < 4611686018427387904) :
    (∃ n, pu b s = some n ∧ call cx 42 [.str s, .int .i64 b, .int .i64 64] [] = some (.tup [.int .u64 n, .nili], [])) ∨
    (pu b s = none ∧ ∃ (x : Nat) (c : Int), (c = 1 ∨ c = 2) ∧ call cx 42 [.str s, .int .i64 b, .int .i64 64] [] = some (.tup [.int .u64 x, .iface 94 (.int .i64 c)], [])) := by
  suffices h : ∃ r, call cx 42 [.str s, .int .i64 b, .int .i64 64] [] = some r ∧ ((∃ n, pu b s = some n ∧ r = (.tup [.int .u64 n, .nili], [])) ∨ (pu b s = none ∧ ∃ (x : Nat) (c : Int), (c = 1 ∨ c = 2) ∧ r = (.tup [.int .u64 x, .iface 94 (.int .i64 c)], []))) by
    obtain ⟨r, h1, ⟨n, h2, rfl⟩ | ⟨h2, x, c, h3, rfl⟩⟩ := h
    · exact .inl ⟨n, h2, h1⟩
    · exact .inr ⟨h2, x, c, h3, h1⟩
  refine call_runE (fun r => (∃ n : Nat, pu b s = some n ∧ r = (D.tup [.int .u64 n, .nili], [])) ∨ (pu b s = none ∧ ∃ (x : Nat) (c : Int), (c = 1 ∨ c = 2) ∧ r = (D.tup [.int .u64 x, .iface 94 (.int .i64 c)], []))) Tryz.func42 rfl ⟨rfl, rfl⟩ ?_
  by_cases h0 : s = []
  · subst h0
    simp [Tryz.f42, pu]
    exact ⟨0, rfl⟩
  · have hpos : s.length ≠ 0 := by simpa using h0
    have hc2 : (2 : Int) ≤ (b : Int) := by omega
    have hc36 : (b : Int) ≤ 36 := by omega
    have hbz : ¬ (b : Int) = 0 := by omega
    have hmx : IntKind.u64.wrap (IntKind.u64.wrap (2 ^ min 64 IntKind.u64.bits) - 1) = 18446744073709551615 := by decide
    have hpu : pu b s = puGo b s 0 := by rw [pu, if_neg h0]
    rcases hb with rfl | rfl
    · simp [Tryz.f42, h0, hmx]
      refine Run.loopThen (fun (z : Nat × Nat) e H' => z.1 ≤ s.length ∧ z.2 < 18446744073709551616 ∧ puGo 10 (s.drop z.1) z.2 = puGo 10 s 0 ∧ H' = [some (ofBytes s)] ∧ look e 1 = some (.int .i64 10) ∧ look e 8 = some (.bool false) ∧ look e 9 = some (.str s) ∧ look e 10 = some (.int .u64 1844674407370955162) ∧ look e 11 = some (.int .u64 18446744073709551615) ∧ look e 12 = some (.bool false) ∧ look e 13 = some (.int .u64 (z.2 : Nat)) ∧ look e 99 = some (.osl 0 s.length 0 s.length 1) ∧ look e 100 = some (.int .i64 s.length) ∧ look e 101 = some (.int .i64 (z.1 : Nat))) (fun z => s.length - z.1) (0, 0) (by simp) ?_
      rintro ⟨i, n⟩ e H' ⟨hi, hn, hp, rfl, h1, h8, h9, h10, h11, h12, h13, h99, h100, h101⟩
      simp only at hi hn hp h13 h101
      by_cases hlt : i < s.length
      · have hlt' : (i : Int) < (s.length : Int) := by omega
        have hw : IntKind.i64.wrap ((i : Int) + 1) = ((i + 1 : Nat) : Int) := by rw [wrap_i64] <;> omega
        have hc := lower_ev s[i]
        have hclt := s[i].toNat_lt
        rw [List.drop_eq_getElem_cons hlt, puGo] at hp
        unfold dval at hp
        by_cases hd : 48 ≤ s[i].toNat ∧ s[i].toNat ≤ 57
        · rw [if_pos hd] at hp
          have g1 : (48 : Int) ≤ (s[i].toNat : Int) := by omega
          have g2 : (s[i].toNat : Int) ≤ 57 := by omega
          have g3 : ¬ (s[i].toNat : Int) = 95 := by omega
          obtain ⟨d, hdd⟩ : ∃ d, d = s[i].toNat - 48 := ⟨_, rfl⟩
          have dw : IntKind.u8.wrap ((s[i].toNat : Int) - 48) = (d : Int) := by rw [wrap_u8] <;> omega
          rw [← hdd] at hp
          simp only at hp
          have hd16 : d < 16 := by omega
          have wd : IntKind.u64.wrap (d : Int) = (d : Int) := by rw [wrap_u64]; omega
          by_cases hbd : 10 ≤ d
          · have hbd' : (10 : Int) ≤ (d : Int) := by omega
            rw [if_pos hbd] at hp
            simp [h1, h8, h9, h10, h11, h12, h13, h99, h100, h101, hlt', ofBytes_at hlt, g1, g2, g3, dw, hbd']
            exact ⟨by rw [hpu]; exact hp.symm, 0, rfl⟩
          · have hbd' : ¬ (10 : Int) ≤ (d : Int) := by omega
            rw [if_neg hbd] at hp
            by_cases hcut : 1844674407370955162 ≤ n
            · have hcut' : (1844674407370955162 : Int) ≤ (n : Int) := by omega
              rw [if_pos (by omega)] at hp
              simp [h1, h8, h9, h10, h11, h12, h13, h99, h100, h101, hlt', ofBytes_at hlt, g1, g2, g3, dw, hbd', hcut']
              exact ⟨by rw [hpu]; exact hp.symm, 18446744073709551615, rfl⟩
            · have hcut' : ¬ (1844674407370955162 : Int) ≤ (n : Int) := by omega
              obtain ⟨m, hm⟩ : ∃ m, m = n * 10 := ⟨_, rfl⟩
              have hm64 : m < 18446744073709551616 := by omega
              have wm : IntKind.u64.wrap ((n : Int) * 10) = (m : Int) := by rw [wrap_u64] <;> omega
              rw [← hm] at hp
              by_cases hov : 18446744073709551616 ≤ m + d
              · rw [if_pos hov] at hp
                have hx := wrap_over hm64 (by omega) hov
                generalize hX : IntKind.u64.wrap ((m : Int) + (d : Int)) = X at hx
                simp [h1, h8, h9, h10, h11, h12, h13, h99, h100, h101, hlt', ofBytes_at hlt, g1, g2, g3, dw, hbd', hcut', wd, wm, hX, hx]
                exact ⟨by rw [hpu]; exact hp.symm, 18446744073709551615, rfl⟩
              · rw [if_neg hov] at hp
                obtain ⟨q, hq⟩ : ∃ q, q = m + d := ⟨_, rfl⟩
                have wq : IntKind.u64.wrap ((m : Int) + (d : Int)) = (q : Int) := by rw [wrap_u64] <;> omega
                have hx1 : ¬ (q : Int) < (m : Int) := by omega
                have hx2 : ¬ (18446744073709551615 : Int) < (q : Int) := by omega
                rw [← hq] at hp
                simp [h1, h8, h9, h10, h11, h12, h13, h99, h100, h101, hlt', ofBytes_at hlt, g1, g2, g3, dw, hbd', hcut', wd, wm, wq, hx1, hx2, hw]
                exact ⟨i + 1, by omega, by omega, q, by omega, hp, rfl, by simp⟩
        · rw [if_neg hd] at hp
          by_cases h48 : s[i].toNat < 48
          · have lw := low_lt h48
            rw [if_neg (by omega)] at hp
            have g1 : ¬ (48 : Int) ≤ (s[i].toNat : Int) := by omega
            have g3 : ¬ (s[i].toNat : Int) = 95 := by omega
            have f1 : ¬ (97 : Int) ≤ ((s[i] ||| 32).toNat : Int) := by omega
            generalize (s[i] ||| 32).toNat = lc at *
            simp only at hp
            simp [h1, h8, h9, h10, h11, h12, h13, h99, h100, h101, hlt', ofBytes_at hlt, g1, g3, hc, f1]
            exact ⟨by rw [hpu]; exact hp.symm, 0, rfl⟩
          · have g1 : (48 : Int) ≤ (s[i].toNat : Int) := by omega
            have g2 : ¬ (s[i].toNat : Int) ≤ 57 := by omega
            by_cases g95 : s[i].toNat = 95
            · have lw := low_95 g95
              rw [if_neg (by omega)] at hp
              have g3 : (s[i].toNat : Int) = 95 := by omega
              have f1 : (97 : Int) ≤ ((s[i] ||| 32).toNat : Int) := by omega
              have f2 : ¬ ((s[i] ||| 32).toNat : Int) ≤ 122 := by omega
              generalize (s[i] ||| 32).toNat = lc at *
              rw [g3] at hc
              simp only at hp
              simp [h1, h8, h9, h10, h11, h12, h13, h99, h100, h101, hlt', ofBytes_at hlt, g3, hc, f1, f2]
              exact ⟨by rw [hpu]; exact hp.symm, 0, rfl⟩
            · have g3 : ¬ (s[i].toNat : Int) = 95 := by omega
              have lw256 := (s[i] ||| 32).toNat_lt
              generalize (s[i] ||| 32).toNat = lc at *
              by_cases f : 97 ≤ lc ∧ lc ≤ 122
              · rw [if_pos f] at hp
                have f1 : (97 : Int) ≤ (lc : Int) := by omega
                have f2 : (lc : Int) ≤ 122 := by omega
                obtain ⟨d0, hd0⟩ : ∃ d, d = lc - 97 := ⟨_, rfl⟩
                obtain ⟨d, hdd⟩ : ∃ d, d = d0 + 10 := ⟨_, rfl⟩
                have dw1 : IntKind.u8.wrap ((lc : Int) - 97) = (d0 : Int) := by rw [wrap_u8] <;> omega
                have dw2 : IntKind.u8.wrap ((d0 : Int) + 10) = (d : Int) := by rw [wrap_u8] <;> omega
                rw [← hd0, ← hdd] at hp
                simp only at hp
                have hd16 : d < 36 := by omega
                have wd : IntKind.u64.wrap (d : Int) = (d : Int) := by rw [wrap_u64]; omega
                by_cases hbd : 10 ≤ d
                · have hbd' : (10 : Int) ≤ (d : Int) := by omega
                  rw [if_pos hbd] at hp
                  simp [h1, h8, h9, h10, h11, h12, h13, h99, h100, h101, hlt', ofBytes_at hlt, g1, g2, g3, hc, f1, f2, dw1, dw2, hbd']
                  exact ⟨by rw [hpu]; exact hp.symm, 0, rfl⟩
                · have hbd' : ¬ (10 : Int) ≤ (d : Int) := by omega
                  rw [if_neg hbd] at hp
                  by_cases hcut : 1844674407370955162 ≤ n
                  · have hcut' : (1844674407370955162 : Int) ≤ (n : Int) := by omega
                    rw [if_pos (by omega)] at hp
                    simp [h1, h8, h9, h10, h11, h12, h13, h99, h100, h101, hlt', ofBytes_at hlt, g1, g2, g3, hc, f1, f2, dw1, dw2, hbd', hcut']
                    exact ⟨by rw [hpu]; exact hp.symm, 18446744073709551615, rfl⟩
                  · have hcut' : ¬ (1844674407370955162 : Int) ≤ (n : Int) := by omega
                    obtain ⟨m, hm⟩ : ∃ m, m = n * 10 := ⟨_, rfl⟩
                    have hm64 : m < 18446744073709551616 := by omega
                    have wm : IntKind.u64.wrap ((n : Int) * 10) = (m : Int) := by rw [wrap_u64] <;> omega
                    rw [← hm] at hp
                    by_cases hov : 18446744073709551616 ≤ m + d
                    · rw [if_pos hov] at hp
                      have hx := wrap_over hm64 (by omega) hov
                      generalize hX : IntKind.u64.wrap ((m : Int) + (d : Int)) = X at hx
                      simp [h1, h8, h9, h10, h11, h12, h13, h99, h100, h101, hlt', ofBytes_at hlt, g1, g2, g3, hc, f1, f2, dw1, dw2, hbd', hcut', wd, wm, hX, hx]
                      exact ⟨by rw [hpu]; exact hp.symm, 18446744073709551615, rfl⟩
                    · rw [if_neg hov] at hp
                      obtain ⟨q, hq⟩ : ∃ q, q = m + d := ⟨_, rfl⟩
                      have wq : IntKind.u64.wrap ((m : Int) + (d : Int)) = (q : Int) := by rw [wrap_u64] <;> omega
                      have hx1 : ¬ (q : Int) < (m : Int) := by omega
                      have hx2 : ¬ (18446744073709551615 : Int) < (q : Int) := by omega
                      rw [← hq] at hp
                      simp [h1, h8, h9, h10, h11, h12, h13, h99, h100, h101, hlt', ofBytes_at hlt, g1, g2, g3, hc, f1, f2, dw1, dw2, hbd', hcut', wd, wm, wq, hx1, hx2, hw]
                      exact ⟨i + 1, by omega, by omega, q, by omega, hp, rfl, by simp⟩
              · rw [if_neg f] at hp
                by_cases f3 : 97 ≤ lc
                · have f1 : (97 : Int) ≤ (lc : Int) := by omega
                  have f2 : ¬ (lc : Int) ≤ 122 := by omega
                  simp only at hp
                  simp [h1, h8, h9, h10, h11, h12, h13, h99, h100, h101, hlt', ofBytes_at hlt, g1, g2, g3, hc, f1, f2]
                  exact ⟨by rw [hpu]; exact hp.symm, 0, rfl⟩
                · have f1 : ¬ (97 : Int) ≤ (lc : Int) := by omega
                  simp only at hp
                  simp [h1, h8, h9, h10, h11, h12, h13, h99, h100, h101, hlt', ofBytes_at hlt, g1, g2, g3, hc, f1]
                  exact ⟨by rw [hpu]; exact hp.symm, 0, rfl⟩
      · have hlt' : ¬ (i : Int) < (s.length : Int) := by omega
        rw [List.drop_eq_nil_of_le (by omega), puGo] at hp
        simp [h1, h8, h9, h10, h11, h12, h13, h99, h100, h101, hlt']
        exact ⟨n, by rw [hpu]; exact hp.symm, rfl⟩
    · simp [Tryz.f42, h0, hmx]
      refine Run.loopThen (fun (z : Nat × Nat) e H' => z.1 ≤ s.length ∧ z.2 < 18446744073709551616 ∧ puGo 16 (s.drop z.1) z.2 = puGo 16 s 0 ∧ H' = [some (ofBytes s)] ∧ look e 1 = some (.int .i64 16) ∧ look e 8 = some (.bool false) ∧ look e 9 = some (.str s) ∧ look e 10 = some (.int .u64 1152921504606846976) ∧ look e 11 = some (.int .u64 18446744073709551615) ∧ look e 12 = some (.bool false) ∧ look e 13 = some (.int .u64 (z.2 : Nat)) ∧ look e 99 = some (.osl 0 s.length 0 s.length 1) ∧ look e 100 = some (.int .i64 s.length) ∧ look e 101 = some (.int .i64 (z.1 : Nat))) (fun z => s.length - z.1) (0, 0) (by simp) ?_
      rintro ⟨i, n⟩ e H' ⟨hi, hn, hp, rfl, h1, h8, h9, h10, h11, h12, h13, h99, h100, h101⟩
      simp only at hi hn hp h13 h101
      by_cases hlt : i < s.length
      · have hlt' : (i : Int) < (s.length : Int) := by omega
        have hw : IntKind.i64.wrap ((i : Int) + 1) = ((i + 1 : Nat) : Int) := by rw [wrap_i64] <;> omega
        have hc := lower_ev s[i]
        have hclt := s[i].toNat_lt
        rw [List.drop_eq_getElem_cons hlt, puGo] at hp
        unfold dval at hp
        by_cases hd : 48 ≤ s[i].toNat ∧ s[i].toNat ≤ 57
        · rw [if_pos hd] at hp
          have g1 : (48 : Int) ≤ (s[i].toNat : Int) := by omega
          have g2 : (s[i].toNat : Int) ≤ 57 := by omega
          have g3 : ¬ (s[i].toNat : Int) = 95 := by omega
          obtain ⟨d, hdd⟩ : ∃ d, d = s[i].toNat - 48 := ⟨_, rfl⟩
          have dw : IntKind.u8.wrap ((s[i].toNat : Int) - 48) = (d : Int) := by rw [wrap_u8] <;> omega
          rw [← hdd] at hp
          simp only at hp
          have hd16 : d < 16 := by omega
          have wd : IntKind.u64.wrap (d : Int) = (d : Int) := by rw [wrap_u64]; omega
          by_cases hbd : 16 ≤ d
          · have hbd' : (16 : Int) ≤ (d : Int) := by omega
            rw [if_pos hbd] at hp
            simp [h1, h8, h9, h10, h11, h12, h13, h99, h100, h101, hlt', ofBytes_at hlt, g1, g2, g3, dw, hbd']
            exact ⟨by rw [hpu]; exact hp.symm, 0, rfl⟩
          · have hbd' : ¬ (16 : Int) ≤ (d : Int) := by omega
            rw [if_neg hbd] at hp
            by_cases hcut : 1152921504606846976 ≤ n
            · have hcut' : (1152921504606846976 : Int) ≤ (n : Int) := by omega
              rw [if_pos (by omega)] at hp
              simp [h1, h8, h9, h10, h11, h12, h13, h99, h100, h101, hlt', ofBytes_at hlt, g1, g2, g3, dw, hbd', hcut']
              exact ⟨by rw [hpu]; exact hp.symm, 18446744073709551615, rfl⟩
            · have hcut' : ¬ (1152921504606846976 : Int) ≤ (n : Int) := by omega
              obtain ⟨m, hm⟩ : ∃ m, m = n * 16 := ⟨_, rfl⟩
              have hm64 : m < 18446744073709551616 := by omega
              have wm : IntKind.u64.wrap ((n : Int) * 16) = (m : Int) := by rw [wrap_u64] <;> omega
              rw [← hm] at hp
              by_cases hov : 18446744073709551616 ≤ m + d
              · rw [if_pos hov] at hp
                have hx := wrap_over hm64 (by omega) hov
                generalize hX : IntKind.u64.wrap ((m : Int) + (d : Int)) = X at hx
                simp [h1, h8, h9, h10, h11, h12, h13, h99, h100, h101, hlt', ofBytes_at hlt, g1, g2, g3, dw, hbd', hcut', wd, wm, hX, hx]
                exact ⟨by rw [hpu]; exact hp.symm, 18446744073709551615, rfl⟩
              · rw [if_neg hov] at hp
                obtain ⟨q, hq⟩ : ∃ q, q = m + d := ⟨_, rfl⟩
                have wq : IntKind.u64.wrap ((m : Int) + (d : Int)) = (q : Int) := by rw [wrap_u64] <;> omega
                have hx1 : ¬ (q : Int) < (m : Int) := by omega
                have hx2 : ¬ (18446744073709551615 : Int) < (q : Int) := by omega
                rw [← hq] at hp
                simp [h1, h8, h9, h10, h11, h12, h13, h99, h100, h101, hlt', ofBytes_at hlt, g1, g2, g3, dw, hbd', hcut', wd, wm, wq, hx1, hx2, hw]
                exact ⟨i + 1, by omega, by omega, q, by omega, hp, rfl, by simp⟩
        · rw [if_neg hd] at hp
          by_cases h48 : s[i].toNat < 48
          · have lw := low_lt h48
            rw [if_neg (by omega)] at hp
            have g1 : ¬ (48 : Int) ≤ (s[i].toNat : Int) := by omega
            have g3 : ¬ (s[i].toNat : Int) = 95 := by omega
            have f1 : ¬ (97 : Int) ≤ ((s[i] ||| 32).toNat : Int) := by omega
            generalize (s[i] ||| 32).toNat = lc at *
            simp only at hp
            simp [h1, h8, h9, h10, h11, h12, h13, h99, h100, h101, hlt', ofBytes_at hlt, g1, g3, hc, f1]
            exact ⟨by rw [hpu]; exact hp.symm, 0, rfl⟩
          · have g1 : (48 : Int) ≤ (s[i].toNat : Int) := by omega
            have g2 : ¬ (s[i].toNat : Int) ≤ 57 := by omega
            by_cases g95 : s[i].toNat = 95
            · have lw := low_95 g95
              rw [if_neg (by omega)] at hp
              have g3 : (s[i].toNat : Int) = 95 := by omega
              have f1 : (97 : Int) ≤ ((s[i] ||| 32).toNat : Int) := by omega
              have f2 : ¬ ((s[i] ||| 32).toNat : Int) ≤ 122 := by omega
              generalize (s[i] ||| 32).toNat = lc at *
              rw [g3] at hc
              simp only at hp
              simp [h1, h8, h9, h10, h11, h12, h13, h99, h100, h101, hlt', ofBytes_at hlt, g3, hc, f1, f2]
              exact ⟨by rw [hpu]; exact hp.symm, 0, rfl⟩
            · have g3 : ¬ (s[i].toNat : Int) = 95 := by omega
              have lw256 := (s[i] ||| 32).toNat_lt
              generalize (s[i] ||| 32).toNat = lc at *
              by_cases f : 97 ≤ lc ∧ lc ≤ 122
              · rw [if_pos f] at hp
                have f1 : (97 : Int) ≤ (lc : Int) := by omega
                have f2 : (lc : Int) ≤ 122 := by omega
                obtain ⟨d0, hd0⟩ : ∃ d, d = lc - 97 := ⟨_, rfl⟩
                obtain ⟨d, hdd⟩ : ∃ d, d = d0 + 10 := ⟨_, rfl⟩
                have dw1 : IntKind.u8.wrap ((lc : Int) - 97) = (d0 : Int) := by rw [wrap_u8] <;> omega
                have dw2 : IntKind.u8.wrap ((d0 : Int) + 10) = (d : Int) := by rw [wrap_u8] <;> omega
                rw [← hd0, ← hdd] at hp
                simp only at hp
                have hd16 : d < 36 := by omega
                have wd : IntKind.u64.wrap (d : Int) = (d : Int) := by rw [wrap_u64]; omega
                by_cases hbd : 16 ≤ d
                · have hbd' : (16 : Int) ≤ (d : Int) := by omega
                  rw [if_pos hbd] at hp
                  simp [h1, h8, h9, h10, h11, h12, h13, h99, h100, h101, hlt', ofBytes_at hlt, g1, g2, g3, hc, f1, f2, dw1, dw2, hbd']
                  exact ⟨by rw [hpu]; exact hp.symm, 0, rfl⟩
                · have hbd' : ¬ (16 : Int) ≤ (d : Int) := by omega
                  rw [if_neg hbd] at hp
                  by_cases hcut : 1152921504606846976 ≤ n
                  · have hcut' : (1152921504606846976 : Int) ≤ (n : Int) := by omega
                    rw [if_pos (by omega)] at hp
                    simp [h1, h8, h9, h10, h11, h12, h13, h99, h100, h101, hlt', ofBytes_at hlt, g1, g2, g3, hc, f1, f2, dw1, dw2, hbd', hcut']
                    exact ⟨by rw [hpu]; exact hp.symm, 18446744073709551615, rfl⟩
                  · have hcut' : ¬ (1152921504606846976 : Int) ≤ (n : Int) := by omega
                    obtain ⟨m, hm⟩ : ∃ m, m = n * 16 := ⟨_, rfl⟩
                    have hm64 : m < 18446744073709551616 := by omega
                    have wm : IntKind.u64.wrap ((n : Int) * 16) = (m : Int) := by rw [wrap_u64] <;> omega
                    rw [← hm] at hp
                    by_cases hov : 18446744073709551616 ≤ m + d
                    · rw [if_pos hov] at hp
                      have hx := wrap_over hm64 (by omega) hov
                      generalize hX : IntKind.u64.wrap ((m : Int) + (d : Int)) = X at hx
                      simp [h1, h8, h9, h10, h11, h12, h13, h99, h100, h101, hlt', ofBytes_at hlt, g1, g2, g3, hc, f1, f2, dw1, dw2, hbd', hcut', wd, wm, hX, hx]
                      exact ⟨by rw [hpu]; exact hp.symm, 18446744073709551615, rfl⟩
                    · rw [if_neg hov] at hp
                      obtain ⟨q, hq⟩ : ∃ q, q = m + d := ⟨_, rfl⟩
                      have wq : IntKind.u64.wrap ((m : Int) + (d : Int)) = (q : Int) := by rw [wrap_u64] <;> omega
                      have hx1 : ¬ (q : Int) < (m : Int) := by omega
                      have hx2 : ¬ (18446744073709551615 : Int) < (q : Int) := by omega
                      rw [← hq] at hp
                      simp [h1, h8, h9, h10, h11, h12, h13, h99, h100, h101, hlt', ofBytes_at hlt, g1, g2, g3, hc, f1, f2, dw1, dw2, hbd', hcut', wd, wm, wq, hx1, hx2, hw]
                      exact ⟨i + 1, by omega, by omega, q, by omega, hp, rfl, by simp⟩
              · rw [if_neg f] at hp
                by_cases f3 : 97 ≤ lc
                · have f1 : (97 : Int) ≤ (lc : Int) := by omega
                  have f2 : ¬ (lc : Int) ≤ 122 := by omega
                  simp only at hp
                  simp [h1, h8, h9, h10, h11, h12, h13, h99, h100, h101, hlt', ofBytes_at hlt, g1, g2, g3, hc, f1, f2]
                  exact ⟨by rw [hpu]; exact hp.symm, 0, rfl⟩
                · have f1 : ¬ (97 : Int) ≤ (lc : Int) := by omega
                  simp only at hp
                  simp [h1, h8, h9, h10, h11, h12, h13, h99, h100, h101, hlt', ofBytes_at hlt, g1, g2, g3, hc, f1]
                  exact ⟨by rw [hpu]; exact hp.symm, 0, rfl⟩
      · have hlt' : ¬ (i : Int) < (s.length : Int) := by omega
        rw [List.drop_eq_nil_of_le (by omega), puGo] at hp
        simp [h1, h8, h9, h10, h11, h12, h13, h99, h100, h101, hlt']
        exact ⟨n, by rw [hpu]; exact hp.symm, rfl⟩
end Go.Ev.S
/- Numbers that texts are: the errors. -/
namespace Go.Ev.S
open Go Go.Proofs Go.Ev
theorem clone_ev [MaxL] (s : List UInt8) (h : s.length ≤ 281474976710656) : call cx 88 [.str s] [] = some (.str s, []) := by
  refine call_con ?_
  rw [co88, conClone, if_pos h]
theorem syntax_ev [MaxL] (f s : List UInt8) (h : s.length ≤ 281474976710656) : ∃ d, call cx 63 [.str f, .str s] [] = some (.vptr d, []) := by
  have hc := clone_ev s h
  suffices hh : ∃ r, call cx 63 [.str f, .str s] [] = some r ∧ ∃ d, r = (.vptr d, []) by
    obtain ⟨r, h1, d, rfl⟩ := hh
    exact ⟨d, h1⟩
  refine call_runE (fun r => ∃ d, r = (D.vptr d, [])) Tryz.func63 rfl ⟨rfl, rfl⟩ ?_
  simp [Tryz.f63, hc]
theorem range_ev [MaxL] (f s : List UInt8) (h : s.length ≤ 281474976710656) : ∃ d, call cx 64 [.str f, .str s] [] = some (.vptr d, []) := by
  have hc := clone_ev s h
  suffices hh : ∃ r, call cx 64 [.str f, .str s] [] = some r ∧ ∃ d, r = (.vptr d, []) by
    obtain ⟨r, h1, d, rfl⟩ := hh
    exact ⟨d, h1⟩
  refine call_runE (fun r => ∃ d, r = (D.vptr d, [])) Tryz.func64 rfl ⟨rfl, rfl⟩ ?_
  simp [Tryz.f64, hc]
theorem toerr_ev [MaxL] (f s : List UInt8) (h : s.length ≤ 281474976710656) (b c : Int) (hc : c = 1 ∨ c = 2) : ∃ d, call cx 43 [.str f, .str s, .int .i64 b, .int .i64 64, .iface 94 (.int .i64 c)] [] = some (.iface 97 (.vptr d), []) := by
  obtain ⟨d1, h1⟩ := syntax_ev f s h
  obtain ⟨d2, h2⟩ := range_ev f s h
  suffices hh : ∃ r, call cx 43 [.str f, .str s, .int .i64 b, .int .i64 64, .iface 94 (.int .i64 c)] [] = some r ∧ ∃ d, r = (.iface 97 (.vptr d), []) by
    obtain ⟨r, h1, d, rfl⟩ := hh
    exact ⟨d, h1⟩
  refine call_runE (fun r => ∃ d, r = (D.iface 97 (.vptr d), [])) Tryz.func43 rfl ⟨rfl, rfl⟩ ?_
  rcases hc with rfl | rfl
  · simp [Tryz.f43, h2]
  · simp [Tryz.f43, h1]
/-- ParseUint: the number, or an error. -/
theorem pu_ev [MaxL] (b : Nat) (hb : b = 10 ∨ b = 16) (s : List UInt8) (hs : s.length ≤ 281474976710656) :
    (∃ n, pu b s = some n ∧ call cx 25 [.str s, .int .i64 b, .int .i64 64] [] = some (.tup [.int .u64 n, .nili], [])) ∨
    (pu b s = none ∧ ∃ (x : Nat) (d : List D), call cx 25 [.str s, .int .i64 b, .int .i64 64] [] = some (.tup [.int .u64 x, .iface 97 (.vptr d)], [])) := by
  rcases pui_ev b hb s (by omega) with ⟨n, h1, h2⟩ | ⟨h1, x, c, hc, h2⟩
  · refine .inl ⟨n, h1, ?_⟩
    refine call_run Tryz.func25 rfl ⟨rfl, rfl⟩ ?_
    simp [Tryz.f25, h2]
  · obtain ⟨d, hd⟩ := toerr_ev [80, 97, 114, 115, 101, 85, 105, 110, 116] s hs b c hc
    refine .inr ⟨h1, x, d, ?_⟩
    refine call_run Tryz.func25 rfl ⟨rfl, rfl⟩ ?_
    simp [Tryz.f25, h2, hd]
end Go.Ev.S
/- A name, a number as digits. -/
namespace Go.Ev.S
open Go Go.Proofs Go.Ev
theorem hexs_take {l : List UInt8} {k : Nat} (h : k < l.length) : hexs (l.take (k + 1)) = hexs (l.take k) ++ [hexc (l[k].toNat / 16), hexc (l[k].toNat % 16)] := by
  rw [List.take_succ_eq_append_getElem h, hexs_append]
  rfl
set_option maxHeartbeats 2000000 in
theorem hex_ev [MaxL] (l : List UInt8) (hl : l.length = 16) : call cx 18 [.agg (ofBytes l)] [] = some (.str (hexs l), []) := by
  refine call_run Tryz.func18 rfl ⟨rfl, rfl⟩ ?_
  have ht : List.take 16 (ofBytes l) = ofBytes l := List.take_of_length_le (by simp; omega)
  have hl2 : 16 ≤ l.length := by omega
  simp [Tryz.f18, ht, hl2]
  refine Run.loopThen (fun (k : Nat) e H' => k ≤ 16 ∧ look e 6 = some (.agg (ofBytes l)) ∧ look e 7 = some (.int .i64 k) ∧
      ((k = 0 ∧ look e 3 = some (.vsl true [] 0) ∧ H' = [some (ofBytes l)]) ∨
       (∃ w, look e 3 = some (.osl 1 (hexs (l.take k)).length 0 (hexs (l.take k)).length 1) ∧ H' = [w, some (ofBytes (hexs (l.take k)))]) ∨
       (∃ w, look e 3 = some (.osl 0 (hexs (l.take k)).length 0 (hexs (l.take k)).length 1) ∧ H' = [some (ofBytes (hexs (l.take k))), w]))) (fun k => 16 - k) 0 ?_ ?_
  · simp
  rintro k e H' ⟨hk, k6, k7, hH⟩
  by_cases hlt : k < 16
  · have hlt' : (k : Int) < 16 := by omega
    have hkl : k < l.length := by omega
    have hw : IntKind.i64.wrap ((k : Int) + 1) = ((k + 1 : Nat) : Int) := by rw [wrap_i64] <;> omega
    have hat := ofBytes_at hkl
    have hsn := hexs_take hkl
    have hb := l[k].toNat_lt
    have ha := and15_u8 l[k]
    have hp4 : (2 : Int) ^ min 4 IntKind.u8.bits = 16 := by decide
    have hf := fdiv16 l[k].toNat
    have d1 := digL_at (l[k].toNat / 16) (by omega)
    have d2 := digL_at (l[k].toNat % 16) (by omega)
    simp only [digL] at d1 d2
    have hget : (ofBytes l)[k]? = some (.int .u8 l[k].toNat) := by
      rw [List.getElem?_eq_getElem (by simpa using hkl), ofBytes_get]
    have hlen : (hexs (l.take k)).length = 2 * k := by rw [hexs_len, List.length_take]; omega
    generalize l[k] = b at *
    generalize hexc (b.toNat / 16) = c1 at *
    generalize hexc (b.toNat % 16) = c2 at *
    obtain ⟨m1, hm1⟩ : ∃ m, m = b.toNat / 16 := ⟨_, rfl⟩
    obtain ⟨m2, hm2⟩ : ∃ m, m = b.toNat % 16 := ⟨_, rfl⟩
    rw [← hm1] at hf d1
    rw [← hm2] at ha d2
    have hXl : (hexs (l.take (k + 1))).length = (hexs (l.take k)).length + 2 := by rw [hsn]; simp
    have hap : ofBytes (hexs (l.take k)) ++ [.int .u8 c1.toNat, .int .u8 c2.toNat] = ofBytes (hexs (l.take (k + 1))) := by rw [hsn]; simp [ofBytes]
    have hmx : (hexs (l.take k)).length + 2 ≤ maxBytes := Nat.le_trans (show _ ≤ 100 by omega) (by decide)
    rcases hH with ⟨rfl, k3, rfl⟩ | ⟨w, k3, rfl⟩ | ⟨w, k3, rfl⟩
    · simp at hap hXl
      have hm2 : 2 ≤ maxBytes := by decide
      simp [k3, k6, k7, hget, ha, hp4, hf, d1, d2, hm2]
      exact ⟨1, by omega, by omega, by simp, by rw [hXl]; simp [hexs], by rw [← hap]; simp [hexs, ofBytes]⟩
    · generalize hexs (l.take k) = X at *
      simp [k3, k6, k7, hlt', hw, hget, ha, hp4, hf, d1, d2, hap, hmx]
      exact ⟨k + 1, by omega, by omega, by simp, by rw [hXl], rfl⟩
    · generalize hexs (l.take k) = X at *
      simp [k3, k6, k7, hlt', hw, hget, ha, hp4, hf, d1, d2, hap, hmx]
      exact ⟨k + 1, by omega, by omega, by simp, by rw [hXl], rfl⟩
  · have hlt' : ¬ (k : Int) < 16 := by omega
    have hke : k = 16 := by omega
    subst hke
    have htk : l.take 16 = l := List.take_of_length_le (by omega)
    rw [htk] at hH
    rcases hH with ⟨h, _⟩ | ⟨w, k3, rfl⟩ | ⟨w, k3, rfl⟩
    · omega
    · simp [k3, k6, k7]
    · simp [k3, k6, k7]
theorem idxb_ev [MaxL] (s : List UInt8) (c : UInt8) : call cx 27 [.str s, .int .u8 c.toNat] [] = some (.int .i64 (idxB c s 0), []) := by
  have h0 : call cx 67 [.str s, .int .u8 c.toNat] [] = some (.int .i64 (idxB c s 0), []) := by
    rw [call_ext (X := cx) (f := 67) rfl Tryz.func67 rfl, ex67]
    simp [idxBExt]
  have h1 : call cx 44 [.str s, .int .u8 c.toNat] [] = some (.int .i64 (idxB c s 0), []) := by
    refine call_run Tryz.func44 rfl ⟨rfl, rfl⟩ ?_
    simp [Tryz.f44, h0]
  refine call_run Tryz.func27 rfl ⟨rfl, rfl⟩ ?_
  simp [Tryz.f27, h1]
theorem zero16_of : ofBytes zero16 = [.int .u8 0, .int .u8 0, .int .u8 0, .int .u8 0, .int .u8 0, .int .u8 0, .int .u8 0, .int .u8 0, .int .u8 0, .int .u8 0, .int .u8 0, .int .u8 0, .int .u8 0, .int .u8 0, .int .u8 0, .int .u8 0] := rfl
theorem set_bytes (st : List UInt8) (j : Nat) (c : UInt8) (h : j < st.length) : setRange (ofBytes st) j [.int .u8 c.toNat] = ofBytes (st.set j c) := by
  unfold setRange ofBytes
  rw [List.set_eq_take_append_cons_drop, if_pos h]
  simp
set_option maxHeartbeats 2000000 in
theorem id_ev [MaxL] (s : List UInt8) (_ : s.length < 1000000) : call cx 7 [.str s] [] = some (.tup [.agg (ofBytes ((idP s).getD zero16)), .bool (idP s).isSome], []) := by
  refine call_run Tryz.func7 rfl ⟨rfl, rfl⟩ ?_
  have z16 := zero16_of
  have z16l : zero16.length = 16 := rfl
  have z16d : List.drop 16 (ofBytes zero16) = [] := rfl
  by_cases h32 : s.length = 32
  · have h32' : (s.length : Int) = 32 := by omega
    have hP : idP s = idGo s 0 zero16 := by unfold idP; rw [if_pos h32]
    rw [hP]
    simp [Tryz.f7, h32']
    rw [← z16]
    refine Run.loopThen (fun (q : Nat × List UInt8) e H' => q.1 ≤ 32 ∧ q.2.length = 16 ∧ idGo (s.drop q.1) q.1 q.2 = idGo s 0 zero16 ∧ H' = [some (ofBytes zero16), some (ofBytes q.2)] ∧ look e 0 = some (.str s) ∧ look e 2 = some (.optr 0 16 0) ∧ look e 4 = some (.optr 1 16 0) ∧
        look e 12 = some (.int .i64 32) ∧ look e 13 = some (.int .i64 (q.1 : Nat))) (fun q => 32 - q.1) (0, zero16) ?_ ?_
    · simp [zero16]
    rintro ⟨k, st⟩ e H' ⟨hk, hst, hgo, rfl, k0, k2, k4, k12, k13⟩
    simp only at hk hst hgo k13
    by_cases hlt : k < 32
    · have hlt' : (k : Int) < 32 := by omega
      have hks : k < s.length := by omega
      rw [List.drop_eq_getElem_cons hks, idGo] at hgo
      have hsk : s[k]? = some s[k] := List.getElem?_eq_getElem hks
      have hix := idxb_ev digL s[k]
      have hir := idx_range s[k] digL 0
      generalize s[k] = c at *
      simp only [digL] at hix
      have hw : IntKind.i64.wrap ((k : Int) + 1) = ((k + 1 : Nat) : Int) := by rw [wrap_i64] <;> omega
      rcases hir with hn | ⟨m, hm1, hm2⟩
      · rw [hn, if_pos (by omega)] at hgo
        simp only [digL] at hn
        rw [hn] at hix
        rw [← hgo]
        simp [k0, k2, k4, k12, k13, hlt', hsk, hix, ← z16, z16l, z16d]
      · rw [Nat.zero_add] at hm2
        have hm16 : m < 16 := hm1
        rw [hm2, if_neg (by omega)] at hgo
        simp only [digL] at hm2
        rw [hm2] at hix
        have hmn : ¬ (m : Int) < 0 := by omega
        have hmt : ((m : Nat) : Int).toNat = m := by omega
        rw [hmt] at hgo
        have hq : (k : Int).tdiv 2 = ((k / 2 : Nat) : Int) := (Int.ofNat_tdiv k 2).symm
        have hq2 : IntKind.i64.wrap ((k : Int) / 2) = ((k / 2 : Nat) : Int) := by rw [wrap_i64] <;> omega
        obtain ⟨j, hj⟩ : ∃ j, j = k / 2 := ⟨_, rfl⟩
        rw [← hj] at hgo hq hq2
        have hj16 : j < st.length := by omega
        have hj16' : (j : Int) < 16 := by omega
        have hat := ofBytes_at hj16
        have hgd : st.getD j 0 = st[j] := by rw [List.getD, List.getElem?_eq_getElem hj16]; rfl
        rw [hgd] at hgo
        have hwm : IntKind.u8.wrap (m : Int) = (m : Int) := by rw [wrap_u8] <;> omega
        have hor := shl4_u8 st[j] m hm16
        have hset := set_bytes st j (st[j] <<< 4 ||| UInt8.ofNat m) hj16
        generalize st[j] = b at *
        generalize hx : b <<< 4 ||| UInt8.ofNat m = x at *
        have hj1 : j + 1 ≤ st.length := by omega
        have hj15 : j ≤ 15 := by omega
        have hp8 : (2 : Int) ^ min 4 IntKind.u8.bits = 16 := by decide
        have hsl : (st.set j x).length = 16 := by simpa using hst
        generalize st.set j x = st' at *
        simp [-setRange_eq, k0, k2, k4, k12, k13, hlt', hsk, hix, hmn, hq2, hj16', hat, hwm, hor, hp8, hset, hst, hj15, hw]
        exact ⟨k + 1, by omega, by omega, st', hsl, hgo, rfl, by simp⟩
    · have hlt' : ¬ (k : Int) < 32 := by omega
      rw [List.drop_eq_nil_of_le (by omega), idGo] at hgo
      rw [← hgo]
      have hl16 : 16 ≤ st.length := by omega
      have ht : List.take 16 (ofBytes st) = ofBytes st := List.take_of_length_le (by simp; omega)
      simp [k0, k2, k4, k12, k13, hlt', ht, hst, z16l, z16d]
  · have h32' : ¬ (s.length : Int) = 32 := by omega
    have hP : idP s = none := by unfold idP; rw [if_neg h32]
    rw [hP]
    simp [Tryz.f7, h32', ← z16, z16l, z16d]
theorem repeat_ev [MaxL] (n : Nat) (h : n ≤ 16) : call cx 39 [.str [48], .int .i64 n] [] = some (.str (List.replicate n 48), []) := by
  refine call_con ?_
  have e : ∀ n, Lib.repeatL [48] n = List.replicate n (48 : UInt8) := by
    intro n
    induction n with
    | zero => rfl
    | succ n ih => rw [Lib.repeatL, ih]; rfl
  have hn : ((n : Nat) : Int).toNat = n := by omega
  rw [co39, conRepeat, if_pos ⟨by omega, by omega, by rw [hn]; simp; omega⟩, hn, e]
theorem fixed_ev [MaxL] (v : Nat) (hv : v < 18446744073709551616) : call cx 20 [.int .u64 v] [] = some (.str (fixed v), []) := by
  have h1 := fu16_ev v hv
  have h2 := hx_len v
  have h3 := repeat_ev (16 - (hx v).length) (by omega)
  have hw : IntKind.i64.wrap (16 - ((hx v).length : Int)) = ((16 - (hx v).length : Nat) : Int) := by rw [wrap_i64] <;> omega
  have hz : (16 - (hx v).length) + (hx v).length ≤ 4611686018427387904 := by omega
  refine call_run Tryz.func20 rfl ⟨rfl, rfl⟩ ?_
  unfold fixed
  generalize hx v = x at *
  generalize 16 - x.length = n at *
  simp [Tryz.f20, h1, h3, hw, hz]
/-- The number that sixteen digits are. -/
def numF (s : List UInt8) : Option Nat := match pu 16 s with
  | none => none
  | some v => if fixed v = s then some v else none
theorem pu16_lt {s : List UInt8} {v : Nat} (h : pu 16 s = some v) : v < 18446744073709551616 := by
  unfold pu at h
  split at h
  · cases h
  · exact puGo_lt 16 _ _ _ (by decide) h
theorem number16_ev [MaxL] (s : List UInt8) (hs : s.length < 1000000) : call cx 9 [.str s] [] = some (.tup [.int .u64 ((numF s).getD 0 : Nat), .bool (numF s).isSome], []) := by
  refine call_run Tryz.func9 rfl ⟨rfl, rfl⟩ ?_
  unfold numF
  rcases pu_ev 16 (.inr rfl) s (by omega) with ⟨v, e1, e2⟩ | ⟨e1, x, d, e2⟩
  · replace e2 : call cx 25 [.str s, .int .i64 16, .int .i64 64] [] = some (.tup [.int .u64 v, .nili], []) := e2
    rw [e1]
    simp only
    have h := fixed_ev v (pu16_lt e1)
    by_cases he : fixed v = s
    · rw [if_pos he]
      rw [he] at h
      simp [Tryz.f9, e2, h]
    · rw [if_neg he]
      have he2 : (fixed v == s) = false := beq_eq_false_iff_ne.2 he
      generalize fixed v = w at *
      simp [Tryz.f9, e2, h, he2]
  · replace e2 : call cx 25 [.str s, .int .i64 16, .int .i64 64] [] = some (.tup [.int .u64 x, .iface 97 (.vptr d)], []) := e2
    rw [e1]
    simp [Tryz.f9, e2]
end Go.Ev.S
/- Requests, responses. -/
namespace Go.Ev
open Go Go.Proofs
structure Rq where
  path : List UInt8
  epoch : Int
  number : Int
  body : Sl UInt8
instance : Enc Rq := ⟨4, fun m => (.str m.path :: (.int .u64 m.epoch :: (.int .u64 m.number :: ((.vsl m.body.nil (ofBytes m.body.l) m.body.l.length) :: ([] : List D))))), fun m => by simp, fun m => by simp [idFree]⟩
theorem Rq.cells (m : Rq) : Enc.cells m = (.str m.path :: (.int .u64 m.epoch :: (.int .u64 m.number :: ((.vsl m.body.nil (ofBytes m.body.l) m.body.l.length) :: ([] : List D))))) := rfl
@[simp] theorem Rq.size : Enc.size Rq = 4 := rfl
@[simp] theorem Rq.cl (a : Rq) : (Enc.cells a).length = 4 := Enc.len a
@[simp] theorem Rq.ct (a : Rq) (r : List D) : (Enc.cells a ++ r).take 4 = Enc.cells a := cells_take rfl a r
@[simp] theorem Rq.ct' (a : Rq) : (Enc.cells a).take 4 = Enc.cells a := cells_take' rfl a
@[simp] theorem Rq.cd (a : Rq) (r : List D) : (Enc.cells a ++ r).drop 4 = r := cells_drop rfl a r
@[simp] theorem Rq.el (l : List Rq) : (encs l).length = l.length * 4 := encs_len' rfl l
@[simp] theorem Rq.ed (l : List Rq) (i : Nat) : (encs l).drop (i * 4) = encs (l.drop i) := encs_drop rfl l i
@[simp] theorem Rq.et (l : List Rq) (i : Nat) : (encs l).take (i * 4) = encs (l.take i) := encs_take rfl l i
@[simp high] theorem Rq.ea {l : List Rq} {i : Nat} (h : i < l.length) : (encs l).drop (i * 4) = Enc.cells l[i] ++ encs (l.drop (i + 1)) := encs_at rfl h
@[simp high] theorem Rq.es (m : Rq) {l : List Rq} {j : Nat} (h : j < l.length) : setRange (encs l) (j * 4) (Enc.cells m) = encs (l.set j m) := encs_set rfl m l h
@[simp] theorem Rq.g0 (m : Rq) (h) : (Enc.cells m)[0]'h = .str m.path := by simp [Rq.cells]
@[simp] theorem Rq.q0 (m : Rq) : (Enc.cells m)[0]? = some (.str m.path) := by simp [Rq.cells]
@[simp] theorem Rq.s0 (m : Rq) (x : List UInt8) : setRange (Enc.cells m) 0 [.str x] = Enc.cells { m with path := x } := by simp [Rq.cells]
@[simp] theorem Rq.d1 (m : Rq) : (Enc.cells m).drop 1 = (.int .u64 m.epoch :: (.int .u64 m.number :: ((.vsl m.body.nil (ofBytes m.body.l) m.body.l.length) :: ([] : List D)))) := by simp [Rq.cells]
@[simp] theorem Rq.d1' (m : Rq) (r : List D) : (Enc.cells m ++ r).drop 1 = (.int .u64 m.epoch :: (.int .u64 m.number :: ((.vsl m.body.nil (ofBytes m.body.l) m.body.l.length) :: ([] : List D)))) ++ r := by simp [Rq.cells]
@[simp] theorem Rq.g1 (m : Rq) (h) : (Enc.cells m)[1]'h = .int .u64 m.epoch := by simp [Rq.cells]
@[simp] theorem Rq.q1 (m : Rq) : (Enc.cells m)[1]? = some (.int .u64 m.epoch) := by simp [Rq.cells]
@[simp] theorem Rq.s1 (m : Rq) (x : Int) : setRange (Enc.cells m) 1 [.int .u64 x] = Enc.cells { m with epoch := x } := by simp [Rq.cells]
@[simp] theorem Rq.d2 (m : Rq) : (Enc.cells m).drop 2 = (.int .u64 m.number :: ((.vsl m.body.nil (ofBytes m.body.l) m.body.l.length) :: ([] : List D))) := by simp [Rq.cells]
@[simp] theorem Rq.d2' (m : Rq) (r : List D) : (Enc.cells m ++ r).drop 2 = (.int .u64 m.number :: ((.vsl m.body.nil (ofBytes m.body.l) m.body.l.length) :: ([] : List D))) ++ r := by simp [Rq.cells]
@[simp] theorem Rq.g2 (m : Rq) (h) : (Enc.cells m)[2]'h = .int .u64 m.number := by simp [Rq.cells]
@[simp] theorem Rq.q2 (m : Rq) : (Enc.cells m)[2]? = some (.int .u64 m.number) := by simp [Rq.cells]
@[simp] theorem Rq.s2 (m : Rq) (x : Int) : setRange (Enc.cells m) 2 [.int .u64 x] = Enc.cells { m with number := x } := by simp [Rq.cells]
@[simp] theorem Rq.d3 (m : Rq) : (Enc.cells m).drop 3 = ((.vsl m.body.nil (ofBytes m.body.l) m.body.l.length) :: ([] : List D)) := by simp [Rq.cells]
@[simp] theorem Rq.d3' (m : Rq) (r : List D) : (Enc.cells m ++ r).drop 3 = ((.vsl m.body.nil (ofBytes m.body.l) m.body.l.length) :: ([] : List D)) ++ r := by simp [Rq.cells]
@[simp] theorem Rq.g3 (m : Rq) (h) : (Enc.cells m)[3]'h = (.vsl m.body.nil (ofBytes m.body.l) m.body.l.length) := by simp [Rq.cells]
@[simp] theorem Rq.q3 (m : Rq) : (Enc.cells m)[3]? = some ((.vsl m.body.nil (ofBytes m.body.l) m.body.l.length)) := by simp [Rq.cells]
@[simp] theorem Rq.s3 (m : Rq) (x : Sl UInt8) : setRange (Enc.cells m) 3 [(.vsl x.nil (ofBytes x.l) x.l.length)] = Enc.cells { m with body := x } := by simp [Rq.cells]
structure Msg where
  kind : Int
  epoch : Int
  number : Int
  body : Sl UInt8
instance : Enc Msg := ⟨4, fun m => (.int .i64 m.kind :: (.int .u64 m.epoch :: (.int .u64 m.number :: ((.vsl m.body.nil (ofBytes m.body.l) m.body.l.length) :: ([] : List D))))), fun m => by simp, fun m => by simp [idFree]⟩
theorem Msg.cells (m : Msg) : Enc.cells m = (.int .i64 m.kind :: (.int .u64 m.epoch :: (.int .u64 m.number :: ((.vsl m.body.nil (ofBytes m.body.l) m.body.l.length) :: ([] : List D))))) := rfl
@[simp] theorem Msg.size : Enc.size Msg = 4 := rfl
@[simp] theorem Msg.cl (a : Msg) : (Enc.cells a).length = 4 := Enc.len a
@[simp] theorem Msg.ct (a : Msg) (r : List D) : (Enc.cells a ++ r).take 4 = Enc.cells a := cells_take rfl a r
@[simp] theorem Msg.ct' (a : Msg) : (Enc.cells a).take 4 = Enc.cells a := cells_take' rfl a
@[simp] theorem Msg.cd (a : Msg) (r : List D) : (Enc.cells a ++ r).drop 4 = r := cells_drop rfl a r
@[simp] theorem Msg.el (l : List Msg) : (encs l).length = l.length * 4 := encs_len' rfl l
@[simp] theorem Msg.ed (l : List Msg) (i : Nat) : (encs l).drop (i * 4) = encs (l.drop i) := encs_drop rfl l i
@[simp] theorem Msg.et (l : List Msg) (i : Nat) : (encs l).take (i * 4) = encs (l.take i) := encs_take rfl l i
@[simp high] theorem Msg.ea {l : List Msg} {i : Nat} (h : i < l.length) : (encs l).drop (i * 4) = Enc.cells l[i] ++ encs (l.drop (i + 1)) := encs_at rfl h
@[simp high] theorem Msg.es (m : Msg) {l : List Msg} {j : Nat} (h : j < l.length) : setRange (encs l) (j * 4) (Enc.cells m) = encs (l.set j m) := encs_set rfl m l h
@[simp] theorem Msg.g0 (m : Msg) (h) : (Enc.cells m)[0]'h = .int .i64 m.kind := by simp [Msg.cells]
@[simp] theorem Msg.q0 (m : Msg) : (Enc.cells m)[0]? = some (.int .i64 m.kind) := by simp [Msg.cells]
@[simp] theorem Msg.s0 (m : Msg) (x : Int) : setRange (Enc.cells m) 0 [.int .i64 x] = Enc.cells { m with kind := x } := by simp [Msg.cells]
@[simp] theorem Msg.d1 (m : Msg) : (Enc.cells m).drop 1 = (.int .u64 m.epoch :: (.int .u64 m.number :: ((.vsl m.body.nil (ofBytes m.body.l) m.body.l.length) :: ([] : List D)))) := by simp [Msg.cells]
@[simp] theorem Msg.d1' (m : Msg) (r : List D) : (Enc.cells m ++ r).drop 1 = (.int .u64 m.epoch :: (.int .u64 m.number :: ((.vsl m.body.nil (ofBytes m.body.l) m.body.l.length) :: ([] : List D)))) ++ r := by simp [Msg.cells]
@[simp] theorem Msg.g1 (m : Msg) (h) : (Enc.cells m)[1]'h = .int .u64 m.epoch := by simp [Msg.cells]
@[simp] theorem Msg.q1 (m : Msg) : (Enc.cells m)[1]? = some (.int .u64 m.epoch) := by simp [Msg.cells]
@[simp] theorem Msg.s1 (m : Msg) (x : Int) : setRange (Enc.cells m) 1 [.int .u64 x] = Enc.cells { m with epoch := x } := by simp [Msg.cells]
@[simp] theorem Msg.d2 (m : Msg) : (Enc.cells m).drop 2 = (.int .u64 m.number :: ((.vsl m.body.nil (ofBytes m.body.l) m.body.l.length) :: ([] : List D))) := by simp [Msg.cells]
@[simp] theorem Msg.d2' (m : Msg) (r : List D) : (Enc.cells m ++ r).drop 2 = (.int .u64 m.number :: ((.vsl m.body.nil (ofBytes m.body.l) m.body.l.length) :: ([] : List D))) ++ r := by simp [Msg.cells]
@[simp] theorem Msg.g2 (m : Msg) (h) : (Enc.cells m)[2]'h = .int .u64 m.number := by simp [Msg.cells]
@[simp] theorem Msg.q2 (m : Msg) : (Enc.cells m)[2]? = some (.int .u64 m.number) := by simp [Msg.cells]
@[simp] theorem Msg.s2 (m : Msg) (x : Int) : setRange (Enc.cells m) 2 [.int .u64 x] = Enc.cells { m with number := x } := by simp [Msg.cells]
@[simp] theorem Msg.d3 (m : Msg) : (Enc.cells m).drop 3 = ((.vsl m.body.nil (ofBytes m.body.l) m.body.l.length) :: ([] : List D)) := by simp [Msg.cells]
@[simp] theorem Msg.d3' (m : Msg) (r : List D) : (Enc.cells m ++ r).drop 3 = ((.vsl m.body.nil (ofBytes m.body.l) m.body.l.length) :: ([] : List D)) ++ r := by simp [Msg.cells]
@[simp] theorem Msg.g3 (m : Msg) (h) : (Enc.cells m)[3]'h = (.vsl m.body.nil (ofBytes m.body.l) m.body.l.length) := by simp [Msg.cells]
@[simp] theorem Msg.q3 (m : Msg) : (Enc.cells m)[3]? = some ((.vsl m.body.nil (ofBytes m.body.l) m.body.l.length)) := by simp [Msg.cells]
@[simp] theorem Msg.s3 (m : Msg) (x : Sl UInt8) : setRange (Enc.cells m) 3 [(.vsl x.nil (ofBytes x.l) x.l.length)] = Enc.cells { m with body := x } := by simp [Msg.cells]
structure Rs where
  status : Int
  epoch : Int
  number : Int
  body : Sl UInt8
instance : Enc Rs := ⟨4, fun m => (.int .i64 m.status :: (.int .u64 m.epoch :: (.int .u64 m.number :: ((.vsl m.body.nil (ofBytes m.body.l) m.body.l.length) :: ([] : List D))))), fun m => by simp, fun m => by simp [idFree]⟩
theorem Rs.cells (m : Rs) : Enc.cells m = (.int .i64 m.status :: (.int .u64 m.epoch :: (.int .u64 m.number :: ((.vsl m.body.nil (ofBytes m.body.l) m.body.l.length) :: ([] : List D))))) := rfl
@[simp] theorem Rs.size : Enc.size Rs = 4 := rfl
@[simp] theorem Rs.cl (a : Rs) : (Enc.cells a).length = 4 := Enc.len a
@[simp] theorem Rs.ct (a : Rs) (r : List D) : (Enc.cells a ++ r).take 4 = Enc.cells a := cells_take rfl a r
@[simp] theorem Rs.ct' (a : Rs) : (Enc.cells a).take 4 = Enc.cells a := cells_take' rfl a
@[simp] theorem Rs.cd (a : Rs) (r : List D) : (Enc.cells a ++ r).drop 4 = r := cells_drop rfl a r
@[simp] theorem Rs.el (l : List Rs) : (encs l).length = l.length * 4 := encs_len' rfl l
@[simp] theorem Rs.ed (l : List Rs) (i : Nat) : (encs l).drop (i * 4) = encs (l.drop i) := encs_drop rfl l i
@[simp] theorem Rs.et (l : List Rs) (i : Nat) : (encs l).take (i * 4) = encs (l.take i) := encs_take rfl l i
@[simp high] theorem Rs.ea {l : List Rs} {i : Nat} (h : i < l.length) : (encs l).drop (i * 4) = Enc.cells l[i] ++ encs (l.drop (i + 1)) := encs_at rfl h
@[simp high] theorem Rs.es (m : Rs) {l : List Rs} {j : Nat} (h : j < l.length) : setRange (encs l) (j * 4) (Enc.cells m) = encs (l.set j m) := encs_set rfl m l h
@[simp] theorem Rs.g0 (m : Rs) (h) : (Enc.cells m)[0]'h = .int .i64 m.status := by simp [Rs.cells]
@[simp] theorem Rs.q0 (m : Rs) : (Enc.cells m)[0]? = some (.int .i64 m.status) := by simp [Rs.cells]
@[simp] theorem Rs.s0 (m : Rs) (x : Int) : setRange (Enc.cells m) 0 [.int .i64 x] = Enc.cells { m with status := x } := by simp [Rs.cells]
@[simp] theorem Rs.d1 (m : Rs) : (Enc.cells m).drop 1 = (.int .u64 m.epoch :: (.int .u64 m.number :: ((.vsl m.body.nil (ofBytes m.body.l) m.body.l.length) :: ([] : List D)))) := by simp [Rs.cells]
@[simp] theorem Rs.d1' (m : Rs) (r : List D) : (Enc.cells m ++ r).drop 1 = (.int .u64 m.epoch :: (.int .u64 m.number :: ((.vsl m.body.nil (ofBytes m.body.l) m.body.l.length) :: ([] : List D)))) ++ r := by simp [Rs.cells]
@[simp] theorem Rs.g1 (m : Rs) (h) : (Enc.cells m)[1]'h = .int .u64 m.epoch := by simp [Rs.cells]
@[simp] theorem Rs.q1 (m : Rs) : (Enc.cells m)[1]? = some (.int .u64 m.epoch) := by simp [Rs.cells]
@[simp] theorem Rs.s1 (m : Rs) (x : Int) : setRange (Enc.cells m) 1 [.int .u64 x] = Enc.cells { m with epoch := x } := by simp [Rs.cells]
@[simp] theorem Rs.d2 (m : Rs) : (Enc.cells m).drop 2 = (.int .u64 m.number :: ((.vsl m.body.nil (ofBytes m.body.l) m.body.l.length) :: ([] : List D))) := by simp [Rs.cells]
@[simp] theorem Rs.d2' (m : Rs) (r : List D) : (Enc.cells m ++ r).drop 2 = (.int .u64 m.number :: ((.vsl m.body.nil (ofBytes m.body.l) m.body.l.length) :: ([] : List D))) ++ r := by simp [Rs.cells]
@[simp] theorem Rs.g2 (m : Rs) (h) : (Enc.cells m)[2]'h = .int .u64 m.number := by simp [Rs.cells]
@[simp] theorem Rs.q2 (m : Rs) : (Enc.cells m)[2]? = some (.int .u64 m.number) := by simp [Rs.cells]
@[simp] theorem Rs.s2 (m : Rs) (x : Int) : setRange (Enc.cells m) 2 [.int .u64 x] = Enc.cells { m with number := x } := by simp [Rs.cells]
@[simp] theorem Rs.d3 (m : Rs) : (Enc.cells m).drop 3 = ((.vsl m.body.nil (ofBytes m.body.l) m.body.l.length) :: ([] : List D)) := by simp [Rs.cells]
@[simp] theorem Rs.d3' (m : Rs) (r : List D) : (Enc.cells m ++ r).drop 3 = ((.vsl m.body.nil (ofBytes m.body.l) m.body.l.length) :: ([] : List D)) ++ r := by simp [Rs.cells]
@[simp] theorem Rs.g3 (m : Rs) (h) : (Enc.cells m)[3]'h = (.vsl m.body.nil (ofBytes m.body.l) m.body.l.length) := by simp [Rs.cells]
@[simp] theorem Rs.q3 (m : Rs) : (Enc.cells m)[3]? = some ((.vsl m.body.nil (ofBytes m.body.l) m.body.l.length)) := by simp [Rs.cells]
@[simp] theorem Rs.s3 (m : Rs) (x : Sl UInt8) : setRange (Enc.cells m) 3 [(.vsl x.nil (ofBytes x.l) x.l.length)] = Enc.cells { m with body := x } := by simp [Rs.cells]
@[simp] theorem ofBytes_nil : ofBytes [] = [] := rfl
def Msg.zero : Msg := ⟨0, 0, 0, .none⟩
def crlf : List UInt8 := [13, 10]
def epochL : List UInt8 := [88, 45, 69, 112, 111, 99, 104, 58, 32]
def numberL : List UInt8 := [88, 45, 78, 117, 109, 98, 101, 114, 58, 32]
def lengthL : List UInt8 := [67, 111, 110, 116, 101, 110, 116, 45, 76, 101, 110, 103, 116, 104, 58, 32]
def numsL (e n l : Nat) : List UInt8 := epochL ++ (dec e ++ (crlf ++ (numberL ++ (dec n ++ (crlf ++ (lengthL ++ (dec l ++ (crlf ++ crlf))))))))
theorem decF_len : ∀ (f v : Nat), (decF f v).length ≤ f
  | 0, _ => Nat.le_refl _
  | f + 1, v => by
    rw [decF]
    split
    · simp
    · have := decF_len f (v / 10)
      simp
      omega
theorem dec_len (v : Nat) : (dec v).length ≤ 20 := decF_len 20 v
theorem dec_pos (v : Nat) : 0 < (dec v).length := by
  unfold dec decF
  split <;> simp
theorem nums_len (e n l : Nat) : (numsL e n l).length ≤ 103 := by
  have h1 := dec_len e
  have h2 := dec_len n
  have h3 := dec_len l
  simp only [numsL, List.length_append, epochL, numberL, lengthL, crlf, List.length_cons, List.length_nil]
  omega
theorem cat_of {x y s : List UInt8} (e : s = x ++ y) (h : x.length + y.length ≤ 100000) : strD .add x y = some (.str s) := by
  simp only [strD, e]
  rw [if_pos (by omega)]
theorem strD_add {x y : List UInt8} (h : x.length + y.length ≤ 100000) : strD .add x y = some (.str (x ++ y)) := by
  simp only [strD]
  rw [if_pos (by omega)]
section
variable {H : Type} {enc : TypeId × Value → H} {P : Program} {W : World} {base n : Nat} {t e : TypeId} {v : Value} {d : DataW H} {ps : List MemPlace}
theorem arg_u64 (hu : P.underlying t = some (.int .u64)) (hp : PlainT P (n + 1) t = true) (hv : Value.okWide P W .any base t v) (h : DataW.Trod enc P W 0 (fun _ => true) true t v d ps) : ∃ b, Rep (· < W.heap.size) W iota0 [] (.int .u64 b) v ∧ isU64 b := by
  obtain ⟨ds, h1, h2⟩ := read_plain hp h
  obtain ⟨b, rfl, hb⟩ := has_u64 hu h1
  exact ⟨b, cor_val h2 (one_int hu hv), hb⟩
theorem arg_u8 (hu : P.underlying t = some (.int .u8)) (hp : PlainT P (n + 1) t = true) (hv : Value.okWide P W .any base t v) (h : DataW.Trod enc P W 0 (fun _ => true) true t v d ps) : ∃ b : UInt8, Rep (· < W.heap.size) W iota0 [] (.int .u8 b.toNat) v ∧ True := by
  obtain ⟨ds, h1, h2⟩ := read_plain hp h
  obtain ⟨b, rfl⟩ := has_u8 hu h1
  exact ⟨b, cor_val h2 (one_int hu hv), trivial⟩
end
end Go.Ev
/- A place as a text. -/
namespace Go.Ev
open Go Go.Proofs
def kS : List UInt8 := [115, 61]
def kI : List UInt8 := [59, 105, 61]
def kB : List UInt8 := [59, 98, 61]
def kM : List UInt8 := [59, 109, 61]
def kT : List UInt8 := [59, 116, 61]
def kX : List UInt8 := [59, 120, 61]
/-- A place as a text. -/
def showL (c : Cur) : List UInt8 := kS ++ (hexs c.seq.l ++ (kI ++ (hx c.n.toNat ++ (kB ++ (hexs c.boot.l ++ (kM ++ (hx c.mono.toNat ++ (kT ++ (hx c.real.toNat ++ (kX ++ hx c.xor.toNat))))))))))
theorem showL_len (c : Cur) : 80 ≤ (showL c).length ∧ (showL c).length ≤ 200 := by
  have h1 := hx_len c.n.toNat
  have h2 := hx_len c.mono.toNat
  have h3 := hx_len c.real.toNat
  have h4 := hx_len c.xor.toNat
  have g1 := hx_pos c.n.toNat
  have g2 := hx_pos c.mono.toNat
  have g3 := hx_pos c.real.toNat
  have g4 := hx_pos c.xor.toNat
  have i1 := hexs_len c.seq.l
  have i2 := hexs_len c.boot.l
  rw [c.seq.h] at i1
  rw [c.boot.h] at i2
  simp only [showL, List.length_append, kS, kI, kB, kM, kT, kX, List.length_cons, List.length_nil]
  omega
def Cur.zero : Cur := ⟨ID.zero, 0, ID.zero, 0, 0, 0⟩
/-- A text, parted at a byte, so many times at most. -/
def splitN (c : UInt8) : Nat → List UInt8 → List (List UInt8)
  | 0, s => [s]
  | n + 1, s => if idxN [c] s 0 = -1 then [s] else s.take (idxN [c] s 0).toNat :: splitN c n (s.drop ((idxN [c] s 0).toNat + 1))
def splitL (c : UInt8) (s : List UInt8) : List (List UInt8) := splitN c (s.count c) s
theorem splitN_pos (c : UInt8) : ∀ (n : Nat) (s : List UInt8), 0 < (splitN c n s).length
  | 0, _ => by simp [splitN]
  | n + 1, s => by
    rw [splitN]
    split <;> simp
def cutAt (c : UInt8) (s : List UInt8) : List UInt8 := if idxN [c] s 0 = -1 then [] else s.drop ((idxN [c] s 0).toNat + 1)
def idOf (s : List UInt8) : ID := ⟨(idP s).getD zero16, by
  cases h : idP s with
  | none => rfl
  | some r => exact idP_len h⟩
/-- Two places. -/
def curEq (a b : Cur) : Bool := a.seq == b.seq && (a.n == b.n && (a.boot == b.boot && (a.mono == b.mono && (a.real == b.real && a.xor == b.xor))))
theorem curEq_iff (a b : Cur) : curEq a b = true ↔ a = b := by
  obtain ⟨a1, a2, a3, a4, a5, a6⟩ := a
  obtain ⟨b1, b2, b3, b4, b5, b6⟩ := b
  simp [curEq]
@[simp] theorem Cur.eq36 (a b : Cur) : cellsEq [.i, .i, .i, .i, .i, .i, .i, .i, .i, .i, .i, .i, .i, .i, .i, .i, .i, .i, .i, .i, .i, .i, .i, .i, .i, .i, .i, .i, .i, .i, .i, .i, .i, .i, .i, .i] (Enc.cells a) (Enc.cells b) = some (curEq a b) := by
  have h1 := cellsEq16 a.seq b.seq
  have h2 := cellsEq16 a.boot b.boot
  rw [Cur.cells, Cur.cells]
  have e : ([.i, .i, .i, .i, .i, .i, .i, .i, .i, .i, .i, .i, .i, .i, .i, .i, .i, .i, .i, .i, .i, .i, .i, .i, .i, .i, .i, .i, .i, .i, .i, .i, .i, .i, .i, .i] : List CK) = [.i, .i, .i, .i, .i, .i, .i, .i, .i, .i, .i, .i, .i, .i, .i, .i] ++ (.i :: ([.i, .i, .i, .i, .i, .i, .i, .i, .i, .i, .i, .i, .i, .i, .i, .i] ++ [.i, .i, .i])) := rfl
  rw [e, cellsEq_app _ _ _ _ _ _ (by simp) (by simp), h1]
  simp only [cellsEq, cellEq, if_true]
  rw [cellsEq_app _ _ _ _ _ _ (by simp) (by simp), h2]
  simp only [cellsEq, cellEq, if_true, Bool.and_true]
  rfl
theorem idx_at (c : UInt8) : ∀ (A B : List UInt8) (n : Nat), (∀ x ∈ A, x ≠ c) → idxN [c] (A ++ c :: B) n = ((n + A.length : Nat) : Int)
  | [], B, n, _ => by simp [idxN, List.isPrefixOf]
  | x :: A, B, n, h => by
    have hx := h x (by simp)
    have hx2 : (c == x) = false := by simpa using Ne.symm hx
    rw [List.cons_append, idxN, if_neg (by simp [List.isPrefixOf, hx2]), idx_at c A B (n + 1) fun y hy => h y (by simp [hy])]
    simp
    omega
theorem idx_no (c : UInt8) : ∀ (A : List UInt8) (n : Nat), (∀ x ∈ A, x ≠ c) → idxN [c] A n = -1
  | [], n, _ => by simp [idxN]
  | x :: A, n, h => by
    have hx := h x (by simp)
    have hx2 : (c == x) = false := by simpa using Ne.symm hx
    rw [idxN, if_neg (by simp [List.isPrefixOf, hx2]), idx_no c A (n + 1) fun y hy => h y (by simp [hy])]
theorem split_at {c : UInt8} {A : List UInt8} (h : ∀ x ∈ A, x ≠ c) (B : List UInt8) : splitL c (A ++ c :: B) = A :: splitL c B := by
  have h0 : A.count c = 0 := List.count_eq_zero.2 fun hm => h c hm rfl
  have hc : (A ++ c :: B).count c = B.count c + 1 := by
    rw [List.count_append, h0, List.count_cons_self]
    omega
  unfold splitL
  rw [hc, splitN, idx_at c A B 0 h, Nat.zero_add, if_neg (by omega)]
  have e : ((A.length : Nat) : Int).toNat = A.length := by omega
  rw [e, List.take_left]
  congr 1
  rw [← List.drop_drop, List.drop_left]
  rfl
theorem split_no {c : UInt8} {A : List UInt8} (h : ∀ x ∈ A, x ≠ c) : splitL c A = [A] := by
  have h0 : A.count c = 0 := List.count_eq_zero.2 fun hm => h c hm rfl
  unfold splitL
  rw [h0, splitN]
theorem cut_at {c : UInt8} {A : List UInt8} (h : ∀ x ∈ A, x ≠ c) (B : List UInt8) : cutAt c (A ++ c :: B) = B := by
  unfold cutAt
  rw [idx_at c A B 0 h, Nat.zero_add, if_neg (by omega)]
  have e : ((A.length : Nat) : Int).toNat = A.length := by omega
  rw [e, ← List.drop_drop, List.drop_left]
  rfl
theorem ne59 {k : UInt8} {A : List UInt8} (hk : k ≠ 59) (h : ∀ x ∈ A, x ≠ 59 ∧ x ≠ 61 ∧ x ≠ 45) : ∀ x ∈ k :: 61 :: A, x ≠ 59 := by
  intro x hx
  simp only [List.mem_cons] at hx
  rcases hx with rfl | rfl | hx
  · exact hk
  · decide
  · exact (h x hx).1
theorem vals_show (c : Cur) : (splitL 59 (showL c)).map (cutAt 61) = [hexs c.seq.l, hx c.n.toNat, hexs c.boot.l, hx c.mono.toNat, hx c.real.toNat, hx c.xor.toNat] := by
  have e : showL c = (115 :: 61 :: hexs c.seq.l) ++ 59 :: ((105 :: 61 :: hx c.n.toNat) ++ 59 :: ((98 :: 61 :: hexs c.boot.l) ++ 59 :: ((109 :: 61 :: hx c.mono.toNat) ++ 59 :: ((116 :: 61 :: hx c.real.toNat) ++ 59 :: (120 :: 61 :: hx c.xor.toNat))))) := by
    simp [showL, kS, kI, kB, kM, kT, kX]
  have hc : ∀ (k : UInt8) (A : List UInt8), k ≠ 61 → cutAt 61 (k :: 61 :: A) = A := fun k A hk => cut_at (A := [k]) (by simpa using hk) A
  rw [e, split_at (ne59 (by decide) (hexs_ne _)), split_at (ne59 (by decide) (hx_ne _)), split_at (ne59 (by decide) (hexs_ne _)), split_at (ne59 (by decide) (hx_ne _)), split_at (ne59 (by decide) (hx_ne _)), split_no (ne59 (by decide) (hx_ne _))]
  simp only [List.map_cons, List.map_nil, hc 115 _ (by decide), hc 105 _ (by decide), hc 98 _ (by decide), hc 109 _ (by decide), hc 116 _ (by decide), hc 120 _ (by decide)]
theorem idOf_hexs (i : ID) : idOf (hexs i.l) = i := ID.ext' (by show (idP (hexs i.l)).getD zero16 = i.l; rw [idP_hexs i.h]; rfl)
end Go.Ev
/- What arguments of this program's types are. -/
namespace Go.Ev.S
open Go Go.Proofs Go.Ev
theorem has_ID {n : Nat} {cs : List D} (h : HasT Tryz.prog (n + 2) 23 cs) : ∃ i : ID, cs = ofBytes i.l := has_id un23 un5 h
structure CurOk (c : Cur) : Prop where
  n : isU64 c.n
  mono : isU64 c.mono
  real : isU64 c.real
  xor : isU64 c.xor
theorem has_Cur {n : Nat} {cs : List D} (h : HasT Tryz.prog (n + 2 + 1) 26 cs) : ∃ m : Cur, cs = Enc.cells m ∧ CurOk m := by
  have h := has_struct (P := Tryz.prog) (n := n + 2) (t := 26) Tryz.underlying26 h
  simp only [HasFs] at h
  obtain ⟨a, b, rfl, -, ha, c, d, rfl, -, hc, e, f, rfl, -, he, g, k, rfl, -, hg, a2, b2, rfl, -, h2, a3, b3, rfl, -, h3, rfl⟩ := h
  obtain ⟨id, rfl⟩ := has_ID ha
  obtain ⟨x1, rfl, w1⟩ := has_u64 un24 hc
  obtain ⟨id2, rfl⟩ := has_ID he
  obtain ⟨x2, rfl, w2⟩ := has_u64 un24 hg
  obtain ⟨x3, rfl, w3⟩ := has_u64 un24 h2
  obtain ⟨x4, rfl, w4⟩ := has_u64 un24 h3
  exact ⟨⟨id, x1, id2, x2, x3, x4⟩, by simp [Cur.cells], ⟨w1, w2, w3, w4⟩⟩
end Go.Ev.S
/- Texts are cut. -/
namespace Go.Ev.S
open Go Go.Proofs Go.Ev
theorem idx_cases (sep : List UInt8) : ∀ (s : List UInt8) (n : Nat), (∃ i : Nat, idxN sep s n = ((n + i : Nat) : Int) ∧ i + sep.length ≤ s.length ∧ sep.isPrefixOf (s.drop i) = true) ∨ idxN sep s n = -1
  | [], n => by
    unfold idxN
    cases sep with
    | nil => exact .inl ⟨0, by simp⟩
    | cons a l => exact .inr (by simp)
  | b :: l, n => by
    unfold idxN
    by_cases h : sep.isPrefixOf (b :: l) = true
    · rw [if_pos h]
      refine .inl ⟨0, by simp, ?_, by simpa using h⟩
      have := List.IsPrefix.length_le (List.isPrefixOf_iff_prefix.1 h)
      simpa using this
    · rw [if_neg h]
      rcases idx_cases sep l (n + 1) with ⟨i, h1, h2, h3⟩ | h1
      · exact .inl ⟨i + 1, by rw [h1]; omega, by simp; omega, by simpa using h3⟩
      · exact .inr h1
theorem index_ev [MaxL] (s sep : List UInt8) (hs : s.length < 4294967281) : call cx 60 [.str s, .str sep] [] = some (.int .i64 (idxN sep s 0), []) := by
  refine call_con ?_
  rw [co60, conIdx, if_pos hs]
end Go.Ev.S
/- Texts are cut. -/
namespace Go.Ev.S
open Go Go.Proofs Go.Ev
/-- A text up to where another one stands in it, and what stands behind. -/
def cutL (sep s : List UInt8) : List UInt8 × List UInt8 × Bool := if idxN sep s 0 = -1 then (s, [], false) else (s.take (idxN sep s 0).toNat, s.drop ((idxN sep s 0).toNat + sep.length), true)
theorem cutlite_ev [MaxL] (s sep : List UInt8) (hs : s.length < 1000000) (hl : sep.length < 1000000) : call cx 41 [.str s, .str sep] [] = some (.tup [.str (cutL sep s).1, .str (cutL sep s).2.1, .bool (cutL sep s).2.2], []) := by
  have h := index_ev s sep (by omega)
  unfold cutL
  refine call_run Tryz.func41 rfl ⟨rfl, rfl⟩ ?_
  rcases idx_cases sep s 0 with ⟨i, h1, h2, -⟩ | h1
  · rw [h1] at h
    rw [h1]
    obtain ⟨j, hj⟩ : ∃ j, j = i + sep.length := ⟨_, rfl⟩
    have hw : IntKind.i64.wrap ((i : Int) + (sep.length : Int)) = (j : Int) := by rw [wrap_i64] <;> omega
    have hn : ¬ ((0 + i : Nat) : Int) = -1 := by omega
    have g1 : (i : Int) ≤ (s.length : Int) := by omega
    have g2 : (j : Int) ≤ (s.length : Int) := by omega
    have g3 : j ≤ s.length := by omega
    have g4 : i ≤ s.length := by omega
    rw [Nat.zero_add] at h hn
    simp [Tryz.f41, h, hw, g1, g2, ← hj]
    exact List.take_of_length_le (by simp)
  · rw [h1] at h
    simp [Tryz.f41, h, h1]
theorem cut_ev [MaxL] (s sep : List UInt8) (hs : s.length < 1000000) (hl : sep.length < 1000000) : call cx 23 [.str s, .str sep] [] = some (.tup [.str (cutL sep s).1, .str (cutL sep s).2.1, .bool (cutL sep s).2.2], []) := by
  have h := cutlite_ev s sep hs hl
  refine call_run Tryz.func23 rfl ⟨rfl, rfl⟩ ?_
  simp [Tryz.f23, h]
end Go.Ev.S
/- A place as a text: it is shown, and parted. -/
namespace Go.Ev.S
open Go Go.Proofs Go.Ev
theorem show1_ev [MaxL] (v : Nat) (hv : v < 18446744073709551616) : call cx 29 [.int .u64 v] [] = some (.str (hx v), []) := by
  have h := fu16_ev v hv
  refine call_run Tryz.func29 rfl ⟨rfl, rfl⟩ ?_
  simp [Tryz.f29, h]
set_option maxHeartbeats 2000000 in
theorem show_ev [MaxL] (c : Cur) (h : CurOk c) : call cx 12 [.agg (Enc.cells c)] [] = some (.str (showL c), []) := by
  obtain ⟨w1, w2, w3, w4⟩ := h
  unfold isU64 at w1 w2 w3 w4
  have e1 : ((c.n.toNat : Nat) : Int) = c.n := by omega
  have e2 : ((c.mono.toNat : Nat) : Int) = c.mono := by omega
  have e3 : ((c.real.toNat : Nat) : Int) = c.real := by omega
  have e4 : ((c.xor.toNat : Nat) : Int) = c.xor := by omega
  have h1 := hex_ev c.seq.l c.seq.h
  have h2 := show1_ev c.n.toNat (by omega)
  have h3 := hex_ev c.boot.l c.boot.h
  have h4 := show1_ev c.mono.toNat (by omega)
  have h5 := show1_ev c.real.toNat (by omega)
  have h6 := show1_ev c.xor.toNat (by omega)
  rw [e1] at h2
  rw [e2] at h4
  rw [e3] at h5
  rw [e4] at h6
  have l1 := hexs_len c.seq.l
  have l2 := hx_len c.n.toNat
  have l3 := hexs_len c.boot.l
  have l4 := hx_len c.mono.toNat
  have l5 := hx_len c.real.toNat
  have l6 := hx_len c.xor.toNat
  rw [c.seq.h] at l1
  rw [c.boot.h] at l3
  unfold showL
  generalize hexs c.seq.l = a1 at *
  generalize hx c.n.toNat = a2 at *
  generalize hexs c.boot.l = a3 at *
  generalize hx c.mono.toNat = a4 at *
  generalize hx c.real.toNat = a5 at *
  generalize hx c.xor.toNat = a6 at *
  clear e1 e2 e3 e4 w1 w2 w3 w4
  obtain ⟨s1, es1⟩ : ∃ s, s = kS ++ a1 := ⟨_, rfl⟩
  have ls1 : s1.length = kS.length + a1.length := by rw [es1, List.length_append]
  obtain ⟨s2, es2⟩ : ∃ s, s = s1 ++ kI := ⟨_, rfl⟩
  have ls2 : s2.length = s1.length + kI.length := by rw [es2, List.length_append]
  obtain ⟨s3, es3⟩ : ∃ s, s = s2 ++ a2 := ⟨_, rfl⟩
  have ls3 : s3.length = s2.length + a2.length := by rw [es3, List.length_append]
  obtain ⟨s4, es4⟩ : ∃ s, s = s3 ++ kB := ⟨_, rfl⟩
  have ls4 : s4.length = s3.length + kB.length := by rw [es4, List.length_append]
  obtain ⟨s5, es5⟩ : ∃ s, s = s4 ++ a3 := ⟨_, rfl⟩
  have ls5 : s5.length = s4.length + a3.length := by rw [es5, List.length_append]
  obtain ⟨s6, es6⟩ : ∃ s, s = s5 ++ kM := ⟨_, rfl⟩
  have ls6 : s6.length = s5.length + kM.length := by rw [es6, List.length_append]
  obtain ⟨s7, es7⟩ : ∃ s, s = s6 ++ a4 := ⟨_, rfl⟩
  have ls7 : s7.length = s6.length + a4.length := by rw [es7, List.length_append]
  obtain ⟨s8, es8⟩ : ∃ s, s = s7 ++ kT := ⟨_, rfl⟩
  have ls8 : s8.length = s7.length + kT.length := by rw [es8, List.length_append]
  obtain ⟨s9, es9⟩ : ∃ s, s = s8 ++ a5 := ⟨_, rfl⟩
  have ls9 : s9.length = s8.length + a5.length := by rw [es9, List.length_append]
  obtain ⟨s10, es10⟩ : ∃ s, s = s9 ++ kX := ⟨_, rfl⟩
  have ls10 : s10.length = s9.length + kX.length := by rw [es10, List.length_append]
  obtain ⟨s11, es11⟩ : ∃ s, s = s10 ++ a6 := ⟨_, rfl⟩
  have ls11 : s11.length = s10.length + a6.length := by rw [es11, List.length_append]
  simp only [kS, kI, kB, kM, kT, kX, List.length_cons, List.length_nil] at ls1 ls2 ls3 ls4 ls5 ls6 ls7 ls8 ls9 ls10 ls11
  have cs1 := cat_of es1 (by (try simp only [kS, List.length_cons, List.length_nil]); omega)
  have cs2 := cat_of es2 (by (try simp only [kI, List.length_cons, List.length_nil]); omega)
  have cs3 := cat_of es3 (by (try simp only [kS, kI, kB, kM, kT, kX, List.length_cons, List.length_nil]); omega)
  have cs4 := cat_of es4 (by (try simp only [kB, List.length_cons, List.length_nil]); omega)
  have cs5 := cat_of es5 (by (try simp only [kS, kI, kB, kM, kT, kX, List.length_cons, List.length_nil]); omega)
  have cs6 := cat_of es6 (by (try simp only [kM, List.length_cons, List.length_nil]); omega)
  have cs7 := cat_of es7 (by (try simp only [kS, kI, kB, kM, kT, kX, List.length_cons, List.length_nil]); omega)
  have cs8 := cat_of es8 (by (try simp only [kT, List.length_cons, List.length_nil]); omega)
  have cs9 := cat_of es9 (by (try simp only [kS, kI, kB, kM, kT, kX, List.length_cons, List.length_nil]); omega)
  have cs10 := cat_of es10 (by (try simp only [kX, List.length_cons, List.length_nil]); omega)
  have cs11 := cat_of es11 (by (try simp only [kS, kI, kB, kM, kT, kX, List.length_cons, List.length_nil]); omega)
  simp only [kS, kI, kB, kM, kT, kX] at cs1 cs2 cs3 cs4 cs5 cs6 cs7 cs8 cs9 cs10 cs11
  have hfin : kS ++ (a1 ++ (kI ++ (a2 ++ (kB ++ (a3 ++ (kM ++ (a4 ++ (kT ++ (a5 ++ (kX ++ a6)))))))))) = s11 := by
    simp [es11, es10, es9, es8, es7, es6, es5, es4, es3, es2, es1]
  rw [hfin]
  clear hfin es1 es2 es3 es4 es5 es6 es7 es8 es9 es10 es11 ls1 ls2 ls3 ls4 ls5 ls6 ls7 ls8 ls9 ls10 ls11 l1 l2 l3 l4 l5 l6
  refine call_run Tryz.func12 rfl ⟨rfl, rfl⟩ ?_
  simp [Tryz.f12, h1, h2, h3, h4, h5, h6, -strD, cs1, cs2, cs3, cs4, cs5, cs6, cs7, cs8, cs9, cs10, cs11]
end Go.Ev.S
/- A text is parted. -/
namespace Go.Ev.S
open Go Go.Proofs Go.Ev
theorem count_ev [MaxL] (s : List UInt8) (c : UInt8) : call cx 58 [.str s, .str [c]] [] = some (.int .i64 (s.count c : Nat), []) := by
  have h0 : call cx 84 [.str s, .int .u8 c.toNat] [] = some (.int .i64 (s.count c : Nat), []) := by
    rw [call_ext (X := cx) (f := 84) rfl Tryz.func84 rfl, ex84]
    simp [cntExt]
  refine call_run Tryz.func58 rfl ⟨rfl, rfl⟩ ?_
  simp [Tryz.f58, h0]
theorem sindex_ev [MaxL] (s sep : List UInt8) (hs : s.length < 4294967281) : call cx 59 [.str s, .str sep] [] = some (.int .i64 (idxN sep s 0), []) := by
  have h := index_ev s sep hs
  refine call_run Tryz.func59 rfl ⟨rfl, rfl⟩ ?_
  simp [Tryz.f59, h]
theorem flat_rep (n : Nat) : (List.replicate n [D.str []]).flatten = List.replicate n (D.str []) := by
  induction n with
  | zero => rfl
  | succ n ih => rw [List.replicate_succ, List.flatten_cons, ih]; rfl
theorem set_piece (ps : List (List UInt8)) (x : List UInt8) (n : Nat) : setRange (ps.map D.str ++ List.replicate (n + 1) (D.str [])) ps.length [.str x] = (ps ++ [x]).map D.str ++ List.replicate n (D.str []) := by
  have h1 : List.drop (ps.length + 1) (ps.map D.str ++ D.str [] :: List.replicate n (D.str [])) = List.replicate n (D.str []) := by
    rw [show ps.map D.str ++ D.str [] :: List.replicate n (D.str []) = (ps.map D.str ++ [D.str []]) ++ List.replicate n (D.str []) by simp]
    exact List.drop_left' (by simp)
  unfold setRange
  rw [List.replicate_succ]
  simp [h1]
set_option maxHeartbeats 2000000 in
theorem gensplit_ev [MaxL] (c : UInt8) (s : List UInt8) (hs : s.length < 1000000) : call cx 40 [.str s, .str [c], .int .i64 0, .int .i64 (-1)] [] = some (.vsl false ((splitL c s).map D.str) (splitL c s).length, []) := by
  have hc := count_ev s c
  have hcl : s.count c ≤ s.length := List.count_le_length
  unfold splitL
  generalize s.count c = m at *
  refine call_run Tryz.func40 rfl ⟨rfl, rfl⟩ ?_
  have w1 : IntKind.i64.wrap ((m : Int) + 1) = ((m + 1 : Nat) : Int) := by rw [wrap_i64] <;> omega
  have w2 : IntKind.i64.wrap ((s.length : Int) + 1) = ((s.length + 1 : Nat) : Int) := by rw [wrap_i64] <;> omega
  have w3 : ¬ s.length < m := by omega
  have w4 : IntKind.i64.wrap (m : Int) = (m : Int) := by rw [wrap_i64]; omega
  have w5 : (16 : Int) * ((m : Int) + 1) ≤ (maxBytes : Nat) := by simp only [maxBytes]; omega
  have w6 : (m : Int) + 1 ≤ (maxBytes : Nat) := by simp only [maxBytes]; omega
  have w7 : (0 : Int) ≤ (m : Int) + 1 := by omega
  have w8 : IntKind.i64.wrap ((m : Int) + 1 - 1) = (m : Int) := by rw [wrap_i64] <;> omega
  simp [Tryz.f40, hc, w1, w2, w3, w4, w5, w6, w7]
  refine Run.loopThen (fun (q : List (List UInt8) × List UInt8) e H' => q.1.length ≤ m ∧ q.2.length ≤ s.length ∧ q.1 ++ splitN c (m - q.1.length) q.2 = splitN c m s ∧ H' = [some (q.1.map D.str ++ List.replicate (m - q.1.length + 1) (.str []))] ∧
      look e 0 = some (.str q.2) ∧ look e 1 = some (.str [c]) ∧ look e 2 = some (.int .i64 0) ∧ look e 3 = some (.int .i64 m) ∧ look e 9 = some (.osl 0 (m + 1) 0 (m + 1) 1) ∧ look e 10 = some (.int .i64 (q.1.length : Nat))) (fun q => m - q.1.length) ([], s) ?_ ?_
  · simp
  rintro ⟨ps, r⟩ e H' ⟨hp, hr, hgo, rfl, k0, k1, k2, k3, k9, k10⟩
  simp only at hp hr hgo k0 k10
  have hix := sindex_ev r [c] (by omega)
  have hpm : (ps.length : Int) < (m : Int) + 1 := by omega
  have hnn : (0 : Int) ≤ (ps.length : Int) + 1 := by omega
  have hl1 : ps.length + (m - ps.length + 1) = m + 1 := by omega
  have hpw : IntKind.i64.wrap ((ps.length : Int) + 1) = ((ps.length + 1 : Nat) : Int) := by rw [wrap_i64] <;> omega
  have hpl : ps.length + 1 ≤ m + 1 := by omega
  have hfin : ∀ (x : List UInt8), List.take (ps.length + 1) ((ps ++ [x]).map D.str ++ List.replicate (m - ps.length) (.str [])) = (ps ++ [x]).map D.str := by
    intro x
    exact List.take_left' (by simp)
  have hl5 : ps.length + 1 + (m - ps.length) = m + 1 := by omega
  have hidf : idFree.idFreeL (List.map D.str (ps ++ [r]) ++ List.replicate (m - ps.length) (D.str [])) = true := by
    rw [idFreeL_all]
    simp [idFree]
  by_cases hlt : ps.length < m
  · have hlt' : (ps.length : Int) < (m : Int) := by omega
    obtain ⟨d, hd⟩ : ∃ d, m - ps.length = d + 1 := ⟨m - ps.length - 1, by omega⟩
    rw [hd, splitN] at hgo
    rcases idx_cases [c] r 0 with ⟨j, h1, h2, -⟩ | h1
    · rw [Nat.zero_add] at h1
      rw [h1] at hix
      rw [h1, if_neg (by omega)] at hgo
      have hjt : ((j : Nat) : Int).toNat = j := by omega
      rw [hjt] at hgo
      have hj1 : j + 1 ≤ r.length := by simpa using h2
      have hjn : ¬ (j : Int) < 0 := by omega
      have hwj : IntKind.i64.wrap (j : Int) = (j : Int) := by rw [wrap_i64]; omega
      obtain ⟨i, hi⟩ : ∃ i, i = j + 1 := ⟨_, rfl⟩
      have hwi : IntKind.i64.wrap ((j : Int) + 1) = (i : Int) := by rw [wrap_i64] <;> omega
      rw [← hi] at hgo
      have hst := set_piece ps (r.take j) (d + 1)
      have hdr : List.take (r.length - i) (List.drop i r) = r.drop i := List.take_of_length_le (by simp)
      have hrl : (r.drop i).length ≤ s.length := by simp; omega
      have g1 : (j : Int) ≤ (r.length : Int) := by omega
      have g2 : j ≤ r.length := by omega
      have g3 : (i : Int) ≤ (r.length : Int) := by omega
      have g4 : i ≤ r.length := by omega
      have g5 : m - ps.length + 1 = d + 1 + 1 := by omega
      have g6 : m - (ps.length + 1) + 1 = d + 1 := by omega
      have g7 : ps.length + (d + 1 + 1) = m + 1 := by omega
      have g8 : ps.length + 1 ≤ ps.length + (d + 1 + 1) := by omega
      rw [g5]
      simp [-setRange_eq, -List.map_append, -List.map_cons, hp, k0, k1, k2, k3, k9, k10, hlt', hix, hjn, hwj, hwi, g1, g3, g7, hpm, hst, hdr, hpw]
      have hpl2 : (ps ++ [r.take j]).length = ps.length + 1 := by simp
      refine ⟨ps ++ [r.take j], by rw [hpl2]; omega, by rw [hpl2]; omega, r.drop i, hrl, ?_, ?_, rfl, by rw [hpl2]; simp⟩
      · rw [hpl2, show m - (ps.length + 1) = d by omega, ← hgo]
        simp
      · rw [hpl2, show m - (ps.length + 1) + 1 = d + 1 by omega]
    · rw [h1] at hix
      rw [h1, if_pos rfl] at hgo
      have hst := set_piece ps r (m - ps.length)
      rw [← hgo]
      simp [-setRange_eq, -List.map_append, -List.map_cons, hp, hnn, k0, k1, k2, k3, k9, k10, hlt', hix, hpm, hst, hl1, hpw, hpl, hfin, hl5, hidf]
  · have hlt' : ¬ (ps.length : Int) < (m : Int) := by omega
    have hpe : ps.length = m := by omega
    have hd : m - ps.length = 0 := by omega
    rw [hd, splitN] at hgo
    have hst := set_piece ps r (m - ps.length)
    rw [← hgo]
    simp [-setRange_eq, -List.map_append, -List.map_cons, hp, hnn, k0, k1, k2, k3, k9, k10, hlt', hpm, hst, hl1, hpw, hpl, hfin, hl5, hidf]
theorem split_ev [MaxL] (c : UInt8) (s : List UInt8) (hs : s.length < 1000000) : call cx 22 [.str s, .str [c]] [] = some (.vsl false ((splitL c s).map D.str) (splitL c s).length, []) := by
  have h := gensplit_ev c s hs
  refine call_run Tryz.func22 rfl ⟨rfl, rfl⟩ ?_
  simp [Tryz.f22, h]
theorem splitN_le (c : UInt8) : ∀ (n : Nat) (s : List UInt8), ∀ x ∈ splitN c n s, x.length ≤ s.length
  | 0, s, x, h => by simp [splitN] at h; rw [h]; exact Nat.le_refl _
  | n + 1, s, x, h => by
    rw [splitN] at h
    split at h
    · simp at h; rw [h]; exact Nat.le_refl _
    · rcases List.mem_cons.1 h with rfl | h
      · simp; omega
      · have := splitN_le c n _ x h
        simp at this
        omega
theorem cutAt_le (c : UInt8) (s : List UInt8) : (cutAt c s).length ≤ s.length := by
  unfold cutAt
  split <;> simp
theorem splitN_len (c : UInt8) : ∀ (n : Nat) (s : List UInt8), (splitN c n s).length ≤ n + 1
  | 0, s => by simp [splitN]
  | n + 1, s => by
    rw [splitN]
    split
    · simp
    · have := splitN_len c n (s.drop ((idxN [c] s 0).toNat + 1))
      simp
      omega
end Go.Ev.S
/- A text as a place. -/
namespace Go.Ev.S
open Go Go.Proofs Go.Ev
theorem z36 : [.int .u8 0, .int .u8 0, .int .u8 0, .int .u8 0, .int .u8 0, .int .u8 0, .int .u8 0, .int .u8 0, .int .u8 0, .int .u8 0, .int .u8 0, .int .u8 0, .int .u8 0, .int .u8 0, .int .u8 0, .int .u8 0, .int .u64 0, .int .u8 0, .int .u8 0, .int .u8 0, .int .u8 0, .int .u8 0, .int .u8 0, .int .u8 0, .int .u8 0, .int .u8 0, .int .u8 0, .int .u8 0, .int .u8 0, .int .u8 0, .int .u8 0, .int .u8 0, .int .u8 0, .int .u64 0, .int .u64 0, .int .u64 0] = Enc.cells Cur.zero := rfl
def hexP (s : List UInt8) : Nat := (pu 16 s).getD 0
theorem hexP_lt (s : List UInt8) : hexP s < 18446744073709551616 := by
  unfold hexP
  cases h : pu 16 s with
  | none => decide
  | some v => exact pu16_lt h
def curOf (l : List (List UInt8)) : Cur := ⟨idOf (l.getD 0 []), hexP (l.getD 1 []), idOf (l.getD 2 []), hexP (l.getD 3 []), hexP (l.getD 4 []), hexP (l.getD 5 [])⟩
theorem curOf_ok (l : List (List UInt8)) : CurOk (curOf l) := by
  have h := hexP_lt
  refine ⟨?_, ?_, ?_, ?_⟩
  · have := h (l.getD 1 []); show isU64 (hexP (l.getD 1 []) : Nat); unfold isU64; omega
  · have := h (l.getD 3 []); show isU64 (hexP (l.getD 3 []) : Nat); unfold isU64; omega
  · have := h (l.getD 4 []); show isU64 (hexP (l.getD 4 []) : Nat); unfold isU64; omega
  · have := h (l.getD 5 []); show isU64 (hexP (l.getD 5 []) : Nat); unfold isU64; omega
def valsP (s : List UInt8) : List (List UInt8) := (splitL 59 s).map (cutAt 61)
def parseP (s : List UInt8) : Cur × Bool := if (valsP s).length = 6 ∧ showL (curOf (valsP s)) = s then (curOf (valsP s), true) else (Cur.zero, false)
theorem cutAt_cutL (c : UInt8) (s : List UInt8) : (cutL [c] s).2.1 = cutAt c s := by
  unfold cutL cutAt
  split <;> rfl
theorem strs_at {l : List (List UInt8)} {i : Nat} (h : i < l.length) : (l.map D.str).drop i = .str l[i] :: (l.map D.str).drop (i + 1) := by
  rw [List.drop_eq_getElem_cons (by simpa using h)]
  simp
theorem parse1_ev [MaxL] (x : List UInt8) (l : List (List UInt8)) (hl : l.length = 6) (hs : ∀ y ∈ l, y.length < 1000000) (i : Nat) (hi : i < 6) (n : Int) (hn : n = (i : Int)) :
    call cx 24 [.int .i64 n, .optr 1 1 0] [some (Enc.cells Cur.zero), some [.osl 3 6 0 6 1], some [.str x], some (l.map D.str)] = some (.int .u64 (hexP (l.getD i []) : Nat), [some (Enc.cells Cur.zero), some [.osl 3 6 0 6 1], some [.str x], some (l.map D.str)]) := by
  subst hn
  have hil : i < l.length := by omega
  have hgd : l.getD i [] = l[i] := by rw [List.getD, List.getElem?_eq_getElem hil]; rfl
  have hat := strs_at hil
  have hsi := hs l[i] (List.getElem_mem hil)
  rw [hgd]
  generalize l[i] = y at *
  have hi' : (i : Int) < 6 := by omega
  refine call_run Tryz.func24 rfl ⟨rfl, rfl⟩ ?_
  unfold hexP
  rcases pu_ev 16 (.inr rfl) y (by omega) with ⟨v, e1, e2⟩ | ⟨e1, w, d, e2⟩
  · replace e2 : call cx 25 [.str y, .int .i64 16, .int .i64 64] [] = some (.tup [.int .u64 v, .nili], []) := e2
    rw [e1]
    simp [Tryz.f24, hi', hl, hat, e2]
  · replace e2 : call cx 25 [.str y, .int .i64 16, .int .i64 64] [] = some (.tup [.int .u64 w, .iface 97 (.vptr d)], []) := e2
    rw [e1]
    simp [Tryz.f24, hi', hl, hat, e2]
def TakenP (V : List (List UInt8)) (k : Nat) (W : List (List UInt8)) : Prop := W = V.take k
theorem taken_step {V W : List (List UInt8)} {k : Nat} (h : TakenP V k W) {v : List UInt8} (hv : V[k]? = some v) : TakenP V (k + 1) (W ++ [v]) := by
  unfold TakenP at *
  rw [List.take_add_one, hv, h]
  rfl
set_option maxHeartbeats 4000000 in
set_option maxRecDepth 4000 in
theorem parse_ev [MaxL] (s : List UInt8) (hs : s.length < 100000) : call cx 5 [.str s] [] = some (.tup [.agg (Enc.cells (parseP s).1), .bool (parseP s).2], []) := by
  have hsp := split_ev 59 s (by omega)
  have hpl : ∀ x ∈ splitL 59 s, x.length ≤ s.length := splitN_le 59 _ s
  have hpn : (splitL 59 s).length ≤ s.length + 1 := Nat.le_trans (splitN_len 59 _ s) (by have := List.count_le_length (a := (59 : UInt8)) (l := s); omega)
  have hp0 : 0 < (splitL 59 s).length := splitN_pos 59 _ s
  have hz := z36
  have hP : parseP s = if (valsP s).length = 6 ∧ showL (curOf (valsP s)) = s then (curOf (valsP s), true) else (Cur.zero, false) := rfl
  have hV : valsP s = (splitL 59 s).map (cutAt 61) := rfl
  generalize parseP s = res at *
  generalize valsP s = V at *
  generalize splitL 59 s = P at *
  refine call_run Tryz.func5 rfl ⟨rfl, rfl⟩ ?_
  simp [Tryz.f5, hsp, hz]
  refine Run.loopThen (fun (k : Nat) e H' => k ≤ P.length ∧ look e 0 = some (.str s) ∧ look e 2 = some (.optr 0 36 0) ∧ look e 4 = some (.optr 1 1 0) ∧ look e 13 = some (.vsl false (P.map D.str) P.length) ∧ look e 14 = some (.int .i64 P.length) ∧ look e 15 = some (.int .i64 k) ∧
      ((k = 0 ∧ H' = [some (Enc.cells Cur.zero), some [.vsl true [] 0]]) ∨
       (∃ W x, TakenP V k W ∧ W.length = k ∧ H' = [some (Enc.cells Cur.zero), some [.osl 3 W.length 0 W.length 1], some [.str x], some (W.map D.str)]) ∨
       (∃ W x y, TakenP V k W ∧ W.length = k ∧ H' = [some (Enc.cells Cur.zero), some [.osl 3 W.length 0 W.length 1], some [.str x], some (W.map D.str), some [.str y]]))) (fun k => P.length - k) 0 ?_ ?_
  · simp
  rintro k e H' ⟨hk, k0, k2, k4, k13, k14, k15, hH⟩
  have hVl : V.length = P.length := by rw [hV]; simp
  by_cases hlt : k < P.length
  · have hlt' : (k : Int) < (P.length : Int) := by omega
    have hw : IntKind.i64.wrap ((k : Int) + 1) = ((k + 1 : Nat) : Int) := by rw [wrap_i64] <;> omega
    have hat := strs_at hlt
    have hcut := cut_ev P[k] [61] (by have := hpl _ (List.getElem_mem hlt); omega) (by decide)
    rw [cutAt_cutL] at hcut
    have hvk : V[k]? = some (cutAt 61 P[k]) := by
      rw [hV, List.getElem?_map, List.getElem?_eq_getElem hlt]
      rfl
    generalize P[k] = p at *
    generalize cutAt 61 p = v at *
    generalize (cutL [61] p).1 = c1 at *
    generalize (cutL [61] p).2.2 = c3 at *
    have hmx : (k + 1) * 16 ≤ maxBytes := Nat.le_trans (show _ ≤ 2000000 by omega) (by decide)
    have hmx2 : k + 1 ≤ maxBytes := Nat.le_trans (show _ ≤ 2000000 by omega) (by decide)
    rcases hH with ⟨rfl, rfl⟩ | ⟨W, x, hW, hWl, rfl⟩ | ⟨W, x, y, hW, hWl, rfl⟩
    · have hm1 : 16 ≤ maxBytes := by decide
      have hm2 : 1 ≤ maxBytes := by decide
      have hT : TakenP V 1 [v] := taken_step (W := []) (k := 0) rfl hvk
      simp [k0, k2, k4, k13, k14, k15, hlt, hat, hcut, hm1, hm2]
      exact ⟨1, by omega, by omega, by simp, [v], hT, rfl, rfl, rfl⟩
    · have hT := taken_step hW hvk
      rw [← hWl] at hmx hmx2
      simp [k0, k2, k4, k13, k14, k15, hlt', hat, hcut, hw, hmx, hmx2]
      exact ⟨k + 1, by omega, by omega, by simp, W ++ [v], hT, by simp [hWl], by simp, by simp⟩
    · have hT := taken_step hW hvk
      rw [← hWl] at hmx hmx2
      simp [k0, k2, k4, k13, k14, k15, hlt', hat, hcut, hw, hmx, hmx2]
      exact ⟨k + 1, by omega, by omega, by simp, W ++ [v], hT, by simp [hWl], by simp, by simp⟩
  · have hlt' : ¬ (k : Int) < (P.length : Int) := by omega
    have hke : k = P.length := by omega
    have hvk : V.take k = V := List.take_of_length_le (by omega)
    have hVs : ∀ y ∈ V, y.length < 1000000 := by
      intro y hy
      rw [hV] at hy
      obtain ⟨p, hp, rfl⟩ := List.mem_map.1 hy
      have h1 := cutAt_le 61 p
      have h2 := hpl p hp
      omega
    by_cases h6 : V.length = 6
    · have hp1 := fun x i hi n hn => parse1_ev x V h6 hVs i hi n hn
      obtain ⟨y0, y1, y2, y3, y4, y5, hVy⟩ : ∃ y0 y1 y2 y3 y4 y5, V = [y0, y1, y2, y3, y4, y5] := by
        clear hP hp1 hH hV hVl hVs hvk
        match V, h6 with
        | [a, b, c, d, e, f], _ => exact ⟨a, b, c, d, e, f, rfl⟩
      have hcu : curOf [y0, y1, y2, y3, y4, y5] = ⟨idOf y0, (hexP y1 : Nat), idOf y2, (hexP y3 : Nat), (hexP y4 : Nat), (hexP y5 : Nat)⟩ := rfl
      have i0 : call cx 7 [.str y0] [] = some (.tup [.agg (ofBytes (idOf y0).l), .bool (idP y0).isSome], []) := id_ev y0 (hVs y0 (by rw [hVy]; simp))
      have i2 : call cx 7 [.str y2] [] = some (.tup [.agg (ofBytes (idOf y2).l), .bool (idP y2).isSome], []) := id_ev y2 (hVs y2 (by rw [hVy]; simp))
      have hsh := show_ev (curOf V) (curOf_ok V)
      have hd36 : List.drop 36 (Enc.cells Cur.zero) = [] := List.drop_eq_nil_of_le (by simp)
      rcases hH with ⟨h, _⟩ | ⟨W, x, hW, hWl, rfl⟩ | ⟨W, x, y, hW, hWl, rfl⟩
      · omega
      · skip
        have hWV : W = V := by rw [← hvk]; exact hW
        subst hWV
        have p1 := hp1 x 1 (by omega) 1 rfl
        have p3 := hp1 x 3 (by omega) 3 rfl
        have p4 := hp1 x 4 (by omega) 4 rfl
        have p5 := hp1 x 5 (by omega) 5 rfl
        clear hp1 hVs hV hVl hW hvk hWl
        rw [hVy] at p1 p3 p4 p5 h6 ⊢
        simp at p1 p3 p4 p5
        by_cases hq : showL (curOf W) = s
        · rw [if_pos ⟨by rw [hVy]; rfl, hq⟩] at hP
          subst hP
          rw [hVy, hcu] at hq
          rw [hVy, hcu] at hsh
          rw [hq] at hsh
          rw [hVy, hcu]
          simp [k0, k2, k4, k13, k14, k15, hlt', p1, p3, p4, p5, i0, i2, hz, hd36, hsh]
        · rw [if_neg (fun h => hq h.2)] at hP
          subst hP
          rw [hVy, hcu] at hq hsh
          have hq2 : (showL ⟨idOf y0, (hexP y1 : Nat), idOf y2, (hexP y3 : Nat), (hexP y4 : Nat), (hexP y5 : Nat)⟩ == s) = false := beq_eq_false_iff_ne.2 hq
          generalize showL ⟨idOf y0, (hexP y1 : Nat), idOf y2, (hexP y3 : Nat), (hexP y4 : Nat), (hexP y5 : Nat)⟩ = w at *
          simp [k0, k2, k4, k13, k14, k15, hlt', p1, p3, p4, p5, i0, i2, hz, hd36, hsh, hq2]
      · skip
        have hWV : W = V := by rw [← hvk]; exact hW
        subst hWV
        have p1 := hp1 x 1 (by omega) 1 rfl
        have p3 := hp1 x 3 (by omega) 3 rfl
        have p4 := hp1 x 4 (by omega) 4 rfl
        have p5 := hp1 x 5 (by omega) 5 rfl
        clear hp1 hVs hV hVl hW hvk hWl
        rw [hVy] at p1 p3 p4 p5 h6 ⊢
        simp at p1 p3 p4 p5
        by_cases hq : showL (curOf W) = s
        · rw [if_pos ⟨by rw [hVy]; rfl, hq⟩] at hP
          subst hP
          rw [hVy, hcu] at hq
          rw [hVy, hcu] at hsh
          rw [hq] at hsh
          rw [hVy, hcu]
          simp [k0, k2, k4, k13, k14, k15, hlt', p1, p3, p4, p5, i0, i2, hz, hd36, hsh]
        · rw [if_neg (fun h => hq h.2)] at hP
          subst hP
          rw [hVy, hcu] at hq hsh
          have hq2 : (showL ⟨idOf y0, (hexP y1 : Nat), idOf y2, (hexP y3 : Nat), (hexP y4 : Nat), (hexP y5 : Nat)⟩ == s) = false := beq_eq_false_iff_ne.2 hq
          generalize showL ⟨idOf y0, (hexP y1 : Nat), idOf y2, (hexP y3 : Nat), (hexP y4 : Nat), (hexP y5 : Nat)⟩ = w at *
          simp [k0, k2, k4, k13, k14, k15, hlt', p1, p3, p4, p5, i0, i2, hz, hd36, hsh, hq2]
    · have h6' : ¬ (V.length : Int) = 6 := by omega
      rw [if_neg (fun h => h6 h.1)] at hP
      subst hP
      rcases hH with ⟨h, _⟩ | ⟨W, x, hW, hWl, rfl⟩ | ⟨W, x, y, hW, hWl, rfl⟩
      · omega
      · have hWV : W = V := by rw [← hvk]; exact hW
        subst hWV
        simp [k0, k2, k4, k13, k14, k15, hlt', h6', hz]
      · have hWV : W = V := by rw [← hvk]; exact hW
        subst hWV
        simp [k0, k2, k4, k13, k14, k15, hlt', h6', hz]
end Go.Ev.S
/- Digits are read: plain laws. -/
namespace Go.Ev.S
open Go Go.Proofs Go.Ev
theorem dval_hexc : ∀ k, k < 16 → dval (hexc k) = some k := by decide
theorem puGo_app16 : ∀ (l r : List UInt8) (n : Nat), puGo 16 (l ++ r) n = match puGo 16 l n with
    | none => none
    | some m => puGo 16 r m
  | [], r, n => by simp [puGo]
  | c :: l, r, n => by
    simp only [List.cons_append, puGo]
    cases dval c with
    | none => rfl
    | some d =>
      simp only
      split
      · rfl
      · split
        · rfl
        · exact puGo_app16 l r _
theorem puGo_hexF : ∀ (f v : Nat), v < 16 ^ f → 1 ≤ f → v < 18446744073709551616 → puGo 16 (hexF f v) 0 = some v
  | f + 1, v, h, _, h64 => by
    rw [hexF]
    by_cases hv : v < 16
    · rw [if_pos hv]
      simp only [puGo, dval_hexc v hv]
      rw [if_neg (by omega), if_neg (by omega)]
      congr 1
      omega
    · rw [if_neg hv, puGo_app16]
      have hf : 1 ≤ f := by
        rcases f with _ | f
        · simp at h; omega
        · omega
      rw [puGo_hexF f (v / 16) (by rw [Nat.pow_succ] at h; omega) hf (by omega)]
      simp only [puGo, dval_hexc _ (Nat.mod_lt v (by decide : 16 > 0))]
      rw [if_neg (by omega), if_neg (by omega)]
      congr 1
      omega
theorem puGo_hx {v : Nat} (h : v < 18446744073709551616) : puGo 16 (hx v) 0 = some v := puGo_hexF 16 v (by omega) (by omega) h
theorem pu_hx {v : Nat} (h : v < 18446744073709551616) : pu 16 (hx v) = some v := by
  have hp := hx_pos v
  unfold pu
  rw [if_neg (by intro e; rw [e] at hp; simp at hp)]
  exact puGo_hx h
theorem puGo_zeros (l : List UInt8) : ∀ n, puGo 16 (List.replicate n 48 ++ l) 0 = puGo 16 l 0
  | 0 => rfl
  | n + 1 => by
    rw [List.replicate_succ, List.cons_append, puGo]
    have : dval 48 = some 0 := by decide
    rw [this]
    simp only
    rw [if_neg (by omega), if_neg (by omega)]
    exact puGo_zeros l n
theorem numF_fixed {v : Nat} (h : v < 18446744073709551616) : numF (fixed v) = some v := by
  have hl := fixed_len v
  have hp : pu 16 (fixed v) = some v := by
    unfold pu
    rw [if_neg (by intro e; rw [e] at hl; simp at hl)]
    unfold fixed
    rw [puGo_zeros, puGo_hx h]
  unfold numF
  rw [hp]
  simp
end Go.Ev.S
/- Places as texts: plain laws. -/
namespace Go.Ev.S
open Go Go.Proofs Go.Ev
theorem curOf_vals (c : Cur) (h : CurOk c) : curOf [hexs c.seq.l, hx c.n.toNat, hexs c.boot.l, hx c.mono.toNat, hx c.real.toNat, hx c.xor.toNat] = c := by
  obtain ⟨w1, w2, w3, w4⟩ := h
  unfold isU64 at w1 w2 w3 w4
  have e : ∀ x : Int, 0 ≤ x ∧ x < 18446744073709551616 → ((hexP (hx x.toNat) : Nat) : Int) = x := by
    intro x hx
    unfold hexP
    rw [pu_hx (by omega)]
    show ((x.toNat : Nat) : Int) = x
    omega
  unfold curOf
  simp only [List.getD_cons_zero, List.getD_cons_succ, idOf_hexs, e _ w1, e _ w2, e _ w3, e _ w4]
theorem parse_show (c : Cur) (h : CurOk c) : parseP (showL c) = (c, true) := by
  have hv : valsP (showL c) = _ := vals_show c
  unfold parseP
  rw [hv, curOf_vals c h]
  simp
theorem parseP_show {s : List UInt8} (h : (parseP s).2 = true) : showL (parseP s).1 = s := by
  unfold parseP at h ⊢
  split at h
  · rename_i hc
    rw [if_pos hc]
    exact hc.2
  · cases h
theorem curZero_ok : CurOk Cur.zero := by
  refine ⟨?_, ?_, ?_, ?_⟩ <;> (show isU64 0; unfold isU64; omega)
theorem parseP_ok (s : List UInt8) : CurOk (parseP s).1 := by
  unfold parseP
  split
  · exact curOf_ok _
  · exact curZero_ok
theorem xorI8 (a b : UInt8) : xorI .u8 (a.toNat : Int) (b.toNat : Int) = ((a ^^^ b).toNat : Int) := by
  unfold xorI
  have h := (a ^^^ b).toNat_lt
  have e : (BitVec.ofInt IntKind.u8.bits (a.toNat : Int) ^^^ BitVec.ofInt IntKind.u8.bits (b.toNat : Int)).toNat = (a ^^^ b).toNat := by
    simp [IntKind.bits]
    rfl
  rw [e, wrap_u8]
  omega
theorem xor_self8 {x y : UInt8} (h : x ^^^ y = x) : y = 0 := by
  have h2 : x ^^^ (x ^^^ y) = x ^^^ x := by rw [h]
  rw [← UInt8.xor_assoc, UInt8.xor_self, UInt8.zero_xor] at h2
  exact h2
/-- What a text, read, has to do with a place. -/
theorem parse_else {c : Cur} (hinj : ∀ d, CurOk d → showL d = showL c → d = c) {t : List UInt8} (h : (parseP t).2 = true) : showL (parseP t).1 = t ∧ curEq (parseP t).1 c = decide (t = showL c) := by
  have h2 := parseP_show h
  refine ⟨h2, ?_⟩
  by_cases hy : t = showL c
  · rw [hy] at h2
    rw [decide_eq_true hy, hy]
    exact (curEq_iff _ _).2 (hinj _ (parseP_ok _) h2)
  · rw [decide_eq_false hy]
    cases hq : curEq (parseP t).1 c with
    | false => rfl
    | true =>
      have h3 := (curEq_iff _ _).1 hq
      rw [h3] at h2
      exact absurd h2.symm hy
end Go.Ev.S
/- Hexadecimal digits, read and written another way. -/
namespace Go.Ev
open Go Go.Proofs
/-- So many digits of a number. -/
def fxN : Nat → Nat → List UInt8
  | 0, _ => []
  | n + 1, v => fxN n (v / 16) ++ [hexc (v % 16)]
theorem fxN_len : ∀ (n v : Nat), (fxN n v).length = n
  | 0, _ => rfl
  | n + 1, v => by rw [fxN, List.length_append, fxN_len n]; rfl
theorem fxN_zero : ∀ (n : Nat), fxN n 0 = List.replicate n 48
  | 0 => rfl
  | n + 1 => by
    rw [fxN, Nat.zero_div, fxN_zero n, Nat.zero_mod]
    have : hexc 0 = 48 := by decide
    rw [this, List.replicate_succ']
theorem fxN_hexF : ∀ (f n v : Nat), v < 16 ^ f → 1 ≤ f → f ≤ n → List.replicate (n - (hexF f v).length) 48 ++ hexF f v = fxN n v
  | 0, _, _, _, h, _ => by omega
  | f + 1, 0, _, _, _, h => by omega
  | f + 1, n + 1, v, h, _, hn => by
    rw [hexF, fxN]
    by_cases hv : v < 16
    · rw [if_pos hv, show v / 16 = 0 by omega, fxN_zero, Nat.mod_eq_of_lt hv]
      rfl
    · rw [if_neg hv]
      have hf : 1 ≤ f := by
        rcases f with _ | f
        · simp at h; omega
        · omega
      have ih := fxN_hexF f n (v / 16) (by rw [Nat.pow_succ] at h; omega) hf (by omega)
      have hl : n + 1 - (hexF f (v / 16) ++ [hexc (v % 16)]).length = n - (hexF f (v / 16)).length := by
        rw [List.length_append]
        simp
      rw [hl, ← List.append_assoc, ih]
theorem fixed_fxN {v : Nat} (h : v < 18446744073709551616) : fixed v = fxN 16 v := fxN_hexF 16 16 v (by omega) (by omega) (by omega)
/-- Noughts ahead are left out, but the last digit. -/
def strip0 : List UInt8 → List UInt8
  | [] => []
  | [c] => [c]
  | c :: d :: l => if c = 48 then strip0 (d :: l) else c :: d :: l
theorem hexF_head : ∀ (f v : Nat), v < 16 ^ f → 1 ≤ f → ∃ k l, hexF f v = hexc k :: l ∧ k < 16 ∧ (k = 0 → l = [])
  | 0, _, _, h => by omega
  | f + 1, v, h, _ => by
    rw [hexF]
    by_cases hv : v < 16
    · rw [if_pos hv]
      exact ⟨v, [], rfl, hv, fun _ => rfl⟩
    · rw [if_neg hv]
      have hf : 1 ≤ f := by
        rcases f with _ | f
        · simp at h; omega
        · omega
      obtain ⟨k, l, e, hk, h0⟩ := hexF_head f (v / 16) (by rw [Nat.pow_succ] at h; omega) hf
      refine ⟨k, l ++ [hexc (v % 16)], by rw [e]; rfl, hk, fun hk0 => ?_⟩
      exfalso
      have hl := h0 hk0
      rw [hl, hk0] at e
      have : ∀ (f w : Nat), 1 ≤ f → hexF f w = [hexc 0] → w = 0 ∨ 16 ≤ w ∨ 0 < w := by intro _ w _ _; omega
      have h16 : 1 ≤ v / 16 := by omega
      have hz : ∀ (f w : Nat), 1 ≤ w → w < 16 ^ f → hexF f w ≠ [hexc 0] := by
        intro f w hw hlt
        rcases f with _ | f
        · simp at hlt; omega
        · rw [hexF]
          by_cases hw16 : w < 16
          · rw [if_pos hw16]
            intro e
            have e1 := List.head_eq_of_cons_eq e
            have hinj : ∀ a, a < 16 → hexc a = hexc 0 → a = 0 := by decide
            exact absurd (hinj w hw16 e1) (by omega)
          · rw [if_neg hw16]
            intro e
            have e1 := congrArg List.length e
            simp at e1
            have hp : 0 < (hexF f (w / 16)).length := by
              rcases f with _ | f
              · simp at hlt; omega
              · rw [hexF]; split <;> simp
            rw [e1] at hp
            simp at hp
      exact hz f (v / 16) h16 (by rw [Nat.pow_succ] at h; omega) e
theorem strip0_rep {l : List UInt8} (h : l ≠ []) : ∀ n, strip0 (List.replicate n 48 ++ l) = strip0 l
  | 0 => rfl
  | n + 1 => by
    have ih := strip0_rep h n
    rw [List.replicate_succ, List.cons_append]
    cases hq : List.replicate n (48 : UInt8) ++ l with
    | nil => simp at hq; exact absurd hq.2 h
    | cons d r =>
      rw [hq] at ih
      rw [strip0, if_pos rfl, ih]
theorem strip0_fixed {v : Nat} (h : v < 18446744073709551616) : strip0 (fxN 16 v) = hx v := by
  rw [← fixed_fxN h]
  unfold fixed
  have hp := hx_pos v
  rw [strip0_rep (by intro e; rw [e] at hp; simp at hp)]
  obtain ⟨k, l, e, hk, h0⟩ := hexF_head 16 v (by omega) (by omega)
  have e' : hx v = hexc k :: l := e
  rw [e']
  cases l with
  | nil => rfl
  | cons d r =>
    rw [strip0, if_neg]
    intro hc
    have hinj : ∀ a, a < 16 → hexc a = 48 → a = 0 := by decide
    have := h0 (hinj k hk hc)
    cases this
/-- Digits as a number. -/
def shortGo : List UInt8 → Nat → Option Nat
  | [], v => some v
  | c :: l, v => if idxB c digL 0 < 0 then none else shortGo l ((v * 16 + (idxB c digL 0).toNat) % 18446744073709551616)
theorem dig_is (c : UInt8) : idxB c digL 0 = -1 ∨ ∃ k : Nat, k < 16 ∧ idxB c digL 0 = (k : Int) ∧ c = hexc k := by
  have h : ∀ n : Nat, n < 256 → idxB (UInt8.ofNat n) digL 0 = -1 ∨ ∃ k : Nat, k < 16 ∧ idxB (UInt8.ofNat n) digL 0 = (k : Int) ∧ UInt8.ofNat n = hexc k := by decide +kernel
  have := h c.toNat c.toNat_lt
  rwa [UInt8.ofNat_toNat] at this
theorem short_app {k : Nat} (hk : k < 16) : ∀ (l : List UInt8) (v : Nat), shortGo (l ++ [hexc k]) v = (shortGo l v).map fun w => (w * 16 + k) % 18446744073709551616
  | [], v => by
    have h := digL_idx k hk
    simp only [List.nil_append, shortGo, h]
    rw [if_neg (by omega)]
    simp
  | c :: l, v => by
    simp only [List.cons_append, shortGo]
    split
    · rfl
    · exact short_app hk l _
theorem short_fxN : ∀ (n v : Nat), n ≤ 16 → v < 16 ^ n → shortGo (fxN n v) 0 = some v
  | 0, v, _, h => by
    have : v = 0 := by simpa using h
    rw [this]; rfl
  | n + 1, v, hn, h => by
    have hp : 16 ^ (n + 1) ≤ 18446744073709551616 := Nat.le_trans (Nat.pow_le_pow_right (by decide) hn) (by decide)
    rw [fxN, short_app (by omega), short_fxN n (v / 16) (by omega) (by rw [Nat.pow_succ] at h; omega), Option.map_some]
    congr 1
    omega
/-- Digits are what their number is written as. -/
theorem fxN_short : ∀ (n : Nat) (l : List UInt8) (v : Nat), n ≤ 16 → l.length = n → shortGo l 0 = some v → v < 16 ^ n ∧ fxN n v = l
  | 0, l, v, _, hl, h => by
    have : l = [] := List.length_eq_zero_iff.1 hl
    subst this
    simp only [shortGo, Option.some.injEq] at h
    subst h
    exact ⟨by decide, rfl⟩
  | n + 1, l, v, hn, hl, h => by
    obtain ⟨r, c, rfl⟩ : ∃ r c, l = r ++ [c] := by
      have hne : l ≠ [] := by intro e; rw [e] at hl; simp at hl
      exact ⟨l.dropLast, l.getLast hne, (List.dropLast_concat_getLast hne).symm⟩
    have hr : r.length = n := by simpa using hl
    have hp : 16 ^ (n + 1) ≤ 18446744073709551616 := Nat.le_trans (Nat.pow_le_pow_right (by decide) hn) (by decide)
    have hgo : ∀ (r : List UInt8) (v : Nat), (idxB c digL 0 = -1) → shortGo (r ++ [c]) v = none := by
      intro r
      induction r with
      | nil =>
        intro v hc
        simp only [List.nil_append, shortGo, hc]
        rw [if_pos (by omega)]
      | cons d r ih =>
        intro v hc
        simp only [List.cons_append, shortGo]
        split
        · rfl
        · exact ih _ hc
    rcases dig_is c with hc | ⟨k, hk, hc, rfl⟩
    · rw [hgo r 0 hc] at h; cases h
    · rw [short_app hk] at h
      cases hq : shortGo r 0 with
      | none => rw [hq] at h; cases h
      | some w =>
        rw [hq, Option.map_some, Option.some.injEq] at h
        obtain ⟨h1, h2⟩ := fxN_short n r w (by omega) hr hq
        have hw : w * 16 + k < 16 ^ (n + 1) := by rw [Nat.pow_succ]; omega
        rw [Nat.mod_eq_of_lt (by omega)] at h
        subst h
        refine ⟨hw, ?_⟩
        rw [fxN, show (w * 16 + k) / 16 = w by omega, show (w * 16 + k) % 16 = k by omega, h2]
/-- 1 to 16 digits. -/
def shortL (s : List UInt8) : Nat × Bool := match shortGo s 0 with
  | none => (0, false)
  | some v => (v, decide (1 ≤ s.length ∧ s.length ≤ 16))
theorem shortGo_lt : ∀ (l : List UInt8) (n v : Nat), n < 18446744073709551616 → shortGo l n = some v → v < 18446744073709551616
  | [], n, v, hn, h => by simp only [shortGo, Option.some.injEq] at h; omega
  | c :: l, n, v, hn, h => by
    rw [shortGo] at h
    split at h
    · cases h
    · exact shortGo_lt l _ v (Nat.mod_lt _ (by decide)) h
theorem shortL_lt (s : List UInt8) : (shortL s).1 < 18446744073709551616 := by
  unfold shortL
  cases h : shortGo s 0 with
  | none =>
    show (0 : Nat) < 18446744073709551616
    omega
  | some v => exact shortGo_lt s 0 v (by omega) h
theorem shortGo_zeros (l : List UInt8) : ∀ n, shortGo (List.replicate n 48 ++ l) 0 = shortGo l 0
  | 0 => rfl
  | n + 1 => by
    have h : idxB 48 digL 0 = ((0 : Nat) : Int) := by decide
    rw [List.replicate_succ, List.cons_append, shortGo, h, if_neg (by omega)]
    exact shortGo_zeros l n
theorem short_hx {v : Nat} (h : v < 18446744073709551616) : shortL (hx v) = (v, true) := by
  have e : shortGo (hx v) 0 = some v := by
    rw [← shortGo_zeros (hx v) (16 - (hx v).length)]
    have : List.replicate (16 - (hx v).length) 48 ++ hx v = fixed v := rfl
    rw [this, fixed_fxN h]
    exact short_fxN 16 v (by omega) (by omega)
  have h1 := hx_pos v
  have h2 := hx_len v
  unfold shortL
  rw [e]
  simp only
  rw [decide_eq_true ⟨h1, h2⟩]
end Go.Ev
/- Numbers, names and places, read another way: plain laws. -/
namespace Go.Ev.S
open Go Go.Proofs Go.Ev
theorem numF_some {s : List UInt8} {v : Nat} (h : numF s = some v) : fixed v = s ∧ v < 18446744073709551616 := by
  unfold numF at h
  cases hp : pu 16 s with
  | none => rw [hp] at h; cases h
  | some w =>
    rw [hp] at h
    simp only at h
    split at h
    · rename_i hf
      cases h
      exact ⟨hf, pu16_lt hp⟩
    · cases h
theorem numF_short (s : List UInt8) : numF s = if s.length = 16 then shortGo s 0 else none := by
  by_cases hl : s.length = 16
  · rw [if_pos hl]
    cases hq : shortGo s 0 with
    | some v =>
      obtain ⟨hv, e⟩ := fxN_short 16 s v (Nat.le_refl _) hl hq
      have hv' : v < 18446744073709551616 := by simpa using hv
      rw [← e, ← fixed_fxN hv']
      exact numF_fixed hv'
    | none =>
      cases hn : numF s with
      | none => rfl
      | some w =>
        obtain ⟨e, hw⟩ := numF_some hn
        rw [← e, fixed_fxN hw, short_fxN 16 w (Nat.le_refl _) (by simpa using hw)] at hq
        cases hq
  · rw [if_neg hl]
    cases hn : numF s with
    | none => rfl
    | some w =>
      obtain ⟨e, hw⟩ := numF_some hn
      rw [← e] at hl
      exact absurd (fixed_len w) hl
theorem num_shortL {s : List UInt8} (hl : s.length = 16) : shortL s = ((numF s).getD 0, (numF s).isSome) := by
  rw [numF_short, if_pos hl]
  unfold shortL
  cases shortGo s 0 with
  | none => rfl
  | some v => simp [hl]
theorem nib2_N : ∀ a, a < 16 → ∀ b, b < 16 → (((0 : UInt8) <<< 4 ||| UInt8.ofNat a) <<< 4) ||| UInt8.ofNat b = UInt8.ofNat (16 * a + b) := by decide +kernel
/-- Two digits more. -/
theorem idGo_pair {c1 c2 : UInt8} {a b : Nat} (ha : a < 16) (hb : b < 16) (h1 : idxB c1 digL 0 = (a : Int)) (h2 : idxB c2 digL 0 = (b : Int)) (l done : List UInt8) (m : Nat) :
    idGo (c1 :: c2 :: l) (2 * done.length) (done ++ List.replicate (m + 1) 0) = idGo l (2 * (done.length + 1)) ((done ++ [UInt8.ofNat (16 * a + b)]) ++ List.replicate m 0) := by
  simp only [idGo, h1, h2]
  rw [if_neg (by omega), if_neg (by omega)]
  have e1 : 2 * done.length / 2 = done.length := by omega
  have e2 : (2 * done.length + 1) / 2 = done.length := by omega
  have e3 : 2 * done.length + 1 + 1 = 2 * (done.length + 1) := by omega
  have g1 : (done ++ List.replicate (m + 1) 0).getD done.length 0 = (0 : UInt8) := by
    simp [List.getD, List.replicate_succ]
  rw [e1, e2, e3, g1]
  have s1 : ∀ x : UInt8, (done ++ List.replicate (m + 1) (0 : UInt8)).set done.length x = done ++ x :: List.replicate m 0 := by
    intro x
    simp [List.replicate_succ]
  rw [s1]
  have g2 : ∀ x : UInt8, (done ++ x :: List.replicate m (0 : UInt8)).getD done.length 0 = x := by
    intro x
    simp [List.getD]
  rw [g2]
  have s2 : ∀ x y : UInt8, (done ++ x :: List.replicate m (0 : UInt8)).set done.length y = (done ++ [y]) ++ List.replicate m 0 := by
    intro x y
    simp
  have e4 : ((((a : Nat) : Int)).toNat) = a := by omega
  have e5 : ((((b : Nat) : Int)).toNat) = b := by omega
  rw [s2, e4, e5, nib2_N a ha b hb]
theorem idGo_no1 {c1 : UInt8} (h1 : idxB c1 digL 0 = -1) (l : List UInt8) (i : Nat) (st : List UInt8) : idGo (c1 :: l) i st = none := by
  simp only [idGo, h1]
  rw [if_pos (by omega)]
theorem idGo_no2 {c1 c2 : UInt8} (h2 : idxB c2 digL 0 = -1) (l : List UInt8) (i : Nat) (st : List UInt8) : idGo (c1 :: c2 :: l) i st = none := by
  simp only [idGo, h2]
  split
  · rfl
  · rw [if_pos (by omega)]
/-- Parted at a byte, byte by byte. -/
def sp2 (c : UInt8) : List UInt8 → List UInt8 → List (List UInt8)
  | [], w => [w]
  | x :: l, w => if x = c then w :: sp2 c l [] else sp2 c l (w ++ [x])
theorem sp2_split (c : UInt8) : ∀ (l w : List UInt8), (∀ x ∈ w, x ≠ c) → sp2 c l w = splitL c (w ++ l)
  | [], w, h => by rw [sp2, List.append_nil, split_no h]
  | x :: l, w, h => by
    rw [sp2]
    split
    · rename_i hx
      subst hx
      rw [split_at h, sp2_split x l [] (by simp)]
      rfl
    · rename_i hx
      rw [sp2_split c l (w ++ [x]) (by
        intro y hy
        rcases List.mem_append.1 hy with hy | hy
        · exact h y hy
        · rw [List.mem_singleton.1 hy]; exact hx)]
      rw [List.append_assoc]
      rfl
theorem split_show (c : Cur) : splitL 59 (showL c) = [115 :: 61 :: hexs c.seq.l, 105 :: 61 :: hx c.n.toNat, 98 :: 61 :: hexs c.boot.l, 109 :: 61 :: hx c.mono.toNat, 116 :: 61 :: hx c.real.toNat, 120 :: 61 :: hx c.xor.toNat] := by
  have e : showL c = (115 :: 61 :: hexs c.seq.l) ++ 59 :: ((105 :: 61 :: hx c.n.toNat) ++ 59 :: ((98 :: 61 :: hexs c.boot.l) ++ 59 :: ((109 :: 61 :: hx c.mono.toNat) ++ 59 :: ((116 :: 61 :: hx c.real.toNat) ++ 59 :: (120 :: 61 :: hx c.xor.toNat))))) := by
    simp [showL, kS, kI, kB, kM, kT, kX]
  rw [e, split_at (ne59 (by decide) (hexs_ne _)), split_at (ne59 (by decide) (hx_ne _)), split_at (ne59 (by decide) (hexs_ne _)), split_at (ne59 (by decide) (hx_ne _)), split_at (ne59 (by decide) (hx_ne _)), split_no (ne59 (by decide) (hx_ne _))]
/-- A place of pieces. -/
def refC (y0 y1 y2 y3 y4 y5 : List UInt8) : Cur := ⟨idOf (y0.drop 2), ((shortL (y1.drop 2)).1 : Nat), idOf (y2.drop 2), ((shortL (y3.drop 2)).1 : Nat), ((shortL (y4.drop 2)).1 : Nat), ((shortL (y5.drop 2)).1 : Nat)⟩
def refB (y0 y1 y2 y3 y4 y5 : List UInt8) : Bool := (idP (y0.drop 2)).isSome && ((shortL (y1.drop 2)).2 && ((idP (y2.drop 2)).isSome && ((shortL (y3.drop 2)).2 && ((shortL (y4.drop 2)).2 && (shortL (y5.drop 2)).2))))
theorem refC_ok (y0 y1 y2 y3 y4 y5 : List UInt8) : CurOk (refC y0 y1 y2 y3 y4 y5) := by
  have h := shortL_lt
  refine ⟨?_, ?_, ?_, ?_⟩
  · have := h (y1.drop 2); show isU64 ((shortL (y1.drop 2)).1 : Nat); unfold isU64; omega
  · have := h (y3.drop 2); show isU64 ((shortL (y3.drop 2)).1 : Nat); unfold isU64; omega
  · have := h (y4.drop 2); show isU64 ((shortL (y4.drop 2)).1 : Nat); unfold isU64; omega
  · have := h (y5.drop 2); show isU64 ((shortL (y5.drop 2)).1 : Nat); unfold isU64; omega
theorem parseP_no {s : List UInt8} (h : ∀ c, CurOk c → showL c ≠ s) : parseP s = (Cur.zero, false) := by
  cases hq : (parseP s).2 with
  | true => exact absurd (parseP_show hq) (h _ (parseP_ok s))
  | false =>
    unfold parseP at hq ⊢
    split
    · rename_i h1; rw [if_pos h1] at hq; cases hq
    · rfl
theorem parseP_yes {s : List UInt8} {c : Cur} (h : CurOk c) (e : showL c = s) : parseP s = (c, true) := by
  rw [← e, parse_show c h]
theorem nat_back {x : Int} (h : isU64 x) : (((shortL (hx x.toNat)).1 : Nat) : Int) = x := by
  unfold isU64 at h
  rw [short_hx (by omega)]
  show ((x.toNat : Nat) : Int) = x
  omega
/-- What is a place has six right pieces. -/
theorem show_pieces {s : List UInt8} {c : Cur} (h : CurOk c) (e : showL c = s) : ∃ y0 y1 y2 y3 y4 y5, splitL 59 s = [y0, y1, y2, y3, y4, y5] ∧ 2 ≤ y0.length ∧ 2 ≤ y1.length ∧ 2 ≤ y2.length ∧ 2 ≤ y3.length ∧ 2 ≤ y4.length ∧ 2 ≤ y5.length ∧ refB y0 y1 y2 y3 y4 y5 = true ∧ refC y0 y1 y2 y3 y4 y5 = c := by
  refine ⟨_, _, _, _, _, _, by rw [← e]; exact split_show c, by simp, by simp, by simp, by simp, by simp, by simp, ?_, ?_⟩
  · obtain ⟨w1, w2, w3, w4⟩ := h
    unfold isU64 at w1 w2 w3 w4
    unfold refB
    simp only [List.drop_succ_cons, List.drop_zero]
    rw [idP_hexs c.seq.h, idP_hexs c.boot.h, short_hx (by omega), short_hx (by omega), short_hx (by omega), short_hx (by omega)]
    rfl
  · unfold refC
    simp only [List.drop_succ_cons, List.drop_zero]
    rw [idOf_hexs, idOf_hexs, nat_back h.n, nat_back h.mono, nat_back h.real, nat_back h.xor]
end Go.Ev.S
/- The document's digits, numbers, names. -/
namespace Go.Ev.S
open Go Go.Proofs Go.Ev
theorem rdigit_ev [MaxL] (c : UInt8) : call cx 28 [.int .u8 c.toNat] [] = some (.int .i64 (idxB c digL 0), []) := by
  refine call_run Tryz.func28 rfl ⟨rfl, rfl⟩ ?_
  have hl : digL.length = 16 := rfl
  obtain ⟨r, hr⟩ : ∃ r, idxB c digL 0 = r := ⟨_, rfl⟩
  rw [hr]
  simp [Tryz.f28]
  refine Run.loopThen (fun (k : Nat) e H' => k ≤ 16 ∧ idxB c (digL.drop k) k = r ∧ look e 0 = some (.int .u8 c.toNat) ∧ look e 3 = some (.int .i64 k) ∧ H' = []) (fun k => 16 - k) 0 (by simp [hr]) ?_
  rintro k e H' ⟨hk, hi, k0, k3, rfl⟩
  by_cases hlt : k < 16
  · have hlt' : (k : Int) < 16 := by omega
    have hkl : k < digL.length := hlt
    have hw : IntKind.i64.wrap ((k : Int) + 1) = ((k + 1 : Nat) : Int) := by rw [wrap_i64] <;> omega
    have hat : digL[k]? = some digL[k] := List.getElem?_eq_getElem hkl
    rw [List.drop_eq_getElem_cons hkl, idxB] at hi
    generalize digL[k] = x at *
    simp only [digL] at hat
    by_cases hx : x = c
    · subst hx
      rw [if_pos rfl] at hi
      subst hi
      simp [k0, k3, hlt', hat]
    · rw [if_neg hx] at hi
      have hx2 : ¬ (x.toNat : Int) = (c.toNat : Int) := by
        intro h
        exact hx (UInt8.toNat.inj (by omega))
      simp [k0, k3, hlt', hat, hx2, hw]
      exact ⟨k + 1, by omega, by omega, hi, by simp⟩
  · have hlt' : ¬ (k : Int) < 16 := by omega
    have hke : k = 16 := by omega
    subst hke
    have : r = -1 := hi.symm
    subst this
    simp [k0, k3]
theorem dig_cut (k : Nat) (h : k < 16) : List.take 1 (List.drop k digL) = [hexc k] := by
  have : ∀ k, k < 16 → List.take 1 (List.drop k digL) = [hexc k] := by decide
  exact this k h
set_option maxHeartbeats 2000000 in
theorem rhex_ev [MaxL] (l : List UInt8) (hl : l.length = 16) : call cx 19 [.agg (ofBytes l)] [] = some (.str (hexs l), []) := by
  refine call_run Tryz.func19 rfl ⟨rfl, rfl⟩ ?_
  simp [Tryz.f19, hl]
  refine Run.loopThen (fun (k : Nat) e H' => k ≤ 16 ∧ look e 1 = some (.optr 0 16 0) ∧ look e 3 = some (.str (hexs (l.take k))) ∧ look e 4 = some (.int .i64 k) ∧ H' = [some (ofBytes l)]) (fun k => 16 - k) 0 ?_ ?_
  · simp [hexs]
  rintro k e H' ⟨hk, k1, k3, k4, rfl⟩
  by_cases hlt : k < 16
  · have hlt' : (k : Int) < 16 := by omega
    have hkl : k < l.length := by omega
    have hw : IntKind.i64.wrap ((k : Int) + 1) = ((k + 1 : Nat) : Int) := by rw [wrap_i64] <;> omega
    have hat := ofBytes_at hkl
    have hsn := hexs_take hkl
    have hb := l[k].toNat_lt
    have hlen : (hexs (l.take k)).length = 2 * k := by rw [hexs_len, List.length_take]; omega
    generalize l[k] = b at *
    have d1 := dig_cut (b.toNat / 16) (by omega)
    have d2 := dig_cut (b.toNat % 16) (by omega)
    generalize hexc (b.toNat / 16) = c1 at *
    generalize hexc (b.toNat % 16) = c2 at *
    obtain ⟨m1, hm1⟩ : ∃ m, m = b.toNat / 16 := ⟨_, rfl⟩
    obtain ⟨m2, hm2⟩ : ∃ m, m = b.toNat % 16 := ⟨_, rfl⟩
    rw [← hm1] at d1
    rw [← hm2] at d2
    have q1 : IntKind.u8.wrap ((b.toNat : Int) / 16) = (m1 : Int) := by rw [wrap_u8] <;> omega
    have q2 : (b.toNat : Int).tmod 16 = (m2 : Int) := by rw [hm2]; exact (Int.ofNat_tmod b.toNat 16).symm
    have w1 : IntKind.u8.wrap ((m1 : Int) + 1) = ((m1 + 1 : Nat) : Int) := by rw [wrap_u8] <;> omega
    have w2 : IntKind.u8.wrap ((m2 : Int) + 1) = ((m2 + 1 : Nat) : Int) := by rw [wrap_u8] <;> omega
    have t1 : m1 ≤ 15 := by omega
    have t2 : m2 ≤ 15 := by omega
    have n1 : ((m1 : Int) + 1).toNat = m1 + 1 := by omega
    have n2 : ((m2 : Int) + 1).toNat = m2 + 1 := by omega
    have u1 : (m1 : Int) + 1 ≤ 16 := by omega
    have u2 : (m2 : Int) + 1 ≤ 16 := by omega
    have v1 : (0 : Int) ≤ (m1 : Int) + 1 := by omega
    have v2 : (0 : Int) ≤ (m2 : Int) + 1 := by omega
    have y1 : (m1 : Int) ≤ (m1 : Int) + 1 := by omega
    have y2 : (m2 : Int) ≤ (m2 : Int) + 1 := by omega
    simp only [digL] at d1 d2
    generalize hexs (l.take k) = X at *
    have x1 : X.length + 1 ≤ 4611686018427387904 := by omega
    have x2 : X.length + 1 + 1 ≤ 4611686018427387904 := by omega
    simp [k1, k3, k4, hlt', hw, hat, hl, q1, q2, w1, w2, d1, d2, n1, n2, u1, u2, v1, v2, x1, x2, y1, y2]
    exact ⟨k + 1, by omega, by omega, by rw [hsn], by omega⟩
  · have hlt' : ¬ (k : Int) < 16 := by omega
    have hke : k = 16 := by omega
    subst hke
    have htk : l.take 16 = l := List.take_of_length_le (by omega)
    rw [htk] at k3
    simp [k1, k3, k4]
set_option maxHeartbeats 2000000 in
theorem rid_ev [MaxL] (s : List UInt8) (_ : s.length < 1000000) : call cx 8 [.str s] [] = some (.tup [.agg (ofBytes ((idP s).getD zero16)), .bool (idP s).isSome], []) := by
  refine call_run Tryz.func8 rfl ⟨rfl, rfl⟩ ?_
  have z16 := zero16_of
  have z16l : zero16.length = 16 := rfl
  have z16d : List.drop 16 (ofBytes zero16) = [] := rfl
  by_cases h32 : s.length = 32
  · have h32' : (s.length : Int) = 32 := by omega
    have hP : idP s = idGo s 0 zero16 := by unfold idP; rw [if_pos h32]
    rw [hP]
    simp [Tryz.f8, h32']
    rw [← z16]
    refine Run.loopThen (fun (q : Nat × List UInt8) e H' => q.1 ≤ 16 ∧ q.2.length = q.1 ∧ idGo (s.drop (2 * q.1)) (2 * q.1) (q.2 ++ List.replicate (16 - q.1) 0) = idGo s 0 zero16 ∧ H' = [some (ofBytes zero16), some (ofBytes (q.2 ++ List.replicate (16 - q.1) 0))] ∧ look e 0 = some (.str s) ∧ look e 2 = some (.optr 0 16 0) ∧ look e 4 = some (.optr 1 16 0) ∧
        look e 5 = some (.int .i64 (q.1 : Nat))) (fun q => 16 - q.1) (0, []) ?_ ?_
    · simp [zero16]
    rintro ⟨k, st⟩ e H' ⟨hk, hst, hgo, rfl, k0, k2, k4, k5⟩
    simp only at hk hst hgo k5
    by_cases hlt : k < 16
    · have hlt' : (k : Int) < 16 := by omega
      have h1 : 2 * k < s.length := by omega
      have h2 : 2 * k + 1 < s.length := by omega
      have hc1 := rdigit_ev s[2 * k]
      have hc2 := rdigit_ev s[2 * k + 1]
      rw [List.drop_eq_getElem_cons h1, List.drop_eq_getElem_cons h2] at hgo
      have e1 : s[2 * k]? = some s[2 * k] := List.getElem?_eq_getElem h1
      have e2 : s[2 * k + 1]? = some s[2 * k + 1] := List.getElem?_eq_getElem h2
      have hd1 := dig_is s[2 * k]
      have hd2 := dig_is s[2 * k + 1]
      generalize s[2 * k] = c1 at *
      generalize s[2 * k + 1] = c2 at *
      have hw : IntKind.i64.wrap ((k : Int) + 1) = ((k + 1 : Nat) : Int) := by rw [wrap_i64] <;> omega
      have hw2 : IntKind.i64.wrap (2 * (k : Int)) = 2 * (k : Int) := by rw [wrap_i64]; omega
      have hw3 : IntKind.i64.wrap (2 * (k : Int) + 1) = 2 * (k : Int) + 1 := by rw [wrap_i64]; omega
      have g1 : (0 : Int) ≤ 2 * (k : Int) := by omega
      have g2 : (0 : Int) ≤ 2 * (k : Int) + 1 := by omega
      have g3 : 2 * (k : Int) < 32 := by omega
      have g4 : 2 * (k : Int) + 1 < 32 := by omega
      have g5 : (2 * (k : Int)).toNat = 2 * k := by omega
      have g6 : (2 * (k : Int) + 1).toNat = 2 * k + 1 := by omega
      rcases hd1 with hn1 | ⟨a, ha, hn1, -⟩
      · rw [idGo_no1 hn1] at hgo
        rw [hn1] at hc1
        rw [← hgo]
        generalize idxB c2 digL 0 = y at *
        simp [k0, k2, k4, k5, hlt', e1, e2, hc1, hc2, hw2, hw3, g1, g2, g5, g6, ← z16, z16l, z16d]
      · rcases hd2 with hn2 | ⟨b, hb, hn2, -⟩
        · rw [idGo_no2 hn2] at hgo
          rw [hn1] at hc1
          rw [hn2] at hc2
          have ha0 : ¬ (a : Int) < 0 := by omega
          rw [← hgo]
          simp [k0, k2, k4, k5, hlt', e1, e2, hc1, hc2, hw2, hw3, g1, g2, g5, g6, ← z16, z16l, z16d, ha0]
        · subst hst
          obtain ⟨m, hm⟩ : ∃ m, 16 - st.length = m + 1 := ⟨15 - st.length, by omega⟩
          rw [hm, idGo_pair ha hb hn1 hn2] at hgo
          rw [hm]
          rw [hn1] at hc1
          rw [hn2] at hc2
          have ha0 : ¬ (a : Int) < 0 := by omega
          have hb0 : ¬ (b : Int) < 0 := by omega
          obtain ⟨x, hx⟩ : ∃ x, x = UInt8.ofNat (16 * a + b) := ⟨_, rfl⟩
          have hxn : (x.toNat : Int) = 16 * (a : Int) + (b : Int) := by
            rw [hx, UInt8.toNat_ofNat']
            omega
          rw [← hx] at hgo
          have v1 : IntKind.i64.wrap (16 * (a : Int)) = 16 * (a : Int) := by rw [wrap_i64]; omega
          have v2 : IntKind.i64.wrap (16 * (a : Int) + (b : Int)) = 16 * (a : Int) + (b : Int) := by rw [wrap_i64]; omega
          have v3 : IntKind.u8.wrap (16 * (a : Int) + (b : Int)) = (x.toNat : Int) := by rw [hxn, wrap_u8]; omega
          have hset := set_bytes (st ++ List.replicate (m + 1) 0) st.length x (by simp)
          have hs2 : (st ++ List.replicate (m + 1) (0 : UInt8)).set st.length x = (st ++ [x]) ++ List.replicate m 0 := by simp [List.replicate_succ]
          rw [hs2] at hset
          have hl16 : (st ++ List.replicate (m + 1) (0 : UInt8)).length = 16 := by simp; omega
          have hj16 : (st.length : Int) < 16 := by omega
          have hj15 : st.length ≤ 15 := by omega
          have hj1 : st.length + 1 ≤ 16 := by omega
          have hm2 : 16 - (st.length + 1) = m := by omega
          generalize hT : st ++ List.replicate (m + 1) (0 : UInt8) = T at *
          simp [-setRange_eq, k0, k2, k4, k5, hlt', e1, e2, hc1, hc2, hw, hw2, hw3, g1, g2, g5, g6, ha0, hb0, v1, v2, v3, hset, hl16, hj1]
          rw [show 2 * (st.length + 1) = 2 * st.length + 1 + 1 by omega] at hgo
          exact ⟨st.length + 1, by omega, by omega, st ++ [x], by simp, by rw [hm2, show 2 * (st.length + 1) = 2 * st.length + 1 + 1 by omega]; exact hgo, by rw [hm2]; simp, by omega⟩
    · have hlt' : ¬ (k : Int) < 16 := by omega
      have hke : k = 16 := by omega
      subst hke
      rw [List.drop_eq_nil_of_le (by omega), idGo] at hgo
      rw [← hgo]
      have hre : st ++ List.replicate (16 - 16) (0 : UInt8) = st := by simp
      rw [hre]
      have hl16 : 16 ≤ st.length := by omega
      have ht : List.take 16 (ofBytes st) = ofBytes st := List.take_of_length_le (by simp; omega)
      simp [k0, k2, k4, k5, ht, hst, z16l, z16d]
  · have h32' : ¬ (s.length : Int) = 32 := by omega
    have hP : idP s = none := by unfold idP; rw [if_neg h32]
    rw [hP]
    simp [Tryz.f8, h32', ← z16, z16l, z16d]
end Go.Ev.S
/- The document's numbers. -/
namespace Go.Ev.S
open Go Go.Proofs Go.Ev
set_option maxHeartbeats 2000000 in
theorem rfixed_ev [MaxL] (v : Nat) (hv : v < 18446744073709551616) : call cx 21 [.int .u64 v] [] = some (.str (fxN 16 v), []) := by
  refine call_run Tryz.func21 rfl ⟨rfl, rfl⟩ ?_
  obtain ⟨r, hr⟩ : ∃ r, fxN 16 v = r := ⟨_, rfl⟩
  rw [hr]
  simp [Tryz.f21]
  refine Run.loopThen (fun (q : Nat × Nat × List UInt8) e H' => q.1 ≤ 16 ∧ q.2.1 < 18446744073709551616 ∧ q.2.2.length = q.1 ∧ fxN (16 - q.1) q.2.1 ++ q.2.2 = r ∧ look e 0 = some (.int .u64 (q.2.1 : Nat)) ∧ look e 3 = some (.str q.2.2) ∧ look e 4 = some (.int .i64 (q.1 : Nat)) ∧ H' = []) (fun q => 16 - q.1) (0, v, []) ?_ ?_
  · simp [hr, hv]
  rintro ⟨k, u, w⟩ e H' ⟨hk, hu, hwl, hR, k0, k3, k4, rfl⟩
  simp only at hk hu hwl hR k0 k3 k4
  by_cases hlt : k < 16
  · have hlt' : (k : Int) < 16 := by omega
    have hw : IntKind.i64.wrap ((k : Int) + 1) = ((k + 1 : Nat) : Int) := by rw [wrap_i64] <;> omega
    obtain ⟨m, hm⟩ : ∃ m, 16 - k = m + 1 := ⟨15 - k, by omega⟩
    rw [hm, fxN] at hR
    have d1 := dig_cut (u % 16) (by omega)
    generalize hexc (u % 16) = c1 at *
    obtain ⟨m1, hm1⟩ : ∃ m1, m1 = u % 16 := ⟨_, rfl⟩
    rw [← hm1] at d1
    have q2 : (u : Int).tmod 16 = (m1 : Int) := by rw [hm1]; exact (Int.ofNat_tmod u 16).symm
    obtain ⟨u', hu'⟩ : ∃ u', u' = u / 16 := ⟨_, rfl⟩
    rw [← hu'] at hR
    have q1 : IntKind.u64.wrap ((u : Int) / 16) = (u' : Int) := by rw [wrap_u64] <;> omega
    have w1 : IntKind.u64.wrap ((m1 : Int) + 1) = (m1 : Int) + 1 := by rw [wrap_u64]; omega
    have t1 : m1 ≤ 15 := by omega
    have n1 : ((m1 : Int) + 1).toNat = m1 + 1 := by omega
    have u1 : (m1 : Int) + 1 ≤ 16 := by omega
    have v1 : (0 : Int) ≤ (m1 : Int) + 1 := by omega
    have y1 : (m1 : Int) ≤ (m1 : Int) + 1 := by omega
    have x1 : 1 + w.length ≤ 4611686018427387904 := by omega
    have x2 : w.length + 1 ≤ 4611686018427387904 := by omega
    simp only [digL] at d1
    simp [k0, k3, k4, hlt', hw, q1, q2, w1, d1, n1, u1, v1, y1, x1]
    exact ⟨k + 1, by omega, by omega, u', by omega, c1 :: w, by simp [hwl], by rw [show 16 - (k + 1) = m by omega, ← hR]; simp, rfl, rfl, by omega⟩
  · have hlt' : ¬ (k : Int) < 16 := by omega
    have hke : k = 16 := by omega
    subst hke
    simp only [Nat.sub_self, fxN, List.nil_append] at hR
    subst hR
    simp [k0, k3, k4]
set_option maxHeartbeats 2000000 in
theorem rshort_ev [MaxL] (s : List UInt8) (hs : s.length < 1000000) : call cx 26 [.str s] [] = some (.tup [.int .u64 ((shortL s).1 : Nat), .bool (shortL s).2], []) := by
  refine call_run Tryz.func26 rfl ⟨rfl, rfl⟩ ?_
  have hR : shortL s = match shortGo s 0 with
    | none => (0, false)
    | some v => (v, decide (1 ≤ s.length ∧ s.length ≤ 16)) := rfl
  generalize shortL s = res at *
  obtain ⟨g, hg⟩ : ∃ g, shortGo s 0 = g := ⟨_, rfl⟩
  rw [hg] at hR
  simp [Tryz.f26]
  refine Run.loopThen (fun (q : Nat × Nat) e H' => q.1 ≤ s.length ∧ q.2 < 18446744073709551616 ∧ shortGo (s.drop q.1) q.2 = g ∧ look e 0 = some (.str s) ∧ look e 4 = some (.int .u64 (q.2 : Nat)) ∧ look e 5 = some (.int .i64 (q.1 : Nat)) ∧ H' = []) (fun q => s.length - q.1) (0, 0) ?_ ?_
  · simp [hg]
  rintro ⟨k, v⟩ e H' ⟨hk, hv, hgo, k0, k4, k5, rfl⟩
  simp only at hk hv hgo k4 k5
  by_cases hlt : k < s.length
  · have hlt' : (k : Int) < (s.length : Int) := by omega
    have hw : IntKind.i64.wrap ((k : Int) + 1) = ((k + 1 : Nat) : Int) := by rw [wrap_i64] <;> omega
    rw [List.drop_eq_getElem_cons hlt, shortGo] at hgo
    have hat : s[k]? = some s[k] := List.getElem?_eq_getElem hlt
    have hc := rdigit_ev s[k]
    have hd := dig_is s[k]
    generalize s[k] = c at *
    rcases hd with hn | ⟨a, ha, hn, -⟩
    · rw [hn, if_pos (by omega)] at hgo
      subst hgo
      simp only at hR
      subst hR
      rw [hn] at hc
      simp [k0, k4, k5, hlt', hat, hc]
    · rw [hn, if_neg (by omega)] at hgo
      have e1 : (((a : Nat) : Int)).toNat = a := by omega
      rw [e1] at hgo
      rw [hn] at hc
      have ha0 : ¬ (a : Int) < 0 := by omega
      have hwa : IntKind.u64.wrap (a : Int) = (a : Int) := by rw [wrap_u64] <;> omega
      obtain ⟨u, hu⟩ : ∃ u, (v * 16 + a) % 18446744073709551616 = u := ⟨_, rfl⟩
      rw [hu] at hgo
      have hww : IntKind.u64.wrap (IntKind.u64.wrap ((v : Int) * 16) + (a : Int)) = (u : Int) := by
        rw [← hu]
        simp only [IntKind.wrap, IntKind.signed, IntKind.bits]
        simp
      simp [k0, k4, k5, hlt', hat, hc, ha0, hwa, hww, hw]
      exact ⟨k + 1, by omega, by omega, u, by omega, hgo, rfl, by omega⟩
  · have hlt' : ¬ (k : Int) < (s.length : Int) := by omega
    rw [List.drop_eq_nil_of_le (by omega), shortGo] at hgo
    subst hgo
    simp only at hR
    subst hR
    by_cases h1 : 1 ≤ s.length
    · have h1' : (1 : Int) ≤ (s.length : Int) := by omega
      by_cases h16 : s.length ≤ 16
      · have h16' : (s.length : Int) ≤ 16 := by omega
        simp [k0, k4, k5, hlt', h1, h1', h16, h16']
      · have h16' : ¬ (s.length : Int) ≤ 16 := by omega
        simp [k0, k4, k5, hlt', h1, h1', h16, h16']
    · have h1' : ¬ (1 : Int) ≤ (s.length : Int) := by omega
      simp [k0, k4, k5, hlt', h1, h1']
theorem rnumber_ev [MaxL] (s : List UInt8) (hs : s.length < 1000000) : call cx 10 [.str s] [] = some (.tup [.int .u64 ((numF s).getD 0 : Nat), .bool (numF s).isSome], []) := by
  have h := rshort_ev s hs
  refine call_run Tryz.func10 rfl ⟨rfl, rfl⟩ ?_
  by_cases hl : s.length = 16
  · have hl' : (s.length : Int) = 16 := by omega
    rw [num_shortL hl] at h
    simp only at h
    simp [Tryz.f10, hl, h]
  · have hl' : ¬ (s.length : Int) = 16 := by omega
    have hn : numF s = none := by rw [numF_short, if_neg hl]
    simp [Tryz.f10, hl', hn]
theorem rsmall_ev [MaxL] (v : Nat) (hv : v < 18446744073709551616) : call cx 31 [.int .u64 v] [] = some (.str (hx v), []) := by
  have h := rfixed_ev v hv
  have hr := strip0_fixed hv
  have hl := fxN_len 16 v
  generalize hx v = r at *
  generalize fxN 16 v = s at *
  refine call_run Tryz.func31 rfl ⟨rfl, rfl⟩ ?_
  simp [Tryz.f31, h]
  refine Run.loopThen (fun (w : List UInt8) e H' => strip0 w = r ∧ look e 3 = some (.str w) ∧ H' = []) (fun w => w.length) s ?_ ?_
  · simp [hr]
  rintro w e H' ⟨hR, k3, rfl⟩
  match w, hR, k3 with
  | [], hR, k3 =>
    rw [strip0] at hR
    subst hR
    simp [k3]
  | [c], hR, k3 =>
    rw [strip0] at hR
    subst hR
    simp [k3]
  | c :: d :: l, hR, k3 =>
    rw [strip0] at hR
    have hl1 : (1 : Int) < (l.length : Int) + 1 + 1 := by omega
    by_cases hc : c = 48
    · rw [if_pos hc] at hR
      subst hc
      have hl2 : (1 : Int) ≤ (l.length : Int) + 1 + 1 := by omega
      simp [k3, hl1, hl2]
      exact hR
    · rw [if_neg hc] at hR
      subst hR
      have hc2 : ¬ (c.toNat : Int) = 48 := by
        intro h
        exact hc (UInt8.toNat.inj (by show c.toNat = 48; omega))
      simp [k3, hl1, hc2]
end Go.Ev.S
/- A place as a text, as the document shows it. -/
namespace Go.Ev.S
open Go Go.Proofs Go.Ev
set_option maxHeartbeats 2000000 in
theorem rshow_ev [MaxL] (c : Cur) (h : CurOk c) : call cx 13 [.agg (Enc.cells c)] [] = some (.str (showL c), []) := by
  obtain ⟨w1, w2, w3, w4⟩ := h
  unfold isU64 at w1 w2 w3 w4
  have e1 : ((c.n.toNat : Nat) : Int) = c.n := by omega
  have e2 : ((c.mono.toNat : Nat) : Int) = c.mono := by omega
  have e3 : ((c.real.toNat : Nat) : Int) = c.real := by omega
  have e4 : ((c.xor.toNat : Nat) : Int) = c.xor := by omega
  have h1 := rhex_ev c.seq.l c.seq.h
  have h2 := rsmall_ev c.n.toNat (by omega)
  have h3 := rhex_ev c.boot.l c.boot.h
  have h4 := rsmall_ev c.mono.toNat (by omega)
  have h5 := rsmall_ev c.real.toNat (by omega)
  have h6 := rsmall_ev c.xor.toNat (by omega)
  rw [e1] at h2
  rw [e2] at h4
  rw [e3] at h5
  rw [e4] at h6
  have l1 := hexs_len c.seq.l
  have l2 := hx_len c.n.toNat
  have l3 := hexs_len c.boot.l
  have l4 := hx_len c.mono.toNat
  have l5 := hx_len c.real.toNat
  have l6 := hx_len c.xor.toNat
  rw [c.seq.h] at l1
  rw [c.boot.h] at l3
  unfold showL
  generalize hexs c.seq.l = a1 at *
  generalize hx c.n.toNat = a2 at *
  generalize hexs c.boot.l = a3 at *
  generalize hx c.mono.toNat = a4 at *
  generalize hx c.real.toNat = a5 at *
  generalize hx c.xor.toNat = a6 at *
  clear e1 e2 e3 e4 w1 w2 w3 w4
  obtain ⟨s1, es1⟩ : ∃ s, s = kS ++ a1 := ⟨_, rfl⟩
  have ls1 : s1.length = kS.length + a1.length := by rw [es1, List.length_append]
  obtain ⟨s2, es2⟩ : ∃ s, s = s1 ++ kI := ⟨_, rfl⟩
  have ls2 : s2.length = s1.length + kI.length := by rw [es2, List.length_append]
  obtain ⟨s3, es3⟩ : ∃ s, s = s2 ++ a2 := ⟨_, rfl⟩
  have ls3 : s3.length = s2.length + a2.length := by rw [es3, List.length_append]
  obtain ⟨s4, es4⟩ : ∃ s, s = s3 ++ kB := ⟨_, rfl⟩
  have ls4 : s4.length = s3.length + kB.length := by rw [es4, List.length_append]
  obtain ⟨s5, es5⟩ : ∃ s, s = s4 ++ a3 := ⟨_, rfl⟩
  have ls5 : s5.length = s4.length + a3.length := by rw [es5, List.length_append]
  obtain ⟨s6, es6⟩ : ∃ s, s = s5 ++ kM := ⟨_, rfl⟩
  have ls6 : s6.length = s5.length + kM.length := by rw [es6, List.length_append]
  obtain ⟨s7, es7⟩ : ∃ s, s = s6 ++ a4 := ⟨_, rfl⟩
  have ls7 : s7.length = s6.length + a4.length := by rw [es7, List.length_append]
  obtain ⟨s8, es8⟩ : ∃ s, s = s7 ++ kT := ⟨_, rfl⟩
  have ls8 : s8.length = s7.length + kT.length := by rw [es8, List.length_append]
  obtain ⟨s9, es9⟩ : ∃ s, s = s8 ++ a5 := ⟨_, rfl⟩
  have ls9 : s9.length = s8.length + a5.length := by rw [es9, List.length_append]
  obtain ⟨s10, es10⟩ : ∃ s, s = s9 ++ kX := ⟨_, rfl⟩
  have ls10 : s10.length = s9.length + kX.length := by rw [es10, List.length_append]
  obtain ⟨s11, es11⟩ : ∃ s, s = s10 ++ a6 := ⟨_, rfl⟩
  have ls11 : s11.length = s10.length + a6.length := by rw [es11, List.length_append]
  simp only [kS, kI, kB, kM, kT, kX, List.length_cons, List.length_nil] at ls1 ls2 ls3 ls4 ls5 ls6 ls7 ls8 ls9 ls10 ls11
  have cs1 := cat_of es1 (by (try simp only [kS, List.length_cons, List.length_nil]); omega)
  have cs2 := cat_of es2 (by (try simp only [kI, List.length_cons, List.length_nil]); omega)
  have cs3 := cat_of es3 (by (try simp only [kS, kI, kB, kM, kT, kX, List.length_cons, List.length_nil]); omega)
  have cs4 := cat_of es4 (by (try simp only [kB, List.length_cons, List.length_nil]); omega)
  have cs5 := cat_of es5 (by (try simp only [kS, kI, kB, kM, kT, kX, List.length_cons, List.length_nil]); omega)
  have cs6 := cat_of es6 (by (try simp only [kM, List.length_cons, List.length_nil]); omega)
  have cs7 := cat_of es7 (by (try simp only [kS, kI, kB, kM, kT, kX, List.length_cons, List.length_nil]); omega)
  have cs8 := cat_of es8 (by (try simp only [kT, List.length_cons, List.length_nil]); omega)
  have cs9 := cat_of es9 (by (try simp only [kS, kI, kB, kM, kT, kX, List.length_cons, List.length_nil]); omega)
  have cs10 := cat_of es10 (by (try simp only [kX, List.length_cons, List.length_nil]); omega)
  have cs11 := cat_of es11 (by (try simp only [kS, kI, kB, kM, kT, kX, List.length_cons, List.length_nil]); omega)
  simp only [kS, kI, kB, kM, kT, kX] at cs1 cs2 cs3 cs4 cs5 cs6 cs7 cs8 cs9 cs10 cs11
  have hfin : kS ++ (a1 ++ (kI ++ (a2 ++ (kB ++ (a3 ++ (kM ++ (a4 ++ (kT ++ (a5 ++ (kX ++ a6)))))))))) = s11 := by
    simp [es11, es10, es9, es8, es7, es6, es5, es4, es3, es2, es1]
  rw [hfin]
  clear hfin es1 es2 es3 es4 es5 es6 es7 es8 es9 es10 es11 ls1 ls2 ls3 ls4 ls5 ls6 ls7 ls8 ls9 ls10 ls11 l1 l2 l3 l4 l5 l6
  refine call_run Tryz.func13 rfl ⟨rfl, rfl⟩ ?_
  simp [Tryz.f13, h1, h2, h3, h4, h5, h6, -strD, cs1, cs2, cs3, cs4, cs5, cs6, cs7, cs8, cs9, cs10, cs11]
end Go.Ev.S
/- Bytes are compared. -/
namespace Go.Ev.S
open Go Go.Proofs Go.Ev
theorem compare_ev [MaxL] (x y : Sl UInt8) : call cx 36 [(.vsl x.nil (ofBytes x.l) x.l.length), (.vsl y.nil (ofBytes y.l) y.l.length)] [] = some (.int .i64 (cmpB x.l y.l), []) := by
  have h : call cx 50 [(.vsl x.nil (ofBytes x.l) x.l.length), (.vsl y.nil (ofBytes y.l) y.l.length)] [] = some (.int .i64 (cmpB x.l y.l), []) := by
    rw [call_ext (X := cx) (f := 50) rfl Tryz.func50 rfl, ex50, cmpExt_bytes x.nil y.nil x.l y.l x.h y.h]
    rfl
  refine call_run Tryz.func36 rfl ⟨rfl, rfl⟩ ?_
  simp [Tryz.f36, h]
theorem compare_id [MaxL] (x y : ID) : call cx 36 [.vsl false (ofBytes x.l) 16, .vsl false (ofBytes y.l) 16] [] = some (.int .i64 (cmpB x.l y.l), []) := by
  have h := compare_ev (.of x.l) (.of y.l)
  simpa using h
end Go.Ev.S
/- Cursors compared. -/
namespace Go.Ev.S
open Go Go.Proofs Go.Ev
theorem first19_ev [MaxL] : call cx 4 [] [] = some (.bool true, []) := call_some.2 ⟨600, by kernel_rfl⟩
def cmpU (a b : Int) : Int := if a < b then -1 else if a > b then 1 else 0
theorem nan_ev [MaxL] (a : Int) : call cx 49 [.int .u64 a] [] = some (.bool false, []) := by
  refine call_run Tryz.func49 rfl ⟨rfl, rfl⟩ ?_
  simp [Tryz.f49]
theorem cmpu_ev [MaxL] (a b : Int) : call cx 34 [.int .u64 a, .int .u64 b] [] = some (.int .i64 (cmpU a b), []) := by
  have ha := nan_ev a
  have hb := nan_ev b
  refine call_run Tryz.func34 rfl ⟨rfl, rfl⟩ ?_
  unfold cmpU
  by_cases h1 : a < b
  · simp [Tryz.f34, ha, hb, h1]
  · by_cases h2 : a > b
    · simp [Tryz.f34, ha, hb, h1, h2]
    · simp [Tryz.f34, ha, hb, h1, h2]
theorem or_ev [MaxL] (x y : Int) : call cx 35 [.vsl false [.int .i64 x, .int .i64 y] 2] [] = some (.int .i64 (if x = 0 then y else x), []) := by
  refine call_run Tryz.func35 rfl ⟨rfl, rfl⟩ ?_
  simp [Tryz.f35]
  refine Run.loopThen (fun (i : Nat) e H => i ≤ 2 ∧ H = [] ∧ look e 3 = some (.int .i64 0) ∧ look e 6 = some (.vsl false [.int .i64 x, .int .i64 y] 2) ∧ look e 7 = some (.int .i64 2) ∧ look e 8 = some (.int .i64 i) ∧ (0 < i → x = 0) ∧ (1 < i → y = 0)) (fun i => 2 - i) 0 (by simp) ?_
  rintro i e H ⟨hi, rfl, h3, h6, h7, h8, hx, hy⟩
  have : i = 0 ∨ i = 1 ∨ i = 2 := by omega
  rcases this with rfl | rfl | rfl
  · by_cases h : x = 0
    · simp [h3, h6, h7, h8, h]
      exact ⟨1, by simp⟩
    · simp [h3, h6, h7, h8, h]
  · have hx := hx (by omega)
    by_cases h : y = 0
    · simp [h3, h6, h7, h8, h, hx]
      exact ⟨2, by simp⟩
    · simp [h3, h6, h7, h8, h, hx]
  · simp [h3, h6, h7, h8, hx (by omega), hy (by omega)]
def cmpC (a b : Cur) : Int := if a.seq = b.seq then cmpU a.n b.n else if cmpU a.real b.real = 0 then cmpB a.seq.l b.seq.l else cmpU a.real b.real
theorem cmpc_ev [MaxL] (a b : Cur) : call cx 16 [.agg (Enc.cells a), .agg (Enc.cells b)] [] = some (.int .i64 (cmpC a b), []) := by
  have h1 := cmpu_ev a.n b.n
  have h2 := cmpu_ev a.real b.real
  have h3 := compare_id a.seq b.seq
  have h4 := or_ev (cmpU a.real b.real) (cmpB a.seq.l b.seq.l)
  refine call_run Tryz.func16 rfl ⟨rfl, rfl⟩ ?_
  unfold cmpC
  by_cases h : a.seq = b.seq
  · simp [Tryz.f16, h, h1]
  · simp [Tryz.f16, h, h2, h3, h4]
end Go.Ev.S
/- Places compared, made: the program's and the document's. -/
namespace Go.Ev.S
open Go Go.Proofs Go.Ev
theorem order_ev [MaxL] (a b : Int) : call cx 37 [.int .u64 a, .int .u64 b] [] = some (.int .i64 (if a < b then -1 else if b < a then 1 else 0), []) := by
  refine call_run Tryz.func37 rfl ⟨rfl, rfl⟩ ?_
  by_cases h1 : a < b
  · simp [Tryz.f37, h1]
  · by_cases h2 : b < a
    · simp [Tryz.f37, h1, h2]
    · simp [Tryz.f37, h1, h2]
theorem cmpB_step : ∀ {x y : List UInt8} {i : Nat} (hx : i < x.length) (hy : i < y.length), cmpB (x.drop i) (y.drop i) = if x[i] = y[i] then cmpB (x.drop (i + 1)) (y.drop (i + 1)) else if x[i] < y[i] then -1 else 1 := by
  intro x y i hx hy
  rw [List.drop_eq_getElem_cons hx, List.drop_eq_getElem_cons hy, cmpB]
set_option maxHeartbeats 1000000 in
theorem ids_ev [MaxL] (x y : ID) : call cx 38 [.agg (ofBytes x.l), .agg (ofBytes y.l)] [] = some (.int .i64 (cmpB x.l y.l), []) := by
  refine call_run Tryz.func38 rfl ⟨rfl, rfl⟩ ?_
  simp [Tryz.f38]
  refine Run.loopThen (fun (i : Nat) e H => i ≤ 16 ∧ H = [some (ofBytes x.l), some (ofBytes y.l)] ∧ look e 2 = some (.optr 0 16 0) ∧ look e 3 = some (.optr 1 16 0) ∧ look e 5 = some (.int .i64 i) ∧ cmpB x.l y.l = cmpB (x.l.drop i) (y.l.drop i)) (fun i => 16 - i) 0 (by simp) ?_
  rintro i e H ⟨hi, rfl, h2, h3, h5, hr⟩
  by_cases hlt : i < 16
  · have hlt' : (i : Int) < 16 := by omega
    have hx : i < x.l.length := by simp; omega
    have hy : i < y.l.length := by simp; omega
    have hw : IntKind.i64.wrap ((i : Int) + 1) = ((i + 1 : Nat) : Int) := by rw [wrap_i64] <;> omega
    have hwx : IntKind.u64.wrap (x.l[i].toNat : Int) = (x.l[i].toNat : Int) := by rw [wrap_u64]; have := x.l[i].toNat_lt; omega
    have hwy : IntKind.u64.wrap (y.l[i].toNat : Int) = (y.l[i].toNat : Int) := by rw [wrap_u64]; have := y.l[i].toNat_lt; omega
    have ho := order_ev (x.l[i].toNat : Int) (y.l[i].toNat : Int)
    rw [cmpB_step hx hy] at hr
    by_cases he : x.l[i] = y.l[i]
    · rw [if_pos he] at hr
      simp [h2, h3, h5, hlt', ofBytes_at hx, ofBytes_at hy, he, hw]
      exact ⟨i + 1, by omega, by omega, rfl, hr⟩
    · have hne : ¬ ((x.l[i].toNat : Int) = (y.l[i].toNat : Int)) := by
        intro h
        exact he (UInt8.toNat_inj.1 (by omega))
      have hne' : ¬ (x.l[i].toNat = y.l[i].toNat) := fun h => he (UInt8.toNat_inj.1 h)
      rw [if_neg he] at hr
      have ho' : (if (x.l[i].toNat : Int) < (y.l[i].toNat : Int) then (-1 : Int) else if (y.l[i].toNat : Int) < (x.l[i].toNat : Int) then 1 else 0) = cmpB x.l y.l := by
        rw [hr]
        by_cases hl : x.l[i] < y.l[i]
        · have : x.l[i].toNat < y.l[i].toNat := hl
          rw [if_pos hl, if_pos (by omega)]
        · have : ¬ x.l[i].toNat < y.l[i].toNat := hl
          rw [if_neg hl, if_neg (by omega), if_pos (by omega)]
      rw [ho'] at ho
      simp [h2, h3, h5, hlt', ofBytes_at hx, ofBytes_at hy, hne, hwx, hwy, ho]
  · have hlt' : ¬ (i : Int) < 16 := by omega
    have h16 : i = 16 := by omega
    subst h16
    have e1 : x.l.drop 16 = [] := List.drop_eq_nil_of_le (by simp)
    have e2 : y.l.drop 16 = [] := List.drop_eq_nil_of_le (by simp)
    rw [e1, e2, cmpB] at hr
    simp [h2, h3, h5, hr]

theorem rcmp_ev [MaxL] (a b : Cur) : call cx 17 [.agg (Enc.cells a), .agg (Enc.cells b)] [] = some (.int .i64 (cmpC a b), []) := by
  have h1 := order_ev a.n b.n
  have h2 := order_ev a.real b.real
  have h3 := ids_ev a.seq b.seq
  refine call_run Tryz.func17 rfl ⟨rfl, rfl⟩ ?_
  unfold cmpC cmpU
  by_cases h : a.seq = b.seq
  · simp [Tryz.f17, h, h1]
  · by_cases hr : a.real = b.real
    · simp [Tryz.f17, h, hr, h3]
    · have hr2 : ¬ (if a.real < b.real then (-1 : Int) else if b.real < a.real then 1 else 0) = 0 := by
        by_cases h5 : a.real < b.real
        · rw [if_pos h5]; omega
        · rw [if_neg h5, if_pos (by omega)]; omega
      generalize (if a.real < b.real then (-1 : Int) else if b.real < a.real then 1 else 0) = z at *
      simp [Tryz.f17, h, hr, h2, hr2]
theorem of19_ev [MaxL] (c : Cur) : call cx 11 [.agg (Enc.cells c)] [] = some (.agg (Enc.cells c), []) := by
  refine call_run Tryz.func11 rfl ⟨rfl, rfl⟩ ?_
  simp [Tryz.f11, List.drop_append, List.take_append, drop_bytes]
  rfl
/-- A field as bytes. -/
def payL (p : Pr) : List UInt8 := (p.name ++ [61]) ++ p.value
theorem pay_ev [MaxL] (p : Pr) (h1 : p.name.length < 1000000) (h2 : p.value.length < 1000000) : call cx 48 [.agg (Enc.cells p)] [] = some (.str (payL p), []) := by
  refine call_run Tryz.func48 rfl ⟨rfl, rfl⟩ ?_
  have x1 : p.name.length + 1 ≤ 4611686018427387904 := by omega
  have x2 : p.name.length + 1 + p.value.length ≤ 4611686018427387904 := by omega
  have x3 : p.name.length + (p.value.length + 1) ≤ 4611686018427387904 := by omega
  unfold payL
  simp [Tryz.f48, Pr.cells, x1, x2]
def xorP : List (List UInt8) → Int → Int
  | [], v => v
  | b :: l, v => xorP l (xorI .u64 v (lookN b))
/-- Bytes as data. -/
def bD (b : List UInt8) : D := .vsl false (ofBytes b) b.length
theorem bDs_at {L : List (List UInt8)} {k : Nat} (h : k < L.length) : List.drop k (L.map bD) = bD L[k] :: List.drop (k + 1) (L.map bD) := by
  rw [List.drop_eq_getElem_cons (by simpa using h)]
  simp
set_option maxHeartbeats 1000000 in
theorem xor_ev [MaxL] (nl : Bool) (L : List (List UInt8)) (hnl : nl = true → L = []) (hL : L.length < 1000000) (hb : ∀ b ∈ L, b.length < 3000000) : call cx 32 [.vsl nl (L.map bD) L.length] [] = some (.int .u64 (xorP L 0), []) := by
  refine call_run Tryz.func32 rfl ⟨rfl, rfl⟩ ?_
  obtain ⟨r, hr⟩ : ∃ r, xorP L 0 = r := ⟨_, rfl⟩
  rw [hr]
  simp [Tryz.f32]
  refine Run.loopThen (fun (q : Nat × Int) e H' => q.1 ≤ L.length ∧ xorP (L.drop q.1) q.2 = r ∧ look e 3 = some (.int .u64 q.2) ∧ look e 6 = some (.vsl nl (L.map bD) L.length) ∧ look e 7 = some (.int .i64 L.length) ∧ look e 8 = some (.int .i64 (q.1 : Nat)) ∧ H' = []) (fun q => L.length - q.1) (0, 0) ?_ ?_
  · simp [hr]
  rintro ⟨k, v⟩ e H' ⟨hk, hR, k3, k6, k7, k8, rfl⟩
  simp only at hk hR k3 k8
  by_cases hlt : k < L.length
  · have hlt' : (k : Int) < (L.length : Int) := by omega
    have hw : IntKind.i64.wrap ((k : Int) + 1) = ((k + 1 : Nat) : Int) := by rw [wrap_i64] <;> omega
    have hnn : nl = false := by
      cases hq : nl with
      | false => rfl
      | true => rw [hnl hq] at hlt; simp at hlt
    have hat := bDs_at hlt
    rw [List.drop_eq_getElem_cons hlt, xorP] at hR
    have hl := lookup_ev (.of L[k]) (by have := hb _ (List.getElem_mem hlt); show L[k].length < _; omega)
    replace hl : call cx 46 [.vsl false (ofBytes L[k]) L[k].length] [] = some (.int .u64 (lookN L[k]), []) := hl
    generalize L[k] = b at *
    generalize lookN b = z at *
    simp [k3, k6, k7, k8, hlt', hw, hnn, hat, bD, hl]
    exact ⟨k + 1, by omega, by omega, _, hR, rfl, by omega⟩
  · have hlt' : ¬ (k : Int) < (L.length : Int) := by omega
    rw [List.drop_eq_nil_of_le (by omega), xorP] at hR
    subst hR
    simp [k3, k6, k7, k8, hlt']
end Go.Ev.S
/- A text is read as a place: the document's. -/
namespace Go.Ev.S
open Go Go.Proofs Go.Ev
theorem parse_bad {s : List UInt8} (h : ∀ y0 y1 y2 y3 y4 y5, splitL 59 s = [y0, y1, y2, y3, y4, y5] → 2 ≤ y0.length → 2 ≤ y1.length → 2 ≤ y2.length → 2 ≤ y3.length → 2 ≤ y4.length → 2 ≤ y5.length → refB y0 y1 y2 y3 y4 y5 = true → showL (refC y0 y1 y2 y3 y4 y5) = s → False) : parseP s = (Cur.zero, false) := parseP_no fun c hc e => by
  obtain ⟨y0, y1, y2, y3, y4, y5, hP, l0, l1, l2, l3, l4, l5, hB, hC⟩ := show_pieces hc e
  exact h y0 y1 y2 y3 y4 y5 hP l0 l1 l2 l3 l4 l5 hB (by rw [hC]; exact e)
theorem parse_bad6 {s : List UInt8} (h : (splitL 59 s).length ≠ 6) : parseP s = (Cur.zero, false) := parse_bad fun y0 y1 y2 y3 y4 y5 hP _ _ _ _ _ _ _ _ => h (by rw [hP]; rfl)
set_option maxHeartbeats 8000000 in
set_option maxRecDepth 4000 in
theorem rparse_ev [MaxL] (s : List UInt8) (hs : s.length < 100000) : call cx 6 [.str s] [] = some (.tup [.agg (Enc.cells (parseP s).1), .bool (parseP s).2], []) := by
  have hz := z36
  have hsp : sp2 59 s [] = splitL 59 s := sp2_split 59 s [] (by simp)
  have hbad := parse_bad (s := s)
  have hbad6 := parse_bad6 (s := s)
  have hpn : (splitL 59 s).length ≤ s.length + 1 := Nat.le_trans (splitN_len 59 _ s) (by have := List.count_le_length (a := (59 : UInt8)) (l := s); omega)
  have hpl : ∀ x ∈ splitL 59 s, x.length ≤ s.length := splitN_le 59 _ s
  have hyes : ∀ c, CurOk c → showL c = s → parseP s = (c, true) := fun c h e => parseP_yes h e
  generalize splitL 59 s = P at *
  generalize parseP s = res at *
  refine call_run Tryz.func6 rfl ⟨rfl, rfl⟩ ?_
  simp [Tryz.f6, hz]
  refine Run.loopThen (fun (q : Nat × List UInt8 × List (List UInt8)) e H' => q.1 ≤ s.length ∧ q.2.1.length ≤ q.1 ∧ q.2.2 ++ sp2 59 (s.drop q.1) q.2.1 = P ∧ look e 0 = some (.str s) ∧ look e 2 = some (.optr 0 36 0) ∧ look e 5 = some (.str q.2.1) ∧ look e 6 = some (.int .i64 (q.1 : Nat)) ∧
      ((q.2.2 = [] ∧ look e 4 = some (.vsl true [] 0) ∧ H' = [some (Enc.cells Cur.zero)]) ∨
       (∃ x, 0 < q.2.2.length ∧ look e 4 = some (.osl 2 q.2.2.length 0 q.2.2.length 1) ∧ H' = [some (Enc.cells Cur.zero), some [.str x], some (q.2.2.map D.str)]) ∨
       (∃ x y, 0 < q.2.2.length ∧ look e 4 = some (.osl 2 q.2.2.length 0 q.2.2.length 1) ∧ H' = [some (Enc.cells Cur.zero), some [.str x], some (q.2.2.map D.str), some [.str y]]))) (fun q => s.length - q.1) (0, [], []) ?_ ?_
  · simp [hsp]
  rintro ⟨k, w, W⟩ e H' ⟨hk, hwl, hR, k0, k2, k5, k6, hH⟩
  simp only at hk hwl hR k5 k6 hH
  have hm1 : 16 ≤ maxBytes := by decide
  have hm2 : 1 ≤ maxBytes := by decide
  have hWP : W.length ≤ s.length + 1 := by
    have := congrArg List.length hR
    rw [List.length_append] at this
    omega
  have hmx : (W.length + 1) * 16 ≤ maxBytes := Nat.le_trans (show _ ≤ 2000000 by omega) (by decide)
  have hmx2 : W.length + 1 ≤ maxBytes := Nat.le_trans (show _ ≤ 2000000 by omega) (by decide)
  by_cases hlt : k < s.length
  · have hlt' : (k : Int) < (s.length : Int) := by omega
    have hw : IntKind.i64.wrap ((k : Int) + 1) = ((k + 1 : Nat) : Int) := by rw [wrap_i64] <;> omega
    have hat : s[k]? = some s[k] := List.getElem?_eq_getElem hlt
    rw [List.drop_eq_getElem_cons hlt, sp2] at hR
    have hcut : List.take 1 (List.drop k s) = [s[k]] := by rw [List.drop_eq_getElem_cons hlt]; rfl
    generalize s[k] = c at *
    by_cases hc : c = 59
    · subst hc
      rw [if_pos rfl] at hR
      have hR2 : (W ++ [w]) ++ sp2 59 (s.drop (k + 1)) [] = P := by rw [List.append_assoc]; exact hR
      rcases hH with ⟨rfl, k4, rfl⟩ | ⟨x, hW0, k4, rfl⟩ | ⟨x, y, hW0, k4, rfl⟩
      · simp [k0, k2, k4, k5, k6, hlt', hat, hw, hm1, hm2]
        exact ⟨k + 1, by omega, by omega, [], by simp, [w], hR2, rfl, by omega, by simp⟩
      · simp [k0, k2, k4, k5, k6, hlt', hat, hw, hmx, hmx2]
        exact ⟨k + 1, by omega, by omega, [], by simp, W ++ [w], hR2, rfl, by omega, by simp⟩
      · simp [k0, k2, k4, k5, k6, hlt', hat, hw, hmx, hmx2]
        exact ⟨k + 1, by omega, by omega, [], by simp, W ++ [w], hR2, rfl, by omega, by simp⟩
    · rw [if_neg hc] at hR
      have hc2 : ¬ (c.toNat : Int) = 59 := by
        intro h
        exact hc (UInt8.toNat.inj (by show c.toNat = 59; omega))
      have x1 : w.length + 1 ≤ 4611686018427387904 := by omega
      have y1 : (k : Int) + 1 ≤ (s.length : Int) := by omega
      have y2 : (0 : Int) ≤ (k : Int) + 1 := by omega
      have y3 : ((k : Int) + 1).toNat = k + 1 := by omega
      have y4 : (k : Int) ≤ (k : Int) + 1 := by omega
      have hwl2 : (w ++ [c]).length ≤ k + 1 := by rw [List.length_append]; simp; omega
      rcases hH with ⟨rfl, k4, rfl⟩ | ⟨x, hW0, k4, rfl⟩ | ⟨x, y, hW0, k4, rfl⟩
      · simp [k0, k2, k4, k5, k6, hlt', hat, hw, hc2, x1, y1, y2, y3, y4, hcut]
        exact ⟨k + 1, by omega, by omega, w ++ [c], hwl2, [], hR, rfl, by omega, by simp⟩
      · simp [k0, k2, k4, k5, k6, hlt', hat, hw, hc2, x1, y1, y2, y3, y4, hcut]
        exact ⟨k + 1, by omega, by omega, w ++ [c], hwl2, W, hR, rfl, by omega, by simp [hW0]⟩
      · simp [k0, k2, k4, k5, k6, hlt', hat, hw, hc2, x1, y1, y2, y3, y4, hcut]
        exact ⟨k + 1, by omega, by omega, w ++ [c], hwl2, W, hR, rfl, by omega, by simp [hW0]⟩
  · have hlt' : ¬ (k : Int) < (s.length : Int) := by omega
    rw [List.drop_eq_nil_of_le (by omega), sp2] at hR
    by_cases h6 : P.length = 6
    · have hW5 : W.length = 5 := by
        rw [← hR, List.length_append] at h6
        simpa using h6
      obtain ⟨y0, y1, y2, y3, y4, hWy⟩ : ∃ y0 y1 y2 y3 y4, W = [y0, y1, y2, y3, y4] := by
        clear hR hH hmx hmx2 hWP
        match W, hW5 with
        | [a, b, c, d, e], _ => exact ⟨a, b, c, d, e, rfl⟩
      subst hWy
      subst hR
      rcases hH with ⟨h, _⟩ | ⟨x, hW0, k4, rfl⟩ | ⟨x, y, hW0, k4, rfl⟩
      · cases h
      · simp at k4 hmx hmx2
        simp [k0, k2, k4, k5, k6, hlt', hmx, hmx2]
        refine Run.loopThen (fun (j : Nat) e H' => j ≤ 6 ∧ (0 < j → 2 ≤ y0.length) ∧ (1 < j → 2 ≤ y1.length) ∧ (2 < j → 2 ≤ y2.length) ∧ (3 < j → 2 ≤ y3.length) ∧ (4 < j → 2 ≤ y4.length) ∧ (5 < j → 2 ≤ w.length) ∧ look e 0 = some (.str s) ∧ look e 2 = some (.optr 0 36 0) ∧ look e 4 = some (.osl 2 6 0 6 1) ∧ look e 7 = some (.int .i64 j) ∧ H' = [some (Enc.cells Cur.zero), some [.str x], some [.str y0, .str y1, .str y2, .str y3, .str y4, .str w], some [.str w]]) (fun j => 6 - j) 0 (by simp) ?_
        rintro j e2 H2 ⟨hj, hl0, hl1, hl2, hl3, hl4, hl5, l0, l2, l4, l7, rfl⟩
        have hjc : j = 0 ∨ j = 1 ∨ j = 2 ∨ j = 3 ∨ j = 4 ∨ j = 5 ∨ j = 6 := by omega
        rcases hjc with rfl | rfl | rfl | rfl | rfl | rfl | rfl
        · by_cases hy : y0.length < 2
          · have hy' : (y0.length : Int) < 2 := by omega
            have hres := hbad (fun a0 a1 a2 a3 a4 a5 hP l0 l1 l2 l3 l4 l5 _ _ => by simp at hP; obtain ⟨rfl, rfl, rfl, rfl, rfl, rfl⟩ := hP; omega)
            subst hres
            simp [l0, l2, l4, l7, hy', hz]
          · have hy' : ¬ (y0.length : Int) < 2 := by omega
            simp [l0, l2, l4, l7, hy']
            exact ⟨1, by omega, by omega, fun _ => by omega, fun h => by omega, fun h => by omega, fun h => by omega, fun h => by omega, fun h => by omega, by omega⟩
        · by_cases hy : y1.length < 2
          · have hy' : (y1.length : Int) < 2 := by omega
            have hres := hbad (fun a0 a1 a2 a3 a4 a5 hP l0 l1 l2 l3 l4 l5 _ _ => by simp at hP; obtain ⟨rfl, rfl, rfl, rfl, rfl, rfl⟩ := hP; omega)
            subst hres
            simp [l0, l2, l4, l7, hy', hz]
          · have hy' : ¬ (y1.length : Int) < 2 := by omega
            simp [l0, l2, l4, l7, hy']
            exact ⟨2, by omega, by omega, fun _ => by omega, fun _ => by omega, fun h => by omega, fun h => by omega, fun h => by omega, fun h => by omega, by omega⟩
        · by_cases hy : y2.length < 2
          · have hy' : (y2.length : Int) < 2 := by omega
            have hres := hbad (fun a0 a1 a2 a3 a4 a5 hP l0 l1 l2 l3 l4 l5 _ _ => by simp at hP; obtain ⟨rfl, rfl, rfl, rfl, rfl, rfl⟩ := hP; omega)
            subst hres
            simp [l0, l2, l4, l7, hy', hz]
          · have hy' : ¬ (y2.length : Int) < 2 := by omega
            simp [l0, l2, l4, l7, hy']
            exact ⟨3, by omega, by omega, fun _ => by omega, fun _ => by omega, fun _ => by omega, fun h => by omega, fun h => by omega, fun h => by omega, by omega⟩
        · by_cases hy : y3.length < 2
          · have hy' : (y3.length : Int) < 2 := by omega
            have hres := hbad (fun a0 a1 a2 a3 a4 a5 hP l0 l1 l2 l3 l4 l5 _ _ => by simp at hP; obtain ⟨rfl, rfl, rfl, rfl, rfl, rfl⟩ := hP; omega)
            subst hres
            simp [l0, l2, l4, l7, hy', hz]
          · have hy' : ¬ (y3.length : Int) < 2 := by omega
            simp [l0, l2, l4, l7, hy']
            exact ⟨4, by omega, by omega, fun _ => by omega, fun _ => by omega, fun _ => by omega, fun _ => by omega, fun h => by omega, fun h => by omega, by omega⟩
        · by_cases hy : y4.length < 2
          · have hy' : (y4.length : Int) < 2 := by omega
            have hres := hbad (fun a0 a1 a2 a3 a4 a5 hP l0 l1 l2 l3 l4 l5 _ _ => by simp at hP; obtain ⟨rfl, rfl, rfl, rfl, rfl, rfl⟩ := hP; omega)
            subst hres
            simp [l0, l2, l4, l7, hy', hz]
          · have hy' : ¬ (y4.length : Int) < 2 := by omega
            simp [l0, l2, l4, l7, hy']
            exact ⟨5, by omega, by omega, fun _ => by omega, fun _ => by omega, fun _ => by omega, fun _ => by omega, fun _ => by omega, fun h => by omega, by omega⟩
        · by_cases hy : w.length < 2
          · have hy' : (w.length : Int) < 2 := by omega
            have hres := hbad (fun a0 a1 a2 a3 a4 a5 hP l0 l1 l2 l3 l4 l5 _ _ => by simp at hP; obtain ⟨rfl, rfl, rfl, rfl, rfl, rfl⟩ := hP; omega)
            subst hres
            simp [l0, l2, l4, l7, hy', hz]
          · have hy' : ¬ (w.length : Int) < 2 := by omega
            simp [l0, l2, l4, l7, hy']
            exact ⟨6, by omega, by omega, fun _ => by omega, fun _ => by omega, fun _ => by omega, fun _ => by omega, fun _ => by omega, fun _ => by omega, by omega⟩
        · have L0 := hl0 (by omega)
          have L1 := hl1 (by omega)
          have L2 := hl2 (by omega)
          have L3 := hl3 (by omega)
          have L4 := hl4 (by omega)
          have L5 := hl5 (by omega)
          have L0' : (2 : Int) ≤ (y0.length : Int) := by omega
          have T0 : List.take (y0.length - 2) (List.drop 2 y0) = List.drop 2 y0 := List.take_of_length_le (by simp)
          have B0 : (List.drop 2 y0).length < 1000000 := by have := hpl y0 (by simp); rw [List.length_drop]; omega
          have L1' : (2 : Int) ≤ (y1.length : Int) := by omega
          have T1 : List.take (y1.length - 2) (List.drop 2 y1) = List.drop 2 y1 := List.take_of_length_le (by simp)
          have B1 : (List.drop 2 y1).length < 1000000 := by have := hpl y1 (by simp); rw [List.length_drop]; omega
          have L2' : (2 : Int) ≤ (y2.length : Int) := by omega
          have T2 : List.take (y2.length - 2) (List.drop 2 y2) = List.drop 2 y2 := List.take_of_length_le (by simp)
          have B2 : (List.drop 2 y2).length < 1000000 := by have := hpl y2 (by simp); rw [List.length_drop]; omega
          have L3' : (2 : Int) ≤ (y3.length : Int) := by omega
          have T3 : List.take (y3.length - 2) (List.drop 2 y3) = List.drop 2 y3 := List.take_of_length_le (by simp)
          have B3 : (List.drop 2 y3).length < 1000000 := by have := hpl y3 (by simp); rw [List.length_drop]; omega
          have L4' : (2 : Int) ≤ (y4.length : Int) := by omega
          have T4 : List.take (y4.length - 2) (List.drop 2 y4) = List.drop 2 y4 := List.take_of_length_le (by simp)
          have B4 : (List.drop 2 y4).length < 1000000 := by have := hpl y4 (by simp); rw [List.length_drop]; omega
          have L5' : (2 : Int) ≤ (w.length : Int) := by omega
          have T5 : List.take (w.length - 2) (List.drop 2 w) = List.drop 2 w := List.take_of_length_le (by simp)
          have B5 : (List.drop 2 w).length < 1000000 := by have := hpl w (by simp); rw [List.length_drop]; omega
          have i0 : call cx 8 [.str (List.drop 2 y0)] [] = some (.tup [.agg (ofBytes (idOf (List.drop 2 y0)).l), .bool (idP (List.drop 2 y0)).isSome], []) := rid_ev _ B0
          have i2 : call cx 8 [.str (List.drop 2 y2)] [] = some (.tup [.agg (ofBytes (idOf (List.drop 2 y2)).l), .bool (idP (List.drop 2 y2)).isSome], []) := rid_ev _ B2
          have i1 := rshort_ev (List.drop 2 y1) B1
          have i3 := rshort_ev (List.drop 2 y3) B3
          have i4 := rshort_ev (List.drop 2 y4) B4
          have i5 := rshort_ev (List.drop 2 w) B5
          have hrC : refC y0 y1 y2 y3 y4 w = ⟨idOf (List.drop 2 y0), ((shortL (List.drop 2 y1)).1 : Nat), idOf (List.drop 2 y2), ((shortL (List.drop 2 y3)).1 : Nat), ((shortL (List.drop 2 y4)).1 : Nat), ((shortL (List.drop 2 w)).1 : Nat)⟩ := rfl
          have hrB : refB y0 y1 y2 y3 y4 w = ((idP (List.drop 2 y0)).isSome && ((shortL (List.drop 2 y1)).2 && ((idP (List.drop 2 y2)).isSome && ((shortL (List.drop 2 y3)).2 && ((shortL (List.drop 2 y4)).2 && (shortL (List.drop 2 w)).2))))) := rfl
          have hok := refC_ok y0 y1 y2 y3 y4 w
          have hno : (refB y0 y1 y2 y3 y4 w = true → showL (refC y0 y1 y2 y3 y4 w) = s → False) → res = (Cur.zero, false) := fun hh => hbad (fun a0 a1 a2 a3 a4 a5 hP l0 l1 l2 l3 l4 l5 hB hS => by simp at hP; obtain ⟨rfl, rfl, rfl, rfl, rfl, rfl⟩ := hP; exact hh hB hS)
          have hsh := rshow_ev (refC y0 y1 y2 y3 y4 w) hok
          have hys := hyes (refC y0 y1 y2 y3 y4 w) hok
          rw [hrC] at hno hsh hys
          rw [hrB] at hno
          clear hrC hrB hok hbad hbad6 hyes hpl hsp hpn B0 B1 B2 B3 B4 B5
          generalize idOf (List.drop 2 y0) = v0 at *
          generalize (idP (List.drop 2 y0)).isSome = b0 at *
          generalize idOf (List.drop 2 y2) = v2 at *
          generalize (idP (List.drop 2 y2)).isSome = b2 at *
          generalize (shortL (List.drop 2 y1)).2 = b1 at *
          generalize (shortL (List.drop 2 y1)).1 = v1 at *
          generalize (shortL (List.drop 2 y3)).2 = b3 at *
          generalize (shortL (List.drop 2 y3)).1 = v3 at *
          generalize (shortL (List.drop 2 y4)).2 = b4 at *
          generalize (shortL (List.drop 2 y4)).1 = v4 at *
          generalize (shortL (List.drop 2 w)).2 = b5 at *
          generalize (shortL (List.drop 2 w)).1 = v5 at *
          by_cases c0 : b0 = false
          · subst c0
            have hres := hno (fun h _ => by simp at h)
            subst hres
            simp [l0, l2, l4, l7, hz, L0', T0, i0, L1', T1, i1, L2', T2, i2, L3', T3, i3, L4', T4, i4, L5', T5, i5]
          replace c0 : b0 = true := by simpa using c0
          subst c0
          by_cases c1 : b1 = false
          · subst c1
            have hres := hno (fun h _ => by simp at h)
            subst hres
            simp [l0, l2, l4, l7, hz, L0', T0, i0, L1', T1, i1, L2', T2, i2, L3', T3, i3, L4', T4, i4, L5', T5, i5]
          replace c1 : b1 = true := by simpa using c1
          subst c1
          by_cases c2 : b2 = false
          · subst c2
            have hres := hno (fun h _ => by simp at h)
            subst hres
            simp [l0, l2, l4, l7, hz, L0', T0, i0, L1', T1, i1, L2', T2, i2, L3', T3, i3, L4', T4, i4, L5', T5, i5]
          replace c2 : b2 = true := by simpa using c2
          subst c2
          by_cases c3 : b3 = false
          · subst c3
            have hres := hno (fun h _ => by simp at h)
            subst hres
            simp [l0, l2, l4, l7, hz, L0', T0, i0, L1', T1, i1, L2', T2, i2, L3', T3, i3, L4', T4, i4, L5', T5, i5]
          replace c3 : b3 = true := by simpa using c3
          subst c3
          by_cases c4 : b4 = false
          · subst c4
            have hres := hno (fun h _ => by simp at h)
            subst hres
            simp [l0, l2, l4, l7, hz, L0', T0, i0, L1', T1, i1, L2', T2, i2, L3', T3, i3, L4', T4, i4, L5', T5, i5]
          replace c4 : b4 = true := by simpa using c4
          subst c4
          by_cases c5 : b5 = false
          · subst c5
            have hres := hno (fun h _ => by simp at h)
            subst hres
            simp [l0, l2, l4, l7, hz, L0', T0, i0, L1', T1, i1, L2', T2, i2, L3', T3, i3, L4', T4, i4, L5', T5, i5]
          replace c5 : b5 = true := by simpa using c5
          subst c5
          generalize hcc : ({ seq := v0, n := (v1 : Int), boot := v2, mono := (v3 : Int), real := (v4 : Int), xor := (v5 : Int) } : Cur) = cc at hno hsh hys
          have hd36 : List.drop 36 (Enc.cells Cur.zero) = [] := List.drop_eq_nil_of_le (by simp)
          by_cases hq : showL cc = s
          · have hres := hys hq
            subst hres
            rw [hq] at hsh
            simp [l0, l2, l4, l7, hz, L0', T0, i0, L1', T1, i1, L2', T2, i2, L3', T3, i3, L4', T4, i4, L5', T5, i5, hcc, hsh, hd36]
          · have hres := hno (fun _ h => hq h)
            subst hres
            have hq2 : (showL cc == s) = false := beq_eq_false_iff_ne.2 hq
            generalize showL cc = wv at *
            simp [l0, l2, l4, l7, hz, L0', T0, i0, L1', T1, i1, L2', T2, i2, L3', T3, i3, L4', T4, i4, L5', T5, i5, hcc, hsh, hd36, hq2]
      · simp at k4 hmx hmx2
        simp [k0, k2, k4, k5, k6, hlt', hmx, hmx2]
        refine Run.loopThen (fun (j : Nat) e H' => j ≤ 6 ∧ (0 < j → 2 ≤ y0.length) ∧ (1 < j → 2 ≤ y1.length) ∧ (2 < j → 2 ≤ y2.length) ∧ (3 < j → 2 ≤ y3.length) ∧ (4 < j → 2 ≤ y4.length) ∧ (5 < j → 2 ≤ w.length) ∧ look e 0 = some (.str s) ∧ look e 2 = some (.optr 0 36 0) ∧ look e 4 = some (.osl 2 6 0 6 1) ∧ look e 7 = some (.int .i64 j) ∧ H' = [some (Enc.cells Cur.zero), some [.str x], some [.str y0, .str y1, .str y2, .str y3, .str y4, .str w], some [.str w]]) (fun j => 6 - j) 0 (by simp) ?_
        rintro j e2 H2 ⟨hj, hl0, hl1, hl2, hl3, hl4, hl5, l0, l2, l4, l7, rfl⟩
        have hjc : j = 0 ∨ j = 1 ∨ j = 2 ∨ j = 3 ∨ j = 4 ∨ j = 5 ∨ j = 6 := by omega
        rcases hjc with rfl | rfl | rfl | rfl | rfl | rfl | rfl
        · by_cases hy : y0.length < 2
          · have hy' : (y0.length : Int) < 2 := by omega
            have hres := hbad (fun a0 a1 a2 a3 a4 a5 hP l0 l1 l2 l3 l4 l5 _ _ => by simp at hP; obtain ⟨rfl, rfl, rfl, rfl, rfl, rfl⟩ := hP; omega)
            subst hres
            simp [l0, l2, l4, l7, hy', hz]
          · have hy' : ¬ (y0.length : Int) < 2 := by omega
            simp [l0, l2, l4, l7, hy']
            exact ⟨1, by omega, by omega, fun _ => by omega, fun h => by omega, fun h => by omega, fun h => by omega, fun h => by omega, fun h => by omega, by omega⟩
        · by_cases hy : y1.length < 2
          · have hy' : (y1.length : Int) < 2 := by omega
            have hres := hbad (fun a0 a1 a2 a3 a4 a5 hP l0 l1 l2 l3 l4 l5 _ _ => by simp at hP; obtain ⟨rfl, rfl, rfl, rfl, rfl, rfl⟩ := hP; omega)
            subst hres
            simp [l0, l2, l4, l7, hy', hz]
          · have hy' : ¬ (y1.length : Int) < 2 := by omega
            simp [l0, l2, l4, l7, hy']
            exact ⟨2, by omega, by omega, fun _ => by omega, fun _ => by omega, fun h => by omega, fun h => by omega, fun h => by omega, fun h => by omega, by omega⟩
        · by_cases hy : y2.length < 2
          · have hy' : (y2.length : Int) < 2 := by omega
            have hres := hbad (fun a0 a1 a2 a3 a4 a5 hP l0 l1 l2 l3 l4 l5 _ _ => by simp at hP; obtain ⟨rfl, rfl, rfl, rfl, rfl, rfl⟩ := hP; omega)
            subst hres
            simp [l0, l2, l4, l7, hy', hz]
          · have hy' : ¬ (y2.length : Int) < 2 := by omega
            simp [l0, l2, l4, l7, hy']
            exact ⟨3, by omega, by omega, fun _ => by omega, fun _ => by omega, fun _ => by omega, fun h => by omega, fun h => by omega, fun h => by omega, by omega⟩
        · by_cases hy : y3.length < 2
          · have hy' : (y3.length : Int) < 2 := by omega
            have hres := hbad (fun a0 a1 a2 a3 a4 a5 hP l0 l1 l2 l3 l4 l5 _ _ => by simp at hP; obtain ⟨rfl, rfl, rfl, rfl, rfl, rfl⟩ := hP; omega)
            subst hres
            simp [l0, l2, l4, l7, hy', hz]
          · have hy' : ¬ (y3.length : Int) < 2 := by omega
            simp [l0, l2, l4, l7, hy']
            exact ⟨4, by omega, by omega, fun _ => by omega, fun _ => by omega, fun _ => by omega, fun _ => by omega, fun h => by omega, fun h => by omega, by omega⟩
        · by_cases hy : y4.length < 2
          · have hy' : (y4.length : Int) < 2 := by omega
            have hres := hbad (fun a0 a1 a2 a3 a4 a5 hP l0 l1 l2 l3 l4 l5 _ _ => by simp at hP; obtain ⟨rfl, rfl, rfl, rfl, rfl, rfl⟩ := hP; omega)
            subst hres
            simp [l0, l2, l4, l7, hy', hz]
          · have hy' : ¬ (y4.length : Int) < 2 := by omega
            simp [l0, l2, l4, l7, hy']
            exact ⟨5, by omega, by omega, fun _ => by omega, fun _ => by omega, fun _ => by omega, fun _ => by omega, fun _ => by omega, fun h => by omega, by omega⟩
        · by_cases hy : w.length < 2
          · have hy' : (w.length : Int) < 2 := by omega
            have hres := hbad (fun a0 a1 a2 a3 a4 a5 hP l0 l1 l2 l3 l4 l5 _ _ => by simp at hP; obtain ⟨rfl, rfl, rfl, rfl, rfl, rfl⟩ := hP; omega)
            subst hres
            simp [l0, l2, l4, l7, hy', hz]
          · have hy' : ¬ (w.length : Int) < 2 := by omega
            simp [l0, l2, l4, l7, hy']
            exact ⟨6, by omega, by omega, fun _ => by omega, fun _ => by omega, fun _ => by omega, fun _ => by omega, fun _ => by omega, fun _ => by omega, by omega⟩
        · have L0 := hl0 (by omega)
          have L1 := hl1 (by omega)
          have L2 := hl2 (by omega)
          have L3 := hl3 (by omega)
          have L4 := hl4 (by omega)
          have L5 := hl5 (by omega)
          have L0' : (2 : Int) ≤ (y0.length : Int) := by omega
          have T0 : List.take (y0.length - 2) (List.drop 2 y0) = List.drop 2 y0 := List.take_of_length_le (by simp)
          have B0 : (List.drop 2 y0).length < 1000000 := by have := hpl y0 (by simp); rw [List.length_drop]; omega
          have L1' : (2 : Int) ≤ (y1.length : Int) := by omega
          have T1 : List.take (y1.length - 2) (List.drop 2 y1) = List.drop 2 y1 := List.take_of_length_le (by simp)
          have B1 : (List.drop 2 y1).length < 1000000 := by have := hpl y1 (by simp); rw [List.length_drop]; omega
          have L2' : (2 : Int) ≤ (y2.length : Int) := by omega
          have T2 : List.take (y2.length - 2) (List.drop 2 y2) = List.drop 2 y2 := List.take_of_length_le (by simp)
          have B2 : (List.drop 2 y2).length < 1000000 := by have := hpl y2 (by simp); rw [List.length_drop]; omega
          have L3' : (2 : Int) ≤ (y3.length : Int) := by omega
          have T3 : List.take (y3.length - 2) (List.drop 2 y3) = List.drop 2 y3 := List.take_of_length_le (by simp)
          have B3 : (List.drop 2 y3).length < 1000000 := by have := hpl y3 (by simp); rw [List.length_drop]; omega
          have L4' : (2 : Int) ≤ (y4.length : Int) := by omega
          have T4 : List.take (y4.length - 2) (List.drop 2 y4) = List.drop 2 y4 := List.take_of_length_le (by simp)
          have B4 : (List.drop 2 y4).length < 1000000 := by have := hpl y4 (by simp); rw [List.length_drop]; omega
          have L5' : (2 : Int) ≤ (w.length : Int) := by omega
          have T5 : List.take (w.length - 2) (List.drop 2 w) = List.drop 2 w := List.take_of_length_le (by simp)
          have B5 : (List.drop 2 w).length < 1000000 := by have := hpl w (by simp); rw [List.length_drop]; omega
          have i0 : call cx 8 [.str (List.drop 2 y0)] [] = some (.tup [.agg (ofBytes (idOf (List.drop 2 y0)).l), .bool (idP (List.drop 2 y0)).isSome], []) := rid_ev _ B0
          have i2 : call cx 8 [.str (List.drop 2 y2)] [] = some (.tup [.agg (ofBytes (idOf (List.drop 2 y2)).l), .bool (idP (List.drop 2 y2)).isSome], []) := rid_ev _ B2
          have i1 := rshort_ev (List.drop 2 y1) B1
          have i3 := rshort_ev (List.drop 2 y3) B3
          have i4 := rshort_ev (List.drop 2 y4) B4
          have i5 := rshort_ev (List.drop 2 w) B5
          have hrC : refC y0 y1 y2 y3 y4 w = ⟨idOf (List.drop 2 y0), ((shortL (List.drop 2 y1)).1 : Nat), idOf (List.drop 2 y2), ((shortL (List.drop 2 y3)).1 : Nat), ((shortL (List.drop 2 y4)).1 : Nat), ((shortL (List.drop 2 w)).1 : Nat)⟩ := rfl
          have hrB : refB y0 y1 y2 y3 y4 w = ((idP (List.drop 2 y0)).isSome && ((shortL (List.drop 2 y1)).2 && ((idP (List.drop 2 y2)).isSome && ((shortL (List.drop 2 y3)).2 && ((shortL (List.drop 2 y4)).2 && (shortL (List.drop 2 w)).2))))) := rfl
          have hok := refC_ok y0 y1 y2 y3 y4 w
          have hno : (refB y0 y1 y2 y3 y4 w = true → showL (refC y0 y1 y2 y3 y4 w) = s → False) → res = (Cur.zero, false) := fun hh => hbad (fun a0 a1 a2 a3 a4 a5 hP l0 l1 l2 l3 l4 l5 hB hS => by simp at hP; obtain ⟨rfl, rfl, rfl, rfl, rfl, rfl⟩ := hP; exact hh hB hS)
          have hsh := rshow_ev (refC y0 y1 y2 y3 y4 w) hok
          have hys := hyes (refC y0 y1 y2 y3 y4 w) hok
          rw [hrC] at hno hsh hys
          rw [hrB] at hno
          clear hrC hrB hok hbad hbad6 hyes hpl hsp hpn B0 B1 B2 B3 B4 B5
          generalize idOf (List.drop 2 y0) = v0 at *
          generalize (idP (List.drop 2 y0)).isSome = b0 at *
          generalize idOf (List.drop 2 y2) = v2 at *
          generalize (idP (List.drop 2 y2)).isSome = b2 at *
          generalize (shortL (List.drop 2 y1)).2 = b1 at *
          generalize (shortL (List.drop 2 y1)).1 = v1 at *
          generalize (shortL (List.drop 2 y3)).2 = b3 at *
          generalize (shortL (List.drop 2 y3)).1 = v3 at *
          generalize (shortL (List.drop 2 y4)).2 = b4 at *
          generalize (shortL (List.drop 2 y4)).1 = v4 at *
          generalize (shortL (List.drop 2 w)).2 = b5 at *
          generalize (shortL (List.drop 2 w)).1 = v5 at *
          by_cases c0 : b0 = false
          · subst c0
            have hres := hno (fun h _ => by simp at h)
            subst hres
            simp [l0, l2, l4, l7, hz, L0', T0, i0, L1', T1, i1, L2', T2, i2, L3', T3, i3, L4', T4, i4, L5', T5, i5]
          replace c0 : b0 = true := by simpa using c0
          subst c0
          by_cases c1 : b1 = false
          · subst c1
            have hres := hno (fun h _ => by simp at h)
            subst hres
            simp [l0, l2, l4, l7, hz, L0', T0, i0, L1', T1, i1, L2', T2, i2, L3', T3, i3, L4', T4, i4, L5', T5, i5]
          replace c1 : b1 = true := by simpa using c1
          subst c1
          by_cases c2 : b2 = false
          · subst c2
            have hres := hno (fun h _ => by simp at h)
            subst hres
            simp [l0, l2, l4, l7, hz, L0', T0, i0, L1', T1, i1, L2', T2, i2, L3', T3, i3, L4', T4, i4, L5', T5, i5]
          replace c2 : b2 = true := by simpa using c2
          subst c2
          by_cases c3 : b3 = false
          · subst c3
            have hres := hno (fun h _ => by simp at h)
            subst hres
            simp [l0, l2, l4, l7, hz, L0', T0, i0, L1', T1, i1, L2', T2, i2, L3', T3, i3, L4', T4, i4, L5', T5, i5]
          replace c3 : b3 = true := by simpa using c3
          subst c3
          by_cases c4 : b4 = false
          · subst c4
            have hres := hno (fun h _ => by simp at h)
            subst hres
            simp [l0, l2, l4, l7, hz, L0', T0, i0, L1', T1, i1, L2', T2, i2, L3', T3, i3, L4', T4, i4, L5', T5, i5]
          replace c4 : b4 = true := by simpa using c4
          subst c4
          by_cases c5 : b5 = false
          · subst c5
            have hres := hno (fun h _ => by simp at h)
            subst hres
            simp [l0, l2, l4, l7, hz, L0', T0, i0, L1', T1, i1, L2', T2, i2, L3', T3, i3, L4', T4, i4, L5', T5, i5]
          replace c5 : b5 = true := by simpa using c5
          subst c5
          generalize hcc : ({ seq := v0, n := (v1 : Int), boot := v2, mono := (v3 : Int), real := (v4 : Int), xor := (v5 : Int) } : Cur) = cc at hno hsh hys
          have hd36 : List.drop 36 (Enc.cells Cur.zero) = [] := List.drop_eq_nil_of_le (by simp)
          by_cases hq : showL cc = s
          · have hres := hys hq
            subst hres
            rw [hq] at hsh
            simp [l0, l2, l4, l7, hz, L0', T0, i0, L1', T1, i1, L2', T2, i2, L3', T3, i3, L4', T4, i4, L5', T5, i5, hcc, hsh, hd36]
          · have hres := hno (fun _ h => hq h)
            subst hres
            have hq2 : (showL cc == s) = false := beq_eq_false_iff_ne.2 hq
            generalize showL cc = wv at *
            simp [l0, l2, l4, l7, hz, L0', T0, i0, L1', T1, i1, L2', T2, i2, L3', T3, i3, L4', T4, i4, L5', T5, i5, hcc, hsh, hd36, hq2]
    · have h6' : ¬ ((W.length : Int) + 1) = 6 := by
        rw [← hR, List.length_append] at h6
        simp at h6
        omega
      have hres := hbad6 h6
      subst hres
      rcases hH with ⟨rfl, k4, rfl⟩ | ⟨x, hW0, k4, rfl⟩ | ⟨x, y, hW0, k4, rfl⟩
      · simp [k0, k2, k4, k5, k6, hlt', hm1, hm2, hz]
      · simp [k0, k2, k4, k5, k6, hlt', hmx, hmx2, hz, h6']
      · simp [k0, k2, k4, k5, k6, hlt', hmx, hmx2, hz, h6']
end Go.Ev.S
/- A place is made of an entry: the program's and the document's. -/
namespace Go.Ev.S
open Go Go.Proofs Go.Ev
def PrB (p : Pr) : Prop := p.name.length < 1000000 ∧ p.value.length < 1000000
theorem payL_len {p : Pr} (h : PrB p) : (payL p).length < 3000000 := by
  obtain ⟨h1, h2⟩ := h
  unfold payL
  simp
  omega
set_option maxHeartbeats 1000000 in
theorem rxor_ev [MaxL] (s : Sl Pr) (hn : s.l.length < 1000000) (hb : ∀ p ∈ s.l, PrB p) : call cx 33 [(.vsl s.nil (encs s.l) s.l.length)] [] = some (.int .u64 (xorP (s.l.map payL) 0), []) := by
  refine call_run Tryz.func33 rfl ⟨rfl, rfl⟩ ?_
  obtain ⟨r, hr⟩ : ∃ r, xorP (s.l.map payL) 0 = r := ⟨_, rfl⟩
  rw [hr]
  simp [Tryz.f33]
  refine Run.loopThen (fun (q : Nat × Int) e H' => q.1 ≤ s.l.length ∧ xorP ((s.l.map payL).drop q.1) q.2 = r ∧ look e 0 = some (.vsl s.nil (encs s.l) s.l.length) ∧ look e 3 = some (.int .u64 q.2) ∧ look e 4 = some (.int .i64 (q.1 : Nat)) ∧ H' = []) (fun q => s.l.length - q.1) (0, 0) ?_ ?_
  · simp [hr]
  rintro ⟨k, v⟩ e H' ⟨hk, hR, k0, k3, k4, rfl⟩
  simp only at hk hR k3 k4
  by_cases hlt : k < s.l.length
  · have hlt' : (k : Int) < (s.l.length : Int) := by omega
    have hw : IntKind.i64.wrap ((k : Int) + 1) = ((k + 1 : Nat) : Int) := by rw [wrap_i64] <;> omega
    rw [← List.map_drop, List.drop_eq_getElem_cons hlt, List.map_cons, xorP, List.map_drop] at hR
    have hpb := hb s.l[k] (List.getElem_mem hlt)
    have hp := pay_ev s.l[k] hpb.1 hpb.2
    have hpl := payL_len hpb
    have hl := rlookup_ev (.of (payL s.l[k])) (by show (payL s.l[k]).length < _; omega)
    replace hl : call cx 47 [.vsl false (ofBytes (payL s.l[k])) (payL s.l[k]).length] [] = some (.int .u64 (lookN (payL s.l[k])), []) := hl
    generalize payL s.l[k] = b at *
    generalize lookN b = z at *
    simp [k0, k3, k4, hlt', hlt, hw, Sl.nn hlt, hp, hl]
    exact ⟨k + 1, by omega, by omega, _, hR, rfl, by omega⟩
  · have hlt' : ¬ (k : Int) < (s.l.length : Int) := by omega
    rw [List.drop_eq_nil_of_le (by simp; omega), xorP] at hR
    subst hR
    simp [k0, k3, k4, hlt']
/-- An entry's place. -/
def cOfP (q : ID) (r : Rec) : Cur := ⟨q, r.seq, r.boot, r.mono, r.real, xorP (r.fields.l.map payL) 0⟩
theorem rcof_ev [MaxL] (q : ID) (r : Rec) (hn : r.fields.l.length < 1000000) (hb : ∀ p ∈ r.fields.l, PrB p) : call cx 15 [.agg (ofBytes q.l), .agg (Enc.cells r)] [] = some (.agg (Enc.cells (cOfP q r)), []) := by
  have hx := rxor_ev r.fields hn hb
  have hL : Enc.cells r = [.int .u64 r.seq, .int .u64 r.real, .int .u64 r.mono] ++ (ofBytes r.boot.l ++ [(.vsl r.fields.nil (encs r.fields.l) r.fields.l.length)]) := Rec.cells r
  have hC : Enc.cells (cOfP q r) = ofBytes q.l ++ ([.int .u64 r.seq] ++ (ofBytes r.boot.l ++ [.int .u64 r.mono, .int .u64 r.real, .int .u64 (xorP (r.fields.l.map payL) 0)])) := rfl
  rw [hL, hC]
  generalize xorP (r.fields.l.map payL) 0 = z at *
  refine call_run Tryz.func15 rfl ⟨rfl, rfl⟩ ?_
  simp [Tryz.f15, hx, List.drop_append, List.take_append, drop_bytes]
def paysB (l : List Pr) : List D := (l.map payL).map bD
theorem paysB_len (l : List Pr) : (paysB l).length = l.length := by simp [paysB]
theorem paysB_idFree (l : List Pr) : (paysB l).all idFree = true := by
  rw [List.all_eq_true]
  intro x hx
  obtain ⟨b, _, rfl⟩ := List.mem_map.1 hx
  rfl
@[simp] theorem paysB_idFree' (l : List Pr) : (paysB l).all idFree = true := paysB_idFree l
@[simp] theorem paysB_idFreeL (l : List Pr) : idFree.idFreeL (paysB l) = true := by rw [idFreeL_all]; exact paysB_idFree l
@[simp] theorem paysB_closedL (n : Nat) (l : List Pr) : closed.closedL n (paysB l) = true := closedL_free n _ (paysB_idFreeL l)
@[simp] theorem paysB_closed (n : Nat) (l : List Pr) : (paysB l).all (closed n) = true := by rw [← closedL_all]; exact paysB_closedL n l
@[simp] theorem paysB_aI (l : List Pr) : (∀ x, x ∈ paysB l → idFree x = true) = True := eq_true (List.all_eq_true.1 (paysB_idFree l))
@[simp] theorem paysB_aC (n : Nat) (l : List Pr) : (∀ x, x ∈ paysB l → closed n x = true) = True := eq_true (List.all_eq_true.1 (paysB_closed n l))
theorem paysB_snoc {l : List Pr} {k : Nat} (h : k < l.length) : paysB (l.take k) ++ [bD (payL l[k])] = paysB (l.take (k + 1)) := by
  unfold paysB
  rw [List.take_succ_eq_append_getElem h, List.map_append, List.map_append]
  rfl
set_option maxHeartbeats 4000000 in
theorem cof_ev [MaxL] (q : ID) (r : Rec) (hn : r.fields.l.length < 1000000) (hb : ∀ p ∈ r.fields.l, PrB p) : call cx 14 [.agg (ofBytes q.l), .agg (Enc.cells r)] [] = some (.agg (Enc.cells (cOfP q r)), []) := by
  have hL : Enc.cells r = .int .u64 r.seq :: .int .u64 r.real :: .int .u64 r.mono :: (ofBytes r.boot.l ++ [(.vsl r.fields.nil (encs r.fields.l) r.fields.l.length)]) := Rec.cells r
  have hC : Enc.cells (cOfP q r) = ofBytes q.l ++ ([.int .u64 r.seq] ++ (ofBytes r.boot.l ++ [.int .u64 r.mono, .int .u64 r.real, .int .u64 (xorP (r.fields.l.map payL) 0)])) := rfl
  have hbl : ∀ b ∈ r.fields.l.map payL, b.length < 3000000 := by
    intro b hm
    obtain ⟨p, hp, rfl⟩ := List.mem_map.1 hm
    exact payL_len (hb p hp)
  have hxe := fun nl h => xor_ev nl (r.fields.l.map payL) h (by simpa using hn) hbl
  rw [hL, hC]
  have hz := z36
  clear hL hC
  generalize r.fields = F at *
  refine call_run Tryz.func14 rfl ⟨rfl, rfl⟩ ?_
  simp [Tryz.f14, hz]
  refine Run.loopThen (fun (k : Nat) e H' => k ≤ F.l.length ∧ look e 2 = some (.optr 0 16 0) ∧ look e 3 = some (.optr 1 20 0) ∧ look e 4 = some (.optr 2 36 0) ∧ look e 9 = some (.vsl F.nil (encs F.l) F.l.length) ∧ look e 10 = some (.int .i64 F.l.length) ∧ look e 11 = some (.int .i64 k) ∧
      ((k = 0 ∧ look e 5 = some (.vsl true [] 0) ∧ H' = [some (ofBytes q.l), some (.int .u64 r.seq :: .int .u64 r.real :: .int .u64 r.mono :: (ofBytes r.boot.l ++ [(.vsl F.nil (encs F.l) F.l.length)])), some (Enc.cells Cur.zero)]) ∨
       (∃ n1 v1, 0 < k ∧ look e 5 = some (.osl 4 k 0 k 1) ∧ H' = [some (ofBytes q.l), some (.int .u64 r.seq :: .int .u64 r.real :: .int .u64 r.mono :: (ofBytes r.boot.l ++ [(.vsl F.nil (encs F.l) F.l.length)])), some (Enc.cells Cur.zero), some [.str n1, .str v1], some (paysB (F.l.take k))]) ∨
       (∃ n1 v1 n2 v2, 0 < k ∧ look e 5 = some (.osl 4 k 0 k 1) ∧ H' = [some (ofBytes q.l), some (.int .u64 r.seq :: .int .u64 r.real :: .int .u64 r.mono :: (ofBytes r.boot.l ++ [(.vsl F.nil (encs F.l) F.l.length)])), some (Enc.cells Cur.zero), some [.str n1, .str v1], some (paysB (F.l.take k)), some [.str n2, .str v2]]))) (fun k => F.l.length - k) 0 (by simp) ?_
  rintro k e H' ⟨hk, k2, k3, k4, k9, k10, k11, hH⟩
  by_cases hlt : k < F.l.length
  · have hlt' : (k : Int) < (F.l.length : Int) := by omega
    have hw : IntKind.i64.wrap ((k : Int) + 1) = ((k + 1 : Nat) : Int) := by rw [wrap_i64] <;> omega
    have hpb := hb F.l[k] (List.getElem_mem hlt)
    have hsn := paysB_snoc hlt
    have hpl := paysB_len (F.l.take k)
    rw [List.length_take, Nat.min_eq_left (by omega)] at hpl
    have hpy : payL F.l[k] = F.l[k].name ++ 61 :: F.l[k].value := by simp [payL]
    have hnn := Sl.nn hlt
    obtain ⟨x1, x2⟩ := hpb
    have x3 : F.l[k].name.length + 1 ≤ 4611686018427387904 := by omega
    have x4 : F.l[k].name.length + 1 + F.l[k].value.length ≤ 4611686018427387904 := by omega
    have x5 : F.l[k].name.length + (F.l[k].value.length + 1) ≤ 4611686018427387904 := by omega
    have hbD : bD (payL F.l[k]) = .vsl false (ofBytes (F.l[k].name ++ 61 :: F.l[k].value)) (F.l[k].name.length + (F.l[k].value.length + 1)) := by
      unfold bD
      rw [hpy]
      simp
    rw [hbD] at hsn
    have hm1 : 24 ≤ maxBytes := by decide
    have hm2 : 1 ≤ maxBytes := by decide
    have hmx : (k + 1) * 24 ≤ maxBytes := Nat.le_trans (show _ ≤ 30000000 by omega) (by decide)
    have hmx2 : k + 1 ≤ maxBytes := Nat.le_trans (show _ ≤ 30000000 by omega) (by decide)
    rcases hH with ⟨rfl, k5, rfl⟩ | ⟨n1, v1, hk0, k5, rfl⟩ | ⟨n1, v1, n2, v2, hk0, k5, rfl⟩
    · have hc0 : List.take 2 (encs F.l) = [.str F.l[0].name, .str F.l[0].value] := by
        rw [encs_at0 hlt, Pr.cells]
        rfl
      have hc1 : 2 ≤ F.l.length * 2 := by omega
      simp [k2, k3, k4, k5, k9, k10, k11, hlt, hnn, x3, x4, hc0, hc1, hm1, hm2]
      exact ⟨1, by omega, by omega, by simp, by omega, rfl, hsn⟩
    · simp [k2, k3, k4, k5, k9, k10, k11, hlt', hlt, hw, hnn, x3, x4, Pr.cells, hmx, hmx2, hpl, hsn]
      exact ⟨k + 1, by omega, by omega, by omega, by omega, rfl, rfl⟩
    · simp [k2, k3, k4, k5, k9, k10, k11, hlt', hlt, hw, hnn, x3, x4, Pr.cells, hmx, hmx2, hpl, hsn]
      exact ⟨k + 1, by omega, by omega, by omega, by omega, rfl, rfl⟩
  · have hlt' : ¬ (k : Int) < (F.l.length : Int) := by omega
    have hke : k = F.l.length := by omega
    have htk : F.l.take k = F.l := List.take_of_length_le (by omega)
    rw [htk] at hH
    have hpl := paysB_len F.l
    have htp : List.take F.l.length (paysB F.l) = paysB F.l := List.take_of_length_le (by omega)
    rcases hH with ⟨rfl, k5, rfl⟩ | ⟨n1, v1, hk0, k5, rfl⟩ | ⟨n1, v1, n2, v2, hk0, k5, rfl⟩
    · have hl0 : F.l = [] := List.length_eq_zero_iff.1 hke.symm
      have hx := hxe true (fun _ => by rw [hl0]; rfl)
      rw [hl0] at hx
      simp at hx
      simp [k2, k3, k4, k5, k9, k10, k11, hl0, hx, List.drop_append, List.take_append, drop_bytes]
    · have hx := hxe false (fun h => by cases h)
      replace hx : call cx 32 [.vsl false (paysB F.l) F.l.length] [] = some (.int .u64 (xorP (F.l.map payL) 0), []) := by
        simpa [paysB] using hx
      subst hke
      generalize xorP (F.l.map payL) 0 = z at *
      simp [k2, k3, k4, k5, k9, k10, k11, hlt', hx, hpl, htp, List.drop_append, List.take_append, drop_bytes]
    · have hx := hxe false (fun h => by cases h)
      replace hx : call cx 32 [.vsl false (paysB F.l) F.l.length] [] = some (.int .u64 (xorP (F.l.map payL) 0), []) := by
        simpa [paysB] using hx
      subst hke
      generalize xorP (F.l.map payL) 0 = z at *
      simp [k2, k3, k4, k5, k9, k10, k11, hlt', hx, hpl, htp, List.drop_append, List.take_append, drop_bytes]
end Go.Ev.S
/- CursorSays: the law answers true. -/
namespace Go.Ev.S
open Go Go.Proofs Go.Ev
theorem curEq_self (c : Cur) : curEq c c = true := (curEq_iff c c).2 rfl
set_option maxHeartbeats 8000000 in
set_option maxRecDepth 4000 in
theorem says_ev [MaxL] (s : List UInt8) (c d : Cur) (hc : CurOk c) (_ : CurOk d) (r : Rec) : call cx 3 [.str s, .agg (Enc.cells c), .agg (Enc.cells d), .agg (Enc.cells r)] [] = some (.bool true, []) := by
  have hf := first19_ev
  have hL : Enc.cells r = .int .u64 r.seq :: .int .u64 r.real :: .int .u64 r.mono :: (ofBytes r.boot.l ++ [(.vsl r.fields.nil (encs r.fields.l) r.fields.l.length)]) := Rec.cells r
  refine call_run Tryz.func3 rfl ⟨rfl, rfl⟩ ?_
  have hof := cof_ev c.seq r
  have hrof := rcof_ev c.seq r
  rw [hL] at hof hrof ⊢
  generalize hF : r.fields = F at *
  by_cases h300 : 300 < s.length
  · have h300' : (300 : Int) < (s.length : Int) := by omega
    simp [Tryz.f3, hf, h300']
  have h300' : ¬ (300 : Int) < (s.length : Int) := by omega
  by_cases h20 : 20 < F.l.length
  · have h20' : (20 : Int) < (F.l.length : Int) := by omega
    simp [Tryz.f3, hf, h300', h20']
  have h20' : ¬ (20 : Int) < (F.l.length : Int) := by omega
  simp [Tryz.f3, hf, h300', h20']
  refine Run.loopThen (fun (i : Nat) e H' => i ≤ F.l.length ∧ (∀ p ∈ F.l.take i, PrB p) ∧ look e 0 = some (.str s) ∧ look e 5 = some (.optr 0 36 0) ∧ look e 6 = some (.optr 1 36 0) ∧ look e 7 = some (.optr 2 20 0) ∧ look e 9 = some (.bool true) ∧ look e 10 = some (.int .i64 i) ∧ H' = [some (Enc.cells c), some (Enc.cells d), some (.int .u64 r.seq :: .int .u64 r.real :: .int .u64 r.mono :: (ofBytes r.boot.l ++ [(.vsl F.nil (encs F.l) F.l.length)]))]) (fun i => F.l.length - i) 0 (by simp) ?_
  rintro i e H' ⟨hi, hpb, k0, k5, k6, k7, k9, k10, rfl⟩
  by_cases hlt : i < F.l.length
  · have hlt' : (i : Int) < (F.l.length : Int) := by omega
    have hw : IntKind.i64.wrap ((i : Int) + 1) = ((i + 1 : Nat) : Int) := by rw [wrap_i64] <;> omega
    have hnn := Sl.nn hlt
    by_cases h1 : 100 < F.l[i].name.length
    · have h1' : (100 : Int) < (F.l[i].name.length : Int) := by omega
      simp [k0, k5, k6, k7, k9, k10, hlt, hlt', hnn, Pr.cells, h1']
    · have h1' : ¬ (100 : Int) < (F.l[i].name.length : Int) := by omega
      by_cases h2 : 400 < F.l[i].value.length
      · have h2' : (400 : Int) < (F.l[i].value.length : Int) := by omega
        simp [k0, k5, k6, k7, k9, k10, hlt, hlt', hnn, Pr.cells, h1', h2']
      · have h2' : ¬ (400 : Int) < (F.l[i].value.length : Int) := by omega
        simp [k0, k5, k6, k7, k9, k10, hlt, hlt', hnn, Pr.cells, h1', h2', hw]
        refine ⟨i + 1, by omega, by omega, ?_, by omega⟩
        intro p hp
        rw [List.take_succ_eq_append_getElem hlt] at hp
        rcases List.mem_append.1 hp with hp | hp
        · exact hpb p hp
        · rw [List.mem_singleton.1 hp]
          exact ⟨by omega, by omega⟩
  · have hlt' : ¬ (i : Int) < (F.l.length : Int) := by omega
    rw [List.take_of_length_le (by omega)] at hpb
    replace hof := hof (by omega) hpb
    replace hrof := hrof (by omega) hpb
    have hp := parse_ev s (by omega)
    have hrp := rparse_ev s (by omega)
    have hid := id_ev s (by omega)
    have hrid := rid_ev s (by omega)
    have hnm := number16_ev s (by omega)
    have hrnm := rnumber_ev s (by omega)
    have hsc := show_ev c hc
    have hrsc := rshow_ev c hc
    have hco := cmpc_ev c d
    have hrco := rcmp_ev c d
    have hhx := hex_ev c.boot.l c.boot.h
    have hrhx := rhex_ev c.boot.l c.boot.h
    have hcn := hc.n
    unfold isU64 at hcn
    have hfx := fixed_ev c.n.toNat (by omega)
    have hrfx := rfixed_ev c.n.toNat (by omega)
    rw [fixed_fxN (by omega)] at hfx
    have hcn2 : ((c.n.toNat : Nat) : Int) = c.n := by omega
    rw [hcn2] at hfx hrfx
    have ho1 := of19_ev (parseP s).1
    have ho2 := of19_ev c
    have ho3 := of19_ev d
    have ho4 := of19_ev (cOfP c.seq r)
    obtain ⟨v, hv⟩ : ∃ v : ID, ofBytes v.l = ofBytes ((idP s).getD zero16) := ⟨idOf s, rfl⟩
    rw [← hv] at hid hrid
    clear hv
    generalize parseP s = ps at *
    obtain ⟨px, pb⟩ := ps
    simp only at hp hrp ho1
    generalize (idP s).isSome = ib at *
    generalize (numF s).isSome = nb at *
    generalize (numF s).getD 0 = nv at *
    generalize cOfP c.seq r = co at *
    generalize showL c = w1 at *
    generalize cmpC c d = w2 at *
    generalize hexs c.boot.l = w3 at *
    generalize fxN 16 c.n.toNat = w4 at *
    have ht17 : List.take 17 (ofBytes r.boot.l ++ [(.vsl F.nil (encs F.l) F.l.length)]) = ofBytes r.boot.l ++ [(.vsl F.nil (encs F.l) F.l.length)] := List.take_of_length_le (by simp)
    have hs1 := curEq_self px
    have hs2 := curEq_self co
    simp [k0, k5, k6, k7, k9, k10, hlt', hp, hrp, hid, hrid, hnm, hrnm, ho1, ho2, ho3, ho4, hs1, hs2, hsc, hrsc, hof, hrof, hco, hrco, hhx, hrhx, hfx, hrfx, ht17]
end Go.Ev.S
/- What arguments of this program's types are: records. -/
namespace Go.Ev.S
open Go Go.Proofs Go.Ev
theorem has_Pr {n : Nat} {cs : List D} (h : HasT Tryz.prog (n + 1 + 1) 32 cs) : ∃ p : Pr, cs = Enc.cells p ∧ (p.name.length ≤ maxLen ∧ p.value.length ≤ maxLen) := by
  have h := has_struct (P := Tryz.prog) (n := n + 1) (t := 32) Tryz.underlying32 h
  simp only [HasFs] at h
  obtain ⟨a, b, rfl, -, ha, c, d, rfl, -, hc, rfl⟩ := h
  obtain ⟨x1, rfl, w1⟩ := has_str un9 ha
  obtain ⟨x2, rfl, w2⟩ := has_str un9 hc
  exact ⟨⟨x1, x2⟩, by simp [Pr.cells], w1, w2⟩
theorem has_Rec {n : Nat} {cs : List D} (h : HasT Tryz.prog (n + 3 + 1) 29 cs) : ∃ r : Rec, cs = Enc.cells r ∧ (r.Ok ∧ r.Fit) := by
  have h := has_struct (P := Tryz.prog) (n := n + 3) (t := 29) Tryz.underlying29 h
  simp only [HasFs] at h
  obtain ⟨a, b, rfl, -, ha, c, d, rfl, -, hc, e, f, rfl, -, he, g, k, rfl, -, hg, i, j, rfl, -, hi, rfl⟩ := h
  obtain ⟨x1, rfl, w1⟩ := has_u64 un24 ha
  obtain ⟨x2, rfl, w2⟩ := has_u64 un24 hc
  obtain ⟨x3, rfl, w3⟩ := has_u64 un24 he
  obtain ⟨id, rfl⟩ := has_ID hg
  obtain ⟨s, rfl, s1, s2⟩ := has_slice (α := Pr) un27 (fun l => has_Pr) hi
  exact ⟨⟨x1, x2, x3, id, s⟩, by simp [Rec.cells], ⟨w1, w2, w3⟩, s1, s2⟩
end Go.Ev.S
/- The library as it lies in this program: the shelf's layings, printed by its tool. -/
namespace Go.Proofs
open Go.Shelf
def Tryz.laysM219_ren : Go.Shelf.Ren := ⟨fun | 219 => 60 | 217 => 44 | 225 => 85 | 224 => 86 | 267 => 87 | 266 => 67 | 314 => 101 | n => n, fun | 9 => 9 | 3 => 3 | 4 => 4 | 5 => 5 | 46 => 63 | 146 => 113 | 51 => 106 | n => n, fun | 1 => 0 | n => n⟩
theorem Tryz.laysM219 : Go.Proofs.LaysM.n219 Tryz.prog Tryz.laysM219_ren := {
  mixed := by kernel_rfl
  f217 := Tryz.func44.trans (congrArg some (by kernel_rfl))
  f219 := Tryz.func60.trans (congrArg some (by kernel_rfl))
  f224 := Tryz.func86.trans (congrArg some (by kernel_rfl))
  f225 := Tryz.func85.trans (congrArg some (by kernel_rfl))
  f266 := Tryz.func67.trans (congrArg some (by kernel_rfl))
  f267 := Tryz.func87.trans (congrArg some (by kernel_rfl))
  f314 := Tryz.func101.trans (congrArg some (by kernel_rfl))
  t3 := Tryz.underlying3
  a3 := Tryz.isAgg3
  z3 := Tryz.sizeOf3
  v3 := Tryz.zeroValue3
  t4 := Tryz.underlying4
  a4 := Tryz.isAgg4
  z4 := Tryz.sizeOf4
  v4 := Tryz.zeroValue4
  t5 := Tryz.underlying5
  a5 := Tryz.isAgg5
  z5 := Tryz.sizeOf5
  v5 := Tryz.zeroValue5
  t9 := Tryz.underlying9
  a9 := Tryz.isAgg9
  z9 := Tryz.sizeOf9
  v9 := Tryz.zeroValue9
  t46 := Tryz.underlying63
  a46 := Tryz.isAgg63
  z46 := Tryz.sizeOf63
  v46 := Tryz.zeroValue63
  t51 := Tryz.underlying106
  a51 := Tryz.isAgg106
  z51 := Tryz.sizeOf106
  v51 := Tryz.zeroValue106
  t146 := Tryz.underlying113
  a146 := Tryz.isAgg113
  z146 := Tryz.sizeOf113
  v146 := Tryz.zeroValue113
  g1 := by kernel_rfl
  i3 := by kernel_rfl
  i4 := by kernel_rfl
  i5 := by kernel_rfl
  i9 := by kernel_rfl
  i46 := by kernel_rfl
  i51 := by kernel_rfl
  i146 := by kernel_rfl
  m1 := by kernel_rfl
  s1_3 := fun w h => Go.Proofs.cell_of_shapedOpen_int (zero := #[.int .i64 0]) (t := 3) h (of_decide_eq_true (by kernel_rfl)) (by kernel_rfl) rfl (by kernel_rfl) (by kernel_rfl) Tryz.underlying3 }
end Go.Proofs
/- A law whose rows list variables: the world is of the program's shape, too. -/
namespace Go.Ev
open Go Go.Proofs Go.ChangeShapes Go.WideShapes Go.ChangeAt Go.RowKit
theorem handed_shaped {H : Type} {enc : TypeId × Value → H} {a : Assume} {C : Checked} {os : Os} {f : FuncId} {fn : Func} {s : ChangeSpec} {conds : List PathCond} {apart fresh handsOn again : Bool} {X : World → Array Value → Prop}
    (hX : ∀ (w w' : World) (args : Array Value), w.heap = w'.heap → X w args → X w' args)
    (own : ownKnob C.prog.godebug = none) (started : os.Started) (noInit : C.prog.inits.idxOf? f = none) (hfn : C.prog.funcs[f]? = some fn)
    (witness : ∃ (w : World) (tape : Tape) (i : Input), w.os = os ∧ (w.forCall tape i).Shaped C.prog ∧ i.vars = [] ∧ Input.okWide C.prog (w.forCall tape i) .any w.heap.size f i ∧
      ((s.pre enc C.prog fn conds apart (w.forCall tape i).memory i.args ∧ X (w.forCall tape i).memory i.args) ∧ sizedMet enc C.prog fn (OpenSpec.ofChange s) apart (w.forCall tape i).memory i.args) ∧ a.holds C.prog (lone (Frame.enter C.prog f i.args .normal) [] (w.forCall tape i)))
    (contract : ∀ (W : World) (base : Nat) (args : Array Value) (ds gs : List (DataW H)) (before : List MemPlace),
      (∀ (j : Nat) t v, fn.params[j]? = some t → args[j]? = some v → Value.okWide C.prog W .any base t v) →
      DataW.Whole enc C.prog fn.params.toList s.vars apart W args.toList ds gs before → X W args → W.ShapedOpen C.prog →
      Calls C.prog f args W fun e W' => ∃ v, e = .returned v ∧ s.post enc C.prog fn apart fresh handsOn again W args v W') :
    ReturnsInHanded a C os f .any (fun w args => (s.pre enc C.prog fn conds apart w args ∧ X w args) ∧ sizedMet enc C.prog fn (OpenSpec.ofChange s) apart w args) (s.post enc C.prog fn apart fresh handsOn again) := by
  refine returnsInHanded_of_calls own started noInit witness ?_
  intro w tape i _ hsh _ hok hpre _
  obtain ⟨_, _, _, fn', hfn', _, _, _, _, hval⟩ := hok
  have e : fn' = fn := Option.some.inj (hfn'.symm.trans hfn)
  subst e
  obtain ⟨⟨⟨ds, gs, before, hw, hc⟩, hx⟩, hz⟩ := hpre
  have hw' := DataW.Whole.of_heap (w' := w.forCall tape i) (by rfl) hw
  refine (contract (w.forCall tape i) w.heap.size i.args ds gs before hval hw' (hX _ _ _ (by rfl) hx) hsh).mono fun e W' ⟨v, he, hp⟩ => ?_
  subst he
  exact ChangeSpec.post_blind hp
end Go.Ev
