import Derived.Test.YtaponndjgdfkbaaDoorC4
import Derived.Handed
import Derived.LaidMore
/- Decimal digits into a row of bytes. -/
namespace Go.Ev.S
open Go Go.Proofs Go.Ev Go.Lib
theorem ofVal_int (k : IntKind) (n : Int) : ofVal (.int k n) = some (.int k n) := rfl
theorem set_bytes {l : List UInt8} {i : Nat} (x : UInt8) (h : i < l.length) : setRange (ofBytes l) i [.int .u8 (x.toNat : Int)] = ofBytes (l.set i x) := by
  rw [setRange, List.set_eq_take_append_cons_drop, if_pos h]
  simp [ofBytes, List.map_take, List.map_drop]
theorem set_arr {d : Array UInt8} {tl : List UInt8} {i : Nat} (x : UInt8) (h : i < d.size) : (d.toList ++ tl).set i x = (d.setIfInBounds i x).toList ++ tl := by
  rw [List.set_append_left _ _ (by simpa using h)]
  simp
def smL : List UInt8 := smalls.data.toList
theorem sm_at {k : Nat} (h : k < 200) : smL[k]? = some (sm k) := by
  have hl : smL.length = 200 := by decide +kernel
  unfold sm
  rw [List.getD_eq_getElem?_getD]
  have : smL[k]? = some (smL[k]'(by omega)) := List.getElem?_eq_getElem (by omega)
  rw [this]
  show _ = some ((smL[k]?).getD 0)
  rw [this]
  rfl
theorem wk {nd j : Nat} (a : Int) (h : (nd : Int) - a = (j : Int)) (hj : j ≤ 24) : IntKind.i64.wrap ((nd : Int) - a) = (j : Int) := by
  rw [h, wrap_i64]
  omega
/-- Eight digits, by twos. -/
structure Fb8 (v p q x6 x7 y8 y9 y10 y11 t8 t9 t10 t11 z8 z9 z10 z11 : Nat) : Prop where
  a1 : (v : Int).tmod 100000000 = (p : Int)
  a2 : (v : Int).tdiv 100000000 = (q : Int)
  a3 : (p : Int).tdiv 10000 = (x6 : Int)
  a4 : (p : Int).tmod 10000 = (x7 : Int)
  a5 : (x7 : Int).tdiv 100 = (y8 : Int)
  a6 : (x7 : Int).tmod 100 = (y9 : Int)
  a7 : (x6 : Int).tdiv 100 = (y10 : Int)
  a8 : (x6 : Int).tmod 100 = (y11 : Int)
  w1 : IntKind.u32.wrap (p : Int) = (p : Int)
  w2 : IntKind.u64.wrap (q : Int) = (q : Int)
  w3 : IntKind.u32.wrap (x6 : Int) = (x6 : Int)
  v8 : IntKind.u32.wrap (y8 : Int) = (y8 : Int)
  v10 : IntKind.u32.wrap (y10 : Int) = (y10 : Int)
  u8 : IntKind.u32.wrap ((y8 : Int) * 2) = (t8 : Int)
  u9 : IntKind.u32.wrap ((y9 : Int) * 2) = (t9 : Int)
  u10 : IntKind.u32.wrap ((y10 : Int) * 2) = (t10 : Int)
  u11 : IntKind.u32.wrap ((y11 : Int) * 2) = (t11 : Int)
  w8 : IntKind.u32.wrap ((t8 : Int) + 1) = (z8 : Int)
  w9 : IntKind.u32.wrap ((t9 : Int) + 1) = (z9 : Int)
  w10 : IntKind.u32.wrap ((t10 : Int) + 1) = (z10 : Int)
  w11 : IntKind.u32.wrap ((t11 : Int) + 1) = (z11 : Int)
  s1 : smL[z9]? = some (sm (v % 100 * 2 + 1))
  s2 : smL[t9]? = some (sm (v % 100 * 2))
  s3 : smL[z8]? = some (sm (v / 100 % 100 * 2 + 1))
  s4 : smL[t8]? = some (sm (v / 100 % 100 * 2))
  s5 : smL[z11]? = some (sm (v / 100 / 100 % 100 * 2 + 1))
  s6 : smL[t11]? = some (sm (v / 100 / 100 % 100 * 2))
  s7 : smL[z10]? = some (sm (v / 100 / 100 / 100 % 100 * 2 + 1))
  s8 : smL[t10]? = some (sm (v / 100 / 100 / 100 % 100 * 2))
  fq : v / 100 / 100 / 100 / 100 = q
theorem dv (a b c : Nat) (h : c = a / b) : (a : Int).tdiv (b : Int) = (c : Int) := by rw [h]; exact (Int.ofNat_tdiv a b).symm
theorem md (a b c : Nat) (h : c = a % b) : (a : Int).tmod (b : Int) = (c : Int) := by rw [h]; exact (Int.ofNat_tmod a b).symm
theorem wu32 {a : Int} {c : Nat} (h : a = (c : Int)) (hc : c < 4294967296) : IntKind.u32.wrap a = (c : Int) := by rw [h, wrap_u32]; omega
theorem fb8 (v : Nat) (hv : v < 18446744073709551616) : ∃ p q x6 x7 y8 y9 y10 y11 t8 t9 t10 t11 z8 z9 z10 z11, Fb8 v p q x6 x7 y8 y9 y10 y11 t8 t9 t10 t11 z8 z9 z10 z11 := by
  have w2 : IntKind.u64.wrap ((v / 100000000 : Nat) : Int) = ((v / 100000000 : Nat) : Int) := by rw [wrap_u64]; omega
  clear hv
  obtain ⟨p, hp⟩ : ∃ p, p = v % 100000000 := ⟨_, rfl⟩
  have f9 : v % 100 = p % 10000 % 100 := by omega
  have f8 : v / 100 % 100 = p % 10000 / 100 := by omega
  have f11 : v / 100 / 100 % 100 = p / 10000 % 100 := by omega
  have f10 : v / 100 / 100 / 100 % 100 = p / 10000 / 100 := by omega
  have fq : v / 100 / 100 / 100 / 100 = v / 100000000 := by omega
  have bp : p < 100000000 := by omega
  refine ⟨p, v / 100000000, p / 10000, p % 10000, p % 10000 / 100, p % 10000 % 100, p / 10000 / 100, p / 10000 % 100, p % 10000 / 100 * 2, p % 10000 % 100 * 2, p / 10000 / 100 * 2, p / 10000 % 100 * 2, p % 10000 / 100 * 2 + 1, p % 10000 % 100 * 2 + 1, p / 10000 / 100 * 2 + 1, p / 10000 % 100 * 2 + 1, ?_⟩
  have b6 : p / 10000 < 10000 := by omega
  have b7 : p % 10000 < 10000 := by omega
  have b8 : p % 10000 / 100 < 100 := by omega
  have b9 : p % 10000 % 100 < 100 := by omega
  have b10 : p / 10000 / 100 < 100 := by omega
  have b11 : p / 10000 % 100 < 100 := by omega
  constructor
  case a1 => exact md v 100000000 p hp
  case a2 => exact dv v 100000000 _ rfl
  case a3 => exact dv p 10000 _ rfl
  case a4 => exact md p 10000 _ rfl
  case a5 => exact dv _ 100 _ rfl
  case a6 => exact md _ 100 _ rfl
  case a7 => exact dv _ 100 _ rfl
  case a8 => exact md _ 100 _ rfl
  case w1 => exact wu32 rfl (by omega)
  case w2 => exact w2
  case w3 => exact wu32 rfl (by omega)
  case v8 => exact wu32 rfl (by omega)
  case v10 => exact wu32 rfl (by omega)
  case u8 => exact wu32 (by omega) (by omega)
  case u9 => exact wu32 (by omega) (by omega)
  case u10 => exact wu32 (by omega) (by omega)
  case u11 => exact wu32 (by omega) (by omega)
  case w8 => exact wu32 (by omega) (by omega)
  case w9 => exact wu32 (by omega) (by omega)
  case w10 => exact wu32 (by omega) (by omega)
  case w11 => exact wu32 (by omega) (by omega)
  case s1 => rw [f9]; exact sm_at (by omega)
  case s2 => rw [f9]; exact sm_at (by omega)
  case s3 => rw [f8]; exact sm_at (by omega)
  case s4 => rw [f8]; exact sm_at (by omega)
  case s5 => rw [f11]; exact sm_at (by omega)
  case s6 => rw [f11]; exact sm_at (by omega)
  case s7 => rw [f10]; exact sm_at (by omega)
  case s8 => rw [f10]; exact sm_at (by omega)
  case fq => exact fq
/-- Four digits, two digits. -/
structure Fb4 (v q x7 y8 y9 t8 t9 z8 z9 : Nat) : Prop where
  a1 : (v : Int).tmod 10000 = (x7 : Int)
  a2 : (v : Int).tdiv 10000 = (q : Int)
  a5 : (x7 : Int).tdiv 100 = (y8 : Int)
  a6 : (x7 : Int).tmod 100 = (y9 : Int)
  w2 : IntKind.u32.wrap (q : Int) = (q : Int)
  v8 : IntKind.u32.wrap (y8 : Int) = (y8 : Int)
  u8 : IntKind.u32.wrap ((y8 : Int) * 2) = (t8 : Int)
  u9 : IntKind.u32.wrap ((y9 : Int) * 2) = (t9 : Int)
  w8 : IntKind.u32.wrap ((t8 : Int) + 1) = (z8 : Int)
  w9 : IntKind.u32.wrap ((t9 : Int) + 1) = (z9 : Int)
  s1 : smL[z9]? = some (sm (v % 100 * 2 + 1))
  s2 : smL[t9]? = some (sm (v % 100 * 2))
  s3 : smL[z8]? = some (sm (v / 100 % 100 * 2 + 1))
  s4 : smL[t8]? = some (sm (v / 100 % 100 * 2))
  fq : v / 100 / 100 = q
theorem fb4 (v : Nat) (hv : v < 100000000) : ∃ q x7 y8 y9 t8 t9 z8 z9, Fb4 v q x7 y8 y9 t8 t9 z8 z9 := by
  have f9 : v % 100 = v % 10000 % 100 := by omega
  have f8 : v / 100 % 100 = v % 10000 / 100 := by omega
  have fq : v / 100 / 100 = v / 10000 := by omega
  refine ⟨v / 10000, v % 10000, v % 10000 / 100, v % 10000 % 100, v % 10000 / 100 * 2, v % 10000 % 100 * 2, v % 10000 / 100 * 2 + 1, v % 10000 % 100 * 2 + 1, ?_⟩
  have b8 : v % 10000 / 100 < 100 := by omega
  have b9 : v % 10000 % 100 < 100 := by omega
  constructor
  case a1 => exact md v 10000 _ rfl
  case a2 => exact dv v 10000 _ rfl
  case a5 => exact dv _ 100 _ rfl
  case a6 => exact md _ 100 _ rfl
  case w2 => exact wu32 rfl (by omega)
  case v8 => exact wu32 rfl (by omega)
  case u8 => exact wu32 (by omega) (by omega)
  case u9 => exact wu32 (by omega) (by omega)
  case w8 => exact wu32 (by omega) (by omega)
  case w9 => exact wu32 (by omega) (by omega)
  case s1 => rw [f9]; exact sm_at (by omega)
  case s2 => rw [f9]; exact sm_at (by omega)
  case s3 => rw [f8]; exact sm_at (by omega)
  case s4 => rw [f8]; exact sm_at (by omega)
  case fq => exact fq
structure Fb2 (v q y9 t9 z9 : Nat) : Prop where
  a1 : (v : Int).tmod 100 = (y9 : Int)
  a2 : (v : Int).tdiv 100 = (q : Int)
  w2 : IntKind.u32.wrap (q : Int) = (q : Int)
  u9 : IntKind.u32.wrap ((y9 : Int) * 2) = (t9 : Int)
  w9 : IntKind.u32.wrap ((t9 : Int) + 1) = (z9 : Int)
  s1 : smL[z9]? = some (sm (v % 100 * 2 + 1))
  s2 : smL[t9]? = some (sm (v % 100 * 2))
  fq : v / 100 = q
theorem fb2 (v : Nat) (hv : v < 100000000) : ∃ q y9 t9 z9, Fb2 v q y9 t9 z9 := by
  refine ⟨v / 100, v % 100, v % 100 * 2, v % 100 * 2 + 1, ?_⟩
  constructor
  case a1 => exact md v 100 _ rfl
  case a2 => exact dv v 100 _ rfl
  case w2 => exact wu32 rfl (by omega)
  case u9 => exact wu32 (by omega) (by omega)
  case w9 => exact wu32 (by omega) (by omega)
  case s1 => exact sm_at (by omega)
  case s2 => exact sm_at (by omega)
  case fq => rfl
theorem fb1 (v : Nat) (hv : v < 10) : IntKind.u32.wrap (48 + (v : Int)) = ((UInt8.ofNat (48 + v)).toNat : Int) ∧ IntKind.u8.wrap ((UInt8.ofNat (48 + v)).toNat : Int) = ((UInt8.ofNat (48 + v)).toNat : Int) := by
  have h : (UInt8.ofNat (48 + v)).toNat = 48 + v := UInt8.toNat_ofNat_of_lt' (show 48 + v < 256 by omega)
  rw [h, wrap_u32 (by omega), wrap_u8 (by omega)]
  omega
theorem lt8 {n u nd v : Nat} {d : Array UInt8} (h : FmtInv n u nd v d) (h8 : nd < 8) : v < 100000000 :=
  Nat.lt_of_lt_of_le h.small (Nat.le_trans (Nat.pow_le_pow_right (by decide) (show nd ≤ 7 by omega)) (by decide))
set_option maxHeartbeats 4000000 in
theorem fb10_ev [MaxL] (n u : Nat) (hn : n ≤ 24) (hu : u < 10 ^ n) (hu64 : u < 18446744073709551616) (tl : List UInt8) (htl : tl.length = 24 - n) (d : Array UInt8) (hd : d.size = n) (H : Heap) (b : Nat) (hb : b < H.length)
    (hcl : H.all (blkClosed H.length) = true) (hg : H[b] = some (ofBytes (d.toList ++ tl))) :
    ∃ v' dk, FmtInv n u 0 v' dk ∧ call cx 91 [.osl b 24 0 n 1, .int .u64 u] H = some (.tup [], H.set b (some (ofBytes (dk.toList ++ tl)))) := by
  suffices hs : ∃ r, call cx 91 [.osl b 24 0 n 1, .int .u64 u] H = some r ∧ ∃ v' dk, FmtInv n u 0 v' dk ∧ r = (.tup [], H.set b (some (ofBytes (dk.toList ++ tl)))) by
    obtain ⟨r, h1, v', dk, h2, rfl⟩ := hs
    exact ⟨v', dk, h2, h1⟩
  have hset : H.set b (some (ofBytes (d.toList ++ tl))) = H := by rw [← hg, List.set_getElem_self]
  refine call_runE (fun r => ∃ v' dk, FmtInv n u 0 v' dk ∧ r = (D.tup [], H.set b (some (ofBytes (dk.toList ++ tl))))) Tryd.func91 rfl ⟨rfl, rfl⟩ ?_
  unfold Tryd.f91
  generalize hS : Value.string _ = S
  have hv : ofVal S = some (.str smL) := by rw [← hS]; kernel_rfl
  clear hS
  simp
  refine Run.loopThen (fun (nd : Nat) e H' => ∃ v dk, FmtInv n u nd v dk ∧ H' = H.set b (some (ofBytes (dk.toList ++ tl))) ∧ look e 0 = some (.osl b 24 0 n 1) ∧ look e 1 = some (.int .u64 (v : Nat)) ∧ look e 4 = some (.int .i64 nd)) (fun nd => nd) n ?_ ?_
  · exact ⟨u, d, by rw [← hd]; exact FmtInv.start d u (by rw [hd]; exact hu), hset.symm, by simp, by simp, by simp⟩
  rintro nd e H' ⟨v, dk, hi, rfl, h0, h1, h4⟩
  have hv64 : v < 18446744073709551616 := by
    have := hi.rest
    have := Nat.div_le_self u (10 ^ (n - nd))
    omega
  have hle := hi.le
  have hsz := hi.size
  have hlen : ∀ (a : Array UInt8), a.size = n → (a.toList ++ tl).length = 24 := fun a ha => by simp [ha, htl]; omega
  have fin : ∀ (a : Array UInt8) (v' : Nat), FmtInv n u 0 v' a → ∃ x y, ((∀ z, z ∈ (H.set b (some (ofBytes (a.toList ++ tl)))).take H.length → blkClosed H.length z = true) ∧ D.tup [] = x ∧ (H.set b (some (ofBytes (a.toList ++ tl)))).take H.length = y) ∧
      ∃ v' dk, FmtInv n u 0 v' dk ∧ x = D.tup [] ∧ y = H.set b (some (ofBytes (dk.toList ++ tl))) := fun a v' ha => by
    refine ⟨_, _, ⟨fun z hz => ?_, rfl, rfl⟩, v', a, ha, rfl, List.take_of_length_le (by simp)⟩
    have hz' := List.mem_of_mem_take hz
    rcases List.mem_or_eq_of_mem_set hz' with h | rfl
    · exact List.all_eq_true.1 hcl z h
    · simp [blkClosed]
  have hnn : n + (24 - n) = 24 := by omega
  have sb : ∀ (a : Array UInt8) (j : Nat) (x : UInt8), a.size = n → j < n → setRange (ofBytes (a.toList ++ tl)) j [.int .u8 (x.toNat : Int)] = ofBytes ((a.setIfInBounds j x).toList ++ tl) := fun a j x ha hj => by
    rw [set_bytes x (by simp [ha, htl]; omega), set_arr x (by omega)]
  by_cases h8 : 8 ≤ nd
  · obtain ⟨m, hm⟩ : ∃ m, nd = m + 8 := ⟨nd - 8, by omega⟩
    have i1 := FmtInv.step2' (k := m + 6) (by rw [hm] at hi; exact hi)
    have i2 := FmtInv.step2' (k := m + 4) i1
    have i3 := FmtInv.step2' (k := m + 2) i2
    have i4 := FmtInv.step2' (k := m) i3
    obtain ⟨j1, hj1⟩ : ∃ y, y = m + 7 := ⟨_, rfl⟩
    obtain ⟨j2, hj2⟩ : ∃ y, y = m + 6 := ⟨_, rfl⟩
    obtain ⟨j3, hj3⟩ : ∃ y, y = m + 5 := ⟨_, rfl⟩
    obtain ⟨j4, hj4⟩ : ∃ y, y = m + 4 := ⟨_, rfl⟩
    obtain ⟨j5, hj5⟩ : ∃ y, y = m + 3 := ⟨_, rfl⟩
    obtain ⟨j6, hj6⟩ : ∃ y, y = m + 2 := ⟨_, rfl⟩
    obtain ⟨j7, hj7⟩ : ∃ y, y = m + 1 := ⟨_, rfl⟩
    rw [show m + 6 + 1 = j1 by omega, show m + 4 + 1 = j3 by omega, show m + 2 + 1 = j5 by omega, ← hj2, ← hj4, ← hj6, ← hj7] at i4
    have e1 : (nd : Int) - 1 = ((j1 : Nat) : Int) := by omega
    have e2 : (nd : Int) - 2 = ((j2 : Nat) : Int) := by omega
    have e3 : (nd : Int) - 3 = ((j3 : Nat) : Int) := by omega
    have e4 : (nd : Int) - 4 = ((j4 : Nat) : Int) := by omega
    have e5 : (nd : Int) - 5 = ((j5 : Nat) : Int) := by omega
    have e6 : (nd : Int) - 6 = ((j6 : Nat) : Int) := by omega
    have e7 : (nd : Int) - 7 = ((j7 : Nat) : Int) := by omega
    have e8 : (nd : Int) - 8 = ((m : Nat) : Int) := by omega
    have h8' : (8 : Int) ≤ (nd : Int) := by omega
    have hbd : ∀ j : Nat, j < nd → ((j : Int) < (n : Int)) ∧ j < n ∧ j < 24 := fun j hj => by omega
    have l1 := hbd j1 (by omega)
    have l2 := hbd j2 (by omega)
    have l3 := hbd j3 (by omega)
    have l4 := hbd j4 (by omega)
    have l5 := hbd j5 (by omega)
    have l6 := hbd j6 (by omega)
    have l7 := hbd j7 (by omega)
    have l8 := hbd m (by omega)
    have hmn : m < nd := by omega
    clear hbd
    have k1 := wk 1 e1 (Nat.le_of_lt l1.2.2)
    have k2 := wk 2 e2 (Nat.le_of_lt l2.2.2)
    have k3 := wk 3 e3 (Nat.le_of_lt l3.2.2)
    have k4 := wk 4 e4 (Nat.le_of_lt l4.2.2)
    have k5 := wk 5 e5 (Nat.le_of_lt l5.2.2)
    have k6 := wk 6 e6 (Nat.le_of_lt l6.2.2)
    have k7 := wk 7 e7 (Nat.le_of_lt l7.2.2)
    have k8 := wk 8 e8 (Nat.le_of_lt l8.2.2)
    clear e1 e2 e3 e4 e5 e6 e7 e8
    obtain ⟨p, q, x6, x7, y8, y9, y10, y11, t8, t9, t10, t11, z8, z9, z10, z11, ⟨a1, a2, a3, a4, a5, a6, a7, a8, w1, w2, w3, v8, v10, u8, u9, u10, u11, w8, w9, w10, w11, s1, s2, s3, s4, s5, s6, s7, s8, fq⟩⟩ := fb8 v hv64
    rw [fq] at i4
    clear i1 i2 i3 hi hv64 fq hu64 hu
    generalize sm (v % 100 * 2 + 1) = c1 at *
    generalize sm (v % 100 * 2) = c2 at *
    generalize sm (v / 100 % 100 * 2 + 1) = c3 at *
    generalize sm (v / 100 % 100 * 2) = c4 at *
    generalize sm (v / 100 / 100 % 100 * 2 + 1) = c5 at *
    generalize sm (v / 100 / 100 % 100 * 2) = c6 at *
    generalize sm (v / 100 / 100 / 100 % 100 * 2 + 1) = c7 at *
    generalize sm (v / 100 / 100 / 100 % 100 * 2) = c8 at *
    simp [-ofVal, ofVal_int, h0, h1, h4, hv, a1, a2, a3, a4, a5, a6, a7, a8, w1, w2, w3, w8, w9, w10, w11, u8, u9, u10, u11, v8, v10, k1, k2, k3, k4, k5, k6, k7, k8, s1, s2, s3, s4, s5, s6, s7, s8, h8', hb, l1, l2, l3, l4, l5, l6, l7, l8, hsz, htl, hnn, sb, Nat.succ_le_of_lt]
    exact ⟨m, hmn, q, _, i4, by simp, rfl, rfl⟩
  · have h8' : ¬ (8 : Int) ≤ (nd : Int) := by omega
    have q0 : v < 100000000 := lt8 hi (by omega)
    have wv : IntKind.u32.wrap (v : Int) = (v : Int) := wu32 rfl (by omega)
    clear hv64 hu64 hu
    by_cases h4' : 4 ≤ nd
    · obtain ⟨m, hm⟩ : ∃ m, nd = m + 4 := ⟨nd - 4, by omega⟩
      have i1 := FmtInv.step2' (k := m + 2) (by rw [hm] at hi; exact hi)
      have i2 := FmtInv.step2' (k := m) i1
      obtain ⟨j1, hj1⟩ : ∃ y, y = m + 3 := ⟨_, rfl⟩
      obtain ⟨j2, hj2⟩ : ∃ y, y = m + 2 := ⟨_, rfl⟩
      obtain ⟨j3, hj3⟩ : ∃ y, y = m + 1 := ⟨_, rfl⟩
      rw [show m + 2 + 1 = j1 by omega, ← hj2, ← hj3] at i2
      have g4 : (4 : Int) ≤ (nd : Int) := by omega
      have e1 : (nd : Int) - 1 = (j1 : Int) := by omega
      have e2 : (nd : Int) - 2 = (j2 : Int) := by omega
      have e3 : (nd : Int) - 3 = (j3 : Int) := by omega
      have e4 : (nd : Int) - 4 = (m : Int) := by omega
      have hbd : ∀ j : Nat, j < nd → ((j : Int) < (n : Int)) ∧ j < n ∧ j < 24 := fun j hj => by omega
      have l1 := hbd j1 (by omega)
      have l2 := hbd j2 (by omega)
      have l3 := hbd j3 (by omega)
      have l4 := hbd m (by omega)
      have hm4 : m < 4 := by omega
      have k1 := wk 1 e1 (Nat.le_of_lt l1.2.2)
      have k2 := wk 2 e2 (Nat.le_of_lt l2.2.2)
      have k3 := wk 3 e3 (Nat.le_of_lt l3.2.2)
      have k4 := wk 4 e4 (Nat.le_of_lt l4.2.2)
      clear hbd e1 e2 e3 e4
      obtain ⟨q, x7, y8, y9, t8, t9, z8, z9, ⟨a1, a2, a5, a6, w2, v8, u8, u9, w8, w9, s1, s2, s3, s4, fq⟩⟩ := fb4 v q0
      rw [fq] at i2
      clear i1 hi fq
      generalize sm (v % 100 * 2 + 1) = c1 at *
      generalize sm (v % 100 * 2) = c2 at *
      generalize sm (v / 100 % 100 * 2 + 1) = c3 at *
      generalize sm (v / 100 % 100 * 2) = c4 at *
      simp [-Array.toList_setIfInBounds, -ofVal, ofVal_int, h0, h1, h4, hv, h8', g4, wv, a1, a2, a5, a6, w2, v8, u8, u9, w8, w9, k1, k2, k3, k4, s1, s2, s3, s4, hb, l1, l2, l3, l4, hsz, htl, hnn, sb, Nat.succ_le_of_lt]
      clear a1 a2 a5 a6 w2 v8 u8 u9 w8 w9 s1 s2 s3 s4 k1 k2 k3 k4 wv
      obtain ⟨dk1, hdk1⟩ : ∃ a, a = (((dk.setIfInBounds j1 c1).setIfInBounds j2 c2).setIfInBounds j3 c3).setIfInBounds m c4 := ⟨_, rfl⟩
      rw [← hdk1] at i2 ⊢
      clear hdk1
      by_cases x2 : 2 ≤ m
      · obtain ⟨m2, hm2⟩ : ∃ mm, m = mm + 2 := ⟨m - 2, by omega⟩
        have i6 := FmtInv.step2' (k := m2) (by rw [hm2] at i2; exact i2)
        obtain ⟨p1, hp1⟩ : ∃ y, y = m2 + 1 := ⟨_, rfl⟩
        have g2 : (2 : Int) ≤ (m : Int) := by omega
        have e1 : (m : Int) - 1 = (p1 : Int) := by omega
        have e2 : (m : Int) - 2 = (m2 : Int) := by omega
        have hle2 := i2.le
        have r1 : (p1 : Int) < (n : Int) ∧ p1 < n ∧ p1 < 24 := by omega
        have r2 : (m2 : Int) < (n : Int) ∧ m2 < n ∧ m2 < 24 := by omega
        have m2lt : m2 < 2 := by omega
        have q1 : q < 100000000 := lt8 i2 (by omega)
        rw [← hp1] at i6
        have j1' := wk 1 e1 (Nat.le_of_lt r1.2.2)
        have j2' := wk 2 e2 (Nat.le_of_lt r2.2.2)
        clear e1 e2
        obtain ⟨v2, y9, t9, z9, ⟨a1, a2, w2, u9, w9, s1, s2, fq⟩⟩ := fb2 q q1
        rw [fq] at i6
        generalize sm (q % 100 * 2 + 1) = c5 at *
        generalize sm (q % 100 * 2) = c6 at *
        simp [-Array.toList_setIfInBounds, -ofVal, ofVal_int, hv, g2, r1, r2, j1', j2', a1, a2, w2, u9, w9, s1, s2, hb, i2.size, htl, hnn, sb, Nat.succ_le_of_lt]
        clear a1 a2 w2 u9 w9 s1 s2 j1' j2' fq
        obtain ⟨dk2, hdk2⟩ : ∃ a, a = (dk1.setIfInBounds p1 c5).setIfInBounds m2 c6 := ⟨_, rfl⟩
        rw [← hdk2] at i6 ⊢
        clear hdk2
        by_cases y1 : m2 = 1
        · have z1 : v2 < 10 := by have := i6.small; rw [y1] at this; simpa using this
          have i5 := FmtInv.step1 (by rw [y1] at i6; exact i6)
          obtain ⟨d1, d2⟩ := fb1 v2 z1
          have g0 : (0 : Int) < (m2 : Int) := by omega
          have gn : 0 < m2 := by omega
          have g1 : 0 < n := by have := i6.le; omega
          generalize UInt8.ofNat (48 + v2) = c9 at *
          simp [-Array.toList_setIfInBounds, -ofVal, -blkClosed, ofVal_int, gn, g1, d1, d2, hb, i6.size, htl, hnn, sb]
          exact fin _ _ i5
        · have z0 : m2 = 0 := by omega
          rw [z0] at i6
          simp [-Array.toList_setIfInBounds, -ofVal, -blkClosed, z0]
          exact fin _ _ i6
      · have g2 : ¬ (2 : Int) ≤ (m : Int) := by omega
        simp [-Array.toList_setIfInBounds, -ofVal, ofVal_int, g2]
        by_cases y1 : m = 1
        · have z1 : q < 10 := by have := i2.small; rw [y1] at this; simpa using this
          have i5 := FmtInv.step1 (by rw [y1] at i2; exact i2)
          obtain ⟨d1, d2⟩ := fb1 q z1
          have g0 : (0 : Int) < (m : Int) := by omega
          have gn : 0 < m := by omega
          have g1 : 0 < n := by have := i2.le; omega
          generalize UInt8.ofNat (48 + q) = c9 at *
          simp [-Array.toList_setIfInBounds, -ofVal, -blkClosed, ofVal_int, gn, g1, d1, d2, hb, i2.size, htl, hnn, sb]
          exact fin _ _ i5
        · have z0 : m = 0 := by omega
          rw [z0] at i2
          simp [-Array.toList_setIfInBounds, -ofVal, -blkClosed, z0]
          exact fin _ _ i2
    · have g4 : ¬ (4 : Int) ≤ (nd : Int) := by omega
      simp [-ofVal, ofVal_int, h0, h1, h4, h8', g4, wv]
      clear wv
      by_cases x2 : 2 ≤ nd
      · obtain ⟨m2, hm2⟩ : ∃ mm, nd = mm + 2 := ⟨nd - 2, by omega⟩
        have i6 := FmtInv.step2' (k := m2) (by rw [hm2] at hi; exact hi)
        obtain ⟨p1, hp1⟩ : ∃ y, y = m2 + 1 := ⟨_, rfl⟩
        have g2 : (2 : Int) ≤ (nd : Int) := by omega
        have e1 : (nd : Int) - 1 = (p1 : Int) := by omega
        have e2 : (nd : Int) - 2 = (m2 : Int) := by omega
        have hle2 := hi.le
        have r1 : (p1 : Int) < (n : Int) ∧ p1 < n ∧ p1 < 24 := by omega
        have r2 : (m2 : Int) < (n : Int) ∧ m2 < n ∧ m2 < 24 := by omega
        have m2lt : m2 < 2 := by omega
        have q1 : v < 100000000 := lt8 hi (by omega)
        rw [← hp1] at i6
        have j1' := wk 1 e1 (Nat.le_of_lt r1.2.2)
        have j2' := wk 2 e2 (Nat.le_of_lt r2.2.2)
        clear e1 e2
        obtain ⟨v2, y9, t9, z9, ⟨a1, a2, w2, u9, w9, s1, s2, fq⟩⟩ := fb2 v q1
        rw [fq] at i6
        generalize sm (v % 100 * 2 + 1) = c5 at *
        generalize sm (v % 100 * 2) = c6 at *
        simp [-Array.toList_setIfInBounds, -ofVal, ofVal_int, hv, g2, r1, r2, j1', j2', a1, a2, w2, u9, w9, s1, s2, hb, hi.size, htl, hnn, sb, Nat.succ_le_of_lt]
        clear a1 a2 w2 u9 w9 s1 s2 j1' j2' fq
        obtain ⟨dk2, hdk2⟩ : ∃ a, a = (dk.setIfInBounds p1 c5).setIfInBounds m2 c6 := ⟨_, rfl⟩
        rw [← hdk2] at i6 ⊢
        clear hdk2
        by_cases y1 : m2 = 1
        · have z1 : v2 < 10 := by have := i6.small; rw [y1] at this; simpa using this
          have i5 := FmtInv.step1 (by rw [y1] at i6; exact i6)
          obtain ⟨d1, d2⟩ := fb1 v2 z1
          have g0 : (0 : Int) < (m2 : Int) := by omega
          have gn : 0 < m2 := by omega
          have g1 : 0 < n := by have := i6.le; omega
          generalize UInt8.ofNat (48 + v2) = c9 at *
          simp [-Array.toList_setIfInBounds, -ofVal, -blkClosed, ofVal_int, gn, g1, d1, d2, hb, i6.size, htl, hnn, sb]
          exact fin _ _ i5
        · have z0 : m2 = 0 := by omega
          rw [z0] at i6
          simp [-Array.toList_setIfInBounds, -ofVal, -blkClosed, z0]
          exact fin _ _ i6
      · have g2 : ¬ (2 : Int) ≤ (nd : Int) := by omega
        simp [-Array.toList_setIfInBounds, -ofVal, ofVal_int, g2]
        by_cases y1 : nd = 1
        · have z1 : v < 10 := by have := hi.small; rw [y1] at this; simpa using this
          have i5 := FmtInv.step1 (by rw [y1] at hi; exact hi)
          obtain ⟨d1, d2⟩ := fb1 v z1
          have g0 : (0 : Int) < (nd : Int) := by omega
          have gn : 0 < nd := by omega
          have g1 : 0 < n := by have := hi.le; omega
          generalize UInt8.ofNat (48 + v) = c9 at *
          simp [-Array.toList_setIfInBounds, -ofVal, -blkClosed, ofVal_int, gn, g1, d1, d2, hb, hi.size, htl, hnn, sb]
          exact fin _ _ i5
        · have z0 : nd = 0 := by omega
          rw [z0] at hi
          simp [-Array.toList_setIfInBounds, -ofVal, -blkClosed, z0]
          exact fin _ _ hi
end Go.Ev.S
/- Numbers in decimal digits: as texts. -/
namespace Go.Ev.S
open Go Go.Proofs Go.Ev Go.Lib
theorem row_dec {u v' : Nat} {dk : Array UInt8} (h : FmtInv (nDigits u) u 0 v' dk) : dk.toList = decDigits u := by
  apply List.ext_getElem
  · rw [decDigits_length, Array.length_toList, h.size]
  · intro j h1 h2
    rw [row_is_numeral h j h2, getElem!_pos dk j (by simpa using h1)]
    simp
set_option maxHeartbeats 1000000 in
theorem fui_ev [MaxL] (v : Nat) (hv : v < 18446744073709551616) : call cx 69 [.int .u64 v, .int .i64 10] [] = some (.str (dec v), []) := by
  refine call_run Tryd.func69 rfl ⟨rfl, rfl⟩ ?_
  by_cases hs : v < 100
  · have hs' : (v : Int) < 100 := by omega
    have h1 := small_ev v hs
    have hw : IntKind.i64.wrap (v : Int) = (v : Int) := by rw [wrap_i64]; omega
    simp [Tryd.f69, hs', h1, hw]
  · have hs' : ¬ (v : Int) < 100 := by omega
    have h1 := ndig_ev v (by omega) hv
    have hn : nDigits v ≤ 20 := by
      have := numDigits_eq v (by omega) hv
      split at this <;> omega
    obtain ⟨v', dk, i1, i2⟩ := fb10_ev (nDigits v) v (by omega) (lt_pow_nDigits v) hv (List.replicate (24 - nDigits v) 0) (by simp) (Array.replicate (nDigits v) 0) (by simp) [some (ofBytes (List.replicate 24 0))] 0 (by simp) (by simp) (by
      simp only [List.getElem_cons_zero, Array.toList_replicate, List.replicate_append_replicate]
      congr 3
      omega)
    have hr := row_dec i1
    have hsz := i1.size
    have hl : (decDigits v).length = nDigits v := decDigits_length v
    rw [hr] at i2
    rw [dec_lib hv]
    generalize nDigits v = n at *
    generalize decDigits v = w at *
    have hn' : (n : Int) ≤ 24 := by omega
    have hn2 : n ≤ 24 := by omega
    clear hv
    have e24 : ofBytes (List.replicate 24 0) = [D.int .u8 0, D.int .u8 0, D.int .u8 0, D.int .u8 0, D.int .u8 0, D.int .u8 0, D.int .u8 0, D.int .u8 0, D.int .u8 0, D.int .u8 0, D.int .u8 0, D.int .u8 0, D.int .u8 0, D.int .u8 0, D.int .u8 0, D.int .u8 0, D.int .u8 0, D.int .u8 0, D.int .u8 0, D.int .u8 0, D.int .u8 0, D.int .u8 0, D.int .u8 0, D.int .u8 0] := rfl
    rw [e24] at i2
    have hd : dk.toList = w := hr
    have k1 : w.length + (24 - n) = 24 := by omega
    have k2 : n ≤ w.length + (24 - n) := by omega
    have k3 : List.take n (ofBytes (w ++ List.replicate (24 - n) 0)) = ofBytes w := by
      rw [ofBytes_take, ← hl, List.take_left]
    have k4 : n ≤ 24 := hn2
    simp [Tryd.f69, hs', h1, hn', hn2, i2, k1, k3]
theorem fu_ev [MaxL] (v : Nat) (hv : v < 18446744073709551616) : call cx 54 [.int .u64 v, .int .i64 10] [] = some (.str (dec v), []) := by
  have h := fui_ev v hv
  refine call_run Tryd.func54 rfl ⟨rfl, rfl⟩ ?_
  simp [Tryd.f54, h]
end Go.Ev.S
/- The chapter's example. -/
namespace Go.Ev.S
open Go Go.Proofs Go.Ev
theorem first27_ev [MaxL] : call cx 14 [] [] = some (.bool true, []) := call_some.2 ⟨900, by kernel_rfl⟩
end Go.Ev.S
/- Requests, responses. -/
namespace Go.Ev
open Go Go.Proofs
structure Rq where
  path : List UInt8
  epoch : Int
  number : Int
  body : Sl UInt8
instance : Enc Rq := ⟨4, fun m => (.str m.path :: (.int .u64 m.epoch :: (.int .u64 m.number :: ((.vsl m.body.nil (ofBytes m.body.l) m.body.l.length) :: ([] : List D))))), fun m => by simp, fun m => by simp [idFree]⟩
theorem Rq.cells (m : Rq) : Enc.cells m = (.str m.path :: (.int .u64 m.epoch :: (.int .u64 m.number :: ((.vsl m.body.nil (ofBytes m.body.l) m.body.l.length) :: ([] : List D))))) := rfl
@[simp] theorem Rq.size : Enc.size Rq = 4 := rfl
@[simp] theorem Rq.cl (a : Rq) : (Enc.cells a).length = 4 := Enc.len a
@[simp] theorem Rq.ct (a : Rq) (r : List D) : (Enc.cells a ++ r).take 4 = Enc.cells a := cells_take rfl a r
@[simp] theorem Rq.ct' (a : Rq) : (Enc.cells a).take 4 = Enc.cells a := cells_take' rfl a
@[simp] theorem Rq.cd (a : Rq) (r : List D) : (Enc.cells a ++ r).drop 4 = r := cells_drop rfl a r
@[simp] theorem Rq.el (l : List Rq) : (encs l).length = l.length * 4 := encs_len' rfl l
@[simp] theorem Rq.ed (l : List Rq) (i : Nat) : (encs l).drop (i * 4) = encs (l.drop i) := encs_drop rfl l i
@[simp] theorem Rq.et (l : List Rq) (i : Nat) : (encs l).take (i * 4) = encs (l.take i) := encs_take rfl l i
@[simp high] theorem Rq.ea {l : List Rq} {i : Nat} (h : i < l.length) : (encs l).drop (i * 4) = Enc.cells l[i] ++ encs (l.drop (i + 1)) := encs_at rfl h
@[simp high] theorem Rq.es (m : Rq) {l : List Rq} {j : Nat} (h : j < l.length) : setRange (encs l) (j * 4) (Enc.cells m) = encs (l.set j m) := encs_set rfl m l h
@[simp] theorem Rq.g0 (m : Rq) (h) : (Enc.cells m)[0]'h = .str m.path := by simp [Rq.cells]
@[simp] theorem Rq.q0 (m : Rq) : (Enc.cells m)[0]? = some (.str m.path) := by simp [Rq.cells]
@[simp] theorem Rq.s0 (m : Rq) (x : List UInt8) : setRange (Enc.cells m) 0 [.str x] = Enc.cells { m with path := x } := by simp [Rq.cells]
@[simp] theorem Rq.d1 (m : Rq) : (Enc.cells m).drop 1 = (.int .u64 m.epoch :: (.int .u64 m.number :: ((.vsl m.body.nil (ofBytes m.body.l) m.body.l.length) :: ([] : List D)))) := by simp [Rq.cells]
@[simp] theorem Rq.d1' (m : Rq) (r : List D) : (Enc.cells m ++ r).drop 1 = (.int .u64 m.epoch :: (.int .u64 m.number :: ((.vsl m.body.nil (ofBytes m.body.l) m.body.l.length) :: ([] : List D)))) ++ r := by simp [Rq.cells]
@[simp] theorem Rq.g1 (m : Rq) (h) : (Enc.cells m)[1]'h = .int .u64 m.epoch := by simp [Rq.cells]
@[simp] theorem Rq.q1 (m : Rq) : (Enc.cells m)[1]? = some (.int .u64 m.epoch) := by simp [Rq.cells]
@[simp] theorem Rq.s1 (m : Rq) (x : Int) : setRange (Enc.cells m) 1 [.int .u64 x] = Enc.cells { m with epoch := x } := by simp [Rq.cells]
@[simp] theorem Rq.d2 (m : Rq) : (Enc.cells m).drop 2 = (.int .u64 m.number :: ((.vsl m.body.nil (ofBytes m.body.l) m.body.l.length) :: ([] : List D))) := by simp [Rq.cells]
@[simp] theorem Rq.d2' (m : Rq) (r : List D) : (Enc.cells m ++ r).drop 2 = (.int .u64 m.number :: ((.vsl m.body.nil (ofBytes m.body.l) m.body.l.length) :: ([] : List D))) ++ r := by simp [Rq.cells]
@[simp] theorem Rq.g2 (m : Rq) (h) : (Enc.cells m)[2]'h = .int .u64 m.number := by simp [Rq.cells]
@[simp] theorem Rq.q2 (m : Rq) : (Enc.cells m)[2]? = some (.int .u64 m.number) := by simp [Rq.cells]
@[simp] theorem Rq.s2 (m : Rq) (x : Int) : setRange (Enc.cells m) 2 [.int .u64 x] = Enc.cells { m with number := x } := by simp [Rq.cells]
@[simp] theorem Rq.d3 (m : Rq) : (Enc.cells m).drop 3 = ((.vsl m.body.nil (ofBytes m.body.l) m.body.l.length) :: ([] : List D)) := by simp [Rq.cells]
@[simp] theorem Rq.d3' (m : Rq) (r : List D) : (Enc.cells m ++ r).drop 3 = ((.vsl m.body.nil (ofBytes m.body.l) m.body.l.length) :: ([] : List D)) ++ r := by simp [Rq.cells]
@[simp] theorem Rq.g3 (m : Rq) (h) : (Enc.cells m)[3]'h = (.vsl m.body.nil (ofBytes m.body.l) m.body.l.length) := by simp [Rq.cells]
@[simp] theorem Rq.q3 (m : Rq) : (Enc.cells m)[3]? = some ((.vsl m.body.nil (ofBytes m.body.l) m.body.l.length)) := by simp [Rq.cells]
@[simp] theorem Rq.s3 (m : Rq) (x : Sl UInt8) : setRange (Enc.cells m) 3 [(.vsl x.nil (ofBytes x.l) x.l.length)] = Enc.cells { m with body := x } := by simp [Rq.cells]
structure Msg where
  kind : Int
  epoch : Int
  number : Int
  body : Sl UInt8
instance : Enc Msg := ⟨4, fun m => (.int .i64 m.kind :: (.int .u64 m.epoch :: (.int .u64 m.number :: ((.vsl m.body.nil (ofBytes m.body.l) m.body.l.length) :: ([] : List D))))), fun m => by simp, fun m => by simp [idFree]⟩
theorem Msg.cells (m : Msg) : Enc.cells m = (.int .i64 m.kind :: (.int .u64 m.epoch :: (.int .u64 m.number :: ((.vsl m.body.nil (ofBytes m.body.l) m.body.l.length) :: ([] : List D))))) := rfl
@[simp] theorem Msg.size : Enc.size Msg = 4 := rfl
@[simp] theorem Msg.cl (a : Msg) : (Enc.cells a).length = 4 := Enc.len a
@[simp] theorem Msg.ct (a : Msg) (r : List D) : (Enc.cells a ++ r).take 4 = Enc.cells a := cells_take rfl a r
@[simp] theorem Msg.ct' (a : Msg) : (Enc.cells a).take 4 = Enc.cells a := cells_take' rfl a
@[simp] theorem Msg.cd (a : Msg) (r : List D) : (Enc.cells a ++ r).drop 4 = r := cells_drop rfl a r
@[simp] theorem Msg.el (l : List Msg) : (encs l).length = l.length * 4 := encs_len' rfl l
@[simp] theorem Msg.ed (l : List Msg) (i : Nat) : (encs l).drop (i * 4) = encs (l.drop i) := encs_drop rfl l i
@[simp] theorem Msg.et (l : List Msg) (i : Nat) : (encs l).take (i * 4) = encs (l.take i) := encs_take rfl l i
@[simp high] theorem Msg.ea {l : List Msg} {i : Nat} (h : i < l.length) : (encs l).drop (i * 4) = Enc.cells l[i] ++ encs (l.drop (i + 1)) := encs_at rfl h
@[simp high] theorem Msg.es (m : Msg) {l : List Msg} {j : Nat} (h : j < l.length) : setRange (encs l) (j * 4) (Enc.cells m) = encs (l.set j m) := encs_set rfl m l h
@[simp] theorem Msg.g0 (m : Msg) (h) : (Enc.cells m)[0]'h = .int .i64 m.kind := by simp [Msg.cells]
@[simp] theorem Msg.q0 (m : Msg) : (Enc.cells m)[0]? = some (.int .i64 m.kind) := by simp [Msg.cells]
@[simp] theorem Msg.s0 (m : Msg) (x : Int) : setRange (Enc.cells m) 0 [.int .i64 x] = Enc.cells { m with kind := x } := by simp [Msg.cells]
@[simp] theorem Msg.d1 (m : Msg) : (Enc.cells m).drop 1 = (.int .u64 m.epoch :: (.int .u64 m.number :: ((.vsl m.body.nil (ofBytes m.body.l) m.body.l.length) :: ([] : List D)))) := by simp [Msg.cells]
@[simp] theorem Msg.d1' (m : Msg) (r : List D) : (Enc.cells m ++ r).drop 1 = (.int .u64 m.epoch :: (.int .u64 m.number :: ((.vsl m.body.nil (ofBytes m.body.l) m.body.l.length) :: ([] : List D)))) ++ r := by simp [Msg.cells]
@[simp] theorem Msg.g1 (m : Msg) (h) : (Enc.cells m)[1]'h = .int .u64 m.epoch := by simp [Msg.cells]
@[simp] theorem Msg.q1 (m : Msg) : (Enc.cells m)[1]? = some (.int .u64 m.epoch) := by simp [Msg.cells]
@[simp] theorem Msg.s1 (m : Msg) (x : Int) : setRange (Enc.cells m) 1 [.int .u64 x] = Enc.cells { m with epoch := x } := by simp [Msg.cells]
@[simp] theorem Msg.d2 (m : Msg) : (Enc.cells m).drop 2 = (.int .u64 m.number :: ((.vsl m.body.nil (ofBytes m.body.l) m.body.l.length) :: ([] : List D))) := by simp [Msg.cells]
@[simp] theorem Msg.d2' (m : Msg) (r : List D) : (Enc.cells m ++ r).drop 2 = (.int .u64 m.number :: ((.vsl m.body.nil (ofBytes m.body.l) m.body.l.length) :: ([] : List D))) ++ r := by simp [Msg.cells]
@[simp] theorem Msg.g2 (m : Msg) (h) : (Enc.cells m)[2]'h = .int .u64 m.number := by simp [Msg.cells]
@[simp] theorem Msg.q2 (m : Msg) : (Enc.cells m)[2]? = some (.int .u64 m.number) := by simp [Msg.cells]
@[simp] theorem Msg.s2 (m : Msg) (x : Int) : setRange (Enc.cells m) 2 [.int .u64 x] = Enc.cells { m with number := x } := by simp [Msg.cells]
@[simp] theorem Msg.d3 (m : Msg) : (Enc.cells m).drop 3 = ((.vsl m.body.nil (ofBytes m.body.l) m.body.l.length) :: ([] : List D)) := by simp [Msg.cells]
@[simp] theorem Msg.d3' (m : Msg) (r : List D) : (Enc.cells m ++ r).drop 3 = ((.vsl m.body.nil (ofBytes m.body.l) m.body.l.length) :: ([] : List D)) ++ r := by simp [Msg.cells]
@[simp] theorem Msg.g3 (m : Msg) (h) : (Enc.cells m)[3]'h = (.vsl m.body.nil (ofBytes m.body.l) m.body.l.length) := by simp [Msg.cells]
@[simp] theorem Msg.q3 (m : Msg) : (Enc.cells m)[3]? = some ((.vsl m.body.nil (ofBytes m.body.l) m.body.l.length)) := by simp [Msg.cells]
@[simp] theorem Msg.s3 (m : Msg) (x : Sl UInt8) : setRange (Enc.cells m) 3 [(.vsl x.nil (ofBytes x.l) x.l.length)] = Enc.cells { m with body := x } := by simp [Msg.cells]
structure Rs where
  status : Int
  epoch : Int
  number : Int
  body : Sl UInt8
instance : Enc Rs := ⟨4, fun m => (.int .i64 m.status :: (.int .u64 m.epoch :: (.int .u64 m.number :: ((.vsl m.body.nil (ofBytes m.body.l) m.body.l.length) :: ([] : List D))))), fun m => by simp, fun m => by simp [idFree]⟩
theorem Rs.cells (m : Rs) : Enc.cells m = (.int .i64 m.status :: (.int .u64 m.epoch :: (.int .u64 m.number :: ((.vsl m.body.nil (ofBytes m.body.l) m.body.l.length) :: ([] : List D))))) := rfl
@[simp] theorem Rs.size : Enc.size Rs = 4 := rfl
@[simp] theorem Rs.cl (a : Rs) : (Enc.cells a).length = 4 := Enc.len a
@[simp] theorem Rs.ct (a : Rs) (r : List D) : (Enc.cells a ++ r).take 4 = Enc.cells a := cells_take rfl a r
@[simp] theorem Rs.ct' (a : Rs) : (Enc.cells a).take 4 = Enc.cells a := cells_take' rfl a
@[simp] theorem Rs.cd (a : Rs) (r : List D) : (Enc.cells a ++ r).drop 4 = r := cells_drop rfl a r
@[simp] theorem Rs.el (l : List Rs) : (encs l).length = l.length * 4 := encs_len' rfl l
@[simp] theorem Rs.ed (l : List Rs) (i : Nat) : (encs l).drop (i * 4) = encs (l.drop i) := encs_drop rfl l i
@[simp] theorem Rs.et (l : List Rs) (i : Nat) : (encs l).take (i * 4) = encs (l.take i) := encs_take rfl l i
@[simp high] theorem Rs.ea {l : List Rs} {i : Nat} (h : i < l.length) : (encs l).drop (i * 4) = Enc.cells l[i] ++ encs (l.drop (i + 1)) := encs_at rfl h
@[simp high] theorem Rs.es (m : Rs) {l : List Rs} {j : Nat} (h : j < l.length) : setRange (encs l) (j * 4) (Enc.cells m) = encs (l.set j m) := encs_set rfl m l h
@[simp] theorem Rs.g0 (m : Rs) (h) : (Enc.cells m)[0]'h = .int .i64 m.status := by simp [Rs.cells]
@[simp] theorem Rs.q0 (m : Rs) : (Enc.cells m)[0]? = some (.int .i64 m.status) := by simp [Rs.cells]
@[simp] theorem Rs.s0 (m : Rs) (x : Int) : setRange (Enc.cells m) 0 [.int .i64 x] = Enc.cells { m with status := x } := by simp [Rs.cells]
@[simp] theorem Rs.d1 (m : Rs) : (Enc.cells m).drop 1 = (.int .u64 m.epoch :: (.int .u64 m.number :: ((.vsl m.body.nil (ofBytes m.body.l) m.body.l.length) :: ([] : List D)))) := by simp [Rs.cells]
@[simp] theorem Rs.d1' (m : Rs) (r : List D) : (Enc.cells m ++ r).drop 1 = (.int .u64 m.epoch :: (.int .u64 m.number :: ((.vsl m.body.nil (ofBytes m.body.l) m.body.l.length) :: ([] : List D)))) ++ r := by simp [Rs.cells]
@[simp] theorem Rs.g1 (m : Rs) (h) : (Enc.cells m)[1]'h = .int .u64 m.epoch := by simp [Rs.cells]
@[simp] theorem Rs.q1 (m : Rs) : (Enc.cells m)[1]? = some (.int .u64 m.epoch) := by simp [Rs.cells]
@[simp] theorem Rs.s1 (m : Rs) (x : Int) : setRange (Enc.cells m) 1 [.int .u64 x] = Enc.cells { m with epoch := x } := by simp [Rs.cells]
@[simp] theorem Rs.d2 (m : Rs) : (Enc.cells m).drop 2 = (.int .u64 m.number :: ((.vsl m.body.nil (ofBytes m.body.l) m.body.l.length) :: ([] : List D))) := by simp [Rs.cells]
@[simp] theorem Rs.d2' (m : Rs) (r : List D) : (Enc.cells m ++ r).drop 2 = (.int .u64 m.number :: ((.vsl m.body.nil (ofBytes m.body.l) m.body.l.length) :: ([] : List D))) ++ r := by simp [Rs.cells]
@[simp] theorem Rs.g2 (m : Rs) (h) : (Enc.cells m)[2]'h = .int .u64 m.number := by simp [Rs.cells]
@[simp] theorem Rs.q2 (m : Rs) : (Enc.cells m)[2]? = some (.int .u64 m.number) := by simp [Rs.cells]
@[simp] theorem Rs.s2 (m : Rs) (x : Int) : setRange (Enc.cells m) 2 [.int .u64 x] = Enc.cells { m with number := x } := by simp [Rs.cells]
@[simp] theorem Rs.d3 (m : Rs) : (Enc.cells m).drop 3 = ((.vsl m.body.nil (ofBytes m.body.l) m.body.l.length) :: ([] : List D)) := by simp [Rs.cells]
@[simp] theorem Rs.d3' (m : Rs) (r : List D) : (Enc.cells m ++ r).drop 3 = ((.vsl m.body.nil (ofBytes m.body.l) m.body.l.length) :: ([] : List D)) ++ r := by simp [Rs.cells]
@[simp] theorem Rs.g3 (m : Rs) (h) : (Enc.cells m)[3]'h = (.vsl m.body.nil (ofBytes m.body.l) m.body.l.length) := by simp [Rs.cells]
@[simp] theorem Rs.q3 (m : Rs) : (Enc.cells m)[3]? = some ((.vsl m.body.nil (ofBytes m.body.l) m.body.l.length)) := by simp [Rs.cells]
@[simp] theorem Rs.s3 (m : Rs) (x : Sl UInt8) : setRange (Enc.cells m) 3 [(.vsl x.nil (ofBytes x.l) x.l.length)] = Enc.cells { m with body := x } := by simp [Rs.cells]
@[simp] theorem ofBytes_nil : ofBytes [] = [] := rfl
def Msg.zero : Msg := ⟨0, 0, 0, .none⟩
def crlf : List UInt8 := [13, 10]
def epochL : List UInt8 := [88, 45, 69, 112, 111, 99, 104, 58, 32]
def numberL : List UInt8 := [88, 45, 78, 117, 109, 98, 101, 114, 58, 32]
def lengthL : List UInt8 := [67, 111, 110, 116, 101, 110, 116, 45, 76, 101, 110, 103, 116, 104, 58, 32]
def numsL (e n l : Nat) : List UInt8 := epochL ++ (dec e ++ (crlf ++ (numberL ++ (dec n ++ (crlf ++ (lengthL ++ (dec l ++ (crlf ++ crlf))))))))
theorem decF_len : ∀ (f v : Nat), (decF f v).length ≤ f
  | 0, _ => Nat.le_refl _
  | f + 1, v => by
    rw [decF]
    split
    · simp
    · have := decF_len f (v / 10)
      simp
      omega
theorem dec_len (v : Nat) : (dec v).length ≤ 20 := decF_len 20 v
theorem dec_pos (v : Nat) : 0 < (dec v).length := by
  unfold dec decF
  split <;> simp
theorem nums_len (e n l : Nat) : (numsL e n l).length ≤ 103 := by
  have h1 := dec_len e
  have h2 := dec_len n
  have h3 := dec_len l
  simp only [numsL, List.length_append, epochL, numberL, lengthL, crlf, List.length_cons, List.length_nil]
  omega
theorem cat_of {x y s : List UInt8} (e : s = x ++ y) (h : x.length + y.length ≤ 100000) : strD .add x y = some (.str s) := by
  simp only [strD, e]
  rw [if_pos (by omega)]
theorem strD_add {x y : List UInt8} (h : x.length + y.length ≤ 100000) : strD .add x y = some (.str (x ++ y)) := by
  simp only [strD]
  rw [if_pos (by omega)]
section
variable {H : Type} {enc : TypeId × Value → H} {P : Program} {W : World} {base n : Nat} {t e : TypeId} {v : Value} {d : DataW H} {ps : List MemPlace}
theorem arg_u64 (hu : P.underlying t = some (.int .u64)) (hp : PlainT P (n + 1) t = true) (hv : Value.okWide P W .any base t v) (h : DataW.Trod enc P W 0 (fun _ => true) true t v d ps) : ∃ b, Rep (· < W.heap.size) W iota0 [] (.int .u64 b) v ∧ isU64 b := by
  obtain ⟨ds, h1, h2⟩ := read_plain hp h
  obtain ⟨b, rfl, hb⟩ := has_u64 hu h1
  exact ⟨b, cor_val h2 (one_int hu hv), hb⟩
theorem arg_u8 (hu : P.underlying t = some (.int .u8)) (hp : PlainT P (n + 1) t = true) (hv : Value.okWide P W .any base t v) (h : DataW.Trod enc P W 0 (fun _ => true) true t v d ps) : ∃ b : UInt8, Rep (· < W.heap.size) W iota0 [] (.int .u8 b.toNat) v ∧ True := by
  obtain ⟨ds, h1, h2⟩ := read_plain hp h
  obtain ⟨b, rfl⟩ := has_u8 hu h1
  exact ⟨b, cor_val h2 (one_int hu hv), trivial⟩
end
end Go.Ev
/- Requests and responses are put. -/
namespace Go.Ev.S
open Go Go.Proofs Go.Ev
theorem dec_ev [MaxL] (v : Nat) (hv : v < 18446744073709551616) : call cx 81 [.int .u64 v] [] = some (.str (dec v), []) := by
  have h := fu_ev v hv
  refine call_run Tryd.func81 rfl ⟨rfl, rfl⟩ ?_
  simp [Tryd.f81, h]
theorem head_ev [MaxL] (b : List UInt8) (hb : b.length ≤ 1000) (e n l : Nat) (he : e < 18446744073709551616) (hn : n < 18446744073709551616) (hl : l < 18446744073709551616) :
    call cx 63 [.str b, .int .u64 e, .int .u64 n, .int .u64 l] [] = some (.str (b ++ numsL e n l), []) := by
  have h1 := dec_ev e he
  have h2 := dec_ev n hn
  have h3 := dec_ev l hl
  have l1 := dec_len e
  have l2 := dec_len n
  have l3 := dec_len l
  unfold numsL
  generalize dec e = x at *
  generalize dec n = y at *
  generalize dec l = z at *
  clear he hn hl
  obtain ⟨s1, es1⟩ : ∃ s, s = b ++ epochL := ⟨_, rfl⟩
  have ls1 : s1.length = b.length + epochL.length := by rw [es1, List.length_append]
  obtain ⟨s2, es2⟩ : ∃ s, s = s1 ++ x := ⟨_, rfl⟩
  have ls2 : s2.length = s1.length + x.length := by rw [es2, List.length_append]
  obtain ⟨s3, es3⟩ : ∃ s, s = s2 ++ crlf := ⟨_, rfl⟩
  have ls3 : s3.length = s2.length + crlf.length := by rw [es3, List.length_append]
  obtain ⟨s4, es4⟩ : ∃ s, s = s3 ++ numberL := ⟨_, rfl⟩
  have ls4 : s4.length = s3.length + numberL.length := by rw [es4, List.length_append]
  obtain ⟨s5, es5⟩ : ∃ s, s = s4 ++ y := ⟨_, rfl⟩
  have ls5 : s5.length = s4.length + y.length := by rw [es5, List.length_append]
  obtain ⟨s6, es6⟩ : ∃ s, s = s5 ++ crlf := ⟨_, rfl⟩
  have ls6 : s6.length = s5.length + crlf.length := by rw [es6, List.length_append]
  obtain ⟨s7, es7⟩ : ∃ s, s = s6 ++ lengthL := ⟨_, rfl⟩
  have ls7 : s7.length = s6.length + lengthL.length := by rw [es7, List.length_append]
  obtain ⟨s8, es8⟩ : ∃ s, s = s7 ++ z := ⟨_, rfl⟩
  have ls8 : s8.length = s7.length + z.length := by rw [es8, List.length_append]
  obtain ⟨s9, es9⟩ : ∃ s, s = s8 ++ crlf := ⟨_, rfl⟩
  have ls9 : s9.length = s8.length + crlf.length := by rw [es9, List.length_append]
  obtain ⟨s10, es10⟩ : ∃ s, s = s9 ++ crlf := ⟨_, rfl⟩
  have ls10 : s10.length = s9.length + crlf.length := by rw [es10, List.length_append]
  simp only [epochL, numberL, lengthL, crlf, List.length_cons, List.length_nil] at ls1 ls2 ls3 ls4 ls5 ls6 ls7 ls8 ls9 ls10
  have cs1 := cat_of es1 (by (try simp only [epochL, List.length_cons, List.length_nil]); omega)
  have cs2 := cat_of es2 (by (try simp only [epochL, numberL, lengthL, crlf, List.length_cons, List.length_nil]); omega)
  have cs3 := cat_of es3 (by (try simp only [crlf, List.length_cons, List.length_nil]); omega)
  have cs4 := cat_of es4 (by (try simp only [numberL, List.length_cons, List.length_nil]); omega)
  have cs5 := cat_of es5 (by (try simp only [epochL, numberL, lengthL, crlf, List.length_cons, List.length_nil]); omega)
  have cs6 := cat_of es6 (by (try simp only [crlf, List.length_cons, List.length_nil]); omega)
  have cs7 := cat_of es7 (by (try simp only [lengthL, List.length_cons, List.length_nil]); omega)
  have cs8 := cat_of es8 (by (try simp only [epochL, numberL, lengthL, crlf, List.length_cons, List.length_nil]); omega)
  have cs9 := cat_of es9 (by (try simp only [crlf, List.length_cons, List.length_nil]); omega)
  have cs10 := cat_of es10 (by (try simp only [crlf, List.length_cons, List.length_nil]); omega)
  simp only [epochL, numberL, lengthL, crlf] at cs1 cs2 cs3 cs4 cs5 cs6 cs7 cs8 cs9 cs10
  have hfin : b ++ (epochL ++ (x ++ (crlf ++ (numberL ++ (y ++ (crlf ++ (lengthL ++ (z ++ (crlf ++ crlf))))))))) = s10 := by
    simp [es10, es9, es8, es7, es6, es5, es4, es3, es2, es1]
  rw [hfin]
  clear hfin es1 es2 es3 es4 es5 es6 es7 es8 es9 es10 ls1 ls2 ls3 ls4 ls5 ls6 ls7 ls8 ls9 ls10 l1 l2 l3 hb
  refine call_run Tryd.func63 rfl ⟨rfl, rfl⟩ ?_
  simp [Tryd.f63, h1, h2, h3, -strD, cs1, cs2, cs3, cs4, cs5, cs6, cs7, cs8, cs9, cs10]
/-- A head and a body, if the body is not too long. -/
def putS (b : List UInt8) (e n : Nat) (body : List UInt8) : Sl UInt8 := if 65536 < body.length then .none else .of (b ++ (numsL e n body.length ++ body))
theorem put_ev [MaxL] (b : List UInt8) (hb : b.length ≤ 1000) (e n : Nat) (he : e < 18446744073709551616) (hn : n < 18446744073709551616) (body : Sl UInt8) (hl : body.l.length ≤ 100000) :
    call cx 42 [.str b, .int .u64 e, .int .u64 n, (.vsl body.nil (ofBytes body.l) body.l.length)] [] = some ((.vsl (putS b e n body.l).nil (ofBytes (putS b e n body.l).l) (putS b e n body.l).l.length), []) := by
  refine call_run Tryd.func42 rfl ⟨rfl, rfl⟩ ?_
  unfold putS
  by_cases h : 65536 < body.l.length
  · have h' : (65536 : Int) < (body.l.length : Int) := by omega
    simp [Tryd.f42, h, h']
  · have h' : ¬ (65536 : Int) < (body.l.length : Int) := by omega
    have h1 := head_ev b hb e n body.l.length he hn (by omega)
    have hw : IntKind.u64.wrap (body.l.length : Int) = (body.l.length : Int) := by rw [wrap_u64]; omega
    have hx := nums_len e n body.l.length
    generalize numsL e n body.l.length = x at *
    have hm : b.length + (x.length + body.l.length) ≤ maxBytes := by unfold maxBytes; omega
    simp [Tryd.f42, h, h', h1, hw, hm, ofBytes_append, List.take_of_length_le, Nat.add_assoc]
def postL : List UInt8 := [80, 79, 83, 84, 32]
def httpL : List UInt8 := [32, 72, 84, 84, 80, 47, 49, 46, 49]
def hostL : List UInt8 := [72, 111, 115, 116, 58, 32, 114, 101, 99, 101, 105, 118, 101, 114]
def ctypeL : List UInt8 := [67, 111, 110, 116, 101, 110, 116, 45, 84, 121, 112, 101, 58, 32, 97, 112, 112, 108, 105, 99, 97, 116, 105, 111, 110, 47, 118, 110, 100, 46, 102, 100, 111, 46, 106, 111, 117, 114, 110, 97, 108]
def beginL (p : List UInt8) : List UInt8 := postL ++ (p ++ (httpL ++ (crlf ++ (hostL ++ (crlf ++ (ctypeL ++ crlf))))))
theorem begin_len (p : List UInt8) : (beginL p).length = p.length + 75 := by
  simp [beginL, postL, httpL, hostL, ctypeL, crlf]
theorem begin_ev [MaxL] (p : List UInt8) (hp : p.length ≤ 100) : call cx 43 [.str p] [] = some (.str (beginL p), []) := by
  obtain ⟨s1, es1⟩ : ∃ s, s = postL ++ p := ⟨_, rfl⟩
  have ls1 : s1.length = postL.length + p.length := by rw [es1, List.length_append]
  obtain ⟨s2, es2⟩ : ∃ s, s = s1 ++ httpL := ⟨_, rfl⟩
  have ls2 : s2.length = s1.length + httpL.length := by rw [es2, List.length_append]
  obtain ⟨s3, es3⟩ : ∃ s, s = s2 ++ crlf := ⟨_, rfl⟩
  have ls3 : s3.length = s2.length + crlf.length := by rw [es3, List.length_append]
  obtain ⟨s4, es4⟩ : ∃ s, s = s3 ++ hostL := ⟨_, rfl⟩
  have ls4 : s4.length = s3.length + hostL.length := by rw [es4, List.length_append]
  obtain ⟨s5, es5⟩ : ∃ s, s = s4 ++ crlf := ⟨_, rfl⟩
  have ls5 : s5.length = s4.length + crlf.length := by rw [es5, List.length_append]
  obtain ⟨s6, es6⟩ : ∃ s, s = s5 ++ ctypeL := ⟨_, rfl⟩
  have ls6 : s6.length = s5.length + ctypeL.length := by rw [es6, List.length_append]
  obtain ⟨s7, es7⟩ : ∃ s, s = s6 ++ crlf := ⟨_, rfl⟩
  have ls7 : s7.length = s6.length + crlf.length := by rw [es7, List.length_append]
  simp only [postL, httpL, hostL, ctypeL, crlf, List.length_cons, List.length_nil] at ls1 ls2 ls3 ls4 ls5 ls6 ls7
  have cs1 := cat_of es1 (by (try simp only [postL, List.length_cons, List.length_nil]); omega)
  have cs2 := cat_of es2 (by (try simp only [httpL, List.length_cons, List.length_nil]); omega)
  have cs3 := cat_of es3 (by (try simp only [crlf, List.length_cons, List.length_nil]); omega)
  have cs4 := cat_of es4 (by (try simp only [hostL, List.length_cons, List.length_nil]); omega)
  have cs5 := cat_of es5 (by (try simp only [crlf, List.length_cons, List.length_nil]); omega)
  have cs6 := cat_of es6 (by (try simp only [ctypeL, List.length_cons, List.length_nil]); omega)
  have cs7 := cat_of es7 (by (try simp only [crlf, List.length_cons, List.length_nil]); omega)
  simp only [postL, httpL, hostL, ctypeL, crlf] at cs1 cs2 cs3 cs4 cs5 cs6 cs7
  have hfin : beginL p = s7 := by
    simp [beginL, es7, es6, es5, es4, es3, es2, es1]
  rw [hfin]
  clear hfin es1 es2 es3 es4 es5 es6 es7 ls1 ls2 ls3 ls4 ls5 ls6 ls7 hp
  refine call_run Tryd.func43 rfl ⟨rfl, rfl⟩ ?_
  simp [Tryd.f43, -strD, cs1, cs2, cs3, cs4, cs5, cs6, cs7]
def okStr : List UInt8 := [50, 48, 48, 32, 79, 75]
def badStr : List UInt8 := [52, 48, 48, 32, 66, 97, 100, 32, 82, 101, 113, 117, 101, 115, 116]
def conStr : List UInt8 := [52, 48, 57, 32, 67, 111, 110, 102, 108, 105, 99, 116]
def statusL (n : Int) : List UInt8 := [72, 84, 84, 80, 47, 49, 46, 49, 32] ++ ((if n = 400 then badStr else if n = 409 then conStr else okStr) ++ [13, 10])
theorem status_ev [MaxL] (n : Int) : call cx 45 [.int .i64 n] [] = some (.str (statusL n), []) := by
  refine call_run Tryd.func45 rfl ⟨rfl, rfl⟩ ?_
  unfold statusL
  by_cases h1 : n = 400
  · simp [Tryd.f45, h1, badStr]
  · by_cases h2 : n = 409
    · simp [Tryd.f45, h2, conStr]
    · simp [Tryd.f45, h1, h2, okStr]
def helloL : List UInt8 := [47, 104, 101, 108, 108, 111]
def batchL : List UInt8 := [47, 98, 97, 116, 99, 104]
theorem path_ev [MaxL] (s : List UInt8) : call cx 41 [.str s] [] = some (.bool (s == helloL || s == batchL), []) := by
  refine call_run Tryd.func41 rfl ⟨rfl, rfl⟩ ?_
  have h1 : (s == [47, 104, 101, 108, 108, 111]) = (s == helloL) := rfl
  have h2 : (s == [47, 98, 97, 116, 99, 104]) = (s == batchL) := rfl
  cases h : s == helloL
  · rw [h] at h1
    cases h' : s == batchL <;> rw [h'] at h2 <;> simp [Tryd.f41, h1, h2]
  · rw [h] at h1
    simp [Tryd.f41, h1]
def putRq (r : Rq) : Sl UInt8 := if r.path == helloL || r.path == batchL then putS (beginL r.path) r.epoch.toNat r.number.toNat r.body.l else .none
def putRs (r : Rs) : Sl UInt8 := if r.status = 200 ∨ r.status = 400 ∨ r.status = 409 then putS (statusL r.status) r.epoch.toNat r.number.toNat r.body.l else .none
theorem putrq_ev [MaxL] (r : Rq) (he : isU64 r.epoch) (hn : isU64 r.number) (hp : r.path.length ≤ 100) (hb : r.body.l.length ≤ 100000) : call cx 15 [.agg (Enc.cells r)] [] = some ((.vsl (putRq r).nil (ofBytes (putRq r).l) (putRq r).l.length), []) := by
  have h1 := path_ev r.path
  have h2 := begin_ev r.path hp
  have h3 := put_ev (beginL r.path) (by rw [begin_len]; omega) r.epoch.toNat r.number.toNat (by unfold isU64 at he; omega) (by unfold isU64 at hn; omega) r.body hb
  have e1 : ((r.epoch.toNat : Nat) : Int) = r.epoch := by unfold isU64 at he; omega
  have e2 : ((r.number.toNat : Nat) : Int) = r.number := by unfold isU64 at hn; omega
  rw [e1, e2] at h3
  refine call_run Tryd.func15 rfl ⟨rfl, rfl⟩ ?_
  unfold putRq
  generalize putS (beginL r.path) r.epoch.toNat r.number.toNat r.body.l = x at *
  cases h : (r.path == helloL || r.path == batchL)
  · rw [h] at h1
    simp [Tryd.f15, Rq.cells, h1]
  · rw [h] at h1
    simp [Tryd.f15, Rq.cells, h1, h2, h3]
theorem status_len (n : Int) : (statusL n).length ≤ 30 := by
  unfold statusL
  split
  · decide
  · split <;> decide
theorem putrs_ev [MaxL] (r : Rs) (he : isU64 r.epoch) (hn : isU64 r.number) (hb : r.body.l.length ≤ 100000) : call cx 18 [.agg (Enc.cells r)] [] = some ((.vsl (putRs r).nil (ofBytes (putRs r).l) (putRs r).l.length), []) := by
  have h2 := status_ev r.status
  have h3 := put_ev (statusL r.status) (by have := status_len r.status; omega) r.epoch.toNat r.number.toNat (by unfold isU64 at he; omega) (by unfold isU64 at hn; omega) r.body hb
  have e1 : ((r.epoch.toNat : Nat) : Int) = r.epoch := by unfold isU64 at he; omega
  have e2 : ((r.number.toNat : Nat) : Int) = r.number := by unfold isU64 at hn; omega
  rw [e1, e2] at h3
  refine call_run Tryd.func18 rfl ⟨rfl, rfl⟩ ?_
  unfold putRs
  generalize putS (statusL r.status) r.epoch.toNat r.number.toNat r.body.l = x at *
  by_cases a1 : r.status = 200
  · rw [a1] at h2 h3
    simp [Tryd.f18, Rs.cells, a1, h2, h3]
  · by_cases a2 : r.status = 400
    · rw [a2] at h2 h3
      simp [Tryd.f18, Rs.cells, a2, h2, h3]
    · by_cases a3 : r.status = 409
      · rw [a3] at h2 h3
        simp [Tryd.f18, Rs.cells, a3, h2, h3]
      · simp [Tryd.f18, Rs.cells, a1, a2, a3]
end Go.Ev.S
/- A head's numbers are read. -/
namespace Go.Ev.S
open Go Go.Proofs Go.Ev
theorem cut_len (sep s : List UInt8) : (cutL sep s).1.length ≤ s.length ∧ (cutL sep s).2.1.length ≤ s.length := by
  unfold cutL
  split
  · simp
  · simp
    omega
def trimL (p s : List UInt8) : List UInt8 := if pre p s then s.drop p.length else s
theorem trim_len (p s : List UInt8) : (trimL p s).length ≤ s.length := by
  unfold trimL
  split <;> simp
/-- One line's number, and what stands behind the line. -/
def lineP (line rest : List UInt8) : Option (Nat × List UInt8) := match pu 10 (trimL line (cutL crlf rest).1) with
  | none => none
  | some v => some (v, (cutL crlf rest).2.1)
/-- The numbers of a head that begins so. -/
def numbersP (s b : List UInt8) : Option (Nat × Nat × Nat) := if pre b s then
  match lineP epochL (s.drop b.length) with
  | none => none
  | some (x, r1) => match lineP numberL r1 with
    | none => none
    | some (y, r2) => match lineP lengthL r2 with
      | none => none
      | some (z, _) => if b ++ numsL x y z = s then some (x, y, z) else none
  else none
theorem line_ev [MaxL] (rest line : List UInt8) (hr : rest.length < 100000) (hl : line.length < 100) :
    ∃ a f, call cx 56 [.str rest, .str [13, 10]] [] = some (.tup [.str a, .str (cutL crlf rest).2.1, .bool f], []) ∧ call cx 88 [.str a, .str line] [] = some (.str (trimL line a), []) ∧
      ((∃ v, lineP line rest = some (v, (cutL crlf rest).2.1) ∧ v < 18446744073709551616 ∧ call cx 58 [.str (trimL line a), .int .i64 10, .int .i64 64] [] = some (.tup [.int .u64 (v : Nat), .nili], [])) ∨
      (lineP line rest = none ∧ ∃ (x : Nat) (d : List D), call cx 58 [.str (trimL line a), .int .i64 10, .int .i64 64] [] = some (.tup [.int .u64 x, .iface 137 (.vptr d)], []))) := by
  have h1 := cut_ev rest crlf (by omega) (by decide)
  have hc := cut_len crlf rest
  have h2 := trim_ev (cutL crlf rest).1 line (by omega) (by omega)
  refine ⟨(cutL crlf rest).1, (cutL crlf rest).2.2, h1, h2, ?_⟩
  unfold lineP
  have ht := trim_len line (cutL crlf rest).1
  rcases pu_ev 10 (.inl rfl) (trimL line (cutL crlf rest).1) (by omega) with ⟨v, e1, e2⟩ | ⟨e1, x, d, e2⟩
  · refine .inl ⟨v, by rw [e1], ?_, e2⟩
    unfold pu at e1
    split at e1
    · cases e1
    · exact puGo_lt 10 _ _ _ (by decide) e1
  · exact .inr ⟨by rw [e1], x, d, e2⟩
def numI (r0 : List UInt8) : Nat → Nat → Nat → Nat → List UInt8 → Prop
  | 0, x, y, z, r => x = 0 ∧ y = 0 ∧ z = 0 ∧ r = r0
  | 1, x, y, z, r => lineP epochL r0 = some (x, r) ∧ y = 0 ∧ z = 0
  | 2, x, y, z, r => z = 0 ∧ ∃ r1, lineP epochL r0 = some (x, r1) ∧ lineP numberL r1 = some (y, r)
  | _, x, y, z, r => ∃ r1 r2, lineP epochL r0 = some (x, r1) ∧ lineP numberL r1 = some (y, r2) ∧ lineP lengthL r2 = some (z, r)
set_option maxHeartbeats 2000000 in
theorem numbers_ev [MaxL] (s b : List UInt8) (hs : s.length < 100000) (hb : b.length ≤ 1000) :
    (∃ x y z, numbersP s b = some (x, y, z) ∧ call cx 65 [.str s, .str b] [] = some (.tup [.agg [.int .u64 (x : Nat), .int .u64 (y : Nat), .int .u64 (z : Nat)], .bool true], [])) ∨
    (numbersP s b = none ∧ ∃ x y z : Nat, call cx 65 [.str s, .str b] [] = some (.tup [.agg [.int .u64 x, .int .u64 y, .int .u64 z], .bool false], [])) := by
  suffices h : ∃ r, call cx 65 [.str s, .str b] [] = some r ∧ ((∃ x y z : Nat, numbersP s b = some (x, y, z) ∧ r = (.tup [.agg [.int .u64 x, .int .u64 y, .int .u64 z], .bool true], [])) ∨ (numbersP s b = none ∧ ∃ x y z : Nat, r = (.tup [.agg [.int .u64 x, .int .u64 y, .int .u64 z], .bool false], []))) by
    obtain ⟨r, h1, ⟨x, y, z, h2, rfl⟩ | ⟨h2, x, y, z, rfl⟩⟩ := h
    · exact .inl ⟨x, y, z, h2, h1⟩
    · exact .inr ⟨h2, x, y, z, h1⟩
  refine call_runE (fun r => (∃ x y z : Nat, numbersP s b = some (x, y, z) ∧ r = (D.tup [.agg [.int .u64 x, .int .u64 y, .int .u64 z], .bool true], [])) ∨ (numbersP s b = none ∧ ∃ x y z : Nat, r = (D.tup [.agg [.int .u64 x, .int .u64 y, .int .u64 z], .bool false], []))) Tryd.func65 rfl ⟨rfl, rfl⟩ ?_
  have h0 := cutpre_ev s b (by omega) (by omega)
  cases hp : pre b s with
  | false =>
    rw [hp] at h0
    simp [Tryd.f65, h0, numbersP, hp]
    exact ⟨0, rfl⟩
  | true =>
    rw [hp, if_pos rfl] at h0
    have hN : numbersP s b = match lineP epochL (s.drop b.length) with
        | none => none
        | some (x, r1) => match lineP numberL r1 with
          | none => none
          | some (y, r2) => match lineP lengthL r2 with
            | none => none
            | some (z, _) => if b ++ numsL x y z = s then some (x, y, z) else none := by rw [numbersP, if_pos hp]
    obtain ⟨r0, hr0⟩ : ∃ r, r = s.drop b.length := ⟨_, rfl⟩
    rw [← hr0] at hN h0
    have hr0l : r0.length ≤ s.length := by rw [hr0]; simp
    simp [Tryd.f65, h0]
    refine Run.loopThen (fun (q : Nat × Nat × Nat × Nat × List UInt8) e H' => q.1 ≤ 3 ∧ q.2.2.2.2.length ≤ s.length ∧ q.2.1 < 18446744073709551616 ∧ q.2.2.1 < 18446744073709551616 ∧ q.2.2.2.1 < 18446744073709551616 ∧ numI r0 q.1 q.2.1 q.2.2.1 q.2.2.2.1 q.2.2.2.2 ∧
      H' = [some [.int .u64 0, .int .u64 0, .int .u64 0], some [.int .u64 (q.2.1 : Nat), .int .u64 (q.2.2.1 : Nat), .int .u64 (q.2.2.2.1 : Nat)], some [.str epochL, .str numberL, .str lengthL]] ∧
      look e 0 = some (.str s) ∧ look e 1 = some (.str b) ∧ look e 4 = some (.optr 0 3 0) ∧ look e 6 = some (.optr 1 3 0) ∧ look e 7 = some (.str q.2.2.2.2) ∧ look e 25 = some (.osl 2 3 0 3 1) ∧ look e 26 = some (.int .i64 3) ∧ look e 27 = some (.int .i64 (q.1 : Nat))) (fun q => 3 - q.1) (0, 0, 0, 0, r0) ?_ ?_
    · simp [numI, hr0l, epochL, numberL, lengthL]
    rintro ⟨i, x, y, z, r⟩ e H' ⟨hi, hrl, hx, hy, hz, hI, rfl, k0, k1, k4, k6, k7, k25, k26, k27⟩
    simp only at hi hrl hx hy hz hI k7 k27
    have hcut := cut_len crlf r
    have : i = 0 ∨ i = 1 ∨ i = 2 ∨ i = 3 := by omega
    rcases this with rfl | rfl | rfl | rfl
    · obtain ⟨rfl, rfl, rfl, rfl⟩ := hI
      obtain ⟨a, f, c1, c2, ⟨v, c3, hv, c4⟩ | ⟨c3, xx, d, c4⟩⟩ := line_ev r epochL (by omega) (by decide)
      · simp [k0, k1, k4, k6, k7, k25, k26, k27, c1, c2, c4]
        exact ⟨1, by omega, by omega, v, 0, 0, _, by omega, hv, by omega, by omega, ⟨c3, rfl, rfl⟩, ⟨rfl, rfl, rfl⟩, rfl, rfl⟩
      · rw [c3] at hN
        simp [k0, k1, k4, k6, k7, k25, k26, k27, c1, c2, c4]
        exact ⟨hN, 0, rfl⟩
    · obtain ⟨hI1, rfl, rfl⟩ := hI
      obtain ⟨a, f, c1, c2, ⟨v, c3, hv, c4⟩ | ⟨c3, xx, d, c4⟩⟩ := line_ev r numberL (by omega) (by decide)
      · simp [k0, k1, k4, k6, k7, k25, k26, k27, c1, c2, c4]
        exact ⟨2, by omega, by omega, x, v, 0, _, by omega, hx, hv, by omega, ⟨rfl, _, hI1, c3⟩, ⟨rfl, rfl, rfl⟩, rfl, rfl⟩
      · rw [hI1] at hN
        simp only [c3] at hN
        simp [k0, k1, k4, k6, k7, k25, k26, k27, c1, c2, c4]
        exact ⟨hN, ⟨x, rfl⟩, 0, rfl⟩
    · obtain ⟨rfl, r1, hI1, hI2⟩ := hI
      obtain ⟨a, f, c1, c2, ⟨v, c3, hv, c4⟩ | ⟨c3, xx, d, c4⟩⟩ := line_ev r lengthL (by omega) (by decide)
      · simp [k0, k1, k4, k6, k7, k25, k26, k27, c1, c2, c4]
        exact ⟨3, by omega, by omega, x, y, v, _, by omega, hx, hy, hv, ⟨_, _, hI1, hI2, c3⟩, ⟨rfl, rfl, rfl⟩, rfl, rfl⟩
      · rw [hI1] at hN
        simp only [hI2, c3] at hN
        simp [k0, k1, k4, k6, k7, k25, k26, k27, c1, c2, c4]
        exact ⟨hN, ⟨x, rfl⟩, ⟨y, rfl⟩, 0, rfl⟩
    · obtain ⟨r1, r2, hI1, hI2, hI3⟩ := hI
      rw [hI1] at hN
      simp only [hI2, hI3] at hN
      have hh := head_ev b hb x y z hx hy hz
      by_cases he : b ++ numsL x y z = s
      · rw [if_pos he] at hN
        rw [he] at hh
        simp [k0, k1, k4, k6, k7, k25, k26, k27, hh]
        exact ⟨x, y, z, hN, rfl, rfl, rfl⟩
      · rw [if_neg he] at hN
        have he' : (b ++ numsL x y z == s) = false := by simpa using he
        generalize b ++ numsL x y z = w at *
        simp [k0, k1, k4, k6, k7, k25, k26, k27, hh, he']
        exact ⟨hN, ⟨x, rfl⟩, ⟨y, rfl⟩, z, rfl⟩
end Go.Ev.S
/- Messages are read. -/
namespace Go.Ev.S
open Go Go.Proofs Go.Ev
theorem cloneb_ev [MaxL] (x : Sl UInt8) (hx : x.l.length ≤ 100000) : call cx 66 [(.vsl x.nil (ofBytes x.l) x.l.length)] [] = some (.vsl x.nil (ofBytes x.l) x.l.length, []) := by
  have hm : x.l.length ≤ maxBytes := by unfold maxBytes; omega
  refine call_run Tryd.func66 rfl ⟨rfl, rfl⟩ ?_
  obtain ⟨n, l, h⟩ := x
  cases n with
  | true =>
    have := h rfl
    subst this
    simp [Tryd.f66]
  | false =>
    simp at hm
    simp [Tryd.f66, hm]
def stopL : List UInt8 := [13, 10, 13, 10]
/-- What a head and a body are, as messages that begin so. -/
def readB (s : List UInt8) (body : List UInt8) : List (List UInt8) → Nat → Msg × Int
  | [], _ => (.zero, 20)
  | b :: l, k => match numbersP s b with
    | none => readB s body l (k + 1)
    | some (x, y, z) => if 65536 < z then (.zero, 21) else if body.length < z then (.zero, 22) else if z < body.length then (.zero, 21) else (⟨k, x, y, .of body⟩, 0)
def readP (b : List UInt8) (l : List (List UInt8)) : Msg × Int := if idxN stopL b 0 = -1 then (.zero, 22) else readB (b.take ((idxN stopL b 0).toNat + 4)) (b.drop ((idxN stopL b 0).toNat + 4)) l 0
theorem bidx_ev [MaxL] (b : Sl UInt8) (hb : b.l.length ≤ 100000) : call cx 64 [(.vsl b.nil (ofBytes b.l) b.l.length), .vsl false [.int .u8 13, .int .u8 10, .int .u8 13, .int .u8 10] 4] [] = some (.int .i64 (idxN stopL b.l 0), []) := by
  refine call_con ?_
  have e : [D.int .u8 13, .int .u8 10, .int .u8 13, .int .u8 10] = ofBytes stopL := rfl
  rw [co64, e]
  simp only [conBIdx, bytesR_of]
  rw [if_pos ⟨trivial, rfl, by decide, by omega, by decide⟩]
structure StrE where
  s : List UInt8
instance : Enc StrE := ⟨1, fun p => [.str p.s], fun _ => rfl, fun _ => rfl⟩
set_option maxHeartbeats 2000000 in
theorem read_ev [MaxL] (b : Sl UInt8) (hb : b.l.length ≤ 90000) (l : List (List UInt8)) (hl : l.length ≤ 3) (hl2 : ∀ x ∈ l, x.length ≤ 1000) :
    call cx 44 [(.vsl b.nil (ofBytes b.l) b.l.length), .vsl false (l.map D.str) l.length] [] = some (.tup [.agg (Enc.cells (readP b.l l).1), .int .i64 (readP b.l l).2], []) := by
  have hi := bidx_ev b (by omega)
  refine call_run Tryd.func44 rfl ⟨rfl, rfl⟩ ?_
  unfold readP
  rcases idx_cases stopL b.l 0 with ⟨i, h1, h2, -⟩ | h1
  · rw [h1] at hi
    rw [h1, if_neg (by omega)]
    have e0 : ((0 + i : Nat) : Int).toNat = i := by omega
    rw [e0]
    have h2' : i + 4 ≤ b.l.length := h2
    rw [Nat.zero_add] at hi
    have hi0 : ¬ (i : Int) < 0 := by omega
    obtain ⟨j, hj⟩ : ∃ j, j = i + 4 := ⟨_, rfl⟩
    have hw : IntKind.i64.wrap ((i : Int) + 4) = (j : Int) := by rw [wrap_i64] <;> omega
    have g1 : (j : Int) ≤ (b.l.length : Int) := by omega
    have g2 : j ≤ b.l.length := by omega
    rw [← hj]
    have t1 : List.take j (ofBytes b.l) = ofBytes (b.l.take j) := ofBytes_take _ _
    have t2 : List.drop j (ofBytes b.l) = ofBytes (b.l.drop j) := ofBytes_drop _ _
    have hsl : (b.l.take j).length = j := by rw [List.length_take]; omega
    have hbl : (b.l.drop j).length = b.l.length - j := List.length_drop ..
    have hbn : b.nil = false := by
      cases hn : b.nil with
      | false => rfl
      | true => have := b.h hn; rw [this] at g2; simp at g2; omega
    generalize b.l.take j = s at *
    generalize hbd : b.l.drop j = body at *
    have hbl2 : body.length ≤ 90000 := by omega
    have t3 : List.take (b.l.length - j) (ofBytes body) = ofBytes body := List.take_of_length_le (by simp; omega)
    rw [hbn] at hi
    simp [Tryd.f44, hi, hi0, hw, g1, t1, t2, t3, hbn, hsl]
    generalize b.l.length - j = bl at *
    have wb : IntKind.u64.wrap (bl : Int) = (bl : Int) := by rw [wrap_u64]; omega
    have ex : ∀ k x, l[k]? = some x → (l.map D.str).drop k = .str x :: (l.map D.str).drop (k + 1) := fun k x hk => by
      have hlt : k < l.length := (List.getElem?_eq_some_iff.1 hk).1
      rw [List.drop_eq_getElem_cons (by simpa using hlt)]
      congr 1
      rw [List.getElem?_eq_getElem hlt] at hk
      simp [Option.some.inj hk]
    refine Run.loopThen (fun (k : Nat) e H' => k ≤ l.length ∧ readB s body (l.drop k) k = readB s body l 0 ∧
      ((H' = [some [.int .i64 0, .int .u64 0, .int .u64 0, .vsl true [] 0], some [.int .u8 13, .int .u8 10, .int .u8 13, .int .u8 10]]) ∨ ∃ w, H' = [some [.int .i64 0, .int .u64 0, .int .u64 0, .vsl true [] 0], some [.int .u8 13, .int .u8 10, .int .u8 13, .int .u8 10], w]) ∧
      look e 4 = some (.optr 0 4 0) ∧ look e 8 = some (.str s) ∧ look e 9 = some (.vsl false (ofBytes body) bl) ∧ look e 35 = some (.vsl false (l.map D.str) l.length) ∧ look e 36 = some (.int .i64 l.length) ∧ look e 37 = some (.int .i64 k)) (fun k => l.length - k) 0 ?_ ?_
    · simp
    rintro k e H' ⟨hk, hr, hH, k4, k8, k9, k35, k36, k37⟩
    by_cases hlt : k < l.length
    · have hlt' : (k : Int) < (l.length : Int) := by omega
      have hx := ex k l[k] (List.getElem?_eq_getElem hlt)
      have hw2 : IntKind.i64.wrap ((k : Int) + 1) = ((k + 1 : Nat) : Int) := by rw [wrap_i64] <;> omega
      rw [List.drop_eq_getElem_cons hlt, readB] at hr
      have hcl := cloneb_ev (.of body) (by simp; omega)
      simp at hcl
      rw [hbl] at hcl
      rcases numbers_ev s l[k] (by omega) (hl2 _ (List.getElem_mem hlt)) with ⟨x, y, z, n1, n2⟩ | ⟨n1, x, y, z, n2⟩
      · rw [n1] at hr
        simp only at hr
        rw [← hr, hbl]
        by_cases z1 : 65536 < z
        · have z1' : (65536 : Int) < (z : Int) := by omega
          rcases hH with rfl | ⟨w, rfl⟩ <;> simp [k4, k8, k9, k35, k36, k37, hlt', hx, n2, z1, z1']
          · rfl
          · rfl
        · have z1' : ¬ (65536 : Int) < (z : Int) := by omega
          by_cases z2 : bl < z
          · have z2' : (bl : Int) < (z : Int) := by omega
            rcases hH with rfl | ⟨w, rfl⟩ <;> simp [k4, k8, k9, k35, k36, k37, hlt', hx, n2, z1, z1', z2, z2', wb]
            · rfl
            · rfl
          · have z2' : ¬ (bl : Int) < (z : Int) := by omega
            by_cases z3 : z < bl
            · have z3' : (z : Int) < (bl : Int) := by omega
              rcases hH with rfl | ⟨w, rfl⟩ <;> simp [k4, k8, k9, k35, k36, k37, hlt', hx, n2, z1, z1', z2, z2', z3, z3', wb]
              · rfl
              · rfl
            · have z3' : ¬ (z : Int) < (bl : Int) := by omega
              rcases hH with rfl | ⟨w, rfl⟩ <;> simp [k4, k8, k9, k35, k36, k37, hlt', hx, n2, z1, z1', z2, z2', z3, z3', wb, hcl]
              · simp [Msg.cells, hbl]
              · simp [Msg.cells, hbl]
      · rw [n1] at hr
        simp only at hr
        rcases hH with rfl | ⟨w, rfl⟩ <;> simp [k4, k8, k9, k35, k36, k37, hlt', hx, n2, hw2]
        · exact ⟨k + 1, by omega, by omega, hr, by simp⟩
        · exact ⟨k + 1, by omega, by omega, hr, by simp⟩
    · have hlt' : ¬ (k : Int) < (l.length : Int) := by omega
      rw [List.drop_eq_nil_of_le (by omega), readB] at hr
      rw [← hr]
      rcases hH with rfl | ⟨w, rfl⟩ <;> simp [k4, k8, k9, k35, k36, k37, hlt']
      · rfl
      · rfl
  · rw [h1] at hi
    simp [Tryd.f44, hi, h1, Msg.cells, Msg.zero]
end Go.Ev.S
/- Requests and responses are read. -/
namespace Go.Ev.S
open Go Go.Proofs Go.Ev
theorem readB_kind (s body : List UInt8) : ∀ (l : List (List UInt8)) (k : Nat), (readB s body l k).2 = 0 → ∃ i x y z b, i < l.length ∧ l[i]? = some b ∧ numbersP s b = some (x, y, z) ∧ z = body.length ∧ body.length ≤ 65536 ∧ readB s body l k = (⟨((k + i : Nat) : Int), x, y, .of body⟩, 0)
  | [], k, h => by simp [readB] at h
  | b :: l, k, h => by
    unfold readB at h ⊢
    cases hn : numbersP s b with
    | none =>
      rw [hn] at h
      obtain ⟨i, x, y, z, b', h1, h2, h3, h4, h5, h6⟩ := readB_kind s body l (k + 1) h
      exact ⟨i + 1, x, y, z, b', by simp; omega, by simpa using h2, h3, h4, h5, by simp only; rw [h6]; congr 2; congr 1; omega⟩
    | some v =>
      obtain ⟨x, y, z⟩ := v
      rw [hn] at h
      simp only at h ⊢
      by_cases h1 : 65536 < z
      · rw [if_pos h1] at h; simp at h
      · rw [if_neg h1] at h ⊢
        by_cases h2 : body.length < z
        · rw [if_pos h2] at h; simp at h
        · rw [if_neg h2] at h ⊢
          by_cases h3 : z < body.length
          · rw [if_pos h3] at h; simp at h
          · rw [if_neg h3] at h ⊢
            exact ⟨0, x, y, z, b, by simp, by simp, hn, by omega, by omega, by simp⟩
theorem readP_kind {b : List UInt8} {l : List (List UInt8)} (h : (readP b l).2 = 0) : ∃ i x y, i < l.length ∧ readP b l = (⟨(i : Int), x, y, (readP b l).1.body⟩, 0) ∧ (readP b l).1.epoch = x ∧ (readP b l).1.number = y := by
  unfold readP at h ⊢
  split at h
  · simp at h
  · rename_i hh
    rw [if_neg hh]
    obtain ⟨i, x, y, z, b', h1, h2, h3, h4, h5, h6⟩ := readB_kind _ _ l 0 h
    rw [h6, Nat.zero_add]
    exact ⟨i, x, y, h1, rfl, rfl, rfl⟩
def pathOf (k : Int) : List UInt8 := if k = 0 then helloL else batchL
def statOf (k : Int) : Int := if k = 0 then 200 else if k = 1 then 400 else 409
def rqL : List (List UInt8) := [beginL helloL, beginL batchL]
def rsL : List (List UInt8) := [statusL 200, statusL 400, statusL 409]
def rdRq (b : List UInt8) : Rq × Int := if (readP b rqL).2 = 0 then (⟨pathOf (readP b rqL).1.kind, (readP b rqL).1.epoch, (readP b rqL).1.number, (readP b rqL).1.body⟩, 0) else (⟨[], 0, 0, .none⟩, (readP b rqL).2)
def rdRs (b : List UInt8) : Rs × Int := if (readP b rsL).2 = 0 then (⟨statOf (readP b rsL).1.kind, (readP b rsL).1.epoch, (readP b rsL).1.number, (readP b rsL).1.body⟩, 0) else (⟨0, 0, 0, .none⟩, (readP b rsL).2)
theorem rdrq_ev [MaxL] (b : Sl UInt8) (hb : b.l.length ≤ 90000) : call cx 17 [(.vsl b.nil (ofBytes b.l) b.l.length)] [] = some (.tup [.agg (Enc.cells (rdRq b.l).1), .int .i64 (rdRq b.l).2], []) := by
  have h := read_ev b hb rqL (by decide) (by decide)
  have h1 := begin_ev helloL (by decide)
  have h2 := begin_ev batchL (by decide)
  refine call_run Tryd.func17 rfl ⟨rfl, rfl⟩ ?_
  unfold rdRq
  have e1 : List.map D.str rqL = [.str (beginL helloL), .str (beginL batchL)] := rfl
  have e2 : rqL.length = 2 := rfl
  have p1 : [47, 104, 101, 108, 108, 111] = helloL := rfl
  have p2 : [47, 98, 97, 116, 99, 104] = batchL := rfl
  rw [e1, e2] at h
  generalize hm : readP b.l rqL = m at *
  by_cases hz : m.2 = 0
  · obtain ⟨i, x, y, hi, hr, q1, q2⟩ := readP_kind (b := b.l) (l := rqL) (by rw [hm]; exact hz)
    rw [hm] at hr q1 q2
    obtain ⟨⟨k, x', y', bd⟩, c⟩ := m
    simp only [Prod.mk.injEq, Msg.mk.injEq] at hr hz q1 q2
    obtain ⟨⟨rfl, rfl, rfl, -⟩, rfl⟩ := hr
    have : i = 0 ∨ i = 1 := by rw [e2] at hi; omega
    simp [Msg.cells] at h
    rcases this with rfl | rfl
    · simp [Tryd.f17, p1, p2, h1, h2, h, pathOf, Rq.cells]
    · simp [Tryd.f17, p1, p2, h1, h2, h, pathOf, Rq.cells]
  · simp [Tryd.f17, p1, p2, h1, h2, h, hz, Rq.cells]
theorem rdrs_ev [MaxL] (b : Sl UInt8) (hb : b.l.length ≤ 90000) : call cx 24 [(.vsl b.nil (ofBytes b.l) b.l.length)] [] = some (.tup [.agg (Enc.cells (rdRs b.l).1), .int .i64 (rdRs b.l).2], []) := by
  have h := read_ev b hb rsL (by decide) (by decide)
  have h1 := status_ev 200
  have h2 := status_ev 400
  have h3 := status_ev 409
  refine call_run Tryd.func24 rfl ⟨rfl, rfl⟩ ?_
  unfold rdRs
  have e1 : List.map D.str rsL = [.str (statusL 200), .str (statusL 400), .str (statusL 409)] := rfl
  have e2 : rsL.length = 3 := rfl
  rw [e1, e2] at h
  generalize hm : readP b.l rsL = m at *
  by_cases hz : m.2 = 0
  · obtain ⟨i, x, y, hi, hr, q1, q2⟩ := readP_kind (b := b.l) (l := rsL) (by rw [hm]; exact hz)
    rw [hm] at hr q1 q2
    obtain ⟨⟨k, x', y', bd⟩, c⟩ := m
    simp only [Prod.mk.injEq, Msg.mk.injEq] at hr hz q1 q2
    obtain ⟨⟨rfl, rfl, rfl, -⟩, rfl⟩ := hr
    have : i = 0 ∨ i = 1 ∨ i = 2 := by rw [e2] at hi; omega
    simp [Msg.cells] at h
    rcases this with rfl | rfl | rfl
    · simp [Tryd.f24, h1, h2, h3, h, statOf, Rs.cells]
    · simp [Tryd.f24, h1, h2, h3, h, statOf, Rs.cells]
    · simp [Tryd.f24, h1, h2, h3, h, statOf, Rs.cells]
  · simp [Tryd.f24, h1, h2, h3, h, hz, Rs.cells]
end Go.Ev.S
/- Plain laws on heads. -/
namespace Go.Ev.S
open Go Go.Proofs Go.Ev
theorem dval_dig {k : Nat} (h : k < 10) : dval (UInt8.ofNat (48 + k)) = some k := by
  have e : (UInt8.ofNat (48 + k)).toNat = 48 + k := UInt8.toNat_ofNat_of_lt' (show 48 + k < 256 by omega)
  unfold dval
  rw [if_pos (by rw [e]; omega), e]
  congr 1
  omega
theorem puGo_append (b : Nat) : ∀ (l r : List UInt8) (n : Nat), puGo b (l ++ r) n = match puGo b l n with
    | none => none
    | some m => puGo b r m
  | [], r, n => by simp [puGo]
  | c :: l, r, n => by
    simp only [List.cons_append, puGo]
    cases dval c with
    | none => rfl
    | some d =>
      simp only
      split
      · rfl
      · split
        · rfl
        · exact puGo_append b l r _
theorem puGo_decF : ∀ (f v : Nat), v < 10 ^ f → 1 ≤ f → v < 18446744073709551616 → puGo 10 (decF f v) 0 = some v
  | f + 1, v, h, _, h64 => by
    rw [decF]
    by_cases hv : v < 10
    · rw [if_pos hv]
      simp only [puGo, dval_dig hv]
      rw [if_neg (by omega), if_neg (by omega)]
      congr 1
      omega
    · rw [if_neg hv, puGo_append]
      have hf : 1 ≤ f := by
        rcases f with _ | f
        · simp at h; omega
        · omega
      rw [puGo_decF f (v / 10) (by rw [Nat.pow_succ] at h; omega) hf (by omega)]
      simp only [puGo, dval_dig (Nat.mod_lt v (by decide : 10 > 0))]
      rw [if_neg (by omega), if_neg (by omega)]
      congr 1
      omega
theorem pu_dec {v : Nat} (h : v < 18446744073709551616) : pu 10 (dec v) = some v := by
  have hp := dec_pos v
  unfold pu
  rw [if_neg (by intro e; rw [e] at hp; simp at hp)]
  exact puGo_decF 20 v (Nat.lt_trans h (by decide)) (by decide) h
theorem decF_ne : ∀ (f v : Nat), ∀ x ∈ decF f v, x ≠ 13
  | 0, _ => by simp [decF]
  | f + 1, v => by
    have key : ∀ k, k < 10 → UInt8.ofNat (48 + k) ≠ 13 := fun k hk e => by
      have := congrArg UInt8.toNat e
      rw [UInt8.toNat_ofNat_of_lt' (show 48 + k < 256 by omega)] at this
      simp at this
      omega
    rw [decF]
    split
    · intro x hx
      rw [List.mem_singleton.1 hx]
      exact key v (by assumption)
    · intro x hx
      rcases List.mem_append.1 hx with h | h
      · exact decF_ne f _ x h
      · rw [List.mem_singleton.1 h]
        exact key _ (Nat.mod_lt _ (by decide))
theorem dec_ne (v : Nat) : ∀ x ∈ dec v, x ≠ 13 := decF_ne 20 v
theorem idx_skip {sep : List UInt8} {a : UInt8} (hs : sep.head? = some a) : ∀ (A B : List UInt8) (n : Nat), (∀ x ∈ A, x ≠ a) → idxN sep (A ++ B) n = idxN sep B (n + A.length)
  | [], B, n, _ => by simp
  | x :: A, B, n, h => by
    have hx : x ≠ a := h x (by simp)
    obtain ⟨sep', rfl⟩ : ∃ l, sep = a :: l := by
      cases sep with
      | nil => simp at hs
      | cons y l => simp at hs; subst hs; exact ⟨l, rfl⟩
    rw [List.cons_append, idxN]
    have : ((a :: sep').isPrefixOf (x :: (A ++ B))) = false := by
      simp only [List.isPrefixOf, Bool.and_eq_false_iff]
      left
      simpa using Ne.symm hx
    rw [this, if_neg (by decide), idx_skip hs A B (n + 1) fun y hy => h y (by simp [hy])]
    congr 1
    simp
    omega
theorem idx_hit (sep B : List UInt8) (n : Nat) (h : sep ≠ []) : idxN sep (sep ++ B) n = (n : Int) := by
  have hp : sep.isPrefixOf (sep ++ B) = true := by simp
  cases sep with
  | nil => exact absurd rfl h
  | cons a l => rw [List.cons_append, idxN, ← List.cons_append, if_pos hp]
theorem idx_crlf (c : UInt8) (B : List UInt8) (n : Nat) (h : c ≠ 13) : idxN stopL (crlf ++ (c :: B)) n = idxN stopL (c :: B) (n + 2) := by
  have hc : (13 == c) = false := by simpa using Ne.symm h
  show idxN stopL (13 :: 10 :: c :: B) n = _
  rw [idxN, if_neg (by simp [stopL, List.isPrefixOf, hc]), idxN, if_neg (by simp [stopL, List.isPrefixOf])]
theorem cut_crlf (A B : List UInt8) (h : ∀ x ∈ A, x ≠ 13) : cutL crlf (A ++ (crlf ++ B)) = (A, B, true) := by
  have hi : idxN crlf (A ++ (crlf ++ B)) 0 = (A.length : Int) := by
    rw [idx_skip (a := 13) rfl A _ 0 h, Nat.zero_add]
    exact idx_hit crlf B _ (by decide)
  unfold cutL
  rw [hi, if_neg (by omega)]
  have e : ((A.length : Nat) : Int).toNat = A.length := by omega
  rw [e]
  have e2 : List.drop (A.length + crlf.length) (A ++ (crlf ++ B)) = B := by
    rw [← List.append_assoc, ← List.length_append]
    exact List.drop_left
  rw [e2, List.take_left]
theorem trim_pre (p s : List UInt8) : trimL p (p ++ s) = s := by
  unfold trimL pre
  simp
theorem line_dec (line : List UInt8) (hl : ∀ x ∈ line, x ≠ 13) {D : List UInt8} (hD : ∀ x ∈ D, x ≠ 13) (B : List UInt8) : lineP line (line ++ (D ++ (crlf ++ B))) = match pu 10 D with
    | none => none
    | some v => some (v, B) := by
  unfold lineP
  rw [← List.append_assoc, cut_crlf (line ++ D) B (fun x hx => by
    rcases List.mem_append.1 hx with h | h
    · exact hl x h
    · exact hD x h)]
  simp only [trim_pre] <;> cases pu 10 D <;> rfl
/-- The lines of numbers, the last one as any digits. -/
def numsD (e n : Nat) (D : List UInt8) : List UInt8 := epochL ++ (dec e ++ (crlf ++ (numberL ++ (dec n ++ (crlf ++ (lengthL ++ (D ++ (crlf ++ crlf))))))))
theorem numsD_dec (e n l : Nat) : numsD e n (dec l) = numsL e n l := rfl
theorem numbers_D (b : List UInt8) (e n : Nat) (he : e < 18446744073709551616) (hn : n < 18446744073709551616) (D : List UInt8) (hD : ∀ x ∈ D, x ≠ 13) :
    numbersP (b ++ numsD e n D) b = match pu 10 D with
      | none => none
      | some v => if dec v = D then some (e, n, v) else none := by
  have hpre : pre b (b ++ numsD e n D) = true := by unfold pre; simp
  have e1 : lineP epochL (numsD e n D) = some (e, numberL ++ (dec n ++ (crlf ++ (lengthL ++ (D ++ (crlf ++ crlf)))))) := by
    unfold numsD
    rw [line_dec epochL (by decide) (dec_ne e), pu_dec he]
  have e2 : lineP numberL (numberL ++ (dec n ++ (crlf ++ (lengthL ++ (D ++ (crlf ++ crlf)))))) = some (n, lengthL ++ (D ++ (crlf ++ crlf))) := by
    rw [line_dec numberL (by decide) (dec_ne n), pu_dec hn]
  have e3 : lineP lengthL (lengthL ++ (D ++ (crlf ++ crlf))) = match pu 10 D with
      | none => none
      | some v => some (v, crlf) := line_dec lengthL (by decide) hD crlf
  rw [numbersP, if_pos hpre, List.drop_left, e1]
  simp only [e2, e3]
  cases hp : pu 10 D with
  | none => rfl
  | some v =>
    simp only
    have : (b ++ numsL e n v = b ++ numsD e n D) ↔ dec v = D := by
      rw [← numsD_dec]
      unfold numsD
      simp
    simp [this]
theorem numbers_nums (b : List UInt8) (e n l : Nat) (he : e < 18446744073709551616) (hn : n < 18446744073709551616) (hl : l < 18446744073709551616) : numbersP (b ++ numsL e n l) b = some (e, n, l) := by
  rw [← numsD_dec, numbers_D b e n he hn (dec l) (dec_ne l), pu_dec hl]
  simp
theorem numbers_pre {s b : List UInt8} (h : pre b s = false) : numbersP s b = none := by
  rw [numbersP, h, if_neg (by decide)]
theorem numbers_inv {s b : List UInt8} {x y z : Nat} (h : numbersP s b = some (x, y, z)) : s = b ++ numsL x y z := by
  unfold numbersP at h
  split at h
  · split at h
    · cases h
    · split at h
      · cases h
      · split at h
        · cases h
        · split at h
          · rename_i he
            injection h with h
            injection h with h1 h
            injection h with h2 h3
            subst h1; subst h2; subst h3
            exact he.symm
          · cases h
  · cases h
/-- Where a head ends: behind its beginning and the lines of numbers. -/
theorem idx_nums (e n : Nat) (D : List UInt8) (hD : ∀ x ∈ D, x ≠ 13) (body : List UInt8) (k : Nat) : idxN stopL (numsD e n D ++ body) k = ((k + (numsD e n D).length - 4 : Nat) : Int) := by
  unfold numsD
  simp only [List.append_assoc]
  rw [idx_skip (a := 13) rfl epochL _ _ (by decide), idx_skip (a := 13) rfl (dec e) _ _ (dec_ne e)]
  show idxN stopL (crlf ++ (88 :: ([45, 78, 117, 109, 98, 101, 114, 58, 32] ++ (dec n ++ (crlf ++ (lengthL ++ (D ++ (crlf ++ (crlf ++ body))))))))) _ = _
  rw [idx_crlf 88 _ _ (by decide)]
  show idxN stopL (numberL ++ (dec n ++ (crlf ++ (lengthL ++ (D ++ (crlf ++ (crlf ++ body))))))) _ = _
  rw [idx_skip (a := 13) rfl numberL _ _ (by decide), idx_skip (a := 13) rfl (dec n) _ _ (dec_ne n)]
  show idxN stopL (crlf ++ (67 :: ([111, 110, 116, 101, 110, 116, 45, 76, 101, 110, 103, 116, 104, 58, 32] ++ (D ++ (crlf ++ (crlf ++ body)))))) _ = _
  rw [idx_crlf 67 _ _ (by decide)]
  show idxN stopL (lengthL ++ (D ++ (crlf ++ (crlf ++ body)))) _ = _
  rw [idx_skip (a := 13) rfl lengthL _ _ (by decide), idx_skip (a := 13) rfl D _ _ hD]
  show idxN stopL (stopL ++ body) _ = _
  rw [idx_hit stopL body _ (by decide)]
  congr 1
  simp only [List.length_append, crlf, List.length_cons, List.length_nil]
  omega
/-- What a head begins with, and how it ends. -/
def Beg (b : List UInt8) : Prop := ∀ (R : List UInt8) (k : Nat), idxN stopL (b ++ (88 :: R)) k = idxN stopL (88 :: R) (k + b.length)
theorem beg_begin (p : List UInt8) (hp : ∀ x ∈ p, x ≠ 13) : Beg (beginL p) := by
  intro R k
  unfold beginL
  simp only [List.append_assoc]
  rw [idx_skip (a := 13) rfl postL _ _ (by decide), idx_skip (a := 13) rfl p _ _ hp, idx_skip (a := 13) rfl httpL _ _ (by decide)]
  show idxN stopL (crlf ++ (72 :: ([111, 115, 116, 58, 32, 114, 101, 99, 101, 105, 118, 101, 114] ++ (crlf ++ (ctypeL ++ (crlf ++ (88 :: R))))))) _ = _
  rw [idx_crlf 72 _ _ (by decide)]
  show idxN stopL (hostL ++ (crlf ++ (ctypeL ++ (crlf ++ (88 :: R))))) _ = _
  rw [idx_skip (a := 13) rfl hostL _ _ (by decide)]
  show idxN stopL (crlf ++ (67 :: ([111, 110, 116, 101, 110, 116, 45, 84, 121, 112, 101, 58, 32, 97, 112, 112, 108, 105, 99, 97, 116, 105, 111, 110, 47, 118, 110, 100, 46, 102, 100, 111, 46, 106, 111, 117, 114, 110, 97, 108] ++ (crlf ++ (88 :: R))))) _ = _
  rw [idx_crlf 67 _ _ (by decide)]
  show idxN stopL (ctypeL ++ (crlf ++ (88 :: R))) _ = _
  rw [idx_skip (a := 13) rfl ctypeL _ _ (by decide), idx_crlf 88 _ _ (by decide)]
  congr 1
  simp only [List.length_append, crlf, hostL, ctypeL, List.length_cons, List.length_nil]
  omega
theorem beg_status (n : Int) : Beg (statusL n) := by
  intro R k
  unfold statusL
  have h : ∀ x ∈ (if n = 400 then badStr else if n = 409 then conStr else okStr), x ≠ 13 := by
    split
    · decide
    · split <;> decide
  generalize (if n = 400 then badStr else if n = 409 then conStr else okStr) = w at *
  simp only [List.append_assoc]
  rw [idx_skip (a := 13) rfl [72, 84, 84, 80, 47, 49, 46, 49, 32] _ _ (by decide), idx_skip (a := 13) rfl w _ _ h]
  show idxN stopL (crlf ++ (88 :: R)) _ = _
  rw [idx_crlf 88 _ _ (by decide)]
  congr 1
  simp only [List.length_append, List.length_cons, List.length_nil]
  omega
theorem idx_head {b : List UInt8} (hb : Beg b) (e n : Nat) (D : List UInt8) (hD : ∀ x ∈ D, x ≠ 13) (body : List UInt8) : idxN stopL (b ++ (numsD e n D ++ body)) 0 = ((b.length + (numsD e n D).length - 4 : Nat) : Int) := by
  have h := hb ((numsD e n D ++ body).tail) 0
  have e1 : 88 :: (numsD e n D ++ body).tail = numsD e n D ++ body := by
    unfold numsD epochL
    rfl
  rw [e1, Nat.zero_add] at h
  rw [h, idx_nums e n D hD body]
theorem numsD_len (e n : Nat) (D : List UInt8) : 4 ≤ (numsD e n D).length := by
  simp only [numsD, List.length_append, epochL, List.length_cons, List.length_nil]
  omega
/-- What is read of a head and a body. -/
theorem readP_head {b : List UInt8} (hb : Beg b) (e n : Nat) (D : List UInt8) (hD : ∀ x ∈ D, x ≠ 13) (body : List UInt8) (l : List (List UInt8)) : readP (b ++ (numsD e n D ++ body)) l = readB (b ++ numsD e n D) body l 0 := by
  have hi := idx_head hb e n D hD body
  have h4 := numsD_len e n D
  unfold readP
  rw [hi, if_neg (by omega)]
  have e1 : ((b.length + (numsD e n D).length - 4 : Nat) : Int).toNat + 4 = (b ++ numsD e n D).length := by
    rw [List.length_append]
    omega
  rw [e1, ← List.append_assoc, List.take_left, List.drop_left]
end Go.Ev.S
/- Small numbers. -/
namespace Go.Ev.S
open Go Go.Proofs Go.Ev
theorem number_ev [MaxL] (n b : Int) : call cx 13 [.int .i64 n, .int .i64 b] [] = some (.int .i64 (if b < 1 then 0 else (IntKind.i64.wrap (n.tmod b + b)).tmod b), []) := by
  refine call_run Tryd.func13 rfl ⟨rfl, rfl⟩ ?_
  by_cases h1 : b < 1
  · simp [Tryd.f13, h1]
  · have h2 : b ≠ 0 := by omega
    simp [Tryd.f13, h1, h2]
/-- A number below b. -/
theorem num_ev [MaxL] (n : Int) (b : Nat) (hb : 1 ≤ b) (hb2 : b ≤ 1000000) : ∃ x : Nat, x < b ∧ call cx 13 [.int .i64 n, .int .i64 b] [] = some (.int .i64 x, []) := by
  have h1 : n.tmod b < b := Int.tmod_lt_of_pos _ (by omega)
  have h2 : -(b : Int) < n.tmod b := by
    have := Int.tmod_lt_of_pos (-n) (show (0 : Int) < b by omega)
    rw [Int.neg_tmod] at this
    omega
  have h := number_ev n b
  rw [if_neg (by omega)] at h
  generalize n.tmod b = x at *
  have hw : IntKind.i64.wrap (x + b) = x + b := by rw [wrap_i64]; omega
  rw [hw] at h
  have h3 : 0 ≤ x + b := by omega
  have h4 := Int.tmod_nonneg (b : Int) h3
  have h5 := Int.tmod_lt_of_pos (x + b) (show (0 : Int) < b by omega)
  refine ⟨((x + b).tmod b).toNat, by omega, ?_⟩
  rw [h]
  congr 3
  omega
end Go.Ev.S
/- What the statements on requests call. -/
namespace Go.Ev.S
open Go Go.Proofs Go.Ev
theorem lpath_ev [MaxL] (n : Int) : ∃ p, (p = helloL ∨ p = batchL) ∧ call cx 16 [.int .i64 n] [] = some (.str p, []) := by
  obtain ⟨k, hk, hn⟩ := num_ev n 2 (by omega) (by omega)
  replace hn : call cx 13 [.int .i64 n, .int .i64 2] [] = some (.int .i64 k, []) := hn
  have : k = 0 ∨ k = 1 := by omega
  rcases this with rfl | rfl
  · refine ⟨helloL, .inl rfl, ?_⟩
    refine call_run Tryd.func16 rfl ⟨rfl, rfl⟩ ?_
    simp [Tryd.f16, hn, helloL]
  · refine ⟨batchL, .inr rfl, ?_⟩
    refine call_run Tryd.func16 rfl ⟨rfl, rfl⟩ ?_
    simp [Tryd.f16, hn, batchL]
theorem lstat_ev [MaxL] (n : Int) : ∃ s : Int, (s = 200 ∨ s = 400 ∨ s = 409) ∧ call cx 19 [.int .i64 n] [] = some (.int .i64 s, []) := by
  obtain ⟨k, hk, hn⟩ := num_ev n 3 (by omega) (by omega)
  replace hn : call cx 13 [.int .i64 n, .int .i64 3] [] = some (.int .i64 k, []) := hn
  have : k = 0 ∨ k = 1 ∨ k = 2 := by omega
  rcases this with rfl | rfl | rfl
  · refine ⟨200, .inl rfl, ?_⟩
    refine call_run Tryd.func19 rfl ⟨rfl, rfl⟩ ?_
    simp [Tryd.f19, hn]
  · refine ⟨400, .inr (.inl rfl), ?_⟩
    refine call_run Tryd.func19 rfl ⟨rfl, rfl⟩ ?_
    simp [Tryd.f19, hn]
  · refine ⟨409, .inr (.inr rfl), ?_⟩
    refine call_run Tryd.func19 rfl ⟨rfl, rfl⟩ ?_
    simp [Tryd.f19, hn]
theorem sameb_ev [MaxL] (x y : Sl UInt8) : call cx 30 [(.vsl x.nil (ofBytes x.l) x.l.length), (.vsl y.nil (ofBytes y.l) y.l.length)] [] = some (.bool (x.l == y.l), []) := by
  refine call_run Tryd.func30 rfl ⟨rfl, rfl⟩ ?_
  simp [Tryd.f30]
theorem asked_ev [MaxL] (r : Rq) : call cx 27 [.agg (Enc.cells r)] [] = some (.agg (Enc.cells r), []) := by
  refine call_run Tryd.func27 rfl ⟨rfl, rfl⟩ ?_
  simp [Tryd.f27, Rq.cells]
theorem told_ev [MaxL] (r : Rs) : call cx 29 [.agg (Enc.cells r)] [] = some (.agg (Enc.cells r), []) := by
  refine call_run Tryd.func29 rfl ⟨rfl, rfl⟩ ?_
  simp [Tryd.f29, Rs.cells]
def eqRq (a b : Rq) : Bool := a.path == b.path && a.epoch == b.epoch && a.number == b.number && a.body.l == b.body.l
def eqRs (a b : Rs) : Bool := a.status == b.status && a.epoch == b.epoch && a.number == b.number && a.body.l == b.body.l
theorem samea_ev [MaxL] (a b : Rq) (h : eqRq a b = true) : call cx 26 [.agg (Enc.cells a), .agg (Enc.cells b)] [] = some (.bool true, []) := by
  unfold eqRq at h
  simp only [Bool.and_eq_true] at h
  obtain ⟨⟨⟨h1, h2⟩, h3⟩, h4⟩ := h
  have hb := sameb_ev a.body b.body
  rw [h4] at hb
  have h1' := beq_iff_eq.1 h1
  have h2' := beq_iff_eq.1 h2
  have h3' := beq_iff_eq.1 h3
  refine call_run Tryd.func26 rfl ⟨rfl, rfl⟩ ?_
  simp [Tryd.f26, Rq.cells, h1', h2', h3', hb]
theorem samet_ev [MaxL] (a b : Rs) (h : eqRs a b = true) : call cx 28 [.agg (Enc.cells a), .agg (Enc.cells b)] [] = some (.bool true, []) := by
  unfold eqRs at h
  simp only [Bool.and_eq_true] at h
  obtain ⟨⟨⟨h1, h2⟩, h3⟩, h4⟩ := h
  have hb := sameb_ev a.body b.body
  rw [h4] at hb
  have h1' := beq_iff_eq.1 h1
  have h2' := beq_iff_eq.1 h2
  have h3' := beq_iff_eq.1 h3
  refine call_run Tryd.func28 rfl ⟨rfl, rfl⟩ ?_
  simp [Tryd.f28, Rs.cells, h1', h2', h3', hb]
end Go.Ev.S
/- HttpBack: the law answers true. -/
namespace Go.Ev.S
open Go Go.Proofs Go.Ev
theorem pre_ne {b c : List UInt8} (X : List UInt8) (i : Nat) (hb : i < b.length) (hc : i < c.length) (h : b[i]? ≠ c[i]?) : pre b (c ++ X) = false := by
  unfold pre
  rw [beq_eq_false_iff_ne]
  intro e
  have : (List.take b.length (c ++ X))[i]? = b[i]? := by rw [e]
  rw [List.getElem?_take_of_lt hb, List.getElem?_append_left hc] at this
  exact h this.symm
theorem hello_batch (X : List UInt8) : pre (beginL helloL) (beginL batchL ++ X) = false := pre_ne X 6 (by decide) (by decide) (by decide)
theorem batch_hello (X : List UInt8) : pre (beginL batchL) (beginL helloL ++ X) = false := pre_ne X 6 (by decide) (by decide) (by decide)
theorem begin_status (p : List UInt8) (hp : p = helloL ∨ p = batchL) (s : Int) (hs : s = 200 ∨ s = 400 ∨ s = 409) (X : List UInt8) : pre (beginL p) (statusL s ++ X) = false := by
  rcases hp with rfl | rfl <;> rcases hs with rfl | rfl | rfl <;> exact pre_ne X 0 (by decide) (by decide) (by decide)
theorem status_begin (p : List UInt8) (hp : p = helloL ∨ p = batchL) (s : Int) (hs : s = 200 ∨ s = 400 ∨ s = 409) (X : List UInt8) : pre (statusL s) (beginL p ++ X) = false := by
  rcases hp with rfl | rfl <;> rcases hs with rfl | rfl | rfl <;> exact pre_ne X 0 (by decide) (by decide) (by decide)
theorem status_ne (s t : Int) (hs : s = 200 ∨ s = 400 ∨ s = 409) (ht : t = 200 ∨ t = 400 ∨ t = 409) (hne : s ≠ t) (X : List UInt8) : pre (statusL s) (statusL t ++ X) = false := by
  rcases hs with rfl | rfl | rfl <;> rcases ht with rfl | rfl | rfl <;> first | exact absurd rfl hne | exact pre_ne X 9 (by decide) (by decide) (by decide) | exact pre_ne X 11 (by decide) (by decide) (by decide)
/-- What numbers, once they are read, make of a message. -/
def gotB (k : Nat) (x y z : Nat) (body : List UInt8) : Msg × Int := if 65536 < z then (.zero, 21) else if body.length < z then (.zero, 22) else if z < body.length then (.zero, 21) else (⟨k, x, y, .of body⟩, 0)
theorem readB_cons (s body b : List UInt8) (l : List (List UInt8)) (k : Nat) : readB s body (b :: l) k = match numbersP s b with
    | none => readB s body l (k + 1)
    | some (x, y, z) => gotB k x y z body := rfl
theorem gotB_ok (k x y : Nat) (body : List UInt8) (h : body.length ≤ 65536) : gotB k x y body.length body = (⟨k, x, y, .of body⟩, 0) := by
  unfold gotB
  rw [if_neg (by omega), if_neg (by omega), if_neg (by omega)]
section
variable (e n : Nat) (he : e < 18446744073709551616) (hn : n < 18446744073709551616) (body : List UInt8) (hb : body.length ≤ 65536)
include he hn hb
theorem rdRq_back (p : List UInt8) (hp : p = helloL ∨ p = batchL) : rdRq (beginL p ++ (numsL e n body.length ++ body)) = (⟨p, e, n, .of body⟩, 0) := by
  have hr : readP (beginL p ++ (numsL e n body.length ++ body)) rqL = (⟨if p = helloL then 0 else 1, e, n, .of body⟩, 0) := by
    rw [← numsD_dec, readP_head (beg_begin p (by rcases hp with rfl | rfl <;> decide)) e n _ (dec_ne _) body, numsD_dec]
    unfold rqL
    rw [readB_cons]
    rcases hp with rfl | rfl
    · rw [numbers_nums _ e n _ he hn (by omega)]
      simp only [gotB_ok 0 e n body hb, if_true]
      rfl
    · rw [numbers_pre (hello_batch _)]
      simp only [readB_cons, numbers_nums (beginL batchL) e n body.length he hn (by omega), gotB_ok 1 e n body hb]
      rw [if_neg (by decide)]
      rfl
  unfold rdRq
  rw [hr, if_pos rfl]
  simp only
  rcases hp with rfl | rfl
  · rw [if_pos rfl]; rfl
  · rw [if_neg (by decide)]; rfl
theorem rdRs_back (s : Int) (hs : s = 200 ∨ s = 400 ∨ s = 409) : rdRs (statusL s ++ (numsL e n body.length ++ body)) = (⟨s, e, n, .of body⟩, 0) := by
  have hr : readP (statusL s ++ (numsL e n body.length ++ body)) rsL = (⟨if s = 200 then 0 else if s = 400 then 1 else 2, e, n, .of body⟩, 0) := by
    rw [← numsD_dec, readP_head (beg_status s) e n _ (dec_ne _) body, numsD_dec]
    unfold rsL
    rw [readB_cons]
    rcases hs with rfl | rfl | rfl
    · rw [numbers_nums _ e n _ he hn (by omega)]
      simp only [gotB_ok 0 e n body hb, if_true]
      rfl
    · rw [numbers_pre (status_ne 200 400 (by simp) (by simp) (by decide) _)]
      simp only [readB_cons, numbers_nums (statusL 400) e n body.length he hn (by omega), gotB_ok 1 e n body hb]
      rw [if_neg (by decide), if_pos trivial]
      rfl
    · rw [numbers_pre (status_ne 200 409 (by simp) (by simp) (by decide) _)]
      simp only [readB_cons, numbers_pre (status_ne 400 409 (by simp) (by simp) (by decide) _), numbers_nums (statusL 409) e n body.length he hn (by omega), gotB_ok 2 e n body hb]
      rw [if_neg (by decide), if_neg (by decide)]
      rfl
  unfold rdRs
  rw [hr, if_pos rfl]
  simp only
  rcases hs with rfl | rfl | rfl
  · rw [if_pos rfl]; rfl
  · rw [if_neg (by decide), if_pos rfl]; rfl
  · rw [if_neg (by decide), if_neg (by decide)]; rfl
omit he hn hb in
theorem rdRq_other (s : Int) (hs : s = 200 ∨ s = 400 ∨ s = 409) : (rdRq (statusL s ++ (numsL e n body.length ++ body))).2 = 20 := by
  have hr : readP (statusL s ++ (numsL e n body.length ++ body)) rqL = (.zero, 20) := by
    rw [← numsD_dec, readP_head (beg_status s) e n _ (dec_ne _) body]
    unfold rqL
    rw [readB_cons, numbers_pre (begin_status _ (.inl rfl) s hs _)]
    simp only [numbers_pre (begin_status _ (.inr rfl) s hs _), readB]
  unfold rdRq
  rw [hr, if_neg (by decide)]
omit he hn hb in
theorem rdRs_other (p : List UInt8) (hp : p = helloL ∨ p = batchL) : (rdRs (beginL p ++ (numsL e n body.length ++ body))).2 = 20 := by
  have hr : readP (beginL p ++ (numsL e n body.length ++ body)) rsL = (.zero, 20) := by
    rw [← numsD_dec, readP_head (beg_begin p (by rcases hp with rfl | rfl <;> decide)) e n _ (dec_ne _) body]
    unfold rsL
    rw [readB_cons, numbers_pre (status_begin p hp 200 (by simp) _)]
    simp only [numbers_pre (status_begin p hp 400 (by simp) _), numbers_pre (status_begin p hp 409 (by simp) _), readB]
  unfold rdRs
  rw [hr, if_neg (by decide)]
end
end Go.Ev.S
/- HttpBack: the law answers true. -/
namespace Go.Ev.S
open Go Go.Proofs Go.Ev
theorem putrq_eq (p : List UInt8) (hp : p = helloL ∨ p = batchL) (e n : Int) (b : Sl UInt8) (hb : b.l.length ≤ 65536) : putRq ⟨p, e, n, b⟩ = .of (beginL p ++ (numsL e.toNat n.toNat b.l.length ++ b.l)) := by
  have h1 : (p == helloL || p == batchL) = true := by rcases hp with rfl | rfl <;> decide
  unfold putRq putS
  simp only [h1, if_true]
  rw [if_neg (by omega)]
theorem putrs_eq (s : Int) (hs : s = 200 ∨ s = 400 ∨ s = 409) (e n : Int) (b : Sl UInt8) (hb : b.l.length ≤ 65536) : putRs ⟨s, e, n, b⟩ = .of (statusL s ++ (numsL e.toNat n.toNat b.l.length ++ b.l)) := by
  unfold putRs putS
  simp only [hs, if_true]
  rw [if_neg (by omega)]
theorem rq_len (p : List UInt8) (hp : p = helloL ∨ p = batchL) (e n : Nat) (b : List UInt8) : (beginL p ++ (numsL e n b.length ++ b)).length ≤ 300 + b.length := by
  have h1 := nums_len e n b.length
  have h2 : (beginL p).length = 81 := by rcases hp with rfl | rfl <;> decide
  simp only [List.length_append]
  omega
theorem rs_len (s : Int) (e n : Nat) (b : List UInt8) : (statusL s ++ (numsL e n b.length ++ b)).length ≤ 300 + b.length := by
  have h1 := nums_len e n b.length
  have h2 := status_len s
  simp only [List.length_append]
  omega
set_option maxHeartbeats 2000000 in
set_option maxRecDepth 4000 in
theorem back_ev [MaxL] (n : Int) (e m : Int) (he : isU64 e) (hm : isU64 m) (body : Sl UInt8) : call cx 7 [.int .i64 n, .int .u64 e, .int .u64 m, (.vsl body.nil (ofBytes body.l) body.l.length)] [] = some (.bool true, []) := by
  have hf := first27_ev
  refine call_run Tryd.func7 rfl ⟨rfl, rfl⟩ ?_
  by_cases h1 : body.l.length ≤ 600
  · have h1' : ¬ (600 : Int) < (body.l.length : Int) := by omega
    obtain ⟨p, hp, hpe⟩ := lpath_ev n
    obtain ⟨s, hs, hse⟩ := lstat_ev n
    have he64 : e.toNat < 18446744073709551616 := by unfold isU64 at he; omega
    have hm64 : m.toNat < 18446744073709551616 := by unfold isU64 at hm; omega
    have ee : ((e.toNat : Nat) : Int) = e := by unfold isU64 at he; omega
    have em : ((m.toNat : Nat) : Int) = m := by unfold isU64 at hm; omega
    have a1 := putrq_ev ⟨p, e, m, body⟩ he hm (show p.length ≤ 100 by rcases hp with rfl | rfl <;> decide) (by simp only; omega)
    have a2 := putrs_ev ⟨s, e, m, body⟩ he hm (by simp only; omega)
    rw [putrq_eq p hp e m body (by omega)] at a1
    rw [putrs_eq s hs e m body (by omega)] at a2
    have l1 := rq_len p hp e.toNat m.toNat body.l
    have l2 := rs_len s e.toNat m.toNat body.l
    have b1 := rdRq_back e.toNat m.toNat he64 hm64 body.l (by omega) p hp
    have b2 := rdRs_back e.toNat m.toNat he64 hm64 body.l (by omega) s hs
    have b3 := rdRq_other e.toNat m.toNat body.l s hs
    have b4 := rdRs_other e.toNat m.toNat body.l p hp
    rw [ee, em] at b1 b2
    generalize beginL p ++ (numsL e.toNat m.toNat body.l.length ++ body.l) = x at *
    generalize statusL s ++ (numsL e.toNat m.toNat body.l.length ++ body.l) = y at *
    have c1 := rdrq_ev (.of x) (by simp; omega)
    have c2 := rdrs_ev (.of y) (by simp; omega)
    have c3 := rdrq_ev (.of y) (by simp; omega)
    have c4 := rdrs_ev (.of x) (by simp; omega)
    simp only [Sl.of_l, b1] at c1
    simp only [Sl.of_l, b2] at c2
    simp only [Sl.of_l, b3] at c3
    simp only [Sl.of_l, b4] at c4
    have d1 := samea_ev ⟨p, e, m, .of body.l⟩ ⟨p, e, m, body⟩ (by simp [eqRq])
    have d2 := samet_ev ⟨s, e, m, .of body.l⟩ ⟨s, e, m, body⟩ (by simp [eqRs])
    have d3 := asked_ev ⟨p, e, m, .of body.l⟩
    have d4 := asked_ev ⟨p, e, m, body⟩
    have d5 := told_ev ⟨s, e, m, .of body.l⟩
    have d6 := told_ev ⟨s, e, m, body⟩
    generalize (rdRq y).1 = q1 at *
    generalize (rdRs x).1 = q2 at *
    clear b1 b2 b3 b4 l1 l2 he64 hm64 ee em he hm hp hs
    simp [Rq.cells, Rs.cells] at a1 a2 c1 c2 c3 c4 d1 d2 d3 d4 d5 d6
    simp [Tryd.f7, hf, h1', hpe, hse, a1, a2, c1, c2, c3, c4, d1, d2, d3, d4, d5, d6]
  · have h1' : (600 : Int) < (body.l.length : Int) := by omega
    simp [Tryd.f7, hf, h1']
end Go.Ev.S
/- HttpCut: the law answers true. -/
namespace Go.Ev.S
open Go Go.Proofs Go.Ev
theorem idx_min (sep : List UInt8) : ∀ (s : List UInt8) (n i : Nat), i ≤ s.length → sep.isPrefixOf (s.drop i) = true → 0 ≤ idxN sep s n ∧ idxN sep s n ≤ ((n + i : Nat) : Int)
  | [], n, i, hi, h => by
    have : i = 0 := by simpa using hi
    subst this
    unfold idxN
    cases sep with
    | nil => simp
    | cons a l => simp at h
  | b :: l, n, i, hi, h => by
    unfold idxN
    by_cases hp : sep.isPrefixOf (b :: l) = true
    · rw [if_pos hp]; omega
    · rw [if_neg hp]
      cases i with
      | zero => rw [List.drop_zero] at h; exact absurd h hp
      | succ i =>
        have := idx_min sep l (n + 1) i (by simpa using hi) (by simpa using h)
        omega
theorem pre_take {sep s : List UInt8} {i k : Nat} (h : sep.isPrefixOf ((s.take k).drop i) = true) : sep.isPrefixOf (s.drop i) = true := by
  rw [List.isPrefixOf_iff_prefix] at h ⊢
  refine h.trans ?_
  rw [List.drop_take]
  exact List.take_prefix _ _
theorem idx_cut {sep s : List UInt8} {j k : Nat} (hs : idxN sep s 0 = (j : Int)) (hk : k < j + sep.length) : idxN sep (s.take k) 0 = -1 := by
  rcases idx_cases sep (s.take k) 0 with ⟨i, h1, h2, h3⟩ | h
  · exfalso
    have hl : (s.take k).length ≤ k := by simp; omega
    have hls : (s.take k).length ≤ s.length := by simp; omega
    have := (idx_min sep s 0 i (by omega) (pre_take h3)).2
    rw [hs] at this
    omega
  · exact h
section
variable (e n z : Nat) (he : e < 18446744073709551616) (hn : n < 18446744073709551616) (hz : z < 18446744073709551616) (body : List UInt8)
include he hn hz
theorem rq_at (p : List UInt8) (hp : p = helloL ∨ p = batchL) : readP (beginL p ++ (numsL e n z ++ body)) rqL = gotB (if p = helloL then 0 else 1) e n z body := by
  rw [← numsD_dec, readP_head (beg_begin p (by rcases hp with rfl | rfl <;> decide)) e n _ (dec_ne _) body, numsD_dec]
  unfold rqL
  rw [readB_cons]
  rcases hp with rfl | rfl
  · rw [numbers_nums _ e n _ he hn hz]
    simp only [if_true]
  · rw [numbers_pre (hello_batch _)]
    simp only [readB_cons, numbers_nums (beginL batchL) e n z he hn hz]
    rw [if_neg (by decide)]
theorem rs_at (s : Int) (hs : s = 200 ∨ s = 400 ∨ s = 409) : readP (statusL s ++ (numsL e n z ++ body)) rsL = gotB (if s = 200 then 0 else if s = 400 then 1 else 2) e n z body := by
  rw [← numsD_dec, readP_head (beg_status s) e n _ (dec_ne _) body, numsD_dec]
  unfold rsL
  rw [readB_cons]
  rcases hs with rfl | rfl | rfl
  · rw [numbers_nums _ e n _ he hn hz]
    simp only [if_true]
  · rw [numbers_pre (status_ne 200 400 (by simp) (by simp) (by decide) _)]
    simp only [readB_cons, numbers_nums (statusL 400) e n z he hn hz]
    rw [if_neg (by decide), if_pos trivial]
  · rw [numbers_pre (status_ne 200 409 (by simp) (by simp) (by decide) _)]
    simp only [readB_cons, numbers_pre (status_ne 400 409 (by simp) (by simp) (by decide) _), numbers_nums (statusL 409) e n z he hn hz]
    rw [if_neg (by decide), if_neg (by decide)]
end
theorem gotB_short (k x y z : Nat) (body : List UInt8) (hz : z ≤ 65536) (h : body.length < z) : gotB k x y z body = (.zero, 22) := by
  unfold gotB
  rw [if_neg (by omega), if_pos h]
theorem gotB_long (k x y z : Nat) (body : List UInt8) (h : z < body.length) : gotB k x y z body = (.zero, 21) := by
  unfold gotB
  by_cases h1 : 65536 < z
  · rw [if_pos h1]
  · rw [if_neg h1, if_neg (by omega), if_pos h]
/-- What is cut is short. -/
theorem cut_short {b : List UInt8} (hB : Beg b) (e n : Nat) (body : List UInt8) (hb : body.length ≤ 65536) (l : List (List UInt8))
    (hl : ∀ body', ∃ k, readP (b ++ (numsL e n body.length ++ body')) l = gotB k e n body.length body') (k : Nat) (hk : k < (b ++ (numsL e n body.length ++ body)).length) : readP ((b ++ (numsL e n body.length ++ body)).take k) l = (.zero, 22) := by
  have hi := idx_head hB e n (dec body.length) (dec_ne _) body
  have h4 := numsD_len e n (dec body.length)
  rw [numsD_dec] at hi h4
  by_cases hc : k < (b ++ numsL e n body.length).length
  · have := idx_cut hi (k := k) (by rw [List.length_append] at hc; show k < _ + 4; omega)
    unfold readP
    rw [this, if_pos rfl]
  · have hc' : (b ++ numsL e n body.length).length ≤ k := by omega
    obtain ⟨j, hj⟩ : ∃ j, k = (b ++ numsL e n body.length).length + j := ⟨k - (b ++ numsL e n body.length).length, by omega⟩
    have e1 : (b ++ (numsL e n body.length ++ body)).take k = b ++ (numsL e n body.length ++ body.take j) := by
      rw [← List.append_assoc, hj, List.take_length_add_append, List.append_assoc]
    rw [e1]
    obtain ⟨k', hk'⟩ := hl (body.take j)
    rw [hk']
    refine gotB_short _ _ _ _ _ hb ?_
    rw [List.length_take]
    rw [← List.append_assoc, List.length_append] at hk
    omega
def zeroRq : Rq := ⟨[], 0, 0, .none⟩
def zeroRs : Rs := ⟨0, 0, 0, .none⟩
section
variable (e n : Nat) (he : e < 18446744073709551616) (hn : n < 18446744073709551616) (body : List UInt8) (hb : body.length ≤ 65536)
include he hn hb
theorem rdRq_cut (p : List UInt8) (hp : p = helloL ∨ p = batchL) (k : Nat) (hk : k < (beginL p ++ (numsL e n body.length ++ body)).length) : rdRq ((beginL p ++ (numsL e n body.length ++ body)).take k) = (zeroRq, 22) := by
  have h := cut_short (beg_begin p (by rcases hp with rfl | rfl <;> decide)) e n body hb rqL (fun body' => ⟨_, rq_at e n body.length he hn (by omega) body' p hp⟩) k hk
  unfold rdRq
  rw [h, if_neg (by decide)]
  rfl
theorem rdRs_cut (s : Int) (hs : s = 200 ∨ s = 400 ∨ s = 409) (k : Nat) (hk : k < (statusL s ++ (numsL e n body.length ++ body)).length) : rdRs ((statusL s ++ (numsL e n body.length ++ body)).take k) = (zeroRs, 22) := by
  have h := cut_short (beg_status s) e n body hb rsL (fun body' => ⟨_, rs_at e n body.length he hn (by omega) body' s hs⟩) k hk
  unfold rdRs
  rw [h, if_neg (by decide)]
  rfl
theorem rdRq_more (p : List UInt8) (hp : p = helloL ∨ p = batchL) (more : List UInt8) : rdRq (beginL p ++ (numsL e n body.length ++ body) ++ 0 :: more) = (zeroRq, 21) := by
  have h := rq_at e n body.length he hn (by omega) (body ++ 0 :: more) p hp
  rw [gotB_long _ _ _ _ _ (by simp)] at h
  unfold rdRq
  rw [show beginL p ++ (numsL e n body.length ++ body) ++ 0 :: more = beginL p ++ (numsL e n body.length ++ (body ++ 0 :: more)) by simp, h, if_neg (by decide)]
  rfl
theorem rdRs_more (s : Int) (hs : s = 200 ∨ s = 400 ∨ s = 409) (more : List UInt8) : rdRs (statusL s ++ (numsL e n body.length ++ body) ++ 0 :: more) = (zeroRs, 21) := by
  have h := rs_at e n body.length he hn (by omega) (body ++ 0 :: more) s hs
  rw [gotB_long _ _ _ _ _ (by simp)] at h
  unfold rdRs
  rw [show statusL s ++ (numsL e n body.length ++ body) ++ 0 :: more = statusL s ++ (numsL e n body.length ++ (body ++ 0 :: more)) by simp, h, if_neg (by decide)]
  rfl
end
end Go.Ev.S
/- HttpTooLong: plain laws on digits. -/
namespace Go.Ev.S
open Go Go.Proofs Go.Ev
def digs (l : List Nat) : List UInt8 := l.map fun k => UInt8.ofNat (48 + k)
def numV (n : Nat) (l : List Nat) : Nat := l.foldl (fun a k => 10 * a + k) n
theorem numV_le (l : List Nat) : ∀ n, (∀ k ∈ l, k < 10) → numV n l + 1 ≤ (n + 1) * 10 ^ l.length := by
  induction l with
  | nil => intro n _; simp [numV]
  | cons k l ih =>
    intro n h
    have h1 := ih (10 * n + k) fun x hx => h x (by simp [hx])
    have hk := h k (by simp)
    have h2 : (10 * n + k + 1) * 10 ^ l.length ≤ ((n + 1) * 10) * 10 ^ l.length := Nat.mul_le_mul_right _ (by omega)
    have h3 : (n + 1) * 10 ^ (k :: l).length = ((n + 1) * 10) * 10 ^ l.length := by rw [List.length_cons, Nat.pow_succ, Nat.mul_comm (10 ^ l.length) 10, Nat.mul_assoc]
    have h4 : numV n (k :: l) = numV (10 * n + k) l := rfl
    omega
theorem numV_ge (l : List Nat) : ∀ n, n ≤ numV n l := by
  induction l with
  | nil => intro n; exact Nat.le_refl _
  | cons k l ih =>
    intro n
    have h1 := ih (10 * n + k)
    have h4 : numV n (k :: l) = numV (10 * n + k) l := rfl
    omega
theorem puGo_digs (l : List Nat) : ∀ n, (∀ k ∈ l, k < 10) → numV n l < 18446744073709551616 → puGo 10 (digs l) n = some (numV n l) := by
  induction l with
  | nil => intro n _ _; rfl
  | cons k l ih =>
    intro n h hv
    have hk := h k (by simp)
    have h4 : numV n (k :: l) = numV (10 * n + k) l := rfl
    have h5 := numV_ge l (10 * n + k)
    have e : digs (k :: l) = UInt8.ofNat (48 + k) :: digs l := rfl
    rw [e, puGo, dval_dig hk]
    simp only
    rw [if_neg (by omega), if_neg (by omega), Nat.mul_comm n 10, ih _ (fun x hx => h x (by simp [hx])) (by omega), h4]
theorem decF_digs (l : List Nat) : ∀ n f, 1 ≤ n → 1 ≤ f → (∀ k ∈ l, k < 10) → decF (f + l.length) (numV n l) = decF f n ++ digs l := by
  induction l with
  | nil => intro n f _ _ _; simp [numV, digs]
  | cons k l ih =>
    intro n f hn hf h
    have hk := h k (by simp)
    have h4 : numV n (k :: l) = numV (10 * n + k) l := rfl
    have e : digs (k :: l) = UInt8.ofNat (48 + k) :: digs l := rfl
    have e2 : f + (k :: l).length = (f + 1) + l.length := by simp; omega
    rw [h4, e2, ih (10 * n + k) (f + 1) (by omega) (by omega) (fun x hx => h x (by simp [hx])), e]
    rw [decF, if_neg (by omega)]
    have e3 : (10 * n + k) / 10 = n := by omega
    have e4 : (10 * n + k) % 10 = k := by omega
    rw [e3, e4, List.append_assoc]
    rfl
theorem digs_ne (l : List Nat) (h : ∀ k ∈ l, k < 10) : ∀ x ∈ digs l, x ≠ 13 := by
  intro x hx e
  unfold digs at hx
  obtain ⟨k, hk, rfl⟩ := List.mem_map.1 hx
  have := congrArg UInt8.toNat e
  rw [UInt8.toNat_ofNat_of_lt' (show 48 + k < 256 by have := h k hk; omega)] at this
  simp at this
  omega
/-- Five nines and some digits. -/
def longV (l : List Nat) : Nat := numV 9 (9 :: 9 :: 9 :: 9 :: l)
theorem long_lt (l : List Nat) (h : ∀ k ∈ l, k < 10) (hl : l.length ≤ 6) : longV l < 100000000000 ∧ 65536 < longV l := by
  have h1 := numV_le l 99999 h
  have h2 := numV_ge l 99999
  have e : longV l = numV 99999 l := rfl
  have h3 : 10 ^ l.length ≤ 10 ^ 6 := Nat.pow_le_pow_right (by decide) hl
  have h4 : (99999 + 1) * 10 ^ l.length ≤ (99999 + 1) * 10 ^ 6 := Nat.mul_le_mul_left _ h3
  rw [e]
  omega
theorem long_mem {l : List Nat} (h : ∀ k ∈ l, k < 10) : ∀ k ∈ 9 :: 9 :: 9 :: 9 :: l, k < 10 := by
  intro k hk
  simp only [List.mem_cons] at hk
  rcases hk with rfl | rfl | rfl | rfl | hk <;> first | omega | exact h k hk
theorem long_pu (l : List Nat) (h : ∀ k ∈ l, k < 10) (hl : l.length ≤ 6) : pu 10 (digs (9 :: 9 :: 9 :: 9 :: 9 :: l)) = some (longV l) := by
  unfold pu
  rw [if_neg (by simp [digs])]
  exact puGo_digs (9 :: 9 :: 9 :: 9 :: 9 :: l) 0 (by
    intro k hk
    rcases List.mem_cons.1 hk with rfl | hk
    · omega
    · exact long_mem h k hk) (by have := (long_lt l h hl).1; show longV l < _; omega)
theorem long_dec (l : List Nat) (h : ∀ k ∈ l, k < 10) (hl : l.length ≤ 6) : dec (longV l) = digs (9 :: 9 :: 9 :: 9 :: 9 :: l) := by
  obtain ⟨f, hf⟩ : ∃ f, 20 = (f + 1) + (9 :: 9 :: 9 :: 9 :: l).length := ⟨20 - 1 - (9 :: 9 :: 9 :: 9 :: l).length, by simp; omega⟩
  unfold dec longV
  rw [hf, decF_digs (9 :: 9 :: 9 :: 9 :: l) 9 (f + 1) (by omega) (by omega) (long_mem h), decF, if_pos (by omega)]
  rfl
theorem zero_pu (l : List Nat) (h : ∀ k ∈ l, k < 10) (hl : l.length ≤ 6) : pu 10 (48 :: digs (9 :: 9 :: 9 :: 9 :: 9 :: l)) = some (longV l) := by
  have h1 := long_pu l h hl
  unfold pu at h1 ⊢
  rw [if_neg (by simp [digs])] at h1
  rw [if_neg (by simp), puGo]
  have : dval 48 = some 0 := by decide
  rw [this]
  simp only
  rw [if_neg (by omega), if_neg (by omega)]
  exact h1
theorem over_pu : pu 10 [49, 56, 52, 52, 54, 55, 52, 52, 48, 55, 51, 55, 48, 57, 53, 53, 49, 54, 49, 54] = none := by decide
/-- What is told of digits that stand as a length, ahead of no body. -/
def codeD (D : List UInt8) : Int := match pu 10 D with
  | none => 20
  | some v => if dec v = D then (if v = 0 then 0 else if 65536 < v then 21 else 22) else 20
theorem code_long (l : List Nat) (h : ∀ k ∈ l, k < 10) (hl : l.length ≤ 6) : codeD (digs (9 :: 9 :: 9 :: 9 :: 9 :: l)) = 21 := by
  have h1 := (long_lt l h hl).2
  unfold codeD
  rw [long_pu l h hl]
  simp only
  rw [if_pos (long_dec l h hl), if_neg (by omega), if_pos h1]
theorem code_zero (l : List Nat) (h : ∀ k ∈ l, k < 10) (hl : l.length ≤ 6) : codeD (48 :: digs (9 :: 9 :: 9 :: 9 :: 9 :: l)) = 20 := by
  unfold codeD
  rw [zero_pu l h hl]
  simp only
  rw [long_dec l h hl, if_neg]
  intro e
  have := congrArg List.length e
  simp at this
theorem code_over : codeD [49, 56, 52, 52, 54, 55, 52, 52, 48, 55, 51, 55, 48, 57, 53, 53, 49, 54, 49, 54] = 20 := by
  unfold codeD
  rw [over_pu]
section
variable (e n : Nat) (he : e < 18446744073709551616) (hn : n < 18446744073709551616)
include he hn
/-- A head with any digits as its length. -/
theorem rdRq_D (p : List UInt8) (hp : p = helloL ∨ p = batchL) (D : List UInt8) (hD : ∀ x ∈ D, x ≠ 13) : (rdRq (beginL p ++ numsD e n D)).2 = codeD D := by
  unfold codeD
  have hr : readP (beginL p ++ numsD e n D) rqL = match pu 10 D with
    | none => (.zero, 20)
    | some v => if dec v = D then gotB (if p = helloL then 0 else 1) e n v [] else (.zero, 20) := by
    have h := readP_head (beg_begin p (by rcases hp with rfl | rfl <;> decide)) e n D hD [] rqL
    rw [List.append_nil] at h
    rw [h]
    have hN := fun b => numbers_D b e n he hn D hD
    unfold rqL
    rw [readB_cons]
    rcases hp with rfl | rfl
    · rw [hN]
      cases hpu : pu 10 D with
      | none => simp only [numbers_pre (batch_hello _), readB]
      | some v =>
        simp only
        by_cases hd : dec v = D
        · rw [if_pos hd, if_pos hd]
          rfl
        · rw [if_neg hd, if_neg hd]
          simp only [numbers_pre (batch_hello _), readB]
    · rw [numbers_pre (hello_batch _)]
      simp only [readB_cons, hN]
      cases hpu : pu 10 D with
      | none => rfl
      | some v =>
        simp only
        by_cases hd : dec v = D
        · rw [if_pos hd, if_pos hd, if_neg (by decide)]
        · rw [if_neg hd, if_neg hd]
          rfl
  have h2 : (rdRq (beginL p ++ numsD e n D)).2 = (readP (beginL p ++ numsD e n D) rqL).2 := by
    unfold rdRq
    split
    · rename_i h; exact h.symm
    · rfl
  rw [h2, hr]
  cases hpu : pu 10 D with
  | none => rfl
  | some v =>
    simp only
    by_cases hd : dec v = D
    · rw [if_pos hd, if_pos hd]
      unfold gotB
      by_cases h1 : 65536 < v
      · rw [if_pos h1, if_neg (by omega), if_pos h1]
      · rw [if_neg h1]
        by_cases h0 : v = 0
        · subst h0; rfl
        · rw [if_pos (by simp; omega), if_neg h0, if_neg h1]
    · rw [if_neg hd, if_neg hd]
end
end Go.Ev.S
/- Bytes are spoilt. -/
namespace Go.Ev.S
open Go Go.Proofs Go.Ev
theorem mkbytes_ev [MaxL] (b : List UInt8) (h : 1 ≤ b.length) (hn : b.length ≤ 100000) :
    call cx 31 [.vsl false (ofBytes b) b.length] [] = some (.osl 0 b.length 0 b.length 1, [some (ofBytes b)]) := by
  refine call_run Tryd.func31 rfl ⟨rfl, rfl⟩ ?_
  have hb : b.length ≤ maxBytes := Nat.le_trans hn (by decide)
  have hne : b ≠ [] := by intro e; rw [e] at h; simp at h
  simp [Tryd.f31, hb]
/-- The place that a number counts for. -/
def placeOf (n : Int) (b : Nat) : Nat := ((IntKind.i64.wrap (n.tmod b + b)).tmod b).toNat
theorem place_ev [MaxL] (n : Int) (b : Nat) (hb : 1 ≤ b) (hb2 : b ≤ 1000000) : placeOf n b < b ∧ call cx 13 [.int .i64 n, .int .i64 b] [] = some (.int .i64 (placeOf n b : Nat), []) := by
  obtain ⟨x, hx, h⟩ := num_ev n b hb hb2
  have h2 := number_ev n b
  rw [if_neg (by omega), h] at h2
  have h3 : (x : Int) = (IntKind.i64.wrap (n.tmod b + b)).tmod b := by
    have := Option.some.inj h2
    simpa using this
  have h4 : placeOf n b = x := by unfold placeOf; omega
  rw [h4]
  exact ⟨hx, h⟩
def spoilL (y : UInt8) : List UInt8 → List Int → List UInt8
  | b, [] => b
  | b, k :: l => spoilL y (b.set (placeOf k b.length) (b.getD (placeOf k b.length) 0 ^^^ y)) l
theorem spoilL_len (y : UInt8) : ∀ (l : List Int) (b : List UInt8), (spoilL y b l).length = b.length
  | [], _ => rfl
  | _ :: l, b => by rw [spoilL, spoilL_len y l]; simp
theorem spoilL_zero : ∀ (l : List Int) (b : List UInt8), spoilL 0 b l = b
  | [], _ => rfl
  | k :: l, b => by
    rw [spoilL, spoilL_zero l]
    by_cases h : placeOf k b.length < b.length
    · simp [List.getD, List.getElem?_eq_getElem h]
    · rw [List.set_eq_of_length_le (by omega)]
theorem xorI_u8 (a b : UInt8) : xorI .u8 (a.toNat : Int) (b.toNat : Int) = ((a ^^^ b).toNat : Int) := by
  unfold xorI
  have h := (a ^^^ b).toNat_lt
  have e : (BitVec.ofInt IntKind.u8.bits (a.toNat : Int) ^^^ BitVec.ofInt IntKind.u8.bits (b.toNat : Int)).toNat = (a ^^^ b).toNat := by
    simp [IntKind.bits]
    rfl
  rw [e, wrap_u8]
  omega
theorem intsK_at {k : IntKind} {l : List Int} {i : Nat} (h : i < l.length) : (intsK k l).drop i = .int k l[i] :: intsK k (l.drop (i + 1)) := by
  unfold intsK
  rw [List.drop_eq_getElem_cons (by simpa using h)]
  simp
theorem set_ofBytes (z : List UInt8) (x : Nat) (c : UInt8) (h : x < z.length) : setRange (ofBytes z) x [.int .u8 c.toNat] = ofBytes (z.set x c) := by
  unfold setRange ofBytes
  rw [List.set_eq_take_append_cons_drop, if_pos h]
  simp
set_option maxHeartbeats 1000000 in
theorem spoil_ev [MaxL] (b : List UInt8) (hb1 : 1 ≤ b.length) (hb2 : b.length ≤ 100000) (nil : Bool) (zs : List Int) (hnil : nil = true → zs = []) (hz : zs.length ≤ 1000) (y : UInt8) :
    call cx 20 [.vsl false (ofBytes b) b.length, .vsl nil (intsK .i64 zs) zs.length, .int .u8 y.toNat] [] = some (.vsl false (ofBytes (spoilL y b zs)) b.length, []) := by
  have hm := mkbytes_ev b hb1 hb2
  refine call_run Tryd.func20 rfl ⟨rfl, rfl⟩ ?_
  simp [Tryd.f20, hm]
  refine Run.loopThen (fun (k : Nat) e H' => k ≤ zs.length ∧ ∃ z, z.length = b.length ∧ spoilL y z (zs.drop k) = spoilL y b zs ∧ H' = [some (ofBytes z)] ∧
      look e 1 = some (.vsl nil (intsK .i64 zs) zs.length) ∧ look e 2 = some (.int .u8 y.toNat) ∧ look e 7 = some (.osl 0 b.length 0 b.length 1) ∧ look e 8 = some (.int .i64 k)) (fun k => zs.length - k) 0 ?_ ?_
  · simp
    exact ⟨b, rfl, rfl, rfl⟩
  rintro k e H' ⟨hk, z, hzl, hs, rfl, k1, k2, k7, k8⟩
  by_cases hlt : k < zs.length
  · have hlt' : (k : Int) < (zs.length : Int) := by omega
    have hb0 : (0 : Int) < (b.length : Int) := by omega
    have hw2 : IntKind.i64.wrap ((k : Int) + 1) = ((k + 1 : Nat) : Int) := by rw [wrap_i64] <;> omega
    obtain ⟨p1, p2⟩ := place_ev zs[k] b.length hb1 (by omega)
    rw [List.drop_eq_getElem_cons hlt, spoilL, hzl] at hs
    generalize placeOf zs[k] b.length = x at *
    have hbn : 0 < b.length := by omega
    have hxl : x < z.length := by omega
    have hgx : z.getD x 0 = z[x] := by rw [List.getD, List.getElem?_eq_getElem hxl]; rfl
    rw [hgx] at hs
    have ho := ofBytes_at (l := z) (i := x) hxl
    have hx := xorI_u8 z[x] y
    generalize z[x] = c at *
    have hst : setRange (ofBytes z) x [.int .u8 (c ^^^ y).toNat] = ofBytes (z.set x (c ^^^ y)) := by
      exact set_ofBytes z x _ (by omega)
    have hnf : nil = false := by
      cases nil with
      | false => rfl
      | true => rw [hnil rfl] at hlt; simp at hlt
    subst hnf
    have hx1 : x + 1 ≤ b.length := by omega
    generalize c ^^^ y = v at *
    simp [-setRange_eq, intsK_at hlt, hx1, k1, k2, k7, k8, hlt', hbn, p2, p1, hw2, hzl, ho, hx, hst]
    exact ⟨k + 1, by omega, by omega, z.set x v, by simpa using hzl, hs, rfl, by simp⟩
  · have hlt' : ¬ (k : Int) < (zs.length : Int) := by omega
    rw [List.drop_eq_nil_of_le (by omega), spoilL] at hs
    have hl : (spoilL y b zs).length = b.length := spoilL_len y zs b
    simp [k1, k2, k7, k8, hlt', hs, hl]
end Go.Ev.S
/- HttpSays: plain laws: the document's way to read a head. -/
namespace Go.Ev.S
open Go Go.Proofs Go.Ev
theorem dval_inv {c : UInt8} {d : Nat} (h : dval c = some d) (hd : d < 10) : c = UInt8.ofNat (48 + d) := by
  apply UInt8.toNat_inj.1
  rw [UInt8.toNat_ofNat_of_lt' (show 48 + d < 256 by omega)]
  unfold dval at h
  split at h
  · injection h with h; omega
  · split at h
    · injection h with h; omega
    · cases h
theorem puGo_inv (s : List UInt8) : ∀ n v, puGo 10 s n = some v → ∃ l, s = digs l ∧ (∀ k ∈ l, k < 10) ∧ v = numV n l := by
  induction s with
  | nil =>
    intro n v h
    simp only [puGo, Option.some.injEq] at h
    exact ⟨[], rfl, by simp, h.symm⟩
  | cons c s ih =>
    intro n v h
    simp only [puGo] at h
    split at h
    · cases h
    · rename_i d hd
      split at h
      · cases h
      · split at h
        · cases h
        · obtain ⟨l, h1, h2, h3⟩ := ih _ _ h
          refine ⟨d :: l, ?_, ?_, ?_⟩
          · rw [h1, dval_inv hd (by omega)]; rfl
          · intro k hk
            rcases List.mem_cons.1 hk with rfl | hk
            · omega
            · exact h2 k hk
          · rw [h3, Nat.mul_comm n 10]; rfl
/-- A decimal number as it is written. -/
def numP (s : List UInt8) : Option Nat := if s = [] ∨ 20 < s.length ∨ (s.head? = some 48 ∧ 1 < s.length) then none else puGo 10 s 0
theorem decF_head : ∀ (f v : Nat), v < 10 ^ f → (decF f v).head? = some 48 → v = 0 ∧ (decF f v).length ≤ 1
  | 0, v, _, h => by simp [decF] at h
  | f + 1, v, hv, h => by
    rw [decF] at h ⊢
    by_cases h10 : v < 10
    · rw [if_pos h10] at h ⊢
      simp only [List.head?_cons, Option.some.injEq] at h
      have := congrArg UInt8.toNat h
      rw [UInt8.toNat_ofNat_of_lt' (show 48 + v < 256 by omega)] at this
      simp at this
      exact ⟨by omega, by simp⟩
    · rw [if_neg h10] at h
      exfalso
      rcases f with _ | f
      · simp at hv; omega
      · have hp : v / 10 < 10 ^ (f + 1) := by rw [Nat.pow_succ] at hv; omega
        have hne : decF (f + 1) (v / 10) ≠ [] := by
          rw [decF]
          split <;> simp
        have h' : (decF (f + 1) (v / 10)).head? = some 48 := by
          obtain ⟨a, l, hal⟩ := List.exists_cons_of_ne_nil hne
          rw [hal] at h ⊢
          exact h
        have := (decF_head (f + 1) (v / 10) hp h').1
        omega
theorem num_dec {v : Nat} (h : v < 18446744073709551616) : numP (dec v) = some v := by
  have h1 := dec_pos v
  have h2 := dec_len v
  have h3 := decF_head 20 v (Nat.lt_trans h (by decide))
  unfold numP
  rw [if_neg]
  · exact puGo_decF 20 v (Nat.lt_trans h (by decide)) (by decide) h
  · rintro (e | e | ⟨e1, e2⟩)
    · rw [e] at h1; simp at h1
    · omega
    · have := (h3 e1).2
      unfold dec at e2
      omega
theorem num_inv {s : List UInt8} {v : Nat} (h : numP s = some v) : v < 18446744073709551616 ∧ s = dec v := by
  unfold numP at h
  split at h
  · cases h
  · rename_i hc
    have hlt : v < 18446744073709551616 := puGo_lt 10 _ _ _ (by decide) h
    obtain ⟨l, rfl, h2, rfl⟩ := puGo_inv _ _ _ h
    refine ⟨hlt, ?_⟩
    have hlen : (digs l).length = l.length := by simp [digs]
    rw [hlen] at hc
    rcases l with _ | ⟨k, l⟩
    · exact absurd (.inl rfl) hc
    · have hk := h2 k (by simp)
      have e0 : numV 0 (k :: l) = numV k l := by simp [numV]
      rw [e0]
      rcases l with _ | ⟨j, l⟩
      · unfold dec
        rw [show numV k [] = k from rfl, decF, if_pos hk]
        rfl
      · have hk0 : 1 ≤ k := by
          rcases Nat.eq_zero_or_pos k with rfl | hp
          · exact absurd (.inr (.inr ⟨rfl, by simp⟩)) hc
          · exact hp
        have hl : (j :: l).length ≤ 19 := by
          have : ¬ 20 < (k :: j :: l).length := fun hh => hc (.inr (.inl hh))
          simp at this ⊢
          omega
        obtain ⟨f, hf⟩ : ∃ f, 20 = (f + 1) + (j :: l).length := ⟨19 - (j :: l).length, by omega⟩
        unfold dec
        rw [hf, decF_digs (j :: l) k (f + 1) hk0 (by omega) (fun x hx => h2 x (List.mem_cons_of_mem _ hx)), decF, if_pos hk]
        rfl
/-- One line of a head, as the document reads it. -/
def upTo13 : List UInt8 → List UInt8
  | [] => []
  | c :: l => if c = 13 then [] else c :: upTo13 l
theorem upTo13_ne : ∀ (s : List UInt8), ∀ x ∈ upTo13 s, x ≠ 13
  | [] => by simp [upTo13]
  | c :: l => by
    unfold upTo13
    by_cases h : c = 13
    · rw [if_pos h]; simp
    · rw [if_neg h]
      intro x hx
      rcases List.mem_cons.1 hx with rfl | hx
      · exact h
      · exact upTo13_ne l x hx
theorem upTo13_len : ∀ (s : List UInt8), (upTo13 s).length ≤ s.length
  | [] => by simp [upTo13]
  | c :: l => by
    unfold upTo13
    split
    · simp
    · have := upTo13_len l
      simp; exact this
theorem upTo13_take : ∀ (s : List UInt8), s.take (upTo13 s).length = upTo13 s
  | [] => by simp [upTo13]
  | c :: l => by
    unfold upTo13
    split
    · simp
    · have := upTo13_take l
      simp [this]
theorem upTo13_app : ∀ (A B : List UInt8), (∀ x ∈ A, x ≠ 13) → upTo13 (A ++ (13 :: B)) = A
  | [], B, _ => by simp [upTo13]
  | c :: A, B, h => by
    have hc := h c (by simp)
    rw [List.cons_append, upTo13, if_neg hc, upTo13_app A B fun x hx => h x (by simp [hx])]
def line3 (name rest : List UInt8) : Option (Nat × List UInt8) := if pre name rest then
    match numP (upTo13 (rest.drop name.length)) with
    | none => none
    | some v => if ((rest.drop name.length).drop (upTo13 (rest.drop name.length)).length).take 2 = crlf then some (v, (rest.drop name.length).drop ((upTo13 (rest.drop name.length)).length + 2)) else none
  else none
theorem pre_app (a b : List UInt8) : pre a (a ++ b) = true := by unfold pre; simp
theorem pre_eq {a b : List UInt8} (h : pre a b = true) : b = a ++ b.drop a.length := by
  unfold pre at h
  have h2 := beq_iff_eq.1 h
  conv => lhs; rw [← List.take_append_drop a.length b]
  rw [h2]
theorem line3_nums (name r : List UInt8) {v : Nat} (hv : v < 18446744073709551616) : line3 name (name ++ (dec v ++ (crlf ++ r))) = some (v, r) := by
  unfold line3
  rw [pre_app, if_pos rfl, List.drop_left]
  have h1 : upTo13 (dec v ++ (crlf ++ r)) = dec v := upTo13_app (dec v) (10 :: r) (dec_ne v)
  rw [h1, num_dec hv]
  have d1 : (dec v ++ (crlf ++ r)).drop (dec v).length = crlf ++ r := List.drop_left
  have d2 : (dec v ++ (crlf ++ r)).drop ((dec v).length + 2) = r := by
    rw [← List.drop_drop, d1]
    rfl
  simp only [d1, d2]
  rw [if_pos (by rfl)]
theorem line3_inv {name rest r : List UInt8} {v : Nat} (h : line3 name rest = some (v, r)) : v < 18446744073709551616 ∧ rest = name ++ (dec v ++ (crlf ++ r)) := by
  unfold line3 at h
  split at h
  · rename_i hp
    have hr := pre_eq hp
    generalize rest.drop name.length = t at *
    split at h
    · cases h
    · rename_i v' hn
      split at h
      · rename_i hc
        injection h with h
        injection h with h1 h2
        subst h1
        obtain ⟨g1, g2⟩ := num_inv hn
        refine ⟨g1, ?_⟩
        rw [hr]
        congr 1
        have e1 : t = t.take (upTo13 t).length ++ t.drop (upTo13 t).length := (List.take_append_drop _ _).symm
        have e2 : t.drop (upTo13 t).length = crlf ++ r := by
          rw [← List.take_append_drop 2 (t.drop (upTo13 t).length), hc, ← h2, List.drop_drop]
        rw [upTo13_take, g2] at e1
        rw [e1, ← g2, e2]
      · cases h
  · cases h
def threeP (s : List UInt8) : Option (Nat × Nat × Nat) := match line3 epochL s with
  | none => none
  | some (x, r1) => match line3 numberL r1 with
    | none => none
    | some (y, r2) => match line3 lengthL r2 with
      | none => none
      | some (z, r3) => if r3 = crlf then some (x, y, z) else none
theorem three_nums {x y z : Nat} (hx : x < 18446744073709551616) (hy : y < 18446744073709551616) (hz : z < 18446744073709551616) : threeP (numsL x y z) = some (x, y, z) := by
  unfold threeP numsL
  simp only [line3_nums _ _ hx, line3_nums _ _ hy, line3_nums _ _ hz, if_true]
theorem three_inv {s : List UInt8} {x y z : Nat} (h : threeP s = some (x, y, z)) : x < 18446744073709551616 ∧ y < 18446744073709551616 ∧ z < 18446744073709551616 ∧ s = numsL x y z := by
  unfold threeP at h
  split at h
  · cases h
  · rename_i x' r1 h1
    split at h
    · cases h
    · rename_i y' r2 h2
      split at h
      · cases h
      · rename_i z' r3 h3
        split at h
        · rename_i h4
          injection h with h
          injection h with e1 h
          injection h with e2 e3
          subst e1; subst e2; subst e3; subst h4
          obtain ⟨a1, a2⟩ := line3_inv h1
          obtain ⟨b1, b2⟩ := line3_inv h2
          obtain ⟨c1, c2⟩ := line3_inv h3
          exact ⟨a1, b1, c1, by rw [a2, b2, c2]; rfl⟩
        · cases h
theorem line_lt3 {name rest r : List UInt8} {v : Nat} (h : lineP name rest = some (v, r)) : v < 18446744073709551616 := by
  unfold lineP at h
  split at h
  · cases h
  · rename_i w hw
    injection h with h
    injection h with h1 _
    subst h1
    unfold pu at hw
    split at hw
    · cases hw
    · exact puGo_lt 10 _ _ _ (by decide) hw
theorem numbers_lt3 {s b : List UInt8} {x y z : Nat} (h : numbersP s b = some (x, y, z)) : x < 18446744073709551616 ∧ y < 18446744073709551616 ∧ z < 18446744073709551616 := by
  unfold numbersP at h
  split at h
  · split at h
    · cases h
    · rename_i h1
      split at h
      · cases h
      · rename_i h2
        split at h
        · cases h
        · rename_i h3
          split at h
          · injection h with h
            injection h with e1 h
            injection h with e2 e3
            subst e1; subst e2; subst e3
            exact ⟨line_lt3 h1, line_lt3 h2, line_lt3 h3⟩
          · cases h
  · cases h
/-- The two ways to read a head's numbers are one. -/
theorem numbers_three (b t : List UInt8) : numbersP (b ++ t) b = threeP t := by
  cases h : threeP t with
  | some q =>
    obtain ⟨x, y, z⟩ := q
    obtain ⟨h1, h2, h3, rfl⟩ := three_inv h
    exact numbers_nums b x y z h1 h2 h3
  | none =>
    cases h' : numbersP (b ++ t) b with
    | none => rfl
    | some q =>
      obtain ⟨x, y, z⟩ := q
      obtain ⟨h1, h2, h3⟩ := numbers_lt3 h'
      have := List.append_cancel_left (numbers_inv h')
      rw [this, three_nums h1 h2 h3] at h
      cases h
/-- The document's way to read what stands ahead of the body. -/
def refB (s body : List UInt8) : List (List UInt8) → Nat → Msg × Int
  | [], _ => (.zero, 20)
  | b :: l, k => if pre b s then match threeP (s.drop b.length) with
      | none => (.zero, 20)
      | some (x, y, z) => gotB k x y z body
    else refB s body l (k + 1)
theorem readB_none (s body : List UInt8) : ∀ (l : List (List UInt8)) (k : Nat), (∀ b ∈ l, pre b s = false) → readB s body l k = (.zero, 20)
  | [], _, _ => rfl
  | b :: l, k, h => by
    rw [readB_cons, numbers_pre (h b (by simp))]
    exact readB_none s body l (k + 1) fun x hx => h x (by simp [hx])
/-- Of no two beginnings one goes on as the other. -/
def Apart (l : List (List UInt8)) : Prop := l.Pairwise fun b c => ∀ X, pre c (b ++ X) = false
theorem refB_eq (s body : List UInt8) : ∀ (l : List (List UInt8)) (k : Nat), Apart l → refB s body l k = readB s body l k
  | [], _, _ => rfl
  | b :: l, k, h => by
    have h := List.pairwise_cons.1 h
    rw [readB_cons, refB]
    cases hp : pre b s with
    | false =>
      rw [numbers_pre hp, if_neg (by decide)]
      exact refB_eq s body l (k + 1) h.2
    | true =>
      rw [if_pos rfl]
      have e := pre_eq hp
      generalize s.drop b.length = t at *
      subst e
      rw [numbers_three]
      cases threeP t with
      | none => exact (readB_none _ _ l (k + 1) fun c hc => h.1 c hc t).symm
      | some q => rfl
theorem rq_apart : Apart rqL := by
  refine List.pairwise_cons.2 ⟨fun c hc => ?_, List.pairwise_cons.2 ⟨fun c hc => (List.not_mem_nil hc).elim, .nil⟩⟩
  rw [List.mem_singleton.1 hc]
  exact batch_hello
theorem rs_apart : Apart rsL := by
  refine List.pairwise_cons.2 ⟨fun c hc => ?_, List.pairwise_cons.2 ⟨fun c hc => ?_, List.pairwise_cons.2 ⟨fun c hc => (List.not_mem_nil hc).elim, .nil⟩⟩⟩
  · rcases List.mem_cons.1 hc with rfl | hc
    · exact status_ne 400 200 (by simp) (by simp) (by decide)
    · rw [List.mem_singleton.1 hc]
      exact status_ne 409 200 (by simp) (by simp) (by decide)
  · rw [List.mem_singleton.1 hc]
    exact status_ne 409 400 (by simp) (by simp) (by decide)
end Go.Ev.S
/- HttpSays: the document's functions. -/
namespace Go.Ev.S
open Go Go.Proofs Go.Ev
theorem rdec_ev [MaxL] (v : Nat) (hv : v < 18446744073709551616) : call cx 67 [.int .u64 v] [] = some (.str (dec v), []) := by
  have h := fu_ev v hv
  refine call_run Tryd.func67 rfl ⟨rfl, rfl⟩ ?_
  simp [Tryd.f67, h]
def crn : List UInt8 := [13, 10, 88, 45, 78, 117, 109, 98, 101, 114, 58, 32]
def crl : List UInt8 := [13, 10, 67, 111, 110, 116, 101, 110, 116, 45, 76, 101, 110, 103, 116, 104, 58, 32]
def crcr : List UInt8 := [13, 10, 13, 10]
theorem rnums_ev [MaxL] (e n l : Nat) (he : e < 18446744073709551616) (hn : n < 18446744073709551616) (hl : l < 9223372036854775808) :
    call cx 47 [.int .u64 e, .int .u64 n, .int .i64 l] [] = some (.str (numsL e n l), []) := by
  have h1 := rdec_ev e he
  have h2 := rdec_ev n hn
  have h3 := rdec_ev l (by omega)
  have l1 := dec_len e
  have l2 := dec_len n
  have l3 := dec_len l
  have hw : IntKind.u64.wrap (l : Int) = (l : Int) := by rw [wrap_u64]; omega
  have hfin : numsL e n l = epochL ++ (dec e ++ (crn ++ (dec n ++ (crl ++ (dec l ++ crcr))))) := by
    simp [numsL, crn, crl, crcr, crlf, numberL, lengthL]
  rw [hfin]
  generalize dec e = x at *
  generalize dec n = y at *
  generalize dec l = z at *
  clear he hn hl hfin
  obtain ⟨s1, es1⟩ : ∃ s, s = epochL ++ x := ⟨_, rfl⟩
  have ls1 : s1.length = epochL.length + x.length := by rw [es1, List.length_append]
  obtain ⟨s2, es2⟩ : ∃ s, s = s1 ++ crn := ⟨_, rfl⟩
  have ls2 : s2.length = s1.length + crn.length := by rw [es2, List.length_append]
  obtain ⟨s3, es3⟩ : ∃ s, s = s2 ++ y := ⟨_, rfl⟩
  have ls3 : s3.length = s2.length + y.length := by rw [es3, List.length_append]
  obtain ⟨s4, es4⟩ : ∃ s, s = s3 ++ crl := ⟨_, rfl⟩
  have ls4 : s4.length = s3.length + crl.length := by rw [es4, List.length_append]
  obtain ⟨s5, es5⟩ : ∃ s, s = s4 ++ z := ⟨_, rfl⟩
  have ls5 : s5.length = s4.length + z.length := by rw [es5, List.length_append]
  obtain ⟨s6, es6⟩ : ∃ s, s = s5 ++ crcr := ⟨_, rfl⟩
  have ls6 : s6.length = s5.length + crcr.length := by rw [es6, List.length_append]
  simp only [epochL, crn, crl, crcr, List.length_cons, List.length_nil] at ls1 ls2 ls3 ls4 ls5 ls6
  have cs1 := cat_of es1 (by (try simp only [epochL, List.length_cons, List.length_nil]); omega)
  have cs2 := cat_of es2 (by (try simp only [crn, List.length_cons, List.length_nil]); omega)
  have cs3 := cat_of es3 (by (try simp only [epochL, crn, crl, crcr, List.length_cons, List.length_nil]); omega)
  have cs4 := cat_of es4 (by (try simp only [crl, List.length_cons, List.length_nil]); omega)
  have cs5 := cat_of es5 (by (try simp only [epochL, crn, crl, crcr, List.length_cons, List.length_nil]); omega)
  have cs6 := cat_of es6 (by (try simp only [crcr, List.length_cons, List.length_nil]); omega)
  simp only [epochL, crn, crl, crcr] at cs1 cs2 cs3 cs4 cs5 cs6
  have hfin : epochL ++ (x ++ (crn ++ (y ++ (crl ++ (z ++ crcr))))) = s6 := by
    simp [es6, es5, es4, es3, es2, es1]
  rw [hfin]
  clear hfin es1 es2 es3 es4 es5 es6 ls1 ls2 ls3 ls4 ls5 ls6 l1 l2 l3
  refine call_run Tryd.func47 rfl ⟨rfl, rfl⟩ ?_
  simp [Tryd.f47, h1, h2, h3, hw, -strD, cs1, cs2, cs3, cs4, cs5, cs6]
def restL : List UInt8 := httpL ++ (crlf ++ (hostL ++ (crlf ++ (ctypeL ++ crlf))))
theorem rstart_ev [MaxL] (p : List UInt8) (hp : p.length ≤ 100) : call cx 46 [.str p] [] = some (.str (beginL p), []) := by
  have a1 : strD .add postL p = some (.str (postL ++ p)) := strD_add (by simp [postL]; omega)
  have a2 : strD .add (postL ++ p) restL = some (.str (beginL p)) := by
    rw [strD_add (by simp [postL, restL, httpL, hostL, ctypeL, crlf]; omega)]
    simp [beginL, restL]
  simp only [postL, restL, httpL, hostL, ctypeL, crlf, List.cons_append, List.nil_append] at a1 a2
  refine call_run Tryd.func46 rfl ⟨rfl, rfl⟩ ?_
  generalize beginL p = w at *
  generalize hq : (80 :: 79 :: 83 :: 84 :: 32 :: p : List UInt8) = q at *
  simp [Tryd.f46, -strD, a1, a2]
theorem rstatus_ev [MaxL] (n : Int) : call cx 48 [.int .i64 n] [] = some (.str (if n = 200 ∨ n = 400 ∨ n = 409 then statusL n else []), []) := by
  refine call_run Tryd.func48 rfl ⟨rfl, rfl⟩ ?_
  by_cases h0 : n = 200
  · subst h0; simp [Tryd.f48, statusL, okStr]
  · by_cases h1 : n = 400
    · subst h1; simp [Tryd.f48, statusL, badStr]
    · by_cases h2 : n = 409
      · subst h2; simp [Tryd.f48, statusL, conStr]
      · simp [Tryd.f48, h0, h1, h2]
theorem rput_bytes (b x body : List UInt8) (h : b.length + x.length + body.length ≤ 200000) : b.length + (x.length + body.length) ≤ maxBytes := by
  rw [← Nat.add_assoc]
  exact Nat.le_trans h (by decide)
theorem rputrq_ev [MaxL] (r : Rq) (he : isU64 r.epoch) (hn : isU64 r.number) (hp : r.path.length ≤ 100) (hb : r.body.l.length ≤ 100000) : call cx 21 [.agg (Enc.cells r)] [] = some ((.vsl (putRq r).nil (ofBytes (putRq r).l) (putRq r).l.length), []) := by
  obtain ⟨p, e, n, body⟩ := r
  simp only at he hn hp hb
  have e1 : ((e.toNat : Nat) : Int) = e := by unfold isU64 at he; omega
  have e2 : ((n.toNat : Nat) : Int) = n := by unfold isU64 at hn; omega
  refine call_run Tryd.func21 rfl ⟨rfl, rfl⟩ ?_
  have h1 : (p == [47, 104, 101, 108, 108, 111]) = (p == helloL) := rfl
  have h2 : (p == [47, 98, 97, 116, 99, 104]) = (p == batchL) := rfl
  unfold putRq
  simp only
  cases hc : (p == helloL || p == batchL) with
  | false =>
    rw [Bool.or_eq_false_iff] at hc
    rw [hc.1] at h1
    rw [hc.2] at h2
    simp [Tryd.f21, Rq.cells, h1, h2]
  | true =>
    unfold putS
    by_cases hl : 65536 < body.l.length
    · have hl' : (65536 : Int) < (body.l.length : Int) := by omega
      cases hc1 : p == helloL
      · rw [hc1] at hc h1
        rw [Bool.false_or] at hc
        rw [hc] at h2
        simp [Tryd.f21, Rq.cells, h1, h2, hl, hl']
      · rw [hc1] at h1
        simp [Tryd.f21, Rq.cells, h1, hl, hl']
    · have hl' : ¬ (65536 : Int) < (body.l.length : Int) := by omega
      have a1 := rstart_ev p hp
      have a2 := rnums_ev e.toNat n.toNat body.l.length (by unfold isU64 at he; omega) (by unfold isU64 at hn; omega) (by omega)
      have l2 := nums_len e.toNat n.toNat body.l.length
      have l1 := begin_len p
      rw [e1, e2] at a2
      generalize beginL p = b at *
      generalize numsL e.toNat n.toNat body.l.length = x at *
      have hm := rput_bytes b x body.l (by omega)
      have hsz : b.length + x.length ≤ 4611686018427387904 := by omega
      cases hc1 : p == helloL
      · rw [hc1] at hc h1
        rw [Bool.false_or] at hc
        rw [hc] at h2
        simp [Tryd.f21, Rq.cells, h1, h2, hl, hl', a1, a2, hsz, hm, ofBytes_append, List.take_of_length_le, Nat.add_assoc]
      · rw [hc1] at h1
        simp [Tryd.f21, Rq.cells, h1, hl, hl', a1, a2, hsz, hm, ofBytes_append, List.take_of_length_le, Nat.add_assoc]
theorem status_nn (n : Int) : (statusL n == []) = false := by unfold statusL; rfl
theorem rputrs_ev [MaxL] (r : Rs) (he : isU64 r.epoch) (hn : isU64 r.number) (hb : r.body.l.length ≤ 100000) : call cx 22 [.agg (Enc.cells r)] [] = some ((.vsl (putRs r).nil (ofBytes (putRs r).l) (putRs r).l.length), []) := by
  obtain ⟨s, e, n, body⟩ := r
  simp only at he hn hb
  have e1 : ((e.toNat : Nat) : Int) = e := by unfold isU64 at he; omega
  have e2 : ((n.toNat : Nat) : Int) = n := by unfold isU64 at hn; omega
  have a1 := rstatus_ev s
  refine call_run Tryd.func22 rfl ⟨rfl, rfl⟩ ?_
  unfold putRs
  simp only
  by_cases hs : s = 200 ∨ s = 400 ∨ s = 409
  · rw [if_pos hs] at a1 ⊢
    unfold putS
    have hnn := status_nn s
    by_cases hl : 65536 < body.l.length
    · have hl' : (65536 : Int) < (body.l.length : Int) := by omega
      generalize statusL s = b at *
      simp [Tryd.f22, Rs.cells, a1, hnn, hl, hl']
    · have hl' : ¬ (65536 : Int) < (body.l.length : Int) := by omega
      have a2 := rnums_ev e.toNat n.toNat body.l.length (by unfold isU64 at he; omega) (by unfold isU64 at hn; omega) (by omega)
      have l2 := nums_len e.toNat n.toNat body.l.length
      have l1 := status_len s
      rw [e1, e2] at a2
      generalize statusL s = b at *
      generalize numsL e.toNat n.toNat body.l.length = x at *
      have hm := rput_bytes b x body.l (by omega)
      have hsz : b.length + x.length ≤ 4611686018427387904 := by omega
      simp [Tryd.f22, Rs.cells, a1, a2, hl, hl', hsz, hnn, hm, ofBytes_append, List.take_of_length_le, Nat.add_assoc]
  · rw [if_neg hs] at a1 ⊢
    simp [Tryd.f22, Rs.cells, a1]
/-- Where a head ends. -/
theorem rhead_ev [MaxL] (b : Sl UInt8) (hb : b.l.length ≤ 100000) : call cx 49 [(.vsl b.nil (ofBytes b.l) b.l.length)] [] = some (.tup (if idxN stopL b.l 0 = -1 then [.int .i64 0, .bool false] else [.int .i64 (idxN stopL b.l 0 + 4), .bool true]), []) := by
  refine call_run Tryd.func49 rfl ⟨rfl, rfl⟩ ?_
  simp [Tryd.f49]
  refine Run.loopThen (fun (k : Nat) e H' => k ≤ b.l.length ∧ idxN stopL (b.l.drop k) k = idxN stopL b.l 0 ∧ H' = [] ∧ look e 0 = some (.vsl b.nil (ofBytes b.l) b.l.length) ∧ look e 4 = some (.int .i64 k)) (fun k => b.l.length - k) 0 ?_ ?_
  · simp
  rintro k e H' ⟨hk, hi, rfl, k0, k4⟩
  obtain ⟨j, hj⟩ : ∃ j, j = k + 4 := ⟨_, rfl⟩
  have hw : IntKind.i64.wrap ((k : Int) + 4) = (j : Int) := by rw [wrap_i64] <;> omega
  have hw1 : IntKind.i64.wrap ((k : Int) + 1) = ((k + 1 : Nat) : Int) := by rw [wrap_i64] <;> omega
  by_cases hlt : k + 4 ≤ b.l.length
  · have hlt' : (j : Int) ≤ (b.l.length : Int) := by omega
    have hjl : j ≤ b.l.length := by omega
    have hkj : (k : Int) ≤ (j : Int) := by omega
    have hkj2 : k ≤ j := by omega
    have hnn : b.nil = false := Sl.nn (s := b) (i := k) (by omega)
    have ht : List.take 4 (List.drop k (ofBytes b.l)) = ofBytes ((b.l.drop k).take 4) := by rw [ofBytes_drop, ofBytes_take]
    have hk4 : j - k = 4 := by omega
    have hwl : ((b.l.drop k).take 4).length = 4 := by simp; omega
    have hj4 : (j : Int) = (k : Int) + 4 := by omega
    rw [List.drop_eq_getElem_cons (by omega), idxN, ← List.drop_eq_getElem_cons (by omega)] at hi
    have hp : stopL.isPrefixOf (b.l.drop k) = ((b.l.drop k).take 4 == stopL) := by
      rw [Bool.eq_iff_iff, List.isPrefixOf_iff_prefix, beq_iff_eq, List.prefix_iff_eq_take]
      exact ⟨fun h => h.symm, fun h => h.symm⟩
    rw [hp] at hi
    cases hq : ((b.l.drop k).take 4 == stopL) with
    | true =>
      rw [hq, if_pos rfl] at hi
      have hq2 : ((b.l.drop k).take 4 == [13, 10, 13, 10]) = true := hq
      rw [← hi, if_neg (by omega), ← hj4]
      generalize (b.l.drop k).take 4 = w at *
      simp [k0, k4, hw, hlt', hkj, hnn, ht, hk4, hwl, hq2]
    | false =>
      rw [hq, if_neg (by decide)] at hi
      have hq2 : ((b.l.drop k).take 4 == [13, 10, 13, 10]) = false := hq
      generalize (b.l.drop k).take 4 = w at *
      simp [k0, k4, hw, hw1, hlt', hkj, hnn, ht, hk4, hwl, hq2]
      exact ⟨k + 1, by omega, by omega, hi, by simp⟩
  · have hlt' : ¬ (j : Int) ≤ (b.l.length : Int) := by omega
    have hlt2 : ¬ j ≤ b.l.length := by omega
    have hi2 : idxN stopL b.l 0 = -1 := by
      rw [← hi]
      rcases idx_cases stopL (b.l.drop k) k with ⟨i, h1, h2, h3⟩ | h1
      · have : stopL.length = 4 := rfl
        rw [List.length_drop] at h2
        omega
      · exact h1
    simp [k0, k4, hw, hlt', hi2]
theorem behind_ev [MaxL] (s p : List UInt8) (hs : s.length < 1000000) (hp : p.length < 1000000) : call cx 50 [.str s, .str p] [] = some (.tup (if pre p s then [.str (s.drop p.length), .bool true] else [.str [], .bool false]), []) := by
  refine call_run Tryd.func50 rfl ⟨rfl, rfl⟩ ?_
  by_cases h : s.length < p.length
  · have h' : (s.length : Int) < (p.length : Int) := by omega
    have hn : pre p s = false := by
      unfold pre
      rw [beq_eq_false_iff_ne]
      intro e
      have := congrArg List.length e
      rw [List.length_take] at this
      omega
    simp [Tryd.f50, h', hn]
  · have h' : ¬ (s.length : Int) < (p.length : Int) := by omega
    have h2 : p.length ≤ s.length := by omega
    have h2' : (p.length : Int) ≤ (s.length : Int) := by omega
    have ht : List.take (s.length - p.length) (List.drop p.length s) = List.drop p.length s := List.take_of_length_le (by simp)
    cases hq : pre p s with
    | false =>
      have hq2 : (s.take p.length == p) = false := hq
      simp [Tryd.f50, h', h2', hq2]
    | true =>
      have hq2 : (s.take p.length == p) = true := hq
      simp [Tryd.f50, h', h2', hq2, ht]
theorem rbody_ev [MaxL] (b : Sl UInt8) (hb : b.l.length ≤ 100000) (k z : Nat) (hk : k ≤ b.l.length) (hk1 : 1 ≤ k) (hz : z < 18446744073709551616) : call cx 52 [(.vsl b.nil (ofBytes b.l) b.l.length), .int .i64 k, .int .u64 z] [] =
    some (.tup (if 65536 < z then [.vsl true [] 0, .int .i64 21] else if (b.l.drop k).length < z then [.vsl true [] 0, .int .i64 22] else if z < (b.l.drop k).length then [.vsl true [] 0, .int .i64 21] else [(.vsl (Sl.of (b.l.drop k)).nil (ofBytes (Sl.of (b.l.drop k)).l) (Sl.of (b.l.drop k)).l.length), .int .i64 0]), []) := by
  refine call_run Tryd.func52 rfl ⟨rfl, rfl⟩ ?_
  have hw1 : IntKind.i64.wrap ((b.l.length : Int) - (k : Int)) = ((b.l.length - k : Nat) : Int) := by rw [wrap_i64] <;> omega
  have hw2 : IntKind.u64.wrap ((b.l.length - k : Nat) : Int) = ((b.l.length - k : Nat) : Int) := by rw [wrap_u64]; omega
  have hd : (b.l.drop k).length = b.l.length - k := by simp
  have hnn : b.nil = false := Sl.nn (s := b) (i := 0) (by omega)
  rw [hd]
  obtain ⟨j, hj⟩ : ∃ j, j = b.l.length - k := ⟨_, rfl⟩
  rw [← hj] at hw1 hw2 hd ⊢
  by_cases z1 : 65536 < z
  · have z1' : (65536 : Int) < (z : Int) := by omega
    simp [Tryd.f52, z1, z1']
  · have z1' : ¬ (65536 : Int) < (z : Int) := by omega
    by_cases z2 : j < z
    · have z2' : (j : Int) < (z : Int) := by omega
      simp [Tryd.f52, z1, z1', z2, z2', hw1, hw2]
    · have z2' : ¬ (j : Int) < (z : Int) := by omega
      by_cases z3 : z < j
      · have z3' : (z : Int) < (j : Int) := by omega
        simp [Tryd.f52, z1, z1', z2, z2', z3, z3', hw1, hw2]
      · have z3' : ¬ (z : Int) < (j : Int) := by omega
        have hk' : (k : Int) ≤ (b.l.length : Int) := by omega
        have ht : List.take j (List.drop k (ofBytes b.l)) = ofBytes (b.l.drop k) := by
          rw [ofBytes_drop]; exact List.take_of_length_le (by simp; omega)
        have hm : j ≤ maxBytes := Nat.le_trans (show j ≤ 100000 by omega) (by decide)
        simp [Tryd.f52, z1, z1', z2, z2', z3, z3', hw1, hw2, hnn, hk', ← hj, ht, hm, hd]
end Go.Ev.S
/- HttpSays: the document's functions: a number. -/
namespace Go.Ev.S
open Go Go.Proofs Go.Ev
theorem dval_digit {c : UInt8} (h1 : 48 ≤ c.toNat) (h2 : c.toNat ≤ 57) : dval c = some (c.toNat - 48) := by
  unfold dval
  rw [if_pos ⟨h1, h2⟩]
theorem puGo_bad {c : UInt8} (h : c.toNat < 48 ∨ 57 < c.toNat) (l : List UInt8) (n : Nat) : puGo 10 (c :: l) n = none := by
  rw [puGo]
  cases hd : dval c with
  | none => rfl
  | some d =>
    simp only
    unfold dval at hd
    rw [if_neg (by omega)] at hd
    split at hd
    · injection hd with hd
      rw [if_pos (by omega)]
    · cases hd
theorem puGo_step {c : UInt8} (h1 : 48 ≤ c.toNat) (h2 : c.toNat ≤ 57) (l : List UInt8) (n : Nat) : puGo 10 (c :: l) n = if 18446744073709551616 ≤ n * 10 + (c.toNat - 48) then none else puGo 10 l (n * 10 + (c.toNat - 48)) := by
  rw [puGo, dval_digit h1 h2]
  simp only
  rw [if_neg (by omega)]
theorem quo10 (d v : Nat) (hd : d < 10) : ∃ m : Nat, IntKind.u64.wrap (18446744073709551615 - (d : Int)) = ((18446744073709551615 - d : Nat) : Int) ∧ IntKind.u64.wrap (((18446744073709551615 - d : Nat) : Int) / 10) = (m : Int) ∧ (m < v ↔ 18446744073709551616 ≤ v * 10 + d) := by
  refine ⟨(18446744073709551615 - d) / 10, ?_, ?_, ?_⟩
  · rw [wrap_u64] <;> omega
  · rw [wrap_u64] <;> omega
  · omega
set_option maxHeartbeats 2000000 in
theorem rnum_ev [MaxL] (s : List UInt8) (hs : s.length < 1000000) : call cx 68 [.str s] [] = some (.tup (match numP s with
    | none => [.int .u64 0, .bool false]
    | some v => [.int .u64 (v : Nat), .bool true]), []) := by
  refine call_run Tryd.func68 rfl ⟨rfl, rfl⟩ ?_
  cases s with
  | nil => simp [Tryd.f68, numP]
  | cons c0 s0 =>
  have h0 : ¬ ((c0 :: s0).length : Int) < 1 := by simp; omega
  have hg0 : (c0 :: s0)[0]? = some c0 := rfl
  by_cases h20 : 20 < (c0 :: s0).length
  · have h20' : (20 : Int) < ((c0 :: s0).length : Int) := by omega
    have hp : numP (c0 :: s0) = none := by unfold numP; rw [if_pos (.inr (.inl h20))]
    generalize c0 :: s0 = s at *
    simp [Tryd.f68, h0, h20', hp]
  · have h20' : ¬ (20 : Int) < ((c0 :: s0).length : Int) := by omega
    by_cases hz : c0.toNat = 48 ∧ 1 < (c0 :: s0).length
    · obtain ⟨hz1, hz2⟩ := hz
      have hz2' : (1 : Int) < ((c0 :: s0).length : Int) := by omega
      have hc0 : c0 = 48 := UInt8.toNat_inj.1 hz1
      have hp : numP (c0 :: s0) = none := by unfold numP; rw [if_pos (.inr (.inr ⟨by rw [hc0]; rfl, hz2⟩))]
      generalize c0 :: s0 = s at *
      subst hc0
      simp [Tryd.f68, h0, h20', hp, hg0, hz2']
    · have hp : numP (c0 :: s0) = puGo 10 (c0 :: s0) 0 := by
        unfold numP
        rw [if_neg]
        rintro (h | h | ⟨h1, h2⟩)
        · simp at h
        · exact h20 h
        · simp only [List.head?_cons, Option.some.injEq] at h1
          exact hz ⟨by rw [h1]; rfl, h2⟩
      have hcs : ¬ (c0.toNat : Int) = 48 ∨ ((c0.toNat : Int) = 48 ∧ ¬ (1 : Int) < ((c0 :: s0).length : Int)) := by omega
      generalize c0 :: s0 = s at *
      rw [hp]
      rcases hcs with hA | ⟨hA, hB⟩
      · simp [Tryd.f68, h0, h20', hg0, hA]
        refine Run.loopThen (fun (q : Nat × Nat) e H' => q.1 ≤ s.length ∧ q.2 < 18446744073709551616 ∧ puGo 10 (s.drop q.1) q.2 = puGo 10 s 0 ∧ H' = [] ∧ look e 0 = some (.str s) ∧ look e 4 = some (.int .u64 (q.2 : Nat)) ∧ look e 5 = some (.int .i64 (q.1 : Nat))) (fun q => s.length - q.1) (0, 0) ?_ ?_
        · simp
        rintro ⟨k, v⟩ e H' ⟨hk, hv, hi, rfl, k0, k4, k5⟩
        simp only at hk hv hi k4 k5
        by_cases hlt : k < s.length
        · have hlt' : (k : Int) < (s.length : Int) := by omega
          have hw1 : IntKind.i64.wrap ((k : Int) + 1) = ((k + 1 : Nat) : Int) := by rw [wrap_i64] <;> omega
          rw [List.drop_eq_getElem_cons hlt] at hi
          have hsk : s[k]? = some s[k] := List.getElem?_eq_getElem hlt
          generalize s[k] = c at *
          by_cases d1 : c.toNat < 48
          · have d1' : (c.toNat : Int) < 48 := by omega
            rw [puGo_bad (.inl d1)] at hi
            simp [k0, k4, k5, hlt', hsk, d1', ← hi]
          · have d1' : ¬ (c.toNat : Int) < 48 := by omega
            by_cases d2 : 57 < c.toNat
            · have d2' : (57 : Int) < (c.toNat : Int) := by omega
              rw [puGo_bad (.inr d2)] at hi
              simp [k0, k4, k5, hlt', hsk, d1', d2', ← hi]
            · have d2' : ¬ (57 : Int) < (c.toNat : Int) := by omega
              rw [puGo_step (by omega) (by omega)] at hi
              obtain ⟨d, hd⟩ : ∃ d, d = c.toNat - 48 := ⟨_, rfl⟩
              rw [← hd] at hi
              have hd10 : d < 10 := by omega
              have w1 : IntKind.u8.wrap ((c.toNat : Int) - 48) = (d : Int) := by rw [wrap_u8] <;> omega
              have w2 : IntKind.u64.wrap (d : Int) = (d : Int) := by rw [wrap_u64]; omega
              obtain ⟨m, m1, m2, m3⟩ := quo10 d v hd10
              generalize 18446744073709551615 - d = j at *
              by_cases d3 : m < v
              · have d3' : (m : Int) < (v : Int) := by omega
                rw [if_pos (m3.1 d3)] at hi
                simp [k0, k4, k5, hlt', hsk, d1', d2', w1, w2, m1, m2, d3', ← hi]
              · have d3' : ¬ (m : Int) < (v : Int) := by omega
                have hle : ¬ 18446744073709551616 ≤ v * 10 + d := fun h => d3 (m3.2 h)
                rw [if_neg hle] at hi
                have w3 : IntKind.u64.wrap (10 * (v : Int)) = ((10 * v : Nat) : Int) := by rw [wrap_u64] <;> omega
                have w4 : IntKind.u64.wrap (((10 * v : Nat) : Int) + (d : Int)) = ((v * 10 + d : Nat) : Int) := by rw [wrap_u64] <;> omega
                obtain ⟨t, ht⟩ : ∃ t, t = 10 * v := ⟨_, rfl⟩
                rw [← ht] at w3 w4
                obtain ⟨u, hu⟩ : ∃ u, u = v * 10 + d := ⟨_, rfl⟩
                rw [← hu] at w4 hi hle
                clear m3
                simp [k0, k4, k5, hlt', hsk, d1', d2', w1, w2, m1, m2, d3', w3, w4, hw1]
                exact ⟨k + 1, by omega, by omega, u, by omega, hi, rfl, rfl⟩
        · have hlt' : ¬ (k : Int) < (s.length : Int) := by omega
          rw [List.drop_eq_nil_of_le (by omega), puGo] at hi
          simp [k0, k4, k5, hlt', ← hi]
      · simp [Tryd.f68, h0, h20', hg0, hA, hB]
        refine Run.loopThen (fun (q : Nat × Nat) e H' => q.1 ≤ s.length ∧ q.2 < 18446744073709551616 ∧ puGo 10 (s.drop q.1) q.2 = puGo 10 s 0 ∧ H' = [] ∧ look e 0 = some (.str s) ∧ look e 4 = some (.int .u64 (q.2 : Nat)) ∧ look e 5 = some (.int .i64 (q.1 : Nat))) (fun q => s.length - q.1) (0, 0) ?_ ?_
        · simp
        rintro ⟨k, v⟩ e H' ⟨hk, hv, hi, rfl, k0, k4, k5⟩
        simp only at hk hv hi k4 k5
        by_cases hlt : k < s.length
        · have hlt' : (k : Int) < (s.length : Int) := by omega
          have hw1 : IntKind.i64.wrap ((k : Int) + 1) = ((k + 1 : Nat) : Int) := by rw [wrap_i64] <;> omega
          rw [List.drop_eq_getElem_cons hlt] at hi
          have hsk : s[k]? = some s[k] := List.getElem?_eq_getElem hlt
          generalize s[k] = c at *
          by_cases d1 : c.toNat < 48
          · have d1' : (c.toNat : Int) < 48 := by omega
            rw [puGo_bad (.inl d1)] at hi
            simp [k0, k4, k5, hlt', hsk, d1', ← hi]
          · have d1' : ¬ (c.toNat : Int) < 48 := by omega
            by_cases d2 : 57 < c.toNat
            · have d2' : (57 : Int) < (c.toNat : Int) := by omega
              rw [puGo_bad (.inr d2)] at hi
              simp [k0, k4, k5, hlt', hsk, d1', d2', ← hi]
            · have d2' : ¬ (57 : Int) < (c.toNat : Int) := by omega
              rw [puGo_step (by omega) (by omega)] at hi
              obtain ⟨d, hd⟩ : ∃ d, d = c.toNat - 48 := ⟨_, rfl⟩
              rw [← hd] at hi
              have hd10 : d < 10 := by omega
              have w1 : IntKind.u8.wrap ((c.toNat : Int) - 48) = (d : Int) := by rw [wrap_u8] <;> omega
              have w2 : IntKind.u64.wrap (d : Int) = (d : Int) := by rw [wrap_u64]; omega
              obtain ⟨m, m1, m2, m3⟩ := quo10 d v hd10
              generalize 18446744073709551615 - d = j at *
              by_cases d3 : m < v
              · have d3' : (m : Int) < (v : Int) := by omega
                rw [if_pos (m3.1 d3)] at hi
                simp [k0, k4, k5, hlt', hsk, d1', d2', w1, w2, m1, m2, d3', ← hi]
              · have d3' : ¬ (m : Int) < (v : Int) := by omega
                have hle : ¬ 18446744073709551616 ≤ v * 10 + d := fun h => d3 (m3.2 h)
                rw [if_neg hle] at hi
                have w3 : IntKind.u64.wrap (10 * (v : Int)) = ((10 * v : Nat) : Int) := by rw [wrap_u64] <;> omega
                have w4 : IntKind.u64.wrap (((10 * v : Nat) : Int) + (d : Int)) = ((v * 10 + d : Nat) : Int) := by rw [wrap_u64] <;> omega
                obtain ⟨t, ht⟩ : ∃ t, t = 10 * v := ⟨_, rfl⟩
                rw [← ht] at w3 w4
                obtain ⟨u, hu⟩ : ∃ u, u = v * 10 + d := ⟨_, rfl⟩
                rw [← hu] at w4 hi hle
                clear m3
                simp [k0, k4, k5, hlt', hsk, d1', d2', w1, w2, m1, m2, d3', w3, w4, hw1]
                exact ⟨k + 1, by omega, by omega, u, by omega, hi, rfl, rfl⟩
        · have hlt' : ¬ (k : Int) < (s.length : Int) := by omega
          rw [List.drop_eq_nil_of_le (by omega), puGo] at hi
          simp [k0, k4, k5, hlt', ← hi]
end Go.Ev.S
/- HttpSays: the document's functions: three numbers. -/
namespace Go.Ev.S
open Go Go.Proofs Go.Ev
theorem upTo13_at : ∀ (t : List UInt8) (k : Nat), k < (upTo13 t).length → ∃ c, t[k]? = some c ∧ c ≠ 13
  | [], k, h => by simp [upTo13] at h
  | c :: l, k, h => by
    unfold upTo13 at h
    by_cases hc : c = 13
    · rw [if_pos hc] at h; simp at h
    · rw [if_neg hc] at h
      cases k with
      | zero => exact ⟨c, rfl, hc⟩
      | succ k => exact upTo13_at l k (by simpa using h)
theorem upTo13_end : ∀ (t : List UInt8), t[(upTo13 t).length]? = none ∨ t[(upTo13 t).length]? = some 13
  | [] => by simp [upTo13]
  | c :: l => by
    unfold upTo13
    by_cases hc : c = 13
    · rw [if_pos hc]; simp [hc]
    · rw [if_neg hc]
      simpa using upTo13_end l
def threeI (r0 : List UInt8) : Nat → Nat → Nat → Nat → List UInt8 → Prop
  | 0, x, y, z, r => x = 0 ∧ y = 0 ∧ z = 0 ∧ r = r0
  | 1, x, y, z, r => line3 epochL r0 = some (x, r) ∧ y = 0 ∧ z = 0
  | 2, x, y, z, r => z = 0 ∧ ∃ r1, line3 epochL r0 = some (x, r1) ∧ line3 numberL r1 = some (y, r)
  | _, x, y, z, r => ∃ r1 r2, line3 epochL r0 = some (x, r1) ∧ line3 numberL r1 = some (y, r2) ∧ line3 lengthL r2 = some (z, r)
set_option maxHeartbeats 4000000 in
set_option maxRecDepth 4000 in
theorem three_ev [MaxL] (s : List UInt8) (hs : s.length < 1000000) :
    (∃ x y z, threeP s = some (x, y, z) ∧ call cx 51 [.str s] [] = some (.tup [.agg [.int .u64 (x : Nat), .int .u64 (y : Nat), .int .u64 (z : Nat)], .bool true], [])) ∨
    (threeP s = none ∧ ∃ x y z : Nat, call cx 51 [.str s] [] = some (.tup [.agg [.int .u64 x, .int .u64 y, .int .u64 z], .bool false], [])) := by
  suffices h : ∃ r, call cx 51 [.str s] [] = some r ∧ ((∃ x y z : Nat, threeP s = some (x, y, z) ∧ r = (.tup [.agg [.int .u64 x, .int .u64 y, .int .u64 z], .bool true], [])) ∨ (threeP s = none ∧ ∃ x y z : Nat, r = (.tup [.agg [.int .u64 x, .int .u64 y, .int .u64 z], .bool false], []))) by
    obtain ⟨r, h1, ⟨x, y, z, h2, rfl⟩ | ⟨h2, x, y, z, rfl⟩⟩ := h
    · exact .inl ⟨x, y, z, h2, h1⟩
    · exact .inr ⟨h2, x, y, z, h1⟩
  refine call_runE (fun r => (∃ x y z : Nat, threeP s = some (x, y, z) ∧ r = (D.tup [.agg [.int .u64 x, .int .u64 y, .int .u64 z], .bool true], [])) ∨ (threeP s = none ∧ ∃ x y z : Nat, r = (D.tup [.agg [.int .u64 x, .int .u64 y, .int .u64 z], .bool false], []))) Tryd.func51 rfl ⟨rfl, rfl⟩ ?_
  have hN : threeP s = match line3 epochL s with
        | none => none
        | some (x, r1) => match line3 numberL r1 with
          | none => none
          | some (y, r2) => match line3 lengthL r2 with
            | none => none
            | some (z, r3) => if r3 = crlf then some (x, y, z) else none := rfl
  generalize threeP s = res at *
  obtain ⟨n, hn⟩ : ∃ n, n = s.length := ⟨_, rfl⟩
  rw [← hn] at hs
  simp [Tryd.f51]
  refine Run.loopThen (fun (q : Nat × Nat × Nat × Nat × List UInt8) e H' => q.1 ≤ 3 ∧ q.2.2.2.2.length ≤ n ∧ q.2.1 < 18446744073709551616 ∧ q.2.2.1 < 18446744073709551616 ∧ q.2.2.2.1 < 18446744073709551616 ∧ threeI s q.1 q.2.1 q.2.2.1 q.2.2.2.1 q.2.2.2.2 ∧
      H' = [some [.int .u64 0, .int .u64 0, .int .u64 0], some [.int .u64 (q.2.1 : Nat), .int .u64 (q.2.2.1 : Nat), .int .u64 (q.2.2.2.1 : Nat)], some [.str epochL, .str numberL, .str lengthL]] ∧
      look e 2 = some (.optr 0 3 0) ∧ look e 4 = some (.optr 1 3 0) ∧ look e 5 = some (.osl 2 3 0 3 1) ∧ look e 6 = some (.str q.2.2.2.2) ∧ look e 7 = some (.int .i64 (q.1 : Nat))) (fun q => 3 - q.1) (0, 0, 0, 0, s) ?_ ?_
  · simp [threeI, hn, epochL, numberL, lengthL]
  rintro ⟨i, x, y, z, r⟩ e H' ⟨hi, hrl, hx, hy, hz, hI, rfl, k2, k4, k5, k6, k7⟩
  simp only at hi hrl hx hy hz hI k6 k7
  have : i = 0 ∨ i = 1 ∨ i = 2 ∨ i = 3 := by omega
  rcases this with rfl | rfl | rfl | rfl
  · obtain ⟨rfl, rfl, rfl, rfl⟩ := hI
    have hb := behind_ev r epochL (by omega) (by decide)
    have hl3 : line3 epochL r = if pre epochL r then
        match numP (upTo13 (r.drop epochL.length)) with
        | none => none
        | some v => if ((r.drop epochL.length).drop (upTo13 (r.drop epochL.length)).length).take 2 = crlf then some (v, (r.drop epochL.length).drop ((upTo13 (r.drop epochL.length)).length + 2)) else none
      else none := rfl
    cases hp : pre epochL r with
    | false =>
      rw [hp, if_neg (by decide)] at hb hl3
      rw [hl3] at hN
      simp [k2, k4, k5, k6, k7, hb]
      exact ⟨hN, 0, rfl⟩
    | true =>
      rw [hp, if_pos rfl] at hb hl3
      have htl : (r.drop epochL.length).length ≤ n := by simp; omega
      generalize r.drop epochL.length = t at *
      simp [k2, k4, k5, k6, k7, hb]
      refine Run.loopThen (fun (k : Nat) e H' => k ≤ (upTo13 t).length ∧ 
          H' = [some [.int .u64 0, .int .u64 0, .int .u64 0], some [.int .u64 (0 : Nat), .int .u64 (0 : Nat), .int .u64 (0 : Nat)], some [.str epochL, .str numberL, .str lengthL]] ∧
          look e 2 = some (.optr 0 3 0) ∧ look e 4 = some (.optr 1 3 0) ∧ look e 5 = some (.osl 2 3 0 3 1) ∧ look e 7 = some (.int .i64 (0 : Nat)) ∧ look e 8 = some (.str t) ∧ look e 10 = some (.int .i64 k)) (fun k => (upTo13 t).length - k) 0 ?_ ?_
      · simp
      rintro k e1 H1 ⟨hk, rfl, j2, j4, j5, j7, j8, j10⟩
      have hul := upTo13_len t
      have hw1 : IntKind.i64.wrap ((k : Int) + 1) = ((k + 1 : Nat) : Int) := by rw [wrap_i64] <;> omega
      by_cases hlt : k < (upTo13 t).length
      · have hlt' : (k : Int) < (t.length : Int) := by omega
        have hlt2 : k < t.length := by omega
        obtain ⟨c, hc1, hc2⟩ := upTo13_at t k hlt
        have hc3 : ¬ (c.toNat : Int) = 13 := fun h => hc2 (UInt8.toNat_inj.1 (show c.toNat = 13 by omega))
        simp [j2, j4, j5, j7, j8, j10, hlt', hc1, hc3, hw1]
        exact ⟨k + 1, by omega, by omega, rfl⟩
      · have hke : k = (upTo13 t).length := by omega
        have hend := upTo13_end t
        have htk := upTo13_take t
        have hnum := rnum_ev (upTo13 t) (by omega)
        rw [← hke] at hl3 hend htk
        rw [← htk] at hnum hl3
        have hw2 : IntKind.i64.wrap ((k : Int) + 2) = ((k + 2 : Nat) : Int) := by rw [wrap_i64] <;> omega
        have hkl : k ≤ t.length := by omega
        have hkl' : (k : Int) ≤ (t.length : Int) := by omega
        have e2 : k + 2 - k = 2 := by omega
        obtain ⟨rest, hrest⟩ : ∃ rest, rest = List.drop (k + 2) t := ⟨_, rfl⟩
        have hdr : List.take (t.length - (k + 2)) (List.drop (k + 2) t) = rest := by rw [hrest]; exact List.take_of_length_le (by simp)
        have hdl : rest.length ≤ n := by rw [hrest]; simp; omega
        rw [← hrest] at hl3
        have t2l : k + 2 ≤ t.length ∨ (t.drop k).take 2 ≠ crlf := by
          by_cases h : k + 2 ≤ t.length
          · exact .inl h
          · refine .inr fun h2 => ?_
            have := congrArg List.length h2
            simp [crlf] at this
            omega
        have htcr : ((t.drop k).take 2 = crlf) = ((t.drop k).take 2 = [13, 10]) := rfl
        generalize hT2 : (t.drop k).take 2 = t2 at *
        have hl3b := hl3
        cases hn : numP (List.take k t) with
        | none =>
          rw [hn] at hnum hl3
          rw [hl3] at hN
          rcases hend with hend | hend
          · have hlt' : ¬ (k : Int) < (t.length : Int) := by have := List.getElem?_eq_none_iff.1 hend; omega
            simp [j2, j4, j5, j7, j8, j10, hlt', hkl', hnum]
            exact ⟨hN, 0, rfl⟩
          · have hlt2 : k < t.length := (List.getElem?_eq_some_iff.1 hend).1
            have hlt' : (k : Int) < (t.length : Int) := by omega
            simp [j2, j4, j5, j7, j8, j10, hlt', hkl', hend, hnum]
            exact ⟨hN, 0, rfl⟩
        | some v =>
          have hv := (num_inv hn).1
          rw [hn] at hnum hl3
          simp only at hnum hl3
          by_cases hcr : t2 = crlf
          · rw [if_pos hcr] at hl3
            have hk2 : k + 2 ≤ t.length := t2l.resolve_right (fun h => h hcr)
            have hk2' : ¬ (t.length : Int) < ((k + 2 : Nat) : Int) := by omega
            have hk2'' : ((k + 2 : Nat) : Int) ≤ (t.length : Int) := by omega
            have ht2 : (t2 == [13, 10]) = true := beq_iff_eq.2 hcr
            rw [hl3] at hN
            rcases hend with hend | hend
            · have := List.getElem?_eq_none_iff.1 hend
              omega
            · have hlt2 : k < t.length := (List.getElem?_eq_some_iff.1 hend).1
              have hlt' : (k : Int) < (t.length : Int) := by omega
              obtain ⟨k3, hk3⟩ : ∃ k3, k3 = k + 2 := ⟨_, rfl⟩
              have hkk : k ≤ k3 := by omega
              rw [← hk3] at hw2 hk2 hk2' hk2'' hdr e2
              simp [j2, j4, j5, j7, j8, j10, hlt', hkl', hend, hnum, hkk, hw2, hk2', hk2'', e2, hT2, ht2, hdr]
              exact ⟨1, by omega, by omega, v, 0, 0, rest, by omega, hv, by omega, by omega, ⟨hl3, rfl, rfl⟩, ⟨rfl, rfl, rfl⟩, rfl, rfl⟩
          · rw [if_neg hcr] at hl3
            rw [hl3] at hN
            have ht2 : (t2 == [13, 10]) = false := beq_eq_false_iff_ne.2 hcr
            rcases hend with hend | hend
            · have hlt' : ¬ (k : Int) < (t.length : Int) := by have := List.getElem?_eq_none_iff.1 hend; omega
              have hk2' : (t.length : Int) < ((k + 2 : Nat) : Int) := by omega
              obtain ⟨k3, hk3⟩ : ∃ k3, k3 = k + 2 := ⟨_, rfl⟩
              rw [← hk3] at hw2 hk2'
              simp [j2, j4, j5, j7, j8, j10, hlt', hkl', hnum, hw2, hk2']
              exact ⟨hN, 0, rfl⟩
            · have hlt2 : k < t.length := (List.getElem?_eq_some_iff.1 hend).1
              have hlt' : (k : Int) < (t.length : Int) := by omega
              by_cases hk2 : k + 2 ≤ t.length
              · have hk2' : ¬ (t.length : Int) < ((k + 2 : Nat) : Int) := by omega
                have hk2'' : ((k + 2 : Nat) : Int) ≤ (t.length : Int) := by omega
                obtain ⟨k3, hk3⟩ : ∃ k3, k3 = k + 2 := ⟨_, rfl⟩
                have hkk : k ≤ k3 := by omega
                rw [← hk3] at hw2 hk2 hk2' hk2'' e2
                simp [j2, j4, j5, j7, j8, j10, hlt', hkl', hend, hnum, hkk, hw2, hk2', hk2'', e2, hT2, ht2]
                exact ⟨hN, 0, rfl⟩
              · have hk2' : (t.length : Int) < ((k + 2 : Nat) : Int) := by omega
                obtain ⟨k3, hk3⟩ : ∃ k3, k3 = k + 2 := ⟨_, rfl⟩
                rw [← hk3] at hw2 hk2'
                simp [j2, j4, j5, j7, j8, j10, hlt', hkl', hend, hnum, hw2, hk2']
                exact ⟨hN, 0, rfl⟩
  · obtain ⟨hI1, rfl, rfl⟩ := hI
    rw [hI1] at hN
    simp only at hN
    have hb := behind_ev r numberL (by omega) (by decide)
    have hl3 : line3 numberL r = if pre numberL r then
        match numP (upTo13 (r.drop numberL.length)) with
        | none => none
        | some v => if ((r.drop numberL.length).drop (upTo13 (r.drop numberL.length)).length).take 2 = crlf then some (v, (r.drop numberL.length).drop ((upTo13 (r.drop numberL.length)).length + 2)) else none
      else none := rfl
    cases hp : pre numberL r with
    | false =>
      rw [hp, if_neg (by decide)] at hb hl3
      rw [hl3] at hN
      simp [k2, k4, k5, k6, k7, hb]
      exact ⟨hN, ⟨x, rfl⟩, 0, rfl⟩
    | true =>
      rw [hp, if_pos rfl] at hb hl3
      have htl : (r.drop numberL.length).length ≤ n := by simp; omega
      generalize r.drop numberL.length = t at *
      simp [k2, k4, k5, k6, k7, hb]
      refine Run.loopThen (fun (k : Nat) e H' => k ≤ (upTo13 t).length ∧ 
          H' = [some [.int .u64 0, .int .u64 0, .int .u64 0], some [.int .u64 (x : Nat), .int .u64 (0 : Nat), .int .u64 (0 : Nat)], some [.str epochL, .str numberL, .str lengthL]] ∧
          look e 2 = some (.optr 0 3 0) ∧ look e 4 = some (.optr 1 3 0) ∧ look e 5 = some (.osl 2 3 0 3 1) ∧ look e 7 = some (.int .i64 (1 : Nat)) ∧ look e 8 = some (.str t) ∧ look e 10 = some (.int .i64 k)) (fun k => (upTo13 t).length - k) 0 ?_ ?_
      · simp
      rintro k e1 H1 ⟨hk, rfl, j2, j4, j5, j7, j8, j10⟩
      have hul := upTo13_len t
      have hw1 : IntKind.i64.wrap ((k : Int) + 1) = ((k + 1 : Nat) : Int) := by rw [wrap_i64] <;> omega
      by_cases hlt : k < (upTo13 t).length
      · have hlt' : (k : Int) < (t.length : Int) := by omega
        have hlt2 : k < t.length := by omega
        obtain ⟨c, hc1, hc2⟩ := upTo13_at t k hlt
        have hc3 : ¬ (c.toNat : Int) = 13 := fun h => hc2 (UInt8.toNat_inj.1 (show c.toNat = 13 by omega))
        simp [j2, j4, j5, j7, j8, j10, hlt', hc1, hc3, hw1]
        exact ⟨k + 1, by omega, by omega, rfl⟩
      · have hke : k = (upTo13 t).length := by omega
        have hend := upTo13_end t
        have htk := upTo13_take t
        have hnum := rnum_ev (upTo13 t) (by omega)
        rw [← hke] at hl3 hend htk
        rw [← htk] at hnum hl3
        have hw2 : IntKind.i64.wrap ((k : Int) + 2) = ((k + 2 : Nat) : Int) := by rw [wrap_i64] <;> omega
        have hkl : k ≤ t.length := by omega
        have hkl' : (k : Int) ≤ (t.length : Int) := by omega
        have e2 : k + 2 - k = 2 := by omega
        obtain ⟨rest, hrest⟩ : ∃ rest, rest = List.drop (k + 2) t := ⟨_, rfl⟩
        have hdr : List.take (t.length - (k + 2)) (List.drop (k + 2) t) = rest := by rw [hrest]; exact List.take_of_length_le (by simp)
        have hdl : rest.length ≤ n := by rw [hrest]; simp; omega
        rw [← hrest] at hl3
        have t2l : k + 2 ≤ t.length ∨ (t.drop k).take 2 ≠ crlf := by
          by_cases h : k + 2 ≤ t.length
          · exact .inl h
          · refine .inr fun h2 => ?_
            have := congrArg List.length h2
            simp [crlf] at this
            omega
        have htcr : ((t.drop k).take 2 = crlf) = ((t.drop k).take 2 = [13, 10]) := rfl
        generalize hT2 : (t.drop k).take 2 = t2 at *
        have hl3b := hl3
        cases hn : numP (List.take k t) with
        | none =>
          rw [hn] at hnum hl3
          rw [hl3] at hN
          rcases hend with hend | hend
          · have hlt' : ¬ (k : Int) < (t.length : Int) := by have := List.getElem?_eq_none_iff.1 hend; omega
            simp [j2, j4, j5, j7, j8, j10, hlt', hkl', hnum]
            exact ⟨hN, ⟨x, rfl⟩, 0, rfl⟩
          · have hlt2 : k < t.length := (List.getElem?_eq_some_iff.1 hend).1
            have hlt' : (k : Int) < (t.length : Int) := by omega
            simp [j2, j4, j5, j7, j8, j10, hlt', hkl', hend, hnum]
            exact ⟨hN, ⟨x, rfl⟩, 0, rfl⟩
        | some v =>
          have hv := (num_inv hn).1
          rw [hn] at hnum hl3
          simp only at hnum hl3
          by_cases hcr : t2 = crlf
          · rw [if_pos hcr] at hl3
            have hk2 : k + 2 ≤ t.length := t2l.resolve_right (fun h => h hcr)
            have hk2' : ¬ (t.length : Int) < ((k + 2 : Nat) : Int) := by omega
            have hk2'' : ((k + 2 : Nat) : Int) ≤ (t.length : Int) := by omega
            have ht2 : (t2 == [13, 10]) = true := beq_iff_eq.2 hcr
            rw [hl3] at hN
            rcases hend with hend | hend
            · have := List.getElem?_eq_none_iff.1 hend
              omega
            · have hlt2 : k < t.length := (List.getElem?_eq_some_iff.1 hend).1
              have hlt' : (k : Int) < (t.length : Int) := by omega
              obtain ⟨k3, hk3⟩ : ∃ k3, k3 = k + 2 := ⟨_, rfl⟩
              have hkk : k ≤ k3 := by omega
              rw [← hk3] at hw2 hk2 hk2' hk2'' hdr e2
              simp [j2, j4, j5, j7, j8, j10, hlt', hkl', hend, hnum, hkk, hw2, hk2', hk2'', e2, hT2, ht2, hdr]
              exact ⟨2, by omega, by omega, x, v, 0, rest, by omega, hx, hv, by omega, ⟨rfl, _, hI1, hl3⟩, ⟨rfl, rfl, rfl⟩, rfl, rfl⟩
          · rw [if_neg hcr] at hl3
            rw [hl3] at hN
            have ht2 : (t2 == [13, 10]) = false := beq_eq_false_iff_ne.2 hcr
            rcases hend with hend | hend
            · have hlt' : ¬ (k : Int) < (t.length : Int) := by have := List.getElem?_eq_none_iff.1 hend; omega
              have hk2' : (t.length : Int) < ((k + 2 : Nat) : Int) := by omega
              obtain ⟨k3, hk3⟩ : ∃ k3, k3 = k + 2 := ⟨_, rfl⟩
              rw [← hk3] at hw2 hk2'
              simp [j2, j4, j5, j7, j8, j10, hlt', hkl', hnum, hw2, hk2']
              exact ⟨hN, ⟨x, rfl⟩, 0, rfl⟩
            · have hlt2 : k < t.length := (List.getElem?_eq_some_iff.1 hend).1
              have hlt' : (k : Int) < (t.length : Int) := by omega
              by_cases hk2 : k + 2 ≤ t.length
              · have hk2' : ¬ (t.length : Int) < ((k + 2 : Nat) : Int) := by omega
                have hk2'' : ((k + 2 : Nat) : Int) ≤ (t.length : Int) := by omega
                obtain ⟨k3, hk3⟩ : ∃ k3, k3 = k + 2 := ⟨_, rfl⟩
                have hkk : k ≤ k3 := by omega
                rw [← hk3] at hw2 hk2 hk2' hk2'' e2
                simp [j2, j4, j5, j7, j8, j10, hlt', hkl', hend, hnum, hkk, hw2, hk2', hk2'', e2, hT2, ht2]
                exact ⟨hN, ⟨x, rfl⟩, 0, rfl⟩
              · have hk2' : (t.length : Int) < ((k + 2 : Nat) : Int) := by omega
                obtain ⟨k3, hk3⟩ : ∃ k3, k3 = k + 2 := ⟨_, rfl⟩
                rw [← hk3] at hw2 hk2'
                simp [j2, j4, j5, j7, j8, j10, hlt', hkl', hend, hnum, hw2, hk2']
                exact ⟨hN, ⟨x, rfl⟩, 0, rfl⟩
  · obtain ⟨rfl, r1, hI1, hI2⟩ := hI
    rw [hI1] at hN
    simp only [hI2] at hN
    have hb := behind_ev r lengthL (by omega) (by decide)
    have hl3 : line3 lengthL r = if pre lengthL r then
        match numP (upTo13 (r.drop lengthL.length)) with
        | none => none
        | some v => if ((r.drop lengthL.length).drop (upTo13 (r.drop lengthL.length)).length).take 2 = crlf then some (v, (r.drop lengthL.length).drop ((upTo13 (r.drop lengthL.length)).length + 2)) else none
      else none := rfl
    cases hp : pre lengthL r with
    | false =>
      rw [hp, if_neg (by decide)] at hb hl3
      rw [hl3] at hN
      simp [k2, k4, k5, k6, k7, hb]
      exact ⟨hN, ⟨x, rfl⟩, ⟨y, rfl⟩, 0, rfl⟩
    | true =>
      rw [hp, if_pos rfl] at hb hl3
      have htl : (r.drop lengthL.length).length ≤ n := by simp; omega
      generalize r.drop lengthL.length = t at *
      simp [k2, k4, k5, k6, k7, hb]
      refine Run.loopThen (fun (k : Nat) e H' => k ≤ (upTo13 t).length ∧ 
          H' = [some [.int .u64 0, .int .u64 0, .int .u64 0], some [.int .u64 (x : Nat), .int .u64 (y : Nat), .int .u64 (0 : Nat)], some [.str epochL, .str numberL, .str lengthL]] ∧
          look e 2 = some (.optr 0 3 0) ∧ look e 4 = some (.optr 1 3 0) ∧ look e 5 = some (.osl 2 3 0 3 1) ∧ look e 7 = some (.int .i64 (2 : Nat)) ∧ look e 8 = some (.str t) ∧ look e 10 = some (.int .i64 k)) (fun k => (upTo13 t).length - k) 0 ?_ ?_
      · simp
      rintro k e1 H1 ⟨hk, rfl, j2, j4, j5, j7, j8, j10⟩
      have hul := upTo13_len t
      have hw1 : IntKind.i64.wrap ((k : Int) + 1) = ((k + 1 : Nat) : Int) := by rw [wrap_i64] <;> omega
      by_cases hlt : k < (upTo13 t).length
      · have hlt' : (k : Int) < (t.length : Int) := by omega
        have hlt2 : k < t.length := by omega
        obtain ⟨c, hc1, hc2⟩ := upTo13_at t k hlt
        have hc3 : ¬ (c.toNat : Int) = 13 := fun h => hc2 (UInt8.toNat_inj.1 (show c.toNat = 13 by omega))
        simp [j2, j4, j5, j7, j8, j10, hlt', hc1, hc3, hw1]
        exact ⟨k + 1, by omega, by omega, rfl⟩
      · have hke : k = (upTo13 t).length := by omega
        have hend := upTo13_end t
        have htk := upTo13_take t
        have hnum := rnum_ev (upTo13 t) (by omega)
        rw [← hke] at hl3 hend htk
        rw [← htk] at hnum hl3
        have hw2 : IntKind.i64.wrap ((k : Int) + 2) = ((k + 2 : Nat) : Int) := by rw [wrap_i64] <;> omega
        have hkl : k ≤ t.length := by omega
        have hkl' : (k : Int) ≤ (t.length : Int) := by omega
        have e2 : k + 2 - k = 2 := by omega
        obtain ⟨rest, hrest⟩ : ∃ rest, rest = List.drop (k + 2) t := ⟨_, rfl⟩
        have hdr : List.take (t.length - (k + 2)) (List.drop (k + 2) t) = rest := by rw [hrest]; exact List.take_of_length_le (by simp)
        have hdl : rest.length ≤ n := by rw [hrest]; simp; omega
        rw [← hrest] at hl3
        have t2l : k + 2 ≤ t.length ∨ (t.drop k).take 2 ≠ crlf := by
          by_cases h : k + 2 ≤ t.length
          · exact .inl h
          · refine .inr fun h2 => ?_
            have := congrArg List.length h2
            simp [crlf] at this
            omega
        have htcr : ((t.drop k).take 2 = crlf) = ((t.drop k).take 2 = [13, 10]) := rfl
        generalize hT2 : (t.drop k).take 2 = t2 at *
        have hl3b := hl3
        cases hn : numP (List.take k t) with
        | none =>
          rw [hn] at hnum hl3
          rw [hl3] at hN
          rcases hend with hend | hend
          · have hlt' : ¬ (k : Int) < (t.length : Int) := by have := List.getElem?_eq_none_iff.1 hend; omega
            simp [j2, j4, j5, j7, j8, j10, hlt', hkl', hnum]
            exact ⟨hN, ⟨x, rfl⟩, ⟨y, rfl⟩, 0, rfl⟩
          · have hlt2 : k < t.length := (List.getElem?_eq_some_iff.1 hend).1
            have hlt' : (k : Int) < (t.length : Int) := by omega
            simp [j2, j4, j5, j7, j8, j10, hlt', hkl', hend, hnum]
            exact ⟨hN, ⟨x, rfl⟩, ⟨y, rfl⟩, 0, rfl⟩
        | some v =>
          have hv := (num_inv hn).1
          rw [hn] at hnum hl3
          simp only at hnum hl3
          by_cases hcr : t2 = crlf
          · rw [if_pos hcr] at hl3
            have hk2 : k + 2 ≤ t.length := t2l.resolve_right (fun h => h hcr)
            have hk2' : ¬ (t.length : Int) < ((k + 2 : Nat) : Int) := by omega
            have hk2'' : ((k + 2 : Nat) : Int) ≤ (t.length : Int) := by omega
            have ht2 : (t2 == [13, 10]) = true := beq_iff_eq.2 hcr
            rw [hl3] at hN
            rcases hend with hend | hend
            · have := List.getElem?_eq_none_iff.1 hend
              omega
            · have hlt2 : k < t.length := (List.getElem?_eq_some_iff.1 hend).1
              have hlt' : (k : Int) < (t.length : Int) := by omega
              obtain ⟨k3, hk3⟩ : ∃ k3, k3 = k + 2 := ⟨_, rfl⟩
              have hkk : k ≤ k3 := by omega
              rw [← hk3] at hw2 hk2 hk2' hk2'' hdr e2
              simp [j2, j4, j5, j7, j8, j10, hlt', hkl', hend, hnum, hkk, hw2, hk2', hk2'', e2, hT2, ht2, hdr]
              exact ⟨3, by omega, by omega, x, y, v, rest, by omega, hx, hy, hv, ⟨_, _, hI1, hI2, hl3⟩, ⟨rfl, rfl, rfl⟩, rfl, rfl⟩
          · rw [if_neg hcr] at hl3
            rw [hl3] at hN
            have ht2 : (t2 == [13, 10]) = false := beq_eq_false_iff_ne.2 hcr
            rcases hend with hend | hend
            · have hlt' : ¬ (k : Int) < (t.length : Int) := by have := List.getElem?_eq_none_iff.1 hend; omega
              have hk2' : (t.length : Int) < ((k + 2 : Nat) : Int) := by omega
              obtain ⟨k3, hk3⟩ : ∃ k3, k3 = k + 2 := ⟨_, rfl⟩
              rw [← hk3] at hw2 hk2'
              simp [j2, j4, j5, j7, j8, j10, hlt', hkl', hnum, hw2, hk2']
              exact ⟨hN, ⟨x, rfl⟩, ⟨y, rfl⟩, 0, rfl⟩
            · have hlt2 : k < t.length := (List.getElem?_eq_some_iff.1 hend).1
              have hlt' : (k : Int) < (t.length : Int) := by omega
              by_cases hk2 : k + 2 ≤ t.length
              · have hk2' : ¬ (t.length : Int) < ((k + 2 : Nat) : Int) := by omega
                have hk2'' : ((k + 2 : Nat) : Int) ≤ (t.length : Int) := by omega
                obtain ⟨k3, hk3⟩ : ∃ k3, k3 = k + 2 := ⟨_, rfl⟩
                have hkk : k ≤ k3 := by omega
                rw [← hk3] at hw2 hk2 hk2' hk2'' e2
                simp [j2, j4, j5, j7, j8, j10, hlt', hkl', hend, hnum, hkk, hw2, hk2', hk2'', e2, hT2, ht2]
                exact ⟨hN, ⟨x, rfl⟩, ⟨y, rfl⟩, 0, rfl⟩
              · have hk2' : (t.length : Int) < ((k + 2 : Nat) : Int) := by omega
                obtain ⟨k3, hk3⟩ : ∃ k3, k3 = k + 2 := ⟨_, rfl⟩
                rw [← hk3] at hw2 hk2'
                simp [j2, j4, j5, j7, j8, j10, hlt', hkl', hend, hnum, hw2, hk2']
                exact ⟨hN, ⟨x, rfl⟩, ⟨y, rfl⟩, 0, rfl⟩
  · obtain ⟨r1, r2, hI1, hI2, hI3⟩ := hI
    rw [hI1] at hN
    simp only [hI2, hI3] at hN
    by_cases hr : r = crlf
    · rw [if_pos hr] at hN
      have hr2 : (r == [13, 10]) = true := beq_iff_eq.2 hr
      simp [k2, k4, k5, k6, k7, hr2]
      exact ⟨x, y, z, hN, rfl, rfl, rfl⟩
    · rw [if_neg hr] at hN
      have hr2 : (r == [13, 10]) = false := beq_eq_false_iff_ne.2 hr
      simp [k2, k4, k5, k6, k7, hr2]
      exact ⟨hN, ⟨x, rfl⟩, ⟨y, rfl⟩, z, rfl⟩
end Go.Ev.S
/- HttpSays: the document's functions: messages are read. -/
namespace Go.Ev.S
open Go Go.Proofs Go.Ev
theorem readP_ref (b : List UInt8) {l : List (List UInt8)} (hl : Apart l) : readP b l = if idxN stopL b 0 = -1 then (.zero, 22) else refB (b.take ((idxN stopL b 0).toNat + 4)) (b.drop ((idxN stopL b 0).toNat + 4)) l 0 := by
  rw [refB_eq _ _ _ _ hl]
  rfl
set_option maxHeartbeats 4000000 in
set_option maxRecDepth 4000 in
theorem rrdrq_ev [MaxL] (b : Sl UInt8) (hb : b.l.length ≤ 90000) : call cx 23 [(.vsl b.nil (ofBytes b.l) b.l.length)] [] = some (.tup [.agg (Enc.cells (rdRq b.l).1), .int .i64 (rdRq b.l).2], []) := by
  have hh := rhead_ev b (by omega)
  have hP := readP_ref b.l rq_apart
  have hrd : rdRq b.l = if (readP b.l rqL).2 = 0 then (⟨pathOf (readP b.l rqL).1.kind, (readP b.l rqL).1.epoch, (readP b.l rqL).1.number, (readP b.l rqL).1.body⟩, 0) else (⟨[], 0, 0, .none⟩, (readP b.l rqL).2) := rfl
  generalize readP b.l rqL = m at *
  generalize rdRq b.l = res at *
  refine call_run Tryd.func23 rfl ⟨rfl, rfl⟩ ?_
  rcases idx_cases stopL b.l 0 with ⟨i, h1, h2, h3⟩ | h1
  · rw [Nat.zero_add] at h1
    have h4 : stopL.length = 4 := rfl
    rw [h4] at h2
    have h5 : ¬ ((i : Nat) : Int) = -1 := by omega
    have h6 : ((i : Int) + 4) = ((i + 4 : Nat) : Int) := by omega
    have h7 : ((i : Nat) : Int).toNat = i := by omega
    rw [h1, if_neg h5, h6] at hh
    rw [h1, if_neg h5, h7] at hP
    obtain ⟨k, hk⟩ : ∃ k, k = i + 4 := ⟨_, rfl⟩
    rw [← hk] at hh hP h2
    have hk1 : 1 ≤ k := by omega
    have hbody := fun z hz => rbody_ev b (by omega) k z h2 hk1 hz
    have hnn : b.nil = false := Sl.nn (s := b) (i := 0) (by omega)
    have htk : List.take k (ofBytes b.l) = ofBytes (b.l.take k) := ofBytes_take _ _
    have hsl : (b.l.take k).length = k := by rw [List.length_take]; omega
    have hk' : (k : Int) ≤ (b.l.length : Int) := by omega
    generalize b.l.take k = s at *
    generalize b.l.drop k = body at *
    have hsl2 : s.length < 1000000 := by omega
    clear h1 h5 h6 h7 hk h3
    simp [Tryd.f23, hh]
    refine Run.loopThen (fun (j : Nat) e H' => j ≤ 2 ∧ refB s body (rqL.drop j) j = m ∧ H' = [some [.str [], .int .u64 0, .int .u64 0, .vsl true [] 0], some [.str helloL, .str batchL]] ∧
      look e 0 = some (.vsl b.nil (ofBytes b.l) b.l.length) ∧ look e 2 = some (.optr 0 4 0) ∧ look e 4 = some (.int .i64 k) ∧ look e 6 = some (.osl 1 2 0 2 1) ∧ look e 7 = some (.int .i64 j)) (fun j => 2 - j) 0 ?_ ?_
    · simp [hP, helloL, batchL]
    rintro j e H' ⟨hj, hm, rfl, k0, k2, k4, k6, k7⟩
    rw [hnn] at k0 hbody
    have hjs : j = 0 ∨ j = 1 ∨ j = 2 := by omega
    rcases hjs with rfl | rfl | rfl
    · rw [show rqL.drop 0 = beginL helloL :: rqL.drop 1 from rfl, refB] at hm
      have hst := rstart_ev helloL (by decide)
      have hbe := behind_ev s (beginL helloL) hsl2 (by decide)
      cases hp : pre (beginL helloL) s with
      | false =>
        rw [hp, if_neg (by decide)] at hbe hm
        generalize beginL helloL = w at *
        simp [k0, k2, k4, k6, k7, hk', htk, hst, hbe, hsl]
        exact ⟨1, by omega, by omega, hm, by simp [hnn]⟩
      | true =>
        rw [hp, if_pos rfl] at hbe hm
        have htl : (s.drop (beginL helloL).length).length ≤ s.length := by simp
        generalize s.drop (beginL helloL).length = t at *
        generalize beginL helloL = w at *
        rcases three_ev t (by omega) with ⟨x, y, z, n1, n2⟩ | ⟨n1, x, y, z, n2⟩
        · rw [n1] at hm
          simp only at hm
          have hz := (three_inv n1).2.2.1
          have hbo := hbody z hz
          unfold gotB at hm
          by_cases z1 : 65536 < z
          · rw [if_pos z1] at hbo hm
            subst hm
            rw [if_neg (by decide)] at hrd
            subst hrd
            simp [k0, k2, k4, k6, k7, hk', htk, hst, hbe, hsl, n2, hbo, Rq.cells]
          · rw [if_neg z1] at hbo hm
            by_cases z2 : body.length < z
            · rw [if_pos z2] at hbo hm
              subst hm
              rw [if_neg (by decide)] at hrd
              subst hrd
              simp [k0, k2, k4, k6, k7, hk', htk, hst, hbe, hsl, n2, hbo, Rq.cells]
            · rw [if_neg z2] at hbo hm
              by_cases z3 : z < body.length
              · rw [if_pos z3] at hbo hm
                subst hm
                rw [if_neg (by decide)] at hrd
                subst hrd
                simp [k0, k2, k4, k6, k7, hk', htk, hst, hbe, hsl, n2, hbo, Rq.cells]
              · rw [if_neg z3] at hbo hm
                subst hm
                rw [if_pos rfl] at hrd
                subst hrd
                simp [k0, k2, k4, k6, k7, hk', htk, hst, hbe, hsl, n2, hbo, Rq.cells, pathOf]
                try rfl
        · rw [n1] at hm
          simp only at hm
          subst hm
          rw [if_neg (by decide)] at hrd
          subst hrd
          simp [k0, k2, k4, k6, k7, hk', htk, hst, hbe, hsl, n2, Rq.cells]
    · rw [show rqL.drop 1 = beginL batchL :: rqL.drop 2 from rfl, refB] at hm
      have hst := rstart_ev batchL (by decide)
      have hbe := behind_ev s (beginL batchL) hsl2 (by decide)
      cases hp : pre (beginL batchL) s with
      | false =>
        rw [hp, if_neg (by decide)] at hbe hm
        generalize beginL batchL = w at *
        simp [k0, k2, k4, k6, k7, hk', htk, hst, hbe, hsl]
        exact ⟨2, by omega, by omega, hm, by simp [hnn]⟩
      | true =>
        rw [hp, if_pos rfl] at hbe hm
        have htl : (s.drop (beginL batchL).length).length ≤ s.length := by simp
        generalize s.drop (beginL batchL).length = t at *
        generalize beginL batchL = w at *
        rcases three_ev t (by omega) with ⟨x, y, z, n1, n2⟩ | ⟨n1, x, y, z, n2⟩
        · rw [n1] at hm
          simp only at hm
          have hz := (three_inv n1).2.2.1
          have hbo := hbody z hz
          unfold gotB at hm
          by_cases z1 : 65536 < z
          · rw [if_pos z1] at hbo hm
            subst hm
            rw [if_neg (by decide)] at hrd
            subst hrd
            simp [k0, k2, k4, k6, k7, hk', htk, hst, hbe, hsl, n2, hbo, Rq.cells]
          · rw [if_neg z1] at hbo hm
            by_cases z2 : body.length < z
            · rw [if_pos z2] at hbo hm
              subst hm
              rw [if_neg (by decide)] at hrd
              subst hrd
              simp [k0, k2, k4, k6, k7, hk', htk, hst, hbe, hsl, n2, hbo, Rq.cells]
            · rw [if_neg z2] at hbo hm
              by_cases z3 : z < body.length
              · rw [if_pos z3] at hbo hm
                subst hm
                rw [if_neg (by decide)] at hrd
                subst hrd
                simp [k0, k2, k4, k6, k7, hk', htk, hst, hbe, hsl, n2, hbo, Rq.cells]
              · rw [if_neg z3] at hbo hm
                subst hm
                rw [if_pos rfl] at hrd
                subst hrd
                simp [k0, k2, k4, k6, k7, hk', htk, hst, hbe, hsl, n2, hbo, Rq.cells, pathOf]
                try rfl
        · rw [n1] at hm
          simp only at hm
          subst hm
          rw [if_neg (by decide)] at hrd
          subst hrd
          simp [k0, k2, k4, k6, k7, hk', htk, hst, hbe, hsl, n2, Rq.cells]
    · rw [show rqL.drop 2 = [] from rfl, refB] at hm
      subst hm
      rw [if_neg (by decide)] at hrd
      subst hrd
      simp [k0, k2, k4, k6, k7, Rq.cells]
  · rw [h1, if_pos rfl] at hh hP
    subst hP
    rw [if_neg (by decide)] at hrd
    subst hrd
    simp [Tryd.f23, hh, Rq.cells]
set_option maxHeartbeats 4000000 in
set_option maxRecDepth 4000 in
theorem rrdrs_ev [MaxL] (b : Sl UInt8) (hb : b.l.length ≤ 90000) : call cx 25 [(.vsl b.nil (ofBytes b.l) b.l.length)] [] = some (.tup [.agg (Enc.cells (rdRs b.l).1), .int .i64 (rdRs b.l).2], []) := by
  have hh := rhead_ev b (by omega)
  have hP := readP_ref b.l rs_apart
  have hrd : rdRs b.l = if (readP b.l rsL).2 = 0 then (⟨statOf (readP b.l rsL).1.kind, (readP b.l rsL).1.epoch, (readP b.l rsL).1.number, (readP b.l rsL).1.body⟩, 0) else (⟨0, 0, 0, .none⟩, (readP b.l rsL).2) := rfl
  generalize readP b.l rsL = m at *
  generalize rdRs b.l = res at *
  refine call_run Tryd.func25 rfl ⟨rfl, rfl⟩ ?_
  rcases idx_cases stopL b.l 0 with ⟨i, h1, h2, h3⟩ | h1
  · rw [Nat.zero_add] at h1
    have h4 : stopL.length = 4 := rfl
    rw [h4] at h2
    have h5 : ¬ ((i : Nat) : Int) = -1 := by omega
    have h6 : ((i : Int) + 4) = ((i + 4 : Nat) : Int) := by omega
    have h7 : ((i : Nat) : Int).toNat = i := by omega
    rw [h1, if_neg h5, h6] at hh
    rw [h1, if_neg h5, h7] at hP
    obtain ⟨k, hk⟩ : ∃ k, k = i + 4 := ⟨_, rfl⟩
    rw [← hk] at hh hP h2
    have hk1 : 1 ≤ k := by omega
    have hbody := fun z hz => rbody_ev b (by omega) k z h2 hk1 hz
    have hnn : b.nil = false := Sl.nn (s := b) (i := 0) (by omega)
    have htk : List.take k (ofBytes b.l) = ofBytes (b.l.take k) := ofBytes_take _ _
    have hsl : (b.l.take k).length = k := by rw [List.length_take]; omega
    have hk' : (k : Int) ≤ (b.l.length : Int) := by omega
    generalize b.l.take k = s at *
    generalize b.l.drop k = body at *
    have hsl2 : s.length < 1000000 := by omega
    clear h1 h5 h6 h7 hk h3
    simp [Tryd.f25, hh]
    refine Run.loopThen (fun (j : Nat) e H' => j ≤ 3 ∧ refB s body (rsL.drop j) j = m ∧ H' = [some [.int .i64 0, .int .u64 0, .int .u64 0, .vsl true [] 0], some [.int .i64 200, .int .i64 400, .int .i64 409]] ∧
      look e 0 = some (.vsl b.nil (ofBytes b.l) b.l.length) ∧ look e 2 = some (.optr 0 4 0) ∧ look e 4 = some (.int .i64 k) ∧ look e 6 = some (.osl 1 3 0 3 1) ∧ look e 7 = some (.int .i64 j)) (fun j => 3 - j) 0 ?_ ?_
    · simp [hP]
    rintro j e H' ⟨hj, hm, rfl, k0, k2, k4, k6, k7⟩
    rw [hnn] at k0 hbody
    have hjs : j = 0 ∨ j = 1 ∨ j = 2 ∨ j = 3 := by omega
    rcases hjs with rfl | rfl | rfl | rfl
    · rw [show rsL.drop 0 = statusL 200 :: rsL.drop 1 from rfl, refB] at hm
      have hst := (show call cx 48 [.int .i64 200] [] = some (.str (statusL 200), []) from by have h := rstatus_ev 200; rwa [if_pos (by decide)] at h)
      have hbe := behind_ev s (statusL 200) hsl2 (by decide)
      cases hp : pre (statusL 200) s with
      | false =>
        rw [hp, if_neg (by decide)] at hbe hm
        generalize statusL 200 = w at *
        simp [k0, k2, k4, k6, k7, hk', htk, hst, hbe, hsl]
        exact ⟨1, by omega, by omega, hm, by simp [hnn]⟩
      | true =>
        rw [hp, if_pos rfl] at hbe hm
        have htl : (s.drop (statusL 200).length).length ≤ s.length := by simp
        generalize s.drop (statusL 200).length = t at *
        generalize statusL 200 = w at *
        rcases three_ev t (by omega) with ⟨x, y, z, n1, n2⟩ | ⟨n1, x, y, z, n2⟩
        · rw [n1] at hm
          simp only at hm
          have hz := (three_inv n1).2.2.1
          have hbo := hbody z hz
          unfold gotB at hm
          by_cases z1 : 65536 < z
          · rw [if_pos z1] at hbo hm
            subst hm
            rw [if_neg (by decide)] at hrd
            subst hrd
            simp [k0, k2, k4, k6, k7, hk', htk, hst, hbe, hsl, n2, hbo, Rs.cells]
          · rw [if_neg z1] at hbo hm
            by_cases z2 : body.length < z
            · rw [if_pos z2] at hbo hm
              subst hm
              rw [if_neg (by decide)] at hrd
              subst hrd
              simp [k0, k2, k4, k6, k7, hk', htk, hst, hbe, hsl, n2, hbo, Rs.cells]
            · rw [if_neg z2] at hbo hm
              by_cases z3 : z < body.length
              · rw [if_pos z3] at hbo hm
                subst hm
                rw [if_neg (by decide)] at hrd
                subst hrd
                simp [k0, k2, k4, k6, k7, hk', htk, hst, hbe, hsl, n2, hbo, Rs.cells]
              · rw [if_neg z3] at hbo hm
                subst hm
                rw [if_pos rfl] at hrd
                subst hrd
                simp [k0, k2, k4, k6, k7, hk', htk, hst, hbe, hsl, n2, hbo, Rs.cells, statOf]
                try rfl
        · rw [n1] at hm
          simp only at hm
          subst hm
          rw [if_neg (by decide)] at hrd
          subst hrd
          simp [k0, k2, k4, k6, k7, hk', htk, hst, hbe, hsl, n2, Rs.cells]
    · rw [show rsL.drop 1 = statusL 400 :: rsL.drop 2 from rfl, refB] at hm
      have hst := (show call cx 48 [.int .i64 400] [] = some (.str (statusL 400), []) from by have h := rstatus_ev 400; rwa [if_pos (by decide)] at h)
      have hbe := behind_ev s (statusL 400) hsl2 (by decide)
      cases hp : pre (statusL 400) s with
      | false =>
        rw [hp, if_neg (by decide)] at hbe hm
        generalize statusL 400 = w at *
        simp [k0, k2, k4, k6, k7, hk', htk, hst, hbe, hsl]
        exact ⟨2, by omega, by omega, hm, by simp [hnn]⟩
      | true =>
        rw [hp, if_pos rfl] at hbe hm
        have htl : (s.drop (statusL 400).length).length ≤ s.length := by simp
        generalize s.drop (statusL 400).length = t at *
        generalize statusL 400 = w at *
        rcases three_ev t (by omega) with ⟨x, y, z, n1, n2⟩ | ⟨n1, x, y, z, n2⟩
        · rw [n1] at hm
          simp only at hm
          have hz := (three_inv n1).2.2.1
          have hbo := hbody z hz
          unfold gotB at hm
          by_cases z1 : 65536 < z
          · rw [if_pos z1] at hbo hm
            subst hm
            rw [if_neg (by decide)] at hrd
            subst hrd
            simp [k0, k2, k4, k6, k7, hk', htk, hst, hbe, hsl, n2, hbo, Rs.cells]
          · rw [if_neg z1] at hbo hm
            by_cases z2 : body.length < z
            · rw [if_pos z2] at hbo hm
              subst hm
              rw [if_neg (by decide)] at hrd
              subst hrd
              simp [k0, k2, k4, k6, k7, hk', htk, hst, hbe, hsl, n2, hbo, Rs.cells]
            · rw [if_neg z2] at hbo hm
              by_cases z3 : z < body.length
              · rw [if_pos z3] at hbo hm
                subst hm
                rw [if_neg (by decide)] at hrd
                subst hrd
                simp [k0, k2, k4, k6, k7, hk', htk, hst, hbe, hsl, n2, hbo, Rs.cells]
              · rw [if_neg z3] at hbo hm
                subst hm
                rw [if_pos rfl] at hrd
                subst hrd
                simp [k0, k2, k4, k6, k7, hk', htk, hst, hbe, hsl, n2, hbo, Rs.cells, statOf]
                try rfl
        · rw [n1] at hm
          simp only at hm
          subst hm
          rw [if_neg (by decide)] at hrd
          subst hrd
          simp [k0, k2, k4, k6, k7, hk', htk, hst, hbe, hsl, n2, Rs.cells]
    · rw [show rsL.drop 2 = statusL 409 :: rsL.drop 3 from rfl, refB] at hm
      have hst := (show call cx 48 [.int .i64 409] [] = some (.str (statusL 409), []) from by have h := rstatus_ev 409; rwa [if_pos (by decide)] at h)
      have hbe := behind_ev s (statusL 409) hsl2 (by decide)
      cases hp : pre (statusL 409) s with
      | false =>
        rw [hp, if_neg (by decide)] at hbe hm
        generalize statusL 409 = w at *
        simp [k0, k2, k4, k6, k7, hk', htk, hst, hbe, hsl]
        exact ⟨3, by omega, by omega, hm, by simp [hnn]⟩
      | true =>
        rw [hp, if_pos rfl] at hbe hm
        have htl : (s.drop (statusL 409).length).length ≤ s.length := by simp
        generalize s.drop (statusL 409).length = t at *
        generalize statusL 409 = w at *
        rcases three_ev t (by omega) with ⟨x, y, z, n1, n2⟩ | ⟨n1, x, y, z, n2⟩
        · rw [n1] at hm
          simp only at hm
          have hz := (three_inv n1).2.2.1
          have hbo := hbody z hz
          unfold gotB at hm
          by_cases z1 : 65536 < z
          · rw [if_pos z1] at hbo hm
            subst hm
            rw [if_neg (by decide)] at hrd
            subst hrd
            simp [k0, k2, k4, k6, k7, hk', htk, hst, hbe, hsl, n2, hbo, Rs.cells]
          · rw [if_neg z1] at hbo hm
            by_cases z2 : body.length < z
            · rw [if_pos z2] at hbo hm
              subst hm
              rw [if_neg (by decide)] at hrd
              subst hrd
              simp [k0, k2, k4, k6, k7, hk', htk, hst, hbe, hsl, n2, hbo, Rs.cells]
            · rw [if_neg z2] at hbo hm
              by_cases z3 : z < body.length
              · rw [if_pos z3] at hbo hm
                subst hm
                rw [if_neg (by decide)] at hrd
                subst hrd
                simp [k0, k2, k4, k6, k7, hk', htk, hst, hbe, hsl, n2, hbo, Rs.cells]
              · rw [if_neg z3] at hbo hm
                subst hm
                rw [if_pos rfl] at hrd
                subst hrd
                simp [k0, k2, k4, k6, k7, hk', htk, hst, hbe, hsl, n2, hbo, Rs.cells, statOf]
                try rfl
        · rw [n1] at hm
          simp only at hm
          subst hm
          rw [if_neg (by decide)] at hrd
          subst hrd
          simp [k0, k2, k4, k6, k7, hk', htk, hst, hbe, hsl, n2, Rs.cells]
    · rw [show rsL.drop 3 = [] from rfl, refB] at hm
      subst hm
      rw [if_neg (by decide)] at hrd
      subst hrd
      simp [k0, k2, k4, k6, k7, Rs.cells]
  · rw [h1, if_pos rfl] at hh hP
    subst hP
    rw [if_neg (by decide)] at hrd
    subst hrd
    simp [Tryd.f25, hh, Rs.cells]
end Go.Ev.S
/- HttpSays: the law answers true. -/
namespace Go.Ev.S
open Go Go.Proofs Go.Ev
def slD (b : Sl UInt8) : D := .vsl b.nil (ofBytes b.l) b.l.length
theorem rows_at {l : List (Sl UInt8)} {i : Nat} (h : i < l.length) : (l.map slD).drop i = slD l[i] :: (l.map slD).drop (i + 1) := by
  rw [List.drop_eq_getElem_cons (by simpa using h)]
  simp
@[simp] theorem slD_idFree (b : Sl UInt8) : idFree (slD b) = true := rfl
@[simp] theorem slD_closed (n : Nat) (b : Sl UInt8) : closed n (slD b) = true := rfl
theorem good_path (n : Int) {p : List UInt8} (hp : p = helloL ∨ p = batchL) : p.length ≤ 100 := by rcases hp with rfl | rfl <;> decide
set_option maxHeartbeats 4000000 in
set_option maxRecDepth 4000 in
theorem says_ev [MaxL] (q : Rq) (hq1 : isU64 q.epoch) (hq2 : isU64 q.number) (r : Rs) (hr1 : isU64 r.epoch) (hr2 : isU64 r.number) (b : Sl UInt8) (n : Int) (nil : Bool) (zs : List Int) (hnil : nil = true → zs = []) (y : UInt8) :
    call cx 6 [.agg (Enc.cells q), .agg (Enc.cells r), (.vsl b.nil (ofBytes b.l) b.l.length), .int .i64 n, .vsl nil (intsK .i64 zs) zs.length, .int .u8 y.toNat] [] = some (.bool true, []) := by
  have hf := first27_ev
  obtain ⟨qp, qe, qn, qb⟩ := q
  obtain ⟨rs, re, rn, rb⟩ := r
  simp only at hq1 hq2 hr1 hr2
  refine call_run Tryd.func6 rfl ⟨rfl, rfl⟩ ?_
  by_cases h1 : qp.length ≤ 60
  · have h1' : ¬ (60 : Int) < (qp.length : Int) := by omega
    by_cases h2 : qb.l.length ≤ 600
    · have h2' : ¬ (600 : Int) < (qb.l.length : Int) := by omega
      by_cases h3 : rb.l.length ≤ 600
      · have h3' : ¬ (600 : Int) < (rb.l.length : Int) := by omega
        by_cases h4 : b.l.length ≤ 600
        · have h4' : ¬ (600 : Int) < (b.l.length : Int) := by omega
          by_cases h5 : zs.length ≤ 6
          · have h5' : ¬ (6 : Int) < (zs.length : Int) := by omega
            obtain ⟨p, hp, hpe⟩ := lpath_ev n
            obtain ⟨s, hs, hse⟩ := lstat_ev n
            have a1 := rputrq_ev ⟨p, qe, qn, qb⟩ hq1 hq2 (good_path n hp) (by simp only; omega)
            have a2 := rputrs_ev ⟨s, re, rn, rb⟩ hr1 hr2 (by simp only; omega)
            rw [putrq_eq p hp qe qn qb (by omega)] at a1
            rw [putrs_eq s hs re rn rb (by omega)] at a2
            have l1 := rq_len p hp qe.toNat qn.toNat qb.l
            have l2 := rs_len s re.toNat rn.toNat rb.l
            have p1 : 1 ≤ (beginL p ++ (numsL qe.toNat qn.toNat qb.l.length ++ qb.l)).length := by
              have h2 : (beginL p).length = 81 := by rcases hp with rfl | rfl <;> decide
              rw [List.length_append, h2]; omega
            have p2 : 1 ≤ (statusL s ++ (numsL re.toNat rn.toNat rb.l.length ++ rb.l)).length := by
              have h2 := numsD_len re.toNat rn.toNat (dec rb.l.length)
              rw [numsD_dec] at h2
              rw [List.length_append, List.length_append]; omega
            generalize beginL p ++ (numsL qe.toNat qn.toNat qb.l.length ++ qb.l) = x at *
            generalize statusL s ++ (numsL re.toNat rn.toNat rb.l.length ++ rb.l) = w at *
            have s1 := spoil_ev x p1 (by omega) nil zs hnil (by omega) y
            have s2 := spoil_ev w p2 (by omega) nil zs hnil (by omega) y
            have z1 : (spoilL y x zs).length = x.length := spoilL_len y zs x
            have z2 : (spoilL y w zs).length = w.length := spoilL_len y zs w
            generalize spoilL y x zs = g at *
            generalize spoilL y w zs = h at *
            have e1 := putrq_ev ⟨qp, qe, qn, qb⟩ hq1 hq2 (by simp only; omega) (by simp only; omega)
            have e2 := rputrq_ev ⟨qp, qe, qn, qb⟩ hq1 hq2 (by simp only; omega) (by simp only; omega)
            have e3 := putrs_ev ⟨rs, re, rn, rb⟩ hr1 hr2 (by simp only; omega)
            have e4 := rputrs_ev ⟨rs, re, rn, rb⟩ hr1 hr2 (by simp only; omega)
            have e5 := asked_ev ⟨qp, qe, qn, qb⟩
            have e6 := told_ev ⟨rs, re, rn, rb⟩
            have e7 := sameb_ev (putRq ⟨qp, qe, qn, qb⟩) (putRq ⟨qp, qe, qn, qb⟩)
            have e8 := sameb_ev (putRs ⟨rs, re, rn, rb⟩) (putRs ⟨rs, re, rn, rb⟩)
            generalize putRq ⟨qp, qe, qn, qb⟩ = u1 at *
            generalize putRs ⟨rs, re, rn, rb⟩ = u2 at *
            obtain ⟨rows, hrows⟩ : ∃ l : List (Sl UInt8), l = [b, .of g, .of h] := ⟨_, rfl⟩
            have hrl : rows.length = 3 := by rw [hrows]; rfl
            have hrb : ∀ (i : Nat) (hi : i < rows.length), rows[i].l.length ≤ 90000 := by
              intro i hi
              subst hrows
              have : i = 0 ∨ i = 1 ∨ i = 2 := by simp at hi; omega
              rcases this with rfl | rfl | rfl
              · show b.l.length ≤ _; omega
              · show g.length ≤ _; omega
              · show h.length ≤ _; omega
            have hrm : rows.map slD = [.vsl b.nil (ofBytes b.l) b.l.length, .vsl false (ofBytes g) x.length, .vsl false (ofBytes h) w.length] := by
              rw [hrows, ← z1, ← z2]
              rfl
            clear hrows l1 l2 p1 p2 hp hs hq1 hq2 hr1 hr2
            simp [Rq.cells, Rs.cells] at a1 a2 e1 e2 e3 e4 e5 e6 e7 e8
            simp [Tryd.f6, Rq.cells, Rs.cells, hf, h1', h2', h3', h4', h5', hpe, hse, a1, a2, s1, s2]
            rw [← hrm]
            refine Run.loopThen (fun (i : Nat) e H' => i ≤ 3 ∧ ((∃ w1 w2, H' = [some [.str qp, .int .u64 qe, .int .u64 qn, .vsl qb.nil (ofBytes qb.l) qb.l.length], some [.int .i64 rs, .int .u64 re, .int .u64 rn, .vsl rb.nil (ofBytes rb.l) rb.l.length], w1, w2]) ∨
                (∃ w1 w2 w3 w4, H' = [some [.str qp, .int .u64 qe, .int .u64 qn, .vsl qb.nil (ofBytes qb.l) qb.l.length], some [.int .i64 rs, .int .u64 re, .int .u64 rn, .vsl rb.nil (ofBytes rb.l) rb.l.length], w1, w2, w3, w4])) ∧
              look e 6 = some (.optr 0 4 0) ∧ look e 7 = some (.optr 1 4 0) ∧ look e 13 = some (.bool true) ∧ look e 16 = some (.vsl false (rows.map slD) 3) ∧ look e 17 = some (.int .i64 i)) (fun i => 3 - i) 0 ?_ ?_
            · simp
            rintro i e H' ⟨hi, hH, k6, k7, k13, k16, k17⟩
            by_cases hlt : i < 3
            · have hlt' : (i : Int) < 3 := by omega
              have hw1 : IntKind.i64.wrap ((i : Int) + 1) = ((i + 1 : Nat) : Int) := by rw [wrap_i64] <;> omega
              have hir : i < rows.length := by omega
              have hbl := hrb i hir
              have hat := rows_at hir
              generalize rows[i] = row at *
              have c1 := rdrq_ev row hbl
              have c2 := rrdrq_ev row hbl
              have c3 := rdrs_ev row hbl
              have c4 := rrdrs_ev row hbl
              generalize rdRq row.l = v1 at *
              generalize rdRs row.l = v2 at *
              obtain ⟨v1, f1⟩ := v1
              obtain ⟨v2, f2⟩ := v2
              have d1 := samea_ev v1 v1 (by simp [eqRq])
              have d2 := samet_ev v2 v2 (by simp [eqRs])
              have d3 := asked_ev v1
              have d4 := told_ev v2
              have er : D.vsl row.nil (ofBytes row.l) row.l.length = slD row := rfl
              rw [er] at c1 c2 c3 c4
              simp [Rq.cells, Rs.cells] at c1 c2 c3 c4 d1 d2 d3 d4
              rcases hH with ⟨w1, w2, rfl⟩ | ⟨w1, w2, w3, w4, rfl⟩
              · simp [k6, k7, k13, k16, k17, hlt', hat, c1, c2, c3, c4, d1, d2, d3, d4, hw1]
                exact ⟨i + 1, by omega, by omega, by simp⟩
              · simp [k6, k7, k13, k16, k17, hlt', hat, c1, c2, c3, c4, d1, d2, d3, d4, hw1]
                exact ⟨i + 1, by omega, by omega, by simp⟩
            · have hlt' : ¬ (i : Int) < 3 := by omega
              rcases hH with ⟨w1, w2, rfl⟩ | ⟨w1, w2, w3, w4, rfl⟩
              · simp [k6, k7, k13, k16, k17, hlt', e1, e2, e3, e4, e5, e6, e7, e8]
              · simp [k6, k7, k13, k16, k17, hlt', e1, e2, e3, e4, e5, e6, e7, e8]
          · have h5' : (6 : Int) < (zs.length : Int) := by omega
            simp [Tryd.f6, Rq.cells, Rs.cells, hf, h1', h2', h3', h4', h5']
        · have h4' : (600 : Int) < (b.l.length : Int) := by omega
          simp [Tryd.f6, Rq.cells, Rs.cells, hf, h1', h2', h3', h4']
      · have h3' : (600 : Int) < (rb.l.length : Int) := by omega
        simp [Tryd.f6, Rq.cells, Rs.cells, hf, h1', h2', h3']
    · have h2' : (600 : Int) < (qb.l.length : Int) := by omega
      simp [Tryd.f6, Rq.cells, Rs.cells, hf, h1', h2']
  · have h1' : (60 : Int) < (qp.length : Int) := by omega
    simp [Tryd.f6, Rq.cells, Rs.cells, hf, h1']
end Go.Ev.S
/- What arguments of this program's types are: messages. -/
namespace Go.Ev.S
open Go Go.Proofs Go.Ev
theorem has_Rq {n : Nat} {cs : List D} (h : HasT Tryd.prog (n + 2 + 1) 36 cs) : ∃ m : Rq, cs = Enc.cells m ∧ (isU64 m.epoch ∧ isU64 m.number) := by
  have h := has_struct (P := Tryd.prog) (n := n + 2) (t := 36) Tryd.underlying36 h
  simp only [HasFs] at h
  obtain ⟨a, b, rfl, -, ha, c, d, rfl, -, hc, e, f, rfl, -, he, g, k, rfl, -, hg, rfl⟩ := h
  obtain ⟨x1, rfl, -⟩ := has_str un9 ha
  obtain ⟨x2, rfl, w2⟩ := has_u64 un24 hc
  obtain ⟨x3, rfl, w3⟩ := has_u64 un24 he
  obtain ⟨x4, rfl, -⟩ := has_bytes un32 un5 hg
  exact ⟨⟨x1, x2, x3, x4⟩, by simp [Rq.cells], w2, w3⟩
theorem has_Rs {n : Nat} {cs : List D} (h : HasT Tryd.prog (n + 2 + 1) 42 cs) : ∃ m : Rs, cs = Enc.cells m ∧ (isU64 m.epoch ∧ isU64 m.number) := by
  have h := has_struct (P := Tryd.prog) (n := n + 2) (t := 42) Tryd.underlying42 h
  simp only [HasFs] at h
  obtain ⟨a, b, rfl, -, ha, c, d, rfl, -, hc, e, f, rfl, -, he, g, k, rfl, -, hg, rfl⟩ := h
  obtain ⟨x1, rfl, -⟩ := has_i64 un3 ha
  obtain ⟨x2, rfl, w2⟩ := has_u64 un24 hc
  obtain ⟨x3, rfl, w3⟩ := has_u64 un24 he
  obtain ⟨x4, rfl, -⟩ := has_bytes un32 un5 hg
  exact ⟨⟨x1, x2, x3, x4⟩, by simp [Rs.cells], w2, w3⟩
end Go.Ev.S
/- A law whose rows list variables: the world is of the program's shape, too. -/
namespace Go.Ev
open Go Go.Proofs Go.ChangeShapes Go.WideShapes Go.ChangeAt Go.RowKit
theorem handed_shaped {H : Type} {enc : TypeId × Value → H} {a : Assume} {C : Checked} {os : Os} {f : FuncId} {fn : Func} {s : ChangeSpec} {conds : List PathCond} {apart fresh handsOn again : Bool} {X : World → Array Value → Prop}
    (hX : ∀ (w w' : World) (args : Array Value), w.heap = w'.heap → X w args → X w' args)
    (own : ownKnob C.prog.godebug = none) (started : os.Started) (noInit : C.prog.inits.idxOf? f = none) (hfn : C.prog.funcs[f]? = some fn)
    (witness : ∃ (w : World) (tape : Tape) (i : Input), w.os = os ∧ (w.forCall tape i).Shaped C.prog ∧ i.vars = [] ∧ Input.okWide C.prog (w.forCall tape i) .any w.heap.size f i ∧
      ((s.pre enc C.prog fn conds apart (w.forCall tape i).memory i.args ∧ X (w.forCall tape i).memory i.args) ∧ sizedMet enc C.prog fn (OpenSpec.ofChange s) apart (w.forCall tape i).memory i.args) ∧ a.holds C.prog (lone (Frame.enter C.prog f i.args .normal) [] (w.forCall tape i)))
    (contract : ∀ (W : World) (base : Nat) (args : Array Value) (ds gs : List (DataW H)) (before : List MemPlace),
      (∀ (j : Nat) t v, fn.params[j]? = some t → args[j]? = some v → Value.okWide C.prog W .any base t v) →
      DataW.Whole enc C.prog fn.params.toList s.vars apart W args.toList ds gs before → X W args → W.ShapedOpen C.prog →
      Calls C.prog f args W fun e W' => ∃ v, e = .returned v ∧ s.post enc C.prog fn apart fresh handsOn again W args v W') :
    ReturnsInHanded a C os f .any (fun w args => (s.pre enc C.prog fn conds apart w args ∧ X w args) ∧ sizedMet enc C.prog fn (OpenSpec.ofChange s) apart w args) (s.post enc C.prog fn apart fresh handsOn again) := by
  refine returnsInHanded_of_calls own started noInit witness ?_
  intro w tape i _ hsh _ hok hpre _
  obtain ⟨_, _, _, fn', hfn', _, _, _, _, hval⟩ := hok
  have e : fn' = fn := Option.some.inj (hfn'.symm.trans hfn)
  subst e
  obtain ⟨⟨⟨ds, gs, before, hw, hc⟩, hx⟩, hz⟩ := hpre
  have hw' := DataW.Whole.of_heap (w' := w.forCall tape i) (by rfl) hw
  refine (contract (w.forCall tape i) w.heap.size i.args ds gs before hval hw' (hX _ _ _ (by rfl) hx) hsh).mono fun e W' ⟨v, he, hp⟩ => ?_
  subst he
  exact ChangeSpec.post_blind hp
end Go.Ev
