import Derived.Test.YtaponndjgdfkbaaDoorC4
import Derived.Handed
import Derived.LaidMore
/- Decimal digits into a row of bytes. -/
namespace Go.Ev.S
open Go Go.Proofs Go.Ev Go.Lib
theorem ofVal_int (k : IntKind) (n : Int) : ofVal (.int k n) = some (.int k n) := rfl
theorem set_bytes {l : List UInt8} {i : Nat} (x : UInt8) (h : i < l.length) : setRange (ofBytes l) i [.int .u8 (x.toNat : Int)] = ofBytes (l.set i x) := by
  rw [setRange, List.set_eq_take_append_cons_drop, if_pos h]
  simp [ofBytes, List.map_take, List.map_drop]
theorem set_arr {d : Array UInt8} {tl : List UInt8} {i : Nat} (x : UInt8) (h : i < d.size) : (d.toList ++ tl).set i x = (d.setIfInBounds i x).toList ++ tl := by
  rw [List.set_append_left _ _ (by simpa using h)]
  simp
def smL : List UInt8 := smalls.data.toList
theorem sm_at {k : Nat} (h : k < 200) : smL[k]? = some (sm k) := by
  have hl : smL.length = 200 := by decide +kernel
  unfold sm
  rw [List.getD_eq_getElem?_getD]
  have : smL[k]? = some (smL[k]'(by omega)) := List.getElem?_eq_getElem (by omega)
  rw [this]
  show _ = some ((smL[k]?).getD 0)
  rw [this]
  rfl
theorem wk {nd j : Nat} (a : Int) (h : (nd : Int) - a = (j : Int)) (hj : j ≤ 24) : IntKind.i64.wrap ((nd : Int) - a) = (j : Int) := by
  rw [h, wrap_i64]
  omega
/-- Eight digits, by twos. -/
structure Fb8 (v p q x6 x7 y8 y9 y10 y11 t8 t9 t10 t11 z8 z9 z10 z11 : Nat) : Prop where
  a1 : (v : Int).tmod 100000000 = (p : Int)
  a2 : (v : Int).tdiv 100000000 = (q : Int)
  a3 : (p : Int).tdiv 10000 = (x6 : Int)
  a4 : (p : Int).tmod 10000 = (x7 : Int)
  a5 : (x7 : Int).tdiv 100 = (y8 : Int)
  a6 : (x7 : Int).tmod 100 = (y9 : Int)
  a7 : (x6 : Int).tdiv 100 = (y10 : Int)
  a8 : (x6 : Int).tmod 100 = (y11 : Int)
  w1 : IntKind.u32.wrap (p : Int) = (p : Int)
  w2 : IntKind.u64.wrap (q : Int) = (q : Int)
  w3 : IntKind.u32.wrap (x6 : Int) = (x6 : Int)
  v8 : IntKind.u32.wrap (y8 : Int) = (y8 : Int)
  v10 : IntKind.u32.wrap (y10 : Int) = (y10 : Int)
  u8 : IntKind.u32.wrap ((y8 : Int) * 2) = (t8 : Int)
  u9 : IntKind.u32.wrap ((y9 : Int) * 2) = (t9 : Int)
  u10 : IntKind.u32.wrap ((y10 : Int) * 2) = (t10 : Int)
  u11 : IntKind.u32.wrap ((y11 : Int) * 2) = (t11 : Int)
  w8 : IntKind.u32.wrap ((t8 : Int) + 1) = (z8 : Int)
  w9 : IntKind.u32.wrap ((t9 : Int) + 1) = (z9 : Int)
  w10 : IntKind.u32.wrap ((t10 : Int) + 1) = (z10 : Int)
  w11 : IntKind.u32.wrap ((t11 : Int) + 1) = (z11 : Int)
  s1 : smL[z9]? = some (sm (v % 100 * 2 + 1))
  s2 : smL[t9]? = some (sm (v % 100 * 2))
  s3 : smL[z8]? = some (sm (v / 100 % 100 * 2 + 1))
  s4 : smL[t8]? = some (sm (v / 100 % 100 * 2))
  s5 : smL[z11]? = some (sm (v / 100 / 100 % 100 * 2 + 1))
  s6 : smL[t11]? = some (sm (v / 100 / 100 % 100 * 2))
  s7 : smL[z10]? = some (sm (v / 100 / 100 / 100 % 100 * 2 + 1))
  s8 : smL[t10]? = some (sm (v / 100 / 100 / 100 % 100 * 2))
  fq : v / 100 / 100 / 100 / 100 = q
theorem dv (a b c : Nat) (h : c = a / b) : (a : Int).tdiv (b : Int) = (c : Int) := by rw [h]; exact (Int.ofNat_tdiv a b).symm
theorem md (a b c : Nat) (h : c = a % b) : (a : Int).tmod (b : Int) = (c : Int) := by rw [h]; exact (Int.ofNat_tmod a b).symm
theorem wu32 {a : Int} {c : Nat} (h : a = (c : Int)) (hc : c < 4294967296) : IntKind.u32.wrap a = (c : Int) := by rw [h, wrap_u32]; omega
theorem fb8 (v : Nat) (hv : v < 18446744073709551616) : ∃ p q x6 x7 y8 y9 y10 y11 t8 t9 t10 t11 z8 z9 z10 z11, Fb8 v p q x6 x7 y8 y9 y10 y11 t8 t9 t10 t11 z8 z9 z10 z11 := by
  have w2 : IntKind.u64.wrap ((v / 100000000 : Nat) : Int) = ((v / 100000000 : Nat) : Int) := by rw [wrap_u64]; omega
  clear hv
  obtain ⟨p, hp⟩ : ∃ p, p = v % 100000000 := ⟨_, rfl⟩
  have f9 : v % 100 = p % 10000 % 100 := by omega
  have f8 : v / 100 % 100 = p % 10000 / 100 := by omega
  have f11 : v / 100 / 100 % 100 = p / 10000 % 100 := by omega
  have f10 : v / 100 / 100 / 100 % 100 = p / 10000 / 100 := by omega
  have fq : v / 100 / 100 / 100 / 100 = v / 100000000 := by omega
  have bp : p < 100000000 := by omega
  refine ⟨p, v / 100000000, p / 10000, p % 10000, p % 10000 / 100, p % 10000 % 100, p / 10000 / 100, p / 10000 % 100, p % 10000 / 100 * 2, p % 10000 % 100 * 2, p / 10000 / 100 * 2, p / 10000 % 100 * 2, p % 10000 / 100 * 2 + 1, p % 10000 % 100 * 2 + 1, p / 10000 / 100 * 2 + 1, p / 10000 % 100 * 2 + 1, ?_⟩
  have b6 : p / 10000 < 10000 := by omega
  have b7 : p % 10000 < 10000 := by omega
  have b8 : p % 10000 / 100 < 100 := by omega
  have b9 : p % 10000 % 100 < 100 := by omega
  have b10 : p / 10000 / 100 < 100 := by omega
  have b11 : p / 10000 % 100 < 100 := by omega
  constructor
  case a1 => exact md v 100000000 p hp
  case a2 => exact dv v 100000000 _ rfl
  case a3 => exact dv p 10000 _ rfl
  case a4 => exact md p 10000 _ rfl
  case a5 => exact dv _ 100 _ rfl
  case a6 => exact md _ 100 _ rfl
  case a7 => exact dv _ 100 _ rfl
  case a8 => exact md _ 100 _ rfl
  case w1 => exact wu32 rfl (by omega)
  case w2 => exact w2
  case w3 => exact wu32 rfl (by omega)
  case v8 => exact wu32 rfl (by omega)
  case v10 => exact wu32 rfl (by omega)
  case u8 => exact wu32 (by omega) (by omega)
  case u9 => exact wu32 (by omega) (by omega)
  case u10 => exact wu32 (by omega) (by omega)
  case u11 => exact wu32 (by omega) (by omega)
  case w8 => exact wu32 (by omega) (by omega)
  case w9 => exact wu32 (by omega) (by omega)
  case w10 => exact wu32 (by omega) (by omega)
  case w11 => exact wu32 (by omega) (by omega)
  case s1 => rw [f9]; exact sm_at (by omega)
  case s2 => rw [f9]; exact sm_at (by omega)
  case s3 => rw [f8]; exact sm_at (by omega)
  case s4 => rw [f8]; exact sm_at (by omega)
  case s5 => rw [f11]; exact sm_at (by omega)
  case s6 => rw [f11]; exact sm_at (by omega)
  case s7 => rw [f10]; exact sm_at (by omega)
  case s8 => rw [f10]; exact sm_at (by omega)
  case fq => exact fq
/-- Four digits, two digits. -/
structure Fb4 (v q x7 y8 y9 t8 t9 z8 z9 : Nat) : Prop where
  a1 : (v : Int).tmod 10000 = (x7 : Int)
  a2 : (v : Int).tdiv 10000 = (q : Int)
  a5 : (x7 : Int).tdiv 100 = (y8 : Int)
  a6 : (x7 : Int).tmod 100 = (y9 : Int)
  w2 : IntKind.u32.wrap (q : Int) = (q : Int)
  v8 : IntKind.u32.wrap (y8 : Int) = (y8 : Int)
  u8 : IntKind.u32.wrap ((y8 : Int) * 2) = (t8 : Int)
  u9 : IntKind.u32.wrap ((y9 : Int) * 2) = (t9 : Int)
  w8 : IntKind.u32.wrap ((t8 : Int) + 1) = (z8 : Int)
  w9 : IntKind.u32.wrap ((t9 : Int) + 1) = (z9 : Int)
  s1 : smL[z9]? = some (sm (v % 100 * 2 + 1))
  s2 : smL[t9]? = some (sm (v % 100 * 2))
  s3 : smL[z8]? = some (sm (v / 100 % 100 * 2 + 1))
  s4 : smL[t8]? = some (sm (v / 100 % 100 * 2))
  fq : v / 100 / 100 = q
theorem fb4 (v : Nat) (hv : v < 100000000) : ∃ q x7 y8 y9 t8 t9 z8 z9, Fb4 v q x7 y8 y9 t8 t9 z8 z9 := by
  have f9 : v % 100 = v % 10000 % 100 := by omega
  have f8 : v / 100 % 100 = v % 10000 / 100 := by omega
  have fq : v / 100 / 100 = v / 10000 := by omega
  refine ⟨v / 10000, v % 10000, v % 10000 / 100, v % 10000 % 100, v % 10000 / 100 * 2, v % 10000 % 100 * 2, v % 10000 / 100 * 2 + 1, v % 10000 % 100 * 2 + 1, ?_⟩
  have b8 : v % 10000 / 100 < 100 := by omega
  have b9 : v % 10000 % 100 < 100 := by omega
  constructor
  case a1 => exact md v 10000 _ rfl
  case a2 => exact dv v 10000 _ rfl
  case a5 => exact dv _ 100 _ rfl
  case a6 => exact md _ 100 _ rfl
  case w2 => exact wu32 rfl (by omega)
  case v8 => exact wu32 rfl (by omega)
  case u8 => exact wu32 (by omega) (by omega)
  case u9 => exact wu32 (by omega) (by omega)
  case w8 => exact wu32 (by omega) (by omega)
  case w9 => exact wu32 (by omega) (by omega)
  case s1 => rw [f9]; exact sm_at (by omega)
  case s2 => rw [f9]; exact sm_at (by omega)
  case s3 => rw [f8]; exact sm_at (by omega)
  case s4 => rw [f8]; exact sm_at (by omega)
  case fq => exact fq
structure Fb2 (v q y9 t9 z9 : Nat) : Prop where
  a1 : (v : Int).tmod 100 = (y9 : Int)
  a2 : (v : Int).tdiv 100 = (q : Int)
  w2 : IntKind.u32.wrap (q : Int) = (q : Int)
  u9 : IntKind.u32.wrap ((y9 : Int) * 2) = (t9 : Int)
  w9 : IntKind.u32.wrap ((t9 : Int) + 1) = (z9 : Int)
  s1 : smL[z9]? = some (sm (v % 100 * 2 + 1))
  s2 : smL[t9]? = some (sm (v % 100 * 2))
  fq : v / 100 = q
theorem fb2 (v : Nat) (hv : v < 100000000) : ∃ q y9 t9 z9, Fb2 v q y9 t9 z9 := by
  refine ⟨v / 100, v % 100, v % 100 * 2, v % 100 * 2 + 1, ?_⟩
  constructor
  case a1 => exact md v 100 _ rfl
  case a2 => exact dv v 100 _ rfl
  case w2 => exact wu32 rfl (by omega)
  case u9 => exact wu32 (by omega) (by omega)
  case w9 => exact wu32 (by omega) (by omega)
  case s1 => exact sm_at (by omega)
  case s2 => exact sm_at (by omega)
  case fq => rfl
theorem fb1 (v : Nat) (hv : v < 10) : IntKind.u32.wrap (48 + (v : Int)) = ((UInt8.ofNat (48 + v)).toNat : Int) ∧ IntKind.u8.wrap ((UInt8.ofNat (48 + v)).toNat : Int) = ((UInt8.ofNat (48 + v)).toNat : Int) := by
  have h : (UInt8.ofNat (48 + v)).toNat = 48 + v := UInt8.toNat_ofNat_of_lt' (show 48 + v < 256 by omega)
  rw [h, wrap_u32 (by omega), wrap_u8 (by omega)]
  omega
theorem lt8 {n u nd v : Nat} {d : Array UInt8} (h : FmtInv n u nd v d) (h8 : nd < 8) : v < 100000000 :=
  Nat.lt_of_lt_of_le h.small (Nat.le_trans (Nat.pow_le_pow_right (by decide) (show nd ≤ 7 by omega)) (by decide))
set_option maxHeartbeats 4000000 in
theorem fb10_ev [MaxL] (n u : Nat) (hn : n ≤ 24) (hu : u < 10 ^ n) (hu64 : u < 18446744073709551616) (tl : List UInt8) (htl : tl.length = 24 - n) (d : Array UInt8) (hd : d.size = n) (H : Heap) (b : Nat) (hb : b < H.length)
    (hcl : H.all (blkClosed H.length) = true) (hg : H[b] = some (ofBytes (d.toList ++ tl))) :
    ∃ v' dk, FmtInv n u 0 v' dk ∧ call cx 91 [.osl b 24 0 n 1, .int .u64 u] H = some (.tup [], H.set b (some (ofBytes (dk.toList ++ tl)))) := by
  suffices hs : ∃ r, call cx 91 [.osl b 24 0 n 1, .int .u64 u] H = some r ∧ ∃ v' dk, FmtInv n u 0 v' dk ∧ r = (.tup [], H.set b (some (ofBytes (dk.toList ++ tl)))) by
    obtain ⟨r, h1, v', dk, h2, rfl⟩ := hs
    exact ⟨v', dk, h2, h1⟩
  have hset : H.set b (some (ofBytes (d.toList ++ tl))) = H := by rw [← hg, List.set_getElem_self]
  refine call_runE (fun r => ∃ v' dk, FmtInv n u 0 v' dk ∧ r = (D.tup [], H.set b (some (ofBytes (dk.toList ++ tl))))) Tryd.func91 rfl ⟨rfl, rfl⟩ ?_
  unfold Tryd.f91
  generalize hS : Value.string _ = S
  have hv : ofVal S = some (.str smL) := by rw [← hS]; kernel_rfl
  clear hS
  simp
  refine Run.loopThen (fun (nd : Nat) e H' => ∃ v dk, FmtInv n u nd v dk ∧ H' = H.set b (some (ofBytes (dk.toList ++ tl))) ∧ look e 0 = some (.osl b 24 0 n 1) ∧ look e 1 = some (.int .u64 (v : Nat)) ∧ look e 4 = some (.int .i64 nd)) (fun nd => nd) n ?_ ?_
  · exact ⟨u, d, by rw [← hd]; exact FmtInv.start d u (by rw [hd]; exact hu), hset.symm, by simp, by simp, by simp⟩
  rintro nd e H' ⟨v, dk, hi, rfl, h0, h1, h4⟩
  have hv64 : v < 18446744073709551616 := by
    have := hi.rest
    have := Nat.div_le_self u (10 ^ (n - nd))
    omega
  have hle := hi.le
  have hsz := hi.size
  have hlen : ∀ (a : Array UInt8), a.size = n → (a.toList ++ tl).length = 24 := fun a ha => by simp [ha, htl]; omega
  have fin : ∀ (a : Array UInt8) (v' : Nat), FmtInv n u 0 v' a → ∃ x y, ((∀ z, z ∈ (H.set b (some (ofBytes (a.toList ++ tl)))).take H.length → blkClosed H.length z = true) ∧ D.tup [] = x ∧ (H.set b (some (ofBytes (a.toList ++ tl)))).take H.length = y) ∧
      ∃ v' dk, FmtInv n u 0 v' dk ∧ x = D.tup [] ∧ y = H.set b (some (ofBytes (dk.toList ++ tl))) := fun a v' ha => by
    refine ⟨_, _, ⟨fun z hz => ?_, rfl, rfl⟩, v', a, ha, rfl, List.take_of_length_le (by simp)⟩
    have hz' := List.mem_of_mem_take hz
    rcases List.mem_or_eq_of_mem_set hz' with h | rfl
    · exact List.all_eq_true.1 hcl z h
    · simp [blkClosed]
  have hnn : n + (24 - n) = 24 := by omega
  have sb : ∀ (a : Array UInt8) (j : Nat) (x : UInt8), a.size = n → j < n → setRange (ofBytes (a.toList ++ tl)) j [.int .u8 (x.toNat : Int)] = ofBytes ((a.setIfInBounds j x).toList ++ tl) := fun a j x ha hj => by
    rw [set_bytes x (by simp [ha, htl]; omega), set_arr x (by omega)]
  by_cases h8 : 8 ≤ nd
  · obtain ⟨m, hm⟩ : ∃ m, nd = m + 8 := ⟨nd - 8, by omega⟩
    have i1 := FmtInv.step2' (k := m + 6) (by rw [hm] at hi; exact hi)
    have i2 := FmtInv.step2' (k := m + 4) i1
    have i3 := FmtInv.step2' (k := m + 2) i2
    have i4 := FmtInv.step2' (k := m) i3
    obtain ⟨j1, hj1⟩ : ∃ y, y = m + 7 := ⟨_, rfl⟩
    obtain ⟨j2, hj2⟩ : ∃ y, y = m + 6 := ⟨_, rfl⟩
    obtain ⟨j3, hj3⟩ : ∃ y, y = m + 5 := ⟨_, rfl⟩
    obtain ⟨j4, hj4⟩ : ∃ y, y = m + 4 := ⟨_, rfl⟩
    obtain ⟨j5, hj5⟩ : ∃ y, y = m + 3 := ⟨_, rfl⟩
    obtain ⟨j6, hj6⟩ : ∃ y, y = m + 2 := ⟨_, rfl⟩
    obtain ⟨j7, hj7⟩ : ∃ y, y = m + 1 := ⟨_, rfl⟩
    rw [show m + 6 + 1 = j1 by omega, show m + 4 + 1 = j3 by omega, show m + 2 + 1 = j5 by omega, ← hj2, ← hj4, ← hj6, ← hj7] at i4
    have e1 : (nd : Int) - 1 = ((j1 : Nat) : Int) := by omega
    have e2 : (nd : Int) - 2 = ((j2 : Nat) : Int) := by omega
    have e3 : (nd : Int) - 3 = ((j3 : Nat) : Int) := by omega
    have e4 : (nd : Int) - 4 = ((j4 : Nat) : Int) := by omega
    have e5 : (nd : Int) - 5 = ((j5 : Nat) : Int) := by omega
    have e6 : (nd : Int) - 6 = ((j6 : Nat) : Int) := by omega
    have e7 : (nd : Int) - 7 = ((j7 : Nat) : Int) := by omega
    have e8 : (nd : Int) - 8 = ((m : Nat) : Int) := by omega
    have h8' : (8 : Int) ≤ (nd : Int) := by omega
    have hbd : ∀ j : Nat, j < nd → ((j : Int) < (n : Int)) ∧ j < n ∧ j < 24 := fun j hj => by omega
    have l1 := hbd j1 (by omega)
    have l2 := hbd j2 (by omega)
    have l3 := hbd j3 (by omega)
    have l4 := hbd j4 (by omega)
    have l5 := hbd j5 (by omega)
    have l6 := hbd j6 (by omega)
    have l7 := hbd j7 (by omega)
    have l8 := hbd m (by omega)
    have hmn : m < nd := by omega
    clear hbd
    have k1 := wk 1 e1 (Nat.le_of_lt l1.2.2)
    have k2 := wk 2 e2 (Nat.le_of_lt l2.2.2)
    have k3 := wk 3 e3 (Nat.le_of_lt l3.2.2)
    have k4 := wk 4 e4 (Nat.le_of_lt l4.2.2)
    have k5 := wk 5 e5 (Nat.le_of_lt l5.2.2)
    have k6 := wk 6 e6 (Nat.le_of_lt l6.2.2)
    have k7 := wk 7 e7 (Nat.le_of_lt l7.2.2)
    have k8 := wk 8 e8 (Nat.le_of_lt l8.2.2)
    clear e1 e2 e3 e4 e5 e6 e7 e8
    obtain ⟨p, q, x6, x7, y8, y9, y10, y11, t8, t9, t10, t11, z8, z9, z10, z11, ⟨a1, a2, a3, a4, a5, a6, a7, a8, w1, w2, w3, v8, v10, u8, u9, u10, u11, w8, w9, w10, w11, s1, s2, s3, s4, s5, s6, s7, s8, fq⟩⟩ := fb8 v hv64
    rw [fq] at i4
    clear i1 i2 i3 hi hv64 fq hu64 hu
    generalize sm (v % 100 * 2 + 1) = c1 at *
    generalize sm (v % 100 * 2) = c2 at *
    generalize sm (v / 100 % 100 * 2 + 1) = c3 at *
    generalize sm (v / 100 % 100 * 2) = c4 at *
    generalize sm (v / 100 / 100 % 100 * 2 + 1) = c5 at *
    generalize sm (v / 100 / 100 % 100 * 2) = c6 at *
    generalize sm (v / 100 / 100 / 100 % 100 * 2 + 1) = c7 at *
    generalize sm (v / 100 / 100 / 100 % 100 * 2) = c8 at *
    simp [-ofVal, ofVal_int, h0, h1, h4, hv, a1, a2, a3, a4, a5, a6, a7, a8, w1, w2, w3, w8, w9, w10, w11, u8, u9, u10, u11, v8, v10, k1, k2, k3, k4, k5, k6, k7, k8, s1, s2, s3, s4, s5, s6, s7, s8, h8', hb, l1, l2, l3, l4, l5, l6, l7, l8, hsz, htl, hnn, sb, Nat.succ_le_of_lt]
    exact ⟨m, hmn, q, _, i4, by simp, rfl, rfl⟩
  · have h8' : ¬ (8 : Int) ≤ (nd : Int) := by omega
    have q0 : v < 100000000 := lt8 hi (by omega)
    have wv : IntKind.u32.wrap (v : Int) = (v : Int) := wu32 rfl (by omega)
    clear hv64 hu64 hu
    by_cases h4' : 4 ≤ nd
    · obtain ⟨m, hm⟩ : ∃ m, nd = m + 4 := ⟨nd - 4, by omega⟩
      have i1 := FmtInv.step2' (k := m + 2) (by rw [hm] at hi; exact hi)
      have i2 := FmtInv.step2' (k := m) i1
      obtain ⟨j1, hj1⟩ : ∃ y, y = m + 3 := ⟨_, rfl⟩
      obtain ⟨j2, hj2⟩ : ∃ y, y = m + 2 := ⟨_, rfl⟩
      obtain ⟨j3, hj3⟩ : ∃ y, y = m + 1 := ⟨_, rfl⟩
      rw [show m + 2 + 1 = j1 by omega, ← hj2, ← hj3] at i2
      have g4 : (4 : Int) ≤ (nd : Int) := by omega
      have e1 : (nd : Int) - 1 = (j1 : Int) := by omega
      have e2 : (nd : Int) - 2 = (j2 : Int) := by omega
      have e3 : (nd : Int) - 3 = (j3 : Int) := by omega
      have e4 : (nd : Int) - 4 = (m : Int) := by omega
      have hbd : ∀ j : Nat, j < nd → ((j : Int) < (n : Int)) ∧ j < n ∧ j < 24 := fun j hj => by omega
      have l1 := hbd j1 (by omega)
      have l2 := hbd j2 (by omega)
      have l3 := hbd j3 (by omega)
      have l4 := hbd m (by omega)
      have hm4 : m < 4 := by omega
      have k1 := wk 1 e1 (Nat.le_of_lt l1.2.2)
      have k2 := wk 2 e2 (Nat.le_of_lt l2.2.2)
      have k3 := wk 3 e3 (Nat.le_of_lt l3.2.2)
      have k4 := wk 4 e4 (Nat.le_of_lt l4.2.2)
      clear hbd e1 e2 e3 e4
      obtain ⟨q, x7, y8, y9, t8, t9, z8, z9, ⟨a1, a2, a5, a6, w2, v8, u8, u9, w8, w9, s1, s2, s3, s4, fq⟩⟩ := fb4 v q0
      rw [fq] at i2
      clear i1 hi fq
      generalize sm (v % 100 * 2 + 1) = c1 at *
      generalize sm (v % 100 * 2) = c2 at *
      generalize sm (v / 100 % 100 * 2 + 1) = c3 at *
      generalize sm (v / 100 % 100 * 2) = c4 at *
      simp [-Array.toList_setIfInBounds, -ofVal, ofVal_int, h0, h1, h4, hv, h8', g4, wv, a1, a2, a5, a6, w2, v8, u8, u9, w8, w9, k1, k2, k3, k4, s1, s2, s3, s4, hb, l1, l2, l3, l4, hsz, htl, hnn, sb, Nat.succ_le_of_lt]
      clear a1 a2 a5 a6 w2 v8 u8 u9 w8 w9 s1 s2 s3 s4 k1 k2 k3 k4 wv
      obtain ⟨dk1, hdk1⟩ : ∃ a, a = (((dk.setIfInBounds j1 c1).setIfInBounds j2 c2).setIfInBounds j3 c3).setIfInBounds m c4 := ⟨_, rfl⟩
      rw [← hdk1] at i2 ⊢
      clear hdk1
      by_cases x2 : 2 ≤ m
      · obtain ⟨m2, hm2⟩ : ∃ mm, m = mm + 2 := ⟨m - 2, by omega⟩
        have i6 := FmtInv.step2' (k := m2) (by rw [hm2] at i2; exact i2)
        obtain ⟨p1, hp1⟩ : ∃ y, y = m2 + 1 := ⟨_, rfl⟩
        have g2 : (2 : Int) ≤ (m : Int) := by omega
        have e1 : (m : Int) - 1 = (p1 : Int) := by omega
        have e2 : (m : Int) - 2 = (m2 : Int) := by omega
        have hle2 := i2.le
        have r1 : (p1 : Int) < (n : Int) ∧ p1 < n ∧ p1 < 24 := by omega
        have r2 : (m2 : Int) < (n : Int) ∧ m2 < n ∧ m2 < 24 := by omega
        have m2lt : m2 < 2 := by omega
        have q1 : q < 100000000 := lt8 i2 (by omega)
        rw [← hp1] at i6
        have j1' := wk 1 e1 (Nat.le_of_lt r1.2.2)
        have j2' := wk 2 e2 (Nat.le_of_lt r2.2.2)
        clear e1 e2
        obtain ⟨v2, y9, t9, z9, ⟨a1, a2, w2, u9, w9, s1, s2, fq⟩⟩ := fb2 q q1
        rw [fq] at i6
        generalize sm (q % 100 * 2 + 1) = c5 at *
        generalize sm (q % 100 * 2) = c6 at *
        simp [-Array.toList_setIfInBounds, -ofVal, ofVal_int, hv, g2, r1, r2, j1', j2', a1, a2, w2, u9, w9, s1, s2, hb, i2.size, htl, hnn, sb, Nat.succ_le_of_lt]
        clear a1 a2 w2 u9 w9 s1 s2 j1' j2' fq
        obtain ⟨dk2, hdk2⟩ : ∃ a, a = (dk1.setIfInBounds p1 c5).setIfInBounds m2 c6 := ⟨_, rfl⟩
        rw [← hdk2] at i6 ⊢
        clear hdk2
        by_cases y1 : m2 = 1
        · have z1 : v2 < 10 := by have := i6.small; rw [y1] at this; simpa using this
          have i5 := FmtInv.step1 (by rw [y1] at i6; exact i6)
          obtain ⟨d1, d2⟩ := fb1 v2 z1
          have g0 : (0 : Int) < (m2 : Int) := by omega
          have gn : 0 < m2 := by omega
          have g1 : 0 < n := by have := i6.le; omega
          generalize UInt8.ofNat (48 + v2) = c9 at *
          simp [-Array.toList_setIfInBounds, -ofVal, -blkClosed, ofVal_int, gn, g1, d1, d2, hb, i6.size, htl, hnn, sb]
          exact fin _ _ i5
        · have z0 : m2 = 0 := by omega
          rw [z0] at i6
          simp [-Array.toList_setIfInBounds, -ofVal, -blkClosed, z0]
          exact fin _ _ i6
      · have g2 : ¬ (2 : Int) ≤ (m : Int) := by omega
        simp [-Array.toList_setIfInBounds, -ofVal, ofVal_int, g2]
        by_cases y1 : m = 1
        · have z1 : q < 10 := by have := i2.small; rw [y1] at this; simpa using this
          have i5 := FmtInv.step1 (by rw [y1] at i2; exact i2)
          obtain ⟨d1, d2⟩ := fb1 q z1
          have g0 : (0 : Int) < (m : Int) := by omega
          have gn : 0 < m := by omega
          have g1 : 0 < n := by have := i2.le; omega
          generalize UInt8.ofNat (48 + q) = c9 at *
          simp [-Array.toList_setIfInBounds, -ofVal, -blkClosed, ofVal_int, gn, g1, d1, d2, hb, i2.size, htl, hnn, sb]
          exact fin _ _ i5
        · have z0 : m = 0 := by omega
          rw [z0] at i2
          simp [-Array.toList_setIfInBounds, -ofVal, -blkClosed, z0]
          exact fin _ _ i2
    · have g4 : ¬ (4 : Int) ≤ (nd : Int) := by omega
      simp [-ofVal, ofVal_int, h0, h1, h4, h8', g4, wv]
      clear wv
      by_cases x2 : 2 ≤ nd
      · obtain ⟨m2, hm2⟩ : ∃ mm, nd = mm + 2 := ⟨nd - 2, by omega⟩
        have i6 := FmtInv.step2' (k := m2) (by rw [hm2] at hi; exact hi)
        obtain ⟨p1, hp1⟩ : ∃ y, y = m2 + 1 := ⟨_, rfl⟩
        have g2 : (2 : Int) ≤ (nd : Int) := by omega
        have e1 : (nd : Int) - 1 = (p1 : Int) := by omega
        have e2 : (nd : Int) - 2 = (m2 : Int) := by omega
        have hle2 := hi.le
        have r1 : (p1 : Int) < (n : Int) ∧ p1 < n ∧ p1 < 24 := by omega
        have r2 : (m2 : Int) < (n : Int) ∧ m2 < n ∧ m2 < 24 := by omega
        have m2lt : m2 < 2 := by omega
        have q1 : v < 100000000 := lt8 hi (by omega)
        rw [← hp1] at i6
        have j1' := wk 1 e1 (Nat.le_of_lt r1.2.2)
        have j2' := wk 2 e2 (Nat.le_of_lt r2.2.2)
        clear e1 e2
        obtain ⟨v2, y9, t9, z9, ⟨a1, a2, w2, u9, w9, s1, s2, fq⟩⟩ := fb2 v q1
        rw [fq] at i6
        generalize sm (v % 100 * 2 + 1) = c5 at *
        generalize sm (v % 100 * 2) = c6 at *
        simp [-Array.toList_setIfInBounds, -ofVal, ofVal_int, hv, g2, r1, r2, j1', j2', a1, a2, w2, u9, w9, s1, s2, hb, hi.size, htl, hnn, sb, Nat.succ_le_of_lt]
        clear a1 a2 w2 u9 w9 s1 s2 j1' j2' fq
        obtain ⟨dk2, hdk2⟩ : ∃ a, a = (dk.setIfInBounds p1 c5).setIfInBounds m2 c6 := ⟨_, rfl⟩
        rw [← hdk2] at i6 ⊢
        clear hdk2
        by_cases y1 : m2 = 1
        · have z1 : v2 < 10 := by have := i6.small; rw [y1] at this; simpa using this
          have i5 := FmtInv.step1 (by rw [y1] at i6; exact i6)
          obtain ⟨d1, d2⟩ := fb1 v2 z1
          have g0 : (0 : Int) < (m2 : Int) := by omega
          have gn : 0 < m2 := by omega
          have g1 : 0 < n := by have := i6.le; omega
          generalize UInt8.ofNat (48 + v2) = c9 at *
          simp [-Array.toList_setIfInBounds, -ofVal, -blkClosed, ofVal_int, gn, g1, d1, d2, hb, i6.size, htl, hnn, sb]
          exact fin _ _ i5
        · have z0 : m2 = 0 := by omega
          rw [z0] at i6
          simp [-Array.toList_setIfInBounds, -ofVal, -blkClosed, z0]
          exact fin _ _ i6
      · have g2 : ¬ (2 : Int) ≤ (nd : Int) := by omega
        simp [-Array.toList_setIfInBounds, -ofVal, ofVal_int, g2]
        by_cases y1 : nd = 1
        · have z1 : v < 10 := by have := hi.small; rw [y1] at this; simpa using this
          have i5 := FmtInv.step1 (by rw [y1] at hi; exact hi)
          obtain ⟨d1, d2⟩ := fb1 v z1
          have g0 : (0 : Int) < (nd : Int) := by omega
          have gn : 0 < nd := by omega
          have g1 : 0 < n := by have := hi.le; omega
          generalize UInt8.ofNat (48 + v) = c9 at *
          simp [-Array.toList_setIfInBounds, -ofVal, -blkClosed, ofVal_int, gn, g1, d1, d2, hb, hi.size, htl, hnn, sb]
          exact fin _ _ i5
        · have z0 : nd = 0 := by omega
          rw [z0] at hi
          simp [-Array.toList_setIfInBounds, -ofVal, -blkClosed, z0]
          exact fin _ _ hi
end Go.Ev.S
/- Numbers in decimal digits: as texts. -/
namespace Go.Ev.S
open Go Go.Proofs Go.Ev Go.Lib
theorem row_dec {u v' : Nat} {dk : Array UInt8} (h : FmtInv (nDigits u) u 0 v' dk) : dk.toList = decDigits u := by
  apply List.ext_getElem
  · rw [decDigits_length, Array.length_toList, h.size]
  · intro j h1 h2
    rw [row_is_numeral h j h2, getElem!_pos dk j (by simpa using h1)]
    simp
set_option maxHeartbeats 1000000 in
theorem fui_ev [MaxL] (v : Nat) (hv : v < 18446744073709551616) : call cx 69 [.int .u64 v, .int .i64 10] [] = some (.str (dec v), []) := by
  refine call_run Tryd.func69 rfl ⟨rfl, rfl⟩ ?_
  by_cases hs : v < 100
  · have hs' : (v : Int) < 100 := by omega
    have h1 := small_ev v hs
    have hw : IntKind.i64.wrap (v : Int) = (v : Int) := by rw [wrap_i64]; omega
    simp [Tryd.f69, hs', h1, hw]
  · have hs' : ¬ (v : Int) < 100 := by omega
    have h1 := ndig_ev v (by omega) hv
    have hn : nDigits v ≤ 20 := by
      have := numDigits_eq v (by omega) hv
      split at this <;> omega
    obtain ⟨v', dk, i1, i2⟩ := fb10_ev (nDigits v) v (by omega) (lt_pow_nDigits v) hv (List.replicate (24 - nDigits v) 0) (by simp) (Array.replicate (nDigits v) 0) (by simp) [some (ofBytes (List.replicate 24 0))] 0 (by simp) (by simp) (by
      simp only [List.getElem_cons_zero, Array.toList_replicate, List.replicate_append_replicate]
      congr 3
      omega)
    have hr := row_dec i1
    have hsz := i1.size
    have hl : (decDigits v).length = nDigits v := decDigits_length v
    rw [hr] at i2
    rw [dec_lib hv]
    generalize nDigits v = n at *
    generalize decDigits v = w at *
    have hn' : (n : Int) ≤ 24 := by omega
    have hn2 : n ≤ 24 := by omega
    clear hv
    have e24 : ofBytes (List.replicate 24 0) = [D.int .u8 0, D.int .u8 0, D.int .u8 0, D.int .u8 0, D.int .u8 0, D.int .u8 0, D.int .u8 0, D.int .u8 0, D.int .u8 0, D.int .u8 0, D.int .u8 0, D.int .u8 0, D.int .u8 0, D.int .u8 0, D.int .u8 0, D.int .u8 0, D.int .u8 0, D.int .u8 0, D.int .u8 0, D.int .u8 0, D.int .u8 0, D.int .u8 0, D.int .u8 0, D.int .u8 0] := rfl
    rw [e24] at i2
    have hd : dk.toList = w := hr
    have k1 : w.length + (24 - n) = 24 := by omega
    have k2 : n ≤ w.length + (24 - n) := by omega
    have k3 : List.take n (ofBytes (w ++ List.replicate (24 - n) 0)) = ofBytes w := by
      rw [ofBytes_take, ← hl, List.take_left]
    have k4 : n ≤ 24 := hn2
    simp [Tryd.f69, hs', h1, hn', hn2, i2, k1, k3]
theorem fu_ev [MaxL] (v : Nat) (hv : v < 18446744073709551616) : call cx 54 [.int .u64 v, .int .i64 10] [] = some (.str (dec v), []) := by
  have h := fui_ev v hv
  refine call_run Tryd.func54 rfl ⟨rfl, rfl⟩ ?_
  simp [Tryd.f54, h]
end Go.Ev.S
/- The chapter's example. -/
namespace Go.Ev.S
open Go Go.Proofs Go.Ev
theorem first27_ev [MaxL] : call cx 14 [] [] = some (.bool true, []) := call_some.2 ⟨900, by kernel_rfl⟩
end Go.Ev.S
/- Requests, responses. -/
namespace Go.Ev
open Go Go.Proofs
structure Rq where
  path : List UInt8
  epoch : Int
  number : Int
  body : Sl UInt8
instance : Enc Rq := ⟨4, fun m => (.str m.path :: (.int .u64 m.epoch :: (.int .u64 m.number :: ((.vsl m.body.nil (ofBytes m.body.l) m.body.l.length) :: ([] : List D))))), fun m => by simp, fun m => by simp [idFree]⟩
theorem Rq.cells (m : Rq) : Enc.cells m = (.str m.path :: (.int .u64 m.epoch :: (.int .u64 m.number :: ((.vsl m.body.nil (ofBytes m.body.l) m.body.l.length) :: ([] : List D))))) := rfl
@[simp] theorem Rq.size : Enc.size Rq = 4 := rfl
@[simp] theorem Rq.cl (a : Rq) : (Enc.cells a).length = 4 := Enc.len a
@[simp] theorem Rq.ct (a : Rq) (r : List D) : (Enc.cells a ++ r).take 4 = Enc.cells a := cells_take rfl a r
@[simp] theorem Rq.ct' (a : Rq) : (Enc.cells a).take 4 = Enc.cells a := cells_take' rfl a
@[simp] theorem Rq.cd (a : Rq) (r : List D) : (Enc.cells a ++ r).drop 4 = r := cells_drop rfl a r
@[simp] theorem Rq.el (l : List Rq) : (encs l).length = l.length * 4 := encs_len' rfl l
@[simp] theorem Rq.ed (l : List Rq) (i : Nat) : (encs l).drop (i * 4) = encs (l.drop i) := encs_drop rfl l i
@[simp] theorem Rq.et (l : List Rq) (i : Nat) : (encs l).take (i * 4) = encs (l.take i) := encs_take rfl l i
@[simp high] theorem Rq.ea {l : List Rq} {i : Nat} (h : i < l.length) : (encs l).drop (i * 4) = Enc.cells l[i] ++ encs (l.drop (i + 1)) := encs_at rfl h
@[simp high] theorem Rq.es (m : Rq) {l : List Rq} {j : Nat} (h : j < l.length) : setRange (encs l) (j * 4) (Enc.cells m) = encs (l.set j m) := encs_set rfl m l h
@[simp] theorem Rq.g0 (m : Rq) (h) : (Enc.cells m)[0]'h = .str m.path := by simp [Rq.cells]
@[simp] theorem Rq.q0 (m : Rq) : (Enc.cells m)[0]? = some (.str m.path) := by simp [Rq.cells]
@[simp] theorem Rq.s0 (m : Rq) (x : List UInt8) : setRange (Enc.cells m) 0 [.str x] = Enc.cells { m with path := x } := by simp [Rq.cells]
@[simp] theorem Rq.d1 (m : Rq) : (Enc.cells m).drop 1 = (.int .u64 m.epoch :: (.int .u64 m.number :: ((.vsl m.body.nil (ofBytes m.body.l) m.body.l.length) :: ([] : List D)))) := by simp [Rq.cells]
@[simp] theorem Rq.d1' (m : Rq) (r : List D) : (Enc.cells m ++ r).drop 1 = (.int .u64 m.epoch :: (.int .u64 m.number :: ((.vsl m.body.nil (ofBytes m.body.l) m.body.l.length) :: ([] : List D)))) ++ r := by simp [Rq.cells]
@[simp] theorem Rq.g1 (m : Rq) (h) : (Enc.cells m)[1]'h = .int .u64 m.epoch := by simp [Rq.cells]
@[simp] theorem Rq.q1 (m : Rq) : (Enc.cells m)[1]? = some (.int .u64 m.epoch) := by simp [Rq.cells]
@[simp] theorem Rq.s1 (m : Rq) (x : Int) : setRange (Enc.cells m) 1 [.int .u64 x] = Enc.cells { m with epoch := x } := by simp [Rq.cells]
@[simp] theorem Rq.d2 (m : Rq) : (Enc.cells m).drop 2 = (.int .u64 m.number :: ((.vsl m.body.nil (ofBytes m.body.l) m.body.l.length) :: ([] : List D))) := by simp [Rq.cells]
@[simp] theorem Rq.d2' (m : Rq) (r : List D) : (Enc.cells m ++ r).drop 2 = (.int .u64 m.number :: ((.vsl m.body.nil (ofBytes m.body.l) m.body.l.length) :: ([] : List D))) ++ r := by simp [Rq.cells]
@[simp] theorem Rq.g2 (m : Rq) (h) : (Enc.cells m)[2]'h = .int .u64 m.number := by simp [Rq.cells]
@[simp] theorem Rq.q2 (m : Rq) : (Enc.cells m)[2]? = some (.int .u64 m.number) := by simp [Rq.cells]
@[simp] theorem Rq.s2 (m : Rq) (x : Int) : setRange (Enc.cells m) 2 [.int .u64 x] = Enc.cells { m with number := x } := by simp [Rq.cells]
@[simp] theorem Rq.d3 (m : Rq) : (Enc.cells m).drop 3 = ((.vsl m.body.nil (ofBytes m.body.l) m.body.l.length) :: ([] : List D)) := by simp [Rq.cells]
@[simp] theorem Rq.d3' (m : Rq) (r : List D) : (Enc.cells m ++ r).drop 3 = ((.vsl m.body.nil (ofBytes m.body.l) m.body.l.length) :: ([] : List D)) ++ r := by simp [Rq.cells]
@[simp] theorem Rq.g3 (m : Rq) (h) : (Enc.cells m)[3]'h = (.vsl m.body.nil (ofBytes m.body.l) m.body.l.length) := by simp [Rq.cells]
@[simp] theorem Rq.q3 (m : Rq) : (Enc.cells m)[3]? = some ((.vsl m.body.nil (ofBytes m.body.l) m.body.l.length)) := by simp [Rq.cells]
@[simp] theorem Rq.s3 (m : Rq) (x : Sl UInt8) : setRange (Enc.cells m) 3 [(.vsl x.nil (ofBytes x.l) x.l.length)] = Enc.cells { m with body := x } := by simp [Rq.cells]
structure Msg where
  kind : Int
  epoch : Int
  number : Int
  body : Sl UInt8
instance : Enc Msg := ⟨4, fun m => (.int .i64 m.kind :: (.int .u64 m.epoch :: (.int .u64 m.number :: ((.vsl m.body.nil (ofBytes m.body.l) m.body.l.length) :: ([] : List D))))), fun m => by simp, fun m => by simp [idFree]⟩
theorem Msg.cells (m : Msg) : Enc.cells m = (.int .i64 m.kind :: (.int .u64 m.epoch :: (.int .u64 m.number :: ((.vsl m.body.nil (ofBytes m.body.l) m.body.l.length) :: ([] : List D))))) := rfl
@[simp] theorem Msg.size : Enc.size Msg = 4 := rfl
@[simp] theorem Msg.cl (a : Msg) : (Enc.cells a).length = 4 := Enc.len a
@[simp] theorem Msg.ct (a : Msg) (r : List D) : (Enc.cells a ++ r).take 4 = Enc.cells a := cells_take rfl a r
@[simp] theorem Msg.ct' (a : Msg) : (Enc.cells a).take 4 = Enc.cells a := cells_take' rfl a
@[simp] theorem Msg.cd (a : Msg) (r : List D) : (Enc.cells a ++ r).drop 4 = r := cells_drop rfl a r
@[simp] theorem Msg.el (l : List Msg) : (encs l).length = l.length * 4 := encs_len' rfl l
@[simp] theorem Msg.ed (l : List Msg) (i : Nat) : (encs l).drop (i * 4) = encs (l.drop i) := encs_drop rfl l i
@[simp] theorem Msg.et (l : List Msg) (i : Nat) : (encs l).take (i * 4) = encs (l.take i) := encs_take rfl l i
@[simp high] theorem Msg.ea {l : List Msg} {i : Nat} (h : i < l.length) : (encs l).drop (i * 4) = Enc.cells l[i] ++ encs (l.drop (i + 1)) := encs_at rfl h
@[simp high] theorem Msg.es (m : Msg) {l : List Msg} {j : Nat} (h : j < l.length) : setRange (encs l) (j * 4) (Enc.cells m) = encs (l.set j m) := encs_set rfl m l h
@[simp] theorem Msg.g0 (m : Msg) (h) : (Enc.cells m)[0]'h = .int .i64 m.kind := by simp [Msg.cells]
@[simp] theorem Msg.q0 (m : Msg) : (Enc.cells m)[0]? = some (.int .i64 m.kind) := by simp [Msg.cells]
@[simp] theorem Msg.s0 (m : Msg) (x : Int) : setRange (Enc.cells m) 0 [.int .i64 x] = Enc.cells { m with kind := x } := by simp [Msg.cells]
@[simp] theorem Msg.d1 (m : Msg) : (Enc.cells m).drop 1 = (.int .u64 m.epoch :: (.int .u64 m.number :: ((.vsl m.body.nil (ofBytes m.body.l) m.body.l.length) :: ([] : List D)))) := by simp [Msg.cells]
@[simp] theorem Msg.d1' (m : Msg) (r : List D) : (Enc.cells m ++ r).drop 1 = (.int .u64 m.epoch :: (.int .u64 m.number :: ((.vsl m.body.nil (ofBytes m.body.l) m.body.l.length) :: ([] : List D)))) ++ r := by simp [Msg.cells]
@[simp] theorem Msg.g1 (m : Msg) (h) : (Enc.cells m)[1]'h = .int .u64 m.epoch := by simp [Msg.cells]
@[simp] theorem Msg.q1 (m : Msg) : (Enc.cells m)[1]? = some (.int .u64 m.epoch) := by simp [Msg.cells]
@[simp] theorem Msg.s1 (m : Msg) (x : Int) : setRange (Enc.cells m) 1 [.int .u64 x] = Enc.cells { m with epoch := x } := by simp [Msg.cells]
@[simp] theorem Msg.d2 (m : Msg) : (Enc.cells m).drop 2 = (.int .u64 m.number :: ((.vsl m.body.nil (ofBytes m.body.l) m.body.l.length) :: ([] : List D))) := by simp [Msg.cells]
@[simp] theorem Msg.d2' (m : Msg) (r : List D) : (Enc.cells m ++ r).drop 2 = (.int .u64 m.number :: ((.vsl m.body.nil (ofBytes m.body.l) m.body.l.length) :: ([] : List D))) ++ r := by simp [Msg.cells]
@[simp] theorem Msg.g2 (m : Msg) (h) : (Enc.cells m)[2]'h = .int .u64 m.number := by simp [Msg.cells]
@[simp] theorem Msg.q2 (m : Msg) : (Enc.cells m)[2]? = some (.int .u64 m.number) := by simp [Msg.cells]
@[simp] theorem Msg.s2 (m : Msg) (x : Int) : setRange (Enc.cells m) 2 [.int .u64 x] = Enc.cells { m with number := x } := by simp [Msg.cells]
@[simp] theorem Msg.d3 (m : Msg) : (Enc.cells m).drop 3 = ((.vsl m.body.nil (ofBytes m.body.l) m.body.l.length) :: ([] : List D)) := by simp [Msg.cells]
@[simp] theorem Msg.d3' (m : Msg) (r : List D) : (Enc.cells m ++ r).drop 3 = ((.vsl m.body.nil (ofBytes m.body.l) m.body.l.length) :: ([] : List D)) ++ r := by simp [Msg.cells]
@[simp] theorem Msg.g3 (m : Msg) (h) : (Enc.cells m)[3]'h = (.vsl m.body.nil (ofBytes m.body.l) m.body.l.length) := by simp [Msg.cells]
@[simp] theorem Msg.q3 (m : Msg) : (Enc.cells m)[3]? = some ((.vsl m.body.nil (ofBytes m.body.l) m.body.l.length)) := by simp [Msg.cells]
@[simp] theorem Msg.s3 (m : Msg) (x : Sl UInt8) : setRange (Enc.cells m) 3 [(.vsl x.nil (ofBytes x.l) x.l.length)] = Enc.cells { m with body := x } := by simp [Msg.cells]
structure Rs where
  status : Int
  epoch : Int
  number : Int
  body : Sl UInt8
instance : Enc Rs := ⟨4, fun m => (.int .i64 m.status :: (.int .u64 m.epoch :: (.int .u64 m.number :: ((.vsl m.body.nil (ofBytes m.body.l) m.body.l.length) :: ([] : List D))))), fun m => by simp, fun m => by simp [idFree]⟩
theorem Rs.cells (m : Rs) : Enc.cells m = (.int .i64 m.status :: (.int .u64 m.epoch :: (.int .u64 m.number :: ((.vsl m.body.nil (ofBytes m.body.l) m.body.l.length) :: ([] : List D))))) := rfl
@[simp] theorem Rs.size : Enc.size Rs = 4 := rfl
@[simp] theorem Rs.cl (a : Rs) : (Enc.cells a).length = 4 := Enc.len a
@[simp] theorem Rs.ct (a : Rs) (r : List D) : (Enc.cells a ++ r).take 4 = Enc.cells a := cells_take rfl a r
@[simp] theorem Rs.ct' (a : Rs) : (Enc.cells a).take 4 = Enc.cells a := cells_take' rfl a
@[simp] theorem Rs.cd (a : Rs) (r : List D) : (Enc.cells a ++ r).drop 4 = r := cells_drop rfl a r
@[simp] theorem Rs.el (l : List Rs) : (encs l).length = l.length * 4 := encs_len' rfl l
@[simp] theorem Rs.ed (l : List Rs) (i : Nat) : (encs l).drop (i * 4) = encs (l.drop i) := encs_drop rfl l i
@[simp] theorem Rs.et (l : List Rs) (i : Nat) : (encs l).take (i * 4) = encs (l.take i) := encs_take rfl l i
@[simp high] theorem Rs.ea {l : List Rs} {i : Nat} (h : i < l.length) : (encs l).drop (i * 4) = Enc.cells l[i] ++ encs (l.drop (i + 1)) := encs_at rfl h
@[simp high] theorem Rs.es (m : Rs) {l : List Rs} {j : Nat} (h : j < l.length) : setRange (encs l) (j * 4) (Enc.cells m) = encs (l.set j m) := encs_set rfl m l h
@[simp] theorem Rs.g0 (m : Rs) (h) : (Enc.cells m)[0]'h = .int .i64 m.status := by simp [Rs.cells]
@[simp] theorem Rs.q0 (m : Rs) : (Enc.cells m)[0]? = some (.int .i64 m.status) := by simp [Rs.cells]
@[simp] theorem Rs.s0 (m : Rs) (x : Int) : setRange (Enc.cells m) 0 [.int .i64 x] = Enc.cells { m with status := x } := by simp [Rs.cells]
@[simp] theorem Rs.d1 (m : Rs) : (Enc.cells m).drop 1 = (.int .u64 m.epoch :: (.int .u64 m.number :: ((.vsl m.body.nil (ofBytes m.body.l) m.body.l.length) :: ([] : List D)))) := by simp [Rs.cells]
@[simp] theorem Rs.d1' (m : Rs) (r : List D) : (Enc.cells m ++ r).drop 1 = (.int .u64 m.epoch :: (.int .u64 m.number :: ((.vsl m.body.nil (ofBytes m.body.l) m.body.l.length) :: ([] : List D)))) ++ r := by simp [Rs.cells]
@[simp] theorem Rs.g1 (m : Rs) (h) : (Enc.cells m)[1]'h = .int .u64 m.epoch := by simp [Rs.cells]
@[simp] theorem Rs.q1 (m : Rs) : (Enc.cells m)[1]? = some (.int .u64 m.epoch) := by simp [Rs.cells]
@[simp] theorem Rs.s1 (m : Rs) (x : Int) : setRange (Enc.cells m) 1 [.int .u64 x] = Enc.cells { m with epoch := x } := by simp [Rs.cells]
@[simp] theorem Rs.d2 (m : Rs) : (Enc.cells m).drop 2 = (.int .u64 m.number :: ((.vsl m.body.nil (ofBytes m.body.l) m.body.l.length) :: ([] : List D))) := by simp [Rs.cells]
@[simp] theorem Rs.d2' (m : Rs) (r : List D) : (Enc.cells m ++ r).drop 2 = (.int .u64 m.number :: ((.vsl m.body.nil (ofBytes m.body.l) m.body.l.length) :: ([] : List D))) ++ r := by simp [Rs.cells]
@[simp] theorem Rs.g2 (m : Rs) (h) : (Enc.cells m)[2]'h = .int .u64 m.number := by simp [Rs.cells]
@[simp] theorem Rs.q2 (m : Rs) : (Enc.cells m)[2]? = some (.int .u64 m.number) := by simp [Rs.cells]
@[simp] theorem Rs.s2 (m : Rs) (x : Int) : setRange (Enc.cells m) 2 [.int .u64 x] = Enc.cells { m with number := x } := by simp [Rs.cells]
@[simp] theorem Rs.d3 (m : Rs) : (Enc.cells m).drop 3 = ((.vsl m.body.nil (ofBytes m.body.l) m.body.l.length) :: ([] : List D)) := by simp [Rs.cells]
@[simp] theorem Rs.d3' (m : Rs) (r : List D) : (Enc.cells m ++ r).drop 3 = ((.vsl m.body.nil (ofBytes m.body.l) m.body.l.length) :: ([] : List D)) ++ r := by simp [Rs.cells]
@[simp] theorem Rs.g3 (m : Rs) (h) : (Enc.cells m)[3]'h = (.vsl m.body.nil (ofBytes m.body.l) m.body.l.length) := by simp [Rs.cells]
@[simp] theorem Rs.q3 (m : Rs) : (Enc.cells m)[3]? = some ((.vsl m.body.nil (ofBytes m.body.l) m.body.l.length)) := by simp [Rs.cells]
@[simp] theorem Rs.s3 (m : Rs) (x : Sl UInt8) : setRange (Enc.cells m) 3 [(.vsl x.nil (ofBytes x.l) x.l.length)] = Enc.cells { m with body := x } := by simp [Rs.cells]
@[simp] theorem ofBytes_nil : ofBytes [] = [] := rfl
def Msg.zero : Msg := ⟨0, 0, 0, .none⟩
def crlf : List UInt8 := [13, 10]
def epochL : List UInt8 := [88, 45, 69, 112, 111, 99, 104, 58, 32]
def numberL : List UInt8 := [88, 45, 78, 117, 109, 98, 101, 114, 58, 32]
def lengthL : List UInt8 := [67, 111, 110, 116, 101, 110, 116, 45, 76, 101, 110, 103, 116, 104, 58, 32]
def numsL (e n l : Nat) : List UInt8 := epochL ++ (dec e ++ (crlf ++ (numberL ++ (dec n ++ (crlf ++ (lengthL ++ (dec l ++ (crlf ++ crlf))))))))
theorem decF_len : ∀ (f v : Nat), (decF f v).length ≤ f
  | 0, _ => Nat.le_refl _
  | f + 1, v => by
    rw [decF]
    split
    · simp
    · have := decF_len f (v / 10)
      simp
      omega
theorem dec_len (v : Nat) : (dec v).length ≤ 20 := decF_len 20 v
theorem dec_pos (v : Nat) : 0 < (dec v).length := by
  unfold dec decF
  split <;> simp
theorem nums_len (e n l : Nat) : (numsL e n l).length ≤ 103 := by
  have h1 := dec_len e
  have h2 := dec_len n
  have h3 := dec_len l
  simp only [numsL, List.length_append, epochL, numberL, lengthL, crlf, List.length_cons, List.length_nil]
  omega
theorem cat_of {x y s : List UInt8} (e : s = x ++ y) (h : x.length + y.length ≤ 100000) : strD .add x y = some (.str s) := by
  simp only [strD, e]
  rw [if_pos (by omega)]
theorem strD_add {x y : List UInt8} (h : x.length + y.length ≤ 100000) : strD .add x y = some (.str (x ++ y)) := by
  simp only [strD]
  rw [if_pos (by omega)]
section
variable {H : Type} {enc : TypeId × Value → H} {P : Program} {W : World} {base n : Nat} {t e : TypeId} {v : Value} {d : DataW H} {ps : List MemPlace}
theorem arg_u64 (hu : P.underlying t = some (.int .u64)) (hp : PlainT P (n + 1) t = true) (hv : Value.okWide P W .any base t v) (h : DataW.Trod enc P W 0 (fun _ => true) true t v d ps) : ∃ b, Rep (· < W.heap.size) W iota0 [] (.int .u64 b) v ∧ isU64 b := by
  obtain ⟨ds, h1, h2⟩ := read_plain hp h
  obtain ⟨b, rfl, hb⟩ := has_u64 hu h1
  exact ⟨b, cor_val h2 (one_int hu hv), hb⟩
theorem arg_u8 (hu : P.underlying t = some (.int .u8)) (hp : PlainT P (n + 1) t = true) (hv : Value.okWide P W .any base t v) (h : DataW.Trod enc P W 0 (fun _ => true) true t v d ps) : ∃ b : UInt8, Rep (· < W.heap.size) W iota0 [] (.int .u8 b.toNat) v ∧ True := by
  obtain ⟨ds, h1, h2⟩ := read_plain hp h
  obtain ⟨b, rfl⟩ := has_u8 hu h1
  exact ⟨b, cor_val h2 (one_int hu hv), trivial⟩
end
end Go.Ev
/- Requests and responses are put. -/
namespace Go.Ev.S
open Go Go.Proofs Go.Ev
theorem dec_ev [MaxL] (v : Nat) (hv : v < 18446744073709551616) : call cx 81 [.int .u64 v] [] = some (.str (dec v), []) := by
  have h := fu_ev v hv
  refine call_run Tryd.func81 rfl ⟨rfl, rfl⟩ ?_
  simp [Tryd.f81, h]
theorem head_ev [MaxL] (b : List UInt8) (hb : b.length ≤ 1000) (e n l : Nat) (he : e < 18446744073709551616) (hn : n < 18446744073709551616) (hl : l < 18446744073709551616) :
    call cx 63 [.str b, .int .u64 e, .int .u64 n, .int .u64 l] [] = some (.str (b ++ numsL e n l), []) := by
  have h1 := dec_ev e he
  have h2 := dec_ev n hn
  have h3 := dec_ev l hl
  have l1 := dec_len e
  have l2 := dec_len n
  have l3 := dec_len l
  unfold numsL
  generalize dec e = x at *
  generalize dec n = y at *
  generalize dec l = z at *
  clear he hn hl
  obtain ⟨s1, es1⟩ : ∃ s, s = b ++ epochL := ⟨_, rfl⟩
  have ls1 : s1.length = b.length + epochL.length := by rw [es1, List.length_append]
  obtain ⟨s2, es2⟩ : ∃ s, s = s1 ++ x := ⟨_, rfl⟩
  have ls2 : s2.length = s1.length + x.length := by rw [es2, List.length_append]
  obtain ⟨s3, es3⟩ : ∃ s, s = s2 ++ crlf := ⟨_, rfl⟩
  have ls3 : s3.length = s2.length + crlf.length := by rw [es3, List.length_append]
  obtain ⟨s4, es4⟩ : ∃ s, s = s3 ++ numberL := ⟨_, rfl⟩
  have ls4 : s4.length = s3.length + numberL.length := by rw [es4, List.length_append]
  obtain ⟨s5, es5⟩ : ∃ s, s = s4 ++ y := ⟨_, rfl⟩
  have ls5 : s5.length = s4.length + y.length := by rw [es5, List.length_append]
  obtain ⟨s6, es6⟩ : ∃ s, s = s5 ++ crlf := ⟨_, rfl⟩
  have ls6 : s6.length = s5.length + crlf.length := by rw [es6, List.length_append]
  obtain ⟨s7, es7⟩ : ∃ s, s = s6 ++ lengthL := ⟨_, rfl⟩
  have ls7 : s7.length = s6.length + lengthL.length := by rw [es7, List.length_append]
  obtain ⟨s8, es8⟩ : ∃ s, s = s7 ++ z := ⟨_, rfl⟩
  have ls8 : s8.length = s7.length + z.length := by rw [es8, List.length_append]
  obtain ⟨s9, es9⟩ : ∃ s, s = s8 ++ crlf := ⟨_, rfl⟩
  have ls9 : s9.length = s8.length + crlf.length := by rw [es9, List.length_append]
  obtain ⟨s10, es10⟩ : ∃ s, s = s9 ++ crlf := ⟨_, rfl⟩
  have ls10 : s10.length = s9.length + crlf.length := by rw [es10, List.length_append]
  simp only [epochL, numberL, lengthL, crlf, List.length_cons, List.length_nil] at ls1 ls2 ls3 ls4 ls5 ls6 ls7 ls8 ls9 ls10
  have cs1 := cat_of es1 (by (try simp only [epochL, List.length_cons, List.length_nil]); omega)
  have cs2 := cat_of es2 (by (try simp only [epochL, numberL, lengthL, crlf, List.length_cons, List.length_nil]); omega)
  have cs3 := cat_of es3 (by (try simp only [crlf, List.length_cons, List.length_nil]); omega)
  have cs4 := cat_of es4 (by (try simp only [numberL, List.length_cons, List.length_nil]); omega)
  have cs5 := cat_of es5 (by (try simp only [epochL, numberL, lengthL, crlf, List.length_cons, List.length_nil]); omega)
  have cs6 := cat_of es6 (by (try simp only [crlf, List.length_cons, List.length_nil]); omega)
  have cs7 := cat_of es7 (by (try simp only [lengthL, List.length_cons, List.length_nil]); omega)
  have cs8 := cat_of es8 (by (try simp only [epochL, numberL, lengthL, crlf, List.length_cons, List.length_nil]); omega)
  have cs9 := cat_of es9 (by (try simp only [crlf, List.length_cons, List.length_nil]); omega)
  have cs10 := cat_of es10 (by (try simp only [crlf, List.length_cons, List.length_nil]); omega)
  simp only [epochL, numberL, lengthL, crlf] at cs1 cs2 cs3 cs4 cs5 cs6 cs7 cs8 cs9 cs10
  have hfin : b ++ (epochL ++ (x ++ (crlf ++ (numberL ++ (y ++ (crlf ++ (lengthL ++ (z ++ (crlf ++ crlf))))))))) = s10 := by
    simp [es10, es9, es8, es7, es6, es5, es4, es3, es2, es1]
  rw [hfin]
  clear hfin es1 es2 es3 es4 es5 es6 es7 es8 es9 es10 ls1 ls2 ls3 ls4 ls5 ls6 ls7 ls8 ls9 ls10 l1 l2 l3 hb
  refine call_run Tryd.func63 rfl ⟨rfl, rfl⟩ ?_
  simp [Tryd.f63, h1, h2, h3, -strD, cs1, cs2, cs3, cs4, cs5, cs6, cs7, cs8, cs9, cs10]
/-- A head and a body, if the body is not too long. -/
def putS (b : List UInt8) (e n : Nat) (body : List UInt8) : Sl UInt8 := if 65536 < body.length then .none else .of (b ++ (numsL e n body.length ++ body))
theorem put_ev [MaxL] (b : List UInt8) (hb : b.length ≤ 1000) (e n : Nat) (he : e < 18446744073709551616) (hn : n < 18446744073709551616) (body : Sl UInt8) (hl : body.l.length ≤ 100000) :
    call cx 42 [.str b, .int .u64 e, .int .u64 n, (.vsl body.nil (ofBytes body.l) body.l.length)] [] = some ((.vsl (putS b e n body.l).nil (ofBytes (putS b e n body.l).l) (putS b e n body.l).l.length), []) := by
  refine call_run Tryd.func42 rfl ⟨rfl, rfl⟩ ?_
  unfold putS
  by_cases h : 65536 < body.l.length
  · have h' : (65536 : Int) < (body.l.length : Int) := by omega
    simp [Tryd.f42, h, h']
  · have h' : ¬ (65536 : Int) < (body.l.length : Int) := by omega
    have h1 := head_ev b hb e n body.l.length he hn (by omega)
    have hw : IntKind.u64.wrap (body.l.length : Int) = (body.l.length : Int) := by rw [wrap_u64]; omega
    have hx := nums_len e n body.l.length
    generalize numsL e n body.l.length = x at *
    have hm : b.length + (x.length + body.l.length) ≤ maxBytes := by unfold maxBytes; omega
    simp [Tryd.f42, h, h', h1, hw, hm, ofBytes_append, List.take_of_length_le, Nat.add_assoc]
def postL : List UInt8 := [80, 79, 83, 84, 32]
def httpL : List UInt8 := [32, 72, 84, 84, 80, 47, 49, 46, 49]
def hostL : List UInt8 := [72, 111, 115, 116, 58, 32, 114, 101, 99, 101, 105, 118, 101, 114]
def ctypeL : List UInt8 := [67, 111, 110, 116, 101, 110, 116, 45, 84, 121, 112, 101, 58, 32, 97, 112, 112, 108, 105, 99, 97, 116, 105, 111, 110, 47, 118, 110, 100, 46, 102, 100, 111, 46, 106, 111, 117, 114, 110, 97, 108]
def beginL (p : List UInt8) : List UInt8 := postL ++ (p ++ (httpL ++ (crlf ++ (hostL ++ (crlf ++ (ctypeL ++ crlf))))))
theorem begin_len (p : List UInt8) : (beginL p).length = p.length + 75 := by
  simp [beginL, postL, httpL, hostL, ctypeL, crlf]
theorem begin_ev [MaxL] (p : List UInt8) (hp : p.length ≤ 100) : call cx 43 [.str p] [] = some (.str (beginL p), []) := by
  obtain ⟨s1, es1⟩ : ∃ s, s = postL ++ p := ⟨_, rfl⟩
  have ls1 : s1.length = postL.length + p.length := by rw [es1, List.length_append]
  obtain ⟨s2, es2⟩ : ∃ s, s = s1 ++ httpL := ⟨_, rfl⟩
  have ls2 : s2.length = s1.length + httpL.length := by rw [es2, List.length_append]
  obtain ⟨s3, es3⟩ : ∃ s, s = s2 ++ crlf := ⟨_, rfl⟩
  have ls3 : s3.length = s2.length + crlf.length := by rw [es3, List.length_append]
  obtain ⟨s4, es4⟩ : ∃ s, s = s3 ++ hostL := ⟨_, rfl⟩
  have ls4 : s4.length = s3.length + hostL.length := by rw [es4, List.length_append]
  obtain ⟨s5, es5⟩ : ∃ s, s = s4 ++ crlf := ⟨_, rfl⟩
  have ls5 : s5.length = s4.length + crlf.length := by rw [es5, List.length_append]
  obtain ⟨s6, es6⟩ : ∃ s, s = s5 ++ ctypeL := ⟨_, rfl⟩
  have ls6 : s6.length = s5.length + ctypeL.length := by rw [es6, List.length_append]
  obtain ⟨s7, es7⟩ : ∃ s, s = s6 ++ crlf := ⟨_, rfl⟩
  have ls7 : s7.length = s6.length + crlf.length := by rw [es7, List.length_append]
  simp only [postL, httpL, hostL, ctypeL, crlf, List.length_cons, List.length_nil] at ls1 ls2 ls3 ls4 ls5 ls6 ls7
  have cs1 := cat_of es1 (by (try simp only [postL, List.length_cons, List.length_nil]); omega)
  have cs2 := cat_of es2 (by (try simp only [httpL, List.length_cons, List.length_nil]); omega)
  have cs3 := cat_of es3 (by (try simp only [crlf, List.length_cons, List.length_nil]); omega)
  have cs4 := cat_of es4 (by (try simp only [hostL, List.length_cons, List.length_nil]); omega)
  have cs5 := cat_of es5 (by (try simp only [crlf, List.length_cons, List.length_nil]); omega)
  have cs6 := cat_of es6 (by (try simp only [ctypeL, List.length_cons, List.length_nil]); omega)
  have cs7 := cat_of es7 (by (try simp only [crlf, List.length_cons, List.length_nil]); omega)
  simp only [postL, httpL, hostL, ctypeL, crlf] at cs1 cs2 cs3 cs4 cs5 cs6 cs7
  have hfin : beginL p = s7 := by
    simp [beginL, es7, es6, es5, es4, es3, es2, es1]
  rw [hfin]
  clear hfin es1 es2 es3 es4 es5 es6 es7 ls1 ls2 ls3 ls4 ls5 ls6 ls7 hp
  refine call_run Tryd.func43 rfl ⟨rfl, rfl⟩ ?_
  simp [Tryd.f43, -strD, cs1, cs2, cs3, cs4, cs5, cs6, cs7]
def okStr : List UInt8 := [50, 48, 48, 32, 79, 75]
def badStr : List UInt8 := [52, 48, 48, 32, 66, 97, 100, 32, 82, 101, 113, 117, 101, 115, 116]
def conStr : List UInt8 := [52, 48, 57, 32, 67, 111, 110, 102, 108, 105, 99, 116]
def statusL (n : Int) : List UInt8 := [72, 84, 84, 80, 47, 49, 46, 49, 32] ++ ((if n = 400 then badStr else if n = 409 then conStr else okStr) ++ [13, 10])
theorem status_ev [MaxL] (n : Int) : call cx 45 [.int .i64 n] [] = some (.str (statusL n), []) := by
  refine call_run Tryd.func45 rfl ⟨rfl, rfl⟩ ?_
  unfold statusL
  by_cases h1 : n = 400
  · simp [Tryd.f45, h1, badStr]
  · by_cases h2 : n = 409
    · simp [Tryd.f45, h2, conStr]
    · simp [Tryd.f45, h1, h2, okStr]
def helloL : List UInt8 := [47, 104, 101, 108, 108, 111]
def batchL : List UInt8 := [47, 98, 97, 116, 99, 104]
theorem path_ev [MaxL] (s : List UInt8) : call cx 41 [.str s] [] = some (.bool (s == helloL || s == batchL), []) := by
  refine call_run Tryd.func41 rfl ⟨rfl, rfl⟩ ?_
  have h1 : (s == [47, 104, 101, 108, 108, 111]) = (s == helloL) := rfl
  have h2 : (s == [47, 98, 97, 116, 99, 104]) = (s == batchL) := rfl
  cases h : s == helloL
  · rw [h] at h1
    cases h' : s == batchL <;> rw [h'] at h2 <;> simp [Tryd.f41, h1, h2]
  · rw [h] at h1
    simp [Tryd.f41, h1]
def putRq (r : Rq) : Sl UInt8 := if r.path == helloL || r.path == batchL then putS (beginL r.path) r.epoch.toNat r.number.toNat r.body.l else .none
def putRs (r : Rs) : Sl UInt8 := if r.status = 200 ∨ r.status = 400 ∨ r.status = 409 then putS (statusL r.status) r.epoch.toNat r.number.toNat r.body.l else .none
theorem putrq_ev [MaxL] (r : Rq) (he : isU64 r.epoch) (hn : isU64 r.number) (hp : r.path.length ≤ 100) (hb : r.body.l.length ≤ 100000) : call cx 15 [.agg (Enc.cells r)] [] = some ((.vsl (putRq r).nil (ofBytes (putRq r).l) (putRq r).l.length), []) := by
  have h1 := path_ev r.path
  have h2 := begin_ev r.path hp
  have h3 := put_ev (beginL r.path) (by rw [begin_len]; omega) r.epoch.toNat r.number.toNat (by unfold isU64 at he; omega) (by unfold isU64 at hn; omega) r.body hb
  have e1 : ((r.epoch.toNat : Nat) : Int) = r.epoch := by unfold isU64 at he; omega
  have e2 : ((r.number.toNat : Nat) : Int) = r.number := by unfold isU64 at hn; omega
  rw [e1, e2] at h3
  refine call_run Tryd.func15 rfl ⟨rfl, rfl⟩ ?_
  unfold putRq
  generalize putS (beginL r.path) r.epoch.toNat r.number.toNat r.body.l = x at *
  cases h : (r.path == helloL || r.path == batchL)
  · rw [h] at h1
    simp [Tryd.f15, Rq.cells, h1]
  · rw [h] at h1
    simp [Tryd.f15, Rq.cells, h1, h2, h3]
theorem status_len (n : Int) : (statusL n).length ≤ 30 := by
  unfold statusL
  split
  · decide
  · split <;> decide
theorem putrs_ev [MaxL] (r : Rs) (he : isU64 r.epoch) (hn : isU64 r.number) (hb : r.body.l.length ≤ 100000) : call cx 18 [.agg (Enc.cells r)] [] = some ((.vsl (putRs r).nil (ofBytes (putRs r).l) (putRs r).l.length), []) := by
  have h2 := status_ev r.status
  have h3 := put_ev (statusL r.status) (by have := status_len r.status; omega) r.epoch.toNat r.number.toNat (by unfold isU64 at he; omega) (by unfold isU64 at hn; omega) r.body hb
  have e1 : ((r.epoch.toNat : Nat) : Int) = r.epoch := by unfold isU64 at he; omega
  have e2 : ((r.number.toNat : Nat) : Int) = r.number := by unfold isU64 at hn; omega
  rw [e1, e2] at h3
  refine call_run Tryd.func18 rfl ⟨rfl, rfl⟩ ?_
  unfold putRs
  generalize putS (statusL r.status) r.epoch.toNat r.number.toNat r.body.l = x at *
  by_cases a1 : r.status = 200
  · rw [a1] at h2 h3
    simp [Tryd.f18, Rs.cells, a1, h2, h3]
  · by_cases a2 : r.status = 400
    · rw [a2] at h2 h3
      simp [Tryd.f18, Rs.cells, a2, h2, h3]
    · by_cases a3 : r.status = 409
      · rw [a3] at h2 h3
        simp [Tryd.f18, Rs.cells, a3, h2, h3]
      · simp [Tryd.f18, Rs.cells, a1, a2, a3]
end Go.Ev.S
/- A head's numbers are read. -/
namespace Go.Ev.S
open Go Go.Proofs Go.Ev
theorem cut_len (sep s : List UInt8) : (cutL sep s).1.length ≤ s.length ∧ (cutL sep s).2.1.length ≤ s.length := by
  unfold cutL
  split
  · simp
  · simp
    omega
def trimL (p s : List UInt8) : List UInt8 := if pre p s then s.drop p.length else s
theorem trim_len (p s : List UInt8) : (trimL p s).length ≤ s.length := by
  unfold trimL
  split <;> simp
/-- One line's number, and what stands behind the line. -/
def lineP (line rest : List UInt8) : Option (Nat × List UInt8) := match pu 10 (trimL line (cutL crlf rest).1) with
  | none => none
  | some v => some (v, (cutL crlf rest).2.1)
/-- The numbers of a head that begins so. -/
def numbersP (s b : List UInt8) : Option (Nat × Nat × Nat) := if pre b s then
  match lineP epochL (s.drop b.length) with
  | none => none
  | some (x, r1) => match lineP numberL r1 with
    | none => none
    | some (y, r2) => match lineP lengthL r2 with
      | none => none
      | some (z, _) => if b ++ numsL x y z = s then some (x, y, z) else none
  else none
theorem line_ev [MaxL] (rest line : List UInt8) (hr : rest.length < 100000) (hl : line.length < 100) :
    ∃ a f, call cx 56 [.str rest, .str [13, 10]] [] = some (.tup [.str a, .str (cutL crlf rest).2.1, .bool f], []) ∧ call cx 88 [.str a, .str line] [] = some (.str (trimL line a), []) ∧
      ((∃ v, lineP line rest = some (v, (cutL crlf rest).2.1) ∧ v < 18446744073709551616 ∧ call cx 58 [.str (trimL line a), .int .i64 10, .int .i64 64] [] = some (.tup [.int .u64 (v : Nat), .nili], [])) ∨
      (lineP line rest = none ∧ ∃ (x : Nat) (d : List D), call cx 58 [.str (trimL line a), .int .i64 10, .int .i64 64] [] = some (.tup [.int .u64 x, .iface 137 (.vptr d)], []))) := by
  have h1 := cut_ev rest crlf (by omega) (by decide)
  have hc := cut_len crlf rest
  have h2 := trim_ev (cutL crlf rest).1 line (by omega) (by omega)
  refine ⟨(cutL crlf rest).1, (cutL crlf rest).2.2, h1, h2, ?_⟩
  unfold lineP
  have ht := trim_len line (cutL crlf rest).1
  rcases pu_ev 10 (.inl rfl) (trimL line (cutL crlf rest).1) (by omega) with ⟨v, e1, e2⟩ | ⟨e1, x, d, e2⟩
  · refine .inl ⟨v, by rw [e1], ?_, e2⟩
    unfold pu at e1
    split at e1
    · cases e1
    · exact puGo_lt 10 _ _ _ (by decide) e1
  · exact .inr ⟨by rw [e1], x, d, e2⟩
def numI (r0 : List UInt8) : Nat → Nat → Nat → Nat → List UInt8 → Prop
  | 0, x, y, z, r => x = 0 ∧ y = 0 ∧ z = 0 ∧ r = r0
  | 1, x, y, z, r => lineP epochL r0 = some (x, r) ∧ y = 0 ∧ z = 0
  | 2, x, y, z, r => z = 0 ∧ ∃ r1, lineP epochL r0 = some (x, r1) ∧ lineP numberL r1 = some (y, r)
  | _, x, y, z, r => ∃ r1 r2, lineP epochL r0 = some (x, r1) ∧ lineP numberL r1 = some (y, r2) ∧ lineP lengthL r2 = some (z, r)
set_option maxHeartbeats 2000000 in
theorem numbers_ev [MaxL] (s b : List UInt8) (hs : s.length < 100000) (hb : b.length ≤ 1000) :
    (∃ x y z, numbersP s b = some (x, y, z) ∧ call cx 65 [.str s, .str b] [] = some (.tup [.agg [.int .u64 (x : Nat), .int .u64 (y : Nat), .int .u64 (z : Nat)], .bool true], [])) ∨
    (numbersP s b = none ∧ ∃ x y z : Nat, call cx 65 [.str s, .str b] [] = some (.tup [.agg [.int .u64 x, .int .u64 y, .int .u64 z], .bool false], [])) := by
  suffices h : ∃ r, call cx 65 [.str s, .str b] [] = some r ∧ ((∃ x y z : Nat, numbersP s b = some (x, y, z) ∧ r = (.tup [.agg [.int .u64 x, .int .u64 y, .int .u64 z], .bool true], [])) ∨ (numbersP s b = none ∧ ∃ x y z : Nat, r = (.tup [.agg [.int .u64 x, .int .u64 y, .int .u64 z], .bool false], []))) by
    obtain ⟨r, h1, ⟨x, y, z, h2, rfl⟩ | ⟨h2, x, y, z, rfl⟩⟩ := h
    · exact .inl ⟨x, y, z, h2, h1⟩
    · exact .inr ⟨h2, x, y, z, h1⟩
  refine call_runE (fun r => (∃ x y z : Nat, numbersP s b = some (x, y, z) ∧ r = (D.tup [.agg [.int .u64 x, .int .u64 y, .int .u64 z], .bool true], [])) ∨ (numbersP s b = none ∧ ∃ x y z : Nat, r = (D.tup [.agg [.int .u64 x, .int .u64 y, .int .u64 z], .bool false], []))) Tryd.func65 rfl ⟨rfl, rfl⟩ ?_
  have h0 := cutpre_ev s b (by omega) (by omega)
  cases hp : pre b s with
  | false =>
    rw [hp] at h0
    simp [Tryd.f65, h0, numbersP, hp]
    exact ⟨0, rfl⟩
  | true =>
    rw [hp, if_pos rfl] at h0
    have hN : numbersP s b = match lineP epochL (s.drop b.length) with
        | none => none
        | some (x, r1) => match lineP numberL r1 with
          | none => none
          | some (y, r2) => match lineP lengthL r2 with
            | none => none
            | some (z, _) => if b ++ numsL x y z = s then some (x, y, z) else none := by rw [numbersP, if_pos hp]
    obtain ⟨r0, hr0⟩ : ∃ r, r = s.drop b.length := ⟨_, rfl⟩
    rw [← hr0] at hN h0
    have hr0l : r0.length ≤ s.length := by rw [hr0]; simp
    simp [Tryd.f65, h0]
    refine Run.loopThen (fun (q : Nat × Nat × Nat × Nat × List UInt8) e H' => q.1 ≤ 3 ∧ q.2.2.2.2.length ≤ s.length ∧ q.2.1 < 18446744073709551616 ∧ q.2.2.1 < 18446744073709551616 ∧ q.2.2.2.1 < 18446744073709551616 ∧ numI r0 q.1 q.2.1 q.2.2.1 q.2.2.2.1 q.2.2.2.2 ∧
      H' = [some [.int .u64 0, .int .u64 0, .int .u64 0], some [.int .u64 (q.2.1 : Nat), .int .u64 (q.2.2.1 : Nat), .int .u64 (q.2.2.2.1 : Nat)], some [.str epochL, .str numberL, .str lengthL]] ∧
      look e 0 = some (.str s) ∧ look e 1 = some (.str b) ∧ look e 4 = some (.optr 0 3 0) ∧ look e 6 = some (.optr 1 3 0) ∧ look e 7 = some (.str q.2.2.2.2) ∧ look e 25 = some (.osl 2 3 0 3 1) ∧ look e 26 = some (.int .i64 3) ∧ look e 27 = some (.int .i64 (q.1 : Nat))) (fun q => 3 - q.1) (0, 0, 0, 0, r0) ?_ ?_
    · simp [numI, hr0l, epochL, numberL, lengthL]
    rintro ⟨i, x, y, z, r⟩ e H' ⟨hi, hrl, hx, hy, hz, hI, rfl, k0, k1, k4, k6, k7, k25, k26, k27⟩
    simp only at hi hrl hx hy hz hI k7 k27
    have hcut := cut_len crlf r
    have : i = 0 ∨ i = 1 ∨ i = 2 ∨ i = 3 := by omega
    rcases this with rfl | rfl | rfl | rfl
    · obtain ⟨rfl, rfl, rfl, rfl⟩ := hI
      obtain ⟨a, f, c1, c2, ⟨v, c3, hv, c4⟩ | ⟨c3, xx, d, c4⟩⟩ := line_ev r epochL (by omega) (by decide)
      · simp [k0, k1, k4, k6, k7, k25, k26, k27, c1, c2, c4]
        exact ⟨1, by omega, by omega, v, 0, 0, _, by omega, hv, by omega, by omega, ⟨c3, rfl, rfl⟩, ⟨rfl, rfl, rfl⟩, rfl, rfl⟩
      · rw [c3] at hN
        simp [k0, k1, k4, k6, k7, k25, k26, k27, c1, c2, c4]
        exact ⟨hN, 0, rfl⟩
    · obtain ⟨hI1, rfl, rfl⟩ := hI
      obtain ⟨a, f, c1, c2, ⟨v, c3, hv, c4⟩ | ⟨c3, xx, d, c4⟩⟩ := line_ev r numberL (by omega) (by decide)
      · simp [k0, k1, k4, k6, k7, k25, k26, k27, c1, c2, c4]
        exact ⟨2, by omega, by omega, x, v, 0, _, by omega, hx, hv, by omega, ⟨rfl, _, hI1, c3⟩, ⟨rfl, rfl, rfl⟩, rfl, rfl⟩
      · rw [hI1] at hN
        simp only [c3] at hN
        simp [k0, k1, k4, k6, k7, k25, k26, k27, c1, c2, c4]
        exact ⟨hN, ⟨x, rfl⟩, 0, rfl⟩
    · obtain ⟨rfl, r1, hI1, hI2⟩ := hI
      obtain ⟨a, f, c1, c2, ⟨v, c3, hv, c4⟩ | ⟨c3, xx, d, c4⟩⟩ := line_ev r lengthL (by omega) (by decide)
      · simp [k0, k1, k4, k6, k7, k25, k26, k27, c1, c2, c4]
        exact ⟨3, by omega, by omega, x, y, v, _, by omega, hx, hy, hv, ⟨_, _, hI1, hI2, c3⟩, ⟨rfl, rfl, rfl⟩, rfl, rfl⟩
      · rw [hI1] at hN
        simp only [hI2, c3] at hN
        simp [k0, k1, k4, k6, k7, k25, k26, k27, c1, c2, c4]
        exact ⟨hN, ⟨x, rfl⟩, ⟨y, rfl⟩, 0, rfl⟩
    · obtain ⟨r1, r2, hI1, hI2, hI3⟩ := hI
      rw [hI1] at hN
      simp only [hI2, hI3] at hN
      have hh := head_ev b hb x y z hx hy hz
      by_cases he : b ++ numsL x y z = s
      · rw [if_pos he] at hN
        rw [he] at hh
        simp [k0, k1, k4, k6, k7, k25, k26, k27, hh]
        exact ⟨x, y, z, hN, rfl, rfl, rfl⟩
      · rw [if_neg he] at hN
        have he' : (b ++ numsL x y z == s) = false := by simpa using he
        generalize b ++ numsL x y z = w at *
        simp [k0, k1, k4, k6, k7, k25, k26, k27, hh, he']
        exact ⟨hN, ⟨x, rfl⟩, ⟨y, rfl⟩, z, rfl⟩
end Go.Ev.S
/- Messages are read. -/
namespace Go.Ev.S
open Go Go.Proofs Go.Ev
theorem cloneb_ev [MaxL] (x : Sl UInt8) (hx : x.l.length ≤ 100000) : call cx 66 [(.vsl x.nil (ofBytes x.l) x.l.length)] [] = some (.vsl x.nil (ofBytes x.l) x.l.length, []) := by
  have hm : x.l.length ≤ maxBytes := by unfold maxBytes; omega
  refine call_run Tryd.func66 rfl ⟨rfl, rfl⟩ ?_
  obtain ⟨n, l, h⟩ := x
  cases n with
  | true =>
    have := h rfl
    subst this
    simp [Tryd.f66]
  | false =>
    simp at hm
    simp [Tryd.f66, hm]
def stopL : List UInt8 := [13, 10, 13, 10]
/-- What a head and a body are, as messages that begin so. -/
def readB (s : List UInt8) (body : List UInt8) : List (List UInt8) → Nat → Msg × Int
  | [], _ => (.zero, 20)
  | b :: l, k => match numbersP s b with
    | none => readB s body l (k + 1)
    | some (x, y, z) => if 65536 < z then (.zero, 21) else if body.length < z then (.zero, 22) else if z < body.length then (.zero, 21) else (⟨k, x, y, .of body⟩, 0)
def readP (b : List UInt8) (l : List (List UInt8)) : Msg × Int := if idxN stopL b 0 = -1 then (.zero, 22) else readB (b.take ((idxN stopL b 0).toNat + 4)) (b.drop ((idxN stopL b 0).toNat + 4)) l 0
theorem bidx_ev [MaxL] (b : Sl UInt8) (hb : b.l.length ≤ 100000) : call cx 64 [(.vsl b.nil (ofBytes b.l) b.l.length), .vsl false [.int .u8 13, .int .u8 10, .int .u8 13, .int .u8 10] 4] [] = some (.int .i64 (idxN stopL b.l 0), []) := by
  refine call_con ?_
  have e : [D.int .u8 13, .int .u8 10, .int .u8 13, .int .u8 10] = ofBytes stopL := rfl
  rw [co64, e]
  simp only [conBIdx, bytesR_of]
  rw [if_pos ⟨trivial, rfl, by decide, by omega, by decide⟩]
structure StrE where
  s : List UInt8
instance : Enc StrE := ⟨1, fun p => [.str p.s], fun _ => rfl, fun _ => rfl⟩
set_option maxHeartbeats 2000000 in
theorem read_ev [MaxL] (b : Sl UInt8) (hb : b.l.length ≤ 90000) (l : List (List UInt8)) (hl : l.length ≤ 3) (hl2 : ∀ x ∈ l, x.length ≤ 1000) :
    call cx 44 [(.vsl b.nil (ofBytes b.l) b.l.length), .vsl false (l.map D.str) l.length] [] = some (.tup [.agg (Enc.cells (readP b.l l).1), .int .i64 (readP b.l l).2], []) := by
  have hi := bidx_ev b (by omega)
  refine call_run Tryd.func44 rfl ⟨rfl, rfl⟩ ?_
  unfold readP
  rcases idx_cases stopL b.l 0 with ⟨i, h1, h2, -⟩ | h1
  · rw [h1] at hi
    rw [h1, if_neg (by omega)]
    have e0 : ((0 + i : Nat) : Int).toNat = i := by omega
    rw [e0]
    have h2' : i + 4 ≤ b.l.length := h2
    rw [Nat.zero_add] at hi
    have hi0 : ¬ (i : Int) < 0 := by omega
    obtain ⟨j, hj⟩ : ∃ j, j = i + 4 := ⟨_, rfl⟩
    have hw : IntKind.i64.wrap ((i : Int) + 4) = (j : Int) := by rw [wrap_i64] <;> omega
    have g1 : (j : Int) ≤ (b.l.length : Int) := by omega
    have g2 : j ≤ b.l.length := by omega
    rw [← hj]
    have t1 : List.take j (ofBytes b.l) = ofBytes (b.l.take j) := ofBytes_take _ _
    have t2 : List.drop j (ofBytes b.l) = ofBytes (b.l.drop j) := ofBytes_drop _ _
    have hsl : (b.l.take j).length = j := by rw [List.length_take]; omega
    have hbl : (b.l.drop j).length = b.l.length - j := List.length_drop ..
    have hbn : b.nil = false := by
      cases hn : b.nil with
      | false => rfl
      | true => have := b.h hn; rw [this] at g2; simp at g2; omega
    generalize b.l.take j = s at *
    generalize hbd : b.l.drop j = body at *
    have hbl2 : body.length ≤ 90000 := by omega
    have t3 : List.take (b.l.length - j) (ofBytes body) = ofBytes body := List.take_of_length_le (by simp; omega)
    rw [hbn] at hi
    simp [Tryd.f44, hi, hi0, hw, g1, t1, t2, t3, hbn, hsl]
    generalize b.l.length - j = bl at *
    have wb : IntKind.u64.wrap (bl : Int) = (bl : Int) := by rw [wrap_u64]; omega
    have ex : ∀ k x, l[k]? = some x → (l.map D.str).drop k = .str x :: (l.map D.str).drop (k + 1) := fun k x hk => by
      have hlt : k < l.length := (List.getElem?_eq_some_iff.1 hk).1
      rw [List.drop_eq_getElem_cons (by simpa using hlt)]
      congr 1
      rw [List.getElem?_eq_getElem hlt] at hk
      simp [Option.some.inj hk]
    refine Run.loopThen (fun (k : Nat) e H' => k ≤ l.length ∧ readB s body (l.drop k) k = readB s body l 0 ∧
      ((H' = [some [.int .i64 0, .int .u64 0, .int .u64 0, .vsl true [] 0], some [.int .u8 13, .int .u8 10, .int .u8 13, .int .u8 10]]) ∨ ∃ w, H' = [some [.int .i64 0, .int .u64 0, .int .u64 0, .vsl true [] 0], some [.int .u8 13, .int .u8 10, .int .u8 13, .int .u8 10], w]) ∧
      look e 4 = some (.optr 0 4 0) ∧ look e 8 = some (.str s) ∧ look e 9 = some (.vsl false (ofBytes body) bl) ∧ look e 35 = some (.vsl false (l.map D.str) l.length) ∧ look e 36 = some (.int .i64 l.length) ∧ look e 37 = some (.int .i64 k)) (fun k => l.length - k) 0 ?_ ?_
    · simp
    rintro k e H' ⟨hk, hr, hH, k4, k8, k9, k35, k36, k37⟩
    by_cases hlt : k < l.length
    · have hlt' : (k : Int) < (l.length : Int) := by omega
      have hx := ex k l[k] (List.getElem?_eq_getElem hlt)
      have hw2 : IntKind.i64.wrap ((k : Int) + 1) = ((k + 1 : Nat) : Int) := by rw [wrap_i64] <;> omega
      rw [List.drop_eq_getElem_cons hlt, readB] at hr
      have hcl := cloneb_ev (.of body) (by simp; omega)
      simp at hcl
      rw [hbl] at hcl
      rcases numbers_ev s l[k] (by omega) (hl2 _ (List.getElem_mem hlt)) with ⟨x, y, z, n1, n2⟩ | ⟨n1, x, y, z, n2⟩
      · rw [n1] at hr
        simp only at hr
        rw [← hr, hbl]
        by_cases z1 : 65536 < z
        · have z1' : (65536 : Int) < (z : Int) := by omega
          rcases hH with rfl | ⟨w, rfl⟩ <;> simp [k4, k8, k9, k35, k36, k37, hlt', hx, n2, z1, z1']
          · rfl
          · rfl
        · have z1' : ¬ (65536 : Int) < (z : Int) := by omega
          by_cases z2 : bl < z
          · have z2' : (bl : Int) < (z : Int) := by omega
            rcases hH with rfl | ⟨w, rfl⟩ <;> simp [k4, k8, k9, k35, k36, k37, hlt', hx, n2, z1, z1', z2, z2', wb]
            · rfl
            · rfl
          · have z2' : ¬ (bl : Int) < (z : Int) := by omega
            by_cases z3 : z < bl
            · have z3' : (z : Int) < (bl : Int) := by omega
              rcases hH with rfl | ⟨w, rfl⟩ <;> simp [k4, k8, k9, k35, k36, k37, hlt', hx, n2, z1, z1', z2, z2', z3, z3', wb]
              · rfl
              · rfl
            · have z3' : ¬ (z : Int) < (bl : Int) := by omega
              rcases hH with rfl | ⟨w, rfl⟩ <;> simp [k4, k8, k9, k35, k36, k37, hlt', hx, n2, z1, z1', z2, z2', z3, z3', wb, hcl]
              · simp [Msg.cells, hbl]
              · simp [Msg.cells, hbl]
      · rw [n1] at hr
        simp only at hr
        rcases hH with rfl | ⟨w, rfl⟩ <;> simp [k4, k8, k9, k35, k36, k37, hlt', hx, n2, hw2]
        · exact ⟨k + 1, by omega, by omega, hr, by simp⟩
        · exact ⟨k + 1, by omega, by omega, hr, by simp⟩
    · have hlt' : ¬ (k : Int) < (l.length : Int) := by omega
      rw [List.drop_eq_nil_of_le (by omega), readB] at hr
      rw [← hr]
      rcases hH with rfl | ⟨w, rfl⟩ <;> simp [k4, k8, k9, k35, k36, k37, hlt']
      · rfl
      · rfl
  · rw [h1] at hi
    simp [Tryd.f44, hi, h1, Msg.cells, Msg.zero]
end Go.Ev.S
/- Requests and responses are read. -/
namespace Go.Ev.S
open Go Go.Proofs Go.Ev
theorem readB_kind (s body : List UInt8) : ∀ (l : List (List UInt8)) (k : Nat), (readB s body l k).2 = 0 → ∃ i x y z b, i < l.length ∧ l[i]? = some b ∧ numbersP s b = some (x, y, z) ∧ z = body.length ∧ body.length ≤ 65536 ∧ readB s body l k = (⟨((k + i : Nat) : Int), x, y, .of body⟩, 0)
  | [], k, h => by simp [readB] at h
  | b :: l, k, h => by
    unfold readB at h ⊢
    cases hn : numbersP s b with
    | none =>
      rw [hn] at h
      obtain ⟨i, x, y, z, b', h1, h2, h3, h4, h5, h6⟩ := readB_kind s body l (k + 1) h
      exact ⟨i + 1, x, y, z, b', by simp; omega, by simpa using h2, h3, h4, h5, by simp only; rw [h6]; congr 2; congr 1; omega⟩
    | some v =>
      obtain ⟨x, y, z⟩ := v
      rw [hn] at h
      simp only at h ⊢
      by_cases h1 : 65536 < z
      · rw [if_pos h1] at h; simp at h
      · rw [if_neg h1] at h ⊢
        by_cases h2 : body.length < z
        · rw [if_pos h2] at h; simp at h
        · rw [if_neg h2] at h ⊢
          by_cases h3 : z < body.length
          · rw [if_pos h3] at h; simp at h
          · rw [if_neg h3] at h ⊢
            exact ⟨0, x, y, z, b, by simp, by simp, hn, by omega, by omega, by simp⟩
theorem readP_kind {b : List UInt8} {l : List (List UInt8)} (h : (readP b l).2 = 0) : ∃ i x y, i < l.length ∧ readP b l = (⟨(i : Int), x, y, (readP b l).1.body⟩, 0) ∧ (readP b l).1.epoch = x ∧ (readP b l).1.number = y := by
  unfold readP at h ⊢
  split at h
  · simp at h
  · rename_i hh
    rw [if_neg hh]
    obtain ⟨i, x, y, z, b', h1, h2, h3, h4, h5, h6⟩ := readB_kind _ _ l 0 h
    rw [h6, Nat.zero_add]
    exact ⟨i, x, y, h1, rfl, rfl, rfl⟩
def pathOf (k : Int) : List UInt8 := if k = 0 then helloL else batchL
def statOf (k : Int) : Int := if k = 0 then 200 else if k = 1 then 400 else 409
def rqL : List (List UInt8) := [beginL helloL, beginL batchL]
def rsL : List (List UInt8) := [statusL 200, statusL 400, statusL 409]
def rdRq (b : List UInt8) : Rq × Int := if (readP b rqL).2 = 0 then (⟨pathOf (readP b rqL).1.kind, (readP b rqL).1.epoch, (readP b rqL).1.number, (readP b rqL).1.body⟩, 0) else (⟨[], 0, 0, .none⟩, (readP b rqL).2)
def rdRs (b : List UInt8) : Rs × Int := if (readP b rsL).2 = 0 then (⟨statOf (readP b rsL).1.kind, (readP b rsL).1.epoch, (readP b rsL).1.number, (readP b rsL).1.body⟩, 0) else (⟨0, 0, 0, .none⟩, (readP b rsL).2)
theorem rdrq_ev [MaxL] (b : Sl UInt8) (hb : b.l.length ≤ 90000) : call cx 17 [(.vsl b.nil (ofBytes b.l) b.l.length)] [] = some (.tup [.agg (Enc.cells (rdRq b.l).1), .int .i64 (rdRq b.l).2], []) := by
  have h := read_ev b hb rqL (by decide) (by decide)
  have h1 := begin_ev helloL (by decide)
  have h2 := begin_ev batchL (by decide)
  refine call_run Tryd.func17 rfl ⟨rfl, rfl⟩ ?_
  unfold rdRq
  have e1 : List.map D.str rqL = [.str (beginL helloL), .str (beginL batchL)] := rfl
  have e2 : rqL.length = 2 := rfl
  have p1 : [47, 104, 101, 108, 108, 111] = helloL := rfl
  have p2 : [47, 98, 97, 116, 99, 104] = batchL := rfl
  rw [e1, e2] at h
  generalize hm : readP b.l rqL = m at *
  by_cases hz : m.2 = 0
  · obtain ⟨i, x, y, hi, hr, q1, q2⟩ := readP_kind (b := b.l) (l := rqL) (by rw [hm]; exact hz)
    rw [hm] at hr q1 q2
    obtain ⟨⟨k, x', y', bd⟩, c⟩ := m
    simp only [Prod.mk.injEq, Msg.mk.injEq] at hr hz q1 q2
    obtain ⟨⟨rfl, rfl, rfl, -⟩, rfl⟩ := hr
    have : i = 0 ∨ i = 1 := by rw [e2] at hi; omega
    simp [Msg.cells] at h
    rcases this with rfl | rfl
    · simp [Tryd.f17, p1, p2, h1, h2, h, pathOf, Rq.cells]
    · simp [Tryd.f17, p1, p2, h1, h2, h, pathOf, Rq.cells]
  · simp [Tryd.f17, p1, p2, h1, h2, h, hz, Rq.cells]
theorem rdrs_ev [MaxL] (b : Sl UInt8) (hb : b.l.length ≤ 90000) : call cx 24 [(.vsl b.nil (ofBytes b.l) b.l.length)] [] = some (.tup [.agg (Enc.cells (rdRs b.l).1), .int .i64 (rdRs b.l).2], []) := by
  have h := read_ev b hb rsL (by decide) (by decide)
  have h1 := status_ev 200
  have h2 := status_ev 400
  have h3 := status_ev 409
  refine call_run Tryd.func24 rfl ⟨rfl, rfl⟩ ?_
  unfold rdRs
  have e1 : List.map D.str rsL = [.str (statusL 200), .str (statusL 400), .str (statusL 409)] := rfl
  have e2 : rsL.length = 3 := rfl
  rw [e1, e2] at h
  generalize hm : readP b.l rsL = m at *
  by_cases hz : m.2 = 0
  · obtain ⟨i, x, y, hi, hr, q1, q2⟩ := readP_kind (b := b.l) (l := rsL) (by rw [hm]; exact hz)
    rw [hm] at hr q1 q2
    obtain ⟨⟨k, x', y', bd⟩, c⟩ := m
    simp only [Prod.mk.injEq, Msg.mk.injEq] at hr hz q1 q2
    obtain ⟨⟨rfl, rfl, rfl, -⟩, rfl⟩ := hr
    have : i = 0 ∨ i = 1 ∨ i = 2 := by rw [e2] at hi; omega
    simp [Msg.cells] at h
    rcases this with rfl | rfl | rfl
    · simp [Tryd.f24, h1, h2, h3, h, statOf, Rs.cells]
    · simp [Tryd.f24, h1, h2, h3, h, statOf, Rs.cells]
    · simp [Tryd.f24, h1, h2, h3, h, statOf, Rs.cells]
  · simp [Tryd.f24, h1, h2, h3, h, hz, Rs.cells]
end Go.Ev.S
/- Plain laws on heads. -/
namespace Go.Ev.S
open Go Go.Proofs Go.Ev
theorem dval_dig {k : Nat} (h : k < 10) : dval (UInt8.ofNat (48 + k)) = some k := by
  have e : (UInt8.ofNat (48 + k)).toNat = 48 + k := UInt8.toNat_ofNat_of_lt' (show 48 + k < 256 by omega)
  unfold dval
  rw [if_pos (by rw [e]; omega), e]
  congr 1
  omega
theorem puGo_append (b : Nat) : ∀ (l r : List UInt8) (n : Nat), puGo b (l ++ r) n = match puGo b l n with
    | none => none
    | some m => puGo b r m
  | [], r, n => by simp [puGo]
  | c :: l, r, n => by
    simp only [List.cons_append, puGo]
    cases dval c with
    | none => rfl
    | some d =>
      simp only
      split
      · rfl
      · split
        · rfl
        · exact puGo_append b l r _
theorem puGo_decF : ∀ (f v : Nat), v < 10 ^ f → 1 ≤ f → v < 18446744073709551616 → puGo 10 (decF f v) 0 = some v
  | f + 1, v, h, _, h64 => by
    rw [decF]
    by_cases hv : v < 10
    · rw [if_pos hv]
      simp only [puGo, dval_dig hv]
      rw [if_neg (by omega), if_neg (by omega)]
      congr 1
      omega
    · rw [if_neg hv, puGo_append]
      have hf : 1 ≤ f := by
        rcases f with _ | f
        · simp at h; omega
        · omega
      rw [puGo_decF f (v / 10) (by rw [Nat.pow_succ] at h; omega) hf (by omega)]
      simp only [puGo, dval_dig (Nat.mod_lt v (by decide : 10 > 0))]
      rw [if_neg (by omega), if_neg (by omega)]
      congr 1
      omega
theorem pu_dec {v : Nat} (h : v < 18446744073709551616) : pu 10 (dec v) = some v := by
  have hp := dec_pos v
  unfold pu
  rw [if_neg (by intro e; rw [e] at hp; simp at hp)]
  exact puGo_decF 20 v (Nat.lt_trans h (by decide)) (by decide) h
theorem decF_ne : ∀ (f v : Nat), ∀ x ∈ decF f v, x ≠ 13
  | 0, _ => by simp [decF]
  | f + 1, v => by
    have key : ∀ k, k < 10 → UInt8.ofNat (48 + k) ≠ 13 := fun k hk e => by
      have := congrArg UInt8.toNat e
      rw [UInt8.toNat_ofNat_of_lt' (show 48 + k < 256 by omega)] at this
      simp at this
      omega
    rw [decF]
    split
    · intro x hx
      rw [List.mem_singleton.1 hx]
      exact key v (by assumption)
    · intro x hx
      rcases List.mem_append.1 hx with h | h
      · exact decF_ne f _ x h
      · rw [List.mem_singleton.1 h]
        exact key _ (Nat.mod_lt _ (by decide))
theorem dec_ne (v : Nat) : ∀ x ∈ dec v, x ≠ 13 := decF_ne 20 v
theorem idx_skip {sep : List UInt8} {a : UInt8} (hs : sep.head? = some a) : ∀ (A B : List UInt8) (n : Nat), (∀ x ∈ A, x ≠ a) → idxN sep (A ++ B) n = idxN sep B (n + A.length)
  | [], B, n, _ => by simp
  | x :: A, B, n, h => by
    have hx : x ≠ a := h x (by simp)
    obtain ⟨sep', rfl⟩ : ∃ l, sep = a :: l := by
      cases sep with
      | nil => simp at hs
      | cons y l => simp at hs; subst hs; exact ⟨l, rfl⟩
    rw [List.cons_append, idxN]
    have : ((a :: sep').isPrefixOf (x :: (A ++ B))) = false := by
      simp only [List.isPrefixOf, Bool.and_eq_false_iff]
      left
      simpa using Ne.symm hx
    rw [this, if_neg (by decide), idx_skip hs A B (n + 1) fun y hy => h y (by simp [hy])]
    congr 1
    simp
    omega
theorem idx_hit (sep B : List UInt8) (n : Nat) (h : sep ≠ []) : idxN sep (sep ++ B) n = (n : Int) := by
  have hp : sep.isPrefixOf (sep ++ B) = true := by simp
  cases sep with
  | nil => exact absurd rfl h
  | cons a l => rw [List.cons_append, idxN, ← List.cons_append, if_pos hp]
theorem idx_crlf (c : UInt8) (B : List UInt8) (n : Nat) (h : c ≠ 13) : idxN stopL (crlf ++ (c :: B)) n = idxN stopL (c :: B) (n + 2) := by
  have hc : (13 == c) = false := by simpa using Ne.symm h
  show idxN stopL (13 :: 10 :: c :: B) n = _
  rw [idxN, if_neg (by simp [stopL, List.isPrefixOf, hc]), idxN, if_neg (by simp [stopL, List.isPrefixOf])]
theorem cut_crlf (A B : List UInt8) (h : ∀ x ∈ A, x ≠ 13) : cutL crlf (A ++ (crlf ++ B)) = (A, B, true) := by
  have hi : idxN crlf (A ++ (crlf ++ B)) 0 = (A.length : Int) := by
    rw [idx_skip (a := 13) rfl A _ 0 h, Nat.zero_add]
    exact idx_hit crlf B _ (by decide)
  unfold cutL
  rw [hi, if_neg (by omega)]
  have e : ((A.length : Nat) : Int).toNat = A.length := by omega
  rw [e]
  have e2 : List.drop (A.length + crlf.length) (A ++ (crlf ++ B)) = B := by
    rw [← List.append_assoc, ← List.length_append]
    exact List.drop_left
  rw [e2, List.take_left]
theorem trim_pre (p s : List UInt8) : trimL p (p ++ s) = s := by
  unfold trimL pre
  simp
theorem line_dec (line : List UInt8) (hl : ∀ x ∈ line, x ≠ 13) {D : List UInt8} (hD : ∀ x ∈ D, x ≠ 13) (B : List UInt8) : lineP line (line ++ (D ++ (crlf ++ B))) = match pu 10 D with
    | none => none
    | some v => some (v, B) := by
  unfold lineP
  rw [← List.append_assoc, cut_crlf (line ++ D) B (fun x hx => by
    rcases List.mem_append.1 hx with h | h
    · exact hl x h
    · exact hD x h)]
  simp only [trim_pre] <;> cases pu 10 D <;> rfl
/-- The lines of numbers, the last one as any digits. -/
def numsD (e n : Nat) (D : List UInt8) : List UInt8 := epochL ++ (dec e ++ (crlf ++ (numberL ++ (dec n ++ (crlf ++ (lengthL ++ (D ++ (crlf ++ crlf))))))))
theorem numsD_dec (e n l : Nat) : numsD e n (dec l) = numsL e n l := rfl
theorem numbers_D (b : List UInt8) (e n : Nat) (he : e < 18446744073709551616) (hn : n < 18446744073709551616) (D : List UInt8) (hD : ∀ x ∈ D, x ≠ 13) :
    numbersP (b ++ numsD e n D) b = match pu 10 D with
      | none => none
      | some v => if dec v = D then some (e, n, v) else none := by
  have hpre : pre b (b ++ numsD e n D) = true := by unfold pre; simp
  have e1 : lineP epochL (numsD e n D) = some (e, numberL ++ (dec n ++ (crlf ++ (lengthL ++ (D ++ (crlf ++ crlf)))))) := by
    unfold numsD
    rw [line_dec epochL (by decide) (dec_ne e), pu_dec he]
  have e2 : lineP numberL (numberL ++ (dec n ++ (crlf ++ (lengthL ++ (D ++ (crlf ++ crlf)))))) = some (n, lengthL ++ (D ++ (crlf ++ crlf))) := by
    rw [line_dec numberL (by decide) (dec_ne n), pu_dec hn]
  have e3 : lineP lengthL (lengthL ++ (D ++ (crlf ++ crlf))) = match pu 10 D with
      | none => none
      | some v => some (v, crlf) := line_dec lengthL (by decide) hD crlf
  rw [numbersP, if_pos hpre, List.drop_left, e1]
  simp only [e2, e3]
  cases hp : pu 10 D with
  | none => rfl
  | some v =>
    simp only
    have : (b ++ numsL e n v = b ++ numsD e n D) ↔ dec v = D := by
      rw [← numsD_dec]
      unfold numsD
      simp
    simp [this]
theorem numbers_nums (b : List UInt8) (e n l : Nat) (he : e < 18446744073709551616) (hn : n < 18446744073709551616) (hl : l < 18446744073709551616) : numbersP (b ++ numsL e n l) b = some (e, n, l) := by
  rw [← numsD_dec, numbers_D b e n he hn (dec l) (dec_ne l), pu_dec hl]
  simp
theorem numbers_pre {s b : List UInt8} (h : pre b s = false) : numbersP s b = none := by
  rw [numbersP, h, if_neg (by decide)]
theorem numbers_inv {s b : List UInt8} {x y z : Nat} (h : numbersP s b = some (x, y, z)) : s = b ++ numsL x y z := by
  unfold numbersP at h
  split at h
  · split at h
    · cases h
    · split at h
      · cases h
      · split at h
        · cases h
        · split at h
          · rename_i he
            injection h with h
            injection h with h1 h
            injection h with h2 h3
            subst h1; subst h2; subst h3
            exact he.symm
          · cases h
  · cases h
/-- Where a head ends: behind its beginning and the lines of numbers. -/
theorem idx_nums (e n : Nat) (D : List UInt8) (hD : ∀ x ∈ D, x ≠ 13) (body : List UInt8) (k : Nat) : idxN stopL (numsD e n D ++ body) k = ((k + (numsD e n D).length - 4 : Nat) : Int) := by
  unfold numsD
  simp only [List.append_assoc]
  rw [idx_skip (a := 13) rfl epochL _ _ (by decide), idx_skip (a := 13) rfl (dec e) _ _ (dec_ne e)]
  show idxN stopL (crlf ++ (88 :: ([45, 78, 117, 109, 98, 101, 114, 58, 32] ++ (dec n ++ (crlf ++ (lengthL ++ (D ++ (crlf ++ (crlf ++ body))))))))) _ = _
  rw [idx_crlf 88 _ _ (by decide)]
  show idxN stopL (numberL ++ (dec n ++ (crlf ++ (lengthL ++ (D ++ (crlf ++ (crlf ++ body))))))) _ = _
  rw [idx_skip (a := 13) rfl numberL _ _ (by decide), idx_skip (a := 13) rfl (dec n) _ _ (dec_ne n)]
  show idxN stopL (crlf ++ (67 :: ([111, 110, 116, 101, 110, 116, 45, 76, 101, 110, 103, 116, 104, 58, 32] ++ (D ++ (crlf ++ (crlf ++ body)))))) _ = _
  rw [idx_crlf 67 _ _ (by decide)]
  show idxN stopL (lengthL ++ (D ++ (crlf ++ (crlf ++ body)))) _ = _
  rw [idx_skip (a := 13) rfl lengthL _ _ (by decide), idx_skip (a := 13) rfl D _ _ hD]
  show idxN stopL (stopL ++ body) _ = _
  rw [idx_hit stopL body _ (by decide)]
  congr 1
  simp only [List.length_append, crlf, List.length_cons, List.length_nil]
  omega
/-- What a head begins with, and how it ends. -/
def Beg (b : List UInt8) : Prop := ∀ (R : List UInt8) (k : Nat), idxN stopL (b ++ (88 :: R)) k = idxN stopL (88 :: R) (k + b.length)
theorem beg_begin (p : List UInt8) (hp : ∀ x ∈ p, x ≠ 13) : Beg (beginL p) := by
  intro R k
  unfold beginL
  simp only [List.append_assoc]
  rw [idx_skip (a := 13) rfl postL _ _ (by decide), idx_skip (a := 13) rfl p _ _ hp, idx_skip (a := 13) rfl httpL _ _ (by decide)]
  show idxN stopL (crlf ++ (72 :: ([111, 115, 116, 58, 32, 114, 101, 99, 101, 105, 118, 101, 114] ++ (crlf ++ (ctypeL ++ (crlf ++ (88 :: R))))))) _ = _
  rw [idx_crlf 72 _ _ (by decide)]
  show idxN stopL (hostL ++ (crlf ++ (ctypeL ++ (crlf ++ (88 :: R))))) _ = _
  rw [idx_skip (a := 13) rfl hostL _ _ (by decide)]
  show idxN stopL (crlf ++ (67 :: ([111, 110, 116, 101, 110, 116, 45, 84, 121, 112, 101, 58, 32, 97, 112, 112, 108, 105, 99, 97, 116, 105, 111, 110, 47, 118, 110, 100, 46, 102, 100, 111, 46, 106, 111, 117, 114, 110, 97, 108] ++ (crlf ++ (88 :: R))))) _ = _
  rw [idx_crlf 67 _ _ (by decide)]
  show idxN stopL (ctypeL ++ (crlf ++ (88 :: R))) _ = _
  rw [idx_skip (a := 13) rfl ctypeL _ _ (by decide), idx_crlf 88 _ _ (by decide)]
  congr 1
  simp only [List.length_append, crlf, hostL, ctypeL, List.length_cons, List.length_nil]
  omega
theorem beg_status (n : Int) : Beg (statusL n) := by
  intro R k
  unfold statusL
  have h : ∀ x ∈ (if n = 400 then badStr else if n = 409 then conStr else okStr), x ≠ 13 := by
    split
    · decide
    · split <;> decide
  generalize (if n = 400 then badStr else if n = 409 then conStr else okStr) = w at *
  simp only [List.append_assoc]
  rw [idx_skip (a := 13) rfl [72, 84, 84, 80, 47, 49, 46, 49, 32] _ _ (by decide), idx_skip (a := 13) rfl w _ _ h]
  show idxN stopL (crlf ++ (88 :: R)) _ = _
  rw [idx_crlf 88 _ _ (by decide)]
  congr 1
  simp only [List.length_append, List.length_cons, List.length_nil]
  omega
theorem idx_head {b : List UInt8} (hb : Beg b) (e n : Nat) (D : List UInt8) (hD : ∀ x ∈ D, x ≠ 13) (body : List UInt8) : idxN stopL (b ++ (numsD e n D ++ body)) 0 = ((b.length + (numsD e n D).length - 4 : Nat) : Int) := by
  have h := hb ((numsD e n D ++ body).tail) 0
  have e1 : 88 :: (numsD e n D ++ body).tail = numsD e n D ++ body := by
    unfold numsD epochL
    rfl
  rw [e1, Nat.zero_add] at h
  rw [h, idx_nums e n D hD body]
theorem numsD_len (e n : Nat) (D : List UInt8) : 4 ≤ (numsD e n D).length := by
  simp only [numsD, List.length_append, epochL, List.length_cons, List.length_nil]
  omega
/-- What is read of a head and a body. -/
theorem readP_head {b : List UInt8} (hb : Beg b) (e n : Nat) (D : List UInt8) (hD : ∀ x ∈ D, x ≠ 13) (body : List UInt8) (l : List (List UInt8)) : readP (b ++ (numsD e n D ++ body)) l = readB (b ++ numsD e n D) body l 0 := by
  have hi := idx_head hb e n D hD body
  have h4 := numsD_len e n D
  unfold readP
  rw [hi, if_neg (by omega)]
  have e1 : ((b.length + (numsD e n D).length - 4 : Nat) : Int).toNat + 4 = (b ++ numsD e n D).length := by
    rw [List.length_append]
    omega
  rw [e1, ← List.append_assoc, List.take_left, List.drop_left]
end Go.Ev.S
/- Small numbers. -/
namespace Go.Ev.S
open Go Go.Proofs Go.Ev
theorem number_ev [MaxL] (n b : Int) : call cx 13 [.int .i64 n, .int .i64 b] [] = some (.int .i64 (if b < 1 then 0 else (IntKind.i64.wrap (n.tmod b + b)).tmod b), []) := by
  refine call_run Tryd.func13 rfl ⟨rfl, rfl⟩ ?_
  by_cases h1 : b < 1
  · simp [Tryd.f13, h1]
  · have h2 : b ≠ 0 := by omega
    simp [Tryd.f13, h1, h2]
/-- A number below b. -/
theorem num_ev [MaxL] (n : Int) (b : Nat) (hb : 1 ≤ b) (hb2 : b ≤ 1000000) : ∃ x : Nat, x < b ∧ call cx 13 [.int .i64 n, .int .i64 b] [] = some (.int .i64 x, []) := by
  have h1 : n.tmod b < b := Int.tmod_lt_of_pos _ (by omega)
  have h2 : -(b : Int) < n.tmod b := by
    have := Int.tmod_lt_of_pos (-n) (show (0 : Int) < b by omega)
    rw [Int.neg_tmod] at this
    omega
  have h := number_ev n b
  rw [if_neg (by omega)] at h
  generalize n.tmod b = x at *
  have hw : IntKind.i64.wrap (x + b) = x + b := by rw [wrap_i64]; omega
  rw [hw] at h
  have h3 : 0 ≤ x + b := by omega
  have h4 := Int.tmod_nonneg (b : Int) h3
  have h5 := Int.tmod_lt_of_pos (x + b) (show (0 : Int) < b by omega)
  refine ⟨((x + b).tmod b).toNat, by omega, ?_⟩
  rw [h]
  congr 3
  omega
end Go.Ev.S
/- What the statements on requests call. -/
namespace Go.Ev.S
open Go Go.Proofs Go.Ev
theorem lpath_ev [MaxL] (n : Int) : ∃ p, (p = helloL ∨ p = batchL) ∧ call cx 16 [.int .i64 n] [] = some (.str p, []) := by
  obtain ⟨k, hk, hn⟩ := num_ev n 2 (by omega) (by omega)
  replace hn : call cx 13 [.int .i64 n, .int .i64 2] [] = some (.int .i64 k, []) := hn
  have : k = 0 ∨ k = 1 := by omega
  rcases this with rfl | rfl
  · refine ⟨helloL, .inl rfl, ?_⟩
    refine call_run Tryd.func16 rfl ⟨rfl, rfl⟩ ?_
    simp [Tryd.f16, hn, helloL]
  · refine ⟨batchL, .inr rfl, ?_⟩
    refine call_run Tryd.func16 rfl ⟨rfl, rfl⟩ ?_
    simp [Tryd.f16, hn, batchL]
theorem lstat_ev [MaxL] (n : Int) : ∃ s : Int, (s = 200 ∨ s = 400 ∨ s = 409) ∧ call cx 19 [.int .i64 n] [] = some (.int .i64 s, []) := by
  obtain ⟨k, hk, hn⟩ := num_ev n 3 (by omega) (by omega)
  replace hn : call cx 13 [.int .i64 n, .int .i64 3] [] = some (.int .i64 k, []) := hn
  have : k = 0 ∨ k = 1 ∨ k = 2 := by omega
  rcases this with rfl | rfl | rfl
  · refine ⟨200, .inl rfl, ?_⟩
    refine call_run Tryd.func19 rfl ⟨rfl, rfl⟩ ?_
    simp [Tryd.f19, hn]
  · refine ⟨400, .inr (.inl rfl), ?_⟩
    refine call_run Tryd.func19 rfl ⟨rfl, rfl⟩ ?_
    simp [Tryd.f19, hn]
  · refine ⟨409, .inr (.inr rfl), ?_⟩
    refine call_run Tryd.func19 rfl ⟨rfl, rfl⟩ ?_
    simp [Tryd.f19, hn]
theorem sameb_ev [MaxL] (x y : Sl UInt8) : call cx 30 [(.vsl x.nil (ofBytes x.l) x.l.length), (.vsl y.nil (ofBytes y.l) y.l.length)] [] = some (.bool (x.l == y.l), []) := by
  refine call_run Tryd.func30 rfl ⟨rfl, rfl⟩ ?_
  simp [Tryd.f30]
theorem asked_ev [MaxL] (r : Rq) : call cx 27 [.agg (Enc.cells r)] [] = some (.agg (Enc.cells r), []) := by
  refine call_run Tryd.func27 rfl ⟨rfl, rfl⟩ ?_
  simp [Tryd.f27, Rq.cells]
theorem told_ev [MaxL] (r : Rs) : call cx 29 [.agg (Enc.cells r)] [] = some (.agg (Enc.cells r), []) := by
  refine call_run Tryd.func29 rfl ⟨rfl, rfl⟩ ?_
  simp [Tryd.f29, Rs.cells]
def eqRq (a b : Rq) : Bool := a.path == b.path && a.epoch == b.epoch && a.number == b.number && a.body.l == b.body.l
def eqRs (a b : Rs) : Bool := a.status == b.status && a.epoch == b.epoch && a.number == b.number && a.body.l == b.body.l
theorem samea_ev [MaxL] (a b : Rq) (h : eqRq a b = true) : call cx 26 [.agg (Enc.cells a), .agg (Enc.cells b)] [] = some (.bool true, []) := by
  unfold eqRq at h
  simp only [Bool.and_eq_true] at h
  obtain ⟨⟨⟨h1, h2⟩, h3⟩, h4⟩ := h
  have hb := sameb_ev a.body b.body
  rw [h4] at hb
  have h1' := beq_iff_eq.1 h1
  have h2' := beq_iff_eq.1 h2
  have h3' := beq_iff_eq.1 h3
  refine call_run Tryd.func26 rfl ⟨rfl, rfl⟩ ?_
  simp [Tryd.f26, Rq.cells, h1', h2', h3', hb]
theorem samet_ev [MaxL] (a b : Rs) (h : eqRs a b = true) : call cx 28 [.agg (Enc.cells a), .agg (Enc.cells b)] [] = some (.bool true, []) := by
  unfold eqRs at h
  simp only [Bool.and_eq_true] at h
  obtain ⟨⟨⟨h1, h2⟩, h3⟩, h4⟩ := h
  have hb := sameb_ev a.body b.body
  rw [h4] at hb
  have h1' := beq_iff_eq.1 h1
  have h2' := beq_iff_eq.1 h2
  have h3' := beq_iff_eq.1 h3
  refine call_run Tryd.func28 rfl ⟨rfl, rfl⟩ ?_
  simp [Tryd.f28, Rs.cells, h1', h2', h3', hb]
end Go.Ev.S
/- HttpBack: the law answers true. -/
namespace Go.Ev.S
open Go Go.Proofs Go.Ev
theorem pre_ne {b c : List UInt8} (X : List UInt8) (i : Nat) (hb : i < b.length) (hc : i < c.length) (h : b[i]? ≠ c[i]?) : pre b (c ++ X) = false := by
  unfold pre
  rw [beq_eq_false_iff_ne]
  intro e
  have : (List.take b.length (c ++ X))[i]? = b[i]? := by rw [e]
  rw [List.getElem?_take_of_lt hb, List.getElem?_append_left hc] at this
  exact h this.symm
theorem hello_batch (X : List UInt8) : pre (beginL helloL) (beginL batchL ++ X) = false := pre_ne X 6 (by decide) (by decide) (by decide)
theorem batch_hello (X : List UInt8) : pre (beginL batchL) (beginL helloL ++ X) = false := pre_ne X 6 (by decide) (by decide) (by decide)
theorem begin_status (p : List UInt8) (hp : p = helloL ∨ p = batchL) (s : Int) (hs : s = 200 ∨ s = 400 ∨ s = 409) (X : List UInt8) : pre (beginL p) (statusL s ++ X) = false := by
  rcases hp with rfl | rfl <;> rcases hs with rfl | rfl | rfl <;> exact pre_ne X 0 (by decide) (by decide) (by decide)
theorem status_begin (p : List UInt8) (hp : p = helloL ∨ p = batchL) (s : Int) (hs : s = 200 ∨ s = 400 ∨ s = 409) (X : List UInt8) : pre (statusL s) (beginL p ++ X) = false := by
  rcases hp with rfl | rfl <;> rcases hs with rfl | rfl | rfl <;> exact pre_ne X 0 (by decide) (by decide) (by decide)
theorem status_ne (s t : Int) (hs : s = 200 ∨ s = 400 ∨ s = 409) (ht : t = 200 ∨ t = 400 ∨ t = 409) (hne : s ≠ t) (X : List UInt8) : pre (statusL s) (statusL t ++ X) = false := by
  rcases hs with rfl | rfl | rfl <;> rcases ht with rfl | rfl | rfl <;> first | exact absurd rfl hne | exact pre_ne X 9 (by decide) (by decide) (by decide) | exact pre_ne X 11 (by decide) (by decide) (by decide)
/-- What numbers, once they are read, make of a message. -/
def gotB (k : Nat) (x y z : Nat) (body : List UInt8) : Msg × Int := if 65536 < z then (.zero, 21) else if body.length < z then (.zero, 22) else if z < body.length then (.zero, 21) else (⟨k, x, y, .of body⟩, 0)
theorem readB_cons (s body b : List UInt8) (l : List (List UInt8)) (k : Nat) : readB s body (b :: l) k = match numbersP s b with
    | none => readB s body l (k + 1)
    | some (x, y, z) => gotB k x y z body := rfl
theorem gotB_ok (k x y : Nat) (body : List UInt8) (h : body.length ≤ 65536) : gotB k x y body.length body = (⟨k, x, y, .of body⟩, 0) := by
  unfold gotB
  rw [if_neg (by omega), if_neg (by omega), if_neg (by omega)]
section
variable (e n : Nat) (he : e < 18446744073709551616) (hn : n < 18446744073709551616) (body : List UInt8) (hb : body.length ≤ 65536)
include he hn hb
theorem rdRq_back (p : List UInt8) (hp : p = helloL ∨ p = batchL) : rdRq (beginL p ++ (numsL e n body.length ++ body)) = (⟨p, e, n, .of body⟩, 0) := by
  have hr : readP (beginL p ++ (numsL e n body.length ++ body)) rqL = (⟨if p = helloL then 0 else 1, e, n, .of body⟩, 0) := by
    rw [← numsD_dec, readP_head (beg_begin p (by rcases hp with rfl | rfl <;> decide)) e n _ (dec_ne _) body, numsD_dec]
    unfold rqL
    rw [readB_cons]
    rcases hp with rfl | rfl
    · rw [numbers_nums _ e n _ he hn (by omega)]
      simp only [gotB_ok 0 e n body hb, if_true]
      rfl
    · rw [numbers_pre (hello_batch _)]
      simp only [readB_cons, numbers_nums (beginL batchL) e n body.length he hn (by omega), gotB_ok 1 e n body hb]
      rw [if_neg (by decide)]
      rfl
  unfold rdRq
  rw [hr, if_pos rfl]
  simp only
  rcases hp with rfl | rfl
  · rw [if_pos rfl]; rfl
  · rw [if_neg (by decide)]; rfl
theorem rdRs_back (s : Int) (hs : s = 200 ∨ s = 400 ∨ s = 409) : rdRs (statusL s ++ (numsL e n body.length ++ body)) = (⟨s, e, n, .of body⟩, 0) := by
  have hr : readP (statusL s ++ (numsL e n body.length ++ body)) rsL = (⟨if s = 200 then 0 else if s = 400 then 1 else 2, e, n, .of body⟩, 0) := by
    rw [← numsD_dec, readP_head (beg_status s) e n _ (dec_ne _) body, numsD_dec]
    unfold rsL
    rw [readB_cons]
    rcases hs with rfl | rfl | rfl
    · rw [numbers_nums _ e n _ he hn (by omega)]
      simp only [gotB_ok 0 e n body hb, if_true]
      rfl
    · rw [numbers_pre (status_ne 200 400 (by simp) (by simp) (by decide) _)]
      simp only [readB_cons, numbers_nums (statusL 400) e n body.length he hn (by omega), gotB_ok 1 e n body hb]
      rw [if_neg (by decide), if_pos trivial]
      rfl
    · rw [numbers_pre (status_ne 200 409 (by simp) (by simp) (by decide) _)]
      simp only [readB_cons, numbers_pre (status_ne 400 409 (by simp) (by simp) (by decide) _), numbers_nums (statusL 409) e n body.length he hn (by omega), gotB_ok 2 e n body hb]
      rw [if_neg (by decide), if_neg (by decide)]
      rfl
  unfold rdRs
  rw [hr, if_pos rfl]
  simp only
  rcases hs with rfl | rfl | rfl
  · rw [if_pos rfl]; rfl
  · rw [if_neg (by decide), if_pos rfl]; rfl
  · rw [if_neg (by decide), if_neg (by decide)]; rfl
omit he hn hb in
theorem rdRq_other (s : Int) (hs : s = 200 ∨ s = 400 ∨ s = 409) : (rdRq (statusL s ++ (numsL e n body.length ++ body))).2 = 20 := by
  have hr : readP (statusL s ++ (numsL e n body.length ++ body)) rqL = (.zero, 20) := by
    rw [← numsD_dec, readP_head (beg_status s) e n _ (dec_ne _) body]
    unfold rqL
    rw [readB_cons, numbers_pre (begin_status _ (.inl rfl) s hs _)]
    simp only [numbers_pre (begin_status _ (.inr rfl) s hs _), readB]
  unfold rdRq
  rw [hr, if_neg (by decide)]
omit he hn hb in
theorem rdRs_other (p : List UInt8) (hp : p = helloL ∨ p = batchL) : (rdRs (beginL p ++ (numsL e n body.length ++ body))).2 = 20 := by
  have hr : readP (beginL p ++ (numsL e n body.length ++ body)) rsL = (.zero, 20) := by
    rw [← numsD_dec, readP_head (beg_begin p (by rcases hp with rfl | rfl <;> decide)) e n _ (dec_ne _) body]
    unfold rsL
    rw [readB_cons, numbers_pre (status_begin p hp 200 (by simp) _)]
    simp only [numbers_pre (status_begin p hp 400 (by simp) _), numbers_pre (status_begin p hp 409 (by simp) _), readB]
  unfold rdRs
  rw [hr, if_neg (by decide)]
end
end Go.Ev.S
/- HttpBack: the law answers true. -/
namespace Go.Ev.S
open Go Go.Proofs Go.Ev
theorem putrq_eq (p : List UInt8) (hp : p = helloL ∨ p = batchL) (e n : Int) (b : Sl UInt8) (hb : b.l.length ≤ 65536) : putRq ⟨p, e, n, b⟩ = .of (beginL p ++ (numsL e.toNat n.toNat b.l.length ++ b.l)) := by
  have h1 : (p == helloL || p == batchL) = true := by rcases hp with rfl | rfl <;> decide
  unfold putRq putS
  simp only [h1, if_true]
  rw [if_neg (by omega)]
theorem putrs_eq (s : Int) (hs : s = 200 ∨ s = 400 ∨ s = 409) (e n : Int) (b : Sl UInt8) (hb : b.l.length ≤ 65536) : putRs ⟨s, e, n, b⟩ = .of (statusL s ++ (numsL e.toNat n.toNat b.l.length ++ b.l)) := by
  unfold putRs putS
  simp only [hs, if_true]
  rw [if_neg (by omega)]
theorem rq_len (p : List UInt8) (hp : p = helloL ∨ p = batchL) (e n : Nat) (b : List UInt8) : (beginL p ++ (numsL e n b.length ++ b)).length ≤ 300 + b.length := by
  have h1 := nums_len e n b.length
  have h2 : (beginL p).length = 81 := by rcases hp with rfl | rfl <;> decide
  simp only [List.length_append]
  omega
theorem rs_len (s : Int) (e n : Nat) (b : List UInt8) : (statusL s ++ (numsL e n b.length ++ b)).length ≤ 300 + b.length := by
  have h1 := nums_len e n b.length
  have h2 := status_len s
  simp only [List.length_append]
  omega
set_option maxHeartbeats 2000000 in
set_option maxRecDepth 4000 in
theorem back_ev [MaxL] (n : Int) (e m : Int) (he : isU64 e) (hm : isU64 m) (body : Sl UInt8) : call cx 7 [.int .i64 n, .int .u64 e, .int .u64 m, (.vsl body.nil (ofBytes body.l) body.l.length)] [] = some (.bool true, []) := by
  have hf := first27_ev
  refine call_run Tryd.func7 rfl ⟨rfl, rfl⟩ ?_
  by_cases h1 : body.l.length ≤ 600
  · have h1' : ¬ (600 : Int) < (body.l.length : Int) := by omega
    obtain ⟨p, hp, hpe⟩ := lpath_ev n
    obtain ⟨s, hs, hse⟩ := lstat_ev n
    have he64 : e.toNat < 18446744073709551616 := by unfold isU64 at he; omega
    have hm64 : m.toNat < 18446744073709551616 := by unfold isU64 at hm; omega
    have ee : ((e.toNat : Nat) : Int) = e := by unfold isU64 at he; omega
    have em : ((m.toNat : Nat) : Int) = m := by unfold isU64 at hm; omega
    have a1 := putrq_ev ⟨p, e, m, body⟩ he hm (show p.length ≤ 100 by rcases hp with rfl | rfl <;> decide) (by simp only; omega)
    have a2 := putrs_ev ⟨s, e, m, body⟩ he hm (by simp only; omega)
    rw [putrq_eq p hp e m body (by omega)] at a1
    rw [putrs_eq s hs e m body (by omega)] at a2
    have l1 := rq_len p hp e.toNat m.toNat body.l
    have l2 := rs_len s e.toNat m.toNat body.l
    have b1 := rdRq_back e.toNat m.toNat he64 hm64 body.l (by omega) p hp
    have b2 := rdRs_back e.toNat m.toNat he64 hm64 body.l (by omega) s hs
    have b3 := rdRq_other e.toNat m.toNat body.l s hs
    have b4 := rdRs_other e.toNat m.toNat body.l p hp
    rw [ee, em] at b1 b2
    generalize beginL p ++ (numsL e.toNat m.toNat body.l.length ++ body.l) = x at *
    generalize statusL s ++ (numsL e.toNat m.toNat body.l.length ++ body.l) = y at *
    have c1 := rdrq_ev (.of x) (by simp; omega)
    have c2 := rdrs_ev (.of y) (by simp; omega)
    have c3 := rdrq_ev (.of y) (by simp; omega)
    have c4 := rdrs_ev (.of x) (by simp; omega)
    simp only [Sl.of_l, b1] at c1
    simp only [Sl.of_l, b2] at c2
    simp only [Sl.of_l, b3] at c3
    simp only [Sl.of_l, b4] at c4
    have d1 := samea_ev ⟨p, e, m, .of body.l⟩ ⟨p, e, m, body⟩ (by simp [eqRq])
    have d2 := samet_ev ⟨s, e, m, .of body.l⟩ ⟨s, e, m, body⟩ (by simp [eqRs])
    have d3 := asked_ev ⟨p, e, m, .of body.l⟩
    have d4 := asked_ev ⟨p, e, m, body⟩
    have d5 := told_ev ⟨s, e, m, .of body.l⟩
    have d6 := told_ev ⟨s, e, m, body⟩
    generalize (rdRq y).1 = q1 at *
    generalize (rdRs x).1 = q2 at *
    clear b1 b2 b3 b4 l1 l2 he64 hm64 ee em he hm hp hs
    simp [Rq.cells, Rs.cells] at a1 a2 c1 c2 c3 c4 d1 d2 d3 d4 d5 d6
    simp [Tryd.f7, hf, h1', hpe, hse, a1, a2, c1, c2, c3, c4, d1, d2, d3, d4, d5, d6]
  · have h1' : (600 : Int) < (body.l.length : Int) := by omega
    simp [Tryd.f7, hf, h1']
end Go.Ev.S
/- HttpCut: the law answers true. -/
namespace Go.Ev.S
open Go Go.Proofs Go.Ev
theorem idx_min (sep : List UInt8) : ∀ (s : List UInt8) (n i : Nat), i ≤ s.length → sep.isPrefixOf (s.drop i) = true → 0 ≤ idxN sep s n ∧ idxN sep s n ≤ ((n + i : Nat) : Int)
  | [], n, i, hi, h => by
    have : i = 0 := by simpa using hi
    subst this
    unfold idxN
    cases sep with
    | nil => simp
    | cons a l => simp at h
  | b :: l, n, i, hi, h => by
    unfold idxN
    by_cases hp : sep.isPrefixOf (b :: l) = true
    · rw [if_pos hp]; omega
    · rw [if_neg hp]
      cases i with
      | zero => rw [List.drop_zero] at h; exact absurd h hp
      | succ i =>
        have := idx_min sep l (n + 1) i (by simpa using hi) (by simpa using h)
        omega
theorem pre_take {sep s : List UInt8} {i k : Nat} (h : sep.isPrefixOf ((s.take k).drop i) = true) : sep.isPrefixOf (s.drop i) = true := by
  rw [List.isPrefixOf_iff_prefix] at h ⊢
  refine h.trans ?_
  rw [List.drop_take]
  exact List.take_prefix _ _
theorem idx_cut {sep s : List UInt8} {j k : Nat} (hs : idxN sep s 0 = (j : Int)) (hk : k < j + sep.length) : idxN sep (s.take k) 0 = -1 := by
  rcases idx_cases sep (s.take k) 0 with ⟨i, h1, h2, h3⟩ | h
  · exfalso
    have hl : (s.take k).length ≤ k := by simp; omega
    have hls : (s.take k).length ≤ s.length := by simp; omega
    have := (idx_min sep s 0 i (by omega) (pre_take h3)).2
    rw [hs] at this
    omega
  · exact h
section
variable (e n z : Nat) (he : e < 18446744073709551616) (hn : n < 18446744073709551616) (hz : z < 18446744073709551616) (body : List UInt8)
include he hn hz
theorem rq_at (p : List UInt8) (hp : p = helloL ∨ p = batchL) : readP (beginL p ++ (numsL e n z ++ body)) rqL = gotB (if p = helloL then 0 else 1) e n z body := by
  rw [← numsD_dec, readP_head (beg_begin p (by rcases hp with rfl | rfl <;> decide)) e n _ (dec_ne _) body, numsD_dec]
  unfold rqL
  rw [readB_cons]
  rcases hp with rfl | rfl
  · rw [numbers_nums _ e n _ he hn hz]
    simp only [if_true]
  · rw [numbers_pre (hello_batch _)]
    simp only [readB_cons, numbers_nums (beginL batchL) e n z he hn hz]
    rw [if_neg (by decide)]
theorem rs_at (s : Int) (hs : s = 200 ∨ s = 400 ∨ s = 409) : readP (statusL s ++ (numsL e n z ++ body)) rsL = gotB (if s = 200 then 0 else if s = 400 then 1 else 2) e n z body := by
  rw [← numsD_dec, readP_head (beg_status s) e n _ (dec_ne _) body, numsD_dec]
  unfold rsL
  rw [readB_cons]
  rcases hs with rfl | rfl | rfl
  · rw [numbers_nums _ e n _ he hn hz]
    simp only [if_true]
  · rw [numbers_pre (status_ne 200 400 (by simp) (by simp) (by decide) _)]
    simp only [readB_cons, numbers_nums (statusL 400) e n z he hn hz]
    rw [if_neg (by decide), if_pos trivial]
  · rw [numbers_pre (status_ne 200 409 (by simp) (by simp) (by decide) _)]
    simp only [readB_cons, numbers_pre (status_ne 400 409 (by simp) (by simp) (by decide) _), numbers_nums (statusL 409) e n z he hn hz]
    rw [if_neg (by decide), if_neg (by decide)]
end
theorem gotB_short (k x y z : Nat) (body : List UInt8) (hz : z ≤ 65536) (h : body.length < z) : gotB k x y z body = (.zero, 22) := by
  unfold gotB
  rw [if_neg (by omega), if_pos h]
theorem gotB_long (k x y z : Nat) (body : List UInt8) (h : z < body.length) : gotB k x y z body = (.zero, 21) := by
  unfold gotB
  by_cases h1 : 65536 < z
  · rw [if_pos h1]
  · rw [if_neg h1, if_neg (by omega), if_pos h]
/-- What is cut is short. -/
theorem cut_short {b : List UInt8} (hB : Beg b) (e n : Nat) (body : List UInt8) (hb : body.length ≤ 65536) (l : List (List UInt8))
    (hl : ∀ body', ∃ k, readP (b ++ (numsL e n body.length ++ body')) l = gotB k e n body.length body') (k : Nat) (hk : k < (b ++ (numsL e n body.length ++ body)).length) : readP ((b ++ (numsL e n body.length ++ body)).take k) l = (.zero, 22) := by
  have hi := idx_head hB e n (dec body.length) (dec_ne _) body
  have h4 := numsD_len e n (dec body.length)
  rw [numsD_dec] at hi h4
  by_cases hc : k < (b ++ numsL e n body.length).length
  · have := idx_cut hi (k := k) (by rw [List.length_append] at hc; show k < _ + 4; omega)
    unfold readP
    rw [this, if_pos rfl]
  · have hc' : (b ++ numsL e n body.length).length ≤ k := by omega
    obtain ⟨j, hj⟩ : ∃ j, k = (b ++ numsL e n body.length).length + j := ⟨k - (b ++ numsL e n body.length).length, by omega⟩
    have e1 : (b ++ (numsL e n body.length ++ body)).take k = b ++ (numsL e n body.length ++ body.take j) := by
      rw [← List.append_assoc, hj, List.take_length_add_append, List.append_assoc]
    rw [e1]
    obtain ⟨k', hk'⟩ := hl (body.take j)
    rw [hk']
    refine gotB_short _ _ _ _ _ hb ?_
    rw [List.length_take]
    rw [← List.append_assoc, List.length_append] at hk
    omega
def zeroRq : Rq := ⟨[], 0, 0, .none⟩
def zeroRs : Rs := ⟨0, 0, 0, .none⟩
section
variable (e n : Nat) (he : e < 18446744073709551616) (hn : n < 18446744073709551616) (body : List UInt8) (hb : body.length ≤ 65536)
include he hn hb
theorem rdRq_cut (p : List UInt8) (hp : p = helloL ∨ p = batchL) (k : Nat) (hk : k < (beginL p ++ (numsL e n body.length ++ body)).length) : rdRq ((beginL p ++ (numsL e n body.length ++ body)).take k) = (zeroRq, 22) := by
  have h := cut_short (beg_begin p (by rcases hp with rfl | rfl <;> decide)) e n body hb rqL (fun body' => ⟨_, rq_at e n body.length he hn (by omega) body' p hp⟩) k hk
  unfold rdRq
  rw [h, if_neg (by decide)]
  rfl
theorem rdRs_cut (s : Int) (hs : s = 200 ∨ s = 400 ∨ s = 409) (k : Nat) (hk : k < (statusL s ++ (numsL e n body.length ++ body)).length) : rdRs ((statusL s ++ (numsL e n body.length ++ body)).take k) = (zeroRs, 22) := by
  have h := cut_short (beg_status s) e n body hb rsL (fun body' => ⟨_, rs_at e n body.length he hn (by omega) body' s hs⟩) k hk
  unfold rdRs
  rw [h, if_neg (by decide)]
  rfl
theorem rdRq_more (p : List UInt8) (hp : p = helloL ∨ p = batchL) (more : List UInt8) : rdRq (beginL p ++ (numsL e n body.length ++ body) ++ 0 :: more) = (zeroRq, 21) := by
  have h := rq_at e n body.length he hn (by omega) (body ++ 0 :: more) p hp
  rw [gotB_long _ _ _ _ _ (by simp)] at h
  unfold rdRq
  rw [show beginL p ++ (numsL e n body.length ++ body) ++ 0 :: more = beginL p ++ (numsL e n body.length ++ (body ++ 0 :: more)) by simp, h, if_neg (by decide)]
  rfl
theorem rdRs_more (s : Int) (hs : s = 200 ∨ s = 400 ∨ s = 409) (more : List UInt8) : rdRs (statusL s ++ (numsL e n body.length ++ body) ++ 0 :: more) = (zeroRs, 21) := by
  have h := rs_at e n body.length he hn (by omega) (body ++ 0 :: more) s hs
  rw [gotB_long _ _ _ _ _ (by simp)] at h
  unfold rdRs
  rw [show statusL s ++ (numsL e n body.length ++ body) ++ 0 :: more = statusL s ++ (numsL e n body.length ++ (body ++ 0 :: more)) by simp, h, if_neg (by decide)]
  rfl
end
end Go.Ev.S
/- HttpTooLong: plain laws on digits. -/
namespace Go.Ev.S
open Go Go.Proofs Go.Ev
def digs (l : List Nat) : List UInt8 := l.map fun k => UInt8.ofNat (48 + k)
def numV (n : Nat) (l : List Nat) : Nat := l.foldl (fun a k => 10 * a + k) n
theorem numV_le (l : List Nat) : ∀ n, (∀ k ∈ l, k < 10) → numV n l + 1 ≤ (n + 1) * 10 ^ l.length := by
  induction l with
  | nil => intro n _; simp [numV]
  | cons k l ih =>
    intro n h
    have h1 := ih (10 * n + k) fun x hx => h x (by simp [hx])
    have hk := h k (by simp)
    have h2 : (10 * n + k + 1) * 10 ^ l.length ≤ ((n + 1) * 10) * 10 ^ l.length := Nat.mul_le_mul_right _ (by omega)
    have h3 : (n + 1) * 10 ^ (k :: l).length = ((n + 1) * 10) * 10 ^ l.length := by rw [List.length_cons, Nat.pow_succ, Nat.mul_comm (10 ^ l.length) 10, Nat.mul_assoc]
    have h4 : numV n (k :: l) = numV (10 * n + k) l := rfl
    omega
theorem numV_ge (l : List Nat) : ∀ n, n ≤ numV n l := by
  induction l with
  | nil => intro n; exact Nat.le_refl _
  | cons k l ih =>
    intro n
    have h1 := ih (10 * n + k)
    have h4 : numV n (k :: l) = numV (10 * n + k) l := rfl
    omega
theorem puGo_digs (l : List Nat) : ∀ n, (∀ k ∈ l, k < 10) → numV n l < 18446744073709551616 → puGo 10 (digs l) n = some (numV n l) := by
  induction l with
  | nil => intro n _ _; rfl
  | cons k l ih =>
    intro n h hv
    have hk := h k (by simp)
    have h4 : numV n (k :: l) = numV (10 * n + k) l := rfl
    have h5 := numV_ge l (10 * n + k)
    have e : digs (k :: l) = UInt8.ofNat (48 + k) :: digs l := rfl
    rw [e, puGo, dval_dig hk]
    simp only
    rw [if_neg (by omega), if_neg (by omega), Nat.mul_comm n 10, ih _ (fun x hx => h x (by simp [hx])) (by omega), h4]
theorem decF_digs (l : List Nat) : ∀ n f, 1 ≤ n → 1 ≤ f → (∀ k ∈ l, k < 10) → decF (f + l.length) (numV n l) = decF f n ++ digs l := by
  induction l with
  | nil => intro n f _ _ _; simp [numV, digs]
  | cons k l ih =>
    intro n f hn hf h
    have hk := h k (by simp)
    have h4 : numV n (k :: l) = numV (10 * n + k) l := rfl
    have e : digs (k :: l) = UInt8.ofNat (48 + k) :: digs l := rfl
    have e2 : f + (k :: l).length = (f + 1) + l.length := by simp; omega
    rw [h4, e2, ih (10 * n + k) (f + 1) (by omega) (by omega) (fun x hx => h x (by simp [hx])), e]
    rw [decF, if_neg (by omega)]
    have e3 : (10 * n + k) / 10 = n := by omega
    have e4 : (10 * n + k) % 10 = k := by omega
    rw [e3, e4, List.append_assoc]
    rfl
theorem digs_ne (l : List Nat) (h : ∀ k ∈ l, k < 10) : ∀ x ∈ digs l, x ≠ 13 := by
  intro x hx e
  unfold digs at hx
  obtain ⟨k, hk, rfl⟩ := List.mem_map.1 hx
  have := congrArg UInt8.toNat e
  rw [UInt8.toNat_ofNat_of_lt' (show 48 + k < 256 by have := h k hk; omega)] at this
  simp at this
  omega
/-- Five nines and some digits. -/
def longV (l : List Nat) : Nat := numV 9 (9 :: 9 :: 9 :: 9 :: l)
theorem long_lt (l : List Nat) (h : ∀ k ∈ l, k < 10) (hl : l.length ≤ 6) : longV l < 100000000000 ∧ 65536 < longV l := by
  have h1 := numV_le l 99999 h
  have h2 := numV_ge l 99999
  have e : longV l = numV 99999 l := rfl
  have h3 : 10 ^ l.length ≤ 10 ^ 6 := Nat.pow_le_pow_right (by decide) hl
  have h4 : (99999 + 1) * 10 ^ l.length ≤ (99999 + 1) * 10 ^ 6 := Nat.mul_le_mul_left _ h3
  rw [e]
  omega
theorem long_mem {l : List Nat} (h : ∀ k ∈ l, k < 10) : ∀ k ∈ 9 :: 9 :: 9 :: 9 :: l, k < 10 := by
  intro k hk
  simp only [List.mem_cons] at hk
  rcases hk with rfl | rfl | rfl | rfl | hk <;> first | omega | exact h k hk
theorem long_pu (l : List Nat) (h : ∀ k ∈ l, k < 10) (hl : l.length ≤ 6) : pu 10 (digs (9 :: 9 :: 9 :: 9 :: 9 :: l)) = some (longV l) := by
  unfold pu
  rw [if_neg (by simp [digs])]
  exact puGo_digs (9 :: 9 :: 9 :: 9 :: 9 :: l) 0 (by
    intro k hk
    rcases List.mem_cons.1 hk with rfl | hk
    · omega
    · exact long_mem h k hk) (by have := (long_lt l h hl).1; show longV l < _; omega)
theorem long_dec (l : List Nat) (h : ∀ k ∈ l, k < 10) (hl : l.length ≤ 6) : dec (longV l) = digs (9 :: 9 :: 9 :: 9 :: 9 :: l) := by
  obtain ⟨f, hf⟩ : ∃ f, 20 = (f + 1) + (9 :: 9 :: 9 :: 9 :: l).length := ⟨20 - 1 - (9 :: 9 :: 9 :: 9 :: l).length, by simp; omega⟩
  unfold dec longV
  rw [hf, decF_digs (9 :: 9 :: 9 :: 9 :: l) 9 (f + 1) (by omega) (by omega) (long_mem h), decF, if_pos (by omega)]
  rfl
theorem zero_pu (l : List Nat) (h : ∀ k ∈ l, k < 10) (hl : l.length ≤ 6) : pu 10 (48 :: digs (9 :: 9 :: 9 :: 9 :: 9 :: l)) = some (longV l) := by
  have h1 := long_pu l h hl
  unfold pu at h1 ⊢
  rw [if_neg (by simp [digs])] at h1
  rw [if_neg (by simp), puGo]
  have : dval 48 = some 0 := by decide
  rw [this]
  simp only
  rw [if_neg (by omega), if_neg (by omega)]
  exact h1
theorem over_pu : pu 10 [49, 56, 52, 52, 54, 55, 52, 52, 48, 55, 51, 55, 48, 57, 53, 53, 49, 54, 49, 54] = none := by decide
/-- What is told of digits that stand as a length, ahead of no body. -/
def codeD (D : List UInt8) : Int := match pu 10 D with
  | none => 20
  | some v => if dec v = D then (if v = 0 then 0 else if 65536 < v then 21 else 22) else 20
theorem code_long (l : List Nat) (h : ∀ k ∈ l, k < 10) (hl : l.length ≤ 6) : codeD (digs (9 :: 9 :: 9 :: 9 :: 9 :: l)) = 21 := by
  have h1 := (long_lt l h hl).2
  unfold codeD
  rw [long_pu l h hl]
  simp only
  rw [if_pos (long_dec l h hl), if_neg (by omega), if_pos h1]
theorem code_zero (l : List Nat) (h : ∀ k ∈ l, k < 10) (hl : l.length ≤ 6) : codeD (48 :: digs (9 :: 9 :: 9 :: 9 :: 9 :: l)) = 20 := by
  unfold codeD
  rw [zero_pu l h hl]
  simp only
  rw [long_dec l h hl, if_neg]
  intro e
  have := congrArg List.length e
  simp at this
theorem code_over : codeD [49, 56, 52, 52, 54, 55, 52, 52, 48, 55, 51, 55, 48, 57, 53, 53, 49, 54, 49, 54] = 20 := by
  unfold codeD
  rw [over_pu]
section
variable (e n : Nat) (he : e < 18446744073709551616) (hn : n < 18446744073709551616)
include he hn
/-- A head with any digits as its length. -/
theorem rdRq_D (p : List UInt8) (hp : p = helloL ∨ p = batchL) (D : List UInt8) (hD : ∀ x ∈ D, x ≠ 13) : (rdRq (beginL p ++ numsD e n D)).2 = codeD D := by
  unfold codeD
  have hr : readP (beginL p ++ numsD e n D) rqL = match pu 10 D with
    | none => (.zero, 20)
    | some v => if dec v = D then gotB (if p = helloL then 0 else 1) e n v [] else (.zero, 20) := by
    have h := readP_head (beg_begin p (by rcases hp with rfl | rfl <;> decide)) e n D hD [] rqL
    rw [List.append_nil] at h
    rw [h]
    have hN := fun b => numbers_D b e n he hn D hD
    unfold rqL
    rw [readB_cons]
    rcases hp with rfl | rfl
    · rw [hN]
      cases hpu : pu 10 D with
      | none => simp only [numbers_pre (batch_hello _), readB]
      | some v =>
        simp only
        by_cases hd : dec v = D
        · rw [if_pos hd, if_pos hd]
          rfl
        · rw [if_neg hd, if_neg hd]
          simp only [numbers_pre (batch_hello _), readB]
    · rw [numbers_pre (hello_batch _)]
      simp only [readB_cons, hN]
      cases hpu : pu 10 D with
      | none => rfl
      | some v =>
        simp only
        by_cases hd : dec v = D
        · rw [if_pos hd, if_pos hd, if_neg (by decide)]
        · rw [if_neg hd, if_neg hd]
          rfl
  have h2 : (rdRq (beginL p ++ numsD e n D)).2 = (readP (beginL p ++ numsD e n D) rqL).2 := by
    unfold rdRq
    split
    · rename_i h; exact h.symm
    · rfl
  rw [h2, hr]
  cases hpu : pu 10 D with
  | none => rfl
  | some v =>
    simp only
    by_cases hd : dec v = D
    · rw [if_pos hd, if_pos hd]
      unfold gotB
      by_cases h1 : 65536 < v
      · rw [if_pos h1, if_neg (by omega), if_pos h1]
      · rw [if_neg h1]
        by_cases h0 : v = 0
        · subst h0; rfl
        · rw [if_pos (by simp; omega), if_neg h0, if_neg h1]
    · rw [if_neg hd, if_neg hd]
end
end Go.Ev.S
/- Bytes are spoilt. -/
namespace Go.Ev.S
open Go Go.Proofs Go.Ev
theorem mkbytes_ev [MaxL] (b : List UInt8) (h : 1 ≤ b.length) (hn : b.length ≤ 100000) :
    call cx 31 [.vsl false (ofBytes b) b.length] [] = some (.osl 0 b.length 0 b.length 1, [some (ofBytes b)]) := by
  refine call_run Tryd.func31 rfl ⟨rfl, rfl⟩ ?_
  have hb : b.length ≤ maxBytes := Nat.le_trans hn (by decide)
  have hne : b ≠ [] := by intro e; rw [e] at h; simp at h
  simp [Tryd.f31, hb]
/-- The place that a number counts for. -/
def placeOf (n : Int) (b : Nat) : Nat := ((IntKind.i64.wrap (n.tmod b + b)).tmod b).toNat
theorem place_ev [MaxL] (n : Int) (b : Nat) (hb : 1 ≤ b) (hb2 : b ≤ 1000000) : placeOf n b < b ∧ call cx 13 [.int .i64 n, .int .i64 b] [] = some (.int .i64 (placeOf n b : Nat), []) := by
  obtain ⟨x, hx, h⟩ := num_ev n b hb hb2
  have h2 := number_ev n b
  rw [if_neg (by omega), h] at h2
  have h3 : (x : Int) = (IntKind.i64.wrap (n.tmod b + b)).tmod b := by
    have := Option.some.inj h2
    simpa using this
  have h4 : placeOf n b = x := by unfold placeOf; omega
  rw [h4]
  exact ⟨hx, h⟩
def spoilL (y : UInt8) : List UInt8 → List Int → List UInt8
  | b, [] => b
  | b, k :: l => spoilL y (b.set (placeOf k b.length) (b.getD (placeOf k b.length) 0 ^^^ y)) l
theorem spoilL_len (y : UInt8) : ∀ (l : List Int) (b : List UInt8), (spoilL y b l).length = b.length
  | [], _ => rfl
  | _ :: l, b => by rw [spoilL, spoilL_len y l]; simp
theorem spoilL_zero : ∀ (l : List Int) (b : List UInt8), spoilL 0 b l = b
  | [], _ => rfl
  | k :: l, b => by
    rw [spoilL, spoilL_zero l]
    by_cases h : placeOf k b.length < b.length
    · simp [List.getD, List.getElem?_eq_getElem h]
    · rw [List.set_eq_of_length_le (by omega)]
theorem xorI_u8 (a b : UInt8) : xorI .u8 (a.toNat : Int) (b.toNat : Int) = ((a ^^^ b).toNat : Int) := by
  unfold xorI
  have h := (a ^^^ b).toNat_lt
  have e : (BitVec.ofInt IntKind.u8.bits (a.toNat : Int) ^^^ BitVec.ofInt IntKind.u8.bits (b.toNat : Int)).toNat = (a ^^^ b).toNat := by
    simp [IntKind.bits]
    rfl
  rw [e, wrap_u8]
  omega
theorem intsK_at {k : IntKind} {l : List Int} {i : Nat} (h : i < l.length) : (intsK k l).drop i = .int k l[i] :: intsK k (l.drop (i + 1)) := by
  unfold intsK
  rw [List.drop_eq_getElem_cons (by simpa using h)]
  simp
theorem set_ofBytes (z : List UInt8) (x : Nat) (c : UInt8) (h : x < z.length) : setRange (ofBytes z) x [.int .u8 c.toNat] = ofBytes (z.set x c) := by
  unfold setRange ofBytes
  rw [List.set_eq_take_append_cons_drop, if_pos h]
  simp
set_option maxHeartbeats 1000000 in
theorem spoil_ev [MaxL] (b : List UInt8) (hb1 : 1 ≤ b.length) (hb2 : b.length ≤ 100000) (nil : Bool) (zs : List Int) (hnil : nil = true → zs = []) (hz : zs.length ≤ 1000) (y : UInt8) :
    call cx 20 [.vsl false (ofBytes b) b.length, .vsl nil (intsK .i64 zs) zs.length, .int .u8 y.toNat] [] = some (.vsl false (ofBytes (spoilL y b zs)) b.length, []) := by
  have hm := mkbytes_ev b hb1 hb2
  refine call_run Tryd.func20 rfl ⟨rfl, rfl⟩ ?_
  simp [Tryd.f20, hm]
  refine Run.loopThen (fun (k : Nat) e H' => k ≤ zs.length ∧ ∃ z, z.length = b.length ∧ spoilL y z (zs.drop k) = spoilL y b zs ∧ H' = [some (ofBytes z)] ∧
      look e 1 = some (.vsl nil (intsK .i64 zs) zs.length) ∧ look e 2 = some (.int .u8 y.toNat) ∧ look e 7 = some (.osl 0 b.length 0 b.length 1) ∧ look e 8 = some (.int .i64 k)) (fun k => zs.length - k) 0 ?_ ?_
  · simp
    exact ⟨b, rfl, rfl, rfl⟩
  rintro k e H' ⟨hk, z, hzl, hs, rfl, k1, k2, k7, k8⟩
  by_cases hlt : k < zs.length
  · have hlt' : (k : Int) < (zs.length : Int) := by omega
    have hb0 : (0 : Int) < (b.length : Int) := by omega
    have hw2 : IntKind.i64.wrap ((k : Int) + 1) = ((k + 1 : Nat) : Int) := by rw [wrap_i64] <;> omega
    obtain ⟨p1, p2⟩ := place_ev zs[k] b.length hb1 (by omega)
    rw [List.drop_eq_getElem_cons hlt, spoilL, hzl] at hs
    generalize placeOf zs[k] b.length = x at *
    have hbn : 0 < b.length := by omega
    have hxl : x < z.length := by omega
    have hgx : z.getD x 0 = z[x] := by rw [List.getD, List.getElem?_eq_getElem hxl]; rfl
    rw [hgx] at hs
    have ho := ofBytes_at (l := z) (i := x) hxl
    have hx := xorI_u8 z[x] y
    generalize z[x] = c at *
    have hst : setRange (ofBytes z) x [.int .u8 (c ^^^ y).toNat] = ofBytes (z.set x (c ^^^ y)) := by
      exact set_ofBytes z x _ (by omega)
    have hnf : nil = false := by
      cases nil with
      | false => rfl
      | true => rw [hnil rfl] at hlt; simp at hlt
    subst hnf
    have hx1 : x + 1 ≤ b.length := by omega
    generalize c ^^^ y = v at *
    simp [-setRange_eq, intsK_at hlt, hx1, k1, k2, k7, k8, hlt', hbn, p2, p1, hw2, hzl, ho, hx, hst]
    exact ⟨k + 1, by omega, by omega, z.set x v, by simpa using hzl, hs, rfl, by simp⟩
  · have hlt' : ¬ (k : Int) < (zs.length : Int) := by omega
    rw [List.drop_eq_nil_of_le (by omega), spoilL] at hs
    have hl : (spoilL y b zs).length = b.length := spoilL_len y zs b
    simp [k1, k2, k7, k8, hlt', hs, hl]
end Go.Ev.S
/- HttpTooLong: the law answers true. -/
namespace Go.Ev.S
open Go Go.Proofs Go.Ev
theorem dig_at : ∀ k, k < 10 → List.take (k + 1 - k) (List.drop k [48, 49, 50, 51, 52, 53, 54, 55, 56, 57]) = [UInt8.ofNat (48 + k)] := by decide
def nines (l : List Nat) : List UInt8 := digs (9 :: 9 :: 9 :: 9 :: 9 :: l)
theorem rdRq_zero {b : List UInt8} (h : (rdRq b).2 ≠ 0) : (rdRq b).1 = zeroRq := by
  unfold rdRq at h ⊢
  split at h
  · exact absurd rfl h
  · rename_i h2
    rw [if_neg h2]
    rfl
theorem nines_len (l : List Nat) : (nines l).length = 5 + l.length := by simp [nines, digs]; omega
theorem nines_snoc (l : List Nat) (k : Nat) : nines l ++ [UInt8.ofNat (48 + k)] = nines (l ++ [k]) := by simp [nines, digs]
def headD (p : List UInt8) (e : Nat) : List UInt8 := beginL p ++ (epochL ++ (dec e ++ (crlf ++ (numberL ++ (dec 0 ++ (crlf ++ lengthL))))))
theorem headD_nums (p : List UInt8) (e : Nat) (D : List UInt8) : headD p e ++ (D ++ (crlf ++ crlf)) = beginL p ++ numsD e 0 D := by
  unfold headD numsD
  simp
theorem headD_len (p : List UInt8) (hp : p = helloL ∨ p = batchL) (e : Nat) : (headD p e).length ≤ 200 := by
  have h1 := dec_len e
  have h2 := dec_len 0
  have h3 : (beginL p).length = 81 := by rcases hp with rfl | rfl <;> decide
  unfold headD
  simp only [List.length_append, h3, epochL, numberL, lengthL, crlf, List.length_cons, List.length_nil]
  omega
theorem headD_put (p : List UInt8) (e : Nat) : beginL p ++ (numsL e 0 0 ++ []) = headD p e ++ [48, 13, 10, 13, 10] := by
  rw [← numsD_dec, List.append_nil, ← headD_nums]
  rfl
set_option maxHeartbeats 2000000 in
set_option maxRecDepth 4000 in
theorem toolong_ev [MaxL] (n : Int) (e : Int) (he : isU64 e) (nil : Bool) (zs : List Int) (hnil : nil = true → zs = []) : call cx 4 [.int .i64 n, .int .u64 e, .vsl nil (intsK .i64 zs) zs.length] [] = some (.bool true, []) := by
  have hf := first27_ev
  refine call_run Tryd.func4 rfl ⟨rfl, rfl⟩ ?_
  by_cases h2 : zs.length ≤ 6
  · have h2' : ¬ (6 : Int) < (zs.length : Int) := by omega
    obtain ⟨p, hp, hpe⟩ := lpath_ev n
    have he64 : e.toNat < 18446744073709551616 := by unfold isU64 at he; omega
    have a1 := putrq_ev ⟨p, e, 0, .none⟩ he (show isU64 (0 : Int) by unfold isU64; omega) (show p.length ≤ 100 by rcases hp with rfl | rfl <;> decide) (by simp)
    rw [putrq_eq p hp e 0 .none (by simp)] at a1
    have e0 : (Sl.none (α := UInt8)).l = [] := rfl
    rw [e0, show ((0 : Int).toNat) = 0 from rfl, List.length_nil, headD_put] at a1
    have hD := fun D hD => rdRq_D e.toNat 0 he64 (by decide) p hp D hD
    have hDn := fun D => headD_nums p e.toNat D
    have hl := headD_len p hp e.toNat
    generalize headD p e.toNat = x at *
    have hA : ∀ D : List UInt8, (∀ y ∈ D, y ≠ 13) → D.length ≤ 30 → codeD D ≠ 0 → call cx 17 [.vsl false (ofBytes (x ++ (D ++ [13, 10, 13, 10]))) (x.length + (D.length + 4))] [] = some (.tup [.agg (Enc.cells zeroRq), .int .i64 (codeD D)], []) := by
      intro D hD1 hD2 hD3
      have h := rdrq_ev (.of (x ++ (D ++ [13, 10, 13, 10]))) (by simp; omega)
      have h3 : (rdRq (x ++ (D ++ [13, 10, 13, 10]))).2 = codeD D := by
        rw [← hD D hD1, ← hDn D]
        rfl
      rw [← h3] at hD3
      have h4 := rdRq_zero hD3
      rw [← h3, ← h4]
      simp at h
      exact h
    have g5 : (x.length : Int) + 5 - 5 = (x.length : Int) := by omega
    have w5 : IntKind.i64.wrap (x.length : Int) = (x.length : Int) := by rw [wrap_i64] <;> omega
    clear hD hDn
    simp [Rq.cells] at a1
    have g7 : (x.length : Int) ≤ (x.length : Int) + 5 := by omega
    have g8 : x.length + 5 - x.length = 5 := by omega
    have g9 : ¬ (x.length : Int) + 5 < 5 := by omega
    have g6 : (5 : Int) ≤ (x.length : Int) + 5 := by omega
    simp [Tryd.f4, hf, h2', hpe, a1, g5, g7, g8, g9, w5]
    refine Run.loopThen (fun (i : Nat) e H' => i ≤ zs.length ∧ ∃ l : List Nat, l.length = i ∧ (∀ k ∈ l, k < 10) ∧ H' = [] ∧ look e 2 = some (.vsl nil (intsK .i64 zs) zs.length) ∧ look e 7 = some (.bool true) ∧
      look e 8 = some (.str (x ++ [48, 13, 10, 13, 10])) ∧ look e 9 = some (.str (nines l)) ∧ look e 10 = some (.int .i64 i)) (fun i => zs.length - i) 0 ?_ ?_
    · simp [nines, digs]
    rintro i e H' ⟨hi, l, hll, hl10, rfl, k2, k7, k8, k9, k10⟩
    have hnl := nines_len l
    by_cases hlt : i < zs.length
    · have hlt' : (i : Int) < (zs.length : Int) := by omega
      have hw1 : IntKind.i64.wrap ((i : Int) + 1) = ((i + 1 : Nat) : Int) := by rw [wrap_i64] <;> omega
      have hnf : nil = false := by
        cases nil with
        | false => rfl
        | true => rw [hnil rfl] at hlt; simp at hlt
      subst hnf
      obtain ⟨k, hk, hn⟩ := num_ev zs[i] 10 (by omega) (by omega)
      replace hn : call cx 13 [.int .i64 zs[i], .int .i64 10] [] = some (.int .i64 k, []) := hn
      have hat := intsK_at (k := .i64) hlt
      generalize zs[i] = z at *
      have hd := dig_at k hk
      have hw2 : IntKind.i64.wrap ((k : Int) + 1) = ((k + 1 : Nat) : Int) := by rw [wrap_i64] <;> omega
      have hk1 : k ≤ 9 := by omega
      have hk2 : k + 1 ≤ 10 := by omega
      have hk3 : (k : Int) ≤ 10 := by omega
      have hsn := nines_snoc l k
      have i1 : (0 : Int) ≤ (k : Int) + 1 := by omega
      have i2 : (k : Int) + 1 ≤ 10 := by omega
      have i3 : (k : Int) ≤ (k : Int) + 1 := by omega
      have hb : (nines l).length + 1 ≤ 4611686018427387904 := by omega
      have hdk : k + 1 - k = 1 := by omega
      rw [hdk] at hd
      have hsn2 : nines l ++ [48 + UInt8.ofNat k] = nines (l ++ [k]) := by rw [← hsn]; congr 2; simp
      simp [k2, k7, k8, k9, k10, hlt', hw1, hat, hn, hw2, hd, hdk, hb, i1, i2, i3]
      exact ⟨i + 1, by omega, by omega, l ++ [k], by simp [hll], by
        intro j hj
        rcases List.mem_append.1 hj with h | h
        · exact hl10 j h
        · rw [List.mem_singleton.1 h]; exact hk, hsn2, rfl⟩
    · have hlt' : ¬ (i : Int) < (zs.length : Int) := by omega
      have u1 : codeD (nines l) = 21 := code_long l hl10 (by omega)
      have u2 : codeD (48 :: nines l) = 20 := code_zero l hl10 (by omega)
      have q1 := hA (nines l) (digs_ne _ (by
        intro k hk
        rcases List.mem_cons.1 hk with rfl | hk
        · omega
        · exact long_mem hl10 k hk)) (by omega) (by rw [u1]; decide)
      have q2 := hA (48 :: nines l) (by
        intro y hy
        rcases List.mem_cons.1 hy with rfl | hy
        · decide
        · exact digs_ne _ (by
            intro k hk
            rcases List.mem_cons.1 hk with rfl | hk
            · omega
            · exact long_mem hl10 k hk) y hy) (by simp; omega) (by rw [u2]; decide)
      have q3 := hA [49, 56, 52, 52, 54, 55, 52, 52, 48, 55, 51, 55, 48, 57, 53, 53, 49, 54, 49, 54] (by decide) (by decide) (by rw [code_over]; decide)
      rw [u1] at q1
      rw [u2] at q2
      rw [code_over] at q3
      have b1 : x.length + (nines l).length ≤ 4611686018427387904 := by omega
      have b2 : x.length + ((nines l).length + 4) ≤ 4611686018427387904 := by omega
      have b3 : x.length + (nines l).length ≤ 4611686018427387900 := by omega
      have b4 : x.length ≤ 4611686018427387903 := by omega
      have b5 : x.length + ((nines l).length + 1) ≤ 4611686018427387904 := by omega
      have b6 : x.length + ((nines l).length + 1) ≤ 4611686018427387900 := by omega
      have b7 : x.length ≤ 4611686018427387880 := by omega
      have b8 : x.length + 1 + (nines l).length ≤ 4611686018427387904 := by omega
      generalize nines l = N at *
      simp [Rq.cells, zeroRq] at q1 q2 q3
      simp [k2, k7, k8, k9, k10, hlt', g5, g7, w5, b1, b3, b4, b6, b7, b8, q1, q2, q3]
  · have h2' : (6 : Int) < (zs.length : Int) := by omega
    simp [Tryd.f4, hf, h2']
end Go.Ev.S
/- A law whose rows list variables: the world is of the program's shape, too. -/
namespace Go.Ev
open Go Go.Proofs Go.ChangeShapes Go.WideShapes Go.ChangeAt Go.RowKit
theorem handed_shaped {H : Type} {enc : TypeId × Value → H} {a : Assume} {C : Checked} {os : Os} {f : FuncId} {fn : Func} {s : ChangeSpec} {conds : List PathCond} {apart fresh handsOn again : Bool} {X : World → Array Value → Prop}
    (hX : ∀ (w w' : World) (args : Array Value), w.heap = w'.heap → X w args → X w' args)
    (own : ownKnob C.prog.godebug = none) (started : os.Started) (noInit : C.prog.inits.idxOf? f = none) (hfn : C.prog.funcs[f]? = some fn)
    (witness : ∃ (w : World) (tape : Tape) (i : Input), w.os = os ∧ (w.forCall tape i).Shaped C.prog ∧ i.vars = [] ∧ Input.okWide C.prog (w.forCall tape i) .any w.heap.size f i ∧
      ((s.pre enc C.prog fn conds apart (w.forCall tape i).memory i.args ∧ X (w.forCall tape i).memory i.args) ∧ sizedMet enc C.prog fn (OpenSpec.ofChange s) apart (w.forCall tape i).memory i.args) ∧ a.holds C.prog (lone (Frame.enter C.prog f i.args .normal) [] (w.forCall tape i)))
    (contract : ∀ (W : World) (base : Nat) (args : Array Value) (ds gs : List (DataW H)) (before : List MemPlace),
      (∀ (j : Nat) t v, fn.params[j]? = some t → args[j]? = some v → Value.okWide C.prog W .any base t v) →
      DataW.Whole enc C.prog fn.params.toList s.vars apart W args.toList ds gs before → X W args → W.ShapedOpen C.prog →
      Calls C.prog f args W fun e W' => ∃ v, e = .returned v ∧ s.post enc C.prog fn apart fresh handsOn again W args v W') :
    ReturnsInHanded a C os f .any (fun w args => (s.pre enc C.prog fn conds apart w args ∧ X w args) ∧ sizedMet enc C.prog fn (OpenSpec.ofChange s) apart w args) (s.post enc C.prog fn apart fresh handsOn again) := by
  refine returnsInHanded_of_calls own started noInit witness ?_
  intro w tape i _ hsh _ hok hpre _
  obtain ⟨_, _, _, fn', hfn', _, _, _, _, hval⟩ := hok
  have e : fn' = fn := Option.some.inj (hfn'.symm.trans hfn)
  subst e
  obtain ⟨⟨⟨ds, gs, before, hw, hc⟩, hx⟩, hz⟩ := hpre
  have hw' := DataW.Whole.of_heap (w' := w.forCall tape i) (by rfl) hw
  refine (contract (w.forCall tape i) w.heap.size i.args ds gs before hval hw' (hX _ _ _ (by rfl) hx) hsh).mono fun e W' ⟨v, he, hp⟩ => ?_
  subst he
  exact ChangeSpec.post_blind hp
end Go.Ev
