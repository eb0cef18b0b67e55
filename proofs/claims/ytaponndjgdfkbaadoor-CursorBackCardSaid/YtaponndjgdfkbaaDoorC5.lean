import Derived.Test.YtaponndjgdfkbaaDoorC4
import Derived.Shelf.LaysM
import Derived.Shelf.Strings.Shaped
import Derived.Test.YtaponndjgdfkbaaDoorProg
import Derived.Handed
import Derived.LaidMore
/- A place as a text: it is shown, and parted. -/
namespace Go.Ev.S
open Go Go.Proofs Go.Ev
theorem show1_ev [MaxL] (v : Nat) (hv : v < 18446744073709551616) : call cx 53 [.int .u64 v] [] = some (.str (hx v), []) := by
  have h := fu16_ev v hv
  refine call_run Tryd.func53 rfl ⟨rfl, rfl⟩ ?_
  simp [Tryd.f53, h]
set_option maxHeartbeats 2000000 in
theorem show_ev [MaxL] (c : Cur) (h : CurOk c) : call cx 32 [.agg (Enc.cells c)] [] = some (.str (showL c), []) := by
  obtain ⟨w1, w2, w3, w4⟩ := h
  unfold isU64 at w1 w2 w3 w4
  have e1 : ((c.n.toNat : Nat) : Int) = c.n := by omega
  have e2 : ((c.mono.toNat : Nat) : Int) = c.mono := by omega
  have e3 : ((c.real.toNat : Nat) : Int) = c.real := by omega
  have e4 : ((c.xor.toNat : Nat) : Int) = c.xor := by omega
  have h1 := hex_ev c.seq.l c.seq.h
  have h2 := show1_ev c.n.toNat (by omega)
  have h3 := hex_ev c.boot.l c.boot.h
  have h4 := show1_ev c.mono.toNat (by omega)
  have h5 := show1_ev c.real.toNat (by omega)
  have h6 := show1_ev c.xor.toNat (by omega)
  rw [e1] at h2
  rw [e2] at h4
  rw [e3] at h5
  rw [e4] at h6
  have l1 := hexs_len c.seq.l
  have l2 := hx_len c.n.toNat
  have l3 := hexs_len c.boot.l
  have l4 := hx_len c.mono.toNat
  have l5 := hx_len c.real.toNat
  have l6 := hx_len c.xor.toNat
  rw [c.seq.h] at l1
  rw [c.boot.h] at l3
  unfold showL
  generalize hexs c.seq.l = a1 at *
  generalize hx c.n.toNat = a2 at *
  generalize hexs c.boot.l = a3 at *
  generalize hx c.mono.toNat = a4 at *
  generalize hx c.real.toNat = a5 at *
  generalize hx c.xor.toNat = a6 at *
  clear e1 e2 e3 e4 w1 w2 w3 w4
  obtain ⟨s1, es1⟩ : ∃ s, s = kS ++ a1 := ⟨_, rfl⟩
  have ls1 : s1.length = kS.length + a1.length := by rw [es1, List.length_append]
  obtain ⟨s2, es2⟩ : ∃ s, s = s1 ++ kI := ⟨_, rfl⟩
  have ls2 : s2.length = s1.length + kI.length := by rw [es2, List.length_append]
  obtain ⟨s3, es3⟩ : ∃ s, s = s2 ++ a2 := ⟨_, rfl⟩
  have ls3 : s3.length = s2.length + a2.length := by rw [es3, List.length_append]
  obtain ⟨s4, es4⟩ : ∃ s, s = s3 ++ kB := ⟨_, rfl⟩
  have ls4 : s4.length = s3.length + kB.length := by rw [es4, List.length_append]
  obtain ⟨s5, es5⟩ : ∃ s, s = s4 ++ a3 := ⟨_, rfl⟩
  have ls5 : s5.length = s4.length + a3.length := by rw [es5, List.length_append]
  obtain ⟨s6, es6⟩ : ∃ s, s = s5 ++ kM := ⟨_, rfl⟩
  have ls6 : s6.length = s5.length + kM.length := by rw [es6, List.length_append]
  obtain ⟨s7, es7⟩ : ∃ s, s = s6 ++ a4 := ⟨_, rfl⟩
  have ls7 : s7.length = s6.length + a4.length := by rw [es7, List.length_append]
  obtain ⟨s8, es8⟩ : ∃ s, s = s7 ++ kT := ⟨_, rfl⟩
  have ls8 : s8.length = s7.length + kT.length := by rw [es8, List.length_append]
  obtain ⟨s9, es9⟩ : ∃ s, s = s8 ++ a5 := ⟨_, rfl⟩
  have ls9 : s9.length = s8.length + a5.length := by rw [es9, List.length_append]
  obtain ⟨s10, es10⟩ : ∃ s, s = s9 ++ kX := ⟨_, rfl⟩
  have ls10 : s10.length = s9.length + kX.length := by rw [es10, List.length_append]
  obtain ⟨s11, es11⟩ : ∃ s, s = s10 ++ a6 := ⟨_, rfl⟩
  have ls11 : s11.length = s10.length + a6.length := by rw [es11, List.length_append]
  simp only [kS, kI, kB, kM, kT, kX, List.length_cons, List.length_nil] at ls1 ls2 ls3 ls4 ls5 ls6 ls7 ls8 ls9 ls10 ls11
  have cs1 := cat_of es1 (by (try simp only [kS, List.length_cons, List.length_nil]); omega)
  have cs2 := cat_of es2 (by (try simp only [kI, List.length_cons, List.length_nil]); omega)
  have cs3 := cat_of es3 (by (try simp only [kS, kI, kB, kM, kT, kX, List.length_cons, List.length_nil]); omega)
  have cs4 := cat_of es4 (by (try simp only [kB, List.length_cons, List.length_nil]); omega)
  have cs5 := cat_of es5 (by (try simp only [kS, kI, kB, kM, kT, kX, List.length_cons, List.length_nil]); omega)
  have cs6 := cat_of es6 (by (try simp only [kM, List.length_cons, List.length_nil]); omega)
  have cs7 := cat_of es7 (by (try simp only [kS, kI, kB, kM, kT, kX, List.length_cons, List.length_nil]); omega)
  have cs8 := cat_of es8 (by (try simp only [kT, List.length_cons, List.length_nil]); omega)
  have cs9 := cat_of es9 (by (try simp only [kS, kI, kB, kM, kT, kX, List.length_cons, List.length_nil]); omega)
  have cs10 := cat_of es10 (by (try simp only [kX, List.length_cons, List.length_nil]); omega)
  have cs11 := cat_of es11 (by (try simp only [kS, kI, kB, kM, kT, kX, List.length_cons, List.length_nil]); omega)
  simp only [kS, kI, kB, kM, kT, kX] at cs1 cs2 cs3 cs4 cs5 cs6 cs7 cs8 cs9 cs10 cs11
  have hfin : kS ++ (a1 ++ (kI ++ (a2 ++ (kB ++ (a3 ++ (kM ++ (a4 ++ (kT ++ (a5 ++ (kX ++ a6)))))))))) = s11 := by
    simp [es11, es10, es9, es8, es7, es6, es5, es4, es3, es2, es1]
  rw [hfin]
  clear hfin es1 es2 es3 es4 es5 es6 es7 es8 es9 es10 es11 ls1 ls2 ls3 ls4 ls5 ls6 ls7 ls8 ls9 ls10 ls11 l1 l2 l3 l4 l5 l6
  refine call_run Tryd.func32 rfl ⟨rfl, rfl⟩ ?_
  simp [Tryd.f32, h1, h2, h3, h4, h5, h6, -strD, cs1, cs2, cs3, cs4, cs5, cs6, cs7, cs8, cs9, cs10, cs11]
theorem count_ev [MaxL] (s : List UInt8) (c : UInt8) : call cx 94 [.str s, .str [c]] [] = some (.int .i64 (s.count c : Nat), []) := by
  have h0 : call cx 120 [.str s, .int .u8 c.toNat] [] = some (.int .i64 (s.count c : Nat), []) := by
    rw [call_ext (X := cx) (f := 120) rfl Tryd.func120 rfl, ex120]
    simp [cntExt]
  refine call_run Tryd.func94 rfl ⟨rfl, rfl⟩ ?_
  simp [Tryd.f94, h0]
theorem sindex_ev [MaxL] (s sep : List UInt8) (hs : s.length < 4294967281) : call cx 95 [.str s, .str sep] [] = some (.int .i64 (idxN sep s 0), []) := by
  have h := index_ev s sep hs
  refine call_run Tryd.func95 rfl ⟨rfl, rfl⟩ ?_
  simp [Tryd.f95, h]
theorem flat_rep (n : Nat) : (List.replicate n [D.str []]).flatten = List.replicate n (D.str []) := by
  induction n with
  | zero => rfl
  | succ n ih => rw [List.replicate_succ, List.flatten_cons, ih]; rfl
theorem set_piece (ps : List (List UInt8)) (x : List UInt8) (n : Nat) : setRange (ps.map D.str ++ List.replicate (n + 1) (D.str [])) ps.length [.str x] = (ps ++ [x]).map D.str ++ List.replicate n (D.str []) := by
  have h1 : List.drop (ps.length + 1) (ps.map D.str ++ D.str [] :: List.replicate n (D.str [])) = List.replicate n (D.str []) := by
    rw [show ps.map D.str ++ D.str [] :: List.replicate n (D.str []) = (ps.map D.str ++ [D.str []]) ++ List.replicate n (D.str []) by simp]
    exact List.drop_left' (by simp)
  unfold setRange
  rw [List.replicate_succ]
  simp [h1]
set_option maxHeartbeats 2000000 in
theorem gensplit_ev [MaxL] (c : UInt8) (s : List UInt8) (hs : s.length < 1000000) : call cx 70 [.str s, .str [c], .int .i64 0, .int .i64 (-1)] [] = some (.vsl false ((splitL c s).map D.str) (splitL c s).length, []) := by
  have hc := count_ev s c
  have hcl : s.count c ≤ s.length := List.count_le_length
  unfold splitL
  generalize s.count c = m at *
  refine call_run Tryd.func70 rfl ⟨rfl, rfl⟩ ?_
  have w1 : IntKind.i64.wrap ((m : Int) + 1) = ((m + 1 : Nat) : Int) := by rw [wrap_i64] <;> omega
  have w2 : IntKind.i64.wrap ((s.length : Int) + 1) = ((s.length + 1 : Nat) : Int) := by rw [wrap_i64] <;> omega
  have w3 : ¬ s.length < m := by omega
  have w4 : IntKind.i64.wrap (m : Int) = (m : Int) := by rw [wrap_i64]; omega
  have w5 : (16 : Int) * ((m : Int) + 1) ≤ (maxBytes : Nat) := by simp only [maxBytes]; omega
  have w6 : (m : Int) + 1 ≤ (maxBytes : Nat) := by simp only [maxBytes]; omega
  have w7 : (0 : Int) ≤ (m : Int) + 1 := by omega
  have w8 : IntKind.i64.wrap ((m : Int) + 1 - 1) = (m : Int) := by rw [wrap_i64] <;> omega
  simp [Tryd.f70, hc, w1, w2, w3, w4, w5, w6, w7]
  refine Run.loopThen (fun (q : List (List UInt8) × List UInt8) e H' => q.1.length ≤ m ∧ q.2.length ≤ s.length ∧ q.1 ++ splitN c (m - q.1.length) q.2 = splitN c m s ∧ H' = [some (q.1.map D.str ++ List.replicate (m - q.1.length + 1) (.str []))] ∧
      look e 0 = some (.str q.2) ∧ look e 1 = some (.str [c]) ∧ look e 2 = some (.int .i64 0) ∧ look e 3 = some (.int .i64 m) ∧ look e 9 = some (.osl 0 (m + 1) 0 (m + 1) 1) ∧ look e 10 = some (.int .i64 (q.1.length : Nat))) (fun q => m - q.1.length) ([], s) ?_ ?_
  · simp
  rintro ⟨ps, r⟩ e H' ⟨hp, hr, hgo, rfl, k0, k1, k2, k3, k9, k10⟩
  simp only at hp hr hgo k0 k10
  have hix := sindex_ev r [c] (by omega)
  have hpm : (ps.length : Int) < (m : Int) + 1 := by omega
  have hnn : (0 : Int) ≤ (ps.length : Int) + 1 := by omega
  have hl1 : ps.length + (m - ps.length + 1) = m + 1 := by omega
  have hpw : IntKind.i64.wrap ((ps.length : Int) + 1) = ((ps.length + 1 : Nat) : Int) := by rw [wrap_i64] <;> omega
  have hpl : ps.length + 1 ≤ m + 1 := by omega
  have hfin : ∀ (x : List UInt8), List.take (ps.length + 1) ((ps ++ [x]).map D.str ++ List.replicate (m - ps.length) (.str [])) = (ps ++ [x]).map D.str := by
    intro x
    exact List.take_left' (by simp)
  have hl5 : ps.length + 1 + (m - ps.length) = m + 1 := by omega
  have hidf : idFree.idFreeL (List.map D.str (ps ++ [r]) ++ List.replicate (m - ps.length) (D.str [])) = true := by
    rw [idFreeL_all]
    simp [idFree]
  by_cases hlt : ps.length < m
  · have hlt' : (ps.length : Int) < (m : Int) := by omega
    obtain ⟨d, hd⟩ : ∃ d, m - ps.length = d + 1 := ⟨m - ps.length - 1, by omega⟩
    rw [hd, splitN] at hgo
    rcases idx_cases [c] r 0 with ⟨j, h1, h2, -⟩ | h1
    · rw [Nat.zero_add] at h1
      rw [h1] at hix
      rw [h1, if_neg (by omega)] at hgo
      have hjt : ((j : Nat) : Int).toNat = j := by omega
      rw [hjt] at hgo
      have hj1 : j + 1 ≤ r.length := by simpa using h2
      have hjn : ¬ (j : Int) < 0 := by omega
      have hwj : IntKind.i64.wrap (j : Int) = (j : Int) := by rw [wrap_i64]; omega
      obtain ⟨i, hi⟩ : ∃ i, i = j + 1 := ⟨_, rfl⟩
      have hwi : IntKind.i64.wrap ((j : Int) + 1) = (i : Int) := by rw [wrap_i64] <;> omega
      rw [← hi] at hgo
      have hst := set_piece ps (r.take j) (d + 1)
      have hdr : List.take (r.length - i) (List.drop i r) = r.drop i := List.take_of_length_le (by simp)
      have hrl : (r.drop i).length ≤ s.length := by simp; omega
      have g1 : (j : Int) ≤ (r.length : Int) := by omega
      have g2 : j ≤ r.length := by omega
      have g3 : (i : Int) ≤ (r.length : Int) := by omega
      have g4 : i ≤ r.length := by omega
      have g5 : m - ps.length + 1 = d + 1 + 1 := by omega
      have g6 : m - (ps.length + 1) + 1 = d + 1 := by omega
      have g7 : ps.length + (d + 1 + 1) = m + 1 := by omega
      have g8 : ps.length + 1 ≤ ps.length + (d + 1 + 1) := by omega
      rw [g5]
      simp [-setRange_eq, -List.map_append, -List.map_cons, hp, k0, k1, k2, k3, k9, k10, hlt', hix, hjn, hwj, hwi, g1, g3, g7, hpm, hst, hdr, hpw]
      have hpl2 : (ps ++ [r.take j]).length = ps.length + 1 := by simp
      refine ⟨ps ++ [r.take j], by rw [hpl2]; omega, by rw [hpl2]; omega, r.drop i, hrl, ?_, ?_, rfl, by rw [hpl2]; simp⟩
      · rw [hpl2, show m - (ps.length + 1) = d by omega, ← hgo]
        simp
      · rw [hpl2, show m - (ps.length + 1) + 1 = d + 1 by omega]
    · rw [h1] at hix
      rw [h1, if_pos rfl] at hgo
      have hst := set_piece ps r (m - ps.length)
      rw [← hgo]
      simp [-setRange_eq, -List.map_append, -List.map_cons, hp, hnn, k0, k1, k2, k3, k9, k10, hlt', hix, hpm, hst, hl1, hpw, hpl, hfin, hl5, hidf]
  · have hlt' : ¬ (ps.length : Int) < (m : Int) := by omega
    have hpe : ps.length = m := by omega
    have hd : m - ps.length = 0 := by omega
    rw [hd, splitN] at hgo
    have hst := set_piece ps r (m - ps.length)
    rw [← hgo]
    simp [-setRange_eq, -List.map_append, -List.map_cons, hp, hnn, k0, k1, k2, k3, k9, k10, hlt', hpm, hst, hl1, hpw, hpl, hfin, hl5, hidf]
end Go.Ev.S
/- A text as a place. -/
namespace Go.Ev.S
open Go Go.Proofs Go.Ev
theorem z36 : [.int .u8 0, .int .u8 0, .int .u8 0, .int .u8 0, .int .u8 0, .int .u8 0, .int .u8 0, .int .u8 0, .int .u8 0, .int .u8 0, .int .u8 0, .int .u8 0, .int .u8 0, .int .u8 0, .int .u8 0, .int .u8 0, .int .u64 0, .int .u8 0, .int .u8 0, .int .u8 0, .int .u8 0, .int .u8 0, .int .u8 0, .int .u8 0, .int .u8 0, .int .u8 0, .int .u8 0, .int .u8 0, .int .u8 0, .int .u8 0, .int .u8 0, .int .u8 0, .int .u8 0, .int .u64 0, .int .u64 0, .int .u64 0] = Enc.cells Cur.zero := rfl
def hexP (s : List UInt8) : Nat := (pu 16 s).getD 0
theorem hexP_lt (s : List UInt8) : hexP s < 18446744073709551616 := by
  unfold hexP
  cases h : pu 16 s with
  | none => decide
  | some v => exact pu16_lt h
def curOf (l : List (List UInt8)) : Cur := ⟨idOf (l.getD 0 []), hexP (l.getD 1 []), idOf (l.getD 2 []), hexP (l.getD 3 []), hexP (l.getD 4 []), hexP (l.getD 5 [])⟩
theorem curOf_ok (l : List (List UInt8)) : CurOk (curOf l) := by
  have h := hexP_lt
  refine ⟨?_, ?_, ?_, ?_⟩
  · have := h (l.getD 1 []); show isU64 (hexP (l.getD 1 []) : Nat); unfold isU64; omega
  · have := h (l.getD 3 []); show isU64 (hexP (l.getD 3 []) : Nat); unfold isU64; omega
  · have := h (l.getD 4 []); show isU64 (hexP (l.getD 4 []) : Nat); unfold isU64; omega
  · have := h (l.getD 5 []); show isU64 (hexP (l.getD 5 []) : Nat); unfold isU64; omega
def valsP (s : List UInt8) : List (List UInt8) := (splitL 59 s).map (cutAt 61)
def parseP (s : List UInt8) : Cur × Bool := if (valsP s).length = 6 ∧ showL (curOf (valsP s)) = s then (curOf (valsP s), true) else (Cur.zero, false)
theorem cutAt_cutL (c : UInt8) (s : List UInt8) : (cutL [c] s).2.1 = cutAt c s := by
  unfold cutL cutAt
  split <;> rfl
theorem strs_at {l : List (List UInt8)} {i : Nat} (h : i < l.length) : (l.map D.str).drop i = .str l[i] :: (l.map D.str).drop (i + 1) := by
  rw [List.drop_eq_getElem_cons (by simpa using h)]
  simp
theorem parse1_ev [MaxL] (x : List UInt8) (l : List (List UInt8)) (hl : l.length = 6) (hs : ∀ y ∈ l, y.length < 1000000) (i : Nat) (hi : i < 6) (n : Int) (hn : n = (i : Int)) :
    call cx 57 [.int .i64 n, .optr 1 1 0] [some (Enc.cells Cur.zero), some [.osl 3 6 0 6 1], some [.str x], some (l.map D.str)] = some (.int .u64 (hexP (l.getD i []) : Nat), [some (Enc.cells Cur.zero), some [.osl 3 6 0 6 1], some [.str x], some (l.map D.str)]) := by
  subst hn
  have hil : i < l.length := by omega
  have hgd : l.getD i [] = l[i] := by rw [List.getD, List.getElem?_eq_getElem hil]; rfl
  have hat := strs_at hil
  have hsi := hs l[i] (List.getElem_mem hil)
  rw [hgd]
  generalize l[i] = y at *
  have hi' : (i : Int) < 6 := by omega
  refine call_run Tryd.func57 rfl ⟨rfl, rfl⟩ ?_
  unfold hexP
  rcases pu_ev 16 (.inr rfl) y (by omega) with ⟨v, e1, e2⟩ | ⟨e1, w, d, e2⟩
  · replace e2 : call cx 58 [.str y, .int .i64 16, .int .i64 64] [] = some (.tup [.int .u64 v, .nili], []) := e2
    rw [e1]
    simp [Tryd.f57, hi', hl, hat, e2]
  · replace e2 : call cx 58 [.str y, .int .i64 16, .int .i64 64] [] = some (.tup [.int .u64 w, .iface 137 (.vptr d)], []) := e2
    rw [e1]
    simp [Tryd.f57, hi', hl, hat, e2]
theorem split_ev [MaxL] (c : UInt8) (s : List UInt8) (hs : s.length < 1000000) : call cx 55 [.str s, .str [c]] [] = some (.vsl false ((splitL c s).map D.str) (splitL c s).length, []) := by
  have h := gensplit_ev c s hs
  refine call_run Tryd.func55 rfl ⟨rfl, rfl⟩ ?_
  simp [Tryd.f55, h]
theorem splitN_le (c : UInt8) : ∀ (n : Nat) (s : List UInt8), ∀ x ∈ splitN c n s, x.length ≤ s.length
  | 0, s, x, h => by simp [splitN] at h; rw [h]; exact Nat.le_refl _
  | n + 1, s, x, h => by
    rw [splitN] at h
    split at h
    · simp at h; rw [h]; exact Nat.le_refl _
    · rcases List.mem_cons.1 h with rfl | h
      · simp; omega
      · have := splitN_le c n _ x h
        simp at this
        omega
theorem cutAt_le (c : UInt8) (s : List UInt8) : (cutAt c s).length ≤ s.length := by
  unfold cutAt
  split <;> simp
theorem splitN_len (c : UInt8) : ∀ (n : Nat) (s : List UInt8), (splitN c n s).length ≤ n + 1
  | 0, s => by simp [splitN]
  | n + 1, s => by
    rw [splitN]
    split
    · simp
    · have := splitN_len c n (s.drop ((idxN [c] s 0).toNat + 1))
      simp
      omega
def TakenP (V : List (List UInt8)) (k : Nat) (W : List (List UInt8)) : Prop := W = V.take k
theorem taken_step {V W : List (List UInt8)} {k : Nat} (h : TakenP V k W) {v : List UInt8} (hv : V[k]? = some v) : TakenP V (k + 1) (W ++ [v]) := by
  unfold TakenP at *
  rw [List.take_add_one, hv, h]
  rfl
set_option maxHeartbeats 4000000 in
set_option maxRecDepth 4000 in
theorem parse_ev [MaxL] (s : List UInt8) (hs : s.length < 100000) : call cx 33 [.str s] [] = some (.tup [.agg (Enc.cells (parseP s).1), .bool (parseP s).2], []) := by
  have hsp := split_ev 59 s (by omega)
  have hpl : ∀ x ∈ splitL 59 s, x.length ≤ s.length := splitN_le 59 _ s
  have hpn : (splitL 59 s).length ≤ s.length + 1 := Nat.le_trans (splitN_len 59 _ s) (by have := List.count_le_length (a := (59 : UInt8)) (l := s); omega)
  have hp0 : 0 < (splitL 59 s).length := splitN_pos 59 _ s
  have hz := z36
  have hP : parseP s = if (valsP s).length = 6 ∧ showL (curOf (valsP s)) = s then (curOf (valsP s), true) else (Cur.zero, false) := rfl
  have hV : valsP s = (splitL 59 s).map (cutAt 61) := rfl
  generalize parseP s = res at *
  generalize valsP s = V at *
  generalize splitL 59 s = P at *
  refine call_run Tryd.func33 rfl ⟨rfl, rfl⟩ ?_
  simp [Tryd.f33, hsp, hz]
  refine Run.loopThen (fun (k : Nat) e H' => k ≤ P.length ∧ look e 0 = some (.str s) ∧ look e 2 = some (.optr 0 36 0) ∧ look e 4 = some (.optr 1 1 0) ∧ look e 13 = some (.vsl false (P.map D.str) P.length) ∧ look e 14 = some (.int .i64 P.length) ∧ look e 15 = some (.int .i64 k) ∧
      ((k = 0 ∧ H' = [some (Enc.cells Cur.zero), some [.vsl true [] 0]]) ∨
       (∃ W x, TakenP V k W ∧ W.length = k ∧ H' = [some (Enc.cells Cur.zero), some [.osl 3 W.length 0 W.length 1], some [.str x], some (W.map D.str)]) ∨
       (∃ W x y, TakenP V k W ∧ W.length = k ∧ H' = [some (Enc.cells Cur.zero), some [.osl 3 W.length 0 W.length 1], some [.str x], some (W.map D.str), some [.str y]]))) (fun k => P.length - k) 0 ?_ ?_
  · simp
  rintro k e H' ⟨hk, k0, k2, k4, k13, k14, k15, hH⟩
  have hVl : V.length = P.length := by rw [hV]; simp
  by_cases hlt : k < P.length
  · have hlt' : (k : Int) < (P.length : Int) := by omega
    have hw : IntKind.i64.wrap ((k : Int) + 1) = ((k + 1 : Nat) : Int) := by rw [wrap_i64] <;> omega
    have hat := strs_at hlt
    have hcut := cut_ev P[k] [61] (by have := hpl _ (List.getElem_mem hlt); omega) (by decide)
    rw [cutAt_cutL] at hcut
    have hvk : V[k]? = some (cutAt 61 P[k]) := by
      rw [hV, List.getElem?_map, List.getElem?_eq_getElem hlt]
      rfl
    generalize P[k] = p at *
    generalize cutAt 61 p = v at *
    generalize (cutL [61] p).1 = c1 at *
    generalize (cutL [61] p).2.2 = c3 at *
    have hmx : (k + 1) * 16 ≤ maxBytes := Nat.le_trans (show _ ≤ 2000000 by omega) (by decide)
    have hmx2 : k + 1 ≤ maxBytes := Nat.le_trans (show _ ≤ 2000000 by omega) (by decide)
    rcases hH with ⟨rfl, rfl⟩ | ⟨W, x, hW, hWl, rfl⟩ | ⟨W, x, y, hW, hWl, rfl⟩
    · have hm1 : 16 ≤ maxBytes := by decide
      have hm2 : 1 ≤ maxBytes := by decide
      have hT : TakenP V 1 [v] := taken_step (W := []) (k := 0) rfl hvk
      simp [k0, k2, k4, k13, k14, k15, hlt, hat, hcut, hm1, hm2]
      exact ⟨1, by omega, by omega, by simp, [v], hT, rfl, rfl, rfl⟩
    · have hT := taken_step hW hvk
      rw [← hWl] at hmx hmx2
      simp [k0, k2, k4, k13, k14, k15, hlt', hat, hcut, hw, hmx, hmx2]
      exact ⟨k + 1, by omega, by omega, by simp, W ++ [v], hT, by simp [hWl], by simp, by simp⟩
    · have hT := taken_step hW hvk
      rw [← hWl] at hmx hmx2
      simp [k0, k2, k4, k13, k14, k15, hlt', hat, hcut, hw, hmx, hmx2]
      exact ⟨k + 1, by omega, by omega, by simp, W ++ [v], hT, by simp [hWl], by simp, by simp⟩
  · have hlt' : ¬ (k : Int) < (P.length : Int) := by omega
    have hke : k = P.length := by omega
    have hvk : V.take k = V := List.take_of_length_le (by omega)
    have hVs : ∀ y ∈ V, y.length < 1000000 := by
      intro y hy
      rw [hV] at hy
      obtain ⟨p, hp, rfl⟩ := List.mem_map.1 hy
      have h1 := cutAt_le 61 p
      have h2 := hpl p hp
      omega
    by_cases h6 : V.length = 6
    · have hp1 := fun x i hi n hn => parse1_ev x V h6 hVs i hi n hn
      obtain ⟨y0, y1, y2, y3, y4, y5, hVy⟩ : ∃ y0 y1 y2 y3 y4 y5, V = [y0, y1, y2, y3, y4, y5] := by
        clear hP hp1 hH hV hVl hVs hvk
        match V, h6 with
        | [a, b, c, d, e, f], _ => exact ⟨a, b, c, d, e, f, rfl⟩
      have hcu : curOf [y0, y1, y2, y3, y4, y5] = ⟨idOf y0, (hexP y1 : Nat), idOf y2, (hexP y3 : Nat), (hexP y4 : Nat), (hexP y5 : Nat)⟩ := rfl
      have i0 : call cx 34 [.str y0] [] = some (.tup [.agg (ofBytes (idOf y0).l), .bool (idP y0).isSome], []) := id_ev y0 (hVs y0 (by rw [hVy]; simp))
      have i2 : call cx 34 [.str y2] [] = some (.tup [.agg (ofBytes (idOf y2).l), .bool (idP y2).isSome], []) := id_ev y2 (hVs y2 (by rw [hVy]; simp))
      have hsh := show_ev (curOf V) (curOf_ok V)
      have hd36 : List.drop 36 (Enc.cells Cur.zero) = [] := List.drop_eq_nil_of_le (by simp)
      rcases hH with ⟨h, _⟩ | ⟨W, x, hW, hWl, rfl⟩ | ⟨W, x, y, hW, hWl, rfl⟩
      · omega
      · skip
        have hWV : W = V := by rw [← hvk]; exact hW
        subst hWV
        have p1 := hp1 x 1 (by omega) 1 rfl
        have p3 := hp1 x 3 (by omega) 3 rfl
        have p4 := hp1 x 4 (by omega) 4 rfl
        have p5 := hp1 x 5 (by omega) 5 rfl
        clear hp1 hVs hV hVl hW hvk hWl
        rw [hVy] at p1 p3 p4 p5 h6 ⊢
        simp at p1 p3 p4 p5
        by_cases hq : showL (curOf W) = s
        · rw [if_pos ⟨by rw [hVy]; rfl, hq⟩] at hP
          subst hP
          rw [hVy, hcu] at hq
          rw [hVy, hcu] at hsh
          rw [hq] at hsh
          rw [hVy, hcu]
          simp [k0, k2, k4, k13, k14, k15, hlt', p1, p3, p4, p5, i0, i2, hz, hd36, hsh]
        · rw [if_neg (fun h => hq h.2)] at hP
          subst hP
          rw [hVy, hcu] at hq hsh
          have hq2 : (showL ⟨idOf y0, (hexP y1 : Nat), idOf y2, (hexP y3 : Nat), (hexP y4 : Nat), (hexP y5 : Nat)⟩ == s) = false := beq_eq_false_iff_ne.2 hq
          generalize showL ⟨idOf y0, (hexP y1 : Nat), idOf y2, (hexP y3 : Nat), (hexP y4 : Nat), (hexP y5 : Nat)⟩ = w at *
          simp [k0, k2, k4, k13, k14, k15, hlt', p1, p3, p4, p5, i0, i2, hz, hd36, hsh, hq2]
      · skip
        have hWV : W = V := by rw [← hvk]; exact hW
        subst hWV
        have p1 := hp1 x 1 (by omega) 1 rfl
        have p3 := hp1 x 3 (by omega) 3 rfl
        have p4 := hp1 x 4 (by omega) 4 rfl
        have p5 := hp1 x 5 (by omega) 5 rfl
        clear hp1 hVs hV hVl hW hvk hWl
        rw [hVy] at p1 p3 p4 p5 h6 ⊢
        simp at p1 p3 p4 p5
        by_cases hq : showL (curOf W) = s
        · rw [if_pos ⟨by rw [hVy]; rfl, hq⟩] at hP
          subst hP
          rw [hVy, hcu] at hq
          rw [hVy, hcu] at hsh
          rw [hq] at hsh
          rw [hVy, hcu]
          simp [k0, k2, k4, k13, k14, k15, hlt', p1, p3, p4, p5, i0, i2, hz, hd36, hsh]
        · rw [if_neg (fun h => hq h.2)] at hP
          subst hP
          rw [hVy, hcu] at hq hsh
          have hq2 : (showL ⟨idOf y0, (hexP y1 : Nat), idOf y2, (hexP y3 : Nat), (hexP y4 : Nat), (hexP y5 : Nat)⟩ == s) = false := beq_eq_false_iff_ne.2 hq
          generalize showL ⟨idOf y0, (hexP y1 : Nat), idOf y2, (hexP y3 : Nat), (hexP y4 : Nat), (hexP y5 : Nat)⟩ = w at *
          simp [k0, k2, k4, k13, k14, k15, hlt', p1, p3, p4, p5, i0, i2, hz, hd36, hsh, hq2]
    · have h6' : ¬ (V.length : Int) = 6 := by omega
      rw [if_neg (fun h => h6 h.1)] at hP
      subst hP
      rcases hH with ⟨h, _⟩ | ⟨W, x, hW, hWl, rfl⟩ | ⟨W, x, y, hW, hWl, rfl⟩
      · omega
      · have hWV : W = V := by rw [← hvk]; exact hW
        subst hWV
        simp [k0, k2, k4, k13, k14, k15, hlt', h6', hz]
      · have hWV : W = V := by rw [← hvk]; exact hW
        subst hWV
        simp [k0, k2, k4, k13, k14, k15, hlt', h6', hz]
end Go.Ev.S
/- Small numbers. -/
namespace Go.Ev.S
open Go Go.Proofs Go.Ev
theorem number_ev [MaxL] (n b : Int) : call cx 13 [.int .i64 n, .int .i64 b] [] = some (.int .i64 (if b < 1 then 0 else (IntKind.i64.wrap (n.tmod b + b)).tmod b), []) := by
  refine call_run Tryd.func13 rfl ⟨rfl, rfl⟩ ?_
  by_cases h1 : b < 1
  · simp [Tryd.f13, h1]
  · have h2 : b ≠ 0 := by omega
    simp [Tryd.f13, h1, h2]
/-- A number below b. -/
theorem num_ev [MaxL] (n : Int) (b : Nat) (hb : 1 ≤ b) (hb2 : b ≤ 1000000) : ∃ x : Nat, x < b ∧ call cx 13 [.int .i64 n, .int .i64 b] [] = some (.int .i64 x, []) := by
  have h1 : n.tmod b < b := Int.tmod_lt_of_pos _ (by omega)
  have h2 : -(b : Int) < n.tmod b := by
    have := Int.tmod_lt_of_pos (-n) (show (0 : Int) < b by omega)
    rw [Int.neg_tmod] at this
    omega
  have h := number_ev n b
  rw [if_neg (by omega)] at h
  generalize n.tmod b = x at *
  have hw : IntKind.i64.wrap (x + b) = x + b := by rw [wrap_i64]; omega
  rw [hw] at h
  have h3 : 0 ≤ x + b := by omega
  have h4 := Int.tmod_nonneg (b : Int) h3
  have h5 := Int.tmod_lt_of_pos (x + b) (show (0 : Int) < b by omega)
  refine ⟨((x + b).tmod b).toNat, by omega, ?_⟩
  rw [h]
  congr 3
  omega
end Go.Ev.S
/- CursorBack: the law answers true. -/
namespace Go.Ev.S
open Go Go.Proofs Go.Ev
theorem first19b_ev [MaxL] : call cx 11 [] [] = some (.bool true, []) := call_some.2 ⟨900, by kernel_rfl⟩
theorem dval_hexc : ∀ k, k < 16 → dval (hexc k) = some k := by decide
theorem puGo_app16 : ∀ (l r : List UInt8) (n : Nat), puGo 16 (l ++ r) n = match puGo 16 l n with
    | none => none
    | some m => puGo 16 r m
  | [], r, n => by simp [puGo]
  | c :: l, r, n => by
    simp only [List.cons_append, puGo]
    cases dval c with
    | none => rfl
    | some d =>
      simp only
      split
      · rfl
      · split
        · rfl
        · exact puGo_app16 l r _
theorem puGo_hexF : ∀ (f v : Nat), v < 16 ^ f → 1 ≤ f → v < 18446744073709551616 → puGo 16 (hexF f v) 0 = some v
  | f + 1, v, h, _, h64 => by
    rw [hexF]
    by_cases hv : v < 16
    · rw [if_pos hv]
      simp only [puGo, dval_hexc v hv]
      rw [if_neg (by omega), if_neg (by omega)]
      congr 1
      omega
    · rw [if_neg hv, puGo_app16]
      have hf : 1 ≤ f := by
        rcases f with _ | f
        · simp at h; omega
        · omega
      rw [puGo_hexF f (v / 16) (by rw [Nat.pow_succ] at h; omega) hf (by omega)]
      simp only [puGo, dval_hexc _ (Nat.mod_lt v (by decide : 16 > 0))]
      rw [if_neg (by omega), if_neg (by omega)]
      congr 1
      omega
theorem puGo_hx {v : Nat} (h : v < 18446744073709551616) : puGo 16 (hx v) 0 = some v := puGo_hexF 16 v (by omega) (by omega) h
theorem pu_hx {v : Nat} (h : v < 18446744073709551616) : pu 16 (hx v) = some v := by
  have hp := hx_pos v
  unfold pu
  rw [if_neg (by intro e; rw [e] at hp; simp at hp)]
  exact puGo_hx h
theorem puGo_zeros (l : List UInt8) : ∀ n, puGo 16 (List.replicate n 48 ++ l) 0 = puGo 16 l 0
  | 0 => rfl
  | n + 1 => by
    rw [List.replicate_succ, List.cons_append, puGo]
    have : dval 48 = some 0 := by decide
    rw [this]
    simp only
    rw [if_neg (by omega), if_neg (by omega)]
    exact puGo_zeros l n
theorem numF_fixed {v : Nat} (h : v < 18446744073709551616) : numF (fixed v) = some v := by
  have hl := fixed_len v
  have hp : pu 16 (fixed v) = some v := by
    unfold pu
    rw [if_neg (by intro e; rw [e] at hl; simp at hl)]
    unfold fixed
    rw [puGo_zeros, puGo_hx h]
  unfold numF
  rw [hp]
  simp
theorem curOf_vals (c : Cur) (h : CurOk c) : curOf [hexs c.seq.l, hx c.n.toNat, hexs c.boot.l, hx c.mono.toNat, hx c.real.toNat, hx c.xor.toNat] = c := by
  obtain ⟨w1, w2, w3, w4⟩ := h
  unfold isU64 at w1 w2 w3 w4
  have e : ∀ x : Int, 0 ≤ x ∧ x < 18446744073709551616 → ((hexP (hx x.toNat) : Nat) : Int) = x := by
    intro x hx
    unfold hexP
    rw [pu_hx (by omega)]
    show ((x.toNat : Nat) : Int) = x
    omega
  unfold curOf
  simp only [List.getD_cons_zero, List.getD_cons_succ, idOf_hexs, e _ w1, e _ w2, e _ w3, e _ w4]
theorem parse_show (c : Cur) (h : CurOk c) : parseP (showL c) = (c, true) := by
  have hv : valsP (showL c) = _ := vals_show c
  unfold parseP
  rw [hv, curOf_vals c h]
  simp
theorem parseP_show {s : List UInt8} (h : (parseP s).2 = true) : showL (parseP s).1 = s := by
  unfold parseP at h ⊢
  split at h
  · rename_i hc
    rw [if_pos hc]
    exact hc.2
  · cases h
theorem curZero_ok : CurOk Cur.zero := by
  refine ⟨?_, ?_, ?_, ?_⟩ <;> (show isU64 0; unfold isU64; omega)
theorem parseP_ok (s : List UInt8) : CurOk (parseP s).1 := by
  unfold parseP
  split
  · exact curOf_ok _
  · exact curZero_ok
theorem xorI8 (a b : UInt8) : xorI .u8 (a.toNat : Int) (b.toNat : Int) = ((a ^^^ b).toNat : Int) := by
  unfold xorI
  have h := (a ^^^ b).toNat_lt
  have e : (BitVec.ofInt IntKind.u8.bits (a.toNat : Int) ^^^ BitVec.ofInt IntKind.u8.bits (b.toNat : Int)).toNat = (a ^^^ b).toNat := by
    simp [IntKind.bits]
    rfl
  rw [e, wrap_u8]
  omega
theorem xor_self8 {x y : UInt8} (h : x ^^^ y = x) : y = 0 := by
  have h2 : x ^^^ (x ^^^ y) = x ^^^ x := by rw [h]
  rw [← UInt8.xor_assoc, UInt8.xor_self, UInt8.zero_xor] at h2
  exact h2
/-- What a text, read, has to do with a place. -/
theorem parse_else {c : Cur} (hinj : ∀ d, CurOk d → showL d = showL c → d = c) {t : List UInt8} (h : (parseP t).2 = true) : showL (parseP t).1 = t ∧ curEq (parseP t).1 c = decide (t = showL c) := by
  have h2 := parseP_show h
  refine ⟨h2, ?_⟩
  by_cases hy : t = showL c
  · rw [hy] at h2
    rw [decide_eq_true hy, hy]
    exact (curEq_iff _ _).2 (hinj _ (parseP_ok _) h2)
  · rw [decide_eq_false hy]
    cases hq : curEq (parseP t).1 c with
    | false => rfl
    | true =>
      have h3 := (curEq_iff _ _).1 hq
      rw [h3] at h2
      exact absurd h2.symm hy
set_option maxHeartbeats 4000000 in
set_option maxRecDepth 4000 in
theorem back19_ev [MaxL] (c : Cur) (hc : CurOk c) (at_ : Int) (y : UInt8) : call cx 10 [.agg (Enc.cells c), .int .i64 at_, .int .u8 y.toNat] [] = some (.bool true, []) := by
  have hf := first19b_ev
  have hs := show_ev c hc
  have hl := showL_len c
  have p1 := parse_ev (showL c) (by omega)
  rw [parse_show c hc] at p1
  simp only at p1
  have hinj : ∀ d, CurOk d → showL d = showL c → d = c := by
    intro d hd e
    have := parse_show d hd
    rw [e, parse_show c hc] at this
    exact (Prod.mk.inj this).1.symm
  have i1 := hex_ev c.seq.l c.seq.h
  have i2 := id_ev (hexs c.seq.l) (by rw [hexs_len, c.seq.h]; omega)
  rw [idP_hexs c.seq.h] at i2
  have wx : 0 ≤ c.xor ∧ c.xor < 18446744073709551616 := hc.xor
  have ex : ((c.xor.toNat : Nat) : Int) = c.xor := by omega
  have i3 := fixed_ev c.xor.toNat (by omega)
  have i4 := number16_ev (fixed c.xor.toNat) (by rw [fixed_len]; omega)
  rw [numF_fixed (by omega)] at i4
  simp only [Option.getD_some, Option.isSome_some, ex] at i2 i3 i4
  generalize fixed c.xor.toNat = fx at *
  generalize hexs c.seq.l = hq at *
  have hpe := fun t => @parse_else c hinj t
  have hpo := parseP_ok
  obtain ⟨s, hsc⟩ : ∃ s, s = showL c := ⟨_, rfl⟩
  rw [← hsc] at hs hl p1 hpe
  clear hinj
  obtain ⟨k, hk, hn⟩ := num_ev at_ s.length (by omega) (by omega)
  have hgd : s[k]? = some s[k] := List.getElem?_eq_getElem hk
  have hat := ofBytes_at hk
  have hx := xorI8 s[k] y
  have hset := set_bytes s k (s[k] ^^^ y) hk
  have q1 := parse_ev (s.set k (s[k] ^^^ y)) (by simp; omega)
  have hsl : (s.set k (s[k] ^^^ y)).length = s.length := by simp
  have r1 : (parseP (s.set k (s[k] ^^^ y))).2 = true → showL (parseP (s.set k (s[k] ^^^ y))).1 = s.set k (s[k] ^^^ y) ∧ curEq (parseP (s.set k (s[k] ^^^ y))).1 c = decide (y.toNat = 0) := by
    intro h
    obtain ⟨a1, a2⟩ := hpe _ h
    refine ⟨a1, ?_⟩
    rw [a2]
    by_cases hy : y.toNat = 0
    · have hy2 : y = 0 := UInt8.toNat_inj.1 hy
      subst hy2
      rw [decide_eq_true hy, decide_eq_true]
      simp
    · rw [decide_eq_false hy, decide_eq_false]
      intro e
      have e2 := congrArg (fun l : List UInt8 => l[k]?) e
      simp only [List.getElem?_set_self hk, hgd, Option.some.injEq] at e2
      exact hy (by rw [xor_self8 e2]; rfl)
  have o1 := hpo (s.set k (s[k] ^^^ y))
  generalize s.set k (s[k] ^^^ y) = t1 at *
  obtain ⟨j, hj⟩ : ∃ j, j = k + 1 := ⟨_, rfl⟩
  have hd2 : List.take (j - k) (List.drop k s) = [s[k]] := by
    rw [hj, List.drop_eq_getElem_cons hk, show k + 1 - k = 1 by omega]
    rfl
  have lA : (s.take k).length = k := by rw [List.length_take]; omega
  have lB : (s.drop j).length = s.length - j := List.length_drop ..
  have lC : (s.drop k).length = s.length - k := List.length_drop ..
  obtain ⟨A, hA⟩ : ∃ A, A = s.take k := ⟨_, rfl⟩
  obtain ⟨B, hB⟩ : ∃ B, B = s.drop j := ⟨_, rfl⟩
  obtain ⟨C, hC⟩ : ∃ C, C = s.drop k := ⟨_, rfl⟩
  have hd1 : List.take (s.length - j) (List.drop j s) = B := by rw [hB]; exact List.take_of_length_le (by simp)
  have hd3 : List.take (s.length - k) (List.drop k s) = C := by rw [hC]; exact List.take_of_length_le (by simp)
  rw [← hA] at lA
  rw [← hB] at lB
  rw [← hC] at lC
  have hA' := hA.symm
  generalize s[k] = x at *
  have q2 := parse_ev (A ++ B) (by simp; omega)
  have r2 : (parseP (A ++ B)).2 = true → curEq (parseP (A ++ B)).1 c = false := by
    intro h
    rw [(hpe _ h).2, decide_eq_false]
    intro e
    have := congrArg List.length e
    simp at this
    omega
  have q3 := parse_ev (A ++ (x :: C)) (by simp; omega)
  have r3 : (parseP (A ++ (x :: C))).2 = true → curEq (parseP (A ++ (x :: C))).1 c = false := by
    intro h
    rw [(hpe _ h).2, decide_eq_false]
    intro e
    have := congrArg List.length e
    simp at this
    omega
  generalize parseP t1 = v1 at *
  generalize parseP (A ++ B) = v2 at *
  generalize parseP (A ++ (x :: C)) = v3 at *
  obtain ⟨v1, f1⟩ := v1
  obtain ⟨v2, f2⟩ := v2
  obtain ⟨v3, f3⟩ := v3
  simp only at q1 q2 q3 r1 r2 r3 o1
  have q4 := show_ev v1 o1
  have hcc : curEq c c = true := (curEq_iff c c).2 rfl
  have hw : IntKind.i64.wrap ((k : Int) + 1) = (j : Int) := by rw [wrap_i64] <;> omega
  have g1 : ¬ (s.length : Int) < 80 := by omega
  have g2 : (k : Int) < (s.length : Int) := by omega
  have g3 : (k : Int) ≤ (s.length : Int) := by omega
  have g4 : (j : Int) ≤ (s.length : Int) := by omega
  have g5 : k ≤ s.length := by omega
  have g6 : j ≤ s.length := by omega
  have g7 : k ≤ j := by omega
  have g8 : k + 1 ≤ s.length := by omega
  have b1 : A.length + B.length ≤ 4611686018427387904 := by omega
  have b2 : A.length + 1 ≤ 4611686018427387904 := by omega
  have b3 : A.length + (1 + C.length) ≤ 4611686018427387904 := by omega
  have b4 : A.length + 1 + C.length ≤ 4611686018427387904 := by omega
  have hs0 : (0 : Int) < (s.length : Int) := by omega
  clear hpe hpo hsc hA hB hC
  refine call_run Tryd.func10 rfl ⟨rfl, rfl⟩ ?_
  have hz := z36
  have hd36 : List.drop 36 (Enc.cells Cur.zero) = [] := List.drop_eq_nil_of_le (by simp)
  generalize x ^^^ y = xy at *
  by_cases hy : y.toNat = 0
  · rw [decide_eq_true hy] at r1
    have hx0 : xorI .u8 (x.toNat : Int) (0 : Int) = (xy.toNat : Int) := by rw [← hx, hy]; rfl
    cases f1 <;> cases f2 <;> cases f3 <;> simp only [true_implies, false_implies, Bool.false_eq_true] at r1 r2 r3 <;>
      simp [Tryd.f10, hz, hd36, hf, hs, p1, i1, i2, i3, i4, hn, hat, hx0, hset, hsl, q1, q2, q3, q4, r1, r2, r3, hcc, hw, g1, g2, g3, g4, g7, g8, b1, b2, b4, hd1, hd2, hd3, hA', hy]
  · rw [decide_eq_false hy] at r1
    cases f1 <;> cases f2 <;> cases f3 <;> simp only [true_implies, false_implies, Bool.false_eq_true] at r1 r2 r3 <;>
      simp [Tryd.f10, hz, hd36, hf, hs, p1, i1, i2, i3, i4, hn, hat, hx, hset, hsl, q1, q2, q3, q4, r1, r2, r3, hcc, hw, g1, g2, g3, g4, g7, g8, b1, b2, b4, hd1, hd2, hd3, hA', hy]
end Go.Ev.S
/- The library as it lies in this program: the shelf's layings, printed by its tool. -/
namespace Go.Proofs
open Go.Shelf
def Tryd.laysM219_ren : Go.Shelf.Ren := ⟨fun | 219 => 96 | 217 => 74 | 225 => 121 | 224 => 85 | 267 => 122 | 266 => 103 | 314 => 131 | n => n, fun | 9 => 9 | 3 => 3 | 4 => 4 | 5 => 5 | 46 => 108 | 146 => 141 | 51 => 140 | n => n, fun | 1 => 0 | n => n⟩
theorem Tryd.laysM219 : Go.Proofs.LaysM.n219 Tryd.prog Tryd.laysM219_ren := {
  mixed := by kernel_rfl
  f217 := Tryd.func74.trans (congrArg some (by kernel_rfl))
  f219 := Tryd.func96.trans (congrArg some (by kernel_rfl))
  f224 := Tryd.func85.trans (congrArg some (by kernel_rfl))
  f225 := Tryd.func121.trans (congrArg some (by kernel_rfl))
  f266 := Tryd.func103.trans (congrArg some (by kernel_rfl))
  f267 := Tryd.func122.trans (congrArg some (by kernel_rfl))
  f314 := Tryd.func131.trans (congrArg some (by kernel_rfl))
  t3 := Tryd.underlying3
  a3 := Tryd.isAgg3
  z3 := Tryd.sizeOf3
  v3 := Tryd.zeroValue3
  t4 := Tryd.underlying4
  a4 := Tryd.isAgg4
  z4 := Tryd.sizeOf4
  v4 := Tryd.zeroValue4
  t5 := Tryd.underlying5
  a5 := Tryd.isAgg5
  z5 := Tryd.sizeOf5
  v5 := Tryd.zeroValue5
  t9 := Tryd.underlying9
  a9 := Tryd.isAgg9
  z9 := Tryd.sizeOf9
  v9 := Tryd.zeroValue9
  t46 := Tryd.underlying108
  a46 := Tryd.isAgg108
  z46 := Tryd.sizeOf108
  v46 := Tryd.zeroValue108
  t51 := Tryd.underlying140
  a51 := Tryd.isAgg140
  z51 := Tryd.sizeOf140
  v51 := Tryd.zeroValue140
  t146 := Tryd.underlying141
  a146 := Tryd.isAgg141
  z146 := Tryd.sizeOf141
  v146 := Tryd.zeroValue141
  g1 := by kernel_rfl
  i3 := by kernel_rfl
  i4 := by kernel_rfl
  i5 := by kernel_rfl
  i9 := by kernel_rfl
  i46 := by kernel_rfl
  i51 := by kernel_rfl
  i146 := by kernel_rfl
  m1 := by kernel_rfl
  s1_3 := fun w h => Go.Proofs.cell_of_shapedOpen_int (zero := #[.int .i64 0]) (t := 3) h (of_decide_eq_true (by kernel_rfl)) (by kernel_rfl) rfl (by kernel_rfl) (by kernel_rfl) Tryd.underlying3 }
end Go.Proofs
/- A law whose rows list variables: the world is of the program's shape, too. -/
namespace Go.Ev
open Go Go.Proofs Go.ChangeShapes Go.WideShapes Go.ChangeAt Go.RowKit
theorem handed_shaped {H : Type} {enc : TypeId × Value → H} {a : Assume} {C : Checked} {os : Os} {f : FuncId} {fn : Func} {s : ChangeSpec} {conds : List PathCond} {apart fresh handsOn again : Bool} {X : World → Array Value → Prop}
    (hX : ∀ (w w' : World) (args : Array Value), w.heap = w'.heap → X w args → X w' args)
    (own : ownKnob C.prog.godebug = none) (started : os.Started) (noInit : C.prog.inits.idxOf? f = none) (hfn : C.prog.funcs[f]? = some fn)
    (witness : ∃ (w : World) (tape : Tape) (i : Input), w.os = os ∧ (w.forCall tape i).Shaped C.prog ∧ i.vars = [] ∧ Input.okWide C.prog (w.forCall tape i) .any w.heap.size f i ∧
      ((s.pre enc C.prog fn conds apart (w.forCall tape i).memory i.args ∧ X (w.forCall tape i).memory i.args) ∧ sizedMet enc C.prog fn (OpenSpec.ofChange s) apart (w.forCall tape i).memory i.args) ∧ a.holds C.prog (lone (Frame.enter C.prog f i.args .normal) [] (w.forCall tape i)))
    (contract : ∀ (W : World) (base : Nat) (args : Array Value) (ds gs : List (DataW H)) (before : List MemPlace),
      (∀ (j : Nat) t v, fn.params[j]? = some t → args[j]? = some v → Value.okWide C.prog W .any base t v) →
      DataW.Whole enc C.prog fn.params.toList s.vars apart W args.toList ds gs before → X W args → W.ShapedOpen C.prog →
      Calls C.prog f args W fun e W' => ∃ v, e = .returned v ∧ s.post enc C.prog fn apart fresh handsOn again W args v W') :
    ReturnsInHanded a C os f .any (fun w args => (s.pre enc C.prog fn conds apart w args ∧ X w args) ∧ sizedMet enc C.prog fn (OpenSpec.ofChange s) apart w args) (s.post enc C.prog fn apart fresh handsOn again) := by
  refine returnsInHanded_of_calls own started noInit witness ?_
  intro w tape i _ hsh _ hok hpre _
  obtain ⟨_, _, _, fn', hfn', _, _, _, _, hval⟩ := hok
  have e : fn' = fn := Option.some.inj (hfn'.symm.trans hfn)
  subst e
  obtain ⟨⟨⟨ds, gs, before, hw, hc⟩, hx⟩, hz⟩ := hpre
  have hw' := DataW.Whole.of_heap (w' := w.forCall tape i) (by rfl) hw
  refine (contract (w.forCall tape i) w.heap.size i.args ds gs before hval hw' (hX _ _ _ (by rfl) hx) hsh).mono fun e W' ⟨v, he, hp⟩ => ?_
  subst he
  exact ChangeSpec.post_blind hp
end Go.Ev
