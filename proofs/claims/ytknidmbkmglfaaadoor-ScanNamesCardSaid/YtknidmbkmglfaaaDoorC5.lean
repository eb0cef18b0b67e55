import Derived.Test.YtknidmbkmglfaaaDoorC4
import Derived.Shelf.LaysM
import Derived.Shelf.Strings.Shaped
import Derived.Test.YtknidmbkmglfaaaDoorProg
import Derived.Handed
import Derived.LaidMore
/- A text is parted. -/
namespace Go.Ev.S
open Go Go.Proofs Go.Ev
theorem count_ev [MaxL] (s : List UInt8) (c : UInt8) : call cx 33 [.str s, .str [c]] [] = some (.int .i64 (s.count c : Nat), []) := by
  have h0 : call cx 48 [.str s, .int .u8 c.toNat] [] = some (.int .i64 (s.count c : Nat), []) := by
    rw [call_ext (X := cx) (f := 48) rfl Tryd.func48 rfl, ex48]
    simp [cntExt]
  refine call_run Tryd.func33 rfl ⟨rfl, rfl⟩ ?_
  simp [Tryd.f33, h0]
theorem sindex_ev [MaxL] (s sep : List UInt8) (hs : s.length < 4294967281) : call cx 34 [.str s, .str sep] [] = some (.int .i64 (idxN sep s 0), []) := by
  have h := index_ev s sep hs
  refine call_run Tryd.func34 rfl ⟨rfl, rfl⟩ ?_
  simp [Tryd.f34, h]
theorem flat_rep (n : Nat) : (List.replicate n [D.str []]).flatten = List.replicate n (D.str []) := by
  induction n with
  | zero => rfl
  | succ n ih => rw [List.replicate_succ, List.flatten_cons, ih]; rfl
theorem set_piece (ps : List (List UInt8)) (x : List UInt8) (n : Nat) : setRange (ps.map D.str ++ List.replicate (n + 1) (D.str [])) ps.length [.str x] = (ps ++ [x]).map D.str ++ List.replicate n (D.str []) := by
  have h1 : List.drop (ps.length + 1) (ps.map D.str ++ D.str [] :: List.replicate n (D.str [])) = List.replicate n (D.str []) := by
    rw [show ps.map D.str ++ D.str [] :: List.replicate n (D.str []) = (ps.map D.str ++ [D.str []]) ++ List.replicate n (D.str []) by simp]
    exact List.drop_left' (by simp)
  unfold setRange
  rw [List.replicate_succ]
  simp [h1]
set_option maxHeartbeats 2000000 in
theorem gensplit_ev [MaxL] (c : UInt8) (s : List UInt8) (hs : s.length < 1000000) : call cx 21 [.str s, .str [c], .int .i64 0, .int .i64 (-1)] [] = some (.vsl false ((splitL c s).map D.str) (splitL c s).length, []) := by
  have hc := count_ev s c
  have hcl : s.count c ≤ s.length := List.count_le_length
  unfold splitL
  generalize s.count c = m at *
  refine call_run Tryd.func21 rfl ⟨rfl, rfl⟩ ?_
  have w1 : IntKind.i64.wrap ((m : Int) + 1) = ((m + 1 : Nat) : Int) := by rw [wrap_i64] <;> omega
  have w2 : IntKind.i64.wrap ((s.length : Int) + 1) = ((s.length + 1 : Nat) : Int) := by rw [wrap_i64] <;> omega
  have w3 : ¬ s.length < m := by omega
  have w4 : IntKind.i64.wrap (m : Int) = (m : Int) := by rw [wrap_i64]; omega
  have w5 : (16 : Int) * ((m : Int) + 1) ≤ (maxBytes : Nat) := by simp only [maxBytes]; omega
  have w6 : (m : Int) + 1 ≤ (maxBytes : Nat) := by simp only [maxBytes]; omega
  have w7 : (0 : Int) ≤ (m : Int) + 1 := by omega
  have w8 : IntKind.i64.wrap ((m : Int) + 1 - 1) = (m : Int) := by rw [wrap_i64] <;> omega
  simp [Tryd.f21, hc, w1, w2, w3, w4, w5, w6, w7]
  refine Run.loopThen (fun (q : List (List UInt8) × List UInt8) e H' => q.1.length ≤ m ∧ q.2.length ≤ s.length ∧ q.1 ++ splitN c (m - q.1.length) q.2 = splitN c m s ∧ H' = [some (q.1.map D.str ++ List.replicate (m - q.1.length + 1) (.str []))] ∧
      look e 0 = some (.str q.2) ∧ look e 1 = some (.str [c]) ∧ look e 2 = some (.int .i64 0) ∧ look e 3 = some (.int .i64 m) ∧ look e 9 = some (.osl 0 (m + 1) 0 (m + 1) 1) ∧ look e 10 = some (.int .i64 (q.1.length : Nat))) (fun q => m - q.1.length) ([], s) ?_ ?_
  · simp
  rintro ⟨ps, r⟩ e H' ⟨hp, hr, hgo, rfl, k0, k1, k2, k3, k9, k10⟩
  simp only at hp hr hgo k0 k10
  have hix := sindex_ev r [c] (by omega)
  have hpm : (ps.length : Int) < (m : Int) + 1 := by omega
  have hnn : (0 : Int) ≤ (ps.length : Int) + 1 := by omega
  have hl1 : ps.length + (m - ps.length + 1) = m + 1 := by omega
  have hpw : IntKind.i64.wrap ((ps.length : Int) + 1) = ((ps.length + 1 : Nat) : Int) := by rw [wrap_i64] <;> omega
  have hpl : ps.length + 1 ≤ m + 1 := by omega
  have hfin : ∀ (x : List UInt8), List.take (ps.length + 1) ((ps ++ [x]).map D.str ++ List.replicate (m - ps.length) (.str [])) = (ps ++ [x]).map D.str := by
    intro x
    exact List.take_left' (by simp)
  have hl5 : ps.length + 1 + (m - ps.length) = m + 1 := by omega
  have hidf : idFree.idFreeL (List.map D.str (ps ++ [r]) ++ List.replicate (m - ps.length) (D.str [])) = true := by
    rw [idFreeL_all]
    simp [idFree]
  by_cases hlt : ps.length < m
  · have hlt' : (ps.length : Int) < (m : Int) := by omega
    obtain ⟨d, hd⟩ : ∃ d, m - ps.length = d + 1 := ⟨m - ps.length - 1, by omega⟩
    rw [hd, splitN] at hgo
    rcases idx_cases [c] r 0 with ⟨j, h1, h2, -⟩ | h1
    · rw [Nat.zero_add] at h1
      rw [h1] at hix
      rw [h1, if_neg (by omega)] at hgo
      have hjt : ((j : Nat) : Int).toNat = j := by omega
      rw [hjt] at hgo
      have hj1 : j + 1 ≤ r.length := by simpa using h2
      have hjn : ¬ (j : Int) < 0 := by omega
      have hwj : IntKind.i64.wrap (j : Int) = (j : Int) := by rw [wrap_i64]; omega
      obtain ⟨i, hi⟩ : ∃ i, i = j + 1 := ⟨_, rfl⟩
      have hwi : IntKind.i64.wrap ((j : Int) + 1) = (i : Int) := by rw [wrap_i64] <;> omega
      rw [← hi] at hgo
      have hst := set_piece ps (r.take j) (d + 1)
      have hdr : List.take (r.length - i) (List.drop i r) = r.drop i := List.take_of_length_le (by simp)
      have hrl : (r.drop i).length ≤ s.length := by simp; omega
      have g1 : (j : Int) ≤ (r.length : Int) := by omega
      have g2 : j ≤ r.length := by omega
      have g3 : (i : Int) ≤ (r.length : Int) := by omega
      have g4 : i ≤ r.length := by omega
      have g5 : m - ps.length + 1 = d + 1 + 1 := by omega
      have g6 : m - (ps.length + 1) + 1 = d + 1 := by omega
      have g7 : ps.length + (d + 1 + 1) = m + 1 := by omega
      have g8 : ps.length + 1 ≤ ps.length + (d + 1 + 1) := by omega
      rw [g5]
      simp [-setRange_eq, -List.map_append, -List.map_cons, hp, k0, k1, k2, k3, k9, k10, hlt', hix, hjn, hwj, hwi, g1, g3, g7, hpm, hst, hdr, hpw]
      have hpl2 : (ps ++ [r.take j]).length = ps.length + 1 := by simp
      refine ⟨ps ++ [r.take j], by rw [hpl2]; omega, by rw [hpl2]; omega, r.drop i, hrl, ?_, ?_, rfl, by rw [hpl2]; simp⟩
      · rw [hpl2, show m - (ps.length + 1) = d by omega, ← hgo]
        simp
      · rw [hpl2, show m - (ps.length + 1) + 1 = d + 1 by omega]
    · rw [h1] at hix
      rw [h1, if_pos rfl] at hgo
      have hst := set_piece ps r (m - ps.length)
      rw [← hgo]
      simp [-setRange_eq, -List.map_append, -List.map_cons, hp, hnn, k0, k1, k2, k3, k9, k10, hlt', hix, hpm, hst, hl1, hpw, hpl, hfin, hl5, hidf]
  · have hlt' : ¬ (ps.length : Int) < (m : Int) := by omega
    have hpe : ps.length = m := by omega
    have hd : m - ps.length = 0 := by omega
    rw [hd, splitN] at hgo
    have hst := set_piece ps r (m - ps.length)
    rw [← hgo]
    simp [-setRange_eq, -List.map_append, -List.map_cons, hp, hnn, k0, k1, k2, k3, k9, k10, hlt', hpm, hst, hl1, hpw, hpl, hfin, hl5, hidf]
theorem split_ev [MaxL] (c : UInt8) (s : List UInt8) (hs : s.length < 1000000) : call cx 13 [.str s, .str [c]] [] = some (.vsl false ((splitL c s).map D.str) (splitL c s).length, []) := by
  have h := gensplit_ev c s hs
  refine call_run Tryd.func13 rfl ⟨rfl, rfl⟩ ?_
  simp [Tryd.f13, h]
theorem splitN_le (c : UInt8) : ∀ (n : Nat) (s : List UInt8), ∀ x ∈ splitN c n s, x.length ≤ s.length
  | 0, s, x, h => by simp [splitN] at h; rw [h]; exact Nat.le_refl _
  | n + 1, s, x, h => by
    rw [splitN] at h
    split at h
    · simp at h; rw [h]; exact Nat.le_refl _
    · rcases List.mem_cons.1 h with rfl | h
      · simp; omega
      · have := splitN_le c n _ x h
        simp at this
        omega
theorem cutAt_le (c : UInt8) (s : List UInt8) : (cutAt c s).length ≤ s.length := by
  unfold cutAt
  split <;> simp
theorem splitN_len (c : UInt8) : ∀ (n : Nat) (s : List UInt8), (splitN c n s).length ≤ n + 1
  | 0, s => by simp [splitN]
  | n + 1, s => by
    rw [splitN]
    split
    · simp
    · have := splitN_len c n (s.drop ((idxN [c] s 0).toNat + 1))
      simp
      omega
end Go.Ev.S
/- Digits are read: plain laws. -/
namespace Go.Ev.S
open Go Go.Proofs Go.Ev
theorem dval_hexc : ∀ k, k < 16 → dval (hexc k) = some k := by decide
theorem puGo_app16 : ∀ (l r : List UInt8) (n : Nat), puGo 16 (l ++ r) n = match puGo 16 l n with
    | none => none
    | some m => puGo 16 r m
  | [], r, n => by simp [puGo]
  | c :: l, r, n => by
    simp only [List.cons_append, puGo]
    cases dval c with
    | none => rfl
    | some d =>
      simp only
      split
      · rfl
      · split
        · rfl
        · exact puGo_app16 l r _
theorem puGo_hexF : ∀ (f v : Nat), v < 16 ^ f → 1 ≤ f → v < 18446744073709551616 → puGo 16 (hexF f v) 0 = some v
  | f + 1, v, h, _, h64 => by
    rw [hexF]
    by_cases hv : v < 16
    · rw [if_pos hv]
      simp only [puGo, dval_hexc v hv]
      rw [if_neg (by omega), if_neg (by omega)]
      congr 1
      omega
    · rw [if_neg hv, puGo_app16]
      have hf : 1 ≤ f := by
        rcases f with _ | f
        · simp at h; omega
        · omega
      rw [puGo_hexF f (v / 16) (by rw [Nat.pow_succ] at h; omega) hf (by omega)]
      simp only [puGo, dval_hexc _ (Nat.mod_lt v (by decide : 16 > 0))]
      rw [if_neg (by omega), if_neg (by omega)]
      congr 1
      omega
theorem puGo_hx {v : Nat} (h : v < 18446744073709551616) : puGo 16 (hx v) 0 = some v := puGo_hexF 16 v (by omega) (by omega) h
theorem pu_hx {v : Nat} (h : v < 18446744073709551616) : pu 16 (hx v) = some v := by
  have hp := hx_pos v
  unfold pu
  rw [if_neg (by intro e; rw [e] at hp; simp at hp)]
  exact puGo_hx h
theorem puGo_zeros (l : List UInt8) : ∀ n, puGo 16 (List.replicate n 48 ++ l) 0 = puGo 16 l 0
  | 0 => rfl
  | n + 1 => by
    rw [List.replicate_succ, List.cons_append, puGo]
    have : dval 48 = some 0 := by decide
    rw [this]
    simp only
    rw [if_neg (by omega), if_neg (by omega)]
    exact puGo_zeros l n
theorem numF_fixed {v : Nat} (h : v < 18446744073709551616) : numF (fixed v) = some v := by
  have hl := fixed_len v
  have hp : pu 16 (fixed v) = some v := by
    unfold pu
    rw [if_neg (by intro e; rw [e] at hl; simp at hl)]
    unfold fixed
    rw [puGo_zeros, puGo_hx h]
  unfold numF
  rw [hp]
  simp
end Go.Ev.S
/- Names of journals. -/
namespace Go.Ev
open Go Go.Proofs
structure Inf where
  kind : Int
  seq : ID
  head : Int
  real : Int
  deriving DecidableEq
instance : Enc Inf := ⟨19, fun m => (.int .i64 m.kind :: (ofBytes m.seq.l ++ (.int .u64 m.head :: (.int .u64 m.real :: ([] : List D))))), fun m => by simp, fun m => by simp [idFree]⟩
theorem Inf.cells (m : Inf) : Enc.cells m = (.int .i64 m.kind :: (ofBytes m.seq.l ++ (.int .u64 m.head :: (.int .u64 m.real :: ([] : List D))))) := rfl
@[simp] theorem Inf.size : Enc.size Inf = 19 := rfl
@[simp] theorem Inf.cl (a : Inf) : (Enc.cells a).length = 19 := Enc.len a
@[simp] theorem Inf.ct (a : Inf) (r : List D) : (Enc.cells a ++ r).take 19 = Enc.cells a := cells_take rfl a r
@[simp] theorem Inf.ct' (a : Inf) : (Enc.cells a).take 19 = Enc.cells a := cells_take' rfl a
@[simp] theorem Inf.cd (a : Inf) (r : List D) : (Enc.cells a ++ r).drop 19 = r := cells_drop rfl a r
@[simp] theorem Inf.el (l : List Inf) : (encs l).length = l.length * 19 := encs_len' rfl l
@[simp] theorem Inf.ed (l : List Inf) (i : Nat) : (encs l).drop (i * 19) = encs (l.drop i) := encs_drop rfl l i
@[simp] theorem Inf.et (l : List Inf) (i : Nat) : (encs l).take (i * 19) = encs (l.take i) := encs_take rfl l i
@[simp high] theorem Inf.ea {l : List Inf} {i : Nat} (h : i < l.length) : (encs l).drop (i * 19) = Enc.cells l[i] ++ encs (l.drop (i + 1)) := encs_at rfl h
@[simp high] theorem Inf.es (m : Inf) {l : List Inf} {j : Nat} (h : j < l.length) : setRange (encs l) (j * 19) (Enc.cells m) = encs (l.set j m) := encs_set rfl m l h
@[simp] theorem Inf.g0 (m : Inf) (h) : (Enc.cells m)[0]'h = .int .i64 m.kind := by simp [Inf.cells]
@[simp] theorem Inf.q0 (m : Inf) : (Enc.cells m)[0]? = some (.int .i64 m.kind) := by simp [Inf.cells]
@[simp] theorem Inf.s0 (m : Inf) (x : Int) : setRange (Enc.cells m) 0 [.int .i64 x] = Enc.cells { m with kind := x } := by simp [List.drop_append, Inf.cells]
@[simp] theorem Inf.d1 (m : Inf) : (Enc.cells m).drop 1 = (ofBytes m.seq.l ++ (.int .u64 m.head :: (.int .u64 m.real :: ([] : List D)))) := by simp [List.drop_append, Inf.cells]
@[simp] theorem Inf.d1' (m : Inf) (r : List D) : (Enc.cells m ++ r).drop 1 = (ofBytes m.seq.l ++ (.int .u64 m.head :: (.int .u64 m.real :: ([] : List D)))) ++ r := by simp [List.drop_append, Inf.cells]
@[simp] theorem Inf.s1 (m : Inf) (x : ID) : setRange (Enc.cells m) 1 (ofBytes x.l) = Enc.cells { m with seq := x } := by simp [List.take_append, Inf.cells]
@[simp] theorem Inf.d17 (m : Inf) : (Enc.cells m).drop 17 = (.int .u64 m.head :: (.int .u64 m.real :: ([] : List D))) := by simp [Inf.cells]
@[simp] theorem Inf.d17' (m : Inf) (r : List D) : (Enc.cells m ++ r).drop 17 = (.int .u64 m.head :: (.int .u64 m.real :: ([] : List D))) ++ r := by simp [Inf.cells]
@[simp] theorem Inf.g17 (m : Inf) (h) : (Enc.cells m)[17]'h = .int .u64 m.head := by simp [Inf.cells]
@[simp] theorem Inf.q17 (m : Inf) : (Enc.cells m)[17]? = some (.int .u64 m.head) := by simp [Inf.cells]
@[simp] theorem Inf.s17 (m : Inf) (x : Int) : setRange (Enc.cells m) 17 [.int .u64 x] = Enc.cells { m with head := x } := by simp [List.drop_append, drop_bytes, Inf.cells]
@[simp] theorem Inf.d18 (m : Inf) : (Enc.cells m).drop 18 = (.int .u64 m.real :: ([] : List D)) := by simp [List.drop_append, drop_bytes, Inf.cells]
@[simp] theorem Inf.d18' (m : Inf) (r : List D) : (Enc.cells m ++ r).drop 18 = (.int .u64 m.real :: ([] : List D)) ++ r := by simp [List.drop_append, drop_bytes, Inf.cells]
@[simp] theorem Inf.g18 (m : Inf) (h) : (Enc.cells m)[18]'h = .int .u64 m.real := by simp [Inf.cells]
@[simp] theorem Inf.q18 (m : Inf) : (Enc.cells m)[18]? = some (.int .u64 m.real) := by simp [Inf.cells]
@[simp] theorem Inf.s18 (m : Inf) (x : Int) : setRange (Enc.cells m) 18 [.int .u64 x] = Enc.cells { m with real := x } := by simp [List.take_append, List.drop_append, drop_bytes, List.take_of_length_le, Inf.cells]
def sysL : List UInt8 := [115, 121, 115, 116, 101, 109, 46, 106, 111, 117, 114, 110, 97, 108]
def newL : List UInt8 := [115, 121, 115, 116, 101, 109, 46, 110, 101, 119]
def aheadL : List UInt8 := [115, 121, 115, 116, 101, 109, 64]
def behindL : List UInt8 := [46, 106, 111, 117, 114, 110, 97, 108]
def midN (q : List UInt8) (h r : Nat) : List UInt8 := hexs q ++ 45 :: (fixed h ++ 45 :: fixed r)
def archL (q : List UInt8) (h r : Nat) : List UInt8 := aheadL ++ (midN q h r ++ behindL)
def nameL (i : Inf) : List UInt8 := if i.kind = 1 then sysL else if i.kind = 4 then newL else if i.kind = 2 then archL i.seq.l i.head.toNat i.real.toNat else if i.kind = 3 then archL i.seq.l i.head.toNat i.real.toNat ++ [126] else []
def suf (p s : List UInt8) : Bool := decide (p.length ≤ s.length) && (s.drop (s.length - p.length) == p)
def trimS (p s : List UInt8) : List UInt8 := if suf p s then s.take (s.length - p.length) else s
theorem suf_app (p s : List UInt8) : suf p (s ++ p) = true := by
  unfold suf
  have e : (s ++ p).length - p.length = s.length := by simp
  rw [e, List.drop_left]
  simp
theorem trimS_app (p s : List UInt8) : trimS p (s ++ p) = s := by
  have e : (s ++ p).length - p.length = s.length := by simp
  unfold trimS
  rw [suf_app, if_pos rfl, e, List.take_left]
theorem suf_one {a b : UInt8} (h : a ≠ b) (s : List UInt8) : suf [b] (s ++ [a]) = false := by
  unfold suf
  have e : (s ++ [a]).length - [b].length = s.length := by simp
  rw [e, List.drop_left]
  have : ([a] == [b]) = false := by simpa using h
  rw [this, Bool.and_false]
def trimP (p s : List UInt8) : List UInt8 := if s.take p.length == p then s.drop p.length else s
theorem trimP_app (p s : List UInt8) : trimP p (p ++ s) = s := by
  unfold trimP
  rw [List.take_left, if_pos (by simp), List.drop_left]
def midL (s : List UInt8) : List UInt8 := trimP aheadL (trimS behindL (trimS [126] s))
theorem arch_end (q : List UInt8) (h r : Nat) : suf [126] (archL q h r) = false := by
  have e : archL q h r = (aheadL ++ (midN q h r ++ [46, 106, 111, 117, 114, 110, 97])) ++ [108] := by
    simp [archL, behindL]
  rw [e]
  exact suf_one (by decide) _
theorem mid_arch (q : List UInt8) (h r : Nat) : midL (archL q h r) = midN q h r := by
  have e : trimS [126] (archL q h r) = archL q h r := by
    unfold trimS
    rw [arch_end, if_neg (by decide)]
  have e2 : archL q h r = (aheadL ++ midN q h r) ++ behindL := by simp [archL]
  unfold midL
  rw [e, e2, trimS_app, trimP_app]
theorem mid_dirty (q : List UInt8) (h r : Nat) : midL (archL q h r ++ [126]) = midN q h r := by
  have e2 : archL q h r = (aheadL ++ midN q h r) ++ behindL := by simp [archL]
  unfold midL
  rw [trimS_app, e2, trimS_app, trimP_app]
theorem fixed_ne (v : Nat) : ∀ x ∈ fixed v, x ≠ 59 ∧ x ≠ 61 ∧ x ≠ 45 := by
  intro x hx
  unfold fixed at hx
  rcases List.mem_append.1 hx with h | h
  · rw [(List.mem_replicate.1 h).2]
    decide
  · exact hx_ne v x h
theorem split_mid (q : List UInt8) (h r : Nat) : splitL 45 (midN q h r) = [hexs q, fixed h, fixed r] := by
  unfold midN
  rw [split_at (fun x hx => (hexs_ne q x hx).2.2), split_at (fun x hx => (fixed_ne h x hx).2.2), split_no (fun x hx => (fixed_ne r x hx).2.2)]
theorem arch_len {q : List UInt8} (hq : q.length = 16) (h r : Nat) : (archL q h r).length = 81 := by
  simp only [archL, midN, List.length_append, List.length_cons, hexs_len, hq, fixed_len, aheadL, behindL, List.length_nil]
theorem name_len (i : Inf) : (nameL i).length = if i.kind = 1 then 14 else if i.kind = 4 then 10 else if i.kind = 2 then 81 else if i.kind = 3 then 82 else 0 := by
  unfold nameL
  split
  · rfl
  · split
    · rfl
    · split
      · exact arch_len i.seq.h _ _
      · split
        · rw [List.length_append, arch_len i.seq.h]; rfl
        · rfl
end Go.Ev
/- A journal's name is written. -/
namespace Go.Ev.S
open Go Go.Proofs Go.Ev
theorem sufl_ev [MaxL] (s p : List UInt8) (hs : s.length < 1000000) (hp : p.length < 1000000) : call cx 18 [.str s, .str p] [] = some (.bool (suf p s), []) := by
  refine call_run Tryd.func18 rfl ⟨rfl, rfl⟩ ?_
  unfold suf
  by_cases h : p.length ≤ s.length
  · have h' : (p.length : Int) ≤ (s.length : Int) := by omega
    obtain ⟨j, hj⟩ : ∃ j, j = s.length - p.length := ⟨_, rfl⟩
    have hw : IntKind.i64.wrap ((s.length : Int) - (p.length : Int)) = (j : Int) := by rw [wrap_i64] <;> omega
    have g1 : (j : Int) ≤ (s.length : Int) := by omega
    have g2 : j ≤ s.length := by omega
    have ht : List.take (s.length - j) (List.drop j s) = List.drop j s := List.take_of_length_le (by simp)
    rw [← hj]
    simp [Tryd.f18, h, h', hw, g1, ht]
  · have h' : ¬ (p.length : Int) ≤ (s.length : Int) := by omega
    simp [Tryd.f18, h, h']
theorem suff_ev [MaxL] (s p : List UInt8) (hs : s.length < 1000000) (hp : p.length < 1000000) : call cx 10 [.str s, .str p] [] = some (.bool (suf p s), []) := by
  have h := sufl_ev s p hs hp
  refine call_run Tryd.func10 rfl ⟨rfl, rfl⟩ ?_
  simp [Tryd.f10, h]
theorem trims_ev [MaxL] (s p : List UInt8) (hs : s.length < 1000000) (hp : p.length < 1000000) : call cx 20 [.str s, .str p] [] = some (.str (trimS p s), []) := by
  have h := sufl_ev s p hs hp
  refine call_run Tryd.func20 rfl ⟨rfl, rfl⟩ ?_
  unfold trimS
  cases hq : suf p s with
  | false =>
    rw [hq] at h
    simp [Tryd.f20, h]
  | true =>
    rw [hq] at h
    have hl : p.length ≤ s.length := by
      unfold suf at hq
      rw [Bool.and_eq_true] at hq
      simpa using hq.1
    obtain ⟨j, hj⟩ : ∃ j, j = s.length - p.length := ⟨_, rfl⟩
    have hw : IntKind.i64.wrap ((s.length : Int) - (p.length : Int)) = (j : Int) := by rw [wrap_i64] <;> omega
    have g1 : (j : Int) ≤ (s.length : Int) := by omega
    have g2 : j ≤ s.length := by omega
    rw [← hj]
    simp [Tryd.f20, h, hw, g1]
theorem trimsuf_ev [MaxL] (s p : List UInt8) (hs : s.length < 1000000) (hp : p.length < 1000000) : call cx 12 [.str s, .str p] [] = some (.str (trimS p s), []) := by
  have h := trims_ev s p hs hp
  refine call_run Tryd.func12 rfl ⟨rfl, rfl⟩ ?_
  simp [Tryd.f12, h]
theorem prel_ev [MaxL] (s p : List UInt8) (_ : s.length < 1000000) (_ : p.length < 1000000) : call cx 31 [.str s, .str p] [] = some (.bool (s.take p.length == p), []) := by
  refine call_run Tryd.func31 rfl ⟨rfl, rfl⟩ ?_
  by_cases h : p.length ≤ s.length
  · have h' : (p.length : Int) ≤ (s.length : Int) := by omega
    simp [Tryd.f31, h']
  · have h' : ¬ (p.length : Int) ≤ (s.length : Int) := by omega
    have hn : (s.take p.length == p) = false := by
      rw [beq_eq_false_iff_ne]
      intro e
      have := congrArg List.length e
      rw [List.length_take] at this
      omega
    simp [Tryd.f31, h', hn]
theorem trimp_ev [MaxL] (s p : List UInt8) (hs : s.length < 1000000) (hp : p.length < 1000000) : call cx 19 [.str s, .str p] [] = some (.str (trimP p s), []) := by
  have h := prel_ev s p hs hp
  refine call_run Tryd.func19 rfl ⟨rfl, rfl⟩ ?_
  unfold trimP
  cases hq : (s.take p.length == p) with
  | false =>
    rw [hq] at h
    simp [Tryd.f19, h]
  | true =>
    rw [hq] at h
    have hl : p.length ≤ s.length := by
      have := congrArg List.length (beq_iff_eq.1 hq)
      rw [List.length_take] at this
      omega
    have g1 : (p.length : Int) ≤ (s.length : Int) := by omega
    have ht : List.take (s.length - p.length) (List.drop p.length s) = List.drop p.length s := List.take_of_length_le (by simp)
    simp [Tryd.f19, h, g1, ht]
theorem trimpre_ev [MaxL] (s p : List UInt8) (hs : s.length < 1000000) (hp : p.length < 1000000) : call cx 11 [.str s, .str p] [] = some (.str (trimP p s), []) := by
  have h := trimp_ev s p hs hp
  refine call_run Tryd.func11 rfl ⟨rfl, rfl⟩ ?_
  simp [Tryd.f11, h]
def dsh : List UInt8 := [45]
structure InfOk (i : Inf) : Prop where
  head : isU64 i.head
  real : isU64 i.real
set_option maxHeartbeats 2000000 in
theorem name_arch_ev [MaxL] (i : Inf) (h : InfOk i) (h2 : i.kind = 2) : call cx 6 [.agg (Enc.cells i)] [] = some (.str (archL i.seq.l i.head.toNat i.real.toNat), []) := by
  obtain ⟨kd, sq, hd, rl⟩ := i
  obtain ⟨w1, w2⟩ := h
  simp only at h2 w1 w2
  subst h2
  unfold isU64 at w1 w2
  have e1 : ((hd.toNat : Nat) : Int) = hd := by omega
  have e2 : ((rl.toNat : Nat) : Int) = rl := by omega
  have h1 := hex_ev sq.l sq.h
  have h3 := fixed_ev hd.toNat (by omega)
  have h4 := fixed_ev rl.toNat (by omega)
  rw [e1] at h3
  rw [e2] at h4
  have l1 := hexs_len sq.l
  have l2 := fixed_len hd.toNat
  have l3 := fixed_len rl.toNat
  rw [sq.h] at l1
  simp only [archL, midN]
  generalize hexs sq.l = a1 at *
  generalize fixed hd.toNat = a2 at *
  generalize fixed rl.toNat = a3 at *
  clear e1 e2 w1 w2
  have h18 : List.drop 17 (ofBytes sq.l ++ [D.int .u64 hd, D.int .u64 rl]) = [D.int .u64 rl] := by simp [List.drop_append, drop_bytes]
  obtain ⟨s1, es1⟩ : ∃ s, s = aheadL ++ a1 := ⟨_, rfl⟩
  have ls1 : s1.length = aheadL.length + a1.length := by rw [es1, List.length_append]
  obtain ⟨s2, es2⟩ : ∃ s, s = s1 ++ dsh := ⟨_, rfl⟩
  have ls2 : s2.length = s1.length + dsh.length := by rw [es2, List.length_append]
  obtain ⟨s3, es3⟩ : ∃ s, s = s2 ++ a2 := ⟨_, rfl⟩
  have ls3 : s3.length = s2.length + a2.length := by rw [es3, List.length_append]
  obtain ⟨s4, es4⟩ : ∃ s, s = s3 ++ dsh := ⟨_, rfl⟩
  have ls4 : s4.length = s3.length + dsh.length := by rw [es4, List.length_append]
  obtain ⟨s5, es5⟩ : ∃ s, s = s4 ++ a3 := ⟨_, rfl⟩
  have ls5 : s5.length = s4.length + a3.length := by rw [es5, List.length_append]
  obtain ⟨s6, es6⟩ : ∃ s, s = s5 ++ behindL := ⟨_, rfl⟩
  have ls6 : s6.length = s5.length + behindL.length := by rw [es6, List.length_append]
  simp only [aheadL, dsh, behindL, List.length_cons, List.length_nil] at ls1 ls2 ls3 ls4 ls5 ls6
  have cs1 := cat_of es1 (by (try simp only [aheadL, List.length_cons, List.length_nil]); omega)
  have cs2 := cat_of es2 (by (try simp only [dsh, List.length_cons, List.length_nil]); omega)
  have cs3 := cat_of es3 (by (try simp only [aheadL, dsh, behindL, List.length_cons, List.length_nil]); omega)
  have cs4 := cat_of es4 (by (try simp only [dsh, List.length_cons, List.length_nil]); omega)
  have cs5 := cat_of es5 (by (try simp only [aheadL, dsh, behindL, List.length_cons, List.length_nil]); omega)
  have cs6 := cat_of es6 (by (try simp only [behindL, List.length_cons, List.length_nil]); omega)
  simp only [aheadL, dsh, behindL] at cs1 cs2 cs3 cs4 cs5 cs6
  have hfin : aheadL ++ (a1 ++ 45 :: (a2 ++ 45 :: a3) ++ behindL) = s6 := by
    simp [es6, es5, es4, es3, es2, es1, dsh]
  rw [hfin]
  clear hfin es1 es2 es3 es4 es5 es6 ls1 ls2 ls3 ls4 ls5 ls6 l1 l2 l3
  refine call_run Tryd.func6 rfl ⟨rfl, rfl⟩ ?_
  simp [Tryd.f6, Inf.cells, h18, h1, h3, h4, -strD, cs1, cs2, cs3, cs4, cs5, cs6]
theorem name_ev [MaxL] (i : Inf) (h : InfOk i) : call cx 6 [.agg (Enc.cells i)] [] = some (.str (nameL i), []) := by
  unfold nameL
  by_cases h1 : i.kind = 1
  · refine call_run Tryd.func6 rfl ⟨rfl, rfl⟩ ?_
    simp [Tryd.f6, Inf.cells, h1, sysL]
  · by_cases h4 : i.kind = 4
    · refine call_run Tryd.func6 rfl ⟨rfl, rfl⟩ ?_
      simp [Tryd.f6, Inf.cells, h4, newL]
    · by_cases h2 : i.kind = 2
      · rw [if_neg h1, if_neg h4, if_pos h2]
        exact name_arch_ev i h h2
      · by_cases h3 : i.kind = 3
        · have ha := name_arch_ev ⟨2, i.seq, i.head, i.real⟩ ⟨h.head, h.real⟩ rfl
          have hl := arch_len i.seq.h i.head.toNat i.real.toNat
          simp only at ha
          have ht18 : List.take 18 (ofBytes i.seq.l ++ [D.int .u64 i.head, D.int .u64 i.real]) = ofBytes i.seq.l ++ [D.int .u64 i.head, D.int .u64 i.real] := List.take_of_length_le (by simp)
          simp [Inf.cells] at ha
          rw [if_neg h1, if_neg h4, if_neg h2, if_pos h3]
          generalize archL i.seq.l i.head.toNat i.real.toNat = w at *
          have hz : w.length + 1 ≤ 4611686018427387904 := by omega
          refine call_run Tryd.func6 rfl ⟨rfl, rfl⟩ ?_
          simp [Tryd.f6, Inf.cells, h3, ha, hz, ht18]
        · refine call_run Tryd.func6 rfl ⟨rfl, rfl⟩ ?_
          simp [Tryd.f6, Inf.cells, h1, h2, h3, h4]
end Go.Ev.S
/- A journal's name is read: plain laws. -/
namespace Go.Ev.S
open Go Go.Proofs Go.Ev
def infZero : Inf := ⟨0, ID.zero, 0, 0⟩
def infOf (k : Int) (l : List (List UInt8)) : Inf := ⟨k, idOf (l.getD 0 []), ((numF (l.getD 1 [])).getD 0 : Nat), ((numF (l.getD 2 [])).getD 0 : Nat)⟩
def kindOf (s : List UInt8) : Int := if suf [126] s then 3 else 2
def parseN (s : List UInt8) : Inf × Bool := if s = sysL then (⟨1, ID.zero, 0, 0⟩, true) else if s = newL then (⟨4, ID.zero, 0, 0⟩, true) else
  if (splitL 45 (midL s)).length = 3 ∧ nameL (infOf (kindOf s) (splitL 45 (midL s))) = s then (infOf (kindOf s) (splitL 45 (midL s)), true) else (infZero, false)
theorem numF_lt (s : List UInt8) : (numF s).getD 0 < 18446744073709551616 := by
  unfold numF
  cases h : pu 16 s with
  | none => show 0 < 18446744073709551616; omega
  | some v =>
    simp only
    split
    · exact pu16_lt h
    · show 0 < 18446744073709551616; omega
theorem infOf_ok (k : Int) (l : List (List UInt8)) : InfOk (infOf k l) := by
  refine ⟨?_, ?_⟩
  · have := numF_lt (l.getD 1 []); show isU64 ((numF (l.getD 1 [])).getD 0 : Nat); unfold isU64; omega
  · have := numF_lt (l.getD 2 []); show isU64 ((numF (l.getD 2 [])).getD 0 : Nat); unfold isU64; omega
theorem inf0_ok (k : Int) : InfOk ⟨k, ID.zero, 0, 0⟩ := by
  refine ⟨?_, ?_⟩ <;> (show isU64 0; unfold isU64; omega)
theorem parseN_ok (s : List UInt8) : InfOk (parseN s).1 := by
  unfold parseN
  split
  · exact inf0_ok 1
  · split
    · exact inf0_ok 4
    · split
      · exact infOf_ok _ _
      · exact inf0_ok 0
theorem parseN_name {s : List UInt8} (h : (parseN s).2 = true) : nameL (parseN s).1 = s := by
  unfold parseN at h ⊢
  split
  · rename_i h1; rw [h1]; rfl
  · rename_i h1
    rw [if_neg h1] at h
    split
    · rename_i h2; rw [h2]; rfl
    · rename_i h2
      rw [if_neg h2] at h
      split
      · rename_i h3; exact h3.2
      · rename_i h3
        rw [if_neg h3] at h
        cases h
/-- A name that may be written. -/
def InfRight (i : Inf) : Prop := (i = ⟨1, ID.zero, 0, 0⟩ ∨ i = ⟨4, ID.zero, 0, 0⟩) ∨ ((i.kind = 2 ∨ i.kind = 3) ∧ InfOk i)
theorem infOf_vals (i : Inf) (h : InfOk i) : infOf i.kind [hexs i.seq.l, fixed i.head.toNat, fixed i.real.toNat] = i := by
  obtain ⟨w1, w2⟩ := h
  unfold isU64 at w1 w2
  have e : ∀ x : Int, 0 ≤ x ∧ x < 18446744073709551616 → (((numF (fixed x.toNat)).getD 0 : Nat) : Int) = x := by
    intro x hx
    rw [numF_fixed (by omega)]
    show ((x.toNat : Nat) : Int) = x
    omega
  unfold infOf
  simp only [List.getD_cons_zero, List.getD_cons_succ, idOf_hexs, e _ w1, e _ w2]
theorem len_ne {s t : List UInt8} (h : s.length ≠ t.length) : s ≠ t := fun e => h (by rw [e])
theorem parse_nameL (i : Inf) (h : InfRight i) : parseN (nameL i) = (i, true) := by
  rcases h with (rfl | rfl) | ⟨h2 | h3, hok⟩
  · rfl
  · rfl
  · have hn : nameL i = archL i.seq.l i.head.toNat i.real.toNat := by
      unfold nameL
      rw [h2, if_neg (by decide), if_neg (by decide), if_pos rfl]
    have hl := arch_len i.seq.h i.head.toNat i.real.toNat
    have hk : kindOf (archL i.seq.l i.head.toNat i.real.toNat) = i.kind := by
      unfold kindOf
      rw [arch_end, if_neg (by decide), h2]
    unfold parseN
    rw [hn, if_neg (len_ne (by rw [hl]; decide)), if_neg (len_ne (by rw [hl]; decide)), mid_arch, split_mid, hk, infOf_vals i hok, if_pos ⟨rfl, hn⟩]
  · have hn : nameL i = archL i.seq.l i.head.toNat i.real.toNat ++ [126] := by
      unfold nameL
      rw [h3, if_neg (by decide), if_neg (by decide), if_neg (by decide), if_pos rfl]
    have hl : (archL i.seq.l i.head.toNat i.real.toNat ++ [126]).length = 82 := by rw [List.length_append, arch_len i.seq.h]; rfl
    have hk : kindOf (archL i.seq.l i.head.toNat i.real.toNat ++ [126]) = i.kind := by
      unfold kindOf
      rw [suf_app, if_pos rfl, h3]
    unfold parseN
    rw [hn, if_neg (len_ne (by rw [hl]; decide)), if_neg (len_ne (by rw [hl]; decide)), mid_dirty, split_mid, hk, infOf_vals i hok, if_pos ⟨rfl, hn⟩]
theorem parse_tilde (i : Inf) (h : InfRight i) : (parseN (nameL i ++ [126])).2 = decide (i.kind = 2) := by
  by_cases h2 : i.kind = 2
  · rw [decide_eq_true h2]
    have hok : InfOk i := by
      rcases h with (rfl | rfl) | ⟨_, hok⟩
      · simp at h2
      · simp at h2
      · exact hok
    have hn : nameL i ++ [126] = nameL ⟨3, i.seq, i.head, i.real⟩ := by
      unfold nameL
      simp only [h2]
      rw [if_neg (by decide), if_neg (by decide), if_pos (by decide), if_neg (by decide), if_neg (by decide), if_neg (by decide), if_pos (by decide)]
    rw [hn, parse_nameL ⟨3, i.seq, i.head, i.real⟩ (.inr ⟨.inr rfl, ⟨hok.head, hok.real⟩⟩)]
  · rw [decide_eq_false h2]
    cases hq : (parseN (nameL i ++ [126])).2 with
    | false => rfl
    | true =>
      exfalso
      have h1 := congrArg List.length (parseN_name hq)
      rw [name_len, List.length_append, name_len] at h1
      have hi : i.kind = 1 ∨ i.kind = 4 ∨ i.kind = 3 := by
        rcases h with (rfl | rfl) | ⟨h | h, _⟩
        · exact .inl rfl
        · exact .inr (.inl rfl)
        · exact absurd h h2
        · exact .inr (.inr h)
      generalize (parseN (nameL i ++ [126])).1.kind = k at *
      rcases hi with hi | hi | hi <;> rw [hi] at h1 <;> simp at h1 <;> (split at h1 <;> first | omega | (split at h1 <;> first | omega | (split at h1 <;> first | omega | (split at h1 <;> omega))))
end Go.Ev.S
/- Names of journals: two of them compared, lengths. -/
namespace Go.Ev
open Go Go.Proofs
def infEq (a b : Inf) : Bool := a.kind == b.kind && (a.seq == b.seq && (a.head == b.head && a.real == b.real))
theorem infEq_iff (a b : Inf) : infEq a b = true ↔ a = b := by
  obtain ⟨a1, a2, a3, a4⟩ := a
  obtain ⟨b1, b2, b3, b4⟩ := b
  simp [infEq]
@[simp] theorem Inf.eq19 (a b : Inf) : cellsEq [.i, .i, .i, .i, .i, .i, .i, .i, .i, .i, .i, .i, .i, .i, .i, .i, .i, .i, .i] (Enc.cells a) (Enc.cells b) = some (infEq a b) := by
  have h1 := cellsEq16 a.seq b.seq
  rw [Inf.cells, Inf.cells]
  have e : ([.i, .i, .i, .i, .i, .i, .i, .i, .i, .i, .i, .i, .i, .i, .i, .i, .i, .i, .i] : List CK) = .i :: ([.i, .i, .i, .i, .i, .i, .i, .i, .i, .i, .i, .i, .i, .i, .i, .i] ++ [.i, .i]) := rfl
  rw [e]
  simp only [cellsEq, cellEq, if_true]
  rw [cellsEq_app _ _ _ _ _ _ (by simp) (by simp), h1]
  simp only [cellsEq, cellEq, if_true, Bool.and_true]
  rfl
theorem trimS_le (p s : List UInt8) : (trimS p s).length ≤ s.length := by
  unfold trimS
  split
  · rw [List.length_take]; omega
  · exact Nat.le_refl _
theorem trimP_le (p s : List UInt8) : (trimP p s).length ≤ s.length := by
  unfold trimP
  split
  · rw [List.length_drop]; omega
  · exact Nat.le_refl _
theorem midL_le (s : List UInt8) : (midL s).length ≤ s.length := by
  unfold midL
  have h1 := trimP_le aheadL (trimS behindL (trimS [126] s))
  have h2 := trimS_le behindL (trimS [126] s)
  have h3 := trimS_le [126] s
  omega
end Go.Ev
/- A journal's name is read: scan.Parse. -/
namespace Go.Ev.S
open Go Go.Proofs Go.Ev
theorem z19 (k : Int) : [D.int .i64 k, .int .u8 0, .int .u8 0, .int .u8 0, .int .u8 0, .int .u8 0, .int .u8 0, .int .u8 0, .int .u8 0, .int .u8 0, .int .u8 0, .int .u8 0, .int .u8 0, .int .u8 0, .int .u8 0, .int .u8 0, .int .u8 0, .int .u64 0, .int .u64 0] = Enc.cells (⟨k, ID.zero, 0, 0⟩ : Inf) := rfl
theorem parse21_sys [MaxL] : call cx 7 [.str sysL] [] = some (.tup [.agg (Enc.cells (⟨1, ID.zero, 0, 0⟩ : Inf)), .bool true], []) := call_some.2 ⟨200, by kernel_rfl⟩
theorem parse21_new [MaxL] : call cx 7 [.str newL] [] = some (.tup [.agg (Enc.cells (⟨4, ID.zero, 0, 0⟩ : Inf)), .bool true], []) := call_some.2 ⟨200, by kernel_rfl⟩
set_option maxHeartbeats 4000000 in
set_option maxRecDepth 4000 in
theorem parse21_ev [MaxL] (s : List UInt8) (hs : s.length < 100000) : call cx 7 [.str s] [] = some (.tup [.agg (Enc.cells (parseN s).1), .bool (parseN s).2], []) := by
  by_cases h1 : s = sysL
  · rw [h1]; exact parse21_sys
  by_cases h2 : s = newL
  · rw [h2]; exact parse21_new
  have b1 : (s == [115, 121, 115, 116, 101, 109, 46, 106, 111, 117, 114, 110, 97, 108]) = false := beq_eq_false_iff_ne.2 h1
  have b2 : (s == [115, 121, 115, 116, 101, 109, 46, 110, 101, 119]) = false := beq_eq_false_iff_ne.2 h2
  have e1 := suff_ev s [126] (by omega) (by decide)
  have e2 := trimsuf_ev s [126] (by omega) (by decide)
  have t1 := trimS_le [126] s
  have e3 := trimsuf_ev (trimS [126] s) behindL (by omega) (by decide)
  have t2 := trimS_le behindL (trimS [126] s)
  have e4 := trimpre_ev (trimS behindL (trimS [126] s)) aheadL (by omega) (by decide)
  have hm := midL_le s
  have e5 := split_ev 45 (midL s) (by omega)
  have hpl : ∀ x ∈ splitL 45 (midL s), x.length ≤ (midL s).length := splitN_le 45 _ (midL s)
  have hP : parseN s = if (splitL 45 (midL s)).length = 3 ∧ nameL (infOf (kindOf s) (splitL 45 (midL s))) = s then (infOf (kindOf s) (splitL 45 (midL s)), true) else (infZero, false) := by
    unfold parseN
    rw [if_neg h1, if_neg h2]
  have hz := z19 0
  have hz0 : Enc.cells (⟨0, ID.zero, 0, 0⟩ : Inf) = Enc.cells infZero := rfl
  rw [hz0] at hz
  have hid0 : ofBytes ID.zero.l = [.int .u8 0, .int .u8 0, .int .u8 0, .int .u8 0, .int .u8 0, .int .u8 0, .int .u8 0, .int .u8 0, .int .u8 0, .int .u8 0, .int .u8 0, .int .u8 0, .int .u8 0, .int .u8 0, .int .u8 0, .int .u8 0] := rfl
  have hmid : trimP aheadL (trimS behindL (trimS [126] s)) = midL s := rfl
  rw [hmid] at e4
  simp only [behindL, aheadL] at e3 e4
  generalize parseN s = res at *
  generalize midL s = m at *
  generalize trimS [46, 106, 111, 117, 114, 110, 97, 108] (trimS [126] s) = m1 at *
  generalize trimS [126] s = m2 at *
  generalize splitL 45 m = P at *
  by_cases h3 : P.length = 3
  · obtain ⟨y0, y1, y2, hPy⟩ : ∃ y0 y1 y2, P = [y0, y1, y2] := by
      clear hP hpl e5
      match P, h3 with
      | [a, b, c], _ => exact ⟨a, b, c, rfl⟩
    subst hPy
    have l0 := hpl y0 (by simp)
    have l1 := hpl y1 (by simp)
    have l2 := hpl y2 (by simp)
    have i0 : call cx 14 [.str y0] [] = some (.tup [.agg (ofBytes (idOf y0).l), .bool (idP y0).isSome], []) := id_ev y0 (by omega)
    have i1 := number16_ev y1 (by omega)
    have i2 := number16_ev y2 (by omega)
    have hn := name_ev _ (infOf_ok (kindOf s) [y0, y1, y2])
    have hcu : infOf (kindOf s) [y0, y1, y2] = ⟨kindOf s, idOf y0, ((numF y1).getD 0 : Nat), ((numF y2).getD 0 : Nat)⟩ := rfl
    have hk : kindOf s = if suf [126] s then 3 else 2 := rfl
    have hd19 : List.drop 19 (Enc.cells infZero) = [] := List.drop_eq_nil_of_le (by simp)
    cases hsf : suf [126] s with
    | true =>
      rw [hsf] at hk e1
      simp only [if_true] at hk
      rw [hk] at hn hP hcu
      by_cases hq : nameL (infOf 3 [y0, y1, y2]) = s
      · rw [if_pos ⟨h3, hq⟩] at hP
        rw [hq] at hn
        subst hP
        rw [hcu] at hn ⊢
        rw [Inf.cells] at hn ⊢
        simp only at hn
        refine call_run Tryd.func7 rfl ⟨rfl, rfl⟩ ?_
        simp [Tryd.f7, b1, b2, e1, e2, e3, e4, e5, i0, i1, i2, hn, List.take_append, List.drop_append, drop_bytes, List.take_of_length_le]
      · rw [if_neg (fun h => hq h.2)] at hP
        subst hP
        have hq2 : (nameL (infOf 3 [y0, y1, y2]) == s) = false := beq_eq_false_iff_ne.2 hq
        generalize nameL (infOf 3 [y0, y1, y2]) = w at *
        rw [hcu] at hn
        refine call_run Tryd.func7 rfl ⟨rfl, rfl⟩ ?_
        simp [Tryd.f7, b1, b2, e1, e2, e3, e4, e5, i0, i1, i2, hn, hq2, hz, hd19, List.take_of_length_le]
    | false =>
      rw [hsf] at hk e1
      simp only [Bool.false_eq_true, if_false] at hk
      rw [hk] at hn hP hcu
      by_cases hq : nameL (infOf 2 [y0, y1, y2]) = s
      · rw [if_pos ⟨h3, hq⟩] at hP
        rw [hq] at hn
        subst hP
        rw [hcu] at hn ⊢
        rw [Inf.cells] at hn ⊢
        simp only at hn
        refine call_run Tryd.func7 rfl ⟨rfl, rfl⟩ ?_
        simp [Tryd.f7, b1, b2, e1, e2, e3, e4, e5, i0, i1, i2, hn, List.take_append, List.drop_append, drop_bytes, List.take_of_length_le]
      · rw [if_neg (fun h => hq h.2)] at hP
        subst hP
        have hq2 : (nameL (infOf 2 [y0, y1, y2]) == s) = false := beq_eq_false_iff_ne.2 hq
        generalize nameL (infOf 2 [y0, y1, y2]) = w at *
        rw [hcu] at hn
        refine call_run Tryd.func7 rfl ⟨rfl, rfl⟩ ?_
        simp [Tryd.f7, b1, b2, e1, e2, e3, e4, e5, i0, i1, i2, hn, hq2, hz, hd19, List.take_of_length_le]
  · have h3' : ¬ (P.length : Int) = 3 := by omega
    rw [if_neg (fun h => h3 h.1)] at hP
    subst hP
    refine call_run Tryd.func7 rfl ⟨rfl, rfl⟩ ?_
    cases hsf : suf [126] s <;> rw [hsf] at e1 <;>
      simp [Tryd.f7, b1, b2, e1, e2, e3, e4, e5, h3', hz]
end Go.Ev.S
/- Small numbers. -/
namespace Go.Ev.S
open Go Go.Proofs Go.Ev
theorem number_ev [MaxL] (n b : Int) : call cx 5 [.int .i64 n, .int .i64 b] [] = some (.int .i64 (if b < 1 then 0 else (IntKind.i64.wrap (n.tmod b + b)).tmod b), []) := by
  refine call_run Tryd.func5 rfl ⟨rfl, rfl⟩ ?_
  by_cases h1 : b < 1
  · simp [Tryd.f5, h1]
  · have h2 : b ≠ 0 := by omega
    simp [Tryd.f5, h1, h2]
/-- A number below b. -/
theorem num_ev [MaxL] (n : Int) (b : Nat) (hb : 1 ≤ b) (hb2 : b ≤ 1000000) : ∃ x : Nat, x < b ∧ call cx 5 [.int .i64 n, .int .i64 b] [] = some (.int .i64 x, []) := by
  have h1 : n.tmod b < b := Int.tmod_lt_of_pos _ (by omega)
  have h2 : -(b : Int) < n.tmod b := by
    have := Int.tmod_lt_of_pos (-n) (show (0 : Int) < b by omega)
    rw [Int.neg_tmod] at this
    omega
  have h := number_ev n b
  rw [if_neg (by omega)] at h
  generalize n.tmod b = x at *
  have hw : IntKind.i64.wrap (x + b) = x + b := by rw [wrap_i64]; omega
  rw [hw] at h
  have h3 : 0 ≤ x + b := by omega
  have h4 := Int.tmod_nonneg (b : Int) h3
  have h5 := Int.tmod_lt_of_pos (x + b) (show (0 : Int) < b by omega)
  refine ⟨((x + b).tmod b).toNat, by omega, ?_⟩
  rw [h]
  congr 3
  omega
end Go.Ev.S
/- ScanNames: the law answers true. -/
namespace Go.Ev.S
open Go Go.Proofs Go.Ev
theorem first21_ev [MaxL] : call cx 4 [] [] = some (.bool true, []) := call_some.2 ⟨900, by kernel_rfl⟩
theorem xorI8 (a b : UInt8) : xorI .u8 (a.toNat : Int) (b.toNat : Int) = ((a ^^^ b).toNat : Int) := by
  unfold xorI
  have h := (a ^^^ b).toNat_lt
  have e : (BitVec.ofInt IntKind.u8.bits (a.toNat : Int) ^^^ BitVec.ofInt IntKind.u8.bits (b.toNat : Int)).toNat = (a ^^^ b).toNat := by
    simp [IntKind.bits]
    rfl
  rw [e, wrap_u8]
  omega
theorem xor_self8 {x y : UInt8} (h : x ^^^ y = x) : y = 0 := by
  have h2 : x ^^^ (x ^^^ y) = x ^^^ x := by rw [h]
  rw [← UInt8.xor_assoc, UInt8.xor_self, UInt8.zero_xor] at h2
  exact h2
theorem parseN_else {i : Inf} (hR : InfRight i) {t : List UInt8} (h : (parseN t).2 = true) : nameL (parseN t).1 = t ∧ infEq (parseN t).1 i = decide (t = nameL i) := by
  have h2 := parseN_name h
  refine ⟨h2, ?_⟩
  by_cases hy : t = nameL i
  · rw [decide_eq_true hy, hy, parse_nameL i hR]
    exact (infEq_iff _ _).2 rfl
  · rw [decide_eq_false hy]
    cases hq : infEq (parseN t).1 i with
    | false => rfl
    | true =>
      rw [(infEq_iff _ _).1 hq] at h2
      exact absurd h2.symm hy
/-- What the law makes. -/
def infM (m : Nat) (q : ID) (n t : Int) : Inf := if m = 1 ∨ m = 2 then ⟨(m : Int) + 1, q, n, t⟩ else ⟨(m : Int) + 1, ID.zero, 0, 0⟩
theorem infM_right {m : Nat} (hm : m < 4) (q : ID) {n t : Int} (hn : isU64 n) (ht : isU64 t) : InfRight (infM m q n t) := by
  have : m = 0 ∨ m = 1 ∨ m = 2 ∨ m = 3 := by omega
  rcases this with rfl | rfl | rfl | rfl
  · exact .inl (.inl rfl)
  · exact .inr ⟨.inl rfl, ⟨hn, ht⟩⟩
  · exact .inr ⟨.inr rfl, ⟨hn, ht⟩⟩
  · exact .inl (.inr rfl)
theorem infR_ok {i : Inf} (h : InfRight i) : InfOk i := by
  rcases h with (rfl | rfl) | ⟨_, h⟩
  · exact inf0_ok 1
  · exact inf0_ok 4
  · exact h
theorem infR_len {i : Inf} (h : InfRight i) : 10 ≤ (nameL i).length ∧ (nameL i).length ≤ 82 := by
  have hl := name_len i
  rcases h with (rfl | rfl) | ⟨h2 | h3, _⟩
  · rw [hl]; decide
  · rw [hl]; decide
  · rw [h2] at hl; simp at hl; omega
  · rw [h3] at hl; simp at hl; omega
set_option maxHeartbeats 4000000 in
set_option maxRecDepth 4000 in
theorem scan21_ev [MaxL] (kd : Int) (q : ID) (n t : Int) (hn : isU64 n) (ht : isU64 t) (at_ : Int) (y : UInt8) : call cx 3 [.int .i64 kd, .agg (ofBytes q.l), .int .u64 n, .int .u64 t, .int .i64 at_, .int .u8 y.toNat] [] = some (.bool true, []) := by
  have hf := first21_ev
  obtain ⟨m, hm, hk4⟩ := num_ev kd 4 (by decide) (by decide)
  replace hk4 : call cx 5 [.int .i64 kd, .int .i64 4] [] = some (.int .i64 (m : Int), []) := hk4
  have hR := infM_right hm q hn ht
  have hdef : infM m q n t = if m = 1 ∨ m = 2 then ⟨(m : Int) + 1, q, n, t⟩ else ⟨(m : Int) + 1, ID.zero, 0, 0⟩ := rfl
  generalize infM m q n t = i at *
  have hl := infR_len hR
  have hs := name_ev i (infR_ok hR)
  have p1 := parse21_ev (nameL i) (by omega)
  rw [parse_nameL i hR] at p1
  simp only at p1
  have p5 := parse21_ev (nameL i ++ [126]) (by simp; omega)
  rw [parse_tilde i hR] at p5
  have hpe := fun t => @parseN_else i hR t
  have hpo := parseN_ok
  obtain ⟨s, hsc⟩ : ∃ s, s = nameL i := ⟨_, rfl⟩
  rw [← hsc] at hs hl p1 p5 hpe
  generalize parseN (s ++ [126]) = v5 at *
  obtain ⟨k, hk, hn⟩ := num_ev at_ s.length (by omega) (by omega)
  have hgd : s[k]? = some s[k] := List.getElem?_eq_getElem hk
  have hat := ofBytes_at hk
  have hx := xorI8 s[k] y
  have hset := set_bytes s k (s[k] ^^^ y) hk
  have q1 := parse21_ev (s.set k (s[k] ^^^ y)) (by simp; omega)
  have hsl : (s.set k (s[k] ^^^ y)).length = s.length := by simp
  have r1 : (parseN (s.set k (s[k] ^^^ y))).2 = true → nameL (parseN (s.set k (s[k] ^^^ y))).1 = s.set k (s[k] ^^^ y) ∧ infEq (parseN (s.set k (s[k] ^^^ y))).1 i = decide (y.toNat = 0) := by
    intro h
    obtain ⟨a1, a2⟩ := hpe _ h
    refine ⟨a1, ?_⟩
    rw [a2]
    by_cases hy : y.toNat = 0
    · have hy2 : y = 0 := UInt8.toNat_inj.1 hy
      subst hy2
      rw [decide_eq_true hy, decide_eq_true]
      simp
    · rw [decide_eq_false hy, decide_eq_false]
      intro e
      have e2 := congrArg (fun l : List UInt8 => l[k]?) e
      simp only [List.getElem?_set_self hk, hgd, Option.some.injEq] at e2
      exact hy (by rw [xor_self8 e2]; rfl)
  have o1 := hpo (s.set k (s[k] ^^^ y))
  generalize s.set k (s[k] ^^^ y) = t1 at *
  obtain ⟨j, hj⟩ : ∃ j, j = k + 1 := ⟨_, rfl⟩
  have lA : (s.take k).length = k := by rw [List.length_take]; omega
  have lB : (s.drop j).length = s.length - j := List.length_drop ..
  obtain ⟨A, hA⟩ : ∃ A, A = s.take k := ⟨_, rfl⟩
  obtain ⟨B, hB⟩ : ∃ B, B = s.drop j := ⟨_, rfl⟩
  have hd1 : List.take (s.length - j) (List.drop j s) = B := by rw [hB]; exact List.take_of_length_le (by simp)
  rw [← hA] at lA
  rw [← hB] at lB
  have hA' := hA.symm
  generalize s[k] = x at *
  have q2 := parse21_ev (A ++ B) (by simp; omega)
  have r2 : (parseN (A ++ B)).2 = true → infEq (parseN (A ++ B)).1 i = false := by
    intro h
    rw [(hpe _ h).2, decide_eq_false]
    intro e
    have := congrArg List.length e
    simp at this
    omega
  generalize parseN t1 = v1 at *
  generalize parseN (A ++ B) = v2 at *
  obtain ⟨v1, f1⟩ := v1
  obtain ⟨v2, f2⟩ := v2
  simp only at q1 q2 r1 r2 o1
  have q4 := name_ev v1 o1
  have hcc : infEq i i = true := (infEq_iff i i).2 rfl
  have hw : IntKind.i64.wrap ((k : Int) + 1) = (j : Int) := by rw [wrap_i64] <;> omega
  have g2 : (k : Int) < (s.length : Int) := by omega
  have g3 : (k : Int) ≤ (s.length : Int) := by omega
  have g4 : (j : Int) ≤ (s.length : Int) := by omega
  have g5 : k ≤ s.length := by omega
  have g6 : j ≤ s.length := by omega
  have g8 : k + 1 ≤ s.length := by omega
  have b1 : A.length + B.length ≤ 4611686018427387904 := by omega
  have b2 : s.length + 1 ≤ 4611686018427387904 := by omega
  have hs0 : ¬ (s.length : Int) = 0 := by omega
  have hs1 : ¬ s.length = 0 := by omega
  clear hpe hpo hsc hA hB
  have hxy := hx
  generalize x ^^^ y = xy at *
  have hyy : decide (y.toNat = 0) = ((y.toNat : Int) == 0) := by
    rw [Bool.eq_iff_iff]
    simp
  rw [hyy] at r1
  clear hyy
  have hm4 : m = 0 ∨ m = 1 ∨ m = 2 ∨ m = 3 := by omega
  clear hR
  refine call_run Tryd.func3 rfl ⟨rfl, rfl⟩ ?_
  rcases hm4 with rfl | rfl | rfl | rfl
  · simp only [show ¬ ((0 : Nat) = 1 ∨ (0 : Nat) = 2) by omega, if_false] at hdef
    have hkd : i.kind = 1 := by rw [hdef]; rfl
    have hL : Enc.cells i = [.int .i64 1, .int .u8 0, .int .u8 0, .int .u8 0, .int .u8 0, .int .u8 0, .int .u8 0, .int .u8 0, .int .u8 0, .int .u8 0, .int .u8 0, .int .u8 0, .int .u8 0, .int .u8 0, .int .u8 0, .int .u8 0, .int .u8 0, .int .u64 0, .int .u64 0] := by rw [hdef]; rfl
    rw [hkd] at p5
    clear hdef
    have c0 : cellsEq [.i, .i, .i, .i, .i, .i, .i, .i, .i, .i, .i, .i, .i, .i, .i, .i, .i, .i, .i] (Enc.cells i) ([.int .i64 1, .int .u8 0, .int .u8 0, .int .u8 0, .int .u8 0, .int .u8 0, .int .u8 0, .int .u8 0, .int .u8 0, .int .u8 0, .int .u8 0, .int .u8 0, .int .u8 0, .int .u8 0, .int .u8 0, .int .u8 0, .int .u8 0, .int .u64 0, .int .u64 0]) = some true := by rw [← hL, Inf.eq19, hcc]
    have c1 : cellsEq [.i, .i, .i, .i, .i, .i, .i, .i, .i, .i, .i, .i, .i, .i, .i, .i, .i, .i, .i] (Enc.cells v1) ([.int .i64 1, .int .u8 0, .int .u8 0, .int .u8 0, .int .u8 0, .int .u8 0, .int .u8 0, .int .u8 0, .int .u8 0, .int .u8 0, .int .u8 0, .int .u8 0, .int .u8 0, .int .u8 0, .int .u8 0, .int .u8 0, .int .u8 0, .int .u64 0, .int .u64 0]) = some (infEq v1 i) := by rw [← hL, Inf.eq19]
    have c2 : cellsEq [.i, .i, .i, .i, .i, .i, .i, .i, .i, .i, .i, .i, .i, .i, .i, .i, .i, .i, .i] (Enc.cells v2) ([.int .i64 1, .int .u8 0, .int .u8 0, .int .u8 0, .int .u8 0, .int .u8 0, .int .u8 0, .int .u8 0, .int .u8 0, .int .u8 0, .int .u8 0, .int .u8 0, .int .u8 0, .int .u8 0, .int .u8 0, .int .u8 0, .int .u8 0, .int .u64 0, .int .u64 0]) = some (infEq v2 i) := by rw [← hL, Inf.eq19]
    rw [hL] at hs
    cases f1 <;> cases f2 <;> simp only [true_implies, false_implies, Bool.false_eq_true] at r1 r2 <;>
      simp [Tryd.f3, hf, hk4, hs, hs1, p1, p5, hn, hat, hx, hset, hsl, q1, q2, q4, r1, r2, c0, c1, c2, hw, g2, g3, g4, g8, b1, b2, hd1, hA']
  · simp only at hdef
    have hkd : i.kind = 2 := by rw [hdef]; rfl
    have hL : Enc.cells i = .int .i64 2 :: (ofBytes q.l ++ [.int .u64 n, .int .u64 t]) := by rw [hdef]; rfl
    rw [hkd] at p5
    clear hdef
    have c0 : cellsEq [.i, .i, .i, .i, .i, .i, .i, .i, .i, .i, .i, .i, .i, .i, .i, .i, .i, .i, .i] (Enc.cells i) (.int .i64 2 :: (ofBytes q.l ++ [.int .u64 n, .int .u64 t])) = some true := by rw [← hL, Inf.eq19, hcc]
    have c1 : cellsEq [.i, .i, .i, .i, .i, .i, .i, .i, .i, .i, .i, .i, .i, .i, .i, .i, .i, .i, .i] (Enc.cells v1) (.int .i64 2 :: (ofBytes q.l ++ [.int .u64 n, .int .u64 t])) = some (infEq v1 i) := by rw [← hL, Inf.eq19]
    have c2 : cellsEq [.i, .i, .i, .i, .i, .i, .i, .i, .i, .i, .i, .i, .i, .i, .i, .i, .i, .i, .i] (Enc.cells v2) (.int .i64 2 :: (ofBytes q.l ++ [.int .u64 n, .int .u64 t])) = some (infEq v2 i) := by rw [← hL, Inf.eq19]
    rw [hL] at hs
    cases f1 <;> cases f2 <;> simp only [true_implies, false_implies, Bool.false_eq_true] at r1 r2 <;>
      simp [Tryd.f3, hf, hk4, hs, hs1, p1, p5, hn, hat, hx, hset, hsl, q1, q2, q4, r1, r2, c0, c1, c2, hw, g2, g3, g4, g8, b1, b2, hd1, hA', List.take_append, List.drop_append, drop_bytes, List.take_of_length_le]
  · simp only at hdef
    have hkd : i.kind = 3 := by rw [hdef]; rfl
    have hL : Enc.cells i = .int .i64 3 :: (ofBytes q.l ++ [.int .u64 n, .int .u64 t]) := by rw [hdef]; rfl
    rw [hkd] at p5
    clear hdef
    have c0 : cellsEq [.i, .i, .i, .i, .i, .i, .i, .i, .i, .i, .i, .i, .i, .i, .i, .i, .i, .i, .i] (Enc.cells i) (.int .i64 3 :: (ofBytes q.l ++ [.int .u64 n, .int .u64 t])) = some true := by rw [← hL, Inf.eq19, hcc]
    have c1 : cellsEq [.i, .i, .i, .i, .i, .i, .i, .i, .i, .i, .i, .i, .i, .i, .i, .i, .i, .i, .i] (Enc.cells v1) (.int .i64 3 :: (ofBytes q.l ++ [.int .u64 n, .int .u64 t])) = some (infEq v1 i) := by rw [← hL, Inf.eq19]
    have c2 : cellsEq [.i, .i, .i, .i, .i, .i, .i, .i, .i, .i, .i, .i, .i, .i, .i, .i, .i, .i, .i] (Enc.cells v2) (.int .i64 3 :: (ofBytes q.l ++ [.int .u64 n, .int .u64 t])) = some (infEq v2 i) := by rw [← hL, Inf.eq19]
    rw [hL] at hs
    cases f1 <;> cases f2 <;> simp only [true_implies, false_implies, Bool.false_eq_true] at r1 r2 <;>
      simp [Tryd.f3, hf, hk4, hs, hs1, p1, p5, hn, hat, hx, hset, hsl, q1, q2, q4, r1, r2, c0, c1, c2, hw, g2, g3, g4, g8, b1, b2, hd1, hA', List.take_append, List.drop_append, drop_bytes, List.take_of_length_le]
  · simp only [show ¬ ((3 : Nat) = 1 ∨ (3 : Nat) = 2) by omega, if_false] at hdef
    have hkd : i.kind = 4 := by rw [hdef]; rfl
    have hL : Enc.cells i = [.int .i64 4, .int .u8 0, .int .u8 0, .int .u8 0, .int .u8 0, .int .u8 0, .int .u8 0, .int .u8 0, .int .u8 0, .int .u8 0, .int .u8 0, .int .u8 0, .int .u8 0, .int .u8 0, .int .u8 0, .int .u8 0, .int .u8 0, .int .u64 0, .int .u64 0] := by rw [hdef]; rfl
    rw [hkd] at p5
    clear hdef
    have c0 : cellsEq [.i, .i, .i, .i, .i, .i, .i, .i, .i, .i, .i, .i, .i, .i, .i, .i, .i, .i, .i] (Enc.cells i) ([.int .i64 4, .int .u8 0, .int .u8 0, .int .u8 0, .int .u8 0, .int .u8 0, .int .u8 0, .int .u8 0, .int .u8 0, .int .u8 0, .int .u8 0, .int .u8 0, .int .u8 0, .int .u8 0, .int .u8 0, .int .u8 0, .int .u8 0, .int .u64 0, .int .u64 0]) = some true := by rw [← hL, Inf.eq19, hcc]
    have c1 : cellsEq [.i, .i, .i, .i, .i, .i, .i, .i, .i, .i, .i, .i, .i, .i, .i, .i, .i, .i, .i] (Enc.cells v1) ([.int .i64 4, .int .u8 0, .int .u8 0, .int .u8 0, .int .u8 0, .int .u8 0, .int .u8 0, .int .u8 0, .int .u8 0, .int .u8 0, .int .u8 0, .int .u8 0, .int .u8 0, .int .u8 0, .int .u8 0, .int .u8 0, .int .u8 0, .int .u64 0, .int .u64 0]) = some (infEq v1 i) := by rw [← hL, Inf.eq19]
    have c2 : cellsEq [.i, .i, .i, .i, .i, .i, .i, .i, .i, .i, .i, .i, .i, .i, .i, .i, .i, .i, .i] (Enc.cells v2) ([.int .i64 4, .int .u8 0, .int .u8 0, .int .u8 0, .int .u8 0, .int .u8 0, .int .u8 0, .int .u8 0, .int .u8 0, .int .u8 0, .int .u8 0, .int .u8 0, .int .u8 0, .int .u8 0, .int .u8 0, .int .u8 0, .int .u8 0, .int .u64 0, .int .u64 0]) = some (infEq v2 i) := by rw [← hL, Inf.eq19]
    rw [hL] at hs
    cases f1 <;> cases f2 <;> simp only [true_implies, false_implies, Bool.false_eq_true] at r1 r2 <;>
      simp [Tryd.f3, hf, hk4, hs, hs1, p1, p5, hn, hat, hx, hset, hsl, q1, q2, q4, r1, r2, c0, c1, c2, hw, g2, g3, g4, g8, b1, b2, hd1, hA']
end Go.Ev.S
/- A name as an argument. -/
namespace Go.Ev
open Go Go.Proofs
theorem arg_id {H : Type} {enc : TypeId × Value → H} {P : Program} {W : World} {base n : Nat} {t e : TypeId} {v : Value} {d : DataW H} {ps : List MemPlace} (hu : P.underlying t = some (.array 16 e)) (he : P.underlying e = some (.int .u8)) (hp : PlainT P (n + 2) t = true) (hv : Value.okWide P W .any base t v) (h : DataW.Trod enc P W 0 (fun _ => true) true t v d ps) :
    ∃ i : ID, Rep (· < W.heap.size) W iota0 [] (.agg (ofBytes i.l)) v := by
  obtain ⟨ds, h1, h2⟩ := read_plain hp h
  obtain ⟨i, rfl⟩ := has_id hu he h1
  obtain ⟨vs, rfl⟩ := agg_array hu hv
  exact ⟨i, cor_agg h2⟩
end Go.Ev
/- The library as it lies in this program: the shelf's layings, printed by its tool. -/
namespace Go.Proofs
open Go.Shelf
def Tryd.laysM219_ren : Go.Shelf.Ren := ⟨fun | 219 => 49 | 217 => 35 | 225 => 65 | 224 => 66 | 267 => 67 | 266 => 50 | 314 => 73 | n => n, fun | 9 => 9 | 3 => 3 | 4 => 4 | 5 => 5 | 46 => 44 | 146 => 73 | 51 => 72 | n => n, fun | 1 => 1 | n => n⟩
theorem Tryd.laysM219 : Go.Proofs.LaysM.n219 Tryd.prog Tryd.laysM219_ren := {
  mixed := by kernel_rfl
  f217 := Tryd.func35.trans (congrArg some (by kernel_rfl))
  f219 := Tryd.func49.trans (congrArg some (by kernel_rfl))
  f224 := Tryd.func66.trans (congrArg some (by kernel_rfl))
  f225 := Tryd.func65.trans (congrArg some (by kernel_rfl))
  f266 := Tryd.func50.trans (congrArg some (by kernel_rfl))
  f267 := Tryd.func67.trans (congrArg some (by kernel_rfl))
  f314 := Tryd.func73.trans (congrArg some (by kernel_rfl))
  t3 := Tryd.underlying3
  a3 := Tryd.isAgg3
  z3 := Tryd.sizeOf3
  v3 := Tryd.zeroValue3
  t4 := Tryd.underlying4
  a4 := Tryd.isAgg4
  z4 := Tryd.sizeOf4
  v4 := Tryd.zeroValue4
  t5 := Tryd.underlying5
  a5 := Tryd.isAgg5
  z5 := Tryd.sizeOf5
  v5 := Tryd.zeroValue5
  t9 := Tryd.underlying9
  a9 := Tryd.isAgg9
  z9 := Tryd.sizeOf9
  v9 := Tryd.zeroValue9
  t46 := Tryd.underlying44
  a46 := Tryd.isAgg44
  z46 := Tryd.sizeOf44
  v46 := Tryd.zeroValue44
  t51 := Tryd.underlying72
  a51 := Tryd.isAgg72
  z51 := Tryd.sizeOf72
  v51 := Tryd.zeroValue72
  t146 := Tryd.underlying73
  a146 := Tryd.isAgg73
  z146 := Tryd.sizeOf73
  v146 := Tryd.zeroValue73
  g1 := by kernel_rfl
  i3 := by kernel_rfl
  i4 := by kernel_rfl
  i5 := by kernel_rfl
  i9 := by kernel_rfl
  i46 := by kernel_rfl
  i51 := by kernel_rfl
  i146 := by kernel_rfl
  m1 := by kernel_rfl
  s1_3 := fun w h => Go.Proofs.cell_of_shapedOpen_int (zero := #[.int .i64 0]) (t := 3) h (of_decide_eq_true (by kernel_rfl)) (by kernel_rfl) rfl (by kernel_rfl) (by kernel_rfl) Tryd.underlying3 }
end Go.Proofs
/- A law whose rows list variables: the world is of the program's shape, too. -/
namespace Go.Ev
open Go Go.Proofs Go.ChangeShapes Go.WideShapes Go.ChangeAt Go.RowKit
theorem handed_shaped {H : Type} {enc : TypeId × Value → H} {a : Assume} {C : Checked} {os : Os} {f : FuncId} {fn : Func} {s : ChangeSpec} {conds : List PathCond} {apart fresh handsOn again : Bool} {X : World → Array Value → Prop}
    (hX : ∀ (w w' : World) (args : Array Value), w.heap = w'.heap → X w args → X w' args)
    (own : ownKnob C.prog.godebug = none) (started : os.Started) (noInit : C.prog.inits.idxOf? f = none) (hfn : C.prog.funcs[f]? = some fn)
    (witness : ∃ (w : World) (tape : Tape) (i : Input), w.os = os ∧ (w.forCall tape i).Shaped C.prog ∧ i.vars = [] ∧ Input.okWide C.prog (w.forCall tape i) .any w.heap.size f i ∧
      ((s.pre enc C.prog fn conds apart (w.forCall tape i).memory i.args ∧ X (w.forCall tape i).memory i.args) ∧ sizedMet enc C.prog fn (OpenSpec.ofChange s) apart (w.forCall tape i).memory i.args) ∧ a.holds C.prog (lone (Frame.enter C.prog f i.args .normal) [] (w.forCall tape i)))
    (contract : ∀ (W : World) (base : Nat) (args : Array Value) (ds gs : List (DataW H)) (before : List MemPlace),
      (∀ (j : Nat) t v, fn.params[j]? = some t → args[j]? = some v → Value.okWide C.prog W .any base t v) →
      DataW.Whole enc C.prog fn.params.toList s.vars apart W args.toList ds gs before → X W args → W.ShapedOpen C.prog →
      Calls C.prog f args W fun e W' => ∃ v, e = .returned v ∧ s.post enc C.prog fn apart fresh handsOn again W args v W') :
    ReturnsInHanded a C os f .any (fun w args => (s.pre enc C.prog fn conds apart w args ∧ X w args) ∧ sizedMet enc C.prog fn (OpenSpec.ofChange s) apart w args) (s.post enc C.prog fn apart fresh handsOn again) := by
  refine returnsInHanded_of_calls own started noInit witness ?_
  intro w tape i _ hsh _ hok hpre _
  obtain ⟨_, _, _, fn', hfn', _, _, _, _, hval⟩ := hok
  have e : fn' = fn := Option.some.inj (hfn'.symm.trans hfn)
  subst e
  obtain ⟨⟨⟨ds, gs, before, hw, hc⟩, hx⟩, hz⟩ := hpre
  have hw' := DataW.Whole.of_heap (w' := w.forCall tape i) (by rfl) hw
  refine (contract (w.forCall tape i) w.heap.size i.args ds gs before hval hw' (hX _ _ _ (by rfl) hx) hsh).mono fun e W' ⟨v, he, hp⟩ => ?_
  subst he
  exact ChangeSpec.post_blind hp
end Go.Ev
