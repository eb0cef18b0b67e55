import Derived.Test.YtaponndjgdfkbaaDoorC4
import Derived.Handed
import Derived.LaidMore
/- Requests and responses are put. -/
namespace Go.Ev.S
open Go Go.Proofs Go.Ev
theorem dec_ev [MaxL] (v : Nat) (hv : v < 18446744073709551616) : call cx 81 [.int .u64 v] [] = some (.str (dec v), []) := by
  have h := fu_ev v hv
  refine call_run Tryd.func81 rfl ⟨rfl, rfl⟩ ?_
  simp [Tryd.f81, h]
theorem head_ev [MaxL] (b : List UInt8) (hb : b.length ≤ 1000) (e n l : Nat) (he : e < 18446744073709551616) (hn : n < 18446744073709551616) (hl : l < 18446744073709551616) :
    call cx 63 [.str b, .int .u64 e, .int .u64 n, .int .u64 l] [] = some (.str (b ++ numsL e n l), []) := by
  have h1 := dec_ev e he
  have h2 := dec_ev n hn
  have h3 := dec_ev l hl
  have l1 := dec_len e
  have l2 := dec_len n
  have l3 := dec_len l
  unfold numsL
  generalize dec e = x at *
  generalize dec n = y at *
  generalize dec l = z at *
  clear he hn hl
  obtain ⟨s1, es1⟩ : ∃ s, s = b ++ epochL := ⟨_, rfl⟩
  have ls1 : s1.length = b.length + epochL.length := by rw [es1, List.length_append]
  obtain ⟨s2, es2⟩ : ∃ s, s = s1 ++ x := ⟨_, rfl⟩
  have ls2 : s2.length = s1.length + x.length := by rw [es2, List.length_append]
  obtain ⟨s3, es3⟩ : ∃ s, s = s2 ++ crlf := ⟨_, rfl⟩
  have ls3 : s3.length = s2.length + crlf.length := by rw [es3, List.length_append]
  obtain ⟨s4, es4⟩ : ∃ s, s = s3 ++ numberL := ⟨_, rfl⟩
  have ls4 : s4.length = s3.length + numberL.length := by rw [es4, List.length_append]
  obtain ⟨s5, es5⟩ : ∃ s, s = s4 ++ y := ⟨_, rfl⟩
  have ls5 : s5.length = s4.length + y.length := by rw [es5, List.length_append]
  obtain ⟨s6, es6⟩ : ∃ s, s = s5 ++ crlf := ⟨_, rfl⟩
  have ls6 : s6.length = s5.length + crlf.length := by rw [es6, List.length_append]
  obtain ⟨s7, es7⟩ : ∃ s, s = s6 ++ lengthL := ⟨_, rfl⟩
  have ls7 : s7.length = s6.length + lengthL.length := by rw [es7, List.length_append]
  obtain ⟨s8, es8⟩ : ∃ s, s = s7 ++ z := ⟨_, rfl⟩
  have ls8 : s8.length = s7.length + z.length := by rw [es8, List.length_append]
  obtain ⟨s9, es9⟩ : ∃ s, s = s8 ++ crlf := ⟨_, rfl⟩
  have ls9 : s9.length = s8.length + crlf.length := by rw [es9, List.length_append]
  obtain ⟨s10, es10⟩ : ∃ s, s = s9 ++ crlf := ⟨_, rfl⟩
  have ls10 : s10.length = s9.length + crlf.length := by rw [es10, List.length_append]
  simp only [epochL, numberL, lengthL, crlf, List.length_cons, List.length_nil] at ls1 ls2 ls3 ls4 ls5 ls6 ls7 ls8 ls9 ls10
  have cs1 := cat_of es1 (by (try simp only [epochL, List.length_cons, List.length_nil]); omega)
  have cs2 := cat_of es2 (by (try simp only [epochL, numberL, lengthL, crlf, List.length_cons, List.length_nil]); omega)
  have cs3 := cat_of es3 (by (try simp only [crlf, List.length_cons, List.length_nil]); omega)
  have cs4 := cat_of es4 (by (try simp only [numberL, List.length_cons, List.length_nil]); omega)
  have cs5 := cat_of es5 (by (try simp only [epochL, numberL, lengthL, crlf, List.length_cons, List.length_nil]); omega)
  have cs6 := cat_of es6 (by (try simp only [crlf, List.length_cons, List.length_nil]); omega)
  have cs7 := cat_of es7 (by (try simp only [lengthL, List.length_cons, List.length_nil]); omega)
  have cs8 := cat_of es8 (by (try simp only [epochL, numberL, lengthL, crlf, List.length_cons, List.length_nil]); omega)
  have cs9 := cat_of es9 (by (try simp only [crlf, List.length_cons, List.length_nil]); omega)
  have cs10 := cat_of es10 (by (try simp only [crlf, List.length_cons, List.length_nil]); omega)
  simp only [epochL, numberL, lengthL, crlf] at cs1 cs2 cs3 cs4 cs5 cs6 cs7 cs8 cs9 cs10
  have hfin : b ++ (epochL ++ (x ++ (crlf ++ (numberL ++ (y ++ (crlf ++ (lengthL ++ (z ++ (crlf ++ crlf))))))))) = s10 := by
    simp [es10, es9, es8, es7, es6, es5, es4, es3, es2, es1]
  rw [hfin]
  clear hfin es1 es2 es3 es4 es5 es6 es7 es8 es9 es10 ls1 ls2 ls3 ls4 ls5 ls6 ls7 ls8 ls9 ls10 l1 l2 l3 hb
  refine call_run Tryd.func63 rfl ⟨rfl, rfl⟩ ?_
  simp [Tryd.f63, h1, h2, h3, -strD, cs1, cs2, cs3, cs4, cs5, cs6, cs7, cs8, cs9, cs10]
/-- A head and a body, if the body is not too long. -/
def putS (b : List UInt8) (e n : Nat) (body : List UInt8) : Sl UInt8 := if 65536 < body.length then .none else .of (b ++ (numsL e n body.length ++ body))
theorem put_ev [MaxL] (b : List UInt8) (hb : b.length ≤ 1000) (e n : Nat) (he : e < 18446744073709551616) (hn : n < 18446744073709551616) (body : Sl UInt8) (hl : body.l.length ≤ 100000) :
    call cx 42 [.str b, .int .u64 e, .int .u64 n, (.vsl body.nil (ofBytes body.l) body.l.length)] [] = some ((.vsl (putS b e n body.l).nil (ofBytes (putS b e n body.l).l) (putS b e n body.l).l.length), []) := by
  refine call_run Tryd.func42 rfl ⟨rfl, rfl⟩ ?_
  unfold putS
  by_cases h : 65536 < body.l.length
  · have h' : (65536 : Int) < (body.l.length : Int) := by omega
    simp [Tryd.f42, h, h']
  · have h' : ¬ (65536 : Int) < (body.l.length : Int) := by omega
    have h1 := head_ev b hb e n body.l.length he hn (by omega)
    have hw : IntKind.u64.wrap (body.l.length : Int) = (body.l.length : Int) := by rw [wrap_u64]; omega
    have hx := nums_len e n body.l.length
    generalize numsL e n body.l.length = x at *
    have hm : b.length + (x.length + body.l.length) ≤ maxBytes := by unfold maxBytes; omega
    simp [Tryd.f42, h, h', h1, hw, hm, ofBytes_append, List.take_of_length_le, Nat.add_assoc]
def postL : List UInt8 := [80, 79, 83, 84, 32]
def httpL : List UInt8 := [32, 72, 84, 84, 80, 47, 49, 46, 49]
def hostL : List UInt8 := [72, 111, 115, 116, 58, 32, 114, 101, 99, 101, 105, 118, 101, 114]
def ctypeL : List UInt8 := [67, 111, 110, 116, 101, 110, 116, 45, 84, 121, 112, 101, 58, 32, 97, 112, 112, 108, 105, 99, 97, 116, 105, 111, 110, 47, 118, 110, 100, 46, 102, 100, 111, 46, 106, 111, 117, 114, 110, 97, 108]
def beginL (p : List UInt8) : List UInt8 := postL ++ (p ++ (httpL ++ (crlf ++ (hostL ++ (crlf ++ (ctypeL ++ crlf))))))
theorem begin_len (p : List UInt8) : (beginL p).length = p.length + 75 := by
  simp [beginL, postL, httpL, hostL, ctypeL, crlf]
theorem begin_ev [MaxL] (p : List UInt8) (hp : p.length ≤ 100) : call cx 43 [.str p] [] = some (.str (beginL p), []) := by
  obtain ⟨s1, es1⟩ : ∃ s, s = postL ++ p := ⟨_, rfl⟩
  have ls1 : s1.length = postL.length + p.length := by rw [es1, List.length_append]
  obtain ⟨s2, es2⟩ : ∃ s, s = s1 ++ httpL := ⟨_, rfl⟩
  have ls2 : s2.length = s1.length + httpL.length := by rw [es2, List.length_append]
  obtain ⟨s3, es3⟩ : ∃ s, s = s2 ++ crlf := ⟨_, rfl⟩
  have ls3 : s3.length = s2.length + crlf.length := by rw [es3, List.length_append]
  obtain ⟨s4, es4⟩ : ∃ s, s = s3 ++ hostL := ⟨_, rfl⟩
  have ls4 : s4.length = s3.length + hostL.length := by rw [es4, List.length_append]
  obtain ⟨s5, es5⟩ : ∃ s, s = s4 ++ crlf := ⟨_, rfl⟩
  have ls5 : s5.length = s4.length + crlf.length := by rw [es5, List.length_append]
  obtain ⟨s6, es6⟩ : ∃ s, s = s5 ++ ctypeL := ⟨_, rfl⟩
  have ls6 : s6.length = s5.length + ctypeL.length := by rw [es6, List.length_append]
  obtain ⟨s7, es7⟩ : ∃ s, s = s6 ++ crlf := ⟨_, rfl⟩
  have ls7 : s7.length = s6.length + crlf.length := by rw [es7, List.length_append]
  simp only [postL, httpL, hostL, ctypeL, crlf, List.length_cons, List.length_nil] at ls1 ls2 ls3 ls4 ls5 ls6 ls7
  have cs1 := cat_of es1 (by (try simp only [postL, List.length_cons, List.length_nil]); omega)
  have cs2 := cat_of es2 (by (try simp only [httpL, List.length_cons, List.length_nil]); omega)
  have cs3 := cat_of es3 (by (try simp only [crlf, List.length_cons, List.length_nil]); omega)
  have cs4 := cat_of es4 (by (try simp only [hostL, List.length_cons, List.length_nil]); omega)
  have cs5 := cat_of es5 (by (try simp only [crlf, List.length_cons, List.length_nil]); omega)
  have cs6 := cat_of es6 (by (try simp only [ctypeL, List.length_cons, List.length_nil]); omega)
  have cs7 := cat_of es7 (by (try simp only [crlf, List.length_cons, List.length_nil]); omega)
  simp only [postL, httpL, hostL, ctypeL, crlf] at cs1 cs2 cs3 cs4 cs5 cs6 cs7
  have hfin : beginL p = s7 := by
    simp [beginL, es7, es6, es5, es4, es3, es2, es1]
  rw [hfin]
  clear hfin es1 es2 es3 es4 es5 es6 es7 ls1 ls2 ls3 ls4 ls5 ls6 ls7 hp
  refine call_run Tryd.func43 rfl ⟨rfl, rfl⟩ ?_
  simp [Tryd.f43, -strD, cs1, cs2, cs3, cs4, cs5, cs6, cs7]
def okStr : List UInt8 := [50, 48, 48, 32, 79, 75]
def badStr : List UInt8 := [52, 48, 48, 32, 66, 97, 100, 32, 82, 101, 113, 117, 101, 115, 116]
def conStr : List UInt8 := [52, 48, 57, 32, 67, 111, 110, 102, 108, 105, 99, 116]
def statusL (n : Int) : List UInt8 := [72, 84, 84, 80, 47, 49, 46, 49, 32] ++ ((if n = 400 then badStr else if n = 409 then conStr else okStr) ++ [13, 10])
theorem status_ev [MaxL] (n : Int) : call cx 45 [.int .i64 n] [] = some (.str (statusL n), []) := by
  refine call_run Tryd.func45 rfl ⟨rfl, rfl⟩ ?_
  unfold statusL
  by_cases h1 : n = 400
  · simp [Tryd.f45, h1, badStr]
  · by_cases h2 : n = 409
    · simp [Tryd.f45, h2, conStr]
    · simp [Tryd.f45, h1, h2, okStr]
def helloL : List UInt8 := [47, 104, 101, 108, 108, 111]
def batchL : List UInt8 := [47, 98, 97, 116, 99, 104]
theorem path_ev [MaxL] (s : List UInt8) : call cx 41 [.str s] [] = some (.bool (s == helloL || s == batchL), []) := by
  refine call_run Tryd.func41 rfl ⟨rfl, rfl⟩ ?_
  have h1 : (s == [47, 104, 101, 108, 108, 111]) = (s == helloL) := rfl
  have h2 : (s == [47, 98, 97, 116, 99, 104]) = (s == batchL) := rfl
  cases h : s == helloL
  · rw [h] at h1
    cases h' : s == batchL <;> rw [h'] at h2 <;> simp [Tryd.f41, h1, h2]
  · rw [h] at h1
    simp [Tryd.f41, h1]
def putRq (r : Rq) : Sl UInt8 := if r.path == helloL || r.path == batchL then putS (beginL r.path) r.epoch.toNat r.number.toNat r.body.l else .none
def putRs (r : Rs) : Sl UInt8 := if r.status = 200 ∨ r.status = 400 ∨ r.status = 409 then putS (statusL r.status) r.epoch.toNat r.number.toNat r.body.l else .none
theorem putrq_ev [MaxL] (r : Rq) (he : isU64 r.epoch) (hn : isU64 r.number) (hp : r.path.length ≤ 100) (hb : r.body.l.length ≤ 100000) : call cx 15 [.agg (Enc.cells r)] [] = some ((.vsl (putRq r).nil (ofBytes (putRq r).l) (putRq r).l.length), []) := by
  have h1 := path_ev r.path
  have h2 := begin_ev r.path hp
  have h3 := put_ev (beginL r.path) (by rw [begin_len]; omega) r.epoch.toNat r.number.toNat (by unfold isU64 at he; omega) (by unfold isU64 at hn; omega) r.body hb
  have e1 : ((r.epoch.toNat : Nat) : Int) = r.epoch := by unfold isU64 at he; omega
  have e2 : ((r.number.toNat : Nat) : Int) = r.number := by unfold isU64 at hn; omega
  rw [e1, e2] at h3
  refine call_run Tryd.func15 rfl ⟨rfl, rfl⟩ ?_
  unfold putRq
  generalize putS (beginL r.path) r.epoch.toNat r.number.toNat r.body.l = x at *
  cases h : (r.path == helloL || r.path == batchL)
  · rw [h] at h1
    simp [Tryd.f15, Rq.cells, h1]
  · rw [h] at h1
    simp [Tryd.f15, Rq.cells, h1, h2, h3]
theorem status_len (n : Int) : (statusL n).length ≤ 30 := by
  unfold statusL
  split
  · decide
  · split <;> decide
theorem putrs_ev [MaxL] (r : Rs) (he : isU64 r.epoch) (hn : isU64 r.number) (hb : r.body.l.length ≤ 100000) : call cx 18 [.agg (Enc.cells r)] [] = some ((.vsl (putRs r).nil (ofBytes (putRs r).l) (putRs r).l.length), []) := by
  have h2 := status_ev r.status
  have h3 := put_ev (statusL r.status) (by have := status_len r.status; omega) r.epoch.toNat r.number.toNat (by unfold isU64 at he; omega) (by unfold isU64 at hn; omega) r.body hb
  have e1 : ((r.epoch.toNat : Nat) : Int) = r.epoch := by unfold isU64 at he; omega
  have e2 : ((r.number.toNat : Nat) : Int) = r.number := by unfold isU64 at hn; omega
  rw [e1, e2] at h3
  refine call_run Tryd.func18 rfl ⟨rfl, rfl⟩ ?_
  unfold putRs
  generalize putS (statusL r.status) r.epoch.toNat r.number.toNat r.body.l = x at *
  by_cases a1 : r.status = 200
  · rw [a1] at h2 h3
    simp [Tryd.f18, Rs.cells, a1, h2, h3]
  · by_cases a2 : r.status = 400
    · rw [a2] at h2 h3
      simp [Tryd.f18, Rs.cells, a2, h2, h3]
    · by_cases a3 : r.status = 409
      · rw [a3] at h2 h3
        simp [Tryd.f18, Rs.cells, a3, h2, h3]
      · simp [Tryd.f18, Rs.cells, a1, a2, a3]
end Go.Ev.S
/- Small numbers. -/
namespace Go.Ev.S
open Go Go.Proofs Go.Ev
theorem number_ev [MaxL] (n b : Int) : call cx 13 [.int .i64 n, .int .i64 b] [] = some (.int .i64 (if b < 1 then 0 else (IntKind.i64.wrap (n.tmod b + b)).tmod b), []) := by
  refine call_run Tryd.func13 rfl ⟨rfl, rfl⟩ ?_
  by_cases h1 : b < 1
  · simp [Tryd.f13, h1]
  · have h2 : b ≠ 0 := by omega
    simp [Tryd.f13, h1, h2]
/-- A number below b. -/
theorem num_ev [MaxL] (n : Int) (b : Nat) (hb : 1 ≤ b) (hb2 : b ≤ 1000000) : ∃ x : Nat, x < b ∧ call cx 13 [.int .i64 n, .int .i64 b] [] = some (.int .i64 x, []) := by
  have h1 : n.tmod b < b := Int.tmod_lt_of_pos _ (by omega)
  have h2 : -(b : Int) < n.tmod b := by
    have := Int.tmod_lt_of_pos (-n) (show (0 : Int) < b by omega)
    rw [Int.neg_tmod] at this
    omega
  have h := number_ev n b
  rw [if_neg (by omega)] at h
  generalize n.tmod b = x at *
  have hw : IntKind.i64.wrap (x + b) = x + b := by rw [wrap_i64]; omega
  rw [hw] at h
  have h3 : 0 ≤ x + b := by omega
  have h4 := Int.tmod_nonneg (b : Int) h3
  have h5 := Int.tmod_lt_of_pos (x + b) (show (0 : Int) < b by omega)
  refine ⟨((x + b).tmod b).toNat, by omega, ?_⟩
  rw [h]
  congr 3
  omega
end Go.Ev.S
/- HttpRefuses: the law answers true. -/
namespace Go.Ev.S
open Go Go.Proofs Go.Ev
theorem reps (n : Nat) : List.replicate n (D.int .u8 0) = ofBytes (List.replicate n 0) := by simp [ofBytes]
theorem putS_len (b : List UInt8) (e n : Nat) (body : List UInt8) : 0 < (putS b e n body).l.length ↔ body.length ≤ 65536 := by
  unfold putS
  by_cases h : 65536 < body.length
  · simp [h]
  · have : 0 < (numsL e n body.length).length := by simp [numsL, epochL]
    simp [h]
    omega
set_option maxRecDepth 20000 in
set_option maxHeartbeats 8000000 in
theorem refuses_ev [MaxL] (p : List UInt8) (s n : Int) (_hp : p.length ≤ maxLen) : call cx 5 [.str p, .int .i64 s, .int .i64 n] [] = some (.bool true, []) := by
  have hf := first27_ev
  refine call_run Tryd.func5 rfl ⟨rfl, rfl⟩ ?_
  by_cases h1 : p.length ≤ 60
  · have h1' : ¬ (60 : Int) < (p.length : Int) := by omega
    obtain ⟨k, hk, hn⟩ := num_ev n 3 (by omega) (by omega)
    have a1 := putrq_ev ⟨p, 0, 0, .none⟩ (by simp [isU64]) (by simp [isU64]) (by simp; omega) (by simp)
    have a2 := putrs_ev ⟨s, 0, 0, .none⟩ (by simp [isU64]) (by simp [isU64]) (by simp)
    have a3 := putrq_ev ⟨batchL, 0, 0, .of (List.replicate (65535 + k) 0)⟩ (by simp [isU64]) (by simp [isU64]) (by simp [batchL]) (by simp; omega)
    have a4 := putrs_ev ⟨400, 0, 0, .of (List.replicate (65535 + k) 0)⟩ (by simp [isU64]) (by simp [isU64]) (by simp; omega)
    have b1 : (0 < (putRq ⟨p, 0, 0, .none⟩).l.length) ↔ (p == helloL || p == batchL) = true := by
      unfold putRq
      split
      · rename_i h
        simp only [h, iff_true]
        rw [putS_len]
        simp
      · rename_i h
        simp only [h]
        simp
    have b2 : (0 < (putRs ⟨s, 0, 0, .none⟩).l.length) ↔ (s = 200 ∨ s = 400 ∨ s = 409) := by
      unfold putRs
      split
      · rename_i h
        simp only [h, iff_true]
        rw [putS_len]
        simp
      · rename_i h
        simp only [h]
        simp
    have b3 : (0 < (putRq ⟨batchL, 0, 0, .of (List.replicate (65535 + k) 0)⟩).l.length) ↔ k < 2 := by
      unfold putRq
      rw [if_pos (show (batchL == helloL || batchL == batchL) = true by decide), putS_len]
      simp
      omega
    have b4 : (0 < (putRs ⟨400, 0, 0, .of (List.replicate (65535 + k) 0)⟩).l.length) ↔ k < 2 := by
      unfold putRs
      rw [if_pos (.inr (.inl rfl)), putS_len]
      simp
      omega
    generalize putRq ⟨p, 0, 0, .none⟩ = x1 at *
    generalize putRs ⟨s, 0, 0, .none⟩ = x2 at *
    generalize putRq ⟨batchL, 0, 0, .of (List.replicate (65535 + k) 0)⟩ = x3 at *
    generalize putRs ⟨400, 0, 0, .of (List.replicate (65535 + k) 0)⟩ = x4 at *
    simp [Rq.cells] at a1 a3
    simp [Rs.cells] at a2 a4
    have hw : IntKind.i64.wrap (65535 + (k : Int)) = ((65535 + k : Nat) : Int) := by rw [wrap_i64] <;> omega
    obtain ⟨q, hq⟩ : ∃ q, q = 65535 + k := ⟨_, rfl⟩
    rw [← hq] at hw a3 a4
    have hq2 : q ≤ 65537 := by omega
    have hq3 : (q : Int) ≤ 65537 := by omega
    obtain ⟨R, hR⟩ : ∃ R : List UInt8, R = List.replicate 65537 0 := ⟨_, rfl⟩
    have hR1 : List.replicate 65537 (D.int .u8 0) = ofBytes R := by rw [hR]; exact reps 65537
    have hR2 : R.length = 65537 := by rw [hR, List.length_replicate]
    have ht : (ofBytes R).take q = ofBytes (List.replicate q 0) := by
      rw [hR, ofBytes_take, List.take_replicate, Nat.min_eq_left hq2]
    clear hR
    replace hn : call cx 13 [.int .i64 n, .int .i64 3] [] = some (.int .i64 k, []) := hn
    have e2 : [47, 98, 97, 116, 99, 104] = batchL := rfl
    have hx3 : (0 < x3.l.length) = (k < 2) := propext b3
    have hx4 : (0 < x4.l.length) = (k < 2) := propext b4
    clear hq hk
    by_cases c2 : s = 200 ∨ s = 400 ∨ s = 409
    · have b2' : 0 < x2.l.length := b2.2 c2
      rcases c2 with rfl | rfl | rfl
      · by_cases e1 : (p == helloL) = true
        · have g1 : (p == [47, 104, 101, 108, 108, 111]) = true := e1
          have b1' : 0 < x1.l.length := b1.2 (by simp [e1])
          by_cases k2 : k < 2
          · have k2' : (k : Int) < 2 := by omega
            have b3' := b3.2 k2
            have b4' := b4.2 k2
            simp [-List.reduceReplicate, Tryd.f5, hf, h1', a1, a2, a3, a4, hn, hw, hq3, ht, hR1, hR2, maxBytes, e2, b2', g1, b1', b3', b4', k2']
          · have k2' : ¬ (k : Int) < 2 := by omega
            have b3' : x3.l.length = 0 := Nat.le_zero.1 (Nat.le_of_not_lt fun h => k2 (b3.1 h))
            have b4' : x4.l.length = 0 := Nat.le_zero.1 (Nat.le_of_not_lt fun h => k2 (b4.1 h))
            simp [-List.reduceReplicate, Tryd.f5, hf, h1', a1, a2, a3, a4, hn, hw, hq3, ht, hR1, hR2, maxBytes, e2, b2', g1, b1', b3', b4', k2']
        · have g1 : (p == [47, 104, 101, 108, 108, 111]) = false := Bool.eq_false_iff.2 e1
          by_cases e3 : (p == batchL) = true
          · have b1' : 0 < x1.l.length := b1.2 (by simp [e3])
            by_cases k2 : k < 2
            · have k2' : (k : Int) < 2 := by omega
              have b3' := b3.2 k2
              have b4' := b4.2 k2
              simp [-List.reduceReplicate, Tryd.f5, hf, h1', a1, a2, a3, a4, hn, hw, hq3, ht, hR1, hR2, maxBytes, e2, b2', g1, e3, b1', b3', b4', k2']
            · have k2' : ¬ (k : Int) < 2 := by omega
              have b3' : x3.l.length = 0 := Nat.le_zero.1 (Nat.le_of_not_lt fun h => k2 (b3.1 h))
              have b4' : x4.l.length = 0 := Nat.le_zero.1 (Nat.le_of_not_lt fun h => k2 (b4.1 h))
              simp [-List.reduceReplicate, Tryd.f5, hf, h1', a1, a2, a3, a4, hn, hw, hq3, ht, hR1, hR2, maxBytes, e2, b2', g1, e3, b1', b3', b4', k2']
          · have b1' : x1.l.length = 0 := Nat.le_zero.1 (Nat.le_of_not_lt fun h => by have := b1.1 h; simp [e1, e3] at this)
            have e3 : (p == batchL) = false := Bool.eq_false_iff.2 e3
            by_cases k2 : k < 2
            · have k2' : (k : Int) < 2 := by omega
              have b3' := b3.2 k2
              have b4' := b4.2 k2
              simp [-List.reduceReplicate, Tryd.f5, hf, h1', a1, a2, a3, a4, hn, hw, hq3, ht, hR1, hR2, maxBytes, e2, b2', g1, e3, b1', b3', b4', k2']
            · have k2' : ¬ (k : Int) < 2 := by omega
              have b3' : x3.l.length = 0 := Nat.le_zero.1 (Nat.le_of_not_lt fun h => k2 (b3.1 h))
              have b4' : x4.l.length = 0 := Nat.le_zero.1 (Nat.le_of_not_lt fun h => k2 (b4.1 h))
              simp [-List.reduceReplicate, Tryd.f5, hf, h1', a1, a2, a3, a4, hn, hw, hq3, ht, hR1, hR2, maxBytes, e2, b2', g1, e3, b1', b3', b4', k2']
      · by_cases e1 : (p == helloL) = true
        · have g1 : (p == [47, 104, 101, 108, 108, 111]) = true := e1
          have b1' : 0 < x1.l.length := b1.2 (by simp [e1])
          by_cases k2 : k < 2
          · have k2' : (k : Int) < 2 := by omega
            have b3' := b3.2 k2
            have b4' := b4.2 k2
            simp [-List.reduceReplicate, Tryd.f5, hf, h1', a1, a2, a3, a4, hn, hw, hq3, ht, hR1, hR2, maxBytes, e2, b2', g1, b1', b3', b4', k2']
          · have k2' : ¬ (k : Int) < 2 := by omega
            have b3' : x3.l.length = 0 := Nat.le_zero.1 (Nat.le_of_not_lt fun h => k2 (b3.1 h))
            have b4' : x4.l.length = 0 := Nat.le_zero.1 (Nat.le_of_not_lt fun h => k2 (b4.1 h))
            simp [-List.reduceReplicate, Tryd.f5, hf, h1', a1, a2, a3, a4, hn, hw, hq3, ht, hR1, hR2, maxBytes, e2, b2', g1, b1', b3', b4', k2']
        · have g1 : (p == [47, 104, 101, 108, 108, 111]) = false := Bool.eq_false_iff.2 e1
          by_cases e3 : (p == batchL) = true
          · have b1' : 0 < x1.l.length := b1.2 (by simp [e3])
            by_cases k2 : k < 2
            · have k2' : (k : Int) < 2 := by omega
              have b3' := b3.2 k2
              have b4' := b4.2 k2
              simp [-List.reduceReplicate, Tryd.f5, hf, h1', a1, a2, a3, a4, hn, hw, hq3, ht, hR1, hR2, maxBytes, e2, b2', g1, e3, b1', b3', b4', k2']
            · have k2' : ¬ (k : Int) < 2 := by omega
              have b3' : x3.l.length = 0 := Nat.le_zero.1 (Nat.le_of_not_lt fun h => k2 (b3.1 h))
              have b4' : x4.l.length = 0 := Nat.le_zero.1 (Nat.le_of_not_lt fun h => k2 (b4.1 h))
              simp [-List.reduceReplicate, Tryd.f5, hf, h1', a1, a2, a3, a4, hn, hw, hq3, ht, hR1, hR2, maxBytes, e2, b2', g1, e3, b1', b3', b4', k2']
          · have b1' : x1.l.length = 0 := Nat.le_zero.1 (Nat.le_of_not_lt fun h => by have := b1.1 h; simp [e1, e3] at this)
            have e3 : (p == batchL) = false := Bool.eq_false_iff.2 e3
            by_cases k2 : k < 2
            · have k2' : (k : Int) < 2 := by omega
              have b3' := b3.2 k2
              have b4' := b4.2 k2
              simp [-List.reduceReplicate, Tryd.f5, hf, h1', a1, a2, a3, a4, hn, hw, hq3, ht, hR1, hR2, maxBytes, e2, b2', g1, e3, b1', b3', b4', k2']
            · have k2' : ¬ (k : Int) < 2 := by omega
              have b3' : x3.l.length = 0 := Nat.le_zero.1 (Nat.le_of_not_lt fun h => k2 (b3.1 h))
              have b4' : x4.l.length = 0 := Nat.le_zero.1 (Nat.le_of_not_lt fun h => k2 (b4.1 h))
              simp [-List.reduceReplicate, Tryd.f5, hf, h1', a1, a2, a3, a4, hn, hw, hq3, ht, hR1, hR2, maxBytes, e2, b2', g1, e3, b1', b3', b4', k2']
      · by_cases e1 : (p == helloL) = true
        · have g1 : (p == [47, 104, 101, 108, 108, 111]) = true := e1
          have b1' : 0 < x1.l.length := b1.2 (by simp [e1])
          by_cases k2 : k < 2
          · have k2' : (k : Int) < 2 := by omega
            have b3' := b3.2 k2
            have b4' := b4.2 k2
            simp [-List.reduceReplicate, Tryd.f5, hf, h1', a1, a2, a3, a4, hn, hw, hq3, ht, hR1, hR2, maxBytes, e2, b2', g1, b1', b3', b4', k2']
          · have k2' : ¬ (k : Int) < 2 := by omega
            have b3' : x3.l.length = 0 := Nat.le_zero.1 (Nat.le_of_not_lt fun h => k2 (b3.1 h))
            have b4' : x4.l.length = 0 := Nat.le_zero.1 (Nat.le_of_not_lt fun h => k2 (b4.1 h))
            simp [-List.reduceReplicate, Tryd.f5, hf, h1', a1, a2, a3, a4, hn, hw, hq3, ht, hR1, hR2, maxBytes, e2, b2', g1, b1', b3', b4', k2']
        · have g1 : (p == [47, 104, 101, 108, 108, 111]) = false := Bool.eq_false_iff.2 e1
          by_cases e3 : (p == batchL) = true
          · have b1' : 0 < x1.l.length := b1.2 (by simp [e3])
            by_cases k2 : k < 2
            · have k2' : (k : Int) < 2 := by omega
              have b3' := b3.2 k2
              have b4' := b4.2 k2
              simp [-List.reduceReplicate, Tryd.f5, hf, h1', a1, a2, a3, a4, hn, hw, hq3, ht, hR1, hR2, maxBytes, e2, b2', g1, e3, b1', b3', b4', k2']
            · have k2' : ¬ (k : Int) < 2 := by omega
              have b3' : x3.l.length = 0 := Nat.le_zero.1 (Nat.le_of_not_lt fun h => k2 (b3.1 h))
              have b4' : x4.l.length = 0 := Nat.le_zero.1 (Nat.le_of_not_lt fun h => k2 (b4.1 h))
              simp [-List.reduceReplicate, Tryd.f5, hf, h1', a1, a2, a3, a4, hn, hw, hq3, ht, hR1, hR2, maxBytes, e2, b2', g1, e3, b1', b3', b4', k2']
          · have b1' : x1.l.length = 0 := Nat.le_zero.1 (Nat.le_of_not_lt fun h => by have := b1.1 h; simp [e1, e3] at this)
            have e3 : (p == batchL) = false := Bool.eq_false_iff.2 e3
            by_cases k2 : k < 2
            · have k2' : (k : Int) < 2 := by omega
              have b3' := b3.2 k2
              have b4' := b4.2 k2
              simp [-List.reduceReplicate, Tryd.f5, hf, h1', a1, a2, a3, a4, hn, hw, hq3, ht, hR1, hR2, maxBytes, e2, b2', g1, e3, b1', b3', b4', k2']
            · have k2' : ¬ (k : Int) < 2 := by omega
              have b3' : x3.l.length = 0 := Nat.le_zero.1 (Nat.le_of_not_lt fun h => k2 (b3.1 h))
              have b4' : x4.l.length = 0 := Nat.le_zero.1 (Nat.le_of_not_lt fun h => k2 (b4.1 h))
              simp [-List.reduceReplicate, Tryd.f5, hf, h1', a1, a2, a3, a4, hn, hw, hq3, ht, hR1, hR2, maxBytes, e2, b2', g1, e3, b1', b3', b4', k2']
    · have d1 : ¬ s = 200 := fun h => c2 (.inl h)
      have d2 : ¬ s = 400 := fun h => c2 (.inr (.inl h))
      have d3 : ¬ s = 409 := fun h => c2 (.inr (.inr h))
      have b2' : x2.l.length = 0 := Nat.le_zero.1 (Nat.le_of_not_lt fun h => c2 (b2.1 h))
      by_cases e1 : (p == helloL) = true
      · have g1 : (p == [47, 104, 101, 108, 108, 111]) = true := e1
        have b1' : 0 < x1.l.length := b1.2 (by simp [e1])
        by_cases k2 : k < 2
        · have k2' : (k : Int) < 2 := by omega
          have b3' := b3.2 k2
          have b4' := b4.2 k2
          simp [-List.reduceReplicate, Tryd.f5, hf, h1', a1, a2, a3, a4, hn, hw, hq3, ht, hR1, hR2, maxBytes, e2, d1, d2, d3, b2', g1, b1', b3', b4', k2']
        · have k2' : ¬ (k : Int) < 2 := by omega
          have b3' : x3.l.length = 0 := Nat.le_zero.1 (Nat.le_of_not_lt fun h => k2 (b3.1 h))
          have b4' : x4.l.length = 0 := Nat.le_zero.1 (Nat.le_of_not_lt fun h => k2 (b4.1 h))
          simp [-List.reduceReplicate, Tryd.f5, hf, h1', a1, a2, a3, a4, hn, hw, hq3, ht, hR1, hR2, maxBytes, e2, d1, d2, d3, b2', g1, b1', b3', b4', k2']
      · have g1 : (p == [47, 104, 101, 108, 108, 111]) = false := Bool.eq_false_iff.2 e1
        by_cases e3 : (p == batchL) = true
        · have b1' : 0 < x1.l.length := b1.2 (by simp [e3])
          by_cases k2 : k < 2
          · have k2' : (k : Int) < 2 := by omega
            have b3' := b3.2 k2
            have b4' := b4.2 k2
            simp [-List.reduceReplicate, Tryd.f5, hf, h1', a1, a2, a3, a4, hn, hw, hq3, ht, hR1, hR2, maxBytes, e2, d1, d2, d3, b2', g1, e3, b1', b3', b4', k2']
          · have k2' : ¬ (k : Int) < 2 := by omega
            have b3' : x3.l.length = 0 := Nat.le_zero.1 (Nat.le_of_not_lt fun h => k2 (b3.1 h))
            have b4' : x4.l.length = 0 := Nat.le_zero.1 (Nat.le_of_not_lt fun h => k2 (b4.1 h))
            simp [-List.reduceReplicate, Tryd.f5, hf, h1', a1, a2, a3, a4, hn, hw, hq3, ht, hR1, hR2, maxBytes, e2, d1, d2, d3, b2', g1, e3, b1', b3', b4', k2']
        · have b1' : x1.l.length = 0 := Nat.le_zero.1 (Nat.le_of_not_lt fun h => by have := b1.1 h; simp [e1, e3] at this)
          have e3 : (p == batchL) = false := Bool.eq_false_iff.2 e3
          by_cases k2 : k < 2
          · have k2' : (k : Int) < 2 := by omega
            have b3' := b3.2 k2
            have b4' := b4.2 k2
            simp [-List.reduceReplicate, Tryd.f5, hf, h1', a1, a2, a3, a4, hn, hw, hq3, ht, hR1, hR2, maxBytes, e2, d1, d2, d3, b2', g1, e3, b1', b3', b4', k2']
          · have k2' : ¬ (k : Int) < 2 := by omega
            have b3' : x3.l.length = 0 := Nat.le_zero.1 (Nat.le_of_not_lt fun h => k2 (b3.1 h))
            have b4' : x4.l.length = 0 := Nat.le_zero.1 (Nat.le_of_not_lt fun h => k2 (b4.1 h))
            simp [-List.reduceReplicate, Tryd.f5, hf, h1', a1, a2, a3, a4, hn, hw, hq3, ht, hR1, hR2, maxBytes, e2, d1, d2, d3, b2', g1, e3, b1', b3', b4', k2']
  · have h1' : (60 : Int) < (p.length : Int) := by omega
    simp [Tryd.f5, hf, h1']
end Go.Ev.S
/- A law whose rows list variables: the world is of the program's shape, too. -/
namespace Go.Ev
open Go Go.Proofs Go.ChangeShapes Go.WideShapes Go.ChangeAt Go.RowKit
theorem handed_shaped {H : Type} {enc : TypeId × Value → H} {a : Assume} {C : Checked} {os : Os} {f : FuncId} {fn : Func} {s : ChangeSpec} {conds : List PathCond} {apart fresh handsOn again : Bool} {X : World → Array Value → Prop}
    (hX : ∀ (w w' : World) (args : Array Value), w.heap = w'.heap → X w args → X w' args)
    (own : ownKnob C.prog.godebug = none) (started : os.Started) (noInit : C.prog.inits.idxOf? f = none) (hfn : C.prog.funcs[f]? = some fn)
    (witness : ∃ (w : World) (tape : Tape) (i : Input), w.os = os ∧ (w.forCall tape i).Shaped C.prog ∧ i.vars = [] ∧ Input.okWide C.prog (w.forCall tape i) .any w.heap.size f i ∧
      ((s.pre enc C.prog fn conds apart (w.forCall tape i).memory i.args ∧ X (w.forCall tape i).memory i.args) ∧ sizedMet enc C.prog fn (OpenSpec.ofChange s) apart (w.forCall tape i).memory i.args) ∧ a.holds C.prog (lone (Frame.enter C.prog f i.args .normal) [] (w.forCall tape i)))
    (contract : ∀ (W : World) (base : Nat) (args : Array Value) (ds gs : List (DataW H)) (before : List MemPlace),
      (∀ (j : Nat) t v, fn.params[j]? = some t → args[j]? = some v → Value.okWide C.prog W .any base t v) →
      DataW.Whole enc C.prog fn.params.toList s.vars apart W args.toList ds gs before → X W args → W.ShapedOpen C.prog →
      Calls C.prog f args W fun e W' => ∃ v, e = .returned v ∧ s.post enc C.prog fn apart fresh handsOn again W args v W') :
    ReturnsInHanded a C os f .any (fun w args => (s.pre enc C.prog fn conds apart w args ∧ X w args) ∧ sizedMet enc C.prog fn (OpenSpec.ofChange s) apart w args) (s.post enc C.prog fn apart fresh handsOn again) := by
  refine returnsInHanded_of_calls own started noInit witness ?_
  intro w tape i _ hsh _ hok hpre _
  obtain ⟨_, _, _, fn', hfn', _, _, _, _, hval⟩ := hok
  have e : fn' = fn := Option.some.inj (hfn'.symm.trans hfn)
  subst e
  obtain ⟨⟨⟨ds, gs, before, hw, hc⟩, hx⟩, hz⟩ := hpre
  have hw' := DataW.Whole.of_heap (w' := w.forCall tape i) (by rfl) hw
  refine (contract (w.forCall tape i) w.heap.size i.args ds gs before hval hw' (hX _ _ _ (by rfl) hx) hsh).mono fun e W' ⟨v, he, hp⟩ => ?_
  subst he
  exact ChangeSpec.post_blind hp
end Go.Ev
