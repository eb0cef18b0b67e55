import Derived.Test.YthhekddmmakfdaaGreatDoorC6
import Derived.Handed
import Derived.LaidMore
namespace Go.Ev.S
open Go Go.Proofs Go.Ev Go.RowKit
theorem ite_run {X : Cx} {f nt n0 : Nat} {K : Ex → Env → Heap → Prop} {fr : List Fr} {dr : Bool} {l : List SOp} {e : Env} {d : Option Tmp} {a b : Nat} {x : D × Heap} (h : a ≤ b) (hr : RunK X f nt n0 K fr dr l e d (some x)) : RunK X f nt n0 K fr dr l e d (if a ≤ b then some x else none) := by rw [if_pos h]; exact hr
def kGap : List UInt8 := [95, 95, 71, 65, 80, 61]
def textG (it : It) : List UInt8 := kGap ++ (dec it.fr.toNat ++ (45 :: (dec it.til.toNat ++ (10 :: (kId ++ (hexs it.id.l ++ [10, 10]))))))
def textL (it : It) : List UInt8 := if it.gap then textG it else textR it
def textD (it : It) : D := if itOk it then .vsl false (ofBytes (textL it)) (textL it).length else .vsl true [] 0
set_option maxHeartbeats 4000000 in
theorem text_bad [MaxL] (it : It) (hb : ∀ p ∈ it.rc.fields.l, PrB p) (hn : it.rc.fields.l.length < 1000000) (ho : itOk it = false) : call cx 14 [.agg (Enc.cells it)] [] = some (.vsl true [] 0, []) := by
  have hw := wright_ev it hb hn
  rw [ho] at hw
  have hcon : cx.con 14 [.agg (Enc.cells it)] [] = none := by
    refine conText_none ?_
    unfold itOk at ho
    cases hg : it.gap with
    | true => exact .inl rfl
    | false => rw [hg, if_neg (by decide)] at ho; exact .inr ho
  refine call_run Tryz.func14 rfl ⟨rfl, hcon⟩ ?_
  simp [Tryz.f14, hw]
set_option maxHeartbeats 4000000 in
set_option maxRecDepth 4000 in
theorem text_gap [MaxL] (it : It) (hi : it.Ok) (hg : it.gap = true) (hb : ∀ p ∈ it.rc.fields.l, PrB p) (hn : it.rc.fields.l.length < 1000000) (ho : itOk it = true) : call cx 14 [.agg (Enc.cells it)] [] = some (.vsl false (ofBytes (textG it)) (textG it).length, []) := by
  have hw := wright_ev it hb hn
  rw [ho] at hw
  have hcon : cx.con 14 [.agg (Enc.cells it)] [] = none := conText_none (.inl hg)
  have hr1 := hi.fr
  have hr2 := hi.til
  unfold isU64 at hr1 hr2
  have n1 := number_ev it.fr.toNat (by omega)
  have n2 := number_ev it.til.toNat (by omega)
  have e1 : ((it.fr.toNat : Nat) : Int) = it.fr := by omega
  have e2 : ((it.til.toNat : Nat) : Int) = it.til := by omega
  rw [e1] at n1
  rw [e2] at n2
  have x1 := hex_ev it.id.l it.id.h
  have l4 := hexs_len it.id.l
  rw [it.id.h] at l4
  have d1 := dec_len it.fr.toNat
  have d2 := dec_len it.til.toNat
  unfold textG kGap kId
  generalize dec it.fr.toNat = s1 at *
  generalize dec it.til.toNat = s2 at *
  generalize hexs it.id.l = s4 at *
  refine call_run Tryz.func14 rfl ⟨rfl, hcon⟩ ?_
  have c0 : 6 + s1.length ≤ 4611686018427387904 := by omega
  have c1 : s1.length ≤ 4611686018427387897 := by omega
  simp [Tryz.f14, hw, hg, n1, n2, c0, c1]
  iterate
    refine ite_run (by omega) ?_
    try simp [x1]
theorem text_ev [MaxL] (it : It) (hi : it.Ok) (hb : ∀ p ∈ it.rc.fields.l, PrB p) (hn : it.rc.fields.l.length < 1000000) : call cx 14 [.agg (Enc.cells it)] [] = some (textD it, []) := by
  unfold textD textL
  cases ho : itOk it with
  | false => exact text_bad it hb hn ho
  | true =>
    cases hg : it.gap with
    | true => exact text_gap it hi hg hb hn ho
    | false =>
      unfold itOk at ho
      rw [hg, if_neg (by decide)] at ho
      exact call_con (conText_right hi hg ho)
end Go.Ev.S
namespace Go.Ev.S
open Go Go.Proofs Go.Ev
end Go.Ev.S
namespace Go.Ev.S
open Go Go.Proofs Go.Ev
end Go.Ev.S
namespace Go.Ev.S
open Go Go.Proofs Go.Ev
def cutL (sep s : List UInt8) : List UInt8 × List UInt8 × Bool := if idxN sep s 0 = -1 then (s, [], false) else (s.take (idxN sep s 0).toNat, s.drop ((idxN sep s 0).toNat + sep.length), true)
theorem cutlite_ev [MaxL] [TxtC] (s sep : List UInt8) (hs : s.length < 1000000) (hl : sep.length < 1000000) : call cx 114 [.str s, .str sep] [] = some (.tup [.str (cutL sep s).1, .str (cutL sep s).2.1, .bool (cutL sep s).2.2], []) := by
  have h := index_ev s sep (by omega)
  unfold cutL
  refine call_run Tryz.func114 rfl ⟨rfl, rfl⟩ ?_
  rcases idx_cases sep s 0 with ⟨i, h1, h2, -⟩ | h1
  · rw [h1] at h
    rw [h1]
    obtain ⟨j, hj⟩ : ∃ j, j = i + sep.length := ⟨_, rfl⟩
    have hw : IntKind.i64.wrap ((i : Int) + (sep.length : Int)) = (j : Int) := by rw [wrap_i64] <;> omega
    have hn : ¬ ((0 + i : Nat) : Int) = -1 := by omega
    have g1 : (i : Int) ≤ (s.length : Int) := by omega
    have g2 : (j : Int) ≤ (s.length : Int) := by omega
    have g3 : j ≤ s.length := by omega
    have g4 : i ≤ s.length := by omega
    rw [Nat.zero_add] at h hn
    simp [Tryz.f114, h, hw, g1, g2, ← hj]
    exact List.take_of_length_le (by simp)
  · rw [h1] at h
    simp [Tryz.f114, h, h1]
theorem cut_ev [MaxL] [TxtC] (s sep : List UInt8) (hs : s.length < 1000000) (hl : sep.length < 1000000) : call cx 87 [.str s, .str sep] [] = some (.tup [.str (cutL sep s).1, .str (cutL sep s).2.1, .bool (cutL sep s).2.2], []) := by
  have h := cutlite_ev s sep hs hl
  refine call_run Tryz.func87 rfl ⟨rfl, rfl⟩ ?_
  simp [Tryz.f87, h]
end Go.Ev.S
namespace Go.Ev.S
open Go Go.Proofs Go.Ev
def pre (p s : List UInt8) : Bool := s.take p.length == p
theorem pfx_ev [MaxL] [TxtC] (s p : List UInt8) (_ : s.length < 1000000) (_ : p.length < 1000000) : call cx 167 [.str s, .str p] [] = some (.bool (pre p s), []) := by
  refine call_run Tryz.func167 rfl ⟨rfl, rfl⟩ ?_
  by_cases h : p.length ≤ s.length
  · have h' : (p.length : Int) ≤ (s.length : Int) := by omega
    simp [Tryz.f167, h', pre]
  · have h' : ¬ (p.length : Int) ≤ (s.length : Int) := by omega
    have hn : pre p s = false := by
      unfold pre
      rw [List.take_of_length_le (by omega)]
      rw [beq_eq_false_iff_ne]
      intro e
      rw [e] at h
      omega
    simp [Tryz.f167, h', hn]
theorem pre_len {p s : List UInt8} (h : pre p s = true) : p.length ≤ s.length := by
  unfold pre at h
  have := congrArg List.length (beq_iff_eq.1 h)
  rw [List.length_take] at this
  omega
theorem trim_ev [MaxL] [TxtC] (s p : List UInt8) (hs : s.length < 1000000) (hp : p.length < 1000000) : call cx 116 [.str s, .str p] [] = some (.str (if pre p s then s.drop p.length else s), []) := by
  have h := pfx_ev s p hs hp
  have h2 : call cx 138 [.str s, .str p] [] = some (.str (if pre p s then s.drop p.length else s), []) := by
    refine call_run Tryz.func138 rfl ⟨rfl, rfl⟩ ?_
    cases hq : pre p s with
    | true =>
      have := pre_len hq
      have g : (p.length : Int) ≤ (s.length : Int) := by omega
      rw [hq] at h
      simp [Tryz.f138, h, g]
      exact List.take_of_length_le (by simp)
    | false =>
      rw [hq] at h
      simp [Tryz.f138, h]
  refine call_run Tryz.func116 rfl ⟨rfl, rfl⟩ ?_
  simp [Tryz.f116, h2]
end Go.Ev.S
namespace Go.Ev.S
open Go Go.Proofs Go.Ev
theorem orI_u8 (a b : UInt8) : orI .u8 (a.toNat : Int) (b.toNat : Int) = ((a ||| b).toNat : Int) := by
  unfold orI
  have h := (a ||| b).toNat_lt
  have e : (BitVec.ofInt IntKind.u8.bits (a.toNat : Int) ||| BitVec.ofInt IntKind.u8.bits (b.toNat : Int)).toNat = (a ||| b).toNat := by
    simp [IntKind.bits]
    rfl
  rw [e, wrap_u8]
  omega
theorem lower_ev [MaxL] [TxtC] (c : UInt8) : call cx 139 [.int .u8 c.toNat] [] = some (.int .u8 ((c ||| 32).toNat : Int), []) := by
  have h := orI_u8 c 32
  have h' : orI .u8 (c.toNat : Int) 32 = ((c ||| 32).toNat : Int) := h
  refine call_run Tryz.func139 rfl ⟨rfl, rfl⟩ ?_
  simp [Tryz.f139, h']
theorem all_u8 {p : UInt8 → Bool} (h : ((List.range 256).all fun k => p (UInt8.ofNat k)) = true) (c : UInt8) : p c = true := by
  have := List.all_eq_true.1 h c.toNat (List.mem_range.2 c.toNat_lt)
  rw [UInt8.ofNat_toNat] at this
  exact this
theorem low_lt {c : UInt8} (h : c.toNat < 48) : (c ||| 32).toNat < 97 := by
  have := all_u8 (p := fun c => decide (c.toNat < 48) == false || decide ((c ||| 32).toNat < 97)) (by decide +kernel) c
  simpa [h] using this
theorem low_95 {c : UInt8} (h : c.toNat = 95) : 122 < (c ||| 32).toNat := by
  simp [h]
def dval (c : UInt8) : Option Nat := if 48 ≤ c.toNat ∧ c.toNat ≤ 57 then some (c.toNat - 48) else if 97 ≤ (c ||| 32).toNat ∧ (c ||| 32).toNat ≤ 122 then some ((c ||| 32).toNat - 97 + 10) else none
def puGo (b : Nat) : List UInt8 → Nat → Option Nat
  | [], n => some n
  | c :: l, n => match dval c with
    | none => none
    | some d => if b ≤ d then none else if 18446744073709551616 ≤ n * b + d then none else puGo b l (n * b + d)
def pu (b : Nat) (s : List UInt8) : Option Nat := if s = [] then none else puGo b s 0
theorem wrap_over {x d : Nat} (hx : x < 18446744073709551616) (hd : d < 16) (h : 18446744073709551616 ≤ x + d) : IntKind.u64.wrap ((x : Int) + (d : Int)) < (x : Int) := by
  simp only [IntKind.wrap, IntKind.signed, IntKind.bits]
  simp
  omega
theorem puGo_lt (b : Nat) : ∀ (l : List UInt8) (n v : Nat), n < 18446744073709551616 → puGo b l n = some v → v < 18446744073709551616
  | [], n, v, hn, h => by simp [puGo] at h; omega
  | c :: l, n, v, hn, h => by
    unfold puGo at h
    split at h
    · cases h
    · split at h
      · cases h
      · split at h
        · cases h
        · exact puGo_lt b l _ v (by omega) h
set_option maxHeartbeats 2000000 in
set_option maxRecDepth 4000 in
theorem pui_ev [MaxL] [TxtC] (b : Nat) (hb : b = 10 ∨ b = 16) (s : List UInt8) (hs : s.length < 4611686018427387904) :
    (∃ n, pu b s = some n ∧ call cx 117 [.str s, .int .i64 b, .int .i64 64] [] = some (.tup [.int .u64 n, .nili], [])) ∨
    (pu b s = none ∧ ∃ (x : Nat) (c : Int), (c = 1 ∨ c = 2) ∧ call cx 117 [.str s, .int .i64 b, .int .i64 64] [] = some (.tup [.int .u64 x, .iface 177 (.int .i64 c)], [])) := by
  suffices h : ∃ r, call cx 117 [.str s, .int .i64 b, .int .i64 64] [] = some r ∧ ((∃ n, pu b s = some n ∧ r = (.tup [.int .u64 n, .nili], [])) ∨ (pu b s = none ∧ ∃ (x : Nat) (c : Int), (c = 1 ∨ c = 2) ∧ r = (.tup [.int .u64 x, .iface 177 (.int .i64 c)], []))) by
    obtain ⟨r, h1, ⟨n, h2, rfl⟩ | ⟨h2, x, c, h3, rfl⟩⟩ := h
    · exact .inl ⟨n, h2, h1⟩
    · exact .inr ⟨h2, x, c, h3, h1⟩
  refine call_runE (fun r => (∃ n : Nat, pu b s = some n ∧ r = (D.tup [.int .u64 n, .nili], [])) ∨ (pu b s = none ∧ ∃ (x : Nat) (c : Int), (c = 1 ∨ c = 2) ∧ r = (D.tup [.int .u64 x, .iface 177 (.int .i64 c)], []))) Tryz.func117 rfl ⟨rfl, rfl⟩ ?_
  by_cases h0 : s = []
  · subst h0
    simp [Tryz.f117, pu]
    exact ⟨0, rfl⟩
  · have hpos : s.length ≠ 0 := by simpa using h0
    have hc2 : (2 : Int) ≤ (b : Int) := by omega
    have hc36 : (b : Int) ≤ 36 := by omega
    have hbz : ¬ (b : Int) = 0 := by omega
    have hmx : IntKind.u64.wrap (IntKind.u64.wrap (2 ^ min 64 IntKind.u64.bits) - 1) = 18446744073709551615 := by decide
    have hpu : pu b s = puGo b s 0 := by rw [pu, if_neg h0]
    rcases hb with rfl | rfl
    · simp [Tryz.f117, h0, hmx]
      refine Run.loopThen (fun (z : Nat × Nat) e H' => z.1 ≤ s.length ∧ z.2 < 18446744073709551616 ∧ puGo 10 (s.drop z.1) z.2 = puGo 10 s 0 ∧ H' = [some (ofBytes s)] ∧ look e 1 = some (.int .i64 10) ∧ look e 8 = some (.bool false) ∧ look e 9 = some (.str s) ∧ look e 10 = some (.int .u64 1844674407370955162) ∧ look e 11 = some (.int .u64 18446744073709551615) ∧ look e 12 = some (.bool false) ∧ look e 13 = some (.int .u64 (z.2 : Nat)) ∧ look e 99 = some (.osl 0 s.length 0 s.length 1) ∧ look e 100 = some (.int .i64 s.length) ∧ look e 101 = some (.int .i64 (z.1 : Nat))) (fun z => s.length - z.1) (0, 0) (by simp) ?_
      rintro ⟨i, n⟩ e H' ⟨hi, hn, hp, rfl, h1, h8, h9, h10, h11, h12, h13, h99, h100, h101⟩
      simp only at hi hn hp h13 h101
      by_cases hlt : i < s.length
      · have hlt' : (i : Int) < (s.length : Int) := by omega
        have hw : IntKind.i64.wrap ((i : Int) + 1) = ((i + 1 : Nat) : Int) := by rw [wrap_i64] <;> omega
        have hc := lower_ev s[i]
        have hclt := s[i].toNat_lt
        rw [List.drop_eq_getElem_cons hlt, puGo] at hp
        unfold dval at hp
        by_cases hd : 48 ≤ s[i].toNat ∧ s[i].toNat ≤ 57
        · rw [if_pos hd] at hp
          have g1 : (48 : Int) ≤ (s[i].toNat : Int) := by omega
          have g2 : (s[i].toNat : Int) ≤ 57 := by omega
          have g3 : ¬ (s[i].toNat : Int) = 95 := by omega
          obtain ⟨d, hdd⟩ : ∃ d, d = s[i].toNat - 48 := ⟨_, rfl⟩
          have dw : IntKind.u8.wrap ((s[i].toNat : Int) - 48) = (d : Int) := by rw [wrap_u8] <;> omega
          rw [← hdd] at hp
          simp only at hp
          have hd16 : d < 16 := by omega
          have wd : IntKind.u64.wrap (d : Int) = (d : Int) := by rw [wrap_u64]; omega
          by_cases hbd : 10 ≤ d
          · have hbd' : (10 : Int) ≤ (d : Int) := by omega
            rw [if_pos hbd] at hp
            simp [h1, h8, h9, h10, h11, h12, h13, h99, h100, h101, hlt', ofBytes_at hlt, g1, g2, g3, dw, hbd']
            exact ⟨by rw [hpu]; exact hp.symm, 0, rfl⟩
          · have hbd' : ¬ (10 : Int) ≤ (d : Int) := by omega
            rw [if_neg hbd] at hp
            by_cases hcut : 1844674407370955162 ≤ n
            · have hcut' : (1844674407370955162 : Int) ≤ (n : Int) := by omega
              rw [if_pos (by omega)] at hp
              simp [h1, h8, h9, h10, h11, h12, h13, h99, h100, h101, hlt', ofBytes_at hlt, g1, g2, g3, dw, hbd', hcut']
              exact ⟨by rw [hpu]; exact hp.symm, 18446744073709551615, rfl⟩
            · have hcut' : ¬ (1844674407370955162 : Int) ≤ (n : Int) := by omega
              obtain ⟨m, hm⟩ : ∃ m, m = n * 10 := ⟨_, rfl⟩
              have hm64 : m < 18446744073709551616 := by omega
              have wm : IntKind.u64.wrap ((n : Int) * 10) = (m : Int) := by rw [wrap_u64] <;> omega
              rw [← hm] at hp
              by_cases hov : 18446744073709551616 ≤ m + d
              · rw [if_pos hov] at hp
                have hx := wrap_over hm64 (by omega) hov
                generalize hX : IntKind.u64.wrap ((m : Int) + (d : Int)) = X at hx
                simp [h1, h8, h9, h10, h11, h12, h13, h99, h100, h101, hlt', ofBytes_at hlt, g1, g2, g3, dw, hbd', hcut', wd, wm, hX, hx]
                exact ⟨by rw [hpu]; exact hp.symm, 18446744073709551615, rfl⟩
              · rw [if_neg hov] at hp
                obtain ⟨q, hq⟩ : ∃ q, q = m + d := ⟨_, rfl⟩
                have wq : IntKind.u64.wrap ((m : Int) + (d : Int)) = (q : Int) := by rw [wrap_u64] <;> omega
                have hx1 : ¬ (q : Int) < (m : Int) := by omega
                have hx2 : ¬ (18446744073709551615 : Int) < (q : Int) := by omega
                rw [← hq] at hp
                simp [h1, h8, h9, h10, h11, h12, h13, h99, h100, h101, hlt', ofBytes_at hlt, g1, g2, g3, dw, hbd', hcut', wd, wm, wq, hx1, hx2, hw]
                exact ⟨i + 1, by omega, by omega, q, by omega, hp, rfl, by simp⟩
        · rw [if_neg hd] at hp
          by_cases h48 : s[i].toNat < 48
          · have lw := low_lt h48
            rw [if_neg (by omega)] at hp
            have g1 : ¬ (48 : Int) ≤ (s[i].toNat : Int) := by omega
            have g3 : ¬ (s[i].toNat : Int) = 95 := by omega
            have f1 : ¬ (97 : Int) ≤ ((s[i] ||| 32).toNat : Int) := by omega
            generalize (s[i] ||| 32).toNat = lc at *
            simp only at hp
            simp [h1, h8, h9, h10, h11, h12, h13, h99, h100, h101, hlt', ofBytes_at hlt, g1, g3, hc, f1]
            exact ⟨by rw [hpu]; exact hp.symm, 0, rfl⟩
          · have g1 : (48 : Int) ≤ (s[i].toNat : Int) := by omega
            have g2 : ¬ (s[i].toNat : Int) ≤ 57 := by omega
            by_cases g95 : s[i].toNat = 95
            · have lw := low_95 g95
              rw [if_neg (by omega)] at hp
              have g3 : (s[i].toNat : Int) = 95 := by omega
              have f1 : (97 : Int) ≤ ((s[i] ||| 32).toNat : Int) := by omega
              have f2 : ¬ ((s[i] ||| 32).toNat : Int) ≤ 122 := by omega
              generalize (s[i] ||| 32).toNat = lc at *
              rw [g3] at hc
              simp only at hp
              simp [h1, h8, h9, h10, h11, h12, h13, h99, h100, h101, hlt', ofBytes_at hlt, g3, hc, f1, f2]
              exact ⟨by rw [hpu]; exact hp.symm, 0, rfl⟩
            · have g3 : ¬ (s[i].toNat : Int) = 95 := by omega
              have lw256 := (s[i] ||| 32).toNat_lt
              generalize (s[i] ||| 32).toNat = lc at *
              by_cases f : 97 ≤ lc ∧ lc ≤ 122
              · rw [if_pos f] at hp
                have f1 : (97 : Int) ≤ (lc : Int) := by omega
                have f2 : (lc : Int) ≤ 122 := by omega
                obtain ⟨d0, hd0⟩ : ∃ d, d = lc - 97 := ⟨_, rfl⟩
                obtain ⟨d, hdd⟩ : ∃ d, d = d0 + 10 := ⟨_, rfl⟩
                have dw1 : IntKind.u8.wrap ((lc : Int) - 97) = (d0 : Int) := by rw [wrap_u8] <;> omega
                have dw2 : IntKind.u8.wrap ((d0 : Int) + 10) = (d : Int) := by rw [wrap_u8] <;> omega
                rw [← hd0, ← hdd] at hp
                simp only at hp
                have hd16 : d < 36 := by omega
                have wd : IntKind.u64.wrap (d : Int) = (d : Int) := by rw [wrap_u64]; omega
                by_cases hbd : 10 ≤ d
                · have hbd' : (10 : Int) ≤ (d : Int) := by omega
                  rw [if_pos hbd] at hp
                  simp [h1, h8, h9, h10, h11, h12, h13, h99, h100, h101, hlt', ofBytes_at hlt, g1, g2, g3, hc, f1, f2, dw1, dw2, hbd']
                  exact ⟨by rw [hpu]; exact hp.symm, 0, rfl⟩
                · have hbd' : ¬ (10 : Int) ≤ (d : Int) := by omega
                  rw [if_neg hbd] at hp
                  by_cases hcut : 1844674407370955162 ≤ n
                  · have hcut' : (1844674407370955162 : Int) ≤ (n : Int) := by omega
                    rw [if_pos (by omega)] at hp
                    simp [h1, h8, h9, h10, h11, h12, h13, h99, h100, h101, hlt', ofBytes_at hlt, g1, g2, g3, hc, f1, f2, dw1, dw2, hbd', hcut']
                    exact ⟨by rw [hpu]; exact hp.symm, 18446744073709551615, rfl⟩
                  · have hcut' : ¬ (1844674407370955162 : Int) ≤ (n : Int) := by omega
                    obtain ⟨m, hm⟩ : ∃ m, m = n * 10 := ⟨_, rfl⟩
                    have hm64 : m < 18446744073709551616 := by omega
                    have wm : IntKind.u64.wrap ((n : Int) * 10) = (m : Int) := by rw [wrap_u64] <;> omega
                    rw [← hm] at hp
                    by_cases hov : 18446744073709551616 ≤ m + d
                    · rw [if_pos hov] at hp
                      have hx := wrap_over hm64 (by omega) hov
                      generalize hX : IntKind.u64.wrap ((m : Int) + (d : Int)) = X at hx
                      simp [h1, h8, h9, h10, h11, h12, h13, h99, h100, h101, hlt', ofBytes_at hlt, g1, g2, g3, hc, f1, f2, dw1, dw2, hbd', hcut', wd, wm, hX, hx]
                      exact ⟨by rw [hpu]; exact hp.symm, 18446744073709551615, rfl⟩
                    · rw [if_neg hov] at hp
                      obtain ⟨q, hq⟩ : ∃ q, q = m + d := ⟨_, rfl⟩
                      have wq : IntKind.u64.wrap ((m : Int) + (d : Int)) = (q : Int) := by rw [wrap_u64] <;> omega
                      have hx1 : ¬ (q : Int) < (m : Int) := by omega
                      have hx2 : ¬ (18446744073709551615 : Int) < (q : Int) := by omega
                      rw [← hq] at hp
                      simp [h1, h8, h9, h10, h11, h12, h13, h99, h100, h101, hlt', ofBytes_at hlt, g1, g2, g3, hc, f1, f2, dw1, dw2, hbd', hcut', wd, wm, wq, hx1, hx2, hw]
                      exact ⟨i + 1, by omega, by omega, q, by omega, hp, rfl, by simp⟩
              · rw [if_neg f] at hp
                by_cases f3 : 97 ≤ lc
                · have f1 : (97 : Int) ≤ (lc : Int) := by omega
                  have f2 : ¬ (lc : Int) ≤ 122 := by omega
                  simp only at hp
                  simp [h1, h8, h9, h10, h11, h12, h13, h99, h100, h101, hlt', ofBytes_at hlt, g1, g2, g3, hc, f1, f2]
                  exact ⟨by rw [hpu]; exact hp.symm, 0, rfl⟩
                · have f1 : ¬ (97 : Int) ≤ (lc : Int) := by omega
                  simp only at hp
                  simp [h1, h8, h9, h10, h11, h12, h13, h99, h100, h101, hlt', ofBytes_at hlt, g1, g2, g3, hc, f1]
                  exact ⟨by rw [hpu]; exact hp.symm, 0, rfl⟩
      · have hlt' : ¬ (i : Int) < (s.length : Int) := by omega
        rw [List.drop_eq_nil_of_le (by omega), puGo] at hp
        simp [h1, h8, h9, h10, h11, h12, h13, h99, h100, h101, hlt']
        exact ⟨n, by rw [hpu]; exact hp.symm, rfl⟩
    · simp [Tryz.f117, h0, hmx]
      refine Run.loopThen (fun (z : Nat × Nat) e H' => z.1 ≤ s.length ∧ z.2 < 18446744073709551616 ∧ puGo 16 (s.drop z.1) z.2 = puGo 16 s 0 ∧ H' = [some (ofBytes s)] ∧ look e 1 = some (.int .i64 16) ∧ look e 8 = some (.bool false) ∧ look e 9 = some (.str s) ∧ look e 10 = some (.int .u64 1152921504606846976) ∧ look e 11 = some (.int .u64 18446744073709551615) ∧ look e 12 = some (.bool false) ∧ look e 13 = some (.int .u64 (z.2 : Nat)) ∧ look e 99 = some (.osl 0 s.length 0 s.length 1) ∧ look e 100 = some (.int .i64 s.length) ∧ look e 101 = some (.int .i64 (z.1 : Nat))) (fun z => s.length - z.1) (0, 0) (by simp) ?_
      rintro ⟨i, n⟩ e H' ⟨hi, hn, hp, rfl, h1, h8, h9, h10, h11, h12, h13, h99, h100, h101⟩
      simp only at hi hn hp h13 h101
      by_cases hlt : i < s.length
      · have hlt' : (i : Int) < (s.length : Int) := by omega
        have hw : IntKind.i64.wrap ((i : Int) + 1) = ((i + 1 : Nat) : Int) := by rw [wrap_i64] <;> omega
        have hc := lower_ev s[i]
        have hclt := s[i].toNat_lt
        rw [List.drop_eq_getElem_cons hlt, puGo] at hp
        unfold dval at hp
        by_cases hd : 48 ≤ s[i].toNat ∧ s[i].toNat ≤ 57
        · rw [if_pos hd] at hp
          have g1 : (48 : Int) ≤ (s[i].toNat : Int) := by omega
          have g2 : (s[i].toNat : Int) ≤ 57 := by omega
          have g3 : ¬ (s[i].toNat : Int) = 95 := by omega
          obtain ⟨d, hdd⟩ : ∃ d, d = s[i].toNat - 48 := ⟨_, rfl⟩
          have dw : IntKind.u8.wrap ((s[i].toNat : Int) - 48) = (d : Int) := by rw [wrap_u8] <;> omega
          rw [← hdd] at hp
          simp only at hp
          have hd16 : d < 16 := by omega
          have wd : IntKind.u64.wrap (d : Int) = (d : Int) := by rw [wrap_u64]; omega
          by_cases hbd : 16 ≤ d
          · have hbd' : (16 : Int) ≤ (d : Int) := by omega
            rw [if_pos hbd] at hp
            simp [h1, h8, h9, h10, h11, h12, h13, h99, h100, h101, hlt', ofBytes_at hlt, g1, g2, g3, dw, hbd']
            exact ⟨by rw [hpu]; exact hp.symm, 0, rfl⟩
          · have hbd' : ¬ (16 : Int) ≤ (d : Int) := by omega
            rw [if_neg hbd] at hp
            by_cases hcut : 1152921504606846976 ≤ n
            · have hcut' : (1152921504606846976 : Int) ≤ (n : Int) := by omega
              rw [if_pos (by omega)] at hp
              simp [h1, h8, h9, h10, h11, h12, h13, h99, h100, h101, hlt', ofBytes_at hlt, g1, g2, g3, dw, hbd', hcut']
              exact ⟨by rw [hpu]; exact hp.symm, 18446744073709551615, rfl⟩
            · have hcut' : ¬ (1152921504606846976 : Int) ≤ (n : Int) := by omega
              obtain ⟨m, hm⟩ : ∃ m, m = n * 16 := ⟨_, rfl⟩
              have hm64 : m < 18446744073709551616 := by omega
              have wm : IntKind.u64.wrap ((n : Int) * 16) = (m : Int) := by rw [wrap_u64] <;> omega
              rw [← hm] at hp
              by_cases hov : 18446744073709551616 ≤ m + d
              · rw [if_pos hov] at hp
                have hx := wrap_over hm64 (by omega) hov
                generalize hX : IntKind.u64.wrap ((m : Int) + (d : Int)) = X at hx
                simp [h1, h8, h9, h10, h11, h12, h13, h99, h100, h101, hlt', ofBytes_at hlt, g1, g2, g3, dw, hbd', hcut', wd, wm, hX, hx]
                exact ⟨by rw [hpu]; exact hp.symm, 18446744073709551615, rfl⟩
              · rw [if_neg hov] at hp
                obtain ⟨q, hq⟩ : ∃ q, q = m + d := ⟨_, rfl⟩
                have wq : IntKind.u64.wrap ((m : Int) + (d : Int)) = (q : Int) := by rw [wrap_u64] <;> omega
                have hx1 : ¬ (q : Int) < (m : Int) := by omega
                have hx2 : ¬ (18446744073709551615 : Int) < (q : Int) := by omega
                rw [← hq] at hp
                simp [h1, h8, h9, h10, h11, h12, h13, h99, h100, h101, hlt', ofBytes_at hlt, g1, g2, g3, dw, hbd', hcut', wd, wm, wq, hx1, hx2, hw]
                exact ⟨i + 1, by omega, by omega, q, by omega, hp, rfl, by simp⟩
        · rw [if_neg hd] at hp
          by_cases h48 : s[i].toNat < 48
          · have lw := low_lt h48
            rw [if_neg (by omega)] at hp
            have g1 : ¬ (48 : Int) ≤ (s[i].toNat : Int) := by omega
            have g3 : ¬ (s[i].toNat : Int) = 95 := by omega
            have f1 : ¬ (97 : Int) ≤ ((s[i] ||| 32).toNat : Int) := by omega
            generalize (s[i] ||| 32).toNat = lc at *
            simp only at hp
            simp [h1, h8, h9, h10, h11, h12, h13, h99, h100, h101, hlt', ofBytes_at hlt, g1, g3, hc, f1]
            exact ⟨by rw [hpu]; exact hp.symm, 0, rfl⟩
          · have g1 : (48 : Int) ≤ (s[i].toNat : Int) := by omega
            have g2 : ¬ (s[i].toNat : Int) ≤ 57 := by omega
            by_cases g95 : s[i].toNat = 95
            · have lw := low_95 g95
              rw [if_neg (by omega)] at hp
              have g3 : (s[i].toNat : Int) = 95 := by omega
              have f1 : (97 : Int) ≤ ((s[i] ||| 32).toNat : Int) := by omega
              have f2 : ¬ ((s[i] ||| 32).toNat : Int) ≤ 122 := by omega
              generalize (s[i] ||| 32).toNat = lc at *
              rw [g3] at hc
              simp only at hp
              simp [h1, h8, h9, h10, h11, h12, h13, h99, h100, h101, hlt', ofBytes_at hlt, g3, hc, f1, f2]
              exact ⟨by rw [hpu]; exact hp.symm, 0, rfl⟩
            · have g3 : ¬ (s[i].toNat : Int) = 95 := by omega
              have lw256 := (s[i] ||| 32).toNat_lt
              generalize (s[i] ||| 32).toNat = lc at *
              by_cases f : 97 ≤ lc ∧ lc ≤ 122
              · rw [if_pos f] at hp
                have f1 : (97 : Int) ≤ (lc : Int) := by omega
                have f2 : (lc : Int) ≤ 122 := by omega
                obtain ⟨d0, hd0⟩ : ∃ d, d = lc - 97 := ⟨_, rfl⟩
                obtain ⟨d, hdd⟩ : ∃ d, d = d0 + 10 := ⟨_, rfl⟩
                have dw1 : IntKind.u8.wrap ((lc : Int) - 97) = (d0 : Int) := by rw [wrap_u8] <;> omega
                have dw2 : IntKind.u8.wrap ((d0 : Int) + 10) = (d : Int) := by rw [wrap_u8] <;> omega
                rw [← hd0, ← hdd] at hp
                simp only at hp
                have hd16 : d < 36 := by omega
                have wd : IntKind.u64.wrap (d : Int) = (d : Int) := by rw [wrap_u64]; omega
                by_cases hbd : 16 ≤ d
                · have hbd' : (16 : Int) ≤ (d : Int) := by omega
                  rw [if_pos hbd] at hp
                  simp [h1, h8, h9, h10, h11, h12, h13, h99, h100, h101, hlt', ofBytes_at hlt, g1, g2, g3, hc, f1, f2, dw1, dw2, hbd']
                  exact ⟨by rw [hpu]; exact hp.symm, 0, rfl⟩
                · have hbd' : ¬ (16 : Int) ≤ (d : Int) := by omega
                  rw [if_neg hbd] at hp
                  by_cases hcut : 1152921504606846976 ≤ n
                  · have hcut' : (1152921504606846976 : Int) ≤ (n : Int) := by omega
                    rw [if_pos (by omega)] at hp
                    simp [h1, h8, h9, h10, h11, h12, h13, h99, h100, h101, hlt', ofBytes_at hlt, g1, g2, g3, hc, f1, f2, dw1, dw2, hbd', hcut']
                    exact ⟨by rw [hpu]; exact hp.symm, 18446744073709551615, rfl⟩
                  · have hcut' : ¬ (1152921504606846976 : Int) ≤ (n : Int) := by omega
                    obtain ⟨m, hm⟩ : ∃ m, m = n * 16 := ⟨_, rfl⟩
                    have hm64 : m < 18446744073709551616 := by omega
                    have wm : IntKind.u64.wrap ((n : Int) * 16) = (m : Int) := by rw [wrap_u64] <;> omega
                    rw [← hm] at hp
                    by_cases hov : 18446744073709551616 ≤ m + d
                    · rw [if_pos hov] at hp
                      have hx := wrap_over hm64 (by omega) hov
                      generalize hX : IntKind.u64.wrap ((m : Int) + (d : Int)) = X at hx
                      simp [h1, h8, h9, h10, h11, h12, h13, h99, h100, h101, hlt', ofBytes_at hlt, g1, g2, g3, hc, f1, f2, dw1, dw2, hbd', hcut', wd, wm, hX, hx]
                      exact ⟨by rw [hpu]; exact hp.symm, 18446744073709551615, rfl⟩
                    · rw [if_neg hov] at hp
                      obtain ⟨q, hq⟩ : ∃ q, q = m + d := ⟨_, rfl⟩
                      have wq : IntKind.u64.wrap ((m : Int) + (d : Int)) = (q : Int) := by rw [wrap_u64] <;> omega
                      have hx1 : ¬ (q : Int) < (m : Int) := by omega
                      have hx2 : ¬ (18446744073709551615 : Int) < (q : Int) := by omega
                      rw [← hq] at hp
                      simp [h1, h8, h9, h10, h11, h12, h13, h99, h100, h101, hlt', ofBytes_at hlt, g1, g2, g3, hc, f1, f2, dw1, dw2, hbd', hcut', wd, wm, wq, hx1, hx2, hw]
                      exact ⟨i + 1, by omega, by omega, q, by omega, hp, rfl, by simp⟩
              · rw [if_neg f] at hp
                by_cases f3 : 97 ≤ lc
                · have f1 : (97 : Int) ≤ (lc : Int) := by omega
                  have f2 : ¬ (lc : Int) ≤ 122 := by omega
                  simp only at hp
                  simp [h1, h8, h9, h10, h11, h12, h13, h99, h100, h101, hlt', ofBytes_at hlt, g1, g2, g3, hc, f1, f2]
                  exact ⟨by rw [hpu]; exact hp.symm, 0, rfl⟩
                · have f1 : ¬ (97 : Int) ≤ (lc : Int) := by omega
                  simp only at hp
                  simp [h1, h8, h9, h10, h11, h12, h13, h99, h100, h101, hlt', ofBytes_at hlt, g1, g2, g3, hc, f1]
                  exact ⟨by rw [hpu]; exact hp.symm, 0, rfl⟩
      · have hlt' : ¬ (i : Int) < (s.length : Int) := by omega
        rw [List.drop_eq_nil_of_le (by omega), puGo] at hp
        simp [h1, h8, h9, h10, h11, h12, h13, h99, h100, h101, hlt']
        exact ⟨n, by rw [hpu]; exact hp.symm, rfl⟩
end Go.Ev.S
namespace Go.Ev.S
open Go Go.Proofs Go.Ev
def numP (s : List UInt8) : Option Nat := if s = [] ∨ 20 < s.length ∨ (s.head? = some 48 ∧ 1 < s.length) then none else puGo 10 s 0
end Go.Ev.S
namespace Go.Ev.S
open Go Go.Proofs Go.Ev
theorem clone_ev [MaxL] [TxtC] (s : List UInt8) (h : s.length ≤ 281474976710656) : call cx 168 [.str s] [] = some (.str s, []) := by
  refine call_con ?_
  rw [co168, conClone, if_pos h]
theorem syntax_ev [MaxL] [TxtC] (f s : List UInt8) (h : s.length ≤ 281474976710656) : ∃ d, call cx 141 [.str f, .str s] [] = some (.vptr d, []) := by
  have hc := clone_ev s h
  suffices hh : ∃ r, call cx 141 [.str f, .str s] [] = some r ∧ ∃ d, r = (.vptr d, []) by
    obtain ⟨r, h1, d, rfl⟩ := hh
    exact ⟨d, h1⟩
  refine call_runE (fun r => ∃ d, r = (D.vptr d, [])) Tryz.func141 rfl ⟨rfl, rfl⟩ ?_
  simp [Tryz.f141, hc]
theorem range_ev [MaxL] [TxtC] (f s : List UInt8) (h : s.length ≤ 281474976710656) : ∃ d, call cx 142 [.str f, .str s] [] = some (.vptr d, []) := by
  have hc := clone_ev s h
  suffices hh : ∃ r, call cx 142 [.str f, .str s] [] = some r ∧ ∃ d, r = (.vptr d, []) by
    obtain ⟨r, h1, d, rfl⟩ := hh
    exact ⟨d, h1⟩
  refine call_runE (fun r => ∃ d, r = (D.vptr d, [])) Tryz.func142 rfl ⟨rfl, rfl⟩ ?_
  simp [Tryz.f142, hc]
theorem toerr_ev [MaxL] [TxtC] (f s : List UInt8) (h : s.length ≤ 281474976710656) (b c : Int) (hc : c = 1 ∨ c = 2) : ∃ d, call cx 118 [.str f, .str s, .int .i64 b, .int .i64 64, .iface 177 (.int .i64 c)] [] = some (.iface 179 (.vptr d), []) := by
  obtain ⟨d1, h1⟩ := syntax_ev f s h
  obtain ⟨d2, h2⟩ := range_ev f s h
  suffices hh : ∃ r, call cx 118 [.str f, .str s, .int .i64 b, .int .i64 64, .iface 177 (.int .i64 c)] [] = some r ∧ ∃ d, r = (.iface 179 (.vptr d), []) by
    obtain ⟨r, h1, d, rfl⟩ := hh
    exact ⟨d, h1⟩
  refine call_runE (fun r => ∃ d, r = (D.iface 179 (.vptr d), [])) Tryz.func118 rfl ⟨rfl, rfl⟩ ?_
  rcases hc with rfl | rfl
  · simp [Tryz.f118, h2]
  · simp [Tryz.f118, h1]
theorem pu_ev [MaxL] [TxtC] (b : Nat) (hb : b = 10 ∨ b = 16) (s : List UInt8) (hs : s.length ≤ 281474976710656) :
    (∃ n, pu b s = some n ∧ call cx 89 [.str s, .int .i64 b, .int .i64 64] [] = some (.tup [.int .u64 n, .nili], [])) ∨
    (pu b s = none ∧ ∃ (x : Nat) (d : List D), call cx 89 [.str s, .int .i64 b, .int .i64 64] [] = some (.tup [.int .u64 x, .iface 179 (.vptr d)], [])) := by
  rcases pui_ev b hb s (by omega) with ⟨n, h1, h2⟩ | ⟨h1, x, c, hc, h2⟩
  · refine .inl ⟨n, h1, ?_⟩
    refine call_run Tryz.func89 rfl ⟨rfl, rfl⟩ ?_
    simp [Tryz.f89, h2]
  · obtain ⟨d, hd⟩ := toerr_ev [80, 97, 114, 115, 101, 85, 105, 110, 116] s hs b c hc
    refine .inr ⟨h1, x, d, ?_⟩
    refine call_run Tryz.func89 rfl ⟨rfl, rfl⟩ ?_
    simp [Tryz.f89, h2, hd]
end Go.Ev.S
namespace Go.Ev.S
open Go Go.Proofs Go.Ev
def trimL (p s : List UInt8) : List UInt8 := if pre p s then s.drop p.length else s
theorem trim_len (p s : List UInt8) : (trimL p s).length ≤ s.length := by
  unfold trimL
  split <;> simp
def lnL (b : List UInt8) : List UInt8 := (cutL [10] b).1
def lnR (b : List UInt8) : List UInt8 := (cutL [10] b).2.1
theorem cut_len (sep s : List UInt8) : (cutL sep s).1.length ≤ s.length ∧ (cutL sep s).2.1.length ≤ s.length := by
  unfold cutL
  split
  · simp
  · simp
    omega
theorem lnL_len (b : List UInt8) : (lnL b).length ≤ b.length := (cut_len [10] b).1
theorem lnR_len (b : List UInt8) : (lnR b).length ≤ b.length := (cut_len [10] b).2
def nmI (p b : List UInt8) : Nat := (pu 10 (trimL p (lnL b))).getD 0
def idI (p b : List UInt8) : ID := idOf (trimL p (lnL b))
end Go.Ev.S
namespace Go.Ev.S
open Go Go.Proofs Go.Ev Go.RowKit
def asc : List D := (List.range 256).map fun i => .bool (decide (i = 61 ∨ i = 10))
theorem asc_ev [MaxL] : call cx 149 [.str [61, 10]] [] = some (.tup [.agg asc, .bool true], []) := call_some.2 ⟨60, by kernel_rfl⟩
theorem asc_len : asc.length = 256 := by simp [asc]
theorem asc_at (c : UInt8) : asc.drop c.toNat = .bool (decide (c = 61 ∨ c = 10)) :: asc.drop (c.toNat + 1) := by
  have hl : c.toNat < asc.length := by rw [asc_len]; exact c.toNat_lt
  rw [List.drop_eq_getElem_cons hl]
  congr 1
  simp only [asc, List.getElem_map, List.getElem_range]
  congr 1
  have h1 : c.toNat = 61 ↔ c = 61 := ⟨fun h => UInt8.toNat_inj.1 h, fun h => by rw [h]; rfl⟩
  have h2 : c.toNat = 10 ↔ c = 10 := ⟨fun h => UInt8.toNat_inj.1 h, fun h => by rw [h]; rfl⟩
  rw [decide_eq_decide, h1, h2]
theorem asc_has [MaxL] (c : UInt8) : call cx 150 [.vptr asc, .int .u8 c.toNat] [] = some (.bool (decide (c = 61 ∨ c = 10)), []) := by
  have ha := asc_at c
  have hc := c.toNat_lt
  have hc' : (c.toNat : Int) < 256 := by omega
  generalize decide (c = 61 ∨ c = 10) = b at *
  refine call_run Tryz.func150 rfl ⟨rfl, rfl⟩ ?_
  simp [Tryz.f150, ha, hc']
set_option maxHeartbeats 2000000 in
set_option maxRecDepth 8000 in
theorem any_big [MaxL] (s : List UInt8) (h8 : 8 < s.length) (hn : s.length < 1000000) : call cx 120 [.vsl false (ofBytes s) s.length, .str [61, 10]] [] = some (.int .i64 (anyI s 0), []) := by
  have hus := ia_use s.length
  simp only [h8, decide_true] at hus
  have hn1 : ¬ (s.length : Int) = 1 := by omega
  have ha := asc_ev
  have hal := asc_len
  have haf : asc.all idFree = true := by unfold asc; rw [List.all_map, List.all_eq_true]; intro x _; rfl
  have hac : asc.all (closed 0) = true := by unfold asc; rw [List.all_map, List.all_eq_true]; intro x _; rfl
  have hafL : idFree.idFreeL asc = true := by rw [idFreeL_all]; exact haf
  have haf2 : (∀ x, x ∈ asc → idFree x = true) = True := eq_true (List.all_eq_true.1 haf)
  have hacs : ∀ n, asc.all (closed n) = true := fun n => by unfold asc; rw [List.all_map, List.all_eq_true]; intro x _; rfl
  have hhas := asc_has
  have hfz : freeze.freezeL [some asc] asc = some asc := by
    have := freezeL_idf [] [some asc] asc hafL
    rw [this]
    have gen : ∀ (l : List D), (∀ d ∈ l, ∃ b, d = .bool b) → freeze.freezeL [] l = some l := by
      intro l
      induction l with
      | nil => intro _; rfl
      | cons a l ih =>
        intro h
        obtain ⟨b, rfl⟩ := h a (by simp)
        have := ih fun d hd => h d (by simp [hd])
        rw [freeze.freezeL, this]
        rfl
    refine gen _ fun d hd => ?_
    simp only [asc, List.mem_map] at hd
    obtain ⟨i, _, rfl⟩ := hd
    exact ⟨_, rfl⟩
  have hsh : shift.shiftL 0 asc = asc := shiftL_of_free 0 asc hafL
  obtain ⟨r, hr⟩ : ∃ r, anyI s 0 = r := ⟨_, rfl⟩
  rw [hr]
  have htk : List.take 256 asc = asc := List.take_of_length_le (by omega)
  generalize hA : asc = A at *
  clear hA
  refine call_run Tryz.func120 rfl ⟨rfl, conAny_none s false (.inr h8)⟩ ?_
  simp [-List.reduceReplicate, Tryz.f120, hn1, hus, ha, hal, hacs, hsh]
  refine Run.loopThen (fun (k : Nat) e H' => k ≤ s.length ∧ anyI (s.drop k) k = r ∧ H' = [some A] ∧ look e 7 = some (.optr 0 256 0) ∧ look e 60 = some (.vsl false (ofBytes s) s.length) ∧ look e 61 = some (.int .i64 s.length) ∧ look e 62 = some (.int .i64 k)) (fun k => s.length - k) 0 ?_ ?_
  · simpa using hr
  rintro k e H' ⟨hk, hR, rfl, k7, k60, k61, k62⟩
  by_cases hlt : k < s.length
  · have hlt' : (k : Int) < (s.length : Int) := by omega
    have hw : IntKind.i64.wrap ((k : Int) + 1) = ((k + 1 : Nat) : Int) := by rw [wrap_i64] <;> omega
    have hat := ofBytes_at hlt
    rw [List.drop_eq_getElem_cons hlt, anyI] at hR
    have hh := hhas s[k]
    generalize s[k] = c at *
    by_cases hc : c = 61 ∨ c = 10
    · rw [if_pos hc] at hR
      simp only [hc, decide_true] at hh
      simp [k7, k60, k61, k62, hlt', hat, hh, hal, haf2]
      exact hR
    · rw [if_neg hc] at hR
      simp only [hc, decide_false] at hh
      simp [k7, k60, k61, k62, hlt', hat, hh, hal, haf2, hw]
      exact ⟨k + 1, by omega, hlt, hR, by omega⟩
  · have hlt' : ¬ (k : Int) < (s.length : Int) := by omega
    rw [List.drop_eq_nil_of_le (by omega), anyI] at hR
    simp [k7, k60, k61, k62, hlt']
    exact hR
theorem any_nil [MaxL] (b : Bool) : call cx 120 [.vsl b [] 0, .str [61, 10]] [] = some (.int .i64 (-1), []) := by
  have hus : call cx 148 [.int .i64 0] [] = some (.bool false, []) := ia_use 0
  refine call_run Tryz.func120 rfl ⟨rfl, conAny_none [] b (.inl rfl)⟩ ?_
  simp [Tryz.f120, hus]
  refine run_unroll ?_
  simp
theorem any_ev [MaxL] (s : Sl UInt8) (hn : s.l.length < 1000000) : call cx 120 [(.vsl s.nil (ofBytes s.l) s.l.length), .str [61, 10]] [] = some (.int .i64 (anyI s.l 0), []) := by
  by_cases h0 : s.l.length = 0
  · have hl : s.l = [] := List.length_eq_zero_iff.1 h0
    rw [hl]
    exact any_nil s.nil
  · have hnn : s.nil = false := by
      cases h : s.nil with
      | false => rfl
      | true => exact absurd (by rw [s.h h]; rfl) h0
    rw [hnn]
    by_cases h8 : 8 < s.l.length
    · exact any_big s.l h8 hn
    · exact call_con (conAny_short s.l (by omega) (by omega))
end Go.Ev.S
namespace Go.Ev.S
open Go Go.Proofs Go.Ev
theorem bidx_ev [MaxL] (s : Sl UInt8) (hs : s.l.length < 1000000) : call cx 137 [(.vsl s.nil (ofBytes s.l) s.l.length), .vsl false [.int .u8 10] 1] [] = some (.int .i64 (idxN [10] s.l 0), []) := by
  refine call_con ?_
  rw [co137]
  have h10 : bytesR [.int .u8 10] = some [10] := rfl
  have h2 : s.l.length < 4294967281 := by omega
  simp [conBIdx, h10, h2]
theorem bcut_ev [MaxL] (s : Sl UInt8) (hs : s.l.length < 1000000) : ∃ (a r : Sl UInt8) (f : Bool), a.l = lnL s.l ∧ r.l = lnR s.l ∧ call cx 115 [(.vsl s.nil (ofBytes s.l) s.l.length), .vsl false [.int .u8 10] 1] [] = some (.tup [(.vsl a.nil (ofBytes a.l) a.l.length), (.vsl r.nil (ofBytes r.l) r.l.length), .bool f], []) := by
  have h := bidx_ev s hs
  rcases idx_cases [10] s.l 0 with ⟨i, h1, h2, -⟩ | h1
  · simp only [Nat.zero_add, List.length_cons, List.length_nil] at h1 h2
    have hn : ¬ ((i : Nat) : Int) = -1 := by omega
    refine ⟨⟨s.nil, s.l.take i, fun e => by rw [s.h e]; simp⟩, ⟨s.nil, s.l.drop (i + 1), fun e => by rw [s.h e]; simp⟩, true, ?_, ?_, ?_⟩
    · simp [lnL, cutL, h1, hn]
    · simp [lnR, cutL, h1, hn]
    · rw [h1] at h
      have hw : IntKind.i64.wrap ((i : Int) + 1) = ((i + 1 : Nat) : Int) := by rw [wrap_i64] <;> omega
      have g1 : i ≤ s.l.length := by omega
      have g2 : i + 1 ≤ s.l.length := by omega
      have g1' : (i : Int) ≤ (s.l.length : Int) := by omega
      have g2' : ((i + 1 : Nat) : Int) ≤ (s.l.length : Int) := by omega
      have t1 : List.take i (ofBytes s.l) = ofBytes (s.l.take i) := ofBytes_take _ _
      have t2 : List.take (s.l.length - (i + 1)) (List.drop (i + 1) (ofBytes s.l)) = ofBytes (s.l.drop (i + 1)) := by
        rw [ofBytes_drop]
        exact List.take_of_length_le (by simp)
      have l1 : (s.l.take i).length = i := by simp; omega
      have l2 : (s.l.drop (i + 1)).length = s.l.length - (i + 1) := by simp
      obtain ⟨j, hj⟩ : ∃ j, j = i + 1 := ⟨_, rfl⟩
      rw [← hj] at hw g2 g2' t2 l2 ⊢
      have g3 : ((s.l.length : Int) - (j : Int)).toNat = s.l.length - j := by omega
      refine call_run Tryz.func115 rfl ⟨rfl, rfl⟩ ?_
      simp [Tryz.f115, h, hw, g1', g2', t1, t2, l1, l2]
  · refine ⟨s, .none, false, ?_, ?_, ?_⟩
    · simp [lnL, cutL, h1]
    · simp [lnR, cutL, h1]
    · rw [h1] at h
      refine call_run Tryz.func115 rfl ⟨rfl, rfl⟩ ?_
      simp [Tryz.f115, h, Sl.none]
theorem line_ev [MaxL] (s : Sl UInt8) (hs : s.l.length < 1000000) (p : List UInt8) (hp : p.length < 1000) : ∃ r : Sl UInt8, r.l = lnR s.l ∧ call cx 88 [.optr 0 1 0, .str p] [some [(.vsl s.nil (ofBytes s.l) s.l.length)]] = some (.str (trimL p (lnL s.l)), [some [(.vsl r.nil (ofBytes r.l) r.l.length)]]) := by
  obtain ⟨a, r, f, h1, h2, h3⟩ := bcut_ev s hs
  refine ⟨r, h2, ?_⟩
  have hl := lnL_len s.l
  have ht := trim_ev (lnL s.l) p (by omega) (by omega)
  have hb : bytesD (ofBytes a.l) = some a.l := bytesD_of a.l
  have ht2 : List.take a.l.length (ofBytes a.l) = ofBytes a.l := List.take_of_length_le (by simp)
  rw [← h1] at ht ⊢
  refine call_run Tryz.func88 rfl ⟨rfl, rfl⟩ ?_
  simp [Tryz.f88, h3, ht, hb, trimL]
theorem nline_ev [MaxL] (s : Sl UInt8) (hs : s.l.length < 1000000) (p : List UInt8) (hp : p.length < 1000) : ∃ r : Sl UInt8, r.l = lnR s.l ∧ call cx 91 [.optr 0 1 0, .str p] [some [(.vsl s.nil (ofBytes s.l) s.l.length)]] = some (.int .u64 (nmI p s.l : Nat), [some [(.vsl r.nil (ofBytes r.l) r.l.length)]]) := by
  obtain ⟨r, h1, h2⟩ := line_ev s hs p hp
  refine ⟨r, h1, ?_⟩
  have hl := lnL_len s.l
  have ht := trim_len p (lnL s.l)
  unfold nmI
  rcases pu_ev 10 (.inl rfl) (trimL p (lnL s.l)) (by omega) with ⟨v, e1, e2⟩ | ⟨e1, x, d, e2⟩
  · rw [e1]
    have e3 : call cx 89 [.str (trimL p (lnL s.l)), .int .i64 10, .int .i64 64] [] = some (.tup [.int .u64 v, .nili], []) := e2
    refine call_run Tryz.func91 rfl ⟨rfl, rfl⟩ ?_
    simp [Tryz.f91, h2, e3]
  · rw [e1]
    have e3 : call cx 89 [.str (trimL p (lnL s.l)), .int .i64 10, .int .i64 64] [] = some (.tup [.int .u64 x, .iface 179 (.vptr d)], []) := e2
    refine call_run Tryz.func91 rfl ⟨rfl, rfl⟩ ?_
    simp [Tryz.f91, h2, e3]
theorem idline_ev [MaxL] (s : Sl UInt8) (hs : s.l.length < 1000000) (p : List UInt8) (hp : p.length < 1000) : ∃ r : Sl UInt8, r.l = lnR s.l ∧ call cx 90 [.optr 0 1 0, .str p] [some [(.vsl s.nil (ofBytes s.l) s.l.length)]] = some (.agg (ofBytes (idI p s.l).l), [some [(.vsl r.nil (ofBytes r.l) r.l.length)]]) := by
  obtain ⟨r, h1, h2⟩ := line_ev s hs p hp
  refine ⟨r, h1, ?_⟩
  have hl := lnL_len s.l
  have ht := trim_len p (lnL s.l)
  have hid := id_ev (trimL p (lnL s.l)) (by omega)
  have e : (idI p s.l).l = (idP (trimL p (lnL s.l))).getD zero16 := rfl
  rw [← e] at hid
  have hl16 := (idI p s.l).h
  have ht16 : List.take 16 (ofBytes (idI p s.l).l) = ofBytes (idI p s.l).l := List.take_of_length_le (by simp)
  refine call_run Tryz.func90 rfl ⟨rfl, rfl⟩ ?_
  simp [Tryz.f90, h2, hid, hl16, ht16]
end Go.Ev.S
namespace Go.Ev
open Go Go.Proofs
mutual
theorem noZ_free : ∀ (d : D), idFree d = true → noZ d = true
  | .agg cs, h => by simp only [idFree] at h; simp only [noZ]; exact noZL_free cs h
  | .tup cs, h => by simp only [idFree] at h; simp only [noZ]; exact noZL_free cs h
  | .fn _ cs, h => by simp only [idFree] at h; simp only [noZ]; exact noZL_free cs h
  | .iface _ d, h => by simp only [idFree] at h; simp only [noZ]; exact noZ_free d h
  | .optr .., h => by simp [idFree] at h
  | .osl .., h => by simp [idFree] at h
  | .bool _, _ => rfl
  | .int _ _, _ => rfl
  | .str _, _ => rfl
  | .nilp, _ => rfl
  | .nilf, _ => rfl
  | .nili, _ => rfl
  | .vptr _, _ => rfl
  | .vsl .., _ => rfl
  | .raw _, _ => rfl
theorem noZL_free : ∀ (l : List D), idFree.idFreeL l = true → noZ.noZL l = true
  | [], _ => rfl
  | d :: l, h => by
    simp only [idFree.idFreeL, Bool.and_eq_true] at h
    simp only [noZ.noZL, noZ_free d h.1, noZL_free l h.2, Bool.and_self]
end
@[simp] theorem noZL_append (a b : List D) : noZ.noZL (a ++ b) = (noZ.noZL a && noZ.noZL b) := by
  induction a with
  | nil => simp [noZ.noZL]
  | cons d l ih => simp [noZ.noZL, ih, Bool.and_assoc]
@[simp] theorem noZL_of (l : List UInt8) : noZ.noZL (ofBytes l) = true := noZL_free _ (by simp)
@[simp] theorem noZL_cells {α : Type} [Enc α] (a : α) : noZ.noZL (Enc.cells a) = true := noZL_free _ (cells_idFreeL a)
@[simp] theorem noZL_encs {α : Type} [Enc α] (l : List α) : noZ.noZL (encs l) = true := noZL_free _ (encs_idFreeL l)
end Go.Ev
namespace Go.Ev.S
open Go Go.Proofs Go.Ev
theorem anyI_cases : ∀ (l : List UInt8) (n : Nat), (∃ k : Nat, anyI l n = ((n + k : Nat) : Int) ∧ ∃ h : k < l.length, (l[k] = 61 ∨ l[k] = 10) ∧ ∀ j (hj : j < k), l[j] ≠ 61 ∧ l[j] ≠ 10) ∨ anyI l n = -1
  | [], n => .inr rfl
  | b :: l, n => by
    by_cases hb : b = 61 ∨ b = 10
    · exact .inl ⟨0, by rw [anyI, if_pos hb]; simp, by simp, hb, fun j hj => by omega⟩
    · rw [anyI, if_neg hb]
      rcases anyI_cases l (n + 1) with ⟨k, h1, h2, h3, h4⟩ | h
      · refine .inl ⟨k + 1, by rw [h1]; congr 1; omega, by simpa using h2, by simpa using h3, fun j hj => ?_⟩
        cases j with
        | zero => exact ⟨fun e => hb (.inl e), fun e => hb (.inr e)⟩
        | succ j => exact h4 j (by omega)
      · exact .inr h
def pairP (b : List UInt8) : Option (Pr × List UInt8) :=
  if anyI b 0 < 1 then none
  else if b.getD (anyI b 0).toNat 0 = 61 then some (⟨b.take (anyI b 0).toNat, lnL (b.drop ((anyI b 0).toNat + 1))⟩, lnR (b.drop ((anyI b 0).toNat + 1)))
  else match leGet (b.drop ((anyI b 0).toNat + 1)) 0 8 with
    | none => none
    | some n => if 256 < n ∨ (b.drop ((anyI b 0).toNat + 1)).length < 9 + n then none
      else some (⟨b.take (anyI b 0).toNat, ((b.drop ((anyI b 0).toNat + 1)).drop 8).take n⟩, (b.drop ((anyI b 0).toNat + 1)).drop (9 + n))
theorem leGet_lt (l : List UInt8) (n : Nat) (h : leGet l 0 8 = some n) : n < 18446744073709551616 ∧ 8 ≤ l.length := by
  unfold leGet at h
  split at h
  · rename_i hc
    injection h with h
    refine ⟨?_, by omega⟩
    rw [← h]
    have := leN_lt ((l.drop (0 : Int).toNat).take (8 : Int).toNat)
    refine Nat.lt_of_lt_of_le this ?_
    have hl : ((l.drop (0 : Int).toNat).take (8 : Int).toNat).length ≤ 8 := by simp; omega
    exact Nat.le_trans (Nat.pow_le_pow_right (by decide) hl) (by decide)
  · cases h
set_option maxHeartbeats 4000000 in
set_option maxRecDepth 8000 in
theorem lpair_ev [MaxL] (s : Sl UInt8) (hs : s.l.length < 1000000) : ∃ r : Sl UInt8, (∀ p b, pairP s.l = some (p, b) → r.l = b) ∧
    call cx 92 [.optr 0 1 0] [some [(.vsl s.nil (ofBytes s.l) s.l.length)]] = some (.tup [.agg (match pairP s.l with | some (p, _) => [.str p.name, .str p.value] | none => [.str [], .str []]), .bool (pairP s.l).isSome], [some [(.vsl r.nil (ofBytes r.l) r.l.length)]]) := by
  have ha := any_ev s hs
  rcases anyI_cases s.l 0 with ⟨k, h1, h2, h3, -⟩ | h1
  · rw [Nat.zero_add] at h1
    rw [h1] at ha
    cases k with
    | zero =>
      have hP : pairP s.l = none := by unfold pairP; rw [h1, if_pos (by decide)]
      rw [hP]
      refine ⟨s, fun p b h => (by cases h), ?_⟩
      have ha0 : call cx 120 [(.vsl s.nil (ofBytes s.l) s.l.length), .str [61, 10]] [] = some (.int .i64 0, []) := ha
      refine call_run Tryz.func92 rfl ⟨rfl, rfl⟩ ?_
      simp [Tryz.f92, ha0]
    | succ m =>
      obtain ⟨k, hk⟩ : ∃ k, k = m + 1 := ⟨_, rfl⟩
      rw [← hk] at h1 ha h2
      have hk1 : 1 ≤ k := by omega
      have h3' : s.l[k] = 61 ∨ s.l[k] = 10 := by subst hk; exact h3
      clear h3
      have hkn : ¬ (k : Int) < 1 := by omega
      have hnn : s.nil = false := Sl.nn h2
      rw [hnn] at ha
      have hat := ofBytes_at h2
      have hgd : s.l.getD k 0 = s.l[k] := by rw [List.getD, List.getElem?_eq_getElem h2]; rfl
      have hw1 : IntKind.i64.wrap ((k : Int) + 1) = ((k + 1 : Nat) : Int) := by rw [wrap_i64] <;> omega
      have t1 : List.take k (ofBytes s.l) = ofBytes (s.l.take k) := ofBytes_take _ _
      have t1l : (s.l.take k).length = k := by simp; omega
      have t1b : bytesD (ofBytes (s.l.take k)) = some (s.l.take k) := bytesD_of _
      have t1t : List.take k (ofBytes (s.l.take k)) = ofBytes (s.l.take k) := List.take_of_length_le (by simp; omega)
      obtain ⟨R, hR⟩ : ∃ R : Sl UInt8, R = ⟨false, s.l.drop (k + 1), fun e => by cases e⟩ := ⟨_, rfl⟩
      have hRl : R.l = s.l.drop (k + 1) := by rw [hR]
      have hRn : R.nil = false := by rw [hR]
      have hRlen : R.l.length = s.l.length - (k + 1) := by rw [hRl]; simp
      have t2 : List.take (s.l.length - (k + 1)) (List.drop (k + 1) (ofBytes s.l)) = ofBytes R.l := by
        rw [ofBytes_drop, ← hRl]
        exact List.take_of_length_le (by simp [hRlen])
      have g1 : k ≤ s.l.length := by omega
      have g1' : (k : Int) ≤ (s.l.length : Int) := by omega
      have g0' : (k : Int) < (s.l.length : Int) := by omega
      have g2 : k + 1 ≤ s.l.length := by omega
      have g2' : ((k + 1 : Nat) : Int) ≤ (s.l.length : Int) := by omega
      obtain ⟨j, hj⟩ : ∃ j, j = k + 1 := ⟨_, rfl⟩
      have g3 : ((s.l.length : Int) - (j : Int)).toNat = s.l.length - j := by omega
      have hln := line_ev R (by omega) [] (by decide)
      obtain ⟨r, hr1, hr2⟩ := hln
      have htr : trimL [] (lnL R.l) = lnL R.l := by unfold trimL; simp
      rw [htr] at hr2
      have hlg := leget_ev R 0 8 ⟨by decide, by decide⟩ (by omega)
      have hP : pairP s.l = if s.l[k] = 61 then some (⟨s.l.take k, lnL R.l⟩, lnR R.l) else match leGet R.l 0 8 with
          | none => none
          | some n => if 256 < n ∨ R.l.length < 9 + n then none else some (⟨s.l.take k, (R.l.drop 8).take n⟩, R.l.drop (9 + n)) := by
        unfold pairP
        have hkn' : ((k : Int)).toNat = k := by omega
        rw [h1, if_neg hkn, hkn', hgd, ← hRl]
      rw [hP]
      have hc10 : s.l[k] ≠ 61 → s.l[k] = 10 := fun h => h3'.resolve_left h
      rw [hRn] at hr2 hlg
      rw [← hRlen] at t2
      generalize s.l[k] = c at *
      have hsl : s.l.length - (k + 1) = R.l.length := hRlen.symm
      rw [← hj] at hw1 t2 g2 g2' hsl
      by_cases hc : c = 61
      · rw [if_pos hc]
        subst hc
        refine ⟨r, fun p b h => (by injection h with h; injection h with _ h; rw [← h]; exact hr1), ?_⟩
        clear hlg hP hc10 h3'
        refine call_run Tryz.func92 rfl ⟨rfl, rfl⟩ ?_
        simp [Tryz.f92, ha, hkn, hnn, hat, hw1, t1, t1l, t1b, t2, g0', g1', g2', hsl, hr2]
      · rw [if_neg hc]
        have hc2 := hc10 hc
        subst hc2
        clear hr1 hr2 htr hP hc10 h3' hc
        cases hg : leGet R.l 0 8 with
        | none =>
          rw [hg] at hlg
          simp only [optN, Option.getD_none, Option.isSome_none] at hlg
          refine ⟨R, fun p b h => (by cases h), ?_⟩
          rw [hRn]
          refine call_run Tryz.func92 rfl ⟨rfl, rfl⟩ ?_
          simp [Tryz.f92, ha, hkn, hnn, hat, hw1, t1, t1l, t1b, t2, g0', g1', g2', hsl, hlg]
        | some n =>
          obtain ⟨hn64, hR8⟩ := leGet_lt _ _ hg
          rw [hg] at hlg
          simp only [optN, Option.getD_some, Option.isSome_some] at hlg
          by_cases hbig : 256 < n
          · have hbig' : (256 : Int) < (n : Int) := by omega
            refine ⟨R, fun p b h => (by simp only [hbig, true_or, if_true] at h; cases h), ?_⟩
            rw [hRn]
            simp only [hbig, true_or, if_true]
            refine call_run Tryz.func92 rfl ⟨rfl, rfl⟩ ?_
            simp [Tryz.f92, ha, hkn, hnn, hat, hw1, t1, t1l, t1b, t2, g0', g1', g2', hsl, hlg, hbig']
          · have hbig' : ¬ (256 : Int) < (n : Int) := by omega
            have hwn : IntKind.i64.wrap (n : Int) = (n : Int) := by rw [wrap_i64] <;> omega
            have hwn9 : IntKind.i64.wrap (9 + (n : Int)) = 9 + (n : Int) := by rw [wrap_i64] <;> omega
            by_cases hsh : R.l.length < 9 + n
            · have hsh' : (R.l.length : Int) < 9 + (n : Int) := by omega
              refine ⟨R, fun p b h => (by simp only [hsh, or_true, if_true] at h; cases h), ?_⟩
              rw [hRn]
              simp only [hsh, or_true, if_true]
              refine call_run Tryz.func92 rfl ⟨rfl, rfl⟩ ?_
              simp [Tryz.f92, ha, hkn, hnn, hat, hw1, t1, t1l, t1b, t2, g0', g1', g2', hsl, hlg, hbig', hwn, hwn9, hsh']
            · have hsh' : ¬ (R.l.length : Int) < 9 + (n : Int) := by omega
              have hno : ¬ (256 < n ∨ R.l.length < 9 + n) := by omega
              simp only [hno, if_false]
              obtain ⟨V, hV⟩ : ∃ V, V = (R.l.drop 8).take n := ⟨_, rfl⟩
              have hVl : V.length = n := by rw [hV]; simp; omega
              obtain ⟨q, hq⟩ : ∃ q, q = 9 + n := ⟨_, rfl⟩
              obtain ⟨q8, hq8⟩ : ∃ q, q = 8 + n := ⟨_, rfl⟩
              have w8 : IntKind.u64.wrap (8 + (n : Int)) = (q8 : Int) := by rw [wrap_u64] <;> omega
              have w9 : IntKind.u64.wrap (q : Int) = (q : Int) := by rw [wrap_u64] <;> omega
              have hq9 : 9 + (n : Int) = (q : Int) := by omega
              have e8 : ((q8 : Int) - 8).toNat = n := by omega
              have eq9 : ((R.l.length : Int) - (q : Int)).toNat = R.l.length - q := by omega
              have b1 : (q8 : Int) ≤ (R.l.length : Int) := by omega
              have b2 : (8 : Int) ≤ (q8 : Int) := by omega
              have b3 : (q : Int) ≤ (R.l.length : Int) := by omega
              have b4 : q8 ≤ R.l.length := by omega
              have b5 : 8 ≤ q8 := by omega
              have b6 : q ≤ R.l.length := by omega
              have b7 : q8 - 8 = n := by omega
              have tv : List.take n (List.drop 8 (ofBytes R.l)) = ofBytes V := by rw [ofBytes_drop, ofBytes_take, ← hV]
              have tvb : bytesD (ofBytes V) = some V := bytesD_of _
              have tvt : List.take n (ofBytes V) = ofBytes V := List.take_of_length_le (by simp; omega)
              obtain ⟨Q, hQ⟩ : ∃ Q : Sl UInt8, Q = ⟨false, R.l.drop q, fun e => by cases e⟩ := ⟨_, rfl⟩
              have hQl : Q.l = R.l.drop q := by rw [hQ]
              have hQn : Q.nil = false := by rw [hQ]
              have hQlen : R.l.length - q = Q.l.length := by rw [hQl]; simp
              have tq : List.take (R.l.length - q) (List.drop q (ofBytes R.l)) = ofBytes Q.l := by
                rw [ofBytes_drop, ← hQl]
                exact List.take_of_length_le (by simp [hQlen])
              rw [hQlen] at tq
              refine ⟨Q, fun p b h => (by injection h with h; injection h with _ h; rw [← h, hQl, hq]), ?_⟩
              rw [hQn]
              rw [hq9] at hsh' hwn9
              rw [← hV]
              clear hg hV hQl hQ hR hRl hsh
              refine call_run Tryz.func92 rfl ⟨rfl, rfl⟩ ?_
              simp [Tryz.f92, ha, hkn, hnn, hat, hw1, t1, t1l, t1b, t2, g0', g1', g2', hsl, hlg, hbig', hwn, hq9, hwn9, hsh', w8, w9, b1, b2, b3, b7, tv, tvb, tq, hVl, hQlen]
  · have hP : pairP s.l = none := by unfold pairP; rw [h1, if_pos (by decide)]
    rw [hP]
    refine ⟨s, fun p b h => (by cases h), ?_⟩
    rw [h1] at ha
    refine call_run Tryz.func92 rfl ⟨rfl, rfl⟩ ?_
    simp [Tryz.f92, ha]
end Go.Ev.S
namespace Go.Ev.S
open Go Go.Proofs Go.Ev
def Rec.zero : Rec := ⟨0, 0, 0, ID.zero, .none⟩
def gapP (b : List UInt8) : It := ⟨idI kId (lnR b), true, ((pu 10 (cutL [45] (trimL kGap (lnL b))).1).getD 0 : Nat), ((pu 10 (cutL [45] (trimL kGap (lnL b))).2.1).getD 0 : Nat), Rec.zero⟩
theorem pu_ev10 [MaxL] (s : List UInt8) (hs : s.length ≤ 1000000) :
    (∃ v : Nat, (pu 10 s).getD 0 = v ∧ call cx 89 [.str s, .int .i64 10, .int .i64 64] [] = some (.tup [.int .u64 v, .nili], [])) ∨
    ((pu 10 s).getD 0 = 0 ∧ ∃ (x : Nat) (d : List D), call cx 89 [.str s, .int .i64 10, .int .i64 64] [] = some (.tup [.int .u64 x, .iface 179 (.vptr d)], [])) := by
  rcases pu_ev 10 (.inl rfl) s (by omega) with ⟨v, e1, e2⟩ | ⟨e1, x, d, e2⟩
  · exact .inl ⟨v, by rw [e1]; rfl, e2⟩
  · exact .inr ⟨by rw [e1]; rfl, x, d, e2⟩
set_option maxHeartbeats 4000000 in
set_option maxRecDepth 8000 in
theorem gap_ev [MaxL] (s : Sl UInt8) (hs : s.l.length < 1000000) : ∃ r : Sl UInt8, call cx 50 [.optr 0 1 0] [some [(.vsl s.nil (ofBytes s.l) s.l.length)]] = some (.agg (Enc.cells (gapP s.l)), [some [(.vsl r.nil (ofBytes r.l) r.l.length)]]) := by
  obtain ⟨r1, hr1, hl1⟩ := line_ev s hs kGap (by decide)
  have hln := lnL_len s.l
  have hlr := lnR_len s.l
  have htl := trim_len kGap (lnL s.l)
  obtain ⟨r2, hr2, hl2⟩ := idline_ev r1 (by rw [hr1]; omega) kId (by decide)
  have hcl := cut_len [45] (trimL kGap (lnL s.l))
  have hct := cut_ev (trimL kGap (lnL s.l)) [45] (by omega) (by decide)
  have p1 := pu_ev10 (cutL [45] (trimL kGap (lnL s.l))).1 (by omega)
  have p2 := pu_ev10 (cutL [45] (trimL kGap (lnL s.l))).2.1 (by omega)
  refine ⟨r2, ?_⟩
  rw [It.cells]
  unfold gapP
  simp only
  rw [← hr1]
  generalize idI kId r1.l = q at *
  generalize (cutL [45] (trimL kGap (lnL s.l))).2.2 = f at *
  generalize (cutL [45] (trimL kGap (lnL s.l))).2.1 = y at *
  generalize (cutL [45] (trimL kGap (lnL s.l))).1 = x at *
  generalize trimL kGap (lnL s.l) = t at *
  have hq := q.h
  have hq16 : List.take 16 (ofBytes q.l) = ofBytes q.l := List.take_of_length_le (by simp)
  have hq39 : List.take 39 (ofBytes q.l) = ofBytes q.l := List.take_of_length_le (by simp)
  have z16 : ofBytes ID.zero.l = [.int .u8 0, .int .u8 0, .int .u8 0, .int .u8 0, .int .u8 0, .int .u8 0, .int .u8 0, .int .u8 0, .int .u8 0, .int .u8 0, .int .u8 0, .int .u8 0, .int .u8 0, .int .u8 0, .int .u8 0, .int .u8 0] := rfl
  clear hlr htl hln hcl
  simp only [kGap, kId] at hl1 hl2
  refine call_run Tryz.func50 rfl ⟨rfl, rfl⟩ ?_
  rcases p1 with ⟨v1, e1, c1⟩ | ⟨e1, x1, d1, c1⟩ <;> rcases p2 with ⟨v2, e2, c2⟩ | ⟨e2, x2, d2, c2⟩ <;> rw [e1, e2] <;> clear e1 e2
  all_goals
    simp [Tryz.f50, hl1, hct]
    refine run_unroll ?_
    simp [c1]
    refine run_unroll ?_
    simp [c2]
    refine run_unroll ?_
    simp [hl2, hq39, hq, z16, Rec.zero, List.take_append]
end Go.Ev.S
namespace Go.Ev.S
open Go Go.Proofs Go.Ev
def fldP : Nat → List UInt8 → List Pr
  | 0, _ => []
  | n + 1, b => match pairP b with
    | none => []
    | some (p, r) => p :: fldP n r
def slP (l : List Pr) : Sl Pr := ⟨l.isEmpty, l, fun h => by simpa using h⟩
def entP (b : List UInt8) : It := ⟨idI kId (lnR (lnR (lnR (lnR b)))), false, 0, 0, ⟨(nmI kSeq (lnR (lnR (lnR b))) : Nat), (nmI kReal (lnR b) : Nat), (nmI kMono (lnR (lnR b)) : Nat), idI kBoot (lnR (lnR (lnR (lnR (lnR b))))), slP (fldP 17 (lnR (lnR (lnR (lnR (lnR (lnR b)))))))⟩⟩
theorem pairP_len {b : List UInt8} {p : Pr} {r : List UInt8} (h : pairP b = some (p, r)) : r.length ≤ b.length := by
  unfold pairP at h
  split at h
  · cases h
  · split at h
    · injection h with h
      injection h with _ h
      rw [← h]
      exact Nat.le_trans (lnR_len _) (by simp)
    · split at h
      · cases h
      · split at h
        · cases h
        · injection h with h
          injection h with _ h
          rw [← h]
          simp
def entX (q : ID) (sq rl mn : Nat) (bt : ID) : List D := ofBytes q.l ++ ([.bool false, .int .u64 0, .int .u64 0, .int .u64 sq, .int .u64 rl, .int .u64 mn] ++ ofBytes bt.l)
theorem entX_len (q : ID) (sq rl mn : Nat) (bt : ID) : (entX q sq rl mn bt).length = 38 := by
  simp [entX, q.h, bt.h]
theorem entX_free (q : ID) (sq rl mn : Nat) (bt : ID) : idFree.idFreeL (entX q sq rl mn bt) = true := by
  simp [entX, idFree]
def EntH (X : List D) (Z : Option (List D)) (fs : List Pr) (r : Sl UInt8) (H : Heap) : Prop :=
  (fs = [] ∧ H = [some [(.vsl r.nil (ofBytes r.l) r.l.length)], Z, some (X ++ [.vsl true [] 0])]) ∨
  (fs ≠ [] ∧ ∃ (n k : Nat) (t u : Pr), n = fs.length * 2 ∧ k = fs.length ∧ (H = [some [(.vsl r.nil (ofBytes r.l) r.l.length)], Z, some (X ++ [.osl 5 n 0 k 2]), some [.str t.name, .str t.value], some [.str u.name, .str u.value], some (encs fs)] ∨
    ∃ v w : Pr, H = [some [(.vsl r.nil (ofBytes r.l) r.l.length)], Z, some (X ++ [.osl 5 n 0 k 2]), some [.str t.name, .str t.value], some [.str u.name, .str u.value], some (encs fs), some [.str v.name, .str v.value], some [.str w.name, .str w.value]]))
theorem stay_ent {X : List D} (hX : idFree.idFreeL X = true) {fs : List Pr} {i n k : Nat} (hn : fs.length * 2 = n) (hk : fs.length = k) {H : Heap} (hg : (H[i]?).getD none = some (encs fs)) : stay H 9 (.agg (X ++ [.osl i n 0 k 2])) = some (.agg (X ++ [.vsl false (encs fs) k]), [i]) := by
  have h8 : stay H 8 (.osl i n 0 k 2) = some (.vsl false (encs fs) k, [i]) := by
    rw [stay, if_neg (by simp [idFree])]
    have hl : (encs fs).length = n := by simp [hn]
    have h0 : 0 + k * 2 ≤ n := by omega
    simp only [hget, hg]
    rw [if_pos ⟨hl, h0⟩, if_pos (by simp), List.drop_zero, List.take_of_length_le (by simp; omega)]
  rw [stay, if_neg (by simp [idFree])]
  simp only [stayL_append, stayL_free8 hX, stayL, h8]
  rfl
set_option maxHeartbeats 4000000 in
set_option maxRecDepth 8000 in
theorem entry_ev [MaxL] (s : Sl UInt8) (hs : s.l.length < 1000000) : ∃ q, call cx 51 [.optr 0 1 0] [some [(.vsl s.nil (ofBytes s.l) s.l.length)]] = some q ∧ ∃ r : Sl UInt8, q = (.agg (Enc.cells (entP s.l)), [some [(.vsl r.nil (ofBytes r.l) r.l.length)]]) := by
  obtain ⟨r1, hr1, hl1⟩ := line_ev s hs kPlace (by decide)
  have n0 := lnR_len s.l
  obtain ⟨r2, hr2, hl2⟩ := nline_ev r1 (by rw [hr1]; omega) kReal (by decide)
  have n1 := lnR_len r1.l
  rw [← hr1] at n0
  obtain ⟨r3, hr3, hl3⟩ := nline_ev r2 (by rw [hr2]; omega) kMono (by decide)
  have n2 := lnR_len r2.l
  rw [← hr2] at n1
  obtain ⟨r4, hr4, hl4⟩ := nline_ev r3 (by rw [hr3]; omega) kSeq (by decide)
  have n3 := lnR_len r3.l
  rw [← hr3] at n2
  obtain ⟨r5, hr5, hl5⟩ := idline_ev r4 (by rw [hr4]; omega) kId (by decide)
  have n4 := lnR_len r4.l
  rw [← hr4] at n3
  obtain ⟨r6, hr6, hl6⟩ := idline_ev r5 (by rw [hr5]; omega) kBoot (by decide)
  have n5 := lnR_len r5.l
  rw [← hr5] at n4
  rw [← hr6] at n5
  have hE : Enc.cells (entP s.l) = entX (idI kId r4.l) (nmI kSeq r3.l) (nmI kReal r1.l) (nmI kMono r2.l) (idI kBoot r5.l) ++ [(.vsl (slP (fldP 17 r6.l)).nil (encs (slP (fldP 17 r6.l)).l) (slP (fldP 17 r6.l)).l.length)] := by
    rw [It.cells]
    unfold entP entX
    simp only
    rw [← hr1, ← hr2, ← hr3, ← hr4, ← hr5, ← hr6]
    simp
  rw [hE]
  have hr6' : r6.l.length < 1000000 := by omega
  clear hE n0 n1 n2 n3 n4 n5 hr1 hr2 hr3 hr4 hr5 hr6
  have hXl := entX_len (idI kId r4.l) (nmI kSeq r3.l) (nmI kReal r1.l) (nmI kMono r2.l) (idI kBoot r5.l)
  have hXf := entX_free (idI kId r4.l) (nmI kSeq r3.l) (nmI kReal r1.l) (nmI kMono r2.l) (idI kBoot r5.l)
  obtain ⟨X, hX⟩ : ∃ X, X = entX (idI kId r4.l) (nmI kSeq r3.l) (nmI kReal r1.l) (nmI kMono r2.l) (idI kBoot r5.l) := ⟨_, rfl⟩
  rw [← hX] at hXl hXf ⊢
  unfold entX at hX
  obtain ⟨F, hF⟩ : ∃ F, F = fldP 17 r6.l := ⟨_, rfl⟩
  rw [← hF]
  have hq := (idI kId r4.l).h
  have hb := (idI kBoot r5.l).h
  generalize idI kId r4.l = q at *
  generalize idI kBoot r5.l = bt at *
  generalize nmI kSeq r3.l = sq at *
  generalize nmI kReal r1.l = rl at *
  generalize nmI kMono r2.l = mn at *
  have hq16 : List.take 16 (ofBytes q.l) = ofBytes q.l := List.take_of_length_le (by simp)
  have hb16 : List.take 16 (ofBytes bt.l) = ofBytes bt.l := List.take_of_length_le (by simp)
  simp only [kPlace, kReal, kMono, kSeq, kId, kBoot] at hl1 hl2 hl3 hl4 hl5 hl6
  have hXd : List.drop 38 X = [] := List.drop_eq_nil_of_le (by omega)
  have hXd9 : List.drop 39 X = [] := List.drop_eq_nil_of_le (by omega)
  have hXt : List.take 38 X = X := List.take_of_length_le (by omega)
  have hXt9 : List.take 39 X = X := List.take_of_length_le (by omega)
  have hXc : ∀ n, (∀ x, x ∈ X → closed n x = true) = True := fun n => eq_true (by
    have := closedL_free n X hXf
    rw [closedL_all] at this
    exact List.all_eq_true.1 this)
  refine call_runE (X := cx) (f := 51) (args := [.optr 0 1 0]) (H := [some [(.vsl s.nil (ofBytes s.l) s.l.length)]]) (fun q => ∃ r : Sl UInt8, q = (.agg (X ++ [(.vsl (slP F).nil (encs (slP F).l) (slP F).l.length)]), [some [(.vsl r.nil (ofBytes r.l) r.l.length)]])) Tryz.func51 rfl ⟨rfl, rfl⟩ ?_
  simp [Tryz.f51, hl1, hl2, hl3, hl4, hl5, hl6, hq, hb, List.take_append, List.drop_append, drop_bytes]
  have hZf : idFree.idFreeL [D.int .u8 0, D.int .u8 0, D.int .u8 0, D.int .u8 0, D.int .u8 0, D.int .u8 0, D.int .u8 0, D.int .u8 0, D.int .u8 0, D.int .u8 0, D.int .u8 0, D.int .u8 0, D.int .u8 0, D.int .u8 0, D.int .u8 0, D.int .u8 0, D.bool false, D.int .u64 0, D.int .u64 0, D.int .u64 0, D.int .u64 0, D.int .u64 0, D.int .u8 0, D.int .u8 0, D.int .u8 0, D.int .u8 0, D.int .u8 0, D.int .u8 0, D.int .u8 0, D.int .u8 0, D.int .u8 0, D.int .u8 0, D.int .u8 0, D.int .u8 0, D.int .u8 0, D.int .u8 0, D.int .u8 0, D.int .u8 0, D.vsl true [] 0] = true := rfl
  have hZl : [D.int .u8 0, D.int .u8 0, D.int .u8 0, D.int .u8 0, D.int .u8 0, D.int .u8 0, D.int .u8 0, D.int .u8 0, D.int .u8 0, D.int .u8 0, D.int .u8 0, D.int .u8 0, D.int .u8 0, D.int .u8 0, D.int .u8 0, D.int .u8 0, D.bool false, D.int .u64 0, D.int .u64 0, D.int .u64 0, D.int .u64 0, D.int .u64 0, D.int .u8 0, D.int .u8 0, D.int .u8 0, D.int .u8 0, D.int .u8 0, D.int .u8 0, D.int .u8 0, D.int .u8 0, D.int .u8 0, D.int .u8 0, D.int .u8 0, D.int .u8 0, D.int .u8 0, D.int .u8 0, D.int .u8 0, D.int .u8 0, D.vsl true [] 0].length = 39 := rfl
  generalize [D.int .u8 0, D.int .u8 0, D.int .u8 0, D.int .u8 0, D.int .u8 0, D.int .u8 0, D.int .u8 0, D.int .u8 0, D.int .u8 0, D.int .u8 0, D.int .u8 0, D.int .u8 0, D.int .u8 0, D.int .u8 0, D.int .u8 0, D.int .u8 0, D.bool false, D.int .u64 0, D.int .u64 0, D.int .u64 0, D.int .u64 0, D.int .u64 0, D.int .u8 0, D.int .u8 0, D.int .u8 0, D.int .u8 0, D.int .u8 0, D.int .u8 0, D.int .u8 0, D.int .u8 0, D.int .u8 0, D.int .u8 0, D.int .u8 0, D.int .u8 0, D.int .u8 0, D.int .u8 0, D.int .u8 0, D.int .u8 0, D.vsl true [] 0] = Z at *
  have hZc : ∀ n, (∀ x, x ∈ Z → closed n x = true) = True := fun n => eq_true (by
    have := closedL_free n Z hZf
    rw [closedL_all] at this
    exact List.all_eq_true.1 this)
  have hZd : List.drop 39 Z = [] := List.drop_eq_nil_of_le (by omega)
  refine Run.loopThen (fun (q : List Pr × Sl UInt8) e H' => q.1.length ≤ 17 ∧ q.2.l.length < 1000000 ∧ q.1 ++ fldP (17 - q.1.length) q.2.l = F ∧ EntH X (some Z) q.1 q.2 H' ∧ look e 0 = some (.optr 0 1 0) ∧ look e 2 = some (.optr 1 39 0) ∧ look e 3 = some (.optr 2 39 0) ∧ look e 4 = some (.optr 2 39 19)) (fun q => 17 - q.1.length) ([], r6) ?_ ?_
  · refine ⟨by simp, hr6', by rw [hF]; rfl, .inl ⟨rfl, ?_⟩, by simp, by simp, by simp, by simp⟩
    rw [hX]
    simp
  rintro ⟨fs, r⟩ e H' ⟨hk, hrl, hFf, hH, k0, k2, k3, k4⟩
  simp only at hk hrl hFf hH
  clear hX hF hl1 hl2 hl3 hl4 hl5 hl6 hr6'
  have hl0 := lnR_len r.l
  obtain ⟨r', hr', hp⟩ := lpair_ev r hrl
  rcases hH with ⟨rfl, rfl⟩ | ⟨hne, n, k, t, u, hn, hk2, hH⟩
  · simp only [List.nil_append, List.length_nil, Nat.sub_zero, fldP] at hFf
    cases hpp : pairP r.l with
    | none =>
      rw [hpp] at hp hFf
      simp only [Option.isSome_none] at hp hFf
      subst hFf
      simp [k0, k2, k3, k4, hp, hXl, hXt9, hXc, hXf, hZl, hZd, List.take_append, List.drop_append, slP]
      exact ⟨r', rfl, rfl, rfl⟩
    | some pr =>
      obtain ⟨p, b⟩ := pr
      rw [hpp] at hp hFf
      simp only [Option.isSome_some] at hp hFf
      have hrb := hr' p b hpp
      have hbl := pairP_len hpp
      simp [k0, k2, k3, k4, hp, hXl, hXd9, List.drop_append, maxBytes]
      exact ⟨[p], by simp, by simp, r', by rw [hrb]; omega, by rw [hrb]; exact hFf, .inr ⟨by simp, 2, 1, p, p, rfl, rfl, .inl rfl⟩⟩
  · have hk17 : (k : Int) ≤ 16 ↔ k ≤ 16 := by omega
    have hlk : fs.length = k := hk2.symm
    have hkn : k * 2 = n := by omega
    have hm1 : (k + 1) * 32 ≤ 140737488355328 := by omega
    have hm2 : k + 1 ≤ 140737488355328 := by omega
    have hie : fs.isEmpty = false := by simpa using hne
    have htk : List.take n (encs fs) = encs fs := List.take_of_length_le (by simp; omega)
    have hst := fun {i : Nat} {H : Heap} => stay_ent hXf (fs := fs) (i := i) (n := n) (k := k) hn.symm hlk (H := H)
    by_cases hle : k ≤ 16
    · have hle' : (k : Int) ≤ 16 := by omega
      have hfu : 17 - fs.length = (16 - fs.length) + 1 := by omega
      rw [hfu, fldP] at hFf
      cases hpp : pairP r.l with
      | none =>
        rw [hpp] at hp hFf
        simp only [Option.isSome_none, List.append_nil] at hp hFf
        subst hFf
        rcases hH with rfl | ⟨v, w, rfl⟩
        · simp [-stay, k0, k2, k3, k4, hle', hp, hst, hlk, hXl, hXt9, hXc, hXf, hZl, hZd, List.take_append, List.drop_append, slP, hie]
          exact ⟨r', rfl, rfl, rfl⟩
        · simp [-stay, k0, k2, k3, k4, hle', hp, hst, hlk, hXl, hXt9, hXc, hXf, hZl, hZc, hZd, List.take_append, List.drop_append, slP, hie]
          exact ⟨r', rfl, rfl, rfl⟩
      | some pr =>
        obtain ⟨p, b⟩ := pr
        rw [hpp] at hp hFf
        simp only [Option.isSome_some] at hp hFf
        have hrb := hr' p b hpp
        have hbl := pairP_len hpp
        rcases hH with rfl | ⟨v, w, rfl⟩
        · simp [k0, k2, k3, k4, hle', hp, hlk, hkn, hm1, hm2, hXl, hXd9, List.drop_append, maxBytes]
          refine ⟨fs ++ [p], by simp; omega, by simp [hlk]; omega, r', by rw [hrb]; omega, ?_, .inr ⟨by simp, n + 2, k + 1, t, u, by simp; omega, by simp; omega, .inr ⟨p, p, by rw [encs_snoc]; rfl⟩⟩⟩
          rw [← hFf, hrb, List.append_assoc]
          have e1 : 17 - (fs ++ [p]).length = 16 - fs.length := by simp
          rw [e1]
          rfl
        · simp [k0, k2, k3, k4, hle', hp, hlk, hkn, hm1, hm2, hXl, hXd9, hXc, hZc, List.drop_append, maxBytes]
          refine ⟨fs ++ [p], by simp; omega, by simp [hlk]; omega, r', by rw [hrb]; omega, ?_, .inr ⟨by simp, n + 2, k + 1, t, u, by simp; omega, by simp; omega, .inr ⟨p, p, by rw [encs_snoc]; rfl⟩⟩⟩
          rw [← hFf, hrb, List.append_assoc]
          have e1 : 17 - (fs ++ [p]).length = 16 - fs.length := by simp
          rw [e1]
          rfl
    · have hle' : ¬ (k : Int) ≤ 16 := by omega
      have hfu : 17 - fs.length = 0 := by omega
      rw [hfu, fldP, List.append_nil] at hFf
      subst hFf
      rcases hH with rfl | ⟨v, w, rfl⟩
      · simp [-stay, k0, k2, k3, k4, hle', hst, hlk, hXl, hXt9, hXc, hXf, hZl, hZd, List.take_append, List.drop_append, slP, hie]
        exact ⟨r, rfl, rfl, rfl⟩
      · simp [-stay, k0, k2, k3, k4, hle', hst, hlk, hXl, hXt9, hXc, hXf, hZl, hZc, hZd, List.take_append, List.drop_append, slP, hie]
        exact ⟨r, rfl, rfl, rfl⟩
end Go.Ev.S
namespace Go.Ev.S
open Go Go.Proofs Go.Ev
theorem bequal_ev [MaxL] (a b : Sl UInt8) (_ : a.l.length < 1000000) (_ : b.l.length < 1000000) : call cx 86 [(.vsl a.nil (ofBytes a.l) a.l.length), (.vsl b.nil (ofBytes b.l) b.l.length)] [] = some (.bool (a.l == b.l), []) := by
  have t1 : List.take a.l.length (ofBytes a.l) = ofBytes a.l := List.take_of_length_le (by simp)
  have t2 : List.take b.l.length (ofBytes b.l) = ofBytes b.l := List.take_of_length_le (by simp)
  refine call_run Tryz.func86 rfl ⟨rfl, rfl⟩ ?_
  simp [Tryz.f86]
theorem bpfx_ev [MaxL] (s : Sl UInt8) (p : List UInt8) (hs : s.l.length < 1000000) (hp : p.length < 1000000) (h1 : 1 ≤ p.length) : call cx 49 [(.vsl s.nil (ofBytes s.l) s.l.length), .vsl false (ofBytes p) p.length] [] = some (.bool (pre p s.l), []) := by
  unfold pre
  refine call_run Tryz.func49 rfl ⟨rfl, rfl⟩ ?_
  by_cases hle : p.length ≤ s.l.length
  · have hle' : (p.length : Int) ≤ (s.l.length : Int) := by omega
    have hnn : s.nil = false := Sl.nn (i := 0) (by omega)
    have he := bequal_ev (.of (s.l.take p.length)) (.of p) (by simp; omega) hp
    simp only [Sl.of_l, Sl.of_nil] at he
    have t1 : List.take p.length (ofBytes s.l) = ofBytes (s.l.take p.length) := ofBytes_take _ _
    have l1 : (s.l.take p.length).length = p.length := by simp; omega
    rw [l1] at he
    simp [Tryz.f49, hle', hnn, t1, he]
  · have hle' : ¬ (p.length : Int) ≤ (s.l.length : Int) := by omega
    have hne : (s.l.take p.length == p) = false := by
      refine beq_eq_false_iff_ne.2 fun e => ?_
      have := congrArg List.length e
      simp at this
      omega
    rw [hne]
    simp [Tryz.f49, hle']
def It.zero : It := ⟨ID.zero, false, 0, 0, Rec.zero⟩
theorem pu_lt {s : List UInt8} : (pu 10 s).getD 0 < 18446744073709551616 := by
  cases h : pu 10 s with
  | none => decide
  | some v =>
    unfold pu at h
    split at h
    · cases h
    · exact puGo_lt 10 _ _ _ (by decide) h
theorem nmI_lt (p b : List UInt8) : isU64 (nmI p b : Nat) := by
  have : nmI p b < 18446744073709551616 := pu_lt
  unfold isU64
  omega
theorem u64_zero : isU64 0 := by unfold isU64; decide
theorem Rec.zero_ok : Rec.zero.Ok := ⟨u64_zero, u64_zero, u64_zero⟩
theorem gapP_ok (b : List UInt8) : (gapP b).Ok := by
  have h1 := pu_lt (s := (cutL [45] (trimL kGap (lnL b))).1)
  have h2 := pu_lt (s := (cutL [45] (trimL kGap (lnL b))).2.1)
  refine ⟨?_, ?_, Rec.zero_ok⟩ <;> (unfold gapP isU64; simp only; omega)
theorem entP_ok (b : List UInt8) : (entP b).Ok := ⟨u64_zero, u64_zero, nmI_lt _ _, nmI_lt _ _, nmI_lt _ _⟩
theorem pairP_b {b : List UInt8} {p : Pr} {r : List UInt8} (h : pairP b = some (p, r)) : p.name.length ≤ b.length ∧ p.value.length ≤ b.length := by
  unfold pairP at h
  split at h
  · cases h
  · split at h
    · injection h with h
      injection h with h _
      rw [← h]
      exact ⟨by simp; omega, Nat.le_trans (lnL_len _) (by simp)⟩
    · split at h
      · cases h
      · split at h
        · cases h
        · injection h with h
          injection h with h _
          rw [← h]
          constructor
          · simp; omega
          · simp; omega
theorem fldP_b : ∀ (n : Nat) (b : List UInt8), (∀ p ∈ fldP n b, p.name.length ≤ b.length ∧ p.value.length ≤ b.length) ∧ (fldP n b).length ≤ n
  | 0, b => ⟨fun p h => by simp [fldP] at h, by simp [fldP]⟩
  | n + 1, b => by
    rw [fldP]
    cases h : pairP b with
    | none => exact ⟨fun p h => by simp at h, by simp⟩
    | some q =>
      obtain ⟨p, r⟩ := q
      simp only
      obtain ⟨h1, h2⟩ := fldP_b n r
      have hr := pairP_len h
      refine ⟨fun x hx => ?_, by simpa using h2⟩
      rcases List.mem_cons.1 hx with rfl | hx
      · exact pairP_b h
      · have := h1 x hx
        omega
def itemP (b : List UInt8) : It := if pre kGap b then gapP b else entP b
theorem itemP_ok (b : List UInt8) : (itemP b).Ok := by
  unfold itemP
  split
  · exact gapP_ok b
  · exact entP_ok b
theorem itemP_b (b : List UInt8) (hb : b.length < 1000000) : (∀ p ∈ (itemP b).rc.fields.l, PrB p) ∧ (itemP b).rc.fields.l.length < 1000000 := by
  unfold itemP
  split
  · exact ⟨fun p hp => (by cases hp), (by show (0 : Nat) < 1000000; decide)⟩
  · obtain ⟨h1, h2⟩ := fldP_b 17 (lnR (lnR (lnR (lnR (lnR (lnR b))))))
    have l1 := lnR_len b
    have l2 := lnR_len (lnR b)
    have l3 := lnR_len (lnR (lnR b))
    have l4 := lnR_len (lnR (lnR (lnR b)))
    have l5 := lnR_len (lnR (lnR (lnR (lnR b))))
    have l6 := lnR_len (lnR (lnR (lnR (lnR (lnR b)))))
    refine ⟨fun p hp => ?_, ?_⟩
    · obtain ⟨q1, q2⟩ := h1 p hp
      exact ⟨by omega, by omega⟩
    · show (fldP 17 _).length < _
      omega
def readOk (b : List UInt8) : Bool := itOk (itemP b) && pre (textL (itemP b)) b
def readD (b : List UInt8) : D := if readOk b then .tup [.agg (Enc.cells (itemP b)), .int .i64 (textL (itemP b)).length, .int .i64 0] else .tup [.agg (Enc.cells It.zero), .int .i64 0, .int .i64 20]
set_option maxHeartbeats 4000000 in
set_option maxRecDepth 8000 in
theorem read_ev [MaxL] (s : Sl UInt8) (hs : s.l.length < 1000000) (hlong : itOk (itemP s.l) = true → (textL (itemP s.l)).length < 1000000 ∧ 1 ≤ (textL (itemP s.l)).length) : call cx 16 [(.vsl s.nil (ofBytes s.l) s.l.length)] [] = some (readD s.l, []) := by
  have hok := itemP_ok s.l
  obtain ⟨hb, hn⟩ := itemP_b s.l hs
  have ht := text_ev (itemP s.l) hok hb hn
  have hpg := bpfx_ev s kGap hs (by decide) (by decide)
  obtain ⟨rg, hgap⟩ := gap_ev s hs
  obtain ⟨qe, hent, re, rfl⟩ := entry_ev s hs
  have hI : itemP s.l = if pre kGap s.l then gapP s.l else entP s.l := rfl
  unfold readD readOk
  unfold textD at ht
  generalize itemP s.l = it at *
  replace hpg : call cx 49 [(.vsl s.nil (ofBytes s.l) s.l.length), .vsl false [.int .u8 95, .int .u8 95, .int .u8 71, .int .u8 65, .int .u8 80, .int .u8 61] 6] [] = some (.bool (pre kGap s.l), []) := hpg
  refine call_run Tryz.func16 rfl ⟨rfl, rfl⟩ ?_
  cases hp : pre kGap s.l with
  | true =>
    rw [hp] at hI hpg
    simp only [if_true] at hI
    rw [← hI] at hgap
    cases ho : itOk it with
    | true =>
      obtain ⟨q1, q2⟩ := hlong ho
      rw [ho] at ht
      simp only [if_true] at ht
      have hps := bpfx_ev s (textL it) hs q1 q2
      have hne : ¬ (textL it).length = 0 := by omega
      generalize textL it = t at *
      cases hpt : pre t s.l with
      | true =>
        rw [hpt] at hps
        simp [Tryz.f16, hpg, hgap, ht, hps, hne]
      | false =>
        rw [hpt] at hps
        simp [Tryz.f16, hpg, hgap, ht, hps, hne]
        rfl
    | false =>
      rw [ho] at ht
      simp [Tryz.f16, hpg, hgap, ht]
      rfl
  | false =>
    rw [hp] at hI hpg
    simp only [Bool.false_eq_true, if_false] at hI
    rw [← hI] at hent
    cases ho : itOk it with
    | true =>
      obtain ⟨q1, q2⟩ := hlong ho
      rw [ho] at ht
      simp only [if_true] at ht
      have hps := bpfx_ev s (textL it) hs q1 q2
      have hne : ¬ (textL it).length = 0 := by omega
      generalize textL it = t at *
      cases hpt : pre t s.l with
      | true =>
        rw [hpt] at hps
        simp [Tryz.f16, hpg, hent, ht, hps, hne]
      | false =>
        rw [hpt] at hps
        simp [Tryz.f16, hpg, hent, ht, hps, hne]
        rfl
    | false =>
      rw [ho] at ht
      simp [Tryz.f16, hpg, hent, ht]
      rfl
end Go.Ev.S
namespace Go.Ev.S
open Go Go.Proofs Go.Ev
end Go.Ev.S
namespace Go.Ev.S
open Go Go.Proofs Go.Ev
end Go.Ev.S
namespace Go.Ev.S
open Go Go.Proofs Go.Ev
end Go.Ev.S
namespace Go.Ev.S
open Go Go.Proofs Go.Ev
end Go.Ev.S
namespace Go.Ev.S
open Go Go.Proofs Go.Ev
end Go.Ev.S
namespace Go.Ev.S
open Go Go.Proofs Go.Ev
theorem It.zero_ok : It.zero.Ok := ⟨u64_zero, u64_zero, Rec.zero_ok⟩
structure ReadQ (b : List UInt8) (q : It × Nat × Bool) : Prop where
  ok : q.1.Ok
  bs : ∀ p ∈ q.1.rc.fields.l, p.name.length ≤ b.length ∧ p.value.length ≤ b.length
  n : q.1.rc.fields.l.length ≤ 17
  le : q.2.1 ≤ b.length
end Go.Ev.S
namespace Go.Ev.S
open Go Go.Proofs Go.Ev
theorem dval_dig {k : Nat} (h : k < 10) : dval (UInt8.ofNat (48 + k)) = some k := by
  have e : (UInt8.ofNat (48 + k)).toNat = 48 + k := UInt8.toNat_ofNat_of_lt' (show 48 + k < 256 by omega)
  unfold dval
  rw [if_pos (by rw [e]; omega), e]
  congr 1
  omega
theorem puGo_append (b : Nat) : ∀ (l r : List UInt8) (n : Nat), puGo b (l ++ r) n = match puGo b l n with
    | none => none
    | some m => puGo b r m
  | [], r, n => by simp [puGo]
  | c :: l, r, n => by
    simp only [List.cons_append, puGo]
    cases dval c with
    | none => rfl
    | some d =>
      simp only
      split
      · rfl
      · split
        · rfl
        · exact puGo_append b l r _
theorem puGo_decF : ∀ (f v : Nat), v < 10 ^ f → 1 ≤ f → v < 18446744073709551616 → puGo 10 (decF f v) 0 = some v
  | f + 1, v, h, _, h64 => by
    rw [decF]
    by_cases hv : v < 10
    · rw [if_pos hv]
      simp only [puGo, dval_dig hv]
      rw [if_neg (by omega), if_neg (by omega)]
      congr 1
      omega
    · rw [if_neg hv, puGo_append]
      have hf : 1 ≤ f := by
        rcases f with _ | f
        · simp at h; omega
        · omega
      rw [puGo_decF f (v / 10) (by rw [Nat.pow_succ] at h; omega) hf (by omega)]
      simp only [puGo, dval_dig (Nat.mod_lt v (by decide : 10 > 0))]
      rw [if_neg (by omega), if_neg (by omega)]
      congr 1
      omega
theorem decF_head : ∀ (f v : Nat), v < 10 ^ f → (decF f v).head? = some 48 → v = 0 ∧ (decF f v).length ≤ 1
  | 0, v, _, h => by simp [decF] at h
  | f + 1, v, hv, h => by
    rw [decF] at h ⊢
    by_cases h10 : v < 10
    · rw [if_pos h10] at h ⊢
      simp only [List.head?_cons, Option.some.injEq] at h
      have := congrArg UInt8.toNat h
      rw [UInt8.toNat_ofNat_of_lt' (show 48 + v < 256 by omega)] at this
      simp at this
      exact ⟨by omega, by simp⟩
    · rw [if_neg h10] at h
      exfalso
      rcases f with _ | f
      · simp at hv; omega
      · have hp : v / 10 < 10 ^ (f + 1) := by rw [Nat.pow_succ] at hv; omega
        have hne : decF (f + 1) (v / 10) ≠ [] := by
          rw [decF]
          split <;> simp
        have h' : (decF (f + 1) (v / 10)).head? = some 48 := by
          obtain ⟨a, l, hal⟩ := List.exists_cons_of_ne_nil hne
          rw [hal] at h ⊢
          exact h
        have := (decF_head (f + 1) (v / 10) hp h').1
        omega
theorem num_dec {v : Nat} (h : v < 18446744073709551616) : numP (dec v) = some v := by
  have h1 := dec_pos v
  have h2 := dec_len v
  have h3 := decF_head 20 v (Nat.lt_trans h (by decide))
  unfold numP
  rw [if_neg]
  · exact puGo_decF 20 v (Nat.lt_trans h (by decide)) (by decide) h
  · rintro (e | e | ⟨e1, e2⟩)
    · rw [e] at h1; simp at h1
    · omega
    · have := (h3 e1).2
      unfold dec at e2
      omega
end Go.Ev.S
namespace Go.Ev.S
open Go Go.Proofs Go.Ev
theorem decF_dig : ∀ (f v : Nat), ∀ x ∈ decF f v, 48 ≤ x.toNat ∧ x.toNat ≤ 57
  | 0, _, x, h => by simp [decF] at h
  | f + 1, v, x, h => by
    rw [decF] at h
    split at h
    · rename_i hv
      rw [List.mem_singleton.1 h, UInt8.toNat_ofNat_of_lt' (show 48 + v < 256 by omega)]
      omega
    · rcases List.mem_append.1 h with h | h
      · exact decF_dig f _ x h
      · rw [List.mem_singleton.1 h, UInt8.toNat_ofNat_of_lt' (show 48 + v % 10 < 256 by omega)]
        omega
theorem dec_dig (v : Nat) : ∀ x ∈ dec v, 48 ≤ x.toNat ∧ x.toNat ≤ 57 := decF_dig 20 v
theorem hexc_ge : ∀ k, k < 16 → 48 ≤ (hexc k).toNat := by decide
theorem hexs_ge : ∀ (l : List UInt8), ∀ x ∈ hexs l, 48 ≤ x.toNat
  | [], x, h => by simp [hexs] at h
  | b :: l, x, h => by
    rw [hexs] at h
    have hb := b.toNat_lt
    rcases List.mem_cons.1 h with rfl | h
    · exact hexc_ge _ (by omega)
    · rcases List.mem_cons.1 h with rfl | h
      · exact hexc_ge _ (by omega)
      · exact hexs_ge l x h
theorem hexF_ge : ∀ (f v : Nat), ∀ x ∈ hexF f v, 48 ≤ x.toNat
  | 0, _, x, h => by simp [hexF] at h
  | f + 1, v, x, h => by
    rw [hexF] at h
    split at h
    · rename_i hv
      rw [List.mem_singleton.1 h]
      exact hexc_ge _ hv
    · rcases List.mem_append.1 h with h | h
      · exact hexF_ge f _ x h
      · rw [List.mem_singleton.1 h]
        exact hexc_ge _ (Nat.mod_lt _ (by decide))
theorem showL_ge (c : Cur) : ∀ x ∈ showL c, 48 ≤ x.toNat := by
  intro x h
  unfold showL at h
  simp only [List.mem_append] at h
  have k : ∀ l : List UInt8, (∀ y ∈ l, 48 ≤ y.toNat) → x ∈ l → 48 ≤ x.toNat := fun l hl hx => hl x hx
  rcases h with h | h | h | h | h | h | h | h | h | h | h | h
  · exact k kS (by decide) h
  · exact hexs_ge _ x h
  · exact k kI (by decide) h
  · exact hexF_ge 16 _ x h
  · exact k kB (by decide) h
  · exact hexs_ge _ x h
  · exact k kM (by decide) h
  · exact hexF_ge 16 _ x h
  · exact k kT (by decide) h
  · exact hexF_ge 16 _ x h
  · exact k kX (by decide) h
  · exact hexF_ge 16 _ x h
theorem ne_of_ge {x c : UInt8} (h : c.toNat < x.toNat) : x ≠ c := by rintro rfl; omega
theorem no10 {l : List UInt8} (h : ∀ x ∈ l, 48 ≤ x.toNat) : ∀ x ∈ l, x ≠ 10 := fun x hx => ne_of_ge (by have := h x hx; show 10 < x.toNat; omega)
theorem no10_app {a b : List UInt8} (ha : ∀ x ∈ a, x ≠ 10) (hb : ∀ x ∈ b, x ≠ 10) : ∀ x ∈ a ++ b, x ≠ 10 := fun x hx => (List.mem_append.1 hx).elim (ha x) (hb x)
theorem cut_app (c : UInt8) {A : List UInt8} (h : ∀ x ∈ A, x ≠ c) (B : List UInt8) : cutL [c] (A ++ c :: B) = (A, B, true) := by
  have h1 := idx_at c A B 0 h
  rw [Nat.zero_add] at h1
  unfold cutL
  rw [h1, if_neg (by omega)]
  have e : ((A.length : Nat) : Int).toNat = A.length := by omega
  rw [e]
  simp [List.drop_append]
theorem lnL_app {A : List UInt8} (h : ∀ x ∈ A, x ≠ 10) (B : List UInt8) : lnL (A ++ 10 :: B) = A := by unfold lnL; rw [cut_app 10 h]
theorem lnR_app {A : List UInt8} (h : ∀ x ∈ A, x ≠ 10) (B : List UInt8) : lnR (A ++ 10 :: B) = B := by unfold lnR; rw [cut_app 10 h]
theorem pre_self (p x : List UInt8) : pre p (p ++ x) = true := by unfold pre; simp
theorem trim_self (p x : List UInt8) : trimL p (p ++ x) = x := by unfold trimL; rw [if_pos (pre_self p x)]; simp
theorem pu_dec {v : Nat} (h : v < 18446744073709551616) : pu 10 (dec v) = some v := by
  have hn := num_dec h
  have hp := dec_pos v
  unfold numP at hn
  split at hn
  · cases hn
  · unfold pu
    rw [if_neg (by intro e; rw [e] at hp; simp at hp)]
    exact hn
theorem drop_line (A B : List UInt8) : (A ++ 10 :: B).drop (A.length + 1) = B := by
  rw [List.drop_append]
  simp
theorem nameOk_no {n : List UInt8} (h : nameOk n = true) : n ≠ [] ∧ n.length ≤ 64 ∧ ∀ x ∈ n, 48 ≤ x.toNat ∧ x ≠ 61 := by
  unfold nameOk at h
  split at h
  · cases h
  · rename_i c l
    simp only [Bool.and_eq_true, decide_eq_true_eq, List.all_eq_true] at h
    refine ⟨by simp, h.1.1, fun x hx => ?_⟩
    have := h.2 x hx
    unfold nameC at this
    simp only [Bool.or_eq_true, Bool.and_eq_true, decide_eq_true_eq] at this
    refine ⟨by omega, ?_⟩
    rintro rfl
    have e : (61 : UInt8).toNat = 61 := rfl
    rw [e] at this
    omega
theorem plainV_no {v : List UInt8} (h : plainV v = true) : ∀ x ∈ v, x ≠ 10 := by
  intro x hx
  unfold plainV at h
  have := List.all_eq_true.1 h x hx
  unfold plainC at this
  rintro rfl
  revert this
  decide
theorem prOk_is {p : Pr} (h : prOk p = true) : nameOk p.name = true ∧ p.value.length ≤ 256 := by
  unfold prOk at h
  simp only [Bool.and_eq_true, decide_eq_true_eq] at h
  exact h
theorem anyI_at : ∀ (A B : List UInt8) (c : UInt8) (n : Nat), (∀ x ∈ A, x ≠ 61 ∧ x ≠ 10) → c = 61 ∨ c = 10 → anyI (A ++ c :: B) n = ((n + A.length : Nat) : Int)
  | [], B, c, n, _, hc => by simp [anyI, hc]
  | x :: A, B, c, n, h, hc => by
    have hx := h x (by simp)
    rw [List.cons_append, anyI, if_neg (by rintro (e | e); exact hx.1 e; exact hx.2 e), anyI_at A B c (n + 1) (fun y hy => h y (by simp [hy])) hc]
    simp
    omega
theorem leB_get (v : Nat) (hv : v < 18446744073709551616) (R : List UInt8) : leGet (leB 8 v ++ R) 0 8 = some v := by
  have hl := leB_len 8 v
  unfold leGet
  rw [if_pos ⟨by decide, by decide, by simp [hl]; omega⟩]
  have e : ((leB 8 v ++ R).drop (0 : Int).toNat).take (8 : Int).toNat = leB 8 v := by
    show ((leB 8 v ++ R).drop 0).take 8 = _
    rw [List.drop_zero, List.take_left' hl]
  rw [e, leN_leB, Nat.mod_eq_of_lt (by simpa using hv)]
theorem pairP_text {p : Pr} (h : prOk p = true) (R : List UInt8) : pairP (pairL p ++ R) = some (p, R) := by
  obtain ⟨hn, hv⟩ := prOk_is h
  obtain ⟨n0, n1, n2⟩ := nameOk_no hn
  have hne : ∀ x ∈ p.name, x ≠ 61 ∧ x ≠ 10 := fun x hx => ⟨(n2 x hx).2, ne_of_ge (by have := (n2 x hx).1; show 10 < x.toNat; omega)⟩
  have hpos : 1 ≤ p.name.length := by
    cases hc : p.name with
    | nil => exact absurd hc n0
    | cons => simp
  have gen : ∀ (c : UInt8) (T : List UInt8), c = 61 ∨ c = 10 → pairP (p.name ++ c :: T) = if c = 61 then some (⟨p.name, lnL T⟩, lnR T) else match leGet T 0 8 with
      | none => none
      | some n => if 256 < n ∨ T.length < 9 + n then none else some (⟨p.name, (T.drop 8).take n⟩, T.drop (9 + n)) := by
    intro c T hc
    have ha := anyI_at p.name T c 0 hne hc
    rw [Nat.zero_add] at ha
    have e : ((p.name.length : Nat) : Int).toNat = p.name.length := by omega
    have d1 : (p.name ++ c :: T).drop (p.name.length + 1) = T := by rw [List.drop_append]; simp
    have d2 : (p.name ++ c :: T).getD p.name.length 0 = c := by simp [List.getD]
    have d3 : (p.name ++ c :: T).take p.name.length = p.name := by simp
    unfold pairP
    rw [ha, if_neg (by omega), e, d1, d2, d3]
    all_goals (cases leGet T 0 8 <;> rfl)
  unfold pairL
  cases hp : plainV p.value with
  | true =>
    have e : (if true = true then ((p.name ++ [61]) ++ p.value) ++ [10] else (((p.name ++ [10]) ++ leB 8 p.value.length) ++ p.value) ++ [10]) ++ R = p.name ++ 61 :: (p.value ++ 10 :: R) := by simp
    rw [e, gen 61 _ (.inl rfl), if_pos rfl, lnL_app (plainV_no hp), lnR_app (plainV_no hp)]
  | false =>
    have e : (if false = true then ((p.name ++ [61]) ++ p.value) ++ [10] else (((p.name ++ [10]) ++ leB 8 p.value.length) ++ p.value) ++ [10]) ++ R = p.name ++ 10 :: (leB 8 p.value.length ++ (p.value ++ 10 :: R)) := by simp
    rw [e, gen 10 _ (.inr rfl), if_neg (by decide), leB_get _ (by omega)]
    have hl := leB_len 8 p.value.length
    have hno : ¬ (256 < p.value.length ∨ (leB 8 p.value.length ++ (p.value ++ 10 :: R)).length < 9 + p.value.length) := by
      rintro (h | h)
      · omega
      · simp [hl] at h
        omega
    simp only [hno, if_false]
    have d1 : (leB 8 p.value.length ++ (p.value ++ 10 :: R)).drop 8 = p.value ++ 10 :: R := List.drop_left' hl
    have d2 : (leB 8 p.value.length ++ (p.value ++ 10 :: R)).drop (9 + p.value.length) = R := by
      rw [show 9 + p.value.length = 8 + (p.value.length + 1) by omega, ← List.drop_drop, d1, drop_line]
    rw [d1, d2]
    simp
theorem pairP_end (R : List UInt8) : pairP (10 :: R) = none := by
  unfold pairP
  rw [if_pos (by simp [anyI])]
theorem fldP_text : ∀ (F : List Pr) (n : Nat) (R : List UInt8), F.length ≤ n → (∀ p ∈ F, prOk p = true) → fldP n (bodyL F ++ 10 :: R) = F
  | [], 0, R, _, _ => rfl
  | [], n + 1, R, _, _ => by
    rw [fldP]
    show (match pairP (10 :: R) with | none => [] | some (p, r) => p :: fldP n r) = []
    rw [pairP_end]
  | p :: F, 0, R, h, _ => by simp at h
  | p :: F, n + 1, R, h, hp => by
    have e : bodyL (p :: F) ++ 10 :: R = pairL p ++ (bodyL F ++ 10 :: R) := by simp [bodyL]
    rw [e, fldP, pairP_text (hp p (by simp))]
    show p :: fldP n (bodyL F ++ 10 :: R) = _
    rw [fldP_text F n R (by simpa using h) fun q hq => hp q (by simp [hq])]
end Go.Ev.S
namespace Go.Ev.S
open Go Go.Proofs Go.Ev
def normI (it : It) : It := if it.gap then ⟨it.id, true, it.fr, it.til, Rec.zero⟩ else it
theorem headL_cons (a : List UInt8) (L : List (List UInt8)) (R : List UInt8) : headL (a :: L) ++ R = a ++ 10 :: (headL L ++ R) := by simp [headL]
theorem headL_nil (R : List UInt8) : headL [] ++ R = R := by simp [headL]
theorem textR_eq (it : It) (more : List UInt8) : textR it ++ more = (kPlace ++ showL (cOfP it.id it.rc)) ++ 10 :: ((kReal ++ dec it.rc.real.toNat) ++ 10 :: ((kMono ++ dec it.rc.mono.toNat) ++ 10 :: ((kSeq ++ dec it.rc.seq.toNat) ++ 10 :: ((kId ++ hexs it.id.l) ++ 10 :: ((kBoot ++ hexs it.rc.boot.l) ++ 10 :: (bodyL it.rc.fields.l ++ 10 :: more)))))) := by
  unfold textR sixL
  rw [List.append_assoc, List.append_assoc, headL_cons, headL_cons, headL_cons, headL_cons, headL_cons, headL_cons, headL_nil]
  rfl
theorem textG_eq (it : It) (more : List UInt8) : textG it ++ more = (kGap ++ (dec it.fr.toNat ++ 45 :: dec it.til.toNat)) ++ 10 :: ((kId ++ hexs it.id.l) ++ 10 :: ([] ++ 10 :: more)) := by
  unfold textG
  simp
theorem k10 : (∀ x ∈ kPlace, x ≠ 10) ∧ (∀ x ∈ kReal, x ≠ 10) ∧ (∀ x ∈ kMono, x ≠ 10) ∧ (∀ x ∈ kSeq, x ≠ 10) ∧ (∀ x ∈ kId, x ≠ 10) ∧ (∀ x ∈ kBoot, x ≠ 10) ∧ ∀ x ∈ kGap, x ≠ 10 := by decide
theorem dec10 (v : Nat) : ∀ x ∈ dec v, x ≠ 10 := no10 fun x h => (dec_dig v x h).1
theorem dec45 (v : Nat) : ∀ x ∈ dec v, x ≠ 45 := fun x h => ne_of_ge (by have := (dec_dig v x h).1; show 45 < x.toNat; omega)
theorem gap10 (it : It) : ∀ x ∈ kGap ++ (dec it.fr.toNat ++ 45 :: dec it.til.toNat), x ≠ 10 := by
  refine no10_app k10.2.2.2.2.2.2 (no10_app (dec10 _) fun x h => ?_)
  rcases List.mem_cons.1 h with rfl | h
  · decide
  · exact dec10 _ x h
theorem id10 (i : ID) : ∀ x ∈ kId ++ hexs i.l, x ≠ 10 := no10_app k10.2.2.2.2.1 (no10 (hexs_ge _))
theorem boot10 (i : ID) : ∀ x ∈ kBoot ++ hexs i.l, x ≠ 10 := no10_app k10.2.2.2.2.2.1 (no10 (hexs_ge _))
theorem place10 (c : Cur) : ∀ x ∈ kPlace ++ showL c, x ≠ 10 := no10_app k10.1 (no10 (showL_ge _))
theorem gap_is {it : It} (hi : it.Ok) (ho : itOk it = true) (hg : it.gap = true) : it.fr.toNat < 18446744073709551616 ∧ it.til.toNat < 18446744073709551616 ∧ ((it.fr.toNat : Nat) : Int) = it.fr ∧ ((it.til.toNat : Nat) : Int) = it.til ∧ it.rc.seq = 0 ∧ it.rc.real = 0 ∧ it.rc.mono = 0 ∧ it.rc.boot = ID.zero ∧ it.rc.fields.l = [] ∧ gapOk it = true := by
  have h1 := hi.fr
  have h2 := hi.til
  unfold isU64 at h1 h2
  unfold itOk at ho
  rw [hg, if_pos rfl] at ho
  have ho' := ho
  unfold gapOk at ho
  simp only [Bool.and_eq_true, decide_eq_true_eq] at ho
  obtain ⟨⟨⟨⟨⟨⟨a1, a2⟩, a3⟩, a4⟩, a5⟩, a6⟩, a7⟩ := ho
  exact ⟨by omega, by omega, by omega, by omega, a3, a4, a5, a6, List.eq_nil_of_length_eq_zero a7, ho'⟩
theorem rec_is {it : It} (hi : it.Ok) (ho : itOk it = true) (hg : it.gap = false) : (it.rc.real.toNat < 18446744073709551616 ∧ it.rc.mono.toNat < 18446744073709551616 ∧ it.rc.seq.toNat < 18446744073709551616) ∧ (((it.rc.real.toNat : Nat) : Int) = it.rc.real ∧ ((it.rc.mono.toNat : Nat) : Int) = it.rc.mono ∧ ((it.rc.seq.toNat : Nat) : Int) = it.rc.seq) ∧ it.fr = 0 ∧ it.til = 0 ∧ 1 ≤ it.rc.fields.l.length ∧ it.rc.fields.l.length ≤ 16 ∧ (∀ p ∈ it.rc.fields.l, prOk p = true) ∧ recOk it = true := by
  have h1 := hi.rc.seq
  have h2 := hi.rc.real
  have h3 := hi.rc.mono
  unfold isU64 at h1 h2 h3
  unfold itOk at ho
  rw [hg, if_neg (by decide)] at ho
  have ho' := ho
  unfold recOk at ho
  simp only [Bool.and_eq_true, decide_eq_true_eq, List.all_eq_true] at ho
  obtain ⟨⟨⟨⟨⟨a1, a2⟩, a3⟩, a4⟩, a5⟩, a6⟩ := ho
  exact ⟨⟨by omega, by omega, by omega⟩, ⟨by omega, by omega, by omega⟩, a1, a2, a4, a5, a6, ho'⟩
theorem slP_eq (s : Sl Pr) (h : 1 ≤ s.l.length) : slP s.l = s := by
  obtain ⟨n, l, hn⟩ := s
  cases l with
  | nil => simp at h
  | cons a l =>
    cases n with
    | true => exact absurd (hn rfl) (by simp)
    | false => rfl
theorem gapP_text {it : It} (hi : it.Ok) (ho : itOk it = true) (hg : it.gap = true) (more : List UInt8) : gapP (textG it ++ more) = normI it := by
  obtain ⟨f1, t1, f2, t2, -⟩ := gap_is hi ho hg
  unfold gapP normI
  rw [textG_eq, lnL_app (gap10 it), lnR_app (gap10 it), trim_self, cut_app 45 (dec45 _), hg, if_pos rfl]
  simp only [pu_dec f1, pu_dec t1, Option.getD_some, f2, t2]
  unfold idI
  rw [lnL_app (id10 it.id), trim_self, idOf_hexs]
theorem entP_text {it : It} (hi : it.Ok) (ho : itOk it = true) (hg : it.gap = false) (more : List UInt8) : entP (textR it ++ more) = it := by
  obtain ⟨⟨r1, m1, s1⟩, ⟨r2, m2, s2⟩, a1, a2, a3, a4, a5, -⟩ := rec_is hi ho hg
  have l0 := place10 (cOfP it.id it.rc)
  have l1 := no10_app k10.2.1 (dec10 it.rc.real.toNat)
  have l2 := no10_app k10.2.2.1 (dec10 it.rc.mono.toNat)
  have l3 := no10_app k10.2.2.2.1 (dec10 it.rc.seq.toNat)
  have l4 := id10 it.id
  have l5 := boot10 it.rc.boot
  unfold entP
  rw [textR_eq, lnR_app l0, lnR_app l1, lnR_app l2, lnR_app l3, lnR_app l4, lnR_app l5, fldP_text _ 17 _ (by omega) a5]
  unfold nmI idI
  rw [lnL_app l1, lnL_app l2, lnL_app l3, lnL_app l4, lnL_app l5, trim_self, trim_self, trim_self, trim_self, trim_self, pu_dec r1, pu_dec m1, pu_dec s1, idOf_hexs, idOf_hexs, slP_eq _ a3]
  simp only [Option.getD_some, r2, m2, s2]
  obtain ⟨i, g, f, t, r⟩ := it
  simp only at hg a1 a2
  subst hg a1 a2
  rfl
theorem gap_pre (R : List UInt8) : pre kGap (kPlace ++ R) = false := rfl
theorem itemP_text {it : It} (hi : it.Ok) (ho : itOk it = true) (more : List UInt8) : itemP (textL it ++ more) = normI it := by
  unfold textL itemP
  cases hg : it.gap with
  | true =>
    rw [if_pos rfl, if_pos (by rw [textG_eq, List.append_assoc]; exact pre_self _ _), gapP_text hi ho hg]
  | false =>
    simp only [Bool.false_eq_true, if_false]
    rw [if_neg (by rw [textR_eq, List.append_assoc, gap_pre]; decide), entP_text hi ho hg]
    unfold normI
    rw [hg, if_neg (by decide)]
theorem normI_text (it : It) : textL (normI it) = textL it := by
  unfold normI
  cases hg : it.gap with
  | true =>
    rw [if_pos rfl]
    unfold textL
    rw [hg, if_pos rfl, if_pos rfl]
    rfl
  | false => rw [if_neg (by decide)]
theorem normI_okB {it : It} (hi : it.Ok) (ho : itOk it = true) : itOk (normI it) = true := by
  unfold normI
  cases hg : it.gap with
  | true =>
    obtain ⟨-, -, -, -, -, -, -, -, -, h⟩ := gap_is hi ho hg
    rw [if_pos rfl]
    unfold itOk
    rw [if_pos rfl]
    unfold gapOk at h ⊢
    simp only [Bool.and_eq_true, decide_eq_true_eq] at h ⊢
    exact ⟨⟨⟨⟨⟨⟨h.1.1.1.1.1.1, h.1.1.1.1.1.2⟩, rfl⟩, rfl⟩, rfl⟩, rfl⟩, rfl⟩
  | false => rw [if_neg (by decide)]; exact ho
theorem textL_len {it : It} (hi : it.Ok) (ho : itOk it = true) : (textL it).length ≤ 10000 ∧ 1 ≤ (textL it).length := by
  unfold textL
  cases hg : it.gap with
  | true =>
    rw [if_pos rfl]
    have l1 := dec_len it.fr.toNat
    have l2 := dec_len it.til.toNat
    have l3 := hexs_len it.id.l
    rw [it.id.h] at l3
    unfold textG kGap kId
    simp
    omega
  | false =>
    rw [if_neg (by decide)]
    obtain ⟨-, -, -, -, -, -, -, h⟩ := rec_is hi ho hg
    obtain ⟨b1, -, b3⟩ := prOk_b h
    have h1 := headL_le (sixL it) (sixL_le it hi)
    have h2 := bodyL_le it.rc.fields.l 400 b3
    have h3 : (sixL it).length = 6 := rfl
    rw [h3] at h1
    unfold textR
    simp only [List.length_append, List.length_cons, List.length_nil]
    have h4 : it.rc.fields.l.length * 400 ≤ 16 * 400 := Nat.mul_le_mul_right _ b1
    omega
end Go.Ev.S
namespace Go.Ev.S
open Go Go.Proofs Go.Ev
theorem sameb_ev [MaxL] (x y : Sl UInt8) : call cx 20 [(.vsl x.nil (ofBytes x.l) x.l.length), (.vsl y.nil (ofBytes y.l) y.l.length)] [] = some (.bool (x.l == y.l), []) := by
  refine call_run Tryz.func20 rfl ⟨rfl, rfl⟩ ?_
  simp [Tryz.f20]
end Go.Ev.S
namespace Go.Ev.S
open Go Go.Proofs Go.Ev
def sameR (r s : Rec) : Bool := r.seq == s.seq && (r.real == s.real && (r.mono == s.mono && (r.boot == s.boot && r.fields.l == s.fields.l)))
def sameI (x y : It) : Bool := x.id == y.id && (x.gap == y.gap && (x.fr == y.fr && (x.til == y.til && sameR x.rc y.rc)))
theorem eqPr (p q : Pr) : (p == q) = (decide (p.name = q.name) && decide (p.value = q.value)) := by
  obtain ⟨a, b⟩ := p
  obtain ⟨c, d⟩ := q
  rw [Bool.eq_iff_iff]
  simp
theorem beq_drop {a b : List Pr} {k : Nat} (ha : k < a.length) (hb : k < b.length) : (a.drop k == b.drop k) = (a[k] == b[k] && a.drop (k + 1) == b.drop (k + 1)) := by
  rw [List.drop_eq_getElem_cons ha, List.drop_eq_getElem_cons hb]
  rfl
set_option maxHeartbeats 1000000 in
theorem rpairs_ev [MaxL] (a b : Sl Pr) (ha : a.l.length < 1000000) (_ : b.l.length < 1000000) : call cx 93 [(.vsl a.nil (encs a.l) a.l.length), (.vsl b.nil (encs b.l) b.l.length)] [] = some (.bool (a.l == b.l), []) := by
  refine call_run Tryz.func93 rfl ⟨rfl, rfl⟩ ?_
  by_cases hne : a.l.length = b.l.length
  case neg =>
    have hne' : ¬ (a.l.length : Int) = (b.l.length : Int) := by omega
    have hf : (a.l == b.l) = false := beq_eq_false_iff_ne.2 fun e => hne (by rw [e])
    rw [hf]
    simp [Tryz.f93, hne']
  have hne' : (a.l.length : Int) = (b.l.length : Int) := by omega
  simp [Tryz.f93, hne]
  refine Run.loopThen (fun (k : Nat) e H' => k ≤ a.l.length ∧ (a.l == b.l) = (a.l.drop k == b.l.drop k) ∧ look e 0 = some (.vsl a.nil (encs a.l) a.l.length) ∧ look e 1 = some (.vsl b.nil (encs b.l) b.l.length) ∧ look e 5 = some (.int .i64 (k : Nat)) ∧ H' = []) (fun k => a.l.length - k) 0 ?_ ?_
  · simp [hne]
  rintro k e H' ⟨hk, hR, k0, k1, k5, rfl⟩
  rw [hR]
  by_cases hlt : k < a.l.length
  · have hlt' : (k : Int) < (a.l.length : Int) := by omega
    have hlb : k < b.l.length := by omega
    have hlb' : (k : Int) < (b.l.length : Int) := by omega
    have hw : IntKind.i64.wrap ((k : Int) + 1) = ((k + 1 : Nat) : Int) := by rw [wrap_i64] <;> omega
    have n1 : a.nil = false := Sl.nn hlt
    have n2 : b.nil = false := Sl.nn hlb
    have hE : (a.l[k] == b.l[k]) = (decide (a.l[k].name = b.l[k].name) && decide (a.l[k].value = b.l[k].value)) := eqPr a.l[k] b.l[k]
    rw [beq_drop hlt hlb, hE]
    by_cases h1 : a.l[k].name = b.l[k].name
    · by_cases h2 : a.l[k].value = b.l[k].value
      · simp [k0, k1, k5, hlt, hlb, hlt', hlb', n1, n2, Pr.cells, h1, h2, hw]
        exact ⟨k + 1, by omega, by omega, rfl, rfl⟩
      · simp [k0, k1, k5, hlt, hlb, hlt', hlb', n1, n2, Pr.cells, h1, h2]
    · simp [k0, k1, k5, hlt, hlb, hlt', hlb', n1, n2, Pr.cells, h1]
  · have hlt' : ¬ (k : Int) < (a.l.length : Int) := by omega
    rw [List.drop_eq_nil_of_le (by omega), List.drop_eq_nil_of_le (by omega)]
    have hlt2 : ¬ (k : Int) < (b.l.length : Int) := by omega
    simp [k0, k1, k5, hlt2, hne']
set_option maxHeartbeats 1000000 in
theorem rrec_ev [MaxL] (r s : Rec) (ha : r.fields.l.length < 1000000) (hb : s.fields.l.length < 1000000) : call cx 52 [.agg (Enc.cells r), .agg (Enc.cells s)] [] = some (.bool (sameR r s), []) := by
  have hp := rpairs_ev r.fields s.fields ha hb
  have t1 : List.take 16 (ofBytes r.boot.l ++ [(.vsl r.fields.nil (encs r.fields.l) r.fields.l.length)]) = ofBytes r.boot.l := by rw [List.take_append]; simp
  have t2 : List.take 16 (ofBytes s.boot.l ++ [(.vsl s.fields.nil (encs s.fields.l) s.fields.l.length)]) = ofBytes s.boot.l := by rw [List.take_append]; simp
  have d1 : List.drop 16 (ofBytes r.boot.l ++ [(.vsl r.fields.nil (encs r.fields.l) r.fields.l.length)]) = [(.vsl r.fields.nil (encs r.fields.l) r.fields.l.length)] := by rw [List.drop_append]; simp
  have d2 : List.drop 16 (ofBytes s.boot.l ++ [(.vsl s.fields.nil (encs s.fields.l) s.fields.l.length)]) = [(.vsl s.fields.nil (encs s.fields.l) s.fields.l.length)] := by rw [List.drop_append]; simp
  have b1 : (ofBytes r.boot.l).length = 16 := by simp
  have b2 : (ofBytes s.boot.l).length = 16 := by simp
  unfold sameR
  refine call_run Tryz.func52 rfl ⟨rfl, rfl⟩ ?_
  rw [Rec.cells, Rec.cells]
  cases h1 : (r.seq == s.seq) <;> cases h2 : (r.real == s.real) <;> cases h3 : (r.mono == s.mono) <;> cases h4 : (r.boot == s.boot) <;> simp [Tryz.f52, hp, t1, t2, d1, d2, b1, b2, h1, h2, h3, h4]
set_option maxHeartbeats 1000000 in
theorem ritem_ev [MaxL] (x y : It) (ha : x.rc.fields.l.length < 1000000) (hb : y.rc.fields.l.length < 1000000) : call cx 19 [.agg (Enc.cells x), .agg (Enc.cells y)] [] = some (.bool (sameI x y), []) := by
  have hp := rrec_ev x.rc y.rc ha hb
  have u1 : List.take 17 (ofBytes x.rc.boot.l ++ [(.vsl x.rc.fields.nil (encs x.rc.fields.l) x.rc.fields.l.length)]) = ofBytes x.rc.boot.l ++ [(.vsl x.rc.fields.nil (encs x.rc.fields.l) x.rc.fields.l.length)] := List.take_of_length_le (by simp)
  have u2 : List.take 17 (ofBytes y.rc.boot.l ++ [(.vsl y.rc.fields.nil (encs y.rc.fields.l) y.rc.fields.l.length)]) = ofBytes y.rc.boot.l ++ [(.vsl y.rc.fields.nil (encs y.rc.fields.l) y.rc.fields.l.length)] := List.take_of_length_le (by simp)
  rw [Rec.cells, Rec.cells] at hp
  simp only [List.cons_append, List.nil_append] at hp
  unfold sameI
  refine call_run Tryz.func19 rfl ⟨rfl, rfl⟩ ?_
  cases h1 : (x.id == y.id) <;> cases h2 : (x.gap == y.gap) <;> cases h3 : (x.fr == y.fr) <;> cases h4 : (x.til == y.til) <;> simp [Tryz.f19, u1, u2, hp, h1, h2, h3, h4]
end Go.Ev.S
namespace Go.Ev.S
open Go Go.Proofs Go.Ev
def lightP (it : It) : Bool := decide (it.rc.fields.l.length ≤ 20) && it.rc.fields.l.all fun p => decide (p.name.length ≤ 90) && decide (p.value.length ≤ 300)
set_option maxHeartbeats 1000000 in
theorem light_ev [MaxL] (it : It) : call cx 12 [.agg (Enc.cells it)] [] = some (.bool (lightP it), []) := by
  unfold lightP
  generalize hL : it.rc.fields = L at *
  refine call_run Tryz.func12 rfl ⟨rfl, rfl⟩ ?_
  have t17 : List.take 17 (ofBytes it.rc.boot.l ++ [(.vsl L.nil (encs L.l) L.l.length)]) = ofBytes it.rc.boot.l ++ [(.vsl L.nil (encs L.l) L.l.length)] := List.take_of_length_le (by simp)
  by_cases h20 : L.l.length ≤ 20
  case neg =>
    have h20' : (20 : Int) < (L.l.length : Int) := by omega
    simp [Tryz.f12, hL, h20, h20']
  have h20' : ¬ (20 : Int) < (L.l.length : Int) := by omega
  simp [Tryz.f12, hL, h20, h20']
  refine Run.loopThen (fun (k : Nat) e H' => k ≤ L.l.length ∧ (L.l.all fun p => decide (p.name.length ≤ 90) && decide (p.value.length ≤ 300)) = ((L.l.drop k).all fun p => decide (p.name.length ≤ 90) && decide (p.value.length ≤ 300)) ∧ look e 3 = some (.vsl L.nil (encs L.l) L.l.length) ∧ look e 4 = some (.int .i64 (k : Nat)) ∧ H' = [some (Enc.cells it)]) (fun k => L.l.length - k) 0 ?_ ?_
  · simp
  rintro k e H' ⟨hk, hR, k3, k4, rfl⟩
  rw [hR]
  by_cases hlt : k < L.l.length
  · have hlt' : (k : Int) < (L.l.length : Int) := by omega
    have hw : IntKind.i64.wrap ((k : Int) + 1) = ((k + 1 : Nat) : Int) := by rw [wrap_i64] <;> omega
    have n1 : L.nil = false := Sl.nn hlt
    rw [List.drop_eq_getElem_cons hlt, List.all_cons]
    by_cases h1 : L.l[k].name.length ≤ 90
    · have h1' : ¬ (90 : Int) < (L.l[k].name.length : Int) := by omega
      by_cases h2 : L.l[k].value.length ≤ 300
      · have h2' : ¬ (300 : Int) < (L.l[k].value.length : Int) := by omega
        simp [k3, k4, hlt, hlt', n1, Pr.cells, h1, h2, h1', h2', hw]
        refine ⟨k + 1, by omega, by omega, ?_, rfl⟩
        rfl
      · have h2' : (300 : Int) < (L.l[k].value.length : Int) := by omega
        simp [k3, k4, hlt, hlt', n1, Pr.cells, h1, h2, h1', h2']
    · have h1' : (90 : Int) < (L.l[k].name.length : Int) := by omega
      simp [k3, k4, hlt, hlt', n1, Pr.cells, h1, h1']
  · have hlt' : ¬ (k : Int) < (L.l.length : Int) := by omega
    rw [List.drop_eq_nil_of_le (by omega)]
    simp [k3, k4, hlt']
theorem readD_text {it : It} (hi : it.Ok) (ho : itOk it = true) (more : List UInt8) : readD (textL it ++ more) = .tup [.agg (Enc.cells (normI it)), .int .i64 (textL it).length, .int .i64 0] := by
  unfold readD readOk
  rw [itemP_text hi ho, normI_okB hi ho, normI_text, pre_self, Bool.and_self, if_pos rfl]
def firstI : It := ⟨ID.zero, true, 1, 2, Rec.zero⟩
theorem firstI_ok : firstI.Ok := ⟨by unfold isU64 firstI; decide, by unfold isU64 firstI; decide, Rec.zero_ok⟩
theorem first_text : textL firstI = [95, 95, 71, 65, 80, 61, 49, 45, 50, 10, 95, 95, 83, 69, 81, 78, 85, 77, 95, 73, 68, 61, 48, 48, 48, 48, 48, 48, 48, 48, 48, 48, 48, 48, 48, 48, 48, 48, 48, 48, 48, 48, 48, 48, 48, 48, 48, 48, 48, 48, 48, 48, 48, 48, 10, 10] := by decide
theorem first_ok : itOk firstI = true := by decide
set_option maxHeartbeats 1000000 in
set_option maxRecDepth 8000 in
theorem first_ev [MaxL] : call cx 11 [] [] = some (.bool true, []) := by
  have hr := read_ev (.of (textL firstI ++ [109, 111, 114, 101])) (by rw [Sl.of_l, first_text]; decide) fun h => by
    have := textL_len (itemP_ok (textL firstI ++ [109, 111, 114, 101])) h
    simp only [Sl.of_l]
    omega
  rw [Sl.of_l, readD_text firstI_ok first_ok] at hr
  have ht := text_ev firstI firstI_ok (fun p hp => (by cases hp)) (by decide)
  unfold textD at ht
  rw [first_ok, if_pos rfl] at ht
  rw [first_text] at ht hr
  have hc : Enc.cells firstI = ofBytes ID.zero.l ++ [.bool true, .int .u64 1, .int .u64 2, .int .u64 0, .int .u64 0, .int .u64 0] ++ (ofBytes ID.zero.l ++ [.vsl true [] 0]) := rfl
  have z16 : List.replicate 16 (D.int .u8 0) = ofBytes ID.zero.l := rfl
  refine call_run Tryz.func11 rfl ⟨rfl, rfl⟩ ?_
  have hN : normI firstI = firstI := rfl
  rw [hN, hc] at hr
  rw [hc] at ht
  have zz : ofBytes ID.zero.l = [.int .u8 0, .int .u8 0, .int .u8 0, .int .u8 0, .int .u8 0, .int .u8 0, .int .u8 0, .int .u8 0, .int .u8 0, .int .u8 0, .int .u8 0, .int .u8 0, .int .u8 0, .int .u8 0, .int .u8 0, .int .u8 0] := rfl
  rw [zz] at hr ht
  simp only [Sl.of_nil, List.cons_append, List.nil_append, List.length_cons, List.length_nil, Nat.zero_add, Nat.reduceAdd] at hr ht
  simp [Tryz.f11, hr, ht]
end Go.Ev.S
namespace Go.Ev.S
open Go Go.Proofs Go.Ev
theorem sameI_refl (x : It) : sameI x x = true := by unfold sameI sameR; simp
theorem light_b {x : It} (h : lightP x = true) : x.rc.fields.l.length ≤ 20 ∧ ∀ p ∈ x.rc.fields.l, PrB p := by
  unfold lightP at h
  simp only [Bool.and_eq_true, decide_eq_true_eq, List.all_eq_true] at h
  refine ⟨h.1, fun p hp => ?_⟩
  have := h.2 p hp
  exact ⟨by omega, by omega⟩
end Go.Ev.S
namespace Go.Ev.S
open Go Go.Proofs Go.Ev
theorem same_norm {it : It} (hi : it.Ok) (ho : itOk it = true) : sameI (normI it) it = true := by
  unfold normI
  cases hg : it.gap with
  | false => rw [if_neg (by decide)]; exact sameI_refl it
  | true =>
    obtain ⟨-, -, -, -, s1, s2, s3, s4, s5, -⟩ := gap_is hi ho hg
    rw [if_pos rfl]
    unfold sameI sameR
    simp [hg, s1, s2, s3, s4, s5, Rec.zero]
end Go.Ev.S
namespace Go.Ev.S
open Go Go.Proofs Go.Ev
theorem mnumber_ev [MaxL] [TxtC] (n b : Int) : call cx 18 [.int .i64 n, .int .i64 b] [] = some (.int .i64 (if b < 1 then 0 else (IntKind.i64.wrap (n.tmod b + b)).tmod b), []) := by
  refine call_run Tryz.func18 rfl ⟨rfl, rfl⟩ ?_
  by_cases h1 : b < 1
  · simp [Tryz.f18, h1]
  · have h2 : b ≠ 0 := by omega
    simp [Tryz.f18, h1, h2]
theorem num_ev [MaxL] [TxtC] (n : Int) (b : Nat) (hb : 1 ≤ b) (hb2 : b ≤ 1000000) : ∃ x : Nat, x < b ∧ call cx 18 [.int .i64 n, .int .i64 b] [] = some (.int .i64 x, []) := by
  have h1 : n.tmod b < b := Int.tmod_lt_of_pos _ (by omega)
  have h2 : -(b : Int) < n.tmod b := by
    have := Int.tmod_lt_of_pos (-n) (show (0 : Int) < b by omega)
    rw [Int.neg_tmod] at this
    omega
  have h := mnumber_ev n b
  rw [if_neg (by omega)] at h
  generalize n.tmod b = x at *
  have hw : IntKind.i64.wrap (x + b) = x + b := by rw [wrap_i64]; omega
  rw [hw] at h
  have h3 : 0 ≤ x + b := by omega
  have h4 := Int.tmod_nonneg (b : Int) h3
  have h5 := Int.tmod_lt_of_pos (x + b) (show (0 : Int) < b by omega)
  refine ⟨((x + b).tmod b).toNat, by omega, ?_⟩
  rw [h]
  congr 3
  omega
end Go.Ev.S
namespace Go.Ev.S
open Go Go.Proofs Go.Ev
def seqD (nil : Bool) (zs : List Int) (k : Nat) : List D := [.vsl nil (intsK .i64 zs) zs.length, .int .i64 k]
theorem intsK_at {k : IntKind} {l : List Int} {i : Nat} (h : i < l.length) : (intsK k l).drop i = .int k l[i] :: intsK k (l.drop (i + 1)) := by
  unfold intsK
  rw [← List.map_drop, List.drop_eq_getElem_cons h]
  rfl
@[simp] theorem intsK_len (k : IntKind) (l : List Int) : (intsK k l).length = l.length := by simp [intsK]
theorem seqD_free (nil : Bool) (zs : List Int) (k : Nat) : (∀ x, x ∈ seqD nil zs k → idFree x = true) = True := eq_true (by
  unfold seqD
  simp)
theorem seqD_len (nil : Bool) (zs : List Int) (k : Nat) : (seqD nil zs k).length = 2 := rfl
theorem seqD_cl (nil : Bool) (zs : List Int) (k n : Nat) : (∀ x, x ∈ seqD nil zs k → closed n x = true) = True := eq_true (by
  unfold seqD
  simp)
theorem more_ev [MaxL] [TxtC] (nil : Bool) (zs : List Int) (k : Nat) : call cx 38 [.optr 0 2 0] [some (seqD nil zs k)] = some (.bool (decide (k < zs.length)), [some (seqD nil zs k)]) := by
  refine call_run Tryz.func38 rfl ⟨rfl, rfl⟩ ?_
  unfold seqD
  by_cases h : k < zs.length
  · have h' : (k : Int) < (zs.length : Int) := by omega
    simp [Tryz.f38, h, h']
  · have h' : ¬ (k : Int) < (zs.length : Int) := by omega
    simp [Tryz.f38, h, h']
theorem numI_ev [MaxL] [TxtC] (n b : Int) (hb : 1 ≤ b) (hb2 : b ≤ 1000000) : ∃ x : Nat, (x : Int) < b ∧ call cx 18 [.int .i64 n, .int .i64 b] [] = some (.int .i64 x, []) := by
  obtain ⟨x, h1, h2⟩ := num_ev n b.toNat (by omega) (by omega)
  rw [show ((b.toNat : Nat) : Int) = b by omega] at h2
  exact ⟨x, by omega, h2⟩
theorem n_ev [MaxL] [TxtC] (nil : Bool) (zs : List Int) (hnil : nil = true → zs = []) (hz : zs.length ≤ 1000000) (k : Nat) (b : Int) (hb : 1 ≤ b) (hb2 : b ≤ 1000000) :
    ∃ x k' : Nat, (x : Int) < b ∧ (k < zs.length → k < k') ∧ call cx 39 [.optr 0 2 0, .int .i64 b] [some (seqD nil zs k)] = some (.int .i64 x, [some (seqD nil zs k')]) := by
  unfold seqD
  by_cases hlt : k < zs.length
  · have hnf : nil = false := by
      cases nil with
      | false => rfl
      | true => rw [hnil rfl] at hlt; simp at hlt
    subst hnf
    have hlt' : ¬ (zs.length : Int) ≤ (k : Int) := by omega
    have hlt2 : (k : Int) < (zs.length : Int) := by omega
    have hw : IntKind.i64.wrap ((k : Int) + 1) = ((k + 1 : Nat) : Int) := by rw [wrap_i64] <;> omega
    have hw2 : IntKind.i64.wrap (((k + 1 : Nat) : Int) - 1) = (k : Int) := by rw [wrap_i64] <;> omega
    have hw3 : IntKind.i64.wrap (k : Int) = (k : Int) := by rw [wrap_i64]; omega
    obtain ⟨x, hx, hn⟩ := numI_ev zs[k] b hb hb2
    refine ⟨x, k + 1, hx, fun _ => Nat.lt_succ_self k, ?_⟩
    refine call_run Tryz.func39 rfl ⟨rfl, rfl⟩ ?_
    simp [Tryz.f39, hlt', hw, hlt2, hw3, intsK_at hlt, hn]
  · have hlt' : (zs.length : Int) ≤ (k : Int) := by omega
    refine ⟨0, k, by omega, fun h => absurd h hlt, ?_⟩
    refine call_run Tryz.func39 rfl ⟨rfl, rfl⟩ ?_
    simp [Tryz.f39, hlt']
def namesL : List (List UInt8) := [[65], [66], [77, 69, 83, 83, 65, 71, 69], [95, 80, 73, 68], [88, 95, 49], [80, 82, 73, 79, 82, 73, 84, 89]]
def valuesL : List (List UInt8) := [[], [48], [49], [50, 50], [97, 61, 98], [111, 110, 101, 10, 116, 119, 111], [0, 255], [116, 97, 98, 9, 104, 101, 114, 101], [108, 111, 110, 103, 32, 108, 111, 110, 103, 32, 108, 111, 110, 103, 32, 108, 111, 110, 103, 32, 108, 111, 110, 103, 32, 108, 111, 110, 103, 32, 108, 111, 110, 103], [126, 127, 128]]
def strD (l : List (List UInt8)) : List D := l.map D.str
theorem strD_at {l : List (List UInt8)} {i : Nat} (h : i < l.length) : (strD l).drop i = .str l[i] :: strD (l.drop (i + 1)) := by
  unfold strD
  rw [← List.map_drop, List.drop_eq_getElem_cons h]
  rfl
theorem names_ev [MaxL] [TxtC] : call cx 127 [] [] = some (.vsl false (strD namesL) 6, []) := by
  refine call_some.2 ⟨60, ?_⟩
  kernel_rfl
theorem values_ev [MaxL] [TxtC] : call cx 128 [] [] = some (.vsl false (strD valuesL) 10, []) := by
  refine call_some.2 ⟨60, ?_⟩
  kernel_rfl
def mkOk (p : Pr) : Bool := prOk p && (decide (p.name.length ≤ 8) && decide (p.value.length ≤ 36))
theorem mkOk_ok {p : Pr} (h : mkOk p = true) : prOk p = true := by
  unfold mkOk at h
  rw [Bool.and_eq_true] at h
  exact h.1
theorem pairs_ok : ∀ n ∈ namesL, ∀ v ∈ valuesL, mkOk ⟨n, v⟩ = true := by decide
set_option maxHeartbeats 1000000 in
theorem mpair_ev [MaxL] [TxtC] (nil : Bool) (zs : List Int) (hnil : nil = true → zs = []) (hz : zs.length ≤ 1000000) (k : Nat) :
    ∃ (p : Pr) (k' : Nat), mkOk p = true ∧ call cx 110 [.optr 0 2 0] [some (seqD nil zs k)] = some (.agg (Enc.cells p), [some (seqD nil zs k')]) := by
  obtain ⟨x, k1, hx, -, h1⟩ := n_ev nil zs hnil hz k 6 (by decide) (by decide)
  obtain ⟨y, k2, hy, -, h2⟩ := n_ev nil zs hnil hz k1 10 (by decide) (by decide)
  have hx' : x < namesL.length := by show x < 6; omega
  have hy' : y < valuesL.length := by show y < 10; omega
  have g1 := names_ev
  have g2 := values_ev
  refine ⟨⟨namesL[x], valuesL[y]⟩, k2, pairs_ok _ (List.getElem_mem hx') _ (List.getElem_mem hy'), ?_⟩
  have a1 := strD_at hx'
  have a2 := strD_at hy'
  generalize namesL[x] = n at *
  generalize valuesL[y] = v at *
  generalize strD namesL = N at *
  generalize strD valuesL = V at *
  refine call_run Tryz.func110 rfl ⟨rfl, rfl⟩ ?_
  unfold seqD at h1 h2 ⊢
  simp [Tryz.f110, h1, h2, g1, g2, a1, a2, hx, hy, Pr.cells]
def idN (j : Nat) : ID := ⟨[94, 0, 0, 0, 0, 0, 0, 0, 0, 0, 0, 0, 0, 0, 0, UInt8.ofNat j], rfl⟩
theorem mid_small [MaxL] [TxtC] {j : Nat} (hj : j < 5) : call cx 26 [.int .i64 j] [] = some (.agg (ofBytes (idN j).l), []) := by
  have h : j = 0 ∨ j = 1 ∨ j = 2 ∨ j = 3 ∨ j = 4 := by omega
  refine call_some.2 ⟨60, ?_⟩
  rcases h with rfl | rfl | rfl | rfl | rfl <;> kernel_rfl
end Go.Ev.S
namespace Go.Ev.S
open Go Go.Proofs Go.Ev
theorem nameOk_len {n : List UInt8} (h : nameOk n = true) : n.length ≤ 64 := by
  unfold nameOk at h
  split at h
  · cases h
  · simp only [Bool.and_eq_true, decide_eq_true_eq] at h
    exact h.1.1
theorem prOk_len {p : Pr} (h : prOk p = true) : nameOk p.name = true ∧ p.name.length ≤ 64 ∧ p.value.length ≤ 256 := by
  unfold prOk at h
  simp only [Bool.and_eq_true, decide_eq_true_eq] at h
  exact ⟨h.1, nameOk_len h.1, h.2⟩
theorem join_ev [MaxL] [TxtC] (p : Pr) (h : prOk p = true) : call cx 108 [.agg (Enc.cells p)] [] = some (.tup [.vsl false (ofBytes (payL p)) (payL p).length, .int .i64 0], []) := by
  obtain ⟨hn, hn2, hv⟩ := prOk_len h
  have hnm := rname_ev p.name (by omega)
  rw [hn] at hnm
  have hp := pay_ev p (by omega) (by omega)
  have hv' : ¬ (256 : Int) < (p.value.length : Int) := by omega
  refine call_run Tryz.func108 rfl ⟨rfl, rfl⟩ ?_
  rw [Pr.cells] at hp ⊢
  have hl : (payL p).length ≤ 321 := by unfold payL; simp; omega
  have hne : (payL p).length ≠ 0 := by unfold payL; simp
  generalize payL p = w at *
  have hm : w.length ≤ 140737488355328 := by omega
  simp [Tryz.f108, hnm, hp, hv']
theorem loopJ {X : Cx} {f nt n0 : Nat} {Q : Ex → Env → Heap → Prop} {fs : List Fr} {c : Code} {σ : Type} (I : σ → Env → Heap → Prop) (m : σ → Nat) (s : σ) (J : Ex → Env → Heap → Prop) {e : Env} {H : Heap} (h0 : I s e H)
    (step : ∀ s e H, I s e H → Run X f nt n0 (fun ex e' H' => match ex with | .normal => ∃ s', m s' < m s ∧ I s' e' H' | ex => J ex e' H') [] (code X f nt n0 c e H))
    (done : ∀ ex e H, J ex e H → Run X f nt n0 Q fs (some (ex, e, H))) : Run X f nt n0 Q fs (code X f nt n0 (.loop c) e H) := by
  refine Run.loopThen I m s h0 fun s e H hi => Run.mono (step s e H hi) fun ex e H hq => ?_
  rw [run_nil]
  cases ex with
  | normal => exact hq
  | _ => exact done _ _ _ hq
def LsM (L : List Pr) (d : D) (H : Heap) : Prop :=
  ∃ n k t, n = L.length * 2 ∧ k = L.length ∧ ((d = .osl 1 n 0 k 2 ∧ H = [some t, some (encs L)]) ∨ (d = .osl 0 n 0 k 2 ∧ H = [some (encs L), some t]) ∨ (d = .osl 0 n 0 k 2 ∧ H = [some (encs L)]))
def LsH (out : List Pr) (d : D) (H : Heap) : Prop :=
  (out = [] ∧ d = .vsl true [] 0 ∧ H = []) ∨ (out ≠ [] ∧ LsM out d H)
def LsQ (q : D × Heap) : Prop := ∃ out : List Pr, 1 ≤ out.length ∧ out.length ≤ 4 ∧ (∀ p ∈ out, mkOk p = true) ∧ q = (.tup [.vsl false (encs out) out.length, .int .i64 0], [])
set_option maxHeartbeats 4000000 in
theorem list_ev [MaxL] [TxtC] (l : List Pr) (h1 : 1 ≤ l.length) (h4 : l.length ≤ 4) (hok : ∀ p ∈ l, mkOk p = true) : ∃ q, call cx 78 [.vsl false (encs l) l.length] [] = some q ∧ LsQ q := by
  refine call_runE (X := cx) (f := 78) (args := [.vsl false (encs l) l.length]) (H := []) LsQ Tryz.func78 rfl ⟨rfl, rfl⟩ ?_
  have hz : ¬ l.length = 0 := by omega
  simp [Tryz.f78, hz]
  refine Run.loopThen (fun (q : Nat × List Pr) e H' => q.1 ≤ l.length ∧ q.2.length ≤ q.1 ∧ (1 ≤ q.1 → 1 ≤ q.2.length) ∧ (∀ p ∈ q.2, mkOk p = true) ∧ look e 0 = some (.vsl false (encs l) l.length) ∧ look e 5 = some (.int .i64 (q.1 : Nat)) ∧ ∃ d, look e 4 = some d ∧ LsH q.2 d H') (fun q => l.length - q.1) (0, []) ?_ ?_
  · exact ⟨by simp, by simp, by simp, by simp, by simp, by simp, _, by simp, .inl ⟨rfl, rfl, rfl⟩⟩
  rintro ⟨i, out⟩ e H' ⟨hi, ho, ho1, hp, k0, k5, d, k4, hH⟩
  simp only at hi ho ho1 hp k5 hH
  by_cases hlt : i < l.length
  · have hlt' : (i : Int) < (l.length : Int) := by omega
    have hj := join_ev l[i] (mkOk_ok (hok _ (List.getElem_mem hlt)))
    have hpl := hok _ (List.getElem_mem hlt)
    obtain ⟨-, hb1, hb2⟩ := prOk_len (mkOk_ok hpl)
    have hw5 : IntKind.i64.wrap ((i : Int) + 1) = ((i + 1 : Nat) : Int) := by rw [wrap_i64] <;> omega
    rw [Pr.cells] at hj
    rcases hH with ⟨rfl, rfl, rfl⟩ | ⟨hne, n, k, t, hn, hk, hH⟩
    · simp [k0, k4, k5, hlt, hlt', hj, Pr.cells]
      refine run_unroll ?_
      simp [maxBytes]
      refine run_unroll ?_
      simp [hlt, hlt', Pr.cells, hw5]
      exact ⟨i + 1, by omega, by omega, [l[i]], by simp, fun _ => by simp, by simp [hpl], by simp, .inr ⟨by simp, 2, 1, _, rfl, rfl, .inl ⟨rfl, rfl⟩⟩⟩
    have htk : List.take n (encs out) = encs out := List.take_of_length_le (by simp; omega)
    have hlk : out.length = k := hk.symm
    have hkn : k * 2 = n := by omega
    have hm1 : (k + 1) * 32 ≤ 140737488355328 := by omega
    have hm2 : k + 1 ≤ 140737488355328 := by omega
    have hwk : IntKind.i64.wrap (k : Int) = (k : Int) := by rw [wrap_i64]; omega
    rcases hH with ⟨rfl, rfl⟩ | ⟨rfl, rfl⟩ | ⟨rfl, rfl⟩
    all_goals
      simp [k0, k4, k5, hlt, hlt', hj, Pr.cells]
      refine loopJ (fun (z : Nat) e H' => z ≤ k ∧ look e 0 = some (.vsl false (encs l) l.length) ∧ look e 4 = some (.osl 0 n 0 k 2) ∧ look e 5 = some (.int .i64 (i : Nat)) ∧ look e 8 = some (.int .i64 (z : Nat)) ∧ H' = [some (encs out)]) (fun z => k - z) 0
        (fun ex e H' => ex = .exit 2 ∧ ∃ z, z ≤ k ∧ look e 0 = some (.vsl false (encs l) l.length) ∧ look e 4 = some (.osl 0 n 0 k 2) ∧ look e 5 = some (.int .i64 (i : Nat)) ∧ look e 8 = some (.int .i64 (z : Nat)) ∧ H' = [some (encs out)]) ⟨Nat.zero_le _, by simp, by simp, by simp, by simp, rfl⟩ ?_ ?_
      · clear k0 k4 k5
        rintro z e H' ⟨hz, k0, k4, k5, k8, rfl⟩
        have hwz : IntKind.i64.wrap ((z : Int) + 1) = ((z + 1 : Nat) : Int) := by rw [wrap_i64] <;> omega
        by_cases hzl : z < k
        · have hzo : z < out.length := by omega
          obtain ⟨-, c1, c2⟩ := prOk_len (mkOk_ok (hp _ (List.getElem_mem hzo)))
          have p1 := pay_ev out[z] (by omega) (by omega)
          have p2 := pay_ev l[i] (by omega) (by omega)
          rw [Pr.cells] at p1 p2
          generalize payL out[z] = w1 at *
          generalize payL l[i] = w2 at *
          cases hb : Op.bytesLess w1 w2 with
          | true =>
            simp [k0, k4, k5, k8, hzl, hlt, hlt', Pr.cells, p1, p2, hb, hwz, hlk, hkn]
            exact ⟨z + 1, by omega, by omega, rfl⟩
          | false =>
            simp [k0, k4, k5, k8, hzl, hlt, hlt', Pr.cells, p1, p2, hb, hlk, hkn]
            exact ⟨z, hz, rfl⟩
        · simp [k0, k4, k5, k8, hzl]
          exact ⟨z, hz, rfl⟩
      · clear k0 k4 k5
        rintro ex e H' ⟨rfl, z, hz, k0, k4, k5, k8, rfl⟩
        have hcase : (∃ h : z < out.length, out[z].name = l[i].name ∧ out[z].value = l[i].value) ∨ (∃ h : z < out.length, ¬ out[z].name = l[i].name) ∨ (∃ h : z < out.length, out[z].name = l[i].name ∧ ¬ out[z].value = l[i].value) ∨ ¬ z < k := by
          by_cases h : z < out.length
          · by_cases h1 : out[z].name = l[i].name
            · by_cases h2 : out[z].value = l[i].value
              · exact .inl ⟨h, h1, h2⟩
              · exact .inr (.inr (.inl ⟨h, h1, h2⟩))
            · exact .inr (.inl ⟨h, h1⟩)
          · exact .inr (.inr (.inr (by omega)))
        have hcon := fun (h : z < out.length) => (show z < k by omega)
        rcases hcase with ⟨hzo, e1, e2⟩ | ⟨hzo, e1⟩ | ⟨hzo, e1, e2⟩ | hzl
        · simp [k0, k4, k5, k8, hcon hzo, hlt, hlt', Pr.cells, e1, e2, hlk, hkn, hw5]
          exact ⟨i + 1, by omega, by omega, out, by omega, fun _ => by omega, hp, by simp, .inr ⟨hne, n, k, t, hn, hk, .inr (.inr ⟨rfl, rfl⟩)⟩⟩
        all_goals
          first
            | simp [k0, k4, k5, k8, hcon hzo, hlt, hlt', Pr.cells, e1, e2, hlk, hkn, hwk, hm1, hm2, maxBytes]
            | simp [k0, k4, k5, k8, hcon hzo, hlt, hlt', Pr.cells, e1, hlk, hkn, hwk, hm1, hm2, maxBytes]
            | simp [k0, k4, k5, k8, hzl, hlk, hkn, hwk, hm1, hm2, maxBytes]
          refine loopJ (fun (q : Nat × List Pr) e H' => z ≤ q.1 ∧ q.1 ≤ k ∧ q.2.length = k + 1 ∧ (∀ x (h : x < q.2.length), x ≠ q.1 → mkOk q.2[x] = true) ∧ look e 0 = some (.vsl false (encs l) l.length) ∧ look e 4 = some (.osl 0 (n + 2) 0 (k + 1) 2) ∧ look e 5 = some (.int .i64 (i : Nat)) ∧ look e 8 = some (.int .i64 (z : Nat)) ∧ look e 9 = some (.int .i64 (q.1 : Nat)) ∧ H' = [some (encs q.2), some [.str [], .str []]]) (fun q => q.1 - z) (k, out ++ [⟨[], []⟩])
            (fun ex e H' => ex = .exit 4 ∧ ∃ L : List Pr, L.length = k + 1 ∧ (∀ x (h : x < L.length), x ≠ z → mkOk L[x] = true) ∧ look e 0 = some (.vsl false (encs l) l.length) ∧ look e 4 = some (.osl 0 (n + 2) 0 (k + 1) 2) ∧ look e 5 = some (.int .i64 (i : Nat)) ∧ look e 8 = some (.int .i64 (z : Nat)) ∧ H' = [some (encs L), some [.str [], .str []]]) ?_ ?_ ?_
          · refine ⟨hz, Nat.le_refl _, by simp [hlk], fun x h hx => ?_, by simp, by simp, by simp, by simp, by simp, by rw [encs_snoc]; rfl⟩
            have hxo : x < out.length := by simp at h; omega
            simp only [List.getElem_append_left hxo]
            exact hp _ (List.getElem_mem hxo)
          · clear k0 k4 k5 k8
            rintro ⟨j, L⟩ e H' ⟨hzj, hjk, hLl, hLp, k0, k4, k5, k8, k9, rfl⟩
            simp only at hzj hjk hLl hLp k9
            by_cases hj2 : z < j
            · obtain ⟨a, rfl⟩ : ∃ a, j = a + 1 := ⟨j - 1, by omega⟩
              have hwa : IntKind.i64.wrap (((a + 1 : Nat) : Int) - 1) = (a : Int) := by rw [wrap_i64] <;> omega
              have hwb : IntKind.i64.wrap ((a : Int) + 1 - 1) = (a : Int) := by rw [wrap_i64] <;> omega
              have hwc : IntKind.i64.wrap (a : Int) = (a : Int) := by rw [wrap_i64]; omega
              have hak : a < k := by omega
              have ha1 : (a : Int) < (k : Int) + 1 := by omega
              have hza : (z : Int) < (a : Int) + 1 := by omega
              have hza2 : z < a + 1 := hj2
              have h0a : (0 : Int) ≤ (a : Int) + 1 := by omega
              have ha2n : (a + 1) * 2 ≤ n := by omega
              have ha2 : a < L.length := by omega
              have ha3 : a + 1 < L.length := by omega
              have hLn : L.length * 2 = n + 2 := by omega
              simp [k0, k4, k5, k8, k9, hwc, hak, ha1, ha2, ha3, hLn, hza, h0a, ha2n]
              refine ⟨a, by omega, by omega, by omega, _, by simp [hLl], fun x h hx => ?_, rfl, rfl⟩
              rw [List.getElem_set]
              split
              · exact hLp a ha2 (by omega)
              · exact hLp x (by simpa using h) (by omega)
            · simp [k0, k4, k5, k8, k9, hj2]
              exact ⟨L, hLl, fun x h hx => hLp x h (by omega), rfl⟩
          · clear k0 k4 k5 k8
            rintro ex e H' ⟨rfl, L, hLl, hLp, k0, k4, k5, k8, rfl⟩
            have hzl2 : z < L.length := by omega
            have hz1 : (z : Int) < (k : Int) + 1 := by omega
            have hz2 : z * 2 ≤ n := by omega
            have hLn : L.length * 2 = n + 2 := by omega
            simp [k0, k4, k5, k8, hzl2, hlt, hlt', hw5, hz1, hz2, hLn]
            refine ⟨i + 1, by omega, by omega, L.set z l[i], by simp [hLl]; omega, fun _ => by simp [hLl], fun p hp => ?_, by simp, .inr ⟨fun h => ?_, n + 2, k + 1, _, by simp [hLn], by simp [hLl], .inr (.inl ⟨rfl, rfl⟩)⟩⟩
            · obtain ⟨x, hx, rfl⟩ := List.mem_iff_getElem.1 hp
              rw [List.getElem_set]
              split
              · exact hpl
              · exact hLp x (by simpa using hx) (by omega)
            · have := congrArg List.length h
              simp [hLl] at this
  · have hlt' : ¬ (i : Int) < (l.length : Int) := by omega
    have ho2 := ho1 (by omega)
    rcases hH with ⟨rfl, rfl, rfl⟩ | ⟨hne, n, k, t, hn, hk, hH⟩
    · simp at ho2
    have h16 : ¬ (16 : Int) < (k : Int) := by omega
    have htk : List.take n (encs out) = encs out := List.take_of_length_le (by simp; omega)
    have hlk : out.length = k := hk.symm
    have hkn : k * 2 = n := by omega
    rcases hH with ⟨rfl, rfl⟩ | ⟨rfl, rfl⟩ | ⟨rfl, rfl⟩
    all_goals
      simp [k0, k4, k5, hlt', h16, htk, hlk, hkn]
      exact ⟨out, by omega, by omega, hp, by rw [hlk]⟩
end Go.Ev.S
namespace Go.Ev.S
open Go Go.Proofs Go.Ev
def GrowH {α : Type} [Enc α] (S : List D) (sz : Nat) (l : List α) (d : D) (H : Heap) : Prop :=
  (l = [] ∧ d = .vsl true [] 0 ∧ H = [some S]) ∨ (l ≠ [] ∧ ∃ n k t, n = l.length * sz ∧ k = l.length ∧ ((d = .osl 2 n 0 k sz ∧ H = [some S, some t, some (encs l)]) ∨ (d = .osl 1 n 0 k sz ∧ H = [some S, some (encs l), some t])))
def PrsQ (nil : Bool) (zs : List Int) (q : D × Heap) : Prop := ∃ (l : List Pr) (k' : Nat), 1 ≤ l.length ∧ l.length ≤ 4 ∧ (∀ p ∈ l, mkOk p = true) ∧ q = (.vsl false (encs l) l.length, [some (seqD nil zs k')])
set_option maxHeartbeats 1000000 in
theorem mpairs_ev [MaxL] [TxtC] (nil : Bool) (zs : List Int) (hnil : nil = true → zs = []) (hz : zs.length ≤ 1000000) (k : Nat) :
    ∃ q, call cx 79 [.optr 0 2 0, .int .i64 4] [some (seqD nil zs k)] = some q ∧ PrsQ nil zs q := by
  obtain ⟨x, k1, hx, -, h1⟩ := n_ev nil zs hnil hz k 4 (by decide) (by decide)
  refine call_runE (X := cx) (f := 79) (args := [.optr 0 2 0, .int .i64 4]) (H := [some (seqD nil zs k)]) (PrsQ nil zs) Tryz.func79 rfl ⟨rfl, rfl⟩ ?_
  have hw : IntKind.i64.wrap ((x : Int) + 1) = ((x + 1 : Nat) : Int) := by rw [wrap_i64] <;> omega
  have sf := seqD_free nil zs
  have sl := seqD_len nil zs
  have sc := seqD_cl nil zs
  simp [Tryz.f79, h1, sf]
  refine Run.loopThen (fun (q : List Pr × Nat × Nat) e H' => q.1.length + q.2.1 = x + 1 ∧ (∀ p ∈ q.1, mkOk p = true) ∧ look e 0 = some (.optr 0 2 0) ∧ look e 6 = some (.int .i64 (q.2.1 : Nat)) ∧ ∃ d, look e 5 = some d ∧ GrowH (seqD nil zs q.2.2) 2 q.1 d H') (fun q => q.2.1) ([], x + 1, k1) ?_ ?_
  · exact ⟨by simp, by simp, by simp, by simp [hw], _, by simp, .inl ⟨rfl, rfl, rfl⟩⟩
  rintro ⟨l, i, k2⟩ e H' ⟨hi, hok, k0, k6, d, k5, hH⟩
  simp only at hi hok k6 hH
  obtain ⟨p, k3, hp, h2⟩ := mpair_ev nil zs hnil hz k2
  rcases hH with ⟨rfl, rfl, rfl⟩ | ⟨hne, n, m, t, hn, hm, hH⟩
  · have hi0 : 0 < i := by simp at hi; omega
    have hw2 : IntKind.i64.wrap ((i : Int) - 1) = ((i - 1 : Nat) : Int) := by rw [wrap_i64] <;> (simp at hi; omega)
    simp [k0, k5, k6, hi0, h2, sf, sc, hw2, Pr.cells, maxBytes]
    exact ⟨[p], i - 1, by omega, by simp at hi ⊢; omega, by simp [hp], rfl, k3, .inr ⟨by simp, 2, 1, _, rfl, rfl, .inl ⟨rfl, rfl⟩⟩⟩
  · have hm1 : (m + 1) * 32 ≤ 140737488355328 := by omega
    have hm2 : m + 1 ≤ 140737488355328 := by omega
    have hlk : l.length = m := hm.symm
    have hkn : m * 2 = n := by omega
    have htk : List.take n (encs l) = encs l := List.take_of_length_le (by simp; omega)
    by_cases hi0 : 0 < i
    · have hw2 : IntKind.i64.wrap ((i : Int) - 1) = ((i - 1 : Nat) : Int) := by rw [wrap_i64] <;> omega
      rcases hH with ⟨rfl, rfl⟩ | ⟨rfl, rfl⟩
      all_goals
        simp [k0, k5, k6, hi0, h2, sf, sc, hw2, Pr.cells, maxBytes, hlk, hkn, hm1, hm2]
        refine ⟨l ++ [p], i - 1, by omega, by simp; omega, fun q hq => ?_, rfl, k3, .inr ⟨by simp, n + 2, m + 1, _, by simp; omega, by simp [hlk], .inr ⟨rfl, by rw [encs_snoc]; rfl⟩⟩⟩
        rcases List.mem_append.1 hq with h | h
        · exact hok q h
        · rw [List.mem_singleton.1 h]; exact hp
    · have hie : l.isEmpty = false := by simpa using hne
      have hl1 : 1 ≤ l.length := by
        cases l with
        | nil => exact absurd rfl hne
        | cons => simp
      rcases hH with ⟨rfl, rfl⟩ | ⟨rfl, rfl⟩
      all_goals
        simp [k0, k5, k6, hi0, sc, hlk, hkn, htk]
        exact ⟨l, k2, hl1, by omega, hok, by rw [hlk]⟩
end Go.Ev.S
namespace Go.Ev.S
open Go Go.Proofs Go.Ev
def RecR (n : Nat) (r : Rec) : Prop := r.seq = n ∧ r.Ok ∧ 1 ≤ r.fields.l.length ∧ r.fields.l.length ≤ 4 ∧ ∀ p ∈ r.fields.l, mkOk p = true
theorem u64_of {n : Nat} (h : n < 18446744073709551616) : isU64 (n : Int) := by
  unfold isU64
  omega
set_option maxHeartbeats 1000000 in
theorem mrec_ev [MaxL] [TxtC] (nil : Bool) (zs : List Int) (hnil : nil = true → zs = []) (hz : zs.length ≤ 1000000) (k : Nat) (n : Nat) (hn : n < 18446744073709551616) :
    ∃ (r : Rec) (k' : Nat), RecR n r ∧ call cx 40 [.optr 0 2 0, .int .u64 n] [some (seqD nil zs k)] = some (.agg (Enc.cells r), [some (seqD nil zs k')]) := by
  obtain ⟨q, h1, l, k1, hl1, hl4, hp, rfl⟩ := mpairs_ev nil zs hnil hz k
  obtain ⟨q, h2, out, ho1, ho4, hop, rfl⟩ := list_ev l hl1 hl4 hp
  obtain ⟨x, k2, hx, -, h3⟩ := n_ev nil zs hnil hz k1 40 (by decide) (by decide)
  obtain ⟨y, k3, hy, -, h4⟩ := n_ev nil zs hnil hz k2 9 (by decide) (by decide)
  obtain ⟨z, k4, hz3, -, h5⟩ := n_ev nil zs hnil hz k3 3 (by decide) (by decide)
  have h6 := mid_small (j := z) (by omega)
  refine ⟨⟨n, x, y, idN z, .of out⟩, k4, ⟨rfl, ⟨u64_of hn, u64_of (by omega), u64_of (by omega)⟩, ho1, ho4, hop⟩, ?_⟩
  have sf := seqD_free nil zs
  have sl := seqD_len nil zs
  have sc := seqD_cl nil zs
  have hx64 : IntKind.u64.wrap (x : Int) = (x : Int) := by rw [wrap_u64]; omega
  have hy64 : IntKind.u64.wrap (y : Int) = (y : Int) := by rw [wrap_u64]; omega
  have hi := (idN z).h
  generalize idN z = iz at *
  have ht : List.take 16 (ofBytes iz.l) = ofBytes iz.l := List.take_of_length_le (by simp)
  have hd : List.drop 17 (ofBytes iz.l ++ [D.vsl true [] 0]) = [] := List.drop_eq_nil_of_le (by simp)
  refine call_run Tryz.func40 rfl ⟨rfl, rfl⟩ ?_
  simp [Tryz.f40, h1, h2, h3, h4, h5, h6, sf, sc, hx64, hy64, Rec.cells, hi, hd, List.take_append]

end Go.Ev.S
namespace Go.Ev.S
open Go Go.Proofs Go.Ev
def MadeI (it : It) : Prop := it.Ok ∧ itOk it = true ∧ it.rc.fields.l.length ≤ 4 ∧ ∀ p ∈ it.rc.fields.l, mkOk p = true
theorem u64_zero' : isU64 0 := by unfold isU64; decide
def recZ : Rec := ⟨0, 0, 0, ID.zero, .none⟩
theorem made_gap (q : ID) {n t : Nat} (h1 : 1 ≤ n) (h2 : n ≤ t) (h3 : t < 18446744073709551616) : MadeI ⟨q, true, n, t, recZ⟩ := by
  refine ⟨⟨u64_of (by omega), u64_of (by omega), ⟨u64_zero', u64_zero', u64_zero'⟩⟩, ?_, Nat.zero_le _, fun p hp => by cases hp⟩
  unfold itOk gapOk
  simp [recZ, Sl.none]
  omega
theorem made_rec (q : ID) {n : Nat} {r : Rec} (h1 : 1 ≤ n) (h : RecR n r) : MadeI ⟨q, false, 0, 0, r⟩ := by
  obtain ⟨a, b, c, d, e⟩ := h
  refine ⟨⟨u64_zero', u64_zero', b⟩, ?_, d, e⟩
  unfold itOk recOk
  simp [a]
  exact ⟨⟨⟨by omega, c⟩, by omega⟩, fun p hp => mkOk_ok (e p hp)⟩
theorem intsK_set {k : IntKind} {l : List Int} {i : Nat} {v : Int} (h : i < l.length) : setRange (intsK k l) i [.int k v] = intsK k (l.set i v) := by
  have hi : i < (intsK k l).length := by simpa using h
  have e : (intsK k l).set i (.int k v) = intsK k (l.set i v) := by unfold intsK; rw [List.map_set]
  rw [← e, List.set_eq_take_append_cons_drop, if_pos hi]
  unfold setRange
  simp
theorem gap_cells (q : ID) (n t : Int) : Enc.cells (⟨q, true, n, t, recZ⟩ : It) = ofBytes q.l ++ [.bool true, .int .u64 n, .int .u64 t, .int .u64 0, .int .u64 0, .int .u64 0, .int .u8 0, .int .u8 0, .int .u8 0, .int .u8 0, .int .u8 0, .int .u8 0, .int .u8 0, .int .u8 0, .int .u8 0, .int .u8 0, .int .u8 0, .int .u8 0, .int .u8 0, .int .u8 0, .int .u8 0, .int .u8 0, .vsl true [] 0] := by
  rw [It.cells]
  rfl
theorem rec_cells (q : ID) (r : Rec) : Enc.cells (⟨q, false, 0, 0, r⟩ : It) = ofBytes q.l ++ (.bool false :: .int .u64 0 :: .int .u64 0 :: Enc.cells r) := by
  rw [It.cells, Rec.cells]
  rfl
theorem rec_noZ (r : Rec) : noZ.noZL (Enc.cells r) = true := by
  rw [Rec.cells]
  simp
def ItsH (S : List D) (out : List It) (last : List Int) (d5 d6 : D) (H : Heap) : Prop :=
  (out = [] ∧ d5 = .vsl true [] 0 ∧ d6 = .optr 1 3 0 ∧ H = [some S, some (intsK .u64 last)]) ∨
  (out ≠ [] ∧ ∃ n m t, n = out.length * 39 ∧ m = out.length ∧ ((d5 = .osl 3 n 0 m 39 ∧ d6 = .optr 1 3 0 ∧ H = [some S, some (intsK .u64 last), some t, some (encs out)]) ∨ (d5 = .osl 1 n 0 m 39 ∧ d6 = .optr 2 3 0 ∧ H = [some S, some (encs out), some (intsK .u64 last), some t])))
def ItsQ (nil : Bool) (zs : List Int) (most : Nat) (q : D × Heap) : Prop := ∃ (out : List It) (k' : Nat), out.length ≤ most ∧ (∀ it ∈ out, MadeI it) ∧
  ((out = [] ∧ q = (.vsl true [] 0, [some (seqD nil zs k')])) ∨ (out ≠ [] ∧ ∃ n m, n = out.length * 39 ∧ m = out.length ∧ q = (.osl 1 n 0 m 39, [some (seqD nil zs k'), some (encs out)])))
set_option maxHeartbeats 4000000 in
theorem items_ev [MaxL] [TxtC] (nil : Bool) (zs : List Int) (hnil : nil = true → zs = []) (hz : zs.length ≤ 1000000) (k : Nat) (most : Nat) (hmost : most ≤ 100) :
    ∃ q, call cx 13 [.optr 0 2 0, .int .i64 most] [some (seqD nil zs k)] = some q ∧ ItsQ nil zs most q := by
  refine call_runE (X := cx) (f := 13) (args := [.optr 0 2 0, .int .i64 most]) (H := [some (seqD nil zs k)]) (ItsQ nil zs most) Tryz.func13 rfl ⟨rfl, rfl⟩ ?_
  have sf := seqD_free nil zs
  have sl := seqD_len nil zs
  have sc := seqD_cl nil zs
  simp [Tryz.f13]
  refine Run.loopThen (fun (q : List It × List Int × Nat) e H' => q.1.length ≤ most ∧ (∀ it ∈ q.1, MadeI it) ∧ q.2.1.length = 3 ∧ (∀ v ∈ q.2.1, 0 ≤ v ∧ v ≤ q.1.length * 6) ∧ look e 0 = some (.optr 0 2 0) ∧ look e 1 = some (.int .i64 most) ∧ ∃ d5 d6, look e 5 = some d5 ∧ look e 6 = some d6 ∧ ItsH (seqD nil zs q.2.2) q.1 q.2.1 d5 d6 H') (fun q => most - q.1.length) ([], [0, 0, 0], k) ?_ ?_
  · exact ⟨by simp, by simp, by simp, by simp, by simp, by simp, _, _, by simp, by simp, .inl ⟨rfl, rfl, rfl, rfl⟩⟩
  rintro ⟨out, last, k1⟩ e H' ⟨ho, hmade, hl3, hlast, k0, k1', d5, d6, k5, k6, hH⟩
  simp only at ho hmade hl3 hlast hH
  have hmo := more_ev nil zs k1
  have hlf : (∀ x, x ∈ intsK .u64 last → idFree x = true) = True := eq_true (by simp [intsK])
  have hlc : ∀ n, (∀ x, x ∈ intsK .u64 last → closed n x = true) = True := fun n => eq_true (by simp [intsK])
  obtain ⟨x1, k2, hx1, -, c1⟩ := n_ev nil zs hnil hz k1 3 (by decide) (by decide)
  obtain ⟨x2, k3, hx2, -, c2⟩ := n_ev nil zs hnil hz k2 3 (by decide) (by decide)
  obtain ⟨x3, k4, hx3, -, c3⟩ := n_ev nil zs hnil hz k3 4 (by decide) (by decide)
  obtain ⟨x4, k5', hx4, -, c4⟩ := n_ev nil zs hnil hz k4 4 (by decide) (by decide)
  have hid := mid_small (j := x1) (by omega)
  have hx1l : x1 < last.length := by omega
  have hat := intsK_at (k := .u64) hx1l
  have hx1i : (x1 : Int) < 3 := hx1
  have hxn : x1 < 3 := by omega
  have hxn2 : x1 + 1 ≤ 3 := by omega
  obtain ⟨hv0, hv1⟩ := hlast _ (List.getElem_mem hx1l)
  obtain ⟨v, hv⟩ : ∃ v : Nat, last[x1] = (v : Int) := ⟨last[x1].toNat, by omega⟩
  rw [hv] at hat hv0 hv1
  have w1 : IntKind.u64.wrap ((v : Int) + 1) = (v : Int) + 1 := by rw [wrap_u64]; omega
  have w2 : IntKind.u64.wrap (x2 : Int) = (x2 : Int) := by rw [wrap_u64]; omega
  have w3 : IntKind.u64.wrap ((v : Int) + 1 + (x2 : Int)) = (v : Int) + 1 + (x2 : Int) := by rw [wrap_u64]; omega
  have w4 : IntKind.u64.wrap (x4 : Int) = (x4 : Int) := by rw [wrap_u64]; omega
  have w5 : IntKind.u64.wrap ((v : Int) + 1 + (x2 : Int) + (x4 : Int)) = (v : Int) + 1 + (x2 : Int) + (x4 : Int) := by rw [wrap_u64]; omega
  obtain ⟨r, k6', hr, c6⟩ := mrec_ev nil zs hnil hz k4 (v + 1 + x2) (by omega)
  rw [show ((v + 1 + x2 : Nat) : Int) = (v : Int) + 1 + x2 by omega] at c6
  have hq := (idN x1).h
  have hgm := made_gap (idN x1) (n := v + 1 + x2) (t := v + 1 + x2 + x4) (by omega) (by omega) (by omega)
  have hrm := made_rec (idN x1) (n := v + 1 + x2) (by omega) hr
  rw [show ((v + 1 + x2 : Nat) : Int) = (v : Int) + 1 + x2 by omega] at hgm
  rw [show ((v + 1 + x2 + x4 : Nat) : Int) = (v : Int) + 1 + x2 + x4 by omega] at hgm
  generalize idN x1 = iq at *
  have hq16 : List.take 16 (ofBytes iq.l) = ofBytes iq.l := List.take_of_length_le (by simp)
  have hq39 : List.take 39 (ofBytes iq.l) = ofBytes iq.l := List.take_of_length_le (by simp)
  have hset1 := fun x => intsK_set (k := .u64) (v := x) hx1l
  have hlast1 : ∀ x : Int, 0 ≤ x → x ≤ (out.length + 1 : Nat) * 6 → ∀ y ∈ last.set x1 x, 0 ≤ y ∧ y ≤ (out.length + 1 : Nat) * 6 := by
    intro x h1 h2 y hy
    rcases List.mem_or_eq_of_mem_set hy with h | rfl
    · have := hlast y h
      omega
    · exact ⟨h1, h2⟩
  have hrz := rec_noZ r
  by_cases h0 : out.length < most
  case neg =>
    rcases hH with ⟨rfl, rfl, rfl, rfl⟩ | ⟨hne, n, m, t, hn, hm, hH⟩
    · have h00 : ¬ 0 < most := h0
      simp [k0, k1', k5, k6, sc, hlf, h00]
      exact ⟨[], k1, by simp, by simp, .inl ⟨rfl, rfl⟩⟩
    have h00 : ¬ m < most := by omega
    have hkn : m * 39 = n := by omega
    have hlk : out.length = m := hm.symm
    have htk : List.take n (encs out) = encs out := List.take_of_length_le (by simp; omega)
    rcases hH with ⟨rfl, rfl, rfl⟩ | ⟨rfl, rfl, rfl⟩
    all_goals
      simp [k0, k1', k5, k6, sc, hlf, h00, hlk]
      exact ⟨out, k1, by omega, hmade, .inr ⟨hne, n, m, by omega, by omega, rfl⟩⟩
  cases hmm : decide (k1 < zs.length) with
  | false =>
    rw [hmm] at hmo
    rcases hH with ⟨rfl, rfl, rfl, rfl⟩ | ⟨hne, n, m, t, hn, hm, hH⟩
    · have h00 : 0 < most := h0
      simp [k0, k1', k5, k6, hmo, sf, sc, hlf, h00]
      exact ⟨[], k1, by simp, by simp, .inl ⟨rfl, rfl⟩⟩
    have h00 : m < most := by omega
    have hkn : m * 39 = n := by omega
    have hlk : out.length = m := hm.symm
    have htk : List.take n (encs out) = encs out := List.take_of_length_le (by simp; omega)
    rcases hH with ⟨rfl, rfl, rfl⟩ | ⟨rfl, rfl, rfl⟩
    all_goals
      simp [k0, k1', k5, k6, hmo, sf, sc, hlf, h00, hlk]
      exact ⟨out, k1, by omega, hmade, .inr ⟨hne, n, m, by omega, by omega, rfl⟩⟩
  | true =>
    rw [hmm] at hmo
    rcases hH with ⟨rfl, rfl, rfl, rfl⟩ | ⟨hne, n, m, t, hn, hm, hH⟩
    · have h00 : 0 < most := h0
      by_cases h3 : x3 = 0
      · subst h3
        simp [k0, k1', k5, k6, hmo, sf, sc, hlf, hl3, h00, c1, c2, c3, c4, hat, hx1i, hxn2, w1, w2, w3, w4, w5, hid, maxBytes, hq, hq39, List.take_append, List.drop_append, drop_bytes, hset1]
        refine ⟨[⟨iq, true, (v : Int) + 1 + x2, (v : Int) + 1 + x2 + x4, recZ⟩], by simp; omega, by simp; omega, by simpa using hgm, last.set x1 ((v : Int) + 1 + x2 + x4), by simp [hl3], hlast1 _ (by omega) (by simp at hv1 ⊢; omega), k5', .inr ⟨by simp, 39, 1, _, rfl, rfl, .inl ⟨rfl, rfl, by rw [encs_one, gap_cells]⟩⟩⟩
      · have h3' : ¬ (x3 : Int) = 0 := by omega
        simp [k0, k1', k5, k6, hmo, sf, sc, hlf, hl3, h00, c1, c2, c3, h3, c6, hrz, hat, hx1i, hxn2, w1, w2, w3, hid, maxBytes, hq, hq39, List.take_append, List.drop_append, drop_bytes, hset1]
        refine ⟨[⟨iq, false, 0, 0, r⟩], by simp; omega, by simp; omega, by simpa using hrm, last.set x1 ((v : Int) + 1 + x2), by simp [hl3], hlast1 _ (by omega) (by simp at hv1 ⊢; omega), k6', .inr ⟨by simp, 39, 1, _, rfl, rfl, .inl ⟨rfl, rfl, by rw [encs_one, rec_cells]⟩⟩⟩
    have h00 : m < most := by omega
    have hkn : m * 39 = n := by omega
    have hlk : out.length = m := hm.symm
    have htk : List.take n (encs out) = encs out := List.take_of_length_le (by simp; omega)
    have hm1 : (m + 1) * 104 ≤ 140737488355328 := by omega
    have hm2 : m + 1 ≤ 140737488355328 := by omega
    rcases hH with ⟨rfl, rfl, rfl⟩ | ⟨rfl, rfl, rfl⟩
    all_goals
      by_cases h3 : x3 = 0
      · subst h3
        simp [k0, k1', k5, k6, hmo, sf, sc, hlf, hl3, h00, hkn, hlk, hm1, hm2, c1, c2, c3, c4, hat, hx1i, hxn2, w1, w2, w3, w4, w5, hid, maxBytes, hq, hq39, List.take_append, List.drop_append, drop_bytes, hset1]
        refine ⟨out ++ [⟨iq, true, (v : Int) + 1 + x2, (v : Int) + 1 + x2 + x4, recZ⟩], by simp; omega, by simp; omega, fun it h => ?_, last.set x1 ((v : Int) + 1 + x2 + x4), by simp [hl3], by simpa using hlast1 _ (by omega) (by simp at hv1 ⊢; omega), k5', .inr ⟨by simp, n + 39, m + 1, _, by simp; omega, by simp [hlk], .inr ⟨rfl, rfl, by rw [encs_snoc, gap_cells]⟩⟩⟩
        rcases List.mem_append.1 h with h | h
        · exact hmade it h
        · rw [List.mem_singleton.1 h]; exact hgm
      · have h3' : ¬ (x3 : Int) = 0 := by omega
        simp [k0, k1', k5, k6, hmo, sf, sc, hlf, hl3, h00, hkn, hlk, hm1, hm2, c1, c2, c3, h3, c6, hrz, hat, hx1i, hxn2, w1, w2, w3, hid, maxBytes, hq, hq39, List.take_append, List.drop_append, drop_bytes, hset1]
        refine ⟨out ++ [⟨iq, false, 0, 0, r⟩], by simp; omega, by simp; omega, fun it h => ?_, last.set x1 ((v : Int) + 1 + x2), by simp [hl3], by simpa using hlast1 _ (by omega) (by simp at hv1 ⊢; omega), k6', .inr ⟨by simp, n + 39, m + 1, _, by simp; omega, by simp [hlk], .inr ⟨rfl, rfl, by rw [encs_snoc, rec_cells]⟩⟩⟩
        rcases List.mem_append.1 h with h | h
        · exact hmade it h
        · rw [List.mem_singleton.1 h]; exact hrm
end Go.Ev.S
namespace Go.Ev.S
open Go Go.Proofs Go.Ev
theorem made_b {x : It} (hi : x.Ok) (ho : itOk x = true) : x.rc.fields.l.length < 1000000 ∧ ∀ p ∈ x.rc.fields.l, PrB p := by
  cases hg : x.gap with
  | true =>
    obtain ⟨-, -, -, -, -, -, -, -, h, -⟩ := gap_is hi ho hg
    rw [h]
    exact ⟨by decide, fun p hp => by cases hp⟩
  | false =>
    obtain ⟨-, -, -, -, -, h16, hp, -⟩ := rec_is hi ho hg
    refine ⟨by omega, fun p hq => ?_⟩
    obtain ⟨-, h1, h2⟩ := prOk_len (hp p hq)
    exact ⟨by omega, by omega⟩
structure BackL (A : List It) : Prop where
  ok : ∀ x ∈ A, x.Ok ∧ x.rc.fields.l.length < 1000000 ∧ ∀ p ∈ x.rc.fields.l, PrB p
  right : ∀ i (h : i < A.length), i + 1 < A.length → itOk A[i] = true
  n : A.length ≤ 5
end Go.Ev.S
namespace Go.Ev.S
open Go Go.Proofs Go.Ev
def sameP (x y : It) : Prop := x.id = y.id ∧ x.gap = y.gap ∧ x.fr = y.fr ∧ x.til = y.til ∧ x.rc.seq = y.rc.seq ∧ x.rc.real = y.rc.real ∧ x.rc.mono = y.rc.mono ∧ x.rc.boot = y.rc.boot ∧ x.rc.fields.l = y.rc.fields.l
theorem sameI_iff (x y : It) : sameI x y = true ↔ sameP x y := by
  unfold sameI sameR sameP
  simp only [Bool.and_eq_true, beq_iff_eq]
theorem sameP.symm {x y : It} (h : sameP x y) : sameP y x := ⟨h.1.symm, h.2.1.symm, h.2.2.1.symm, h.2.2.2.1.symm, h.2.2.2.2.1.symm, h.2.2.2.2.2.1.symm, h.2.2.2.2.2.2.1.symm, h.2.2.2.2.2.2.2.1.symm, h.2.2.2.2.2.2.2.2.symm⟩
theorem sameP.trans {x y z : It} (h : sameP x y) (k : sameP y z) : sameP x z := by
  obtain ⟨a1, a2, a3, a4, a5, a6, a7, a8, a9⟩ := h
  obtain ⟨b1, b2, b3, b4, b5, b6, b7, b8, b9⟩ := k
  exact ⟨a1.trans b1, a2.trans b2, a3.trans b3, a4.trans b4, a5.trans b5, a6.trans b6, a7.trans b7, a8.trans b8, a9.trans b9⟩
theorem text_same {x y : It} (h : sameP x y) : textL x = textL y := by
  obtain ⟨i, g, f, t, ⟨s, r, m, b, ⟨n1, l1, q1⟩⟩⟩ := x
  obtain ⟨i', g', f', t', ⟨s', r', m', b', ⟨n2, l2, q2⟩⟩⟩ := y
  obtain ⟨a1, a2, a3, a4, a5, a6, a7, a8, a9⟩ := h
  simp only at a1 a2 a3 a4 a5 a6 a7 a8 a9
  subst a1 a2 a3 a4 a5 a6 a7 a8 a9
  rfl
theorem texts_apart {x y : It} (hx : x.Ok) (hox : itOk x = true) (hy : y.Ok) (hoy : itOk y = true) : (textL x == textL y) = sameI x y := by
  rw [Bool.eq_iff_iff, beq_iff_eq, sameI_iff]
  refine ⟨fun h => ?_, text_same⟩
  have h1 := itemP_text hx hox []
  have h2 := itemP_text hy hoy []
  rw [h] at h1
  have h3 : normI x = normI y := h1.symm.trans h2
  have h4 := (sameI_iff _ _).1 (same_norm hx hox)
  have h5 := (sameI_iff _ _).1 (same_norm hy hoy)
  rw [h3] at h4
  exact h4.symm.trans h5
theorem text_some (x : It) : 0 < (textL x).length := by
  unfold textL
  split
  · exact List.length_pos_of_mem (a := 10) (by simp [textG])
  · exact List.length_pos_of_mem (a := 10) (by simp [textR])
set_option maxHeartbeats 8000000 in
set_option maxRecDepth 8000 in
theorem wapart_ev [MaxL] (a b : It) (hfa : a.Ok) (hfb : b.Ok) (nil : Bool) (zs : List Int) (hnil : nil = true → zs = []) (p q : Int) : call cx 4 [.agg (Enc.cells a), .agg (Enc.cells b), .vsl nil (intsK .i64 zs) zs.length, .int .i64 p, .int .i64 q] [] = some (.bool true, []) := by
  have f0 := first_ev
  have la := light_ev a
  have lb := light_ev b
  refine call_run Tryz.func4 rfl ⟨rfl, rfl⟩ ?_
  cases hla : lightP a with
  | false =>
    rw [hla] at la
    simp [Tryz.f4, f0, la]
  | true =>
  rw [hla] at la
  cases hlb : lightP b with
  | false =>
    rw [hlb] at lb
    simp [Tryz.f4, f0, la, lb]
  | true =>
  rw [hlb] at lb
  by_cases hz : zs.length ≤ 80
  case neg =>
    have hz' : (80 : Int) < (zs.length : Int) := by omega
    simp [Tryz.f4, f0, la, lb, hz']
  have hz' : ¬ (80 : Int) < (zs.length : Int) := by omega
  obtain ⟨st, hq, L, k', hL, hLm, hsh⟩ := items_ev nil zs hnil (by omega) 0 6 (by decide)
  have sf := seqD_free nil zs
  have sl := seqD_len nil zs
  have sc := seqD_cl nil zs
  obtain ⟨w, hw⟩ : ∃ w, L.length + 2 = w := ⟨_, rfl⟩
  obtain ⟨u, hu, hnu⟩ := num_ev p w (by omega) (by omega)
  obtain ⟨v, hv, hnv⟩ := num_ev q w (by omega) (by omega)
  obtain ⟨T, hT⟩ : ∃ T : List It, T = L ++ [a, b] := ⟨_, rfl⟩
  have hTl : T.length = w := by rw [hT, ← hw]; simp
  have hTe : encs T = encs L ++ (Enc.cells a ++ Enc.cells b) := by rw [hT, encs_append, encs_cons, encs_one]
  have hTf : ∀ x ∈ T, x.Ok ∧ x.rc.fields.l.length < 1000000 ∧ ∀ p ∈ x.rc.fields.l, PrB p := by
    intro x hx
    rw [hT] at hx
    rcases List.mem_append.1 hx with hx | hx
    · exact ⟨(hLm x hx).1, made_b (hLm x hx).1 (hLm x hx).2.1⟩
    · rcases List.mem_cons.1 hx with rfl | hx
      · have := light_b hla
        exact ⟨hfa, by omega, this.2⟩
      · rw [List.mem_singleton.1 hx]
        have := light_b hlb
        exact ⟨hfb, by omega, this.2⟩
  have hu' : u < T.length := by omega
  have hv' : v < T.length := by omega
  have huw : (u : Int) < (w : Int) := by omega
  have hvw : (v : Int) < (w : Int) := by omega
  have heu : List.drop (u * 39) (encs T) = Enc.cells T[u] ++ encs (T.drop (u + 1)) := It.ea hu'
  have hev : List.drop (v * 39) (encs T) = Enc.cells T[v] ++ encs (T.drop (v + 1)) := It.ea hv'
  obtain ⟨x1, x2, x3⟩ := hTf _ (List.getElem_mem hu')
  obtain ⟨y1, y2, y3⟩ := hTf _ (List.getElem_mem hv')
  rw [hTe] at heu hev
  generalize T[u] = x at *
  generalize T[v] = y at *
  have rx := wright_evX x
  have ry := wright_evX y
  have tx := text_ev x x1 x3 x2
  have ty := text_ev y y1 y3 y2
  have si := ritem_ev x y x2 y2
  have sb := sameb_ev (.of (textL x)) (.of (textL y))
  have hpx := text_some x
  have hpx' : ¬ (textL x).length = 0 := by omega
  unfold textD at tx ty
  have hm1 : w * 104 ≤ 140737488355328 := by omega
  have hm2 : w ≤ 140737488355328 := by omega
  have hsame : itOk x = true → itOk y = true → (textL x == textL y) = sameI x y := fun h1 h2 => texts_apart x1 h1 y1 h2
  replace sb : call cx 20 [.vsl false (ofBytes (textL x)) (textL x).length, .vsl false (ofBytes (textL y)) (textL y).length] [] = some (.bool (textL x == textL y), []) := sb
  have hab1 : ∀ x ∈ Enc.cells a ++ Enc.cells b, idFree x = true := by
    have h := encs_idFreeL [a, b]
    rw [encs_cons, encs_one, idFreeL_all, List.all_eq_true] at h
    exact h
  have hab2 : (Enc.cells a ++ Enc.cells b).length = 78 := by rw [List.length_append, It.cl, It.cl]
  have hab3 : ((∀ (z : D), z ∈ Enc.cells a ++ Enc.cells b → idFree z = true) ∧ (Enc.cells a ++ Enc.cells b).length = 78) = True := eq_true ⟨hab1, hab2⟩
  rcases hsh with ⟨hL0, hqe⟩ | ⟨hne, n', m', hn', hm', hqe⟩
  · subst hqe
    rw [hL0, encs_nil, List.nil_append] at heu hev
    have hw2 : w = 2 := by rw [← hw, hL0]; rfl
    subst hw2
    replace huw : (u : Int) < 2 := huw
    replace hvw : (v : Int) < 2 := hvw
    have huw' : u < 2 := by omega
    have hvw' : v < 2 := by omega
    replace hnu : call cx 18 [.int .i64 p, .int .i64 2] [] = some (.int .i64 u, []) := hnu
    replace hnv : call cx 18 [.int .i64 q, .int .i64 2] [] = some (.int .i64 v, []) := hnv
    replace hq : call cx 13 [.optr 0 2 0, .int .i64 6] [some [.vsl nil (intsK .i64 zs) zs.length, .int .i64 0]] = some (.vsl true [] 0, [some (seqD nil zs k')]) := hq
    cases hox : itOk x with
    | false =>
      rw [hox] at rx tx
      simp [Tryz.f4, f0, la, lb, hz', hq, sf, List.drop_of_length_le, -It.ea]
      simp only [if_pos (show (∀ (z : D), z ∈ Enc.cells a ++ Enc.cells b → idFree z = true) ∧ (Enc.cells a ++ Enc.cells b).length = 78 from ⟨hab1, hab2⟩)]
      simp [hnu, hnv, huw, hvw, heu, hev, rx, maxBytes, hm1, hm2, List.drop_of_length_le, -It.ea]
    | true =>
    cases hoy : itOk y with
    | false =>
      rw [hox] at rx tx
      rw [hoy] at ry ty
      simp [Tryz.f4, f0, la, lb, hz', hq, sf, List.drop_of_length_le, -It.ea]
      simp only [if_pos (show (∀ (z : D), z ∈ Enc.cells a ++ Enc.cells b → idFree z = true) ∧ (Enc.cells a ++ Enc.cells b).length = 78 from ⟨hab1, hab2⟩)]
      simp [hnu, hnv, huw, hvw, heu, hev, rx, ry, maxBytes, hm1, hm2, List.drop_of_length_le, -It.ea]
    | true =>
    rw [hox] at rx tx
    rw [hoy] at ry ty
    rw [hsame hox hoy] at sb
    simp [Tryz.f4, f0, la, lb, hz', hq, sf, List.drop_of_length_le, -It.ea]
    simp only [if_pos (show (∀ (z : D), z ∈ Enc.cells a ++ Enc.cells b → idFree z = true) ∧ (Enc.cells a ++ Enc.cells b).length = 78 from ⟨hab1, hab2⟩)]
    simp [hnu, hnv, huw, hvw, heu, hev, rx, ry, tx, ty, si, sb, hpx, maxBytes, hm1, hm2, List.drop_of_length_le, -It.ea]
  · subst hqe hn' hm'
    have huw' : u < w := hu
    have hvw' : v < w := hv
    obtain ⟨c, hc⟩ : ∃ c, L.length = c := ⟨_, rfl⟩
    replace hq : call cx 13 [.optr 0 2 0, .int .i64 6] [some [.vsl nil (intsK .i64 zs) zs.length, .int .i64 0]] = some (.osl 1 (c * 39) 0 c 39, [some (seqD nil zs k'), some (encs L)]) := by rw [← hc]; exact hq
    have hcw : c + 2 = w := by omega
    have hc0 : ¬ c = 0 := fun h => hne (List.length_eq_zero_iff.1 (by omega))
    cases hox : itOk x with
    | false =>
      rw [hox] at rx tx
      simp [Tryz.f4, f0, la, lb, hz', hq, sf, List.drop_of_length_le, -It.ea]
      simp only [if_pos (show (∀ (z : D), z ∈ Enc.cells a ++ Enc.cells b → idFree z = true) ∧ (Enc.cells a ++ Enc.cells b).length = 78 from ⟨hab1, hab2⟩)]
      simp [hnu, hnv, huw, hvw, heu, hev, rx, maxBytes, hm1, hm2, List.drop_of_length_le, hc, hcw, -It.ea]
    | true =>
    cases hoy : itOk y with
    | false =>
      rw [hox] at rx tx
      rw [hoy] at ry ty
      simp [Tryz.f4, f0, la, lb, hz', hq, sf, List.drop_of_length_le, -It.ea]
      simp only [if_pos (show (∀ (z : D), z ∈ Enc.cells a ++ Enc.cells b → idFree z = true) ∧ (Enc.cells a ++ Enc.cells b).length = 78 from ⟨hab1, hab2⟩)]
      simp [hnu, hnv, huw, hvw, heu, hev, rx, ry, maxBytes, hm1, hm2, List.drop_of_length_le, hc, hcw, -It.ea]
    | true =>
    rw [hox] at rx tx
    rw [hoy] at ry ty
    rw [hsame hox hoy] at sb
    simp [Tryz.f4, f0, la, lb, hz', hq, sf, List.drop_of_length_le, -It.ea]
    simp only [if_pos (show (∀ (z : D), z ∈ Enc.cells a ++ Enc.cells b → idFree z = true) ∧ (Enc.cells a ++ Enc.cells b).length = 78 from ⟨hab1, hab2⟩)]
    simp [hnu, hnv, huw, hvw, heu, hev, rx, ry, tx, ty, si, sb, hpx, maxBytes, hm1, hm2, List.drop_of_length_le, hc, hcw, -It.ea]
end Go.Ev.S
namespace Go.Ev.S
open Go Go.Proofs Go.Ev
theorem has_IDm {n : Nat} {cs : List D} (h : HasT Tryz.prog (n + 2) 23 cs) : ∃ i : ID, cs = ofBytes i.l := has_id un23 un5 h
theorem has_Pr {n : Nat} {cs : List D} (h : HasT Tryz.prog (n + 1 + 1) 70 cs) : ∃ p : Pr, cs = Enc.cells p ∧ (p.name.length ≤ maxLen ∧ p.value.length ≤ maxLen) := by
  have h := has_struct (P := Tryz.prog) (n := n + 1) (t := 70) Tryz.underlying70 h
  simp only [HasFs] at h
  obtain ⟨a, b, rfl, -, ha, c, d, rfl, -, hc, rfl⟩ := h
  obtain ⟨x1, rfl, w1⟩ := has_str un9 ha
  obtain ⟨x2, rfl, w2⟩ := has_str un9 hc
  exact ⟨⟨x1, x2⟩, by simp [Pr.cells], w1, w2⟩
theorem has_Rec {n : Nat} {cs : List D} (h : HasT Tryz.prog (n + 3 + 1) 27 cs) : ∃ r : Rec, cs = Enc.cells r ∧ (r.Ok ∧ r.Fit) := by
  have h := has_struct (P := Tryz.prog) (n := n + 3) (t := 27) Tryz.underlying27 h
  simp only [HasFs] at h
  obtain ⟨a, b, rfl, -, ha, c, d, rfl, -, hc, e, f, rfl, -, he, g, k, rfl, -, hg, i, j, rfl, -, hi, rfl⟩ := h
  obtain ⟨x1, rfl, w1⟩ := has_u64 un24 ha
  obtain ⟨x2, rfl, w2⟩ := has_u64 un24 hc
  obtain ⟨x3, rfl, w3⟩ := has_u64 un24 he
  obtain ⟨id, rfl⟩ := has_IDm hg
  obtain ⟨s, rfl, s1, s2⟩ := has_slice (α := Pr) un25 (fun l => has_Pr) hi
  exact ⟨⟨x1, x2, x3, id, s⟩, by simp [Rec.cells], ⟨w1, w2, w3⟩, s1, s2⟩
theorem has_It {n : Nat} {cs : List D} (h : HasT Tryz.prog (n + 4 + 1) 29 cs) : ∃ i : It, cs = Enc.cells i ∧ (i.Ok ∧ i.rc.Fit) := by
  have h := has_struct (P := Tryz.prog) (n := n + 4) (t := 29) Tryz.underlying29 h
  simp only [HasFs] at h
  obtain ⟨a, b, rfl, -, ha, c, d, rfl, -, hc, e, f, rfl, -, he, g, k, rfl, -, hg, i, j, rfl, -, hi, rfl⟩ := h
  obtain ⟨id, rfl⟩ := has_IDm ha
  obtain ⟨gap, rfl⟩ := has_bool un4 hc
  obtain ⟨x1, rfl, w1⟩ := has_u64 un24 he
  obtain ⟨x2, rfl, w2⟩ := has_u64 un24 hg
  obtain ⟨r, rfl, r1, r2⟩ := has_Rec hi
  exact ⟨⟨id, gap, x1, x2, r⟩, by simp [It.cells, Rec.cells], ⟨w1, w2, r1⟩, r2⟩
end Go.Ev.S
namespace Go.Ev
open Go Go.Proofs Go.ChangeShapes Go.WideShapes Go.ChangeAt Go.RowKit
theorem handed_shaped {H : Type} {enc : TypeId × Value → H} {a : Assume} {C : Checked} {os : Os} {f : FuncId} {fn : Func} {s : ChangeSpec} {conds : List PathCond} {apart fresh handsOn again : Bool} {X : World → Array Value → Prop}
    (hX : ∀ (w w' : World) (args : Array Value), w.heap = w'.heap → X w args → X w' args)
    (own : ownKnob C.prog.godebug = none) (started : os.Started) (noInit : C.prog.inits.idxOf? f = none) (hfn : C.prog.funcs[f]? = some fn)
    (witness : ∃ (w : World) (tape : Tape) (i : Input), w.os = os ∧ (w.forCall tape i).Shaped C.prog ∧ i.vars = [] ∧ Input.okWide C.prog (w.forCall tape i) .any w.heap.size f i ∧
      ((s.pre enc C.prog fn conds apart (w.forCall tape i).memory i.args ∧ X (w.forCall tape i).memory i.args) ∧ sizedMet enc C.prog fn (OpenSpec.ofChange s) apart (w.forCall tape i).memory i.args) ∧ a.holds C.prog (lone (Frame.enter C.prog f i.args .normal) [] (w.forCall tape i)))
    (contract : ∀ (W : World) (base : Nat) (args : Array Value) (ds gs : List (DataW H)) (before : List MemPlace),
      (∀ (j : Nat) t v, fn.params[j]? = some t → args[j]? = some v → Value.okWide C.prog W .any base t v) →
      DataW.Whole enc C.prog fn.params.toList s.vars apart W args.toList ds gs before → X W args → W.ShapedOpen C.prog →
      Calls C.prog f args W fun e W' => ∃ v, e = .returned v ∧ s.post enc C.prog fn apart fresh handsOn again W args v W') :
    ReturnsInHanded a C os f .any (fun w args => (s.pre enc C.prog fn conds apart w args ∧ X w args) ∧ sizedMet enc C.prog fn (OpenSpec.ofChange s) apart w args) (s.post enc C.prog fn apart fresh handsOn again) := by
  refine returnsInHanded_of_calls own started noInit witness ?_
  intro w tape i _ hsh _ hok hpre _
  obtain ⟨_, _, _, fn', hfn', _, _, _, _, hval⟩ := hok
  have e : fn' = fn := Option.some.inj (hfn'.symm.trans hfn)
  subst e
  obtain ⟨⟨⟨ds, gs, before, hw, hc⟩, hx⟩, hz⟩ := hpre
  have hw' := DataW.Whole.of_heap (w' := w.forCall tape i) (by rfl) hw
  refine (contract (w.forCall tape i) w.heap.size i.args ds gs before hval hw' (hX _ _ _ (by rfl) hx) hsh).mono fun e W' ⟨v, he, hp⟩ => ?_
  subst he
  exact ChangeSpec.post_blind hp
end Go.Ev
