import Derived.Test.YthhekddmmakfdaaGreatDoorC7
import Derived.Handed
import Derived.LaidMore
namespace Go.Ev.S
open Go Go.Proofs Go.Ev
def trD (q : List It × List Mk × Int) : D := .tup [(.vsl (Sl.grown q.1).nil (encs (Sl.grown q.1).l) (Sl.grown q.1).l.length), (.vsl (Sl.grown q.2.1).nil (encs (Sl.grown q.2.1).l) (Sl.grown q.2.1).l.length), .int .i64 q.2.2]
theorem leGet_at {l : List UInt8} (n : Nat) (hn : n = 2 ∨ n = 4) (a : Nat) : leGet l a n = if a + n ≤ l.length then some (leN ((l.drop a).take n)) else none := by
  unfold leGet
  have hz : szOk (n : Int) = true := by rcases hn with rfl | rfl <;> rfl
  by_cases h : a + n ≤ l.length
  · rw [if_pos ⟨hz, by omega, by omega⟩, if_pos h, Int.toNat_natCast, Int.toNat_natCast]
  · rw [if_neg (fun h' => h (by omega)), if_neg h]
theorem leN4 (l : List UInt8) : leN (l.take 4) < 4294967296 := by
  have h1 := leN_lt (l.take 4)
  have h2 : (l.take 4).length ≤ 4 := by rw [List.length_take]; omega
  exact Nat.lt_of_lt_of_le h1 (Nat.le_trans (Nat.pow_le_pow_right (by decide) h2) (by decide))
def GetH (out : List It) (d : D) (H : Heap) : Prop := (out = [] ∧ d = .vsl true [] 0 ∧ ∃ t, H = [some t]) ∨ (out ≠ [] ∧ ∃ n k, n = out.length * 39 ∧ k = out.length ∧ ((∃ t u, d = .osl 2 n 0 k 39 ∧ H = [some t, some u, some (encs out)]) ∨ (∃ t u, d = .osl 0 n 0 k 39 ∧ H = [some (encs out), some t, some u])))
set_option maxHeartbeats 4000000 in
set_option maxRecDepth 4000 in
theorem wget_ev [MaxL] (b : Sl UInt8) (hn : b.l.length < 1000000) : call cx 32 [(.vsl b.nil (ofBytes b.l) b.l.length)] [] = some (trD (getP b.l), []) := by
  have hop := copen_ev b (by omega)
  refine call_run Tryz.func32 rfl ⟨rfl, rfl⟩ ?_
  unfold openD at hop
  by_cases h4 : b.l.length < 4
  · have hg : getP b.l = ([], [], 22) := by unfold getP; rw [if_pos h4]
    rw [if_pos h4] at hop
    rw [hg]
    simp [Tryz.f32, hop, trD, Sl.grown]
  rw [if_neg h4] at hop
  cases hs : sumOk b.l with
  | false =>
    have hg : getP b.l = ([], [], 19) := by unfold getP; rw [if_neg h4, hs]; rfl
    rw [hs, if_neg (by decide)] at hop
    rw [hg]
    simp [Tryz.f32, hop, trD, Sl.grown]
  | true =>
  have hg : getP b.l = getX (b.l.take (b.l.length - 4)) := by unfold getP; rw [if_neg h4, hs]; rfl
  rw [hs, if_pos rfl] at hop
  rw [hg]
  have hxl : (b.l.take (b.l.length - 4)).length < 1000000 := by rw [List.length_take]; omega
  generalize b.l.take (b.l.length - 4) = x at *
  simp only [Sl.of_l, Sl.of_nil] at hop
  clear hg hs h4
  unfold getX
  by_cases hx4 : x.length < 4
  · have hx4' : (x.length : Int) < 4 := by omega
    rw [if_pos hx4]
    simp [Tryz.f32, hop, trD, Sl.grown, hx4']
  rw [if_neg hx4]
  have hx4' : ¬ (x.length : Int) < 4 := by omega
  have hpf := bpfx_ev (.of x) kSign (by simpa using hxl) (by decide) (by decide)
  replace hpf : call cx 49 [.vsl false (ofBytes x) x.length, .vsl false [.int .u8 68, .int .u8 66, .int .u8 65, .int .u8 84] 4] [] = some (.bool (pre kSign x), []) := hpf
  cases hp : pre kSign x with
  | false =>
    rw [hp] at hpf
    rw [if_neg (by decide)]
    simp [Tryz.f32, hop, trD, Sl.grown, hx4', hpf]
  | true =>
  rw [hp] at hpf
  rw [if_pos rfl]
  have hl2 := leget_ev (.of x) (4 : Nat) (2 : Nat) (by decide) (by simp; omega)
  rw [Sl.of_l, leGet_at 2 (.inl rfl) 4] at hl2
  by_cases hx6 : x.length < 6
  · rw [if_pos hx6]
    rw [if_neg (by omega)] at hl2
    unfold optN at hl2
    replace hl2 : call cx 72 [.vsl false (ofBytes x) x.length, .int .i64 4, .int .i64 2] [] = some (.tup [.int .u64 0, .bool false], []) := hl2
    simp [Tryz.f32, hop, trD, Sl.grown, hx4', hpf, hl2]
  rw [if_neg hx6]
  rw [if_pos (by omega)] at hl2
  unfold optN at hl2
  replace hl2 : call cx 72 [.vsl false (ofBytes x) x.length, .int .i64 4, .int .i64 2] [] = some (.tup [.int .u64 (leN ((x.drop 4).take 2) : Nat), .bool true], []) := hl2
  generalize leN ((x.drop 4).take 2) = many at *
  by_cases h64 : 64 < many
  · rw [if_pos h64]
    have h64' : (64 : Int) < (many : Int) := by omega
    simp [Tryz.f32, hop, trD, Sl.grown, hx4', hpf, hl2, h64']
  rw [if_neg h64]
  have h64' : ¬ (64 : Int) < (many : Int) := by omega
  have h6x : (6 : Int) ≤ (x.length : Int) := by omega
  have h6n : 6 ≤ x.length := by omega
  have hd6 : List.drop 6 (ofBytes x) = ofBytes (x.drop 6) := ofBytes_drop _ _
  have hr0 : (x.drop 6).length < 1000000 := by rw [List.length_drop]; omega
  have hl6 : ((x.length : Int) - 6) = ((x.drop 6).length : Int) := by rw [List.length_drop]; omega
  have hl6n : x.length - 6 = (x.drop 6).length := by rw [List.length_drop]
  obtain ⟨G, hG⟩ : ∃ G, getGo many (x.drop 6) [] = G := ⟨_, rfl⟩
  rw [hG]
  generalize x.drop 6 = r0 at *
  simp [Tryz.f32, hop, hx4', hpf, hl2, h64', h6x, hd6, hl6n]
  refine Run.loopThen (fun (q : Nat × List UInt8 × List It) e H => q.1 ≤ many ∧ getGo (many - q.1) q.2.1 q.2.2 = G ∧ q.2.2.length = q.1 ∧ q.2.1.length < 1000000 ∧ look e 0 = some (.vsl false (ofBytes q.2.1) q.2.1.length) ∧ (∃ d, look e 8 = some d ∧ GetH q.2.2 d H) ∧ look e 48 = some (.int .u64 (many : Nat)) ∧ look e 49 = some (.int .u64 (q.1 : Nat))) (fun q => many - q.1) (0, r0, []) ?_ ?_
  · exact ⟨Nat.zero_le _, hG, rfl, hr0, by simp, ⟨_, by simp, .inl ⟨rfl, rfl, _, rfl⟩⟩, by simp, by simp⟩
  rintro ⟨i, r, out⟩ e H ⟨hi, hR, ho, hrl, k0, ⟨d, k8, hH⟩, k48, k49⟩
  simp only at hi hR ho hrl k0 hH k49
  have hH2 : (out = [] ∧ d = .vsl true [] 0 ∧ ∃ t, H = [some t]) ∨ (∃ n k, n = out.length * 39 ∧ k = out.length ∧ out ≠ [] ∧ List.take n (encs out) = encs out ∧ k * 39 = n ∧ k ≤ 64 ∧ ((∃ t u, d = .osl 2 n 0 k 39 ∧ H = [some t, some u, some (encs out)]) ∨ (∃ t u, d = .osl 0 n 0 k 39 ∧ H = [some (encs out), some t, some u]))) := by
    rcases hH with h | ⟨hne, n, k, hn, hk, h⟩
    · exact .inl h
    · exact .inr ⟨n, k, hn, hk, hne, List.take_of_length_le (by simp; omega), by omega, by omega, h⟩
  clear hH
  by_cases hlt : i < many
  · have hw : IntKind.u64.wrap ((i : Int) + 1) = ((i + 1 : Nat) : Int) := by rw [wrap_u64] <;> omega
    have hl4 := leget_ev (.of r) (0 : Nat) (4 : Nat) (by decide) (by simp; omega)
    rw [Sl.of_l, leGet_at 4 (.inr rfl) 0] at hl4
    rw [show many - i = (many - (i + 1)) + 1 by omega, getGo] at hR
    have hk := leN4 r
    by_cases hr4 : r.length < 4
    · rw [if_pos (.inl hr4)] at hR
      rw [if_neg (by omega)] at hl4
      unfold optN at hl4
      replace hl4 : call cx 72 [.vsl false (ofBytes r) r.length, .int .i64 0, .int .i64 4] [] = some (.tup [.int .u64 0, .bool false], []) := hl4
      subst hR
      rcases hH2 with ⟨rfl, rfl, tt, rfl⟩ | ⟨nn, kk, hnn, hkk, hne, htk, hkn, hk64, ⟨tt, uu, rfl, rfl⟩ | ⟨tt, uu, rfl, rfl⟩⟩
      · simp [k0, k8, k48, k49, hlt, hl4, trD, Sl.grown]
      all_goals
        have hlk : out.length = kk := hkk.symm
        simp [k0, k8, k48, k49, hlt, hl4, trD, Sl.grown]
    rw [if_pos (by omega), List.drop_zero] at hl4
    unfold optN at hl4
    replace hl4 : call cx 72 [.vsl false (ofBytes r) r.length, .int .i64 0, .int .i64 4] [] = some (.tup [.int .u64 (leN (r.take 4) : Nat), .bool true], []) := hl4
    obtain ⟨n, hn'⟩ : ∃ n, leN (r.take 4) = n := ⟨_, rfl⟩
    rw [hn'] at hl4 hR hk
    have hws : IntKind.i64.wrap ((r.length : Int) - 4) = (r.length : Int) - 4 := by rw [wrap_i64]; omega
    have hwu : IntKind.u64.wrap ((r.length : Int) - 4) = (r.length : Int) - 4 := by rw [wrap_u64]; omega
    by_cases hbig : r.length - 4 < n
    · rw [if_pos (.inr hbig)] at hR
      have hbig' : (r.length : Int) - 4 < (n : Int) := by omega
      subst hR
      rcases hH2 with ⟨rfl, rfl, tt, rfl⟩ | ⟨nn, kk, hnn, hkk, hne, htk, hkn, hk64, ⟨tt, uu, rfl, rfl⟩ | ⟨tt, uu, rfl, rfl⟩⟩
      · simp [k0, k8, k48, k49, hlt, hl4, hws, hwu, hbig', trD, Sl.grown]
      all_goals
        have hlk : out.length = kk := hkk.symm
        simp [k0, k8, k48, k49, hlt, hl4, hws, hwu, hbig', trD, Sl.grown]
    rw [if_neg (by omega)] at hR
    have hbig' : ¬ (r.length : Int) - 4 < (n : Int) := by omega
    have hw4 : IntKind.u64.wrap (4 + (n : Int)) = ((4 + n : Nat) : Int) := by rw [wrap_u64] <;> omega
    have hwn : IntKind.i64.wrap (n : Int) = (n : Int) := by rw [wrap_i64]; omega
    obtain ⟨t, ht⟩ : ∃ t, (r.drop 4).take n = t := ⟨_, rfl⟩
    have htl : t.length = n := by rw [← ht, List.length_take, List.length_drop]; omega
    rw [ht] at hR
    have hrd := readS_ev (.of t) (by simp; omega)
    simp only [Sl.of_l, Sl.of_nil, htl] at hrd
    have htd : List.take n (List.drop 4 (ofBytes r)) = ofBytes t := by rw [ofBytes_drop, ofBytes_take, ht]
    have q1 : (0 : Int) ≤ 4 + (n : Int) := by omega
    have q2 : (4 : Int) + (n : Int) ≤ (r.length : Int) := by omega
    have q3 : (4 : Int) ≤ 4 + (n : Int) := by omega
    have q4 : ((4 : Int) + (n : Int)).toNat = 4 + n := by omega
    have q5 : 4 + n - 4 = n := by omega
    have q6 : r.length - (4 + n) = (r.drop (4 + n)).length := by rw [List.length_drop]
    have hdd : List.drop (4 + n) (ofBytes r) = ofBytes (r.drop (4 + n)) := ofBytes_drop _ _
    have hr2 : (r.drop (4 + n)).length < 1000000 := by rw [List.length_drop]; omega
    generalize r.drop (4 + n) = r2 at *
    by_cases hok : readOk t = true ∧ (textL (itemP t)).length = n
    · rw [if_pos hok] at hR
      have e1 : rdI t = itemP t := by unfold rdI; rw [if_pos hok.1]
      have e2 : rdN t = n := by unfold rdN; rw [if_pos hok.1, hok.2]
      have e3 : rdC t = 0 := by unfold rdC; rw [if_pos hok.1]
      rw [e1, e2, e3] at hrd
      have hu : IntKind.u64.wrap ((i : Int) + 1) = ((i + 1 : Nat) : Int) := hw
      generalize itemP t = y at *
      rcases hH2 with ⟨rfl, rfl, tt, rfl⟩ | ⟨nn, kk, hnn, hkk, hne, htk, hkn, hk64, ⟨tt, uu, rfl, rfl⟩ | ⟨tt, uu, rfl, rfl⟩⟩
      · simp [k0, k8, k48, k49, hlt, hl4, hws, hwu, hbig', hw4, hwn, htd, hdd, hrd, q1, q2, q3, q4, q5, q6, maxBytes]
        exact ⟨i + 1, by omega, by omega, r2, [y], hR, by rw [← ho]; rfl, hr2, ⟨rfl, rfl⟩, .inr ⟨by simp, 39, 1, rfl, rfl, .inl ⟨_, _, rfl, by rw [encs_one]⟩⟩, hu⟩
      all_goals
        have hlk : out.length = kk := hkk.symm
        have m1 : (kk + 1) * 104 ≤ 140737488355328 := by omega
        have m2 : kk ≤ 140737488355327 := by omega
        simp [hlk, hkn, k0, k8, k48, k49, hlt, hl4, hws, hwu, hbig', hw4, hwn, htd, hdd, hrd, q1, q2, q3, q4, q5, q6, maxBytes, m1, m2]
        exact ⟨i + 1, by omega, by omega, r2, out ++ [y], hR, by simp [ho], hr2, ⟨rfl, rfl⟩, .inr ⟨by simp, nn + 39, kk + 1, by simp; omega, by simp [hlk], .inr ⟨_, _, rfl, by rw [encs_snoc]⟩⟩, hu⟩
    · rw [if_neg hok] at hR
      subst hR
      cases hro : readOk t with
      | false =>
        have e1 : rdC t = 20 := by unfold rdC; rw [hro]; rfl
        rw [e1] at hrd
        generalize rdI t = y at *
        generalize rdN t = z at *
        rcases hH2 with ⟨rfl, rfl, tt, rfl⟩ | ⟨nn, kk, hnn, hkk, hne, htk, hkn, hk64, ⟨tt, uu, rfl, rfl⟩ | ⟨tt, uu, rfl, rfl⟩⟩
        · simp [k0, k8, k48, k49, hlt, hl4, hws, hwu, hbig', hw4, htd, hrd, q1, q2, q3, q4, q5, trD, Sl.grown]
        all_goals
          have hlk : out.length = kk := hkk.symm
          simp [k0, k8, k48, k49, hlt, hl4, hws, hwu, hbig', hw4, htd, hrd, q1, q2, q3, q4, q5, trD, Sl.grown]
      | true =>
        have e1 : rdC t = 0 := by unfold rdC; rw [hro]; rfl
        have e2 : ¬ (textL (itemP t)).length = n := fun h => hok ⟨hro, h⟩
        have e3 : rdN t = (textL (itemP t)).length := by unfold rdN; rw [hro]; rfl
        rw [e1, e3] at hrd
        generalize rdI t = y at *
        generalize (textL (itemP t)).length = z at *
        have e2' : ¬ (z : Int) = (n : Int) := by omega
        rcases hH2 with ⟨rfl, rfl, tt, rfl⟩ | ⟨nn, kk, hnn, hkk, hne, htk, hkn, hk64, ⟨tt, uu, rfl, rfl⟩ | ⟨tt, uu, rfl, rfl⟩⟩
        · simp [k0, k8, k48, k49, hlt, hl4, hws, hwu, hbig', hw4, hwn, htd, hrd, q1, q2, q3, q4, q5, e2', trD, Sl.grown]
        all_goals
          have hlk : out.length = kk := hkk.symm
          simp [k0, k8, k48, k49, hlt, hl4, hws, hwu, hbig', hw4, hwn, htd, hrd, q1, q2, q3, q4, q5, e2', trD, Sl.grown]
  · have hk : many - i = 0 := by omega
    rw [hk, getGo] at hR
    have hm := mread_ev (.of r) (by simp; omega)
    simp only [Sl.of_l, Sl.of_nil] at hm
    obtain ⟨q, hq⟩ : ∃ q, readM r = q := ⟨_, rfl⟩
    rw [hq] at hm hR
    by_cases h0 : q.2 = 0
    · rw [if_pos h0] at hR
      have hnn : 0 ≤ Go.Ev.readN q := by unfold Go.Ev.readN; rw [if_pos h0]; omega
      by_cases hle : Go.Ev.readN q < (r.length : Int)
      · rw [if_pos hle] at hR
        subst hR
        rcases hH2 with ⟨rfl, rfl, tt, rfl⟩ | ⟨nn, kk, hnn, hkk, hne, htk, hkn, hk64, ⟨tt, uu, rfl, rfl⟩ | ⟨tt, uu, rfl, rfl⟩⟩
        · simp [k0, k8, k48, k49, hlt, hm, h0, hle, trD, Sl.grown]
        all_goals
          have hlk : out.length = kk := hkk.symm
          simp [k0, k8, k48, k49, hlt, hm, h0, hle, trD, Sl.grown]
      · rw [if_neg hle] at hR
        subst hR
        rcases hH2 with ⟨rfl, rfl, tt, rfl⟩ | ⟨nn, kk, hnn, hkk, hne, htk, hkn, hk64, ⟨tt, uu, rfl, rfl⟩ | ⟨tt, uu, rfl, rfl⟩⟩
        · simp [k0, k8, k48, k49, hlt, hm, h0, hle, trD, Sl.grown]
        all_goals
          have hlk : out.length = kk := hkk.symm
          simp [hlk, htk, hkn, k0, k8, k48, k49, hlt, hm, h0, hle, trD, Sl.grown, hne]
    · rw [if_neg h0] at hR
      subst hR
      rcases hH2 with ⟨rfl, rfl, tt, rfl⟩ | ⟨nn, kk, hnn, hkk, hne, htk, hkn, hk64, ⟨tt, uu, rfl, rfl⟩ | ⟨tt, uu, rfl, rfl⟩⟩
      · simp [k0, k8, k48, k49, hlt, hm, h0, trD, Sl.grown]
      all_goals
        have hlk : out.length = kk := hkk.symm
        simp [k0, k8, k48, k49, hlt, hm, h0, trD, Sl.grown]
end Go.Ev.S
namespace Go.Ev.S
open Go Go.Proofs Go.Ev
end Go.Ev.S
namespace Go.Ev.S
open Go Go.Proofs Go.Ev
end Go.Ev.S
namespace Go.Ev.S
open Go Go.Proofs Go.Ev
theorem idN_lt : ∀ j < 4, ∀ i < j, cmpB (idN i).l (idN j).l < 0 := by decide
structure FewN (i : Nat) (l : List Mk) : Prop where
  rises : risesM l = true
  ok : ∀ m ∈ l, m.Ok
  id : ∀ m ∈ l, ∃ j, j < i ∧ m.id = idN j
  len : l.length ≤ i
theorem rises_snocN : ∀ {l : List Mk} {m : Mk}, risesM l = true → (∀ x ∈ l, cmpB x.id.l m.id.l < 0) → risesM (l ++ [m]) = true
  | [], _, _, _ => rfl
  | [a], m, _, h => by simp [risesM, h a (List.mem_cons_self ..)]
  | a :: b :: l, m, hr, h => by
    simp only [risesM, Bool.and_eq_true] at hr
    have := rises_snocN (l := b :: l) hr.2 fun x hx => h x (List.mem_cons_of_mem _ hx)
    simp only [List.cons_append, risesM, Bool.and_eq_true] at this ⊢
    exact ⟨hr.1, this⟩
theorem FewN.same {i : Nat} {l : List Mk} (h : FewN i l) : FewN (i + 1) l :=
  ⟨h.rises, h.ok, fun m hm => by obtain ⟨j, h1, h2⟩ := h.id m hm; exact ⟨j, by omega, h2⟩, by have := h.len; omega⟩
theorem FewN.add {i : Nat} {l : List Mk} (h : FewN i l) (hi : i < 4) {a b c : Nat} (ha : a < 1000) (hb : b < 1000) (hc : c < 1000) : FewN (i + 1) (l ++ [⟨idN i, a, b, c⟩]) := by
  refine ⟨rises_snocN h.rises fun x hx => ?_, fun m hm => ?_, fun m hm => ?_, by have := h.len; simp; omega⟩
  · obtain ⟨j, h1, h2⟩ := h.id x hx
    rw [h2]
    exact idN_lt i hi j h1
  · rcases List.mem_append.1 hm with h' | h'
    · exact h.ok m h'
    · rw [List.mem_singleton.1 h']
      exact ⟨by simp only [isU64]; omega, by simp only [isU64]; omega, by simp only [isU64]; omega⟩
  · rcases List.mem_append.1 hm with h' | h'
    · obtain ⟨j, h1, h2⟩ := h.id m h'
      exact ⟨j, by omega, h2⟩
    · rw [List.mem_singleton.1 h']
      exact ⟨i, by omega, rfl⟩
end Go.Ev.S
namespace Go.Ev.S
open Go Go.Proofs Go.Ev
theorem made_itsB {L : List It} (h : ∀ x ∈ L, MadeI x) : ItsB L := fun x hx => by
  obtain ⟨h1, h2, h3, h4⟩ := h x hx
  refine ⟨h1, by omega, fun p hp => ?_⟩
  have := mkOk_len (h4 p hp)
  exact ⟨by omega, by omega⟩
end Go.Ev.S
namespace Go.Ev.S
open Go Go.Proofs Go.Ev
structure BackL (A : List It) : Prop where
  ok : ∀ x ∈ A, x.Ok ∧ x.rc.fields.l.length < 1000000 ∧ ∀ p ∈ x.rc.fields.l, PrB p
  right : ∀ i (h : i < A.length), i + 1 < A.length → itOk A[i] = true
  n : A.length ≤ 5
end Go.Ev.S
namespace Go.Ev.S
open Go Go.Proofs Go.Ev
theorem mbytesA_ev [MaxL] (s : Sl UInt8) (h2 : s.l.length ≤ 1000000) : call cx 17 [(.vsl s.nil (ofBytes s.l) s.l.length)] [] = some (.osl 0 s.l.length 0 s.l.length 1, [some (ofBytes s.l)]) := by
  have hm : s.l.length ≤ 140737488355328 := by omega
  refine call_run Tryz.func17 rfl ⟨rfl, rfl⟩ ?_
  simp [Tryz.f17, maxBytes, hm]
theorem ofBytes_put {o : List UInt8} {j : Nat} (h : j < o.length) {x : Nat} (hx : x < 256) : List.take j (ofBytes o) ++ D.int .u8 (x : Int) :: List.drop (j + 1) (ofBytes o) = ofBytes (o.set j (UInt8.ofNat x)) := by
  rw [List.set_eq_take_append_cons_drop, if_pos h, ofBytes_append, ofBytes_cons, ofBytes_take, ofBytes_drop, UInt8.toNat_ofNat_of_lt' hx]
def SpoilQ (b : List UInt8) (q : D × Heap) : Prop := ∃ o : List UInt8, o.length = b.length ∧ q = (.vsl false (ofBytes o) o.length, [])
set_option maxHeartbeats 2000000 in
theorem spoil_ev [MaxL] (b : Sl UInt8) (hb : b.l.length ≤ 100000) (nil : Bool) (zs : List Int) (hnil : nil = true → zs = []) (hz : zs.length ≤ 1000000) (y : UInt8) : ∃ q, call cx 31 [(.vsl b.nil (ofBytes b.l) b.l.length), .vsl nil (intsK .i64 zs) zs.length, .int .u8 y.toNat] [] = some q ∧ SpoilQ b.l q := by
  refine call_runE (X := cx) (f := 31) (args := [(.vsl b.nil (ofBytes b.l) b.l.length), .vsl nil (intsK .i64 zs) zs.length, .int .u8 y.toNat]) (H := []) (SpoilQ b.l) Tryz.func31 rfl ⟨rfl, rfl⟩ ?_
  have c1 := mbytesA_ev b (by omega)
  simp [Tryz.f31, c1]
  refine Run.loopThen (fun (q : Nat × List UInt8) e H' => q.1 ≤ zs.length ∧ q.2.length = b.l.length ∧ H' = [some (ofBytes q.2)] ∧ look e 1 = some (.vsl nil (intsK .i64 zs) zs.length) ∧ look e 2 = some (.int .u8 (y.toNat : Nat)) ∧ look e 7 = some (.osl 0 b.l.length 0 b.l.length 1) ∧ look e 8 = some (.int .i64 (q.1 : Nat))) (fun q => zs.length - q.1) (0, b.l) ⟨Nat.zero_le _, rfl, by simp, by simp, by simp, by simp, by simp⟩ ?_
  rintro ⟨k, o⟩ e H' ⟨hk, ho, rfl, k1, k2, k7, k8⟩
  simp only at hk ho k8
  by_cases hlt : k < zs.length
  · have hlt' : (k : Int) < (zs.length : Int) := by omega
    have hnf : nil = false := by
      cases nil with
      | false => rfl
      | true => rw [hnil rfl] at hlt; exact absurd hlt (Nat.not_lt_zero _)
    have hw : IntKind.i64.wrap ((k : Int) + 1) = ((k + 1 : Nat) : Int) := by rw [wrap_i64] <;> omega
    have hat := intsK_at (k := .i64) hlt
    by_cases h0 : 0 < b.l.length
    · obtain ⟨j, hj, c2⟩ := numI_ev zs[k] b.l.length (by omega) (by omega)
      have hjo : j < o.length := by omega
      have hx := xor8 (a := o[j].toNat) (b := y.toNat) (UInt8.toNat_lt _) (UInt8.toNat_lt _)
      have hat2 := ofBytes_at hjo
      have hjb : j < b.l.length := by omega
      have hj1 : j + 1 ≤ b.l.length := by omega
      have hput := ofBytes_put hjo (x := o[j].toNat ^^^ y.toNat) (Nat.xor_lt_two_pow (n := 8) (UInt8.toNat_lt _) (UInt8.toNat_lt _))
      simp [k1, k2, k7, k8, hlt', hw, hat, hnf, h0, c2, hx, hat2, hjb, ho, hj1, hput]
      exact ⟨k + 1, by omega, by omega, _, by simp [ho], rfl, by omega⟩
    · have hl0 : b.l.length = 0 := by omega
      have ho0 : o = [] := List.eq_nil_of_length_eq_zero (by omega)
      subst ho0
      simp [k1, k2, k7, k8, hlt', hl0]
      exact ⟨[], by rw [hl0]; rfl, rfl⟩
  · have hlt' : ¬ (k : Int) < (zs.length : Int) := by omega
    have htk : List.take b.l.length (ofBytes o) = ofBytes o := List.take_of_length_le (by simp [ho])
    simp [k1, k2, k7, k8, hlt', htk, ho]
    exact ⟨o, ho, by rw [ho]⟩
end Go.Ev.S
namespace Go.Ev.S
open Go Go.Proofs Go.Ev
end Go.Ev.S
namespace Go.Ev.S
open Go Go.Proofs Go.Ev
theorem leB_take {n : Nat} {r : List UInt8} (h : n ≤ r.length) : leB n (leN (r.take n)) = r.take n := by
  have := leB_leN (r.take n)
  rwa [List.length_take, Nat.min_eq_left h] at this
theorem mkOf_ok (r : List UInt8) : (mkOf r).Ok := by
  have h : ∀ l : List UInt8, leN (l.take 8) < 18446744073709551616 := fun l => by
    have h1 := leN_lt (l.take 8)
    have h2 : (l.take 8).length ≤ 8 := by rw [List.length_take]; omega
    exact Nat.lt_of_lt_of_le h1 (Nat.le_trans (Nat.pow_le_pow_right (by decide) h2) (by decide))
  refine ⟨?_, ?_, ?_⟩ <;> simp only [mkOf, isU64]
  · have := h (r.drop 16); omega
  · have := h (r.drop 24); omega
  · have := h (r.drop 32); omega
theorem mkB_of {r : List UInt8} (h : 40 ≤ r.length) : mkB (mkOf r) = r.take 40 := by
  have e : ∀ n, n + 8 ≤ r.length → leB 8 (leN ((r.drop n).take 8)) = (r.drop n).take 8 := fun n hn => leB_take (by rw [List.length_drop]; omega)
  have hi : (ID.mk' (r.take 16)).l = r.take 16 := by
    unfold ID.mk'
    rw [dif_pos (by rw [List.length_take]; omega)]
  unfold mkB mkOf
  simp only [Int.toNat_natCast]
  rw [e 16 (by omega), e 24 (by omega), e 32 (by omega), hi]
  have s : ∀ (a b : Nat) (l : List UInt8), l.take (a + b) = l.take a ++ (l.drop a).take b := fun a b l => List.take_add
  rw [show (40 : Nat) = 16 + (8 + (8 + 8)) from rfl, s, s, s, List.drop_drop, List.drop_drop]
theorem rises_snoc' {out : List Mk} {m : Mk} (hr : risesM out = true) (hl : lastGe out m.id.l = false) : risesM (out ++ [m]) = true := by
  induction out with
  | nil => rfl
  | cons a o ih =>
    cases o with
    | nil =>
      have : cmpB a.id.l m.id.l < 0 := by
        simp [lastGe] at hl
        omega
      simp [risesM, this]
    | cons b o =>
      simp only [List.cons_append, risesM, Bool.and_eq_true] at hr ih ⊢
      refine ⟨hr.1, ih hr.2 ?_⟩
      unfold lastGe at hl ⊢
      rw [List.getLast?_cons_cons] at hl
      exact hl
theorem readGo_is : ∀ (k : Nat) (r : List UInt8) (out o : List Mk), risesM out = true → (∀ m ∈ out, m.Ok) → readGo k r out = (o, 0) → ∃ l, o = out ++ l ∧ l.length = k ∧ 40 * k ≤ r.length ∧ l.flatMap mkB = r.take (40 * k) ∧ risesM o = true ∧ ∀ m ∈ o, m.Ok
  | 0, r, out, o, hr, hok, h => by
    rw [readGo, Prod.mk.injEq] at h
    obtain ⟨rfl, -⟩ := h
    exact ⟨[], by simp, rfl, by omega, by simp, hr, hok⟩
  | k + 1, r, out, o, hr, hok, h => by
    rw [readGo] at h
    split at h
    · cases h
    · split at h
      · cases h
      · split at h
        · cases h
        · rename_i h16 hl h40
          have hid : (mkOf r).id.l = r.take 16 := by
            unfold mkOf ID.mk'
            simp only
            rw [dif_pos (by rw [List.length_take]; omega)]
          have hl' : lastGe out (mkOf r).id.l = false := by rw [hid]; simpa using hl
          obtain ⟨l, e1, e2, e3, e4, e5, e6⟩ := readGo_is k (r.drop 40) (out ++ [mkOf r]) o (rises_snoc' hr hl') (fun m hm => by
            rcases List.mem_append.1 hm with h' | h'
            · exact hok m h'
            · rw [List.mem_singleton.1 h']; exact mkOf_ok r) h
          rw [List.length_drop] at e3
          refine ⟨mkOf r :: l, by rw [e1, List.append_assoc]; rfl, by rw [List.length_cons, e2], by omega, ?_, e5, e6⟩
          rw [List.flatMap_cons, e4, mkB_of (by omega), show 40 * (k + 1) = 40 + 40 * k by omega, List.take_add]
theorem readM_is {b : List UInt8} {l : List Mk} (h : readM b = (l, 0)) (hn : ¬ Go.Ev.readN (l, 0) < (b.length : Int)) : rightM l = true ∧ mksB l = b ∧ ∀ m ∈ l, m.Ok := by
  cases b with
  | nil => cases h
  | cons c r =>
    unfold readM at h
    simp only at h
    split at h
    · cases h
    · rename_i h4
      obtain ⟨l', e1, e2, e3, e4, e5, e6⟩ := readGo_is c.toNat r [] l rfl (fun m hm => by cases hm) h
      rw [List.nil_append] at e1
      subst e1
      unfold Go.Ev.readN at hn
      rw [List.length_cons] at hn
      simp only [if_true] at hn
      refine ⟨?_, ?_, e6⟩
      · unfold rightM
        rw [e5, Bool.and_true, decide_eq_true_eq]
        omega
      · unfold mksB
        rw [e4, e2, List.take_of_length_le (by omega)]
        simp
theorem ok_text {t : List UInt8} (h : readOk t = true) (hl : (textL (itemP t)).length = t.length) : itOk (itemP t) = true ∧ textL (itemP t) = t := by
  unfold readOk at h
  rw [Bool.and_eq_true] at h
  refine ⟨h.1, ?_⟩
  have := pre_is h.2
  rw [hl, List.drop_length, List.append_nil] at this
  exact this.symm
structure GotI (x : It) : Prop where
  ok : x.Ok
  is : itOk x = true
  b : (∀ p ∈ x.rc.fields.l, PrB p) ∧ x.rc.fields.l.length < 1000000
theorem getGo_is : ∀ (k : Nat) (r : List UInt8) (out o : List It) (m : List Mk), r.length < 1000000 → getGo k r out = (o, m, 0) → ∃ l, o = out ++ l ∧ l.length = k ∧ (∀ x ∈ l, GotI x) ∧ r = l.flatMap itB ++ mksB m ∧ rightM m = true ∧ ∀ x ∈ m, x.Ok
  | 0, r, out, o, m, hb, h => by
    rw [getGo] at h
    split at h
    · rename_i h0
      split at h
      · cases h
      · rename_i hn
        simp only [Prod.mk.injEq] at h
        obtain ⟨rfl, rfl, -⟩ := h
        have hm : readM r = ((readM r).1, 0) := Prod.ext rfl h0
        rw [hm] at hn
        obtain ⟨e1, e2, e3⟩ := readM_is hm hn
        exact ⟨[], by simp, rfl, by simp, by simpa using e2.symm, e1, e3⟩
    · rename_i h0
      simp only [Prod.mk.injEq] at h
      exact absurd h.2.2 h0
  | k + 1, r, out, o, m, hb, h => by
    rw [getGo] at h
    split at h
    · cases h
    · rename_i hsz
      split at h
      · rename_i hok
        obtain ⟨n, hn⟩ : ∃ n, leN (r.take 4) = n := ⟨_, rfl⟩
        rw [hn] at h hok hsz
        have hdl : ((r.drop 4).take n).length = n := by rw [List.length_take, List.length_drop]; omega
        obtain ⟨t1, t2⟩ := ok_text hok.1 (by rw [hok.2, hdl])
        have hq := itemP_ok ((r.drop 4).take n)
        have hq2 := itemP_b ((r.drop 4).take n) (by omega)
        obtain ⟨l, e1, e2, e3, e4, e5, e6⟩ := getGo_is k (r.drop (4 + n)) _ o m (by rw [List.length_drop]; omega) h
        refine ⟨itemP ((r.drop 4).take n) :: l, by rw [e1, List.append_assoc]; rfl, by rw [List.length_cons, e2], fun x hx => ?_, ?_, e5, e6⟩
        · rcases List.mem_cons.1 hx with rfl | hx
          · exact ⟨hq, t1, hq2⟩
          · exact e3 x hx
        · have hi : itB (itemP ((r.drop 4).take n)) = r.take (4 + n) := by
            unfold itB
            rw [t2, hdl, List.take_add, ← hn, leB_take (by omega)]
          rw [List.flatMap_cons, hi, List.append_assoc, ← e4, List.take_append_drop]
      · cases h
theorem getGo_bad : ∀ (k : Nat) (r : List UInt8) (out o : List It) (m : List Mk) (e : Int), getGo k r out = (o, m, e) → e ≠ 0 → o = [] ∧ m = []
  | 0, r, out, o, m, e, h, he => by
    rw [getGo] at h
    split at h
    · split at h
      · cases h; exact ⟨rfl, rfl⟩
      · simp only [Prod.mk.injEq] at h
        exact absurd h.2.2.symm he
    · cases h; exact ⟨rfl, rfl⟩
  | k + 1, r, out, o, m, e, h, he => by
    rw [getGo] at h
    split at h
    · cases h; exact ⟨rfl, rfl⟩
    · split at h
      · exact getGo_bad k _ _ o m e h he
      · cases h; exact ⟨rfl, rfl⟩
theorem getX_is {x : List UInt8} {l : List It} {m : List Mk} (hx : x.length < 1000000) (h : getX x = (l, m, 0)) : putOk l m = true ∧ rawB l m = x ∧ (∀ y ∈ l, GotI y) ∧ ∀ y ∈ m, y.Ok := by
  unfold getX at h
  split at h
  · cases h
  · split at h
    · rename_i h4 hp
      split at h
      · cases h
      · rename_i h6
        split at h
        · cases h
        · rename_i h64
          obtain ⟨l', e1, e2, e3, e4, e5, e6⟩ := getGo_is _ _ [] l m (by rw [List.length_drop]; omega) h
          rw [List.nil_append] at e1
          subst e1
          have hk := pre_is hp
          refine ⟨?_, ?_, e3, e6⟩
          · unfold putOk
            simp only [Bool.and_eq_true, decide_eq_true_eq, List.all_eq_true]
            exact ⟨by omega, e5, fun y hy => (e3 y hy).is⟩
          · unfold rawB
            have hl2 : leB 2 l.length = (x.drop 4).take 2 := by rw [e2, leB_take (by rw [List.length_drop]; omega)]
            rw [hl2, ← e4, show (6 : Nat) = 4 + 2 from rfl, ← List.drop_drop, List.take_append_drop]
            exact hk.symm
    · cases h
theorem getX_bad {x : List UInt8} {l : List It} {m : List Mk} {e : Int} (h : getX x = (l, m, e)) (he : e ≠ 0) : l = [] ∧ m = [] := by
  unfold getX at h
  split at h
  · cases h; exact ⟨rfl, rfl⟩
  · split at h
    · split at h
      · cases h; exact ⟨rfl, rfl⟩
      · split at h
        · cases h; exact ⟨rfl, rfl⟩
        · exact getGo_bad _ _ _ l m e h he
    · cases h; exact ⟨rfl, rfl⟩
theorem seal_is {b : List UInt8} (h4 : 4 ≤ b.length) (h : sumOk b = true) : sealB (b.take (b.length - 4)) = b := by
  unfold sumOk at h
  rw [decide_eq_true_eq] at h
  have e : leB 4 (leN (b.drop (b.length - 4))) = b.drop (b.length - 4) := by
    have := leB_leN (b.drop (b.length - 4))
    rwa [List.length_drop, show b.length - (b.length - 4) = 4 by omega] at this
  unfold sealB
  rw [← h, e, List.take_append_drop]
theorem getP_is {b : List UInt8} {l : List It} {m : List Mk} (hb : b.length ≤ 65536) (h : getP b = (l, m, 0)) : putS l m = .of b ∧ (∀ y ∈ l, GotI y) ∧ (∀ y ∈ m, y.Ok) ∧ l.length ≤ 64 ∧ m.length ≤ 4 := by
  unfold getP at h
  split at h
  · cases h
  · split at h
    · rename_i h4 hs
      obtain ⟨h1, h2, h3, h5⟩ := getX_is (by rw [List.length_take]; omega) h
      have hp := put_is h1
      refine ⟨?_, h3, h5, hp.1, rightM_le hp.2.1⟩
      unfold putS
      rw [h1, h2, seal_is (by omega) hs, decide_eq_true hb]
      rfl
    · cases h
theorem getP_bad {b : List UInt8} {l : List It} {m : List Mk} {e : Int} (h : getP b = (l, m, e)) (he : e ≠ 0) : l = [] ∧ m = [] := by
  unfold getP at h
  split at h
  · cases h; exact ⟨rfl, rfl⟩
  · split at h
    · exact getX_bad h he
    · cases h; exact ⟨rfl, rfl⟩
end Go.Ev.S
namespace Go.Ev.S
open Go Go.Proofs Go.Ev
def rowsD (R : List (List UInt8)) : List D := R.map fun r => .vsl false (ofBytes r) r.length
theorem rowsD_at {R : List (List UInt8)} {i : Nat} (h : i < R.length) : (rowsD R).drop i = .vsl false (ofBytes R[i]) R[i].length :: (rowsD R).drop (i + 1) := by
  unfold rowsD
  rw [← List.map_drop, List.drop_eq_getElem_cons h, List.map_cons, List.map_drop]
theorem rowsD_len (R : List (List UInt8)) : (rowsD R).length = R.length := by simp [rowsD]
structure RowsOk (R : List (List UInt8)) : Prop where
  n : R.length = 3
  len : ∀ r ∈ R, r.length ≤ 65536
  fst : ∀ h : 0 < R.length, (getP R[0]).2.2 = 0
theorem got_itsB {L : List It} (h : ∀ x ∈ L, GotI x) : ItsB L := fun x hx => ⟨(h x hx).ok, (h x hx).b.2, (h x hx).b.1⟩
theorem row_one [MaxL] {r : List UInt8} (hr : r.length ≤ 65536) : ∃ (l : List It) (m : List Mk) (e : Int), call cx 32 [.vsl false (ofBytes r) r.length] [] = some (.tup [.vsl l.isEmpty (encs l) l.length, .vsl m.isEmpty (encs m) m.length, .int .i64 e], []) ∧ e = (getP r).2.2 ∧ (e = 0 → call cx 25 [.vsl l.isEmpty (encs l) l.length, .vsl m.isEmpty (encs m) m.length] [] = some (.vsl false (ofBytes r) r.length, [])) ∧ (e ≠ 0 → l = [] ∧ m = []) := by
  have hg := wget_ev (.of r) (by rw [Sl.of_l]; omega)
  rw [Sl.of_l] at hg
  obtain ⟨⟨l, m, e⟩, hq⟩ : ∃ q, getP r = q := ⟨_, rfl⟩
  rw [hq] at hg
  refine ⟨l, m, e, hg, by rw [hq], fun h0 => ?_, fun h0 => getP_bad hq h0⟩
  subst h0
  obtain ⟨h1, h2, h3, h4, h5⟩ := getP_is hr hq
  have hp := wput_ev (Sl.grown l) (Sl.grown m) (got_itsB h2) h3 (by rw [Sl.grown_l]; omega)
  rw [Sl.grown_l, Sl.grown_l, h1] at hp
  exact hp
set_option maxHeartbeats 4000000 in
set_option maxRecDepth 8000 in
theorem wone_ev [MaxL] (n1 : Bool) (z1 : List Int) (h1 : n1 = true → z1 = []) (n2 : Bool) (z2 : List Int) (h2 : n2 = true → z2 = []) (y : UInt8) (raw : Sl UInt8) : call cx 10 [.vsl n1 (intsK .i64 z1) z1.length, .vsl n2 (intsK .i64 z2) z2.length, .int .u8 y.toNat, (.vsl raw.nil (ofBytes raw.l) raw.l.length)] [] = some (.bool true, []) := by
  have f0 := first_ev
  refine call_run Tryz.func10 rfl ⟨rfl, rfl⟩ ?_
  by_cases hz1 : z1.length ≤ 80
  case neg =>
    have hz' : (80 : Int) < (z1.length : Int) := by omega
    simp [Tryz.f10, f0, hz']
  have hz' : ¬ (80 : Int) < (z1.length : Int) := by omega
  by_cases hz2 : z2.length ≤ 6
  case neg =>
    have hk' : (6 : Int) < (z2.length : Int) := by omega
    simp [Tryz.f10, f0, hz', hk']
  have hk' : ¬ (6 : Int) < (z2.length : Int) := by omega
  by_cases hrw : raw.l.length ≤ 900
  case neg =>
    have hw' : (900 : Int) < (raw.l.length : Int) := by omega
    simp [Tryz.f10, f0, hz', hk', hw']
  have hw' : ¬ (900 : Int) < (raw.l.length : Int) := by omega
  obtain ⟨q, hq, L, k', hL12, hLm, hsh⟩ := items_ev n1 z1 h1 (by omega) 0 4 (by decide)
  have sf := seqD_free n1 z1
  have sl := seqD_len n1 z1
  have sc := seqD_cl n1 z1
  obtain ⟨p1, p2, p3, p4⟩ := put_made (m := []) hLm (by omega) rfl
  have hp := wput_ev (Sl.grown L) .none (made_itsB hLm) (fun x hx => by cases hx) (by decide)
  have hgm := got_made (m := []) hLm (by omega) rfl (fun x hx => by cases hx)
  rw [Sl.grown_l, show (Sl.none : Sl Mk).l = [] from rfl, p2] at hp
  generalize sealB (rawB L []) = b at *
  have hb11 : ¬ (b.length : Int) < 11 := by omega
  have wb : IntKind.i64.wrap ((b.length : Int) - 4) = ((b.length - 4 : Nat) : Int) := by rw [wrap_i64] <;> omega
  have hbt : (b.take (b.length - 4)).length = b.length - 4 := by rw [List.length_take]; omega
  obtain ⟨qs, hs, o, ho, rfl⟩ := spoil_ev (.of (b.take (b.length - 4))) (by rw [Sl.of_l]; omega) n2 z2 h2 (by omega) y
  simp only [Sl.of_l, Sl.of_nil, hbt] at hs ho hp
  have c2 := cseal_ev (.of o) (by rw [Sl.of_l]; omega)
  have c3 := cseal_ev raw (by omega)
  have l2 := sealB_len o
  have l3 := sealB_len raw.l
  simp only [Sl.of_l, Sl.of_nil] at c2 c3
  generalize sealB o = r2 at *
  generalize sealB raw.l = r3 at *
  have hR : RowsOk [b, r2, r3] := by
    refine ⟨rfl, fun r hr => ?_, fun h => ?_⟩
    · rcases List.mem_cons.1 hr with rfl | hr
      · exact p4
      rcases List.mem_cons.1 hr with rfl | hr
      · omega
      · rw [List.mem_singleton.1 hr]; omega
    · show (getP b).2.2 = 0
      rw [hgm]
  have htk0 : List.take (b.length - 4) (ofBytes b) = ofBytes (b.take (b.length - 4)) := ofBytes_take _ _
  have hb4 : b.length - 4 ≤ b.length := Nat.sub_le _ _
  generalize b.take (b.length - 4) = bt at *
  generalize b.length - 4 = bn at *
  have hbn : (0 : Int) ≤ (bn : Int) := by omega
  replace hp : call cx 25 [.vsl (Sl.grown L).nil (encs L) L.length, .vsl true [] 0] [] = some (.vsl false (ofBytes b) b.length, []) := hp
  clear hgm p1 p2
  rcases hsh with ⟨rfl, rfl⟩ | ⟨hne, n, m, hn, hmm, rfl⟩
  · replace hq : call cx 13 [.optr 0 2 0, .int .i64 4] [some [.vsl n1 (intsK .i64 z1) z1.length, .int .i64 0]] = some (.vsl true [] 0, [some (seqD n1 z1 k')]) := hq
    replace hp : call cx 25 [.vsl true [] 0, .vsl true [] 0] [] = some (.vsl false (ofBytes b) b.length, []) := hp
    simp [Tryz.f10, f0, hz', hk', hw', hq, sf, hp, hb11, wb, hs, c2, c3, htk0, hb4, hbn]
    refine Run.loopThen (fun (i : Nat) e H' => i ≤ 3 ∧ look e 9 = some (.bool true) ∧ look e 11 = some (.vsl false (rowsD [b, r2, r3]) 3) ∧ look e 12 = some (.int .i64 (i : Nat))) (fun i => 3 - i) 0 ⟨Nat.zero_le _, by simp, by simp [rowsD], by simp⟩ ?_
    revert hR
    generalize [b, r2, r3] = R
    intro hR
    rintro i e H' ⟨hi, k9, k11, k12⟩
    have hRn := hR.n
    have hRl : (rowsD R).length = 3 := by rw [rowsD_len, hRn]
    by_cases hlt : i < 3
    · have hiR : i < R.length := by omega
      have hlt' : (i : Int) < 3 := by omega
      have hw : IntKind.i64.wrap ((i : Int) + 1) = ((i + 1 : Nat) : Int) := by rw [wrap_i64] <;> omega
      obtain ⟨l, mm, ec, hg, he, hpp, hbad⟩ := row_one (hR.len _ (List.getElem_mem hiR))
      have hat := rowsD_at hiR
      have hsb := sameb_ev (.of R[i]) (.of R[i])
      simp only [Sl.of_l, Sl.of_nil, beq_self_eq_true] at hsb
      by_cases h0 : ec = 0
      · have hpp0 := hpp h0
        subst h0
        generalize R[i] = r at *
        cases H'
        all_goals
          simp [k9, k11, k12, hlt', hat, hg, hpp0, hsb, hw]
          exact ⟨i + 1, by omega, by omega, rfl⟩
      · obtain ⟨rfl, rfl⟩ := hbad h0
        have hi0 : i ≠ 0 := by
          rintro rfl
          exact h0 (by rw [he]; exact hR.fst (by omega))
        have hi0' : ¬ (i : Int) = 0 := by omega
        generalize R[i] = r at *
        cases H'
        all_goals
          simp [k9, k11, k12, hlt', hat, hg, h0, hi0, hw]
          exact ⟨i + 1, by omega, by omega, rfl⟩
    · have hlt' : ¬ (i : Int) < 3 := by omega
      cases H' <;> simp [k9, k11, k12, hlt']
  · replace hq : call cx 13 [.optr 0 2 0, .int .i64 4] [some [.vsl n1 (intsK .i64 z1) z1.length, .int .i64 0]] = some (.osl 1 n 0 m 39, [some (seqD n1 z1 k'), some (encs L)]) := hq
    have hkn : m * 39 = n := by omega
    have hlk : L.length = m := hmm.symm
    have htk : List.take n (encs L) = encs L := List.take_of_length_le (by simp; omega)
    have e1 : (Sl.grown L).nil = false := by simp [Sl.grown, hne]
    rw [e1, hlk] at hp
    simp [Tryz.f10, f0, hz', hk', hw', hq, sf, hp, hb11, wb, hs, c2, c3, htk0, hb4, hbn, hkn, hlk, htk]
    refine Run.loopThen (fun (i : Nat) e H' => i ≤ 3 ∧ look e 9 = some (.bool true) ∧ look e 11 = some (.vsl false (rowsD [b, r2, r3]) 3) ∧ look e 12 = some (.int .i64 (i : Nat))) (fun i => 3 - i) 0 ⟨Nat.zero_le _, by simp, by simp [rowsD], by simp⟩ ?_
    revert hR
    generalize [b, r2, r3] = R
    intro hR
    rintro i e H' ⟨hi, k9, k11, k12⟩
    have hRn := hR.n
    have hRl : (rowsD R).length = 3 := by rw [rowsD_len, hRn]
    by_cases hlt : i < 3
    · have hiR : i < R.length := by omega
      have hlt' : (i : Int) < 3 := by omega
      have hw : IntKind.i64.wrap ((i : Int) + 1) = ((i + 1 : Nat) : Int) := by rw [wrap_i64] <;> omega
      obtain ⟨l, mm, ec, hg, he, hpp, hbad⟩ := row_one (hR.len _ (List.getElem_mem hiR))
      have hat := rowsD_at hiR
      have hsb := sameb_ev (.of R[i]) (.of R[i])
      simp only [Sl.of_l, Sl.of_nil, beq_self_eq_true] at hsb
      by_cases h0 : ec = 0
      · have hpp0 := hpp h0
        subst h0
        generalize R[i] = r at *
        cases H'
        all_goals
          simp [k9, k11, k12, hlt', hat, hg, hpp0, hsb, hw]
          exact ⟨i + 1, by omega, by omega, rfl⟩
      · obtain ⟨rfl, rfl⟩ := hbad h0
        have hi0 : i ≠ 0 := by
          rintro rfl
          exact h0 (by rw [he]; exact hR.fst (by omega))
        have hi0' : ¬ (i : Int) = 0 := by omega
        generalize R[i] = r at *
        cases H'
        all_goals
          simp [k9, k11, k12, hlt', hat, hg, h0, hi0, hw]
          exact ⟨i + 1, by omega, by omega, rfl⟩
    · have hlt' : ¬ (i : Int) < 3 := by omega
      cases H' <;> simp [k9, k11, k12, hlt']
end Go.Ev.S
namespace Go.Ev.S
open Go Go.Proofs Go.Ev
end Go.Ev.S
namespace Go.Ev
open Go Go.Proofs Go.ChangeShapes Go.WideShapes Go.ChangeAt Go.RowKit
theorem handed_shaped {H : Type} {enc : TypeId × Value → H} {a : Assume} {C : Checked} {os : Os} {f : FuncId} {fn : Func} {s : ChangeSpec} {conds : List PathCond} {apart fresh handsOn again : Bool} {X : World → Array Value → Prop}
    (hX : ∀ (w w' : World) (args : Array Value), w.heap = w'.heap → X w args → X w' args)
    (own : ownKnob C.prog.godebug = none) (started : os.Started) (noInit : C.prog.inits.idxOf? f = none) (hfn : C.prog.funcs[f]? = some fn)
    (witness : ∃ (w : World) (tape : Tape) (i : Input), w.os = os ∧ (w.forCall tape i).Shaped C.prog ∧ i.vars = [] ∧ Input.okWide C.prog (w.forCall tape i) .any w.heap.size f i ∧
      ((s.pre enc C.prog fn conds apart (w.forCall tape i).memory i.args ∧ X (w.forCall tape i).memory i.args) ∧ sizedMet enc C.prog fn (OpenSpec.ofChange s) apart (w.forCall tape i).memory i.args) ∧ a.holds C.prog (lone (Frame.enter C.prog f i.args .normal) [] (w.forCall tape i)))
    (contract : ∀ (W : World) (base : Nat) (args : Array Value) (ds gs : List (DataW H)) (before : List MemPlace),
      (∀ (j : Nat) t v, fn.params[j]? = some t → args[j]? = some v → Value.okWide C.prog W .any base t v) →
      DataW.Whole enc C.prog fn.params.toList s.vars apart W args.toList ds gs before → X W args → W.ShapedOpen C.prog →
      Calls C.prog f args W fun e W' => ∃ v, e = .returned v ∧ s.post enc C.prog fn apart fresh handsOn again W args v W') :
    ReturnsInHanded a C os f .any (fun w args => (s.pre enc C.prog fn conds apart w args ∧ X w args) ∧ sizedMet enc C.prog fn (OpenSpec.ofChange s) apart w args) (s.post enc C.prog fn apart fresh handsOn again) := by
  refine returnsInHanded_of_calls own started noInit witness ?_
  intro w tape i _ hsh _ hok hpre _
  obtain ⟨_, _, _, fn', hfn', _, _, _, _, hval⟩ := hok
  have e : fn' = fn := Option.some.inj (hfn'.symm.trans hfn)
  subst e
  obtain ⟨⟨⟨ds, gs, before, hw, hc⟩, hx⟩, hz⟩ := hpre
  have hw' := DataW.Whole.of_heap (w' := w.forCall tape i) (by rfl) hw
  refine (contract (w.forCall tape i) w.heap.size i.args ds gs before hval hw' (hX _ _ _ (by rfl) hx) hsh).mono fun e W' ⟨v, he, hp⟩ => ?_
  subst he
  exact ChangeSpec.post_blind hp
end Go.Ev
