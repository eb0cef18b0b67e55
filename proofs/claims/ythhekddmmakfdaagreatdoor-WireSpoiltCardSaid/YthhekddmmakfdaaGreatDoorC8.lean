import Derived.Test.YthhekddmmakfdaaGreatDoorC7
import Derived.Handed
import Derived.LaidMore
namespace Go.Ev.S
open Go Go.Proofs Go.Ev
def trD (q : List It × List Mk × Int) : D := .tup [(.vsl (Sl.grown q.1).nil (encs (Sl.grown q.1).l) (Sl.grown q.1).l.length), (.vsl (Sl.grown q.2.1).nil (encs (Sl.grown q.2.1).l) (Sl.grown q.2.1).l.length), .int .i64 q.2.2]
theorem leGet_at {l : List UInt8} (n : Nat) (hn : n = 2 ∨ n = 4) (a : Nat) : leGet l a n = if a + n ≤ l.length then some (leN ((l.drop a).take n)) else none := by
  unfold leGet
  have hz : szOk (n : Int) = true := by rcases hn with rfl | rfl <;> rfl
  by_cases h : a + n ≤ l.length
  · rw [if_pos ⟨hz, by omega, by omega⟩, if_pos h, Int.toNat_natCast, Int.toNat_natCast]
  · rw [if_neg (fun h' => h (by omega)), if_neg h]
theorem leN4 (l : List UInt8) : leN (l.take 4) < 4294967296 := by
  have h1 := leN_lt (l.take 4)
  have h2 : (l.take 4).length ≤ 4 := by rw [List.length_take]; omega
  exact Nat.lt_of_lt_of_le h1 (Nat.le_trans (Nat.pow_le_pow_right (by decide) h2) (by decide))
def GetH (out : List It) (d : D) (H : Heap) : Prop := (out = [] ∧ d = .vsl true [] 0 ∧ ∃ t, H = [some t]) ∨ (out ≠ [] ∧ ∃ n k, n = out.length * 39 ∧ k = out.length ∧ ((∃ t u, d = .osl 2 n 0 k 39 ∧ H = [some t, some u, some (encs out)]) ∨ (∃ t u, d = .osl 0 n 0 k 39 ∧ H = [some (encs out), some t, some u])))
set_option maxHeartbeats 4000000 in
set_option maxRecDepth 4000 in
theorem wget_ev [MaxL] (b : Sl UInt8) (hn : b.l.length < 1000000) : call cx 32 [(.vsl b.nil (ofBytes b.l) b.l.length)] [] = some (trD (getP b.l), []) := by
  have hop := copen_ev b (by omega)
  refine call_run Tryz.func32 rfl ⟨rfl, rfl⟩ ?_
  unfold openD at hop
  by_cases h4 : b.l.length < 4
  · have hg : getP b.l = ([], [], 22) := by unfold getP; rw [if_pos h4]
    rw [if_pos h4] at hop
    rw [hg]
    simp [Tryz.f32, hop, trD, Sl.grown]
  rw [if_neg h4] at hop
  cases hs : sumOk b.l with
  | false =>
    have hg : getP b.l = ([], [], 19) := by unfold getP; rw [if_neg h4, hs]; rfl
    rw [hs, if_neg (by decide)] at hop
    rw [hg]
    simp [Tryz.f32, hop, trD, Sl.grown]
  | true =>
  have hg : getP b.l = getX (b.l.take (b.l.length - 4)) := by unfold getP; rw [if_neg h4, hs]; rfl
  rw [hs, if_pos rfl] at hop
  rw [hg]
  have hxl : (b.l.take (b.l.length - 4)).length < 1000000 := by rw [List.length_take]; omega
  generalize b.l.take (b.l.length - 4) = x at *
  simp only [Sl.of_l, Sl.of_nil] at hop
  clear hg hs h4
  unfold getX
  by_cases hx4 : x.length < 4
  · have hx4' : (x.length : Int) < 4 := by omega
    rw [if_pos hx4]
    simp [Tryz.f32, hop, trD, Sl.grown, hx4']
  rw [if_neg hx4]
  have hx4' : ¬ (x.length : Int) < 4 := by omega
  have hpf := bpfx_ev (.of x) kSign (by simpa using hxl) (by decide) (by decide)
  replace hpf : call cx 49 [.vsl false (ofBytes x) x.length, .vsl false [.int .u8 68, .int .u8 66, .int .u8 65, .int .u8 84] 4] [] = some (.bool (pre kSign x), []) := hpf
  cases hp : pre kSign x with
  | false =>
    rw [hp] at hpf
    rw [if_neg (by decide)]
    simp [Tryz.f32, hop, trD, Sl.grown, hx4', hpf]
  | true =>
  rw [hp] at hpf
  rw [if_pos rfl]
  have hl2 := leget_ev (.of x) (4 : Nat) (2 : Nat) (by decide) (by simp; omega)
  rw [Sl.of_l, leGet_at 2 (.inl rfl) 4] at hl2
  by_cases hx6 : x.length < 6
  · rw [if_pos hx6]
    rw [if_neg (by omega)] at hl2
    unfold optN at hl2
    replace hl2 : call cx 72 [.vsl false (ofBytes x) x.length, .int .i64 4, .int .i64 2] [] = some (.tup [.int .u64 0, .bool false], []) := hl2
    simp [Tryz.f32, hop, trD, Sl.grown, hx4', hpf, hl2]
  rw [if_neg hx6]
  rw [if_pos (by omega)] at hl2
  unfold optN at hl2
  replace hl2 : call cx 72 [.vsl false (ofBytes x) x.length, .int .i64 4, .int .i64 2] [] = some (.tup [.int .u64 (leN ((x.drop 4).take 2) : Nat), .bool true], []) := hl2
  generalize leN ((x.drop 4).take 2) = many at *
  by_cases h64 : 64 < many
  · rw [if_pos h64]
    have h64' : (64 : Int) < (many : Int) := by omega
    simp [Tryz.f32, hop, trD, Sl.grown, hx4', hpf, hl2, h64']
  rw [if_neg h64]
  have h64' : ¬ (64 : Int) < (many : Int) := by omega
  have h6x : (6 : Int) ≤ (x.length : Int) := by omega
  have h6n : 6 ≤ x.length := by omega
  have hd6 : List.drop 6 (ofBytes x) = ofBytes (x.drop 6) := ofBytes_drop _ _
  have hr0 : (x.drop 6).length < 1000000 := by rw [List.length_drop]; omega
  have hl6 : ((x.length : Int) - 6) = ((x.drop 6).length : Int) := by rw [List.length_drop]; omega
  have hl6n : x.length - 6 = (x.drop 6).length := by rw [List.length_drop]
  obtain ⟨G, hG⟩ : ∃ G, getGo many (x.drop 6) [] = G := ⟨_, rfl⟩
  rw [hG]
  generalize x.drop 6 = r0 at *
  simp [Tryz.f32, hop, hx4', hpf, hl2, h64', h6x, hd6, hl6n]
  refine Run.loopThen (fun (q : Nat × List UInt8 × List It) e H => q.1 ≤ many ∧ getGo (many - q.1) q.2.1 q.2.2 = G ∧ q.2.2.length = q.1 ∧ q.2.1.length < 1000000 ∧ look e 0 = some (.vsl false (ofBytes q.2.1) q.2.1.length) ∧ (∃ d, look e 8 = some d ∧ GetH q.2.2 d H) ∧ look e 48 = some (.int .u64 (many : Nat)) ∧ look e 49 = some (.int .u64 (q.1 : Nat))) (fun q => many - q.1) (0, r0, []) ?_ ?_
  · exact ⟨Nat.zero_le _, hG, rfl, hr0, by simp, ⟨_, by simp, .inl ⟨rfl, rfl, _, rfl⟩⟩, by simp, by simp⟩
  rintro ⟨i, r, out⟩ e H ⟨hi, hR, ho, hrl, k0, ⟨d, k8, hH⟩, k48, k49⟩
  simp only at hi hR ho hrl k0 hH k49
  have hH2 : (out = [] ∧ d = .vsl true [] 0 ∧ ∃ t, H = [some t]) ∨ (∃ n k, n = out.length * 39 ∧ k = out.length ∧ out ≠ [] ∧ List.take n (encs out) = encs out ∧ k * 39 = n ∧ k ≤ 64 ∧ ((∃ t u, d = .osl 2 n 0 k 39 ∧ H = [some t, some u, some (encs out)]) ∨ (∃ t u, d = .osl 0 n 0 k 39 ∧ H = [some (encs out), some t, some u]))) := by
    rcases hH with h | ⟨hne, n, k, hn, hk, h⟩
    · exact .inl h
    · exact .inr ⟨n, k, hn, hk, hne, List.take_of_length_le (by simp; omega), by omega, by omega, h⟩
  clear hH
  by_cases hlt : i < many
  · have hw : IntKind.u64.wrap ((i : Int) + 1) = ((i + 1 : Nat) : Int) := by rw [wrap_u64] <;> omega
    have hl4 := leget_ev (.of r) (0 : Nat) (4 : Nat) (by decide) (by simp; omega)
    rw [Sl.of_l, leGet_at 4 (.inr rfl) 0] at hl4
    rw [show many - i = (many - (i + 1)) + 1 by omega, getGo] at hR
    have hk := leN4 r
    by_cases hr4 : r.length < 4
    · rw [if_pos (.inl hr4)] at hR
      rw [if_neg (by omega)] at hl4
      unfold optN at hl4
      replace hl4 : call cx 72 [.vsl false (ofBytes r) r.length, .int .i64 0, .int .i64 4] [] = some (.tup [.int .u64 0, .bool false], []) := hl4
      subst hR
      rcases hH2 with ⟨rfl, rfl, tt, rfl⟩ | ⟨nn, kk, hnn, hkk, hne, htk, hkn, hk64, ⟨tt, uu, rfl, rfl⟩ | ⟨tt, uu, rfl, rfl⟩⟩
      · simp [k0, k8, k48, k49, hlt, hl4, trD, Sl.grown]
      all_goals
        have hlk : out.length = kk := hkk.symm
        simp [k0, k8, k48, k49, hlt, hl4, trD, Sl.grown]
    rw [if_pos (by omega), List.drop_zero] at hl4
    unfold optN at hl4
    replace hl4 : call cx 72 [.vsl false (ofBytes r) r.length, .int .i64 0, .int .i64 4] [] = some (.tup [.int .u64 (leN (r.take 4) : Nat), .bool true], []) := hl4
    obtain ⟨n, hn'⟩ : ∃ n, leN (r.take 4) = n := ⟨_, rfl⟩
    rw [hn'] at hl4 hR hk
    have hws : IntKind.i64.wrap ((r.length : Int) - 4) = (r.length : Int) - 4 := by rw [wrap_i64]; omega
    have hwu : IntKind.u64.wrap ((r.length : Int) - 4) = (r.length : Int) - 4 := by rw [wrap_u64]; omega
    by_cases hbig : r.length - 4 < n
    · rw [if_pos (.inr hbig)] at hR
      have hbig' : (r.length : Int) - 4 < (n : Int) := by omega
      subst hR
      rcases hH2 with ⟨rfl, rfl, tt, rfl⟩ | ⟨nn, kk, hnn, hkk, hne, htk, hkn, hk64, ⟨tt, uu, rfl, rfl⟩ | ⟨tt, uu, rfl, rfl⟩⟩
      · simp [k0, k8, k48, k49, hlt, hl4, hws, hwu, hbig', trD, Sl.grown]
      all_goals
        have hlk : out.length = kk := hkk.symm
        simp [k0, k8, k48, k49, hlt, hl4, hws, hwu, hbig', trD, Sl.grown]
    rw [if_neg (by omega)] at hR
    have hbig' : ¬ (r.length : Int) - 4 < (n : Int) := by omega
    have hw4 : IntKind.u64.wrap (4 + (n : Int)) = ((4 + n : Nat) : Int) := by rw [wrap_u64] <;> omega
    have hwn : IntKind.i64.wrap (n : Int) = (n : Int) := by rw [wrap_i64]; omega
    obtain ⟨t, ht⟩ : ∃ t, (r.drop 4).take n = t := ⟨_, rfl⟩
    have htl : t.length = n := by rw [← ht, List.length_take, List.length_drop]; omega
    rw [ht] at hR
    have hrd := readS_ev (.of t) (by simp; omega)
    simp only [Sl.of_l, Sl.of_nil, htl] at hrd
    have htd : List.take n (List.drop 4 (ofBytes r)) = ofBytes t := by rw [ofBytes_drop, ofBytes_take, ht]
    have q1 : (0 : Int) ≤ 4 + (n : Int) := by omega
    have q2 : (4 : Int) + (n : Int) ≤ (r.length : Int) := by omega
    have q3 : (4 : Int) ≤ 4 + (n : Int) := by omega
    have q4 : ((4 : Int) + (n : Int)).toNat = 4 + n := by omega
    have q5 : 4 + n - 4 = n := by omega
    have q6 : r.length - (4 + n) = (r.drop (4 + n)).length := by rw [List.length_drop]
    have hdd : List.drop (4 + n) (ofBytes r) = ofBytes (r.drop (4 + n)) := ofBytes_drop _ _
    have hr2 : (r.drop (4 + n)).length < 1000000 := by rw [List.length_drop]; omega
    generalize r.drop (4 + n) = r2 at *
    by_cases hok : readOk t = true ∧ (textL (itemP t)).length = n
    · rw [if_pos hok] at hR
      have e1 : rdI t = itemP t := by unfold rdI; rw [if_pos hok.1]
      have e2 : rdN t = n := by unfold rdN; rw [if_pos hok.1, hok.2]
      have e3 : rdC t = 0 := by unfold rdC; rw [if_pos hok.1]
      rw [e1, e2, e3] at hrd
      have hu : IntKind.u64.wrap ((i : Int) + 1) = ((i + 1 : Nat) : Int) := hw
      generalize itemP t = y at *
      rcases hH2 with ⟨rfl, rfl, tt, rfl⟩ | ⟨nn, kk, hnn, hkk, hne, htk, hkn, hk64, ⟨tt, uu, rfl, rfl⟩ | ⟨tt, uu, rfl, rfl⟩⟩
      · simp [k0, k8, k48, k49, hlt, hl4, hws, hwu, hbig', hw4, hwn, htd, hdd, hrd, q1, q2, q3, q4, q5, q6, maxBytes]
        exact ⟨i + 1, by omega, by omega, r2, [y], hR, by rw [← ho]; rfl, hr2, ⟨rfl, rfl⟩, .inr ⟨by simp, 39, 1, rfl, rfl, .inl ⟨_, _, rfl, by rw [encs_one]⟩⟩, hu⟩
      all_goals
        have hlk : out.length = kk := hkk.symm
        have m1 : (kk + 1) * 104 ≤ 140737488355328 := by omega
        have m2 : kk ≤ 140737488355327 := by omega
        simp [hlk, hkn, k0, k8, k48, k49, hlt, hl4, hws, hwu, hbig', hw4, hwn, htd, hdd, hrd, q1, q2, q3, q4, q5, q6, maxBytes, m1, m2]
        exact ⟨i + 1, by omega, by omega, r2, out ++ [y], hR, by simp [ho], hr2, ⟨rfl, rfl⟩, .inr ⟨by simp, nn + 39, kk + 1, by simp; omega, by simp [hlk], .inr ⟨_, _, rfl, by rw [encs_snoc]⟩⟩, hu⟩
    · rw [if_neg hok] at hR
      subst hR
      cases hro : readOk t with
      | false =>
        have e1 : rdC t = 20 := by unfold rdC; rw [hro]; rfl
        rw [e1] at hrd
        generalize rdI t = y at *
        generalize rdN t = z at *
        rcases hH2 with ⟨rfl, rfl, tt, rfl⟩ | ⟨nn, kk, hnn, hkk, hne, htk, hkn, hk64, ⟨tt, uu, rfl, rfl⟩ | ⟨tt, uu, rfl, rfl⟩⟩
        · simp [k0, k8, k48, k49, hlt, hl4, hws, hwu, hbig', hw4, htd, hrd, q1, q2, q3, q4, q5, trD, Sl.grown]
        all_goals
          have hlk : out.length = kk := hkk.symm
          simp [k0, k8, k48, k49, hlt, hl4, hws, hwu, hbig', hw4, htd, hrd, q1, q2, q3, q4, q5, trD, Sl.grown]
      | true =>
        have e1 : rdC t = 0 := by unfold rdC; rw [hro]; rfl
        have e2 : ¬ (textL (itemP t)).length = n := fun h => hok ⟨hro, h⟩
        have e3 : rdN t = (textL (itemP t)).length := by unfold rdN; rw [hro]; rfl
        rw [e1, e3] at hrd
        generalize rdI t = y at *
        generalize (textL (itemP t)).length = z at *
        have e2' : ¬ (z : Int) = (n : Int) := by omega
        rcases hH2 with ⟨rfl, rfl, tt, rfl⟩ | ⟨nn, kk, hnn, hkk, hne, htk, hkn, hk64, ⟨tt, uu, rfl, rfl⟩ | ⟨tt, uu, rfl, rfl⟩⟩
        · simp [k0, k8, k48, k49, hlt, hl4, hws, hwu, hbig', hw4, hwn, htd, hrd, q1, q2, q3, q4, q5, e2', trD, Sl.grown]
        all_goals
          have hlk : out.length = kk := hkk.symm
          simp [k0, k8, k48, k49, hlt, hl4, hws, hwu, hbig', hw4, hwn, htd, hrd, q1, q2, q3, q4, q5, e2', trD, Sl.grown]
  · have hk : many - i = 0 := by omega
    rw [hk, getGo] at hR
    have hm := mread_ev (.of r) (by simp; omega)
    simp only [Sl.of_l, Sl.of_nil] at hm
    obtain ⟨q, hq⟩ : ∃ q, readM r = q := ⟨_, rfl⟩
    rw [hq] at hm hR
    by_cases h0 : q.2 = 0
    · rw [if_pos h0] at hR
      have hnn : 0 ≤ Go.Ev.readN q := by unfold Go.Ev.readN; rw [if_pos h0]; omega
      by_cases hle : Go.Ev.readN q < (r.length : Int)
      · rw [if_pos hle] at hR
        subst hR
        rcases hH2 with ⟨rfl, rfl, tt, rfl⟩ | ⟨nn, kk, hnn, hkk, hne, htk, hkn, hk64, ⟨tt, uu, rfl, rfl⟩ | ⟨tt, uu, rfl, rfl⟩⟩
        · simp [k0, k8, k48, k49, hlt, hm, h0, hle, trD, Sl.grown]
        all_goals
          have hlk : out.length = kk := hkk.symm
          simp [k0, k8, k48, k49, hlt, hm, h0, hle, trD, Sl.grown]
      · rw [if_neg hle] at hR
        subst hR
        rcases hH2 with ⟨rfl, rfl, tt, rfl⟩ | ⟨nn, kk, hnn, hkk, hne, htk, hkn, hk64, ⟨tt, uu, rfl, rfl⟩ | ⟨tt, uu, rfl, rfl⟩⟩
        · simp [k0, k8, k48, k49, hlt, hm, h0, hle, trD, Sl.grown]
        all_goals
          have hlk : out.length = kk := hkk.symm
          simp [hlk, htk, hkn, k0, k8, k48, k49, hlt, hm, h0, hle, trD, Sl.grown, hne]
    · rw [if_neg h0] at hR
      subst hR
      rcases hH2 with ⟨rfl, rfl, tt, rfl⟩ | ⟨nn, kk, hnn, hkk, hne, htk, hkn, hk64, ⟨tt, uu, rfl, rfl⟩ | ⟨tt, uu, rfl, rfl⟩⟩
      · simp [k0, k8, k48, k49, hlt, hm, h0, trD, Sl.grown]
      all_goals
        have hlk : out.length = kk := hkk.symm
        simp [k0, k8, k48, k49, hlt, hm, h0, trD, Sl.grown]
end Go.Ev.S
namespace Go.Ev.S
open Go Go.Proofs Go.Ev
end Go.Ev.S
namespace Go.Ev.S
open Go Go.Proofs Go.Ev
end Go.Ev.S
namespace Go.Ev.S
open Go Go.Proofs Go.Ev
theorem idN_lt : ∀ j < 4, ∀ i < j, cmpB (idN i).l (idN j).l < 0 := by decide
structure FewN (i : Nat) (l : List Mk) : Prop where
  rises : risesM l = true
  ok : ∀ m ∈ l, m.Ok
  id : ∀ m ∈ l, ∃ j, j < i ∧ m.id = idN j
  len : l.length ≤ i
theorem rises_snocN : ∀ {l : List Mk} {m : Mk}, risesM l = true → (∀ x ∈ l, cmpB x.id.l m.id.l < 0) → risesM (l ++ [m]) = true
  | [], _, _, _ => rfl
  | [a], m, _, h => by simp [risesM, h a (List.mem_cons_self ..)]
  | a :: b :: l, m, hr, h => by
    simp only [risesM, Bool.and_eq_true] at hr
    have := rises_snocN (l := b :: l) hr.2 fun x hx => h x (List.mem_cons_of_mem _ hx)
    simp only [List.cons_append, risesM, Bool.and_eq_true] at this ⊢
    exact ⟨hr.1, this⟩
theorem FewN.same {i : Nat} {l : List Mk} (h : FewN i l) : FewN (i + 1) l :=
  ⟨h.rises, h.ok, fun m hm => by obtain ⟨j, h1, h2⟩ := h.id m hm; exact ⟨j, by omega, h2⟩, by have := h.len; omega⟩
theorem FewN.add {i : Nat} {l : List Mk} (h : FewN i l) (hi : i < 4) {a b c : Nat} (ha : a < 1000) (hb : b < 1000) (hc : c < 1000) : FewN (i + 1) (l ++ [⟨idN i, a, b, c⟩]) := by
  refine ⟨rises_snocN h.rises fun x hx => ?_, fun m hm => ?_, fun m hm => ?_, by have := h.len; simp; omega⟩
  · obtain ⟨j, h1, h2⟩ := h.id x hx
    rw [h2]
    exact idN_lt i hi j h1
  · rcases List.mem_append.1 hm with h' | h'
    · exact h.ok m h'
    · rw [List.mem_singleton.1 h']
      exact ⟨by simp only [isU64]; omega, by simp only [isU64]; omega, by simp only [isU64]; omega⟩
  · rcases List.mem_append.1 hm with h' | h'
    · obtain ⟨j, h1, h2⟩ := h.id m h'
      exact ⟨j, by omega, h2⟩
    · rw [List.mem_singleton.1 h']
      exact ⟨i, by omega, rfl⟩
def GrowM (S : List D) (l : List Mk) (d : D) (H : Heap) : Prop :=
  (l = [] ∧ d = .vsl true [] 0 ∧ H = [some S]) ∨ (l ≠ [] ∧ ∃ n k t, n = l.length * 19 ∧ k = l.length ∧ ((d = .osl 2 n 0 k 19 ∧ H = [some S, some t, some (encs l)]) ∨ (d = .osl 1 n 0 k 19 ∧ H = [some S, some (encs l), some t]) ∨ (d = .osl 1 n 0 k 19 ∧ H = [some S, some (encs l)])))
def MksQ (nil : Bool) (zs : List Int) (q : D × Heap) : Prop := ∃ (l : List Mk) (k' : Nat), FewN 4 l ∧ q = ((.vsl ((⟨l.isEmpty, l, fun h => by simpa using h⟩ : Sl Mk)).nil (encs ((⟨l.isEmpty, l, fun h => by simpa using h⟩ : Sl Mk)).l) ((⟨l.isEmpty, l, fun h => by simpa using h⟩ : Sl Mk)).l.length), [some (seqD nil zs k')])
set_option maxHeartbeats 2000000 in
theorem mmarks_ev [MaxL] [TxtC] (nil : Bool) (zs : List Int) (hnil : nil = true → zs = []) (hz : zs.length ≤ 1000000) (k : Nat) :
    ∃ q, call cx 28 [.optr 0 2 0] [some (seqD nil zs k)] = some q ∧ MksQ nil zs q := by
  refine call_runE (X := cx) (f := 28) (args := [.optr 0 2 0]) (H := [some (seqD nil zs k)]) (MksQ nil zs) Tryz.func28 rfl ⟨rfl, rfl⟩ ?_
  have sf := seqD_free nil zs
  have sl := seqD_len nil zs
  have sc := seqD_cl nil zs
  simp [Tryz.f28]
  refine Run.loopThen (fun (q : List Mk × Nat × Nat) e H' => q.2.1 ≤ 4 ∧ FewN q.2.1 q.1 ∧ look e 0 = some (.optr 0 2 0) ∧ look e 4 = some (.int .i64 (q.2.1 : Nat)) ∧ ∃ d, look e 3 = some d ∧ GrowM (seqD nil zs q.2.2) q.1 d H') (fun q => 4 - q.2.1) ([], 0, k) ?_ ?_
  · exact ⟨by simp, ⟨rfl, by simp, by simp, by simp⟩, by simp, by simp, _, by simp, .inl ⟨rfl, rfl, rfl⟩⟩
  rintro ⟨l, i, k1⟩ e H' ⟨hi, hf, k0, k4, d, k3, hH⟩
  simp only at hi hf k4 hH
  have hlen := hf.len
  obtain ⟨x, k2, hx, -, c1⟩ := n_ev nil zs hnil hz k1 2 (by decide) (by decide)
  obtain ⟨a, k5, ha, -, c2⟩ := n_ev nil zs hnil hz k2 9 (by decide) (by decide)
  obtain ⟨b, k6, hb, -, c3⟩ := n_ev nil zs hnil hz k5 9 (by decide) (by decide)
  obtain ⟨c, k7, hc, -, c4⟩ := n_ev nil zs hnil hz k6 9 (by decide) (by decide)
  have hw : IntKind.i64.wrap ((i : Int) + 1) = ((i + 1 : Nat) : Int) := by rw [wrap_i64] <;> omega
  have wa : IntKind.u64.wrap (a : Int) = (a : Int) := by rw [wrap_u64]; omega
  have wb : IntKind.u64.wrap (b : Int) = (b : Int) := by rw [wrap_u64]; omega
  have wc : IntKind.u64.wrap (c : Int) = (c : Int) := by rw [wrap_u64]; omega
  rcases hH with ⟨rfl, rfl, rfl⟩ | ⟨hne, n, m, t, hn, hm, hH⟩
  · by_cases h4 : i < 4
    · have h4i : (i : Int) < 4 := by omega
      have hid := mid_small (j := i) (by omega)
      have hadd := hf.add h4 (a := a) (b := b) (c := c) (by omega) (by omega) (by omega)
      have hsame := hf.same
      generalize idN i = q at *
      have hq := q.h
      have hq16 : List.take 16 (ofBytes q.l) = ofBytes q.l := List.take_of_length_le (by simp)
      by_cases hx1 : x = 1
      · subst hx1
        simp [k0, k3, k4, h4i, c1, c2, c3, c4, hid, sf, sc, hw, wa, wb, wc, hq, maxBytes, List.take_append, List.drop_append, drop_bytes]
        exact ⟨[⟨q, a, b, c⟩], i + 1, by omega, by omega, hadd, by simp, k7, .inr ⟨by simp, 19, 1, _, rfl, rfl, .inl ⟨rfl, by rw [encs_one]; rfl⟩⟩⟩
      · have hx1' : ¬ (x : Int) = 1 := by omega
        simp [k0, k3, k4, h4i, c1, hx1', sf, sc, hw]
        exact ⟨[], i + 1, by omega, by omega, hsame, by simp, k2, .inl ⟨rfl, rfl, rfl⟩⟩
    · have h4i : ¬ (i : Int) < 4 := by omega
      simp [k0, k3, k4, h4i, sc]
      have hi4 : i = 4 := by omega
      subst hi4
      exact ⟨[], k1, hf, rfl⟩
  · have hlk : l.length = m := hm.symm
    have hkn : m * 19 = n := by omega
    have htk : List.take n (encs l) = encs l := List.take_of_length_le (by simp; omega)
    have hm1 : (m + 1) * 40 ≤ 140737488355328 := by omega
    have hm2 : m + 1 ≤ 140737488355328 := by omega
    by_cases h4 : i < 4
    · have h4i : (i : Int) < 4 := by omega
      have hid := mid_small (j := i) (by omega)
      have hadd := hf.add h4 (a := a) (b := b) (c := c) (by omega) (by omega) (by omega)
      have hsame := hf.same
      generalize idN i = q at *
      have hq := q.h
      have hq16 : List.take 16 (ofBytes q.l) = ofBytes q.l := List.take_of_length_le (by simp)
      rcases hH with ⟨rfl, rfl⟩ | ⟨rfl, rfl⟩ | ⟨rfl, rfl⟩
      all_goals
        by_cases hx1 : x = 1
        · subst hx1
          simp [k0, k3, k4, h4i, c1, c2, c3, c4, hid, sf, sc, hw, wa, wb, wc, hq, maxBytes, List.take_append, List.drop_append, drop_bytes, hlk, hkn, hm1, hm2]
          exact ⟨l ++ [⟨q, a, b, c⟩], i + 1, by omega, by omega, hadd, by simp, k7, .inr ⟨by simp, n + 19, m + 1, _, by simp; omega, by simp [hlk], .inr (.inl ⟨rfl, by rw [encs_snoc]; rfl⟩)⟩⟩
        · have hx1' : ¬ (x : Int) = 1 := by omega
          simp [k0, k3, k4, h4i, c1, hx1', sf, sc, hw]
          exact ⟨l, i + 1, by omega, by omega, hsame, by simp, k2, .inr ⟨hne, n, m, [], hn, hm, .inr (.inr ⟨rfl, rfl⟩)⟩⟩
    · have h4i : ¬ (i : Int) < 4 := by omega
      have hie : l.isEmpty = false := by simpa using hne
      rcases hH with ⟨rfl, rfl⟩ | ⟨rfl, rfl⟩ | ⟨rfl, rfl⟩
      all_goals
        simp [k0, k3, k4, h4i, sc, hlk, hkn, htk]
        have hi4 : i = 4 := by omega
        subst hi4
        exact ⟨l, k1, hf, by simp [hie, hlk]⟩
end Go.Ev.S
namespace Go.Ev.S
open Go Go.Proofs Go.Ev
theorem made_itsB {L : List It} (h : ∀ x ∈ L, MadeI x) : ItsB L := fun x hx => by
  obtain ⟨h1, h2, h3, h4⟩ := h x hx
  refine ⟨h1, by omega, fun p hp => ?_⟩
  have := mkOk_len (h4 p hp)
  exact ⟨by omega, by omega⟩
end Go.Ev.S
namespace Go.Ev.S
open Go Go.Proofs Go.Ev
structure BackL (A : List It) : Prop where
  ok : ∀ x ∈ A, x.Ok ∧ x.rc.fields.l.length < 1000000 ∧ ∀ p ∈ x.rc.fields.l, PrB p
  right : ∀ i (h : i < A.length), i + 1 < A.length → itOk A[i] = true
  n : A.length ≤ 5
end Go.Ev.S
namespace Go.Ev.S
open Go Go.Proofs Go.Ev
theorem mbytesA_ev [MaxL] (s : Sl UInt8) (h2 : s.l.length ≤ 1000000) : call cx 17 [(.vsl s.nil (ofBytes s.l) s.l.length)] [] = some (.osl 0 s.l.length 0 s.l.length 1, [some (ofBytes s.l)]) := by
  have hm : s.l.length ≤ 140737488355328 := by omega
  refine call_run Tryz.func17 rfl ⟨rfl, rfl⟩ ?_
  simp [Tryz.f17, maxBytes, hm]
theorem ofBytes_put {o : List UInt8} {j : Nat} (h : j < o.length) {x : Nat} (hx : x < 256) : List.take j (ofBytes o) ++ D.int .u8 (x : Int) :: List.drop (j + 1) (ofBytes o) = ofBytes (o.set j (UInt8.ofNat x)) := by
  rw [List.set_eq_take_append_cons_drop, if_pos h, ofBytes_append, ofBytes_cons, ofBytes_take, ofBytes_drop, UInt8.toNat_ofNat_of_lt' hx]
theorem shl8 : ∀ r < 8, IntKind.u8.wrap (2 ^ min r IntKind.u8.bits) = ((2 ^ r : Nat) : Int) := by decide
def FlipQ (b : List UInt8) (bits : Nat) (q : D × Heap) : Prop := ∃ (o : List UInt8) (a : Nat), o.length = b.length ∧ a + 32 ≤ 8 * b.length ∧ leN o = leN b ^^^ ((bits % 2 ^ 32) * 2 ^ a) ∧ q = (.vsl false (ofBytes o) o.length, [])
set_option maxHeartbeats 2000000 in
theorem flip_ev [MaxL] (b : Sl UInt8) (h4 : 4 ≤ b.l.length) (hb : b.l.length ≤ 100000) (n : Int) (bits : BitVec 32) : ∃ q, call cx 36 [(.vsl b.nil (ofBytes b.l) b.l.length), .int .i64 n, .int .u32 bits.toNat] [] = some q ∧ FlipQ b.l bits.toNat q := by
  refine call_runE (X := cx) (f := 36) (args := [(.vsl b.nil (ofBytes b.l) b.l.length), .int .i64 n, .int .u32 bits.toNat]) (H := []) (FlipQ b.l bits.toNat) Tryz.func36 rfl ⟨rfl, rfl⟩ ?_
  have c1 := mbytesA_ev b (by omega)
  have h4' : ¬ (b.l.length : Int) < 4 := by omega
  have w1 : IntKind.i64.wrap (8 * (b.l.length : Int)) = 8 * (b.l.length : Int) := by rw [wrap_i64]; omega
  have w2 : IntKind.i64.wrap (8 * (b.l.length : Int) - 31) = 8 * (b.l.length : Int) - 31 := by rw [wrap_i64]; omega
  obtain ⟨a, ha, c2⟩ := numI_ev n (8 * b.l.length - 31) (by omega) (by omega)
  have ha2 : a + 32 ≤ 8 * b.l.length := by omega
  simp [Tryz.f36, c1, h4', w1, w2, c2]
  refine Run.loopThen (fun (q : Nat × List UInt8) e H' => q.1 ≤ 32 ∧ q.2.length = b.l.length ∧ leN q.2 = leN b.l ^^^ ((bits.toNat % 2 ^ q.1) * 2 ^ a) ∧ H' = [some (ofBytes q.2)] ∧ look e 2 = some (.int .u32 (bits.toNat : Nat)) ∧ look e 7 = some (.osl 0 b.l.length 0 b.l.length 1) ∧ look e 8 = some (.int .i64 (a : Nat)) ∧ look e 9 = some (.int .i64 (q.1 : Nat))) (fun q => 32 - q.1) (0, b.l) ⟨Nat.zero_le _, rfl, by simp [Nat.mod_one], by simp, by simp, by simp, by simp, by simp⟩ ?_
  rintro ⟨k, o⟩ e H' ⟨hk, ho, hN, rfl, k2, k7, k8, k9⟩
  simp only at hk ho hN k9
  by_cases hlt : k < 32
  · have hlt' : (k : Int) < 32 := by omega
    have hw : IntKind.i64.wrap ((k : Int) + 1) = ((k + 1 : Nat) : Int) := by rw [wrap_i64] <;> omega
    have hsh : (bits.toNat : Int).fdiv (2 ^ min k IntKind.u32.bits) = ((bits >>> k).toNat : Int) := shr32 bits k (by omega)
    have hk0 : ¬ (k : Int) < 0 := by omega
    have hb1 := bit32 (bits >>> k)
    have hbt : (bits >>> k).toNat = bits.toNat / 2 ^ k := by rw [BitVec.toNat_ushiftRight, Nat.shiftRight_eq_div_pow]
    have hku : IntKind.u64.wrap (k : Int) = (k : Int) := by rw [wrap_u64]; omega
    have hpl : (a + k) / 8 < o.length := by omega
    have hm8 : (a + k) % 8 < 8 := Nat.mod_lt _ (by decide)
    have hfl := leN_flip o ((a + k) / 8) ((a + k) % 8) hm8 hpl
    rw [show 8 * ((a + k) / 8) + (a + k) % 8 = a + k by omega] at hfl
    generalize bits >>> k = u at *
    by_cases h1 : u.toNat % 2 = 1
    · have hbo := bits_one (b := bits.toNat) (k := k) a (by rw [← hbt]; exact h1)
      rw [h1] at hb1
      have w3 : IntKind.i64.wrap ((a : Int) + (k : Int)) = ((a + k : Nat) : Int) := by rw [wrap_i64] <;> omega
      have w4 : ((a + k : Nat) : Int).tdiv 8 = (((a + k) / 8 : Nat) : Int) := by rw [Int.tdiv_eq_ediv_of_nonneg (Int.natCast_nonneg _)]; rfl
      have w5 : ((a + k : Nat) : Int).tmod 8 = (((a + k) % 8 : Nat) : Int) := by rw [Int.tmod_eq_emod_of_nonneg (Int.natCast_nonneg _)]; rfl
      have hx := xor8 (a := o[(a + k) / 8].toNat) (b := 2 ^ ((a + k) % 8)) (UInt8.toNat_lt _) (Nat.lt_of_lt_of_le (Nat.pow_lt_pow_right (by decide) hm8) (by decide))
      have hat := ofBytes_at hpl
      have hj1 : (a + k) / 8 < b.l.length := by omega
      have hj2 : (a + k) / 8 + 1 ≤ b.l.length := by omega
      have hr0 : ¬ (((a + k) % 8 : Nat) : Int) < 0 := by omega
      have hn2 : leN (o.set ((a + k) / 8) (UInt8.ofNat (o[(a + k) / 8].toNat ^^^ 2 ^ ((a + k) % 8)))) = leN b.l ^^^ (bits.toNat % 2 ^ (k + 1)) * 2 ^ a := by
        rw [hfl, hN, hbo, Nat.xor_assoc]
      have v0 := shl8 _ hm8
      have v1 : IntKind.i64.wrap (((a + k) / 8 : Nat) : Int) = (((a + k) / 8 : Nat) : Int) := by rw [wrap_i64] <;> omega
      have v2 : IntKind.i64.wrap (((a + k) % 8 : Nat) : Int) = (((a + k) % 8 : Nat) : Int) := by rw [wrap_i64] <;> omega
      have v3 : IntKind.u64.wrap (((a + k) % 8 : Nat) : Int) = (((a + k) % 8 : Nat) : Int) := by rw [wrap_u64] <;> omega
      have hput := ofBytes_put hpl (x := o[(a + k) / 8].toNat ^^^ 2 ^ ((a + k) % 8)) (Nat.xor_lt_two_pow (n := 8) (UInt8.toNat_lt _) (Nat.pow_lt_pow_right (by decide) hm8))
      generalize (a + k) / 8 = j at *
      generalize (a + k) % 8 = r at *
      generalize (a + k : Nat) = ak at *
      simp [k2, k7, k8, k9, hlt', hw, hsh, hb1, hku, w3, w4, w5, hat, ho, hk0, hj1, hj2, hr0, v1, v3]
      exact ⟨k + 1, by omega, by omega, _, by simp [ho], hn2, by rw [v0, hx]; exact hput, by omega⟩
    · have hbo := bits_none (b := bits.toNat) (k := k) (by rw [← hbt]; exact h1)
      have h0 : u.toNat % 2 = 0 := by omega
      rw [h0] at hb1
      simp [k2, k7, k8, k9, hlt', hw, hsh, hb1, hku, hk0]
      exact ⟨k + 1, by omega, by omega, o, ho, by rw [hbo]; exact hN, rfl, by omega⟩
  · have hlt' : ¬ (k : Int) < 32 := by omega
    have hk32 : k = 32 := by omega
    subst hk32
    have htk : List.take b.l.length (ofBytes o) = ofBytes o := List.take_of_length_le (by simp [ho])
    simp [k2, k7, k8, k9, htk, ho]
    exact ⟨o, a, ho, ha2, hN, by rw [ho]⟩
end Go.Ev.S
namespace Go.Ev.S
open Go Go.Proofs Go.Ev
theorem leN_inj {a b : List UInt8} (hl : a.length = b.length) (h : leN a = leN b) : a = b := by
  rw [← leB_leN a, ← leB_leN b, hl, h]
theorem getP_spoilt {o : List UInt8} (h4 : 4 ≤ o.length) (h : sumOk o = false) : getP o = ([], [], 19) := by
  unfold getP
  rw [if_neg (by omega), h]
  rfl
set_option maxHeartbeats 4000000 in
set_option maxRecDepth 8000 in
theorem wspoilt_ev [MaxL] (n1 : Bool) (z1 : List Int) (h1 : n1 = true → z1 = []) (n2 : Bool) (z2 : List Int) (h2 : n2 = true → z2 = []) (at' : Int) (bits : BitVec 32) : call cx 9 [.vsl n1 (intsK .i64 z1) z1.length, .vsl n2 (intsK .i64 z2) z2.length, .int .i64 at', .int .u32 bits.toNat] [] = some (.bool true, []) := by
  have f0 := first_ev
  refine call_run Tryz.func9 rfl ⟨rfl, rfl⟩ ?_
  by_cases hz1 : z1.length ≤ 150
  case neg =>
    have hz' : (150 : Int) < (z1.length : Int) := by omega
    simp [Tryz.f9, f0, hz']
  have hz' : ¬ (150 : Int) < (z1.length : Int) := by omega
  by_cases hz2 : z2.length ≤ 30
  case neg =>
    have hk' : (30 : Int) < (z2.length : Int) := by omega
    simp [Tryz.f9, f0, hz', hk']
  have hk' : ¬ (30 : Int) < (z2.length : Int) := by omega
  obtain ⟨q, hq, L, k', hL12, hLm, hsh⟩ := items_ev n1 z1 h1 (by omega) 0 8 (by decide)
  obtain ⟨q2, hq2, M, k2, hM, rfl⟩ := mmarks_ev n2 z2 h2 (by omega) 0
  have sf := seqD_free n1 z1
  have sl := seqD_len n1 z1
  have sc := seqD_cl n1 z1
  have sf2 := seqD_free n2 z2
  have sl2 := seqD_len n2 z2
  have sc2 := seqD_cl n2 z2
  replace hq2 : call cx 28 [.optr 0 2 0] [some [.vsl n2 (intsK .i64 z2) z2.length, .int .i64 0]] = some (.vsl M.isEmpty (encs M) M.length, [some (seqD n2 z2 k2)]) := hq2
  have hr : rightM M = true := by
    unfold rightM
    rw [decide_eq_true hM.len, hM.rises]
    rfl
  have hM4 := hM.len
  obtain ⟨p1, p2, p3, p4⟩ := put_made hLm (by omega) hr
  have hp := wput_ev (Sl.grown L) (Sl.grown M) (made_itsB hLm) hM.ok (by rw [Sl.grown_l]; omega)
  have hgm := got_made hLm (by omega) hr hM.ok
  have hso : sumOk (sealB (rawB L M)) = true := sealed_ok _
  rw [Sl.grown_l, Sl.grown_l, p2] at hp
  generalize sealB (rawB L M) = b at *
  have eM : (Sl.grown M).nil = M.isEmpty := rfl
  simp only [Sl.of_l, Sl.of_nil, eM] at hp
  obtain ⟨qf, hf, o, a, ho, ha, hN, rfl⟩ := flip_ev (.of b) (by rw [Sl.of_l]; omega) (by rw [Sl.of_l]; omega) at' bits
  simp only [Sl.of_l, Sl.of_nil] at hf ho ha hN
  have hbl : bits.toNat % 2 ^ 32 = bits.toNat := Nat.mod_eq_of_lt bits.isLt
  rw [hbl] at hN
  have hg := wget_ev (.of o) (by rw [Sl.of_l]; omega)
  rw [Sl.of_l] at hg
  have hb11 : ¬ (b.length : Int) < 11 := by omega
  have hres : call cx 32 [.vsl false (ofBytes o) o.length] [] = some (if bits.toNat = 0 then .tup [(.vsl (Sl.grown (L.map normI)).nil (encs (Sl.grown (L.map normI)).l) (Sl.grown (L.map normI)).l.length), (.vsl (Sl.grown M).nil (encs (Sl.grown M).l) (Sl.grown M).l.length), .int .i64 0] else .tup [.vsl true [] 0, .vsl true [] 0, .int .i64 19], []) := by
    by_cases h0 : bits.toNat = 0
    · rw [h0, Nat.zero_mul, Nat.xor_zero] at hN
      have : o = b := leN_inj ho hN
      rw [if_pos h0, this]
      rw [this, hgm] at hg
      exact hg
    · rw [if_neg h0]
      have := burst_told (b := b) (c := o) (by omega) ho hso bits.isLt h0 (at' := a) (by omega) hN
      rw [getP_spoilt (by omega) this] at hg
      exact hg
  have hb0 : ((bits.toNat : Int) = 0) = (bits.toNat = 0) := propext ⟨fun h => Int.ofNat.inj h, fun h => congrArg _ h⟩
  clear hg hgm hN p1 p2
  rcases hsh with ⟨rfl, rfl⟩ | ⟨hne, n, m, hn, hmm, rfl⟩
  · replace hq : call cx 13 [.optr 0 2 0, .int .i64 8] [some [.vsl n1 (intsK .i64 z1) z1.length, .int .i64 0]] = some (.vsl true [] 0, [some (seqD n1 z1 k')]) := hq
    replace hp : call cx 25 [.vsl true [] 0, .vsl M.isEmpty (encs M) M.length] [] = some (.vsl false (ofBytes b) b.length, []) := hp
    by_cases h0 : bits.toNat = 0
    · rw [if_pos h0] at hres
      replace hf : call cx 36 [.vsl false (ofBytes b) b.length, .int .i64 at', .int .u32 0] [] = some (.vsl false (ofBytes o) o.length, []) := by rw [h0] at hf; exact hf
      simp [Tryz.f9, f0, hz', hk', hq, hq2, sf, sf2, hp, hf, hb11, hres, h0]
    · rw [if_neg h0] at hres
      simp [Tryz.f9, f0, hz', hk', hq, hq2, sf, sf2, hp, hf, hb11, hres, h0]
  · replace hq : call cx 13 [.optr 0 2 0, .int .i64 8] [some [.vsl n1 (intsK .i64 z1) z1.length, .int .i64 0]] = some (.osl 1 n 0 m 39, [some (seqD n1 z1 k'), some (encs L)]) := hq
    have hkn : m * 39 = n := by omega
    have hlk : L.length = m := hmm.symm
    have htk : List.take n (encs L) = encs L := List.take_of_length_le (by simp; omega)
    have e1 : (Sl.grown L).nil = false := by simp [Sl.grown, hne]
    rw [e1, hlk] at hp
    by_cases h0 : bits.toNat = 0
    · rw [if_pos h0] at hres
      replace hf : call cx 36 [.vsl false (ofBytes b) b.length, .int .i64 at', .int .u32 0] [] = some (.vsl false (ofBytes o) o.length, []) := by rw [h0] at hf; exact hf
      simp [Tryz.f9, f0, hz', hk', hq, hq2, sf, sf2, hp, hf, hb11, hres, h0, hkn, hlk, htk]
    · rw [if_neg h0] at hres
      simp [Tryz.f9, f0, hz', hk', hq, hq2, sf, sf2, hp, hf, hb11, hres, h0, hkn, hlk, htk]
end Go.Ev.S
namespace Go.Ev.S
open Go Go.Proofs Go.Ev
end Go.Ev.S
namespace Go.Ev
open Go Go.Proofs
theorem arg_u32 {H : Type} {enc : TypeId × Value → H} {P : Program} {W : World} {base n : Nat} {t : TypeId} {v : Value} {d : DataW H} {ps : List MemPlace} (hu : P.underlying t = some (.int .u32)) (hp : PlainT P (n + 1) t = true) (hv : Value.okWide P W .any base t v) (h : DataW.Trod enc P W 0 (fun _ => true) true t v d ps) : ∃ b : BitVec 32, Rep (· < W.heap.size) W iota0 [] (.int .u32 (b.toNat : Int)) v ∧ b = b := by
  obtain ⟨ds, h1, h2⟩ := read_plain hp h
  obtain ⟨x, rfl, hx⟩ := has_int hu h1
  simp [Lit.wf, IntKind.min, IntKind.max, IntKind.signed, IntKind.bits] at hx
  refine ⟨BitVec.ofNat 32 x.toNat, ?_, rfl⟩
  have e : ((BitVec.ofNat 32 x.toNat).toNat : Int) = x := by
    rw [BitVec.toNat_ofNat, Nat.mod_eq_of_lt (by omega)]
    omega
  rw [e]
  exact cor_val h2 (one_int hu hv)
end Go.Ev
namespace Go.Ev
open Go Go.Proofs Go.ChangeShapes Go.WideShapes Go.ChangeAt Go.RowKit
theorem handed_shaped {H : Type} {enc : TypeId × Value → H} {a : Assume} {C : Checked} {os : Os} {f : FuncId} {fn : Func} {s : ChangeSpec} {conds : List PathCond} {apart fresh handsOn again : Bool} {X : World → Array Value → Prop}
    (hX : ∀ (w w' : World) (args : Array Value), w.heap = w'.heap → X w args → X w' args)
    (own : ownKnob C.prog.godebug = none) (started : os.Started) (noInit : C.prog.inits.idxOf? f = none) (hfn : C.prog.funcs[f]? = some fn)
    (witness : ∃ (w : World) (tape : Tape) (i : Input), w.os = os ∧ (w.forCall tape i).Shaped C.prog ∧ i.vars = [] ∧ Input.okWide C.prog (w.forCall tape i) .any w.heap.size f i ∧
      ((s.pre enc C.prog fn conds apart (w.forCall tape i).memory i.args ∧ X (w.forCall tape i).memory i.args) ∧ sizedMet enc C.prog fn (OpenSpec.ofChange s) apart (w.forCall tape i).memory i.args) ∧ a.holds C.prog (lone (Frame.enter C.prog f i.args .normal) [] (w.forCall tape i)))
    (contract : ∀ (W : World) (base : Nat) (args : Array Value) (ds gs : List (DataW H)) (before : List MemPlace),
      (∀ (j : Nat) t v, fn.params[j]? = some t → args[j]? = some v → Value.okWide C.prog W .any base t v) →
      DataW.Whole enc C.prog fn.params.toList s.vars apart W args.toList ds gs before → X W args → W.ShapedOpen C.prog →
      Calls C.prog f args W fun e W' => ∃ v, e = .returned v ∧ s.post enc C.prog fn apart fresh handsOn again W args v W') :
    ReturnsInHanded a C os f .any (fun w args => (s.pre enc C.prog fn conds apart w args ∧ X w args) ∧ sizedMet enc C.prog fn (OpenSpec.ofChange s) apart w args) (s.post enc C.prog fn apart fresh handsOn again) := by
  refine returnsInHanded_of_calls own started noInit witness ?_
  intro w tape i _ hsh _ hok hpre _
  obtain ⟨_, _, _, fn', hfn', _, _, _, _, hval⟩ := hok
  have e : fn' = fn := Option.some.inj (hfn'.symm.trans hfn)
  subst e
  obtain ⟨⟨⟨ds, gs, before, hw, hc⟩, hx⟩, hz⟩ := hpre
  have hw' := DataW.Whole.of_heap (w' := w.forCall tape i) (by rfl) hw
  refine (contract (w.forCall tape i) w.heap.size i.args ds gs before hval hw' (hX _ _ _ (by rfl) hx) hsh).mono fun e W' ⟨v, he, hp⟩ => ?_
  subst he
  exact ChangeSpec.post_blind hp
end Go.Ev
