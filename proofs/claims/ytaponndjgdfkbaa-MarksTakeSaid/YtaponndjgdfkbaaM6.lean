import Derived.Test.YtaponndjgdfkbaaM5
namespace Go.Ev.S1
open Go Go.Proofs Go.Ev
theorem zero16 : ofBytes [0, 0, 0, 0, 0, 0, 0, 0, 0, 0, 0, 0, 0, 0, 0, 0] = [.int .u8 0, .int .u8 0, .int .u8 0, .int .u8 0, .int .u8 0, .int .u8 0, .int .u8 0, .int .u8 0, .int .u8 0, .int .u8 0, .int .u8 0, .int .u8 0, .int .u8 0, .int .u8 0, .int .u8 0, .int .u8 0] := rfl
def entryIt (seq : Int) : It := ⟨idOf 2, false, 0, 0, seq, 0, 0, [0, 0, 0, 0, 0, 0, 0, 0, 0, 0, 0, 0, 0, 0, 0, 0], .vsl true [] 0⟩
def gapIt (fr to : Int) : It := ⟨idOf 2, true, fr, to, 0, 0, 0, [0, 0, 0, 0, 0, 0, 0, 0, 0, 0, 0, 0, 0, 0, 0, 0], .vsl true [] 0⟩
theorem entryIt_ok {s : Int} (h : 0 ≤ s ∧ s < 18446744073709551616) : (entryIt s).Ok := ⟨rfl, rfl, by simp [entryIt], by simp [entryIt], h, rfl⟩
theorem gapIt_ok {s t : Int} (h : 0 ≤ s ∧ s < 18446744073709551616) (ht : 0 ≤ t ∧ t < 18446744073709551616) : (gapIt s t).Ok := ⟨rfl, rfl, h, ht, by simp [gapIt], rfl⟩

/-- Where the one mark stands. -/
def T6 (d : D) (H : Heap) (m : Mk) : Prop := (d = .vsl true [] 0 ∧ m = ⟨idOf 2, 0, 0, 0⟩) ∨ ∃ b, d = .osl b 19 0 1 19 ∧ hget H b = some m.cells
theorem take_at {d : D} {H : Heap} {m : Mk} (h : T6 d H m) (hm : m.Ok) (hid : m.id = idOf 2) (it : It) (hi : it.Ok) (over : Bool) (hii : it.id = idOf 2) (hg : goesM m it = true) (L : Heap) :
    callD cx (call cx) 10 [d, .agg it.cells, .bool over] (H ++ L) = some (.tup [.osl (H ++ L).length 19 0 1 19, .int .i64 0], H ++ (L ++ [some (stepM m it over).cells])) := by
  rcases h with ⟨rfl, rfl⟩ | ⟨b, rfl, hb⟩
  · rw [take_at0 it hi over hii hg, List.append_assoc]
  · rw [take_at1 m hm it hi over (by rw [hii, hid]) hg (H ++ L) b (by rw [hget, hget_app hb]; rfl), List.append_assoc]

noncomputable def L3 : Code := cAt [1, 1, 1, 1, 1, 1, 1, 0, 1, 0, 0] (bodyOf Try.f3)
set_option maxRecDepth 4000 in
set_option maxHeartbeats 2000000 in
theorem loop3 (steps : List Int) (hn : steps.length ≤ 30) (nil : Bool) (hnil : nil = true → steps = []) (back : Int) (e : Env)
    (h0 : look e 0 = some (.vsl nil (intsD steps) steps.length)) (h1 : look e 1 = some (.int .i64 back)) (h5 : look e 5 = some (.bool true)) (h6 : look e 6 = some (.vsl true [] 0))
    (h7 : look e 7 = some (.int .u64 0)) (h8 : look e 8 = some (.int .u64 0)) (h9 : look e 9 = some (.int .u64 0)) (h10 : look e 10 = some (.optr 0 16 0)) (h11 : look e 11 = some (.int .i64 0)) :
    Run cx 3 133 0 (fun ex e H => ex = .exit 0 ∧ look e 5 = some (.bool true) ∧ (look e 6 = some (.vsl true [] 0) ∨ ∃ b, look e 6 = some (.osl b 19 0 1 19))) [] (code cx 3 133 0 (.loop L3) e [some (ofBytes (idOf 2))]) := by
  refine Run.loop (fun (s : Nat × Mk × D) e H => s.1 ≤ steps.length ∧ T6 s.2.2 H s.2.1 ∧ s.2.1.id = idOf 2 ∧ (0 ≤ s.2.1.seq ∧ s.2.1.seq ≤ 9 * s.1) ∧ (0 ≤ s.2.1.lost ∧ s.2.1.lost ≤ 9 * s.1) ∧ (0 ≤ s.2.1.over ∧ s.2.1.over ≤ s.1) ∧ hget H 0 = some (ofBytes (idOf 2)) ∧
      look e 0 = some (.vsl nil (intsD steps) steps.length) ∧ look e 1 = some (.int .i64 back) ∧ look e 5 = some (.bool true) ∧ look e 6 = some s.2.2 ∧ look e 7 = some (.int .u64 s.2.1.seq) ∧ look e 8 = some (.int .u64 s.2.1.lost) ∧ look e 9 = some (.int .u64 s.2.1.over) ∧
      look e 10 = some (.optr 0 16 0) ∧ look e 11 = some (.int .i64 s.1)) (fun s => steps.length - s.1) ?_ (0, ⟨idOf 2, 0, 0, 0⟩, .vsl true [] 0) e _ ⟨Nat.zero_le _, .inl ⟨rfl, rfl⟩, rfl, by simp, by simp, by simp, rfl, h0, h1, h5, h6, h7, h8, h9, h10, h11⟩
  clear h0 h1 h5 h6 h7 h8 h9 h10 h11 e
  rintro ⟨i, m, d⟩ e H ⟨hi, ht, hid, hseq, hlost, hover, hH0, h0, h1, h5, h6, h7, h8, h9, h10, h11⟩
  simp only at hi ht hid hseq hlost hover h6 h7 h8 h9 h11
  simp only [L3, cAt, bodyOf, Try.f3, Option.getD]
  by_cases hlt : i < steps.length
  · have hnf : nil = false := by
      cases nil with
      | false => rfl
      | true => rw [hnil rfl] at hlt; simp at hlt
    subst hnf
    have hlt' : (i : Int) < (steps.length : Int) := by omega
    have hH := hget_app hH0
    have hHa := hget_at hH0
    have hid16 : (idOf 2).length = 16 := rfl
    have hx := intsD_drop steps hlt
    have hnum := num_bnd (n := steps[i]) (b := 9) (by decide)
    have hnb := num_bnd (n := back) (b := 3) (by decide)
    generalize steps[i] = x at hx hnum
    obtain ⟨k, hk⟩ : ∃ k, num x 9 = k := ⟨_, rfl⟩
    rw [hk] at hnum
    have hH2 : ∀ (L : Heap) (h : 0 < (H ++ L).length), (H ++ L)[0]'h = some (ofBytes (idOf 2)) := fun L h => by
      have := hH L
      rw [List.getElem?_eq_getElem h] at this
      exact Option.some.inj this
    have hmok : m.Ok := ⟨by rw [hid]; rfl, by omega, by omega, by omega⟩
    have w1 : IntKind.u64.wrap k = k := by rw [wrap_u64]; omega
    have w2 : IntKind.u64.wrap (m.seq + 1) = m.seq + 1 := by rw [wrap_u64]; omega
    have w3 : IntKind.u64.wrap (m.seq + 1 + k) = m.seq + 1 + k := by rw [wrap_u64]; omega
    have w4 : IntKind.u64.wrap (m.lost + k) = m.lost + k := by rw [wrap_u64]; omega
    obtain ⟨nb, hnk⟩ : ∃ nb, num back 3 = nb := ⟨_, rfl⟩
    rw [hnk] at hnb
    have w5 : IntKind.u64.wrap nb = nb := by rw [wrap_u64]; omega
    have w6 : IntKind.u64.wrap (m.seq + 1 + k + 1) = m.seq + 1 + k + 1 := by rw [wrap_u64]; omega
    have hne : ¬ (m.seq + 1 + k + 1 = 0) := by omega
    have hr1 : 0 ≤ nb.tmod (m.seq + 1 + k + 1) := Int.tmod_nonneg _ (by omega)
    have hr2 : nb.tmod (m.seq + 1 + k + 1) < m.seq + 1 + k + 1 := Int.tmod_lt_of_pos _ (by omega)
    obtain ⟨r, hr⟩ : ∃ r, nb.tmod (m.seq + 1 + k + 1) = r := ⟨_, rfl⟩
    rw [hr] at hr1 hr2
    have w7 : IntKind.u64.wrap (m.seq + 1 + k - r) = m.seq + 1 + k - r := by rw [wrap_u64]; omega
    have w8 : IntKind.i64.wrap ((i : Int) + 1) = ((i + 1 : Nat) : Int) := by rw [wrap_i64] <;> omega
    have hrest : ∀ (lo ov : Int), 0 ≤ lo → lo < 1000000 → 0 ≤ ov → ov < 1000000 →
        (∀ L : Heap, L[1]? = some (some (ofBytes (idOf 2) ++ [.int .u64 (m.seq + 1 + k), .int .u64 lo, .int .u64 ov])) →
          callD cx (call cx) 10 [.osl (H.length + 1) 19 0 1 19, .agg (entryIt (m.seq + 1 + k - r)).cells, .bool false] (H ++ L) = some (.tup [.vsl true [] 0, .int .i64 13], H ++ L)) ∧
        (∀ L : Heap, L[1]? = some (some (ofBytes (idOf 2) ++ [.int .u64 (m.seq + 1 + k), .int .u64 lo, .int .u64 ov])) →
          callD cx (call cx) 11 [.osl (H.length + 1) 19 0 1 19, .agg (ofBytes (idOf 2))] (H ++ L) = some (.agg (ofBytes (idOf 2) ++ [.int .u64 (m.seq + 1 + k), .int .u64 lo, .int .u64 ov]), H ++ L)) := by
      intro lo ov a1 a2 a3 a4
      have hok : (⟨idOf 2, m.seq + 1 + k, lo, ov⟩ : Mk).Ok := ⟨rfl, by simp only; omega, by simp only; omega, by simp only; omega⟩
      constructor
      · intro L hL
        refine order_at1 ⟨idOf 2, m.seq + 1 + k, lo, ov⟩ hok (entryIt _) (entryIt_ok (by omega)) false rfl ?_ (H ++ L) _ ?_
        · rw [goesM, if_neg (show ¬ (entryIt (m.seq + 1 + k - r)).gap = true from by simp [entryIt])]
          have h1 : (entryIt (m.seq + 1 + k - r)).seq ≤ m.seq + 1 + k := by
            show m.seq + 1 + k - r ≤ m.seq + 1 + k
            omega
          rw [decide_eq_true h1]
          rfl
        · rw [hget, app_get, hL]; rfl
      · intro L hL
        refine get_at ⟨idOf 2, m.seq + 1 + k, lo, ov⟩ hok (H ++ L) _ ?_
        rw [hget, app_get, hL]; rfl
    simp only [It.cells, entryIt, zero16, List.cons_append, List.nil_append] at hrest
    by_cases hgap : x.tmod 3 = 0
    · have hT := take_at ht hmok hid (gapIt (m.seq + 1) (m.seq + 1 + k)) (gapIt_ok (by omega) (by omega)) (x.tmod 2 == 0) rfl (by
        rw [goesM, if_pos (show (gapIt (m.seq + 1) (m.seq + 1 + k)).gap = true from rfl)]
        have h1 : ¬ (gapIt (m.seq + 1) (m.seq + 1 + k)).fr ≤ m.seq := by
          show ¬ (m.seq + 1 ≤ m.seq)
          omega
        have h2 : ¬ (gapIt (m.seq + 1) (m.seq + 1 + k)).to < (gapIt (m.seq + 1) (m.seq + 1 + k)).fr := by
          show ¬ (m.seq + 1 + k < m.seq + 1)
          omega
        rw [decide_eq_false h1, decide_eq_false h2]
        rfl)
      have hst : stepM m (gapIt (m.seq + 1) (m.seq + 1 + k)) (x.tmod 2 == 0) = ⟨idOf 2, m.seq + 1 + k, m.lost + k + 1, m.over⟩ := by
        have e1 : m.seq + 1 + k - (m.seq + 1) = k := by omega
        have e2 : IntKind.u64.wrap (k + 1) = k + 1 := by rw [wrap_u64]; omega
        have e3 : ¬ u64max - m.lost < k + 1 := by unfold u64max; omega
        simp only [stepM, gapIt, if_true, e1, w1, e2, moreM, if_neg e3, hid]
        congr 1
        omega
      rw [hst] at hT
      simp only [It.cells, gapIt, zero16, Mk.cells, List.cons_append, List.nil_append] at hT
      obtain ⟨hO, hG⟩ := hrest (m.lost + k + 1) m.over (by omega) (by omega) (by omega) (by omega)
      have w9 : IntKind.u64.wrap (m.lost + k + 1) = m.lost + k + 1 := by rw [wrap_u64]; omega
      simp [-callD, -callV, h0, h1, h5, h6, h7, h8, h9, h10, h11, hlt', hx, number_at, hH, hHa, hid16, hk, hH2, w1, w2, w3, w4, w5, w6, w7, w8, w9, hne, hr, hnk, List.take_append, List.drop_append, drop_bytes, hgap, hT, hO, hG]
      exact ⟨i + 1, by omega, by omega, ⟨idOf 2, m.seq + 1 + k, m.lost + k + 1, m.over⟩, _, .inr ⟨H.length + 1, rfl, by simp [hget, Mk.cells]⟩, rfl, by simp only; omega, by simp only; omega, by simp only; omega, rfl, rfl, rfl, rfl, rfl⟩
    · by_cases hgr : x.tmod 2 = 0
      · have hgo : goesM m (entryIt (m.seq + 1 + k)) = true := by
          rw [goesM, if_neg (show ¬ (entryIt (m.seq + 1 + k)).gap = true from by simp [entryIt])]
          have h1 : ¬ (entryIt (m.seq + 1 + k)).seq ≤ m.seq := by
            show ¬ (m.seq + 1 + k ≤ m.seq)
            omega
          rw [decide_eq_false h1]
          rfl
        have hT := take_at ht hmok hid (entryIt (m.seq + 1 + k)) (entryIt_ok (by omega)) true rfl hgo
        have hst : stepM m (entryIt (m.seq + 1 + k)) true = ⟨idOf 2, m.seq + 1 + k, m.lost, m.over + 1⟩ := by
          have e3 : ¬ u64max - m.over < 1 := by unfold u64max; omega
          simp [stepM, entryIt, moreM, if_neg e3, hid]
        rw [hst] at hT
        simp only [It.cells, entryIt, zero16, Mk.cells, List.cons_append, List.nil_append] at hT
        obtain ⟨hO, hG⟩ := hrest m.lost (m.over + 1) (by omega) (by omega) (by omega) (by omega)
        have w9 : IntKind.u64.wrap (m.over + 1) = m.over + 1 := by rw [wrap_u64]; omega
        simp [-callD, -callV, h0, h1, h5, h6, h7, h8, h9, h10, h11, hlt', hx, number_at, hH, hHa, hid16, hk, hH2, w1, w2, w3, w5, w6, w7, w8, w9, hne, hr, hnk, List.take_append, List.drop_append, drop_bytes, hgap, hgr, hT, hO, hG]
        exact ⟨i + 1, by omega, by omega, ⟨idOf 2, m.seq + 1 + k, m.lost, m.over + 1⟩, _, .inr ⟨H.length + 1, rfl, by simp [hget, Mk.cells]⟩, rfl, by simp only; omega, by simp only; omega, by simp only; omega, rfl, rfl, rfl, rfl, rfl⟩
      · have hgo : goesM m (entryIt (m.seq + 1 + k)) = true := by
          rw [goesM, if_neg (show ¬ (entryIt (m.seq + 1 + k)).gap = true from by simp [entryIt])]
          have h1 : ¬ (entryIt (m.seq + 1 + k)).seq ≤ m.seq := by
            show ¬ (m.seq + 1 + k ≤ m.seq)
            omega
          rw [decide_eq_false h1]
          rfl
        have hT := take_at ht hmok hid (entryIt (m.seq + 1 + k)) (entryIt_ok (by omega)) false rfl hgo
        have hst : stepM m (entryIt (m.seq + 1 + k)) false = ⟨idOf 2, m.seq + 1 + k, m.lost, m.over⟩ := by
          simp [stepM, entryIt, hid]
        rw [hst] at hT
        simp only [It.cells, entryIt, zero16, Mk.cells, List.cons_append, List.nil_append] at hT
        obtain ⟨hO, hG⟩ := hrest m.lost m.over (by omega) (by omega) (by omega) (by omega)
        have hgr' : (x.tmod 2 == 0) = false := by simpa using hgr
        simp [-callD, -callV, h0, h1, h5, h6, h7, h8, h9, h10, h11, hlt', hx, number_at, hH, hHa, hid16, hk, hH2, w1, w2, w3, w5, w6, w7, w8, hne, hr, hnk, List.take_append, List.drop_append, drop_bytes, hgap, hgr, hgr', hT, hO, hG]
        exact ⟨i + 1, by omega, by omega, ⟨idOf 2, m.seq + 1 + k, m.lost, m.over⟩, _, .inr ⟨H.length + 1, rfl, by simp [hget, Mk.cells]⟩, rfl, by simp only; omega, by simp only; omega, by simp only; omega, rfl, rfl, rfl, rfl, rfl⟩
  · have hlt' : ¬ (i : Int) < (steps.length : Int) := by omega
    simp [h0, h1, h5, h6, h7, h8, h9, h10, h11, hlt']
    rcases ht with ⟨h, _⟩ | ⟨b, h, _⟩
    · exact .inl h
    · exact .inr ⟨b, h⟩
end Go.Ev.S1
