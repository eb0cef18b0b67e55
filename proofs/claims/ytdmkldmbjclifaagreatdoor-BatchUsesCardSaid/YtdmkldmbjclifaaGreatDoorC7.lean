import Derived.Test.YtdmkldmbjclifaaGreatDoorC6
import Derived.Handed
import Derived.LaidMore
namespace Go.Ev.S
open Go Go.Proofs Go.Ev
def rmoreM (v n : Int) : Int := if IntKind.u64.wrap (u64max - n) < v then u64max else IntKind.u64.wrap (v + n)
theorem krmore_ev [TxtC] (v n : Int) : call cx 48 [.int .u64 v, .int .u64 n] [] = some (.int .u64 (rmoreM v n), []) := by
  refine call_run Tryz.func48 rfl ⟨rfl, rfl⟩ ?_
  by_cases h : IntKind.u64.wrap (18446744073709551615 - n) < v
  · simp [Tryz.f48, h, rmoreM, u64max]
  · simp [Tryz.f48, h, rmoreM, u64max]
def rstepM (m : Mk) (it : It) (over : Bool) : Mk :=
  if it.gap then { m with seq := it.til, lost := rmoreM m.lost (rmoreM (IntKind.u64.wrap (it.til - it.fr)) 1) }
  else { m with seq := it.rc.seq, over := if over then rmoreM m.over 1 else m.over }
def rtakeL (l : List Mk) (it : It) (over : Bool) : List Mk := rsetL l (rstepM (getM l it.id) it over)
def rtakeC (l : List Mk) (it : It) (over : Bool) : Int :=
  let c := rsetC l (rstepM (getM l it.id) it over)
  if c ≠ 0 then c else if goesM (getM l it.id) it then 0 else 13
set_option maxRecDepth 4000 in
set_option maxHeartbeats 2000000 in
theorem krtake_ev [TxtC] (s : Sl Mk) (hn : s.l.length < 4611686018427387904) (it : It) (over : Bool) :
    call cx 24 [(.vsl s.nil (encs s.l) s.l.length), .agg (Enc.cells it), .bool over] [] = some (.tup [(.vsl (resS (rtakeC s.l it over) (.of (rtakeL s.l it over))).nil (encs (resS (rtakeC s.l it over) (.of (rtakeL s.l it over))).l) (resS (rtakeC s.l it over) (.of (rtakeL s.l it over))).l.length), .int .i64 (rtakeC s.l it over)], []) := by
  have hge := krget_ev s hn it.id
  have hgid := getM_id s.l it.id
  have hse := krset_ev s hn (rstepM (getM s.l it.id) it over)
  refine call_run Tryz.func24 rfl ⟨rfl, rfl⟩ ?_
  unfold rtakeC rtakeL
  generalize getM s.l it.id = g at *
  have hm1 := krmore_ev (IntKind.u64.wrap (it.til - it.fr)) 1
  have hm2 := krmore_ev g.lost (rmoreM (IntKind.u64.wrap (it.til - it.fr)) 1)
  have hm3 := krmore_ev g.over 1
  have key : ∀ (st : Mk) (hst : rstepM g it over = st), ∀ c (hc : rsetC s.l st = c), ∀ d (hd : rsetL s.l st = d), True := fun _ _ _ _ _ _ => trivial
  cases hgap : it.gap with
  | true =>
    have hst : rstepM g it over = { g with seq := it.til, lost := rmoreM g.lost (rmoreM (IntKind.u64.wrap (it.til - it.fr)) 1) } := by simp [rstepM, hgap]
    rw [hst] at hse ⊢
    generalize rsetC s.l { g with seq := it.til, lost := rmoreM g.lost (rmoreM (IntKind.u64.wrap (it.til - it.fr)) 1) } = c at *
    generalize rsetL s.l { g with seq := it.til, lost := rmoreM g.lost (rmoreM (IntKind.u64.wrap (it.til - it.fr)) 1) } = d at *
    by_cases hc : c = 0
    · subst hc
      by_cases h1 : it.fr ≤ g.seq
      · simp [Tryz.f24, hge, hgap, hm1, hm2, hse, h1, goesM, resS]
      · by_cases h2 : it.til < it.fr
        · simp [Tryz.f24, hge, hgap, hm1, hm2, hse, h1, h2, goesM, resS]
        · simp [Tryz.f24, hge, hgap, hm1, hm2, hse, h1, h2, goesM, resS]
    · simp [Tryz.f24, hge, hgap, hm1, hm2, hse, hc, resS]
  | false =>
    have hst : rstepM g it over = { g with seq := it.rc.seq, over := if over then rmoreM g.over 1 else g.over } := by simp [rstepM, hgap]
    rw [hst] at hse ⊢
    cases over with
    | false =>
      simp only [Bool.false_eq_true, if_false] at hse ⊢
      generalize rsetC s.l { g with seq := it.rc.seq, over := g.over } = c at *
      generalize rsetL s.l { g with seq := it.rc.seq, over := g.over } = d at *
      by_cases hc : c = 0
      · subst hc
        by_cases h1 : it.rc.seq ≤ g.seq
        · simp [Tryz.f24, hge, hgap, hse, h1, goesM, resS]
        · simp [Tryz.f24, hge, hgap, hse, h1, goesM, resS]
      · simp [Tryz.f24, hge, hgap, hse, hc, resS]
    | true =>
      simp only [if_true] at hse ⊢
      generalize rsetC s.l { g with seq := it.rc.seq, over := rmoreM g.over 1 } = c at *
      generalize rsetL s.l { g with seq := it.rc.seq, over := rmoreM g.over 1 } = d at *
      by_cases hc : c = 0
      · subst hc
        by_cases h1 : it.rc.seq ≤ g.seq
        · simp [Tryz.f24, hge, hgap, hm3, hse, h1, goesM, resS]
        · simp [Tryz.f24, hge, hgap, hm3, hse, h1, goesM, resS]
      · simp [Tryz.f24, hge, hgap, hm3, hse, hc, resS]
end Go.Ev.S
namespace Go.Ev.S
open Go Go.Proofs Go.Ev
end Go.Ev.S
namespace Go.Ev.S
open Go Go.Proofs Go.Ev
theorem cmpB_self : ∀ (x : List UInt8), cmpB x x = 0
  | [] => rfl
  | a :: x => by simp [cmpB, cmpB_self x]
theorem cmpB_swap : ∀ (x y : List UInt8), cmpB y x = - cmpB x y
  | [], [] => rfl
  | [], _ :: _ => rfl
  | _ :: _, [] => rfl
  | a :: x, b :: y => by
    simp only [cmpB]
    by_cases h : a = b
    · subst h; simp [cmpB_swap x y]
    · have h' : ¬ b = a := fun e => h e.symm
      rw [if_neg h, if_neg h']
      by_cases hl : a < b
      · have : ¬ b < a := UInt8.not_lt.2 (UInt8.le_of_lt hl)
        rw [if_pos hl, if_neg this]; rfl
      · have : b < a := UInt8.lt_of_le_of_ne (UInt8.not_lt.1 hl) h'
        rw [if_neg hl, if_pos this]
theorem cmpB_eq : ∀ {x y : List UInt8}, cmpB x y = 0 → x = y
  | [], [], _ => rfl
  | [], _ :: _, h => by simp [cmpB] at h
  | _ :: _, [], h => by simp [cmpB] at h
  | a :: x, b :: y, h => by
    simp only [cmpB] at h
    by_cases e : a = b
    · rw [if_pos e] at h
      rw [e, cmpB_eq h]
    · rw [if_neg e] at h
      split at h <;> simp at h
theorem cmpB_rng : ∀ (x y : List UInt8), cmpB x y = -1 ∨ cmpB x y = 0 ∨ cmpB x y = 1
  | [], [] => by simp [cmpB]
  | [], _ :: _ => by simp [cmpB]
  | _ :: _, [] => by simp [cmpB]
  | a :: x, b :: y => by
    simp only [cmpB]
    split
    · exact cmpB_rng x y
    · split <;> simp
theorem cmpB_trans : ∀ {x y z : List UInt8}, cmpB x y < 0 → cmpB y z < 0 → cmpB x z < 0
  | [], [], _, h, _ => by simp [cmpB] at h
  | [], _ :: _, [], _, h => by simp [cmpB] at h
  | [], _ :: _, _ :: _, _, _ => by simp [cmpB]
  | _ :: _, [], _, h, _ => by simp [cmpB] at h
  | _ :: _, _ :: _, [], _, h => by simp [cmpB] at h
  | a :: x, b :: y, c :: z, h1, h2 => by
    simp only [cmpB] at h1 h2 ⊢
    by_cases e1 : a = b
    · subst e1
      rw [if_pos rfl] at h1
      by_cases e2 : a = c
      · subst e2
        rw [if_pos rfl] at h2 ⊢
        exact cmpB_trans h1 h2
      · rw [if_neg e2] at h2 ⊢
        exact h2
    · rw [if_neg e1] at h1
      have l1 : a < b := by
        by_cases l : a < b
        · exact l
        · rw [if_neg l] at h1; simp at h1
      by_cases e2 : b = c
      · subst e2
        rw [if_neg e1, if_pos l1]
        decide
      · rw [if_neg e2] at h2
        have l2 : b < c := by
          by_cases l : b < c
          · exact l
          · rw [if_neg l] at h2; simp at h2
        have l3 : a < c := UInt8.lt_trans l1 l2
        rw [if_neg (UInt8.ne_of_lt l3), if_pos l3]
        decide
theorem id_of_cmp {a b : ID} (h : cmpB a.l b.l = 0) : a = b := ID.ext' (cmpB_eq h)

def below (l : List Mk) (id : ID) : Prop := ∀ x ∈ l, cmpB x.id.l id.l < 0
theorem rises_cons {a : Mk} {l : List Mk} : risesM (a :: l) = true ↔ (∀ x ∈ l, cmpB a.id.l x.id.l < 0) ∧ risesM l = true := by
  induction l generalizing a with
  | nil => simp [risesM]
  | cons b l ih =>
    simp only [risesM, Bool.and_eq_true, decide_eq_true_eq, List.mem_cons, forall_eq_or_imp]
    constructor
    · rintro ⟨h1, h2⟩
      exact ⟨⟨h1, fun x hx => cmpB_trans h1 ((ih.1 h2).1 x hx)⟩, h2⟩
    · rintro ⟨⟨h1, _⟩, h2⟩
      exact ⟨h1, h2⟩
theorem rises_append {a b : List Mk} : risesM (a ++ b) = true ↔ risesM a = true ∧ risesM b = true ∧ ∀ x ∈ a, ∀ y ∈ b, cmpB x.id.l y.id.l < 0 := by
  induction a with
  | nil => simp [risesM]
  | cons x a ih =>
    rw [List.cons_append, rises_cons, rises_cons, ih]
    constructor
    · rintro ⟨h1, h2, h3, h4⟩
      refine ⟨⟨fun y hy => h1 y (List.mem_append_left _ hy), h2⟩, h3, fun y hy z hz => ?_⟩
      rcases List.mem_cons.1 hy with rfl | hy
      · exact h1 z (List.mem_append_right _ hz)
      · exact h4 y hy z hz
    · rintro ⟨⟨h1, h2⟩, h3, h4⟩
      refine ⟨fun y hy => ?_, h2, h3, fun y hy z hz => h4 y (List.mem_cons_of_mem _ hy) z hz⟩
      rcases List.mem_append.1 hy with h | h
      · exact h1 y h
      · exact h4 x (List.mem_cons_self ..) y h
def insM (m : Mk) : List Mk → List Mk
  | [] => [m]
  | x :: l => if cmpB x.id.l m.id.l < 0 then x :: insM m l else m :: x :: l
theorem insM_mem (m : Mk) : ∀ (l : List Mk) (x : Mk), x ∈ insM m l ↔ x = m ∨ x ∈ l
  | [], x => by simp [insM]
  | y :: l, x => by
    unfold insM
    split
    · simp only [List.mem_cons, insM_mem m l]
      constructor
      · rintro (h | h | h)
        · exact .inr (.inl h)
        · exact .inl h
        · exact .inr (.inr h)
      · rintro (h | h | h)
        · exact .inr (.inl h)
        · exact .inl h
        · exact .inr (.inr h)
    · simp
theorem insM_below {m : Mk} : ∀ {l : List Mk}, below l m.id → insM m l = l ++ [m]
  | [], _ => rfl
  | x :: l, h => by
    rw [insM, if_pos (h x (List.mem_cons_self ..)), insM_below fun y hy => h y (List.mem_cons_of_mem _ hy)]
    rfl
theorem insM_snoc {m x : Mk} : ∀ {l : List Mk}, ¬ cmpB x.id.l m.id.l < 0 → insM m (l ++ [x]) = insM m l ++ [x]
  | [], h => by simp [insM, h]
  | y :: l, h => by
    simp only [List.cons_append, insM]
    split
    · rw [insM_snoc h]; rfl
    · rfl
theorem hasM_false {l : List Mk} {id : ID} : hasM l id = false ↔ ∀ x ∈ l, x.id ≠ id := by
  simp [hasM]
theorem getElem?_mid {α : Type} (a : List α) (x : α) (b : List α) : (a ++ x :: b)[a.length]? = some x := by
  rw [List.getElem?_append_right (Nat.le_refl _), Nat.sub_self]; rfl
theorem sink_ins (m : Mk) : ∀ (n : Nat) (l t : List Mk), l.length = n → risesM l = true → (∀ x ∈ l, x.id ≠ m.id) → sink n (l ++ m :: t) = insM m l ++ t
  | 0, l, t, hl, _, _ => by
    have : l = [] := List.eq_nil_of_length_eq_zero hl
    subst this
    rfl
  | n + 1, l, t, hl, hr, hne => by
    obtain ⟨l', x, rfl⟩ : ∃ l' x, l = l' ++ [x] := ⟨l.dropLast, l.getLast (by intro h; subst h; simp at hl), (List.dropLast_concat_getLast _).symm⟩
    have hl' : l'.length = n := by simpa using hl
    obtain ⟨r1, _, r2⟩ := rises_append.1 hr
    have hx := hne x (by simp)
    have e1 : (l' ++ [x] ++ m :: t)[n + 1]? = some m := by
      rw [show n + 1 = (l' ++ [x]).length by simp [hl']]
      exact getElem?_mid _ _ _
    have e2 : (l' ++ [x] ++ m :: t)[n]? = some x := by
      rw [List.append_assoc, ← hl']
      exact getElem?_mid l' x (m :: t)
    rw [sink, e1, e2]
    simp only
    by_cases hc : cmpB m.id.l x.id.l < 0
    · rw [if_pos hc]
      have hsw : swp (l' ++ [x] ++ m :: t) (n + 1) = l' ++ m :: (x :: t) := by
        unfold swp
        rw [e1, Nat.add_sub_cancel, e2]
        simp only
        subst hl'
        rw [List.append_assoc, List.singleton_append, List.set_append_right _ _ (Nat.le_succ _), show l'.length + 1 - l'.length = 1 by omega, List.set_append_right _ _ (Nat.le_refl _), Nat.sub_self]
        rfl
      have hxm : ¬ cmpB x.id.l m.id.l < 0 := by rw [cmpB_swap]; omega
      rw [hsw, sink_ins m n l' (x :: t) hl' r1 (fun y hy => hne y (List.mem_append_left _ hy)), insM_snoc hxm]
      simp
    · rw [if_neg hc]
      have hxm : cmpB x.id.l m.id.l < 0 := by
        rcases cmpB_rng x.id.l m.id.l with h | h | h
        · omega
        · exact absurd (id_of_cmp h) hx
        · rw [cmpB_swap] at hc; omega
      have hb : below (l' ++ [x]) m.id := by
        intro y hy
        rcases List.mem_append.1 hy with h | h
        · exact cmpB_trans (r2 y h x (by simp)) hxm
        · rw [List.mem_singleton.1 h]; exact hxm
      rw [insM_below hb]
      simp
theorem sink_stay {l : List Mk} {t : List Mk} (hr : risesM l = true) {i : Nat} (hi : i < l.length) : sink i (l ++ t) = l ++ t := by
  cases i with
  | zero => rfl
  | succ j =>
    have hj : j < l.length := by omega
    rw [sink, List.getElem?_append_left hi, List.getElem?_append_left hj, List.getElem?_eq_getElem hi, List.getElem?_eq_getElem hj]
    simp only
    rw [if_neg]
    have hlt : cmpB l[j].id.l l[j + 1].id.l < 0 := by
      have hsp : l = l.take (j + 1) ++ l.drop (j + 1) := (List.take_append_drop _ _).symm
      rw [hsp] at hr
      refine (rises_append.1 hr).2.2 _ ?_ _ ?_
      · rw [List.mem_take_iff_getElem]
        exact ⟨j, by omega, rfl⟩
      · rw [List.drop_eq_getElem_cons hi]
        exact List.mem_cons_self ..
    rw [cmpB_swap]
    omega
theorem insFrom_stay {l : List Mk} {m : Mk} (hr : risesM l = true) (hne : ∀ x ∈ l, x.id ≠ m.id) : ∀ (k i : Nat), k + i = l.length + 1 → 1 ≤ i → insFrom k i (l ++ [m]) = if k = 0 then l ++ [m] else insM m l
  | 0, i, _, _ => rfl
  | k + 1, i, h, hi => by
    rw [insFrom, if_neg (by omega)]
    rcases Nat.lt_or_ge i l.length with hlt | hge
    · rw [sink_stay hr hlt, insFrom_stay hr hne k (i + 1) (by omega) (by omega), if_neg (by omega)]
    · have : i = l.length := by omega
      have hk : k = 0 := by omega
      subst hk
      rw [insFrom, sink_ins m i l [] this.symm hr hne]
      simp
theorem find?_neg {l : List Mk} {id : ID} : find? (fun m => m.id == id) l 0 < 0 ↔ hasM l id = false := by
  rcases find?_spec (fun m => m.id == id) l 0 with ⟨i, m, h1, h2, h3, h4, h5⟩ | ⟨h1, h2⟩
  · rw [h4]
    constructor
    · intro h; omega
    · intro h
      have := hasM_false.1 h m (List.mem_of_getElem? h1)
      simp at h3
      exact absurd h3 this
  · rw [h1]
    constructor
    · intro _
      rw [hasM_false]
      intro x hx he
      have := List.find?_eq_none.1 h2 x hx
      simp [he] at this
    · intro _; decide
theorem putM_new {l : List Mk} {m : Mk} (hr : risesM l = true) (hh : hasM l m.id = false) : putM l m = insM m l := by
  unfold putM
  rw [if_pos (find?_neg.2 hh)]
  cases l with
  | nil => rfl
  | cons a l => rw [insFrom_stay hr (hasM_false.1 hh) _ 1 rfl (Nat.le_refl _), if_neg (by simp)]

theorem rsetGo_in (m : Mk) : ∀ (l : List Mk), (∀ x ∈ l, cmpB x.id.l m.id.l ≠ 0) → rsetGo m l true = (l, true)
  | [], _ => rfl
  | x :: l, h => by
    have ih := rsetGo_in m l fun y hy => h y (List.mem_cons_of_mem _ hy)
    have hx := h x (List.mem_cons_self ..)
    simp only [rsetGo, Bool.true_or, ih, Bool.not_true, Bool.false_and, Bool.false_eq_true, if_false, List.nil_append, ne_eq, hx, not_false_eq_true, if_true, List.singleton_append]
theorem above_ne {m : Mk} {x : Mk} {l : List Mk} (hr : risesM (x :: l) = true) (hx : 0 ≤ cmpB x.id.l m.id.l) : ∀ y ∈ l, cmpB y.id.l m.id.l ≠ 0 := by
  intro y hy h0
  have h1 := (rises_cons.1 hr).1 y hy
  have : y.id = m.id := id_of_cmp h0
  rw [this] at h1
  omega
theorem rsetL_new {m : Mk} : ∀ {l : List Mk}, risesM l = true → hasM l m.id = false → rsetL l m = insM m l
  | [], _, _ => rfl
  | x :: l, hr, hh => by
    have hx : cmpB x.id.l m.id.l ≠ 0 := fun h => hasM_false.1 hh x (List.mem_cons_self ..) (id_of_cmp h)
    have hh' : hasM l m.id = false := hasM_false.2 fun y hy => hasM_false.1 hh y (List.mem_cons_of_mem _ hy)
    by_cases hc : cmpB x.id.l m.id.l < 0
    · have hc' : ¬ 0 ≤ cmpB x.id.l m.id.l := by omega
      have ih := rsetL_new (rises_cons.1 hr).2 hh'
      rw [insM, if_pos hc, ← ih]
      simp [rsetL, rsetGo, hc', hx]
    · have hc' : 0 ≤ cmpB x.id.l m.id.l := by omega
      rw [insM, if_neg hc]
      have := rsetGo_in m l (above_ne hr hc')
      simp [rsetL, rsetGo, hc', hx, this]
def repM (m : Mk) : List Mk → List Mk
  | [] => []
  | x :: l => if x.id == m.id then m :: l else x :: repM m l
theorem rsetL_rep {m : Mk} : ∀ {l : List Mk}, risesM l = true → hasM l m.id = true → rsetL l m = repM m l
  | [], _, h => by simp [hasM] at h
  | x :: l, hr, hh => by
    by_cases he : x.id = m.id
    · have h0 : cmpB x.id.l m.id.l = 0 := by rw [he]; exact cmpB_self _
      have := rsetGo_in m l (above_ne hr (by omega))
      have hs := cmpB_self m.id.l
      simp [rsetL, rsetGo, this, repM, he, hs]
    · have hx : cmpB x.id.l m.id.l ≠ 0 := fun h => he (id_of_cmp h)
      have hh' : hasM l m.id = true := by simpa [hasM, he] using hh
      have hc : cmpB x.id.l m.id.l < 0 := by
        obtain ⟨y, hy, hye⟩ : ∃ y ∈ l, y.id = m.id := by simpa [hasM] using hh'
        rw [← hye]
        exact (rises_cons.1 hr).1 y hy
      have hc' : ¬ 0 ≤ cmpB x.id.l m.id.l := by omega
      have ih := rsetL_rep (rises_cons.1 hr).2 hh'
      have hb : (x.id == m.id) = false := by simpa using he
      rw [repM, hb, ← ih]
      simp [rsetL, rsetGo, hc', hx]
theorem find?_set {m : Mk} : ∀ {l : List Mk} (k : Nat), hasM l m.id = true → ∃ i, find? (fun x => x.id == m.id) l k = ((k + i : Nat) : Int) ∧ i < l.length ∧ l.set i m = repM m l
  | [], _, h => by simp [hasM] at h
  | x :: l, k, h => by
    cases he : x.id == m.id with
    | true => exact ⟨0, by simp [find?, he], by simp, by simp [repM, he]⟩
    | false =>
      have h' : hasM l m.id = true := by simpa [hasM, he] using h
      obtain ⟨i, h1, h2, h3⟩ := find?_set (k + 1) h'
      refine ⟨i + 1, ?_, by simpa using h2, by simp [repM, he, h3]⟩
      simp only [find?, he, Bool.false_eq_true, if_false]
      have e : (k : Int) + 1 = ((k + 1 : Nat) : Int) := by omega
      rw [e, h1]
      omega
theorem putM_rep {l : List Mk} {m : Mk} (hh : hasM l m.id = true) : putM l m = repM m l := by
  obtain ⟨i, h1, h2, h3⟩ := find?_set 0 hh
  have h1' : find? (fun x => x.id == m.id) l 0 = (i : Int) := by simpa using h1
  unfold putM
  rw [h1', if_neg (by omega)]
  simpa using h3
theorem put_rset {l : List Mk} {m : Mk} (hr : risesM l = true) : putM l m = rsetL l m := by
  cases hh : hasM l m.id with
  | true => rw [putM_rep hh, rsetL_rep hr hh]
  | false => rw [putM_new hr hh, rsetL_new hr hh]
theorem may_rset (l : List Mk) (m : Mk) : mayM l m.id = rsetC l m := by
  unfold mayM rsetC
  cases hr : rightM l with
  | false => simp
  | true =>
    have h4 := rightM_le hr
    simp only [Bool.true_eq_false, if_false, if_true]
    cases hh : hasM l m.id with
    | true =>
      have : ¬ find? (fun x => x.id == m.id) l 0 < 0 := fun h => by rw [find?_neg.1 h] at hh; cases hh
      simp [this]
    | false =>
      have := find?_neg.2 hh
      by_cases h : l.length = 4
      · simp [this, h]
      · have h' : ¬ 4 ≤ l.length := by omega
        simp [h, h']
theorem rises_of_right {l : List Mk} (h : rightM l = true) : risesM l = true := by
  rw [rightM, Bool.and_eq_true] at h
  exact h.2
theorem right_of_may {l : List Mk} {id : ID} (h : mayM l id = 0) : rightM l = true := by
  unfold mayM at h
  cases hr : rightM l with
  | true => rfl
  | false => rw [hr] at h; simp at h
theorem stepM_id (m : Mk) (it : It) (o : Bool) : (stepM m it o).id = m.id := by unfold stepM; split <;> rfl
theorem rstepM_id (m : Mk) (it : It) (o : Bool) : (rstepM m it o).id = m.id := by unfold rstepM; split <;> rfl
theorem take_code (l : List Mk) (it : It) (o : Bool) : takeC l it = rtakeC l it o := by
  unfold takeC rtakeC
  have h := may_rset l (rstepM (getM l it.id) it o)
  rw [rstepM_id, getM_id] at h
  rw [h]
theorem rmoreM_eq {v n : Int} (hv : isU64 v) (hn : isU64 n) : rmoreM v n = if u64max - n < v then u64max else v + n := by
  unfold isU64 at hv hn
  have e : IntKind.u64.wrap (u64max - n) = u64max - n := by rw [wrap_u64]; unfold u64max; omega
  unfold rmoreM
  rw [e]
  split
  · rfl
  · rw [wrap_u64]
    unfold u64max at *
    omega
theorem step_law {m : Mk} {it : It} {o : Bool} (hm : m.Ok) (hi : it.Ok) (hg : goesM m it = true) : stepM m it o = rstepM m it o := by
  have h1 := hm.seq
  have h2 := hm.lost
  have h3 := hm.over
  have h4 := hi.fr
  have h5 := hi.til
  unfold stepM rstepM
  unfold goesM at hg
  cases hgap : it.gap with
  | true =>
    rw [hgap] at hg
    simp only [if_true, Bool.not_eq_true', Bool.or_eq_false_iff, decide_eq_false_iff_not] at hg ⊢
    unfold isU64 at h1 h2 h4 h5
    have w1 : IntKind.u64.wrap (it.til - it.fr) = it.til - it.fr := by rw [wrap_u64]; omega
    have w2 : IntKind.u64.wrap (it.til - it.fr + 1) = it.til - it.fr + 1 := by rw [wrap_u64]; omega
    have r1 : rmoreM (it.til - it.fr) 1 = it.til - it.fr + 1 := by
      rw [rmoreM_eq (by unfold isU64; omega) (by unfold isU64; omega), if_neg (by unfold u64max; omega)]
    rw [w1, w2, r1, moreM_eq (by unfold isU64; omega) (by unfold isU64; omega), rmoreM_eq (by unfold isU64; omega) (by unfold isU64; omega)]
    congr 1
    unfold u64max
    split <;> split <;> omega
  | false =>
    simp only [Bool.false_eq_true, if_false]
    cases o with
    | false => rfl
    | true =>
      simp only [if_true]
      rw [moreM_eq h3 (by unfold isU64; omega), rmoreM_eq h3 (by unfold isU64; omega)]
      congr 1
      unfold u64max
      split <;> split <;> omega
theorem take_law {l : List Mk} {it : It} (o : Bool) (hl : ∀ m ∈ l, m.Ok) (hi : it.Ok) (hc : takeC l it = 0) : takeL l it o = rtakeL l it o := by
  have hm0 : mayM l it.id = 0 ∧ goesM (getM l it.id) it = true := by
    unfold takeC at hc
    by_cases h : mayM l it.id = 0
    · refine ⟨h, ?_⟩
      rw [if_neg (by simpa using h)] at hc
      cases hg : goesM (getM l it.id) it with
      | true => rfl
      | false => rw [hg] at hc; simp at hc
    · rw [if_pos h] at hc
      exact absurd hc h
  unfold takeL rtakeL
  rw [step_law (getM_ok hl it.id) hi hm0.2, put_rset (rises_of_right (right_of_may hm0.1))]

theorem rises_ins {m : Mk} : ∀ {l : List Mk}, risesM l = true → hasM l m.id = false → risesM (insM m l) = true
  | [], _, _ => rfl
  | x :: l, hr, hh => by
    have hx : cmpB x.id.l m.id.l ≠ 0 := fun h => hasM_false.1 hh x (List.mem_cons_self ..) (id_of_cmp h)
    have hh' : hasM l m.id = false := hasM_false.2 fun y hy => hasM_false.1 hh y (List.mem_cons_of_mem _ hy)
    obtain ⟨r1, r2⟩ := rises_cons.1 hr
    unfold insM
    split
    · rename_i hc
      refine rises_cons.2 ⟨fun y hy => ?_, rises_ins r2 hh'⟩
      rcases (insM_mem m l y).1 hy with rfl | hy
      · exact hc
      · exact r1 y hy
    · rename_i hc
      have hmx : cmpB m.id.l x.id.l < 0 := by
        rw [cmpB_swap]
        rcases cmpB_rng x.id.l m.id.l with h | h | h <;> omega
      refine rises_cons.2 ⟨fun y hy => ?_, hr⟩
      rcases List.mem_cons.1 hy with rfl | hy
      · exact hmx
      · exact cmpB_trans hmx (r1 y hy)
theorem repM_mem {m : Mk} : ∀ {l : List Mk} {y : Mk}, y ∈ repM m l → y = m ∨ y ∈ l
  | [], y, h => by simp [repM] at h
  | x :: l, y, h => by
    unfold repM at h
    split at h
    · rcases List.mem_cons.1 h with h | h
      · exact .inl h
      · exact .inr (List.mem_cons_of_mem _ h)
    · rcases List.mem_cons.1 h with h | h
      · exact .inr (by rw [h]; exact List.mem_cons_self ..)
      · rcases repM_mem h with h | h
        · exact .inl h
        · exact .inr (List.mem_cons_of_mem _ h)
theorem rises_rep {m : Mk} : ∀ {l : List Mk}, risesM l = true → hasM l m.id = true → risesM (repM m l) = true
  | [], _, _ => rfl
  | x :: l, hr, hh => by
    obtain ⟨r1, r2⟩ := rises_cons.1 hr
    unfold repM
    split
    · rename_i he
      have he' : x.id = m.id := by simpa using he
      refine rises_cons.2 ⟨fun y hy => ?_, r2⟩
      rw [← he']
      exact r1 y hy
    · rename_i he
      have he' : ¬ x.id = m.id := by simpa using he
      have hh' : hasM l m.id = true := by simpa [hasM, he'] using hh
      refine rises_cons.2 ⟨fun y hy => ?_, rises_rep r2 hh'⟩
      rcases repM_mem hy with rfl | hy
      · obtain ⟨z, hz, hze⟩ : ∃ z ∈ l, z.id = y.id := by simpa [hasM] using hh'
        rw [← hze]
        exact r1 z hz
      · exact r1 y hy
theorem rises_put {l : List Mk} {m : Mk} (hr : risesM l = true) : risesM (putM l m) = true := by
  cases hh : hasM l m.id with
  | true => rw [putM_rep hh]; exact rises_rep hr hh
  | false => rw [putM_new hr hh]; exact rises_ins hr hh
end Go.Ev.S
namespace Go.Ev.S
open Go Go.Proofs Go.Ev
def fnd (l : List Mk) (id : ID) : Option Mk := l.find? fun m => m.id == id
theorem getM_fnd (l : List Mk) (id : ID) : getM l id = (fnd l id).getD ⟨id, 0, 0, 0⟩ := rfl
theorem fnd_nil (id : ID) : fnd [] id = none := rfl
theorem fnd_cons (a : Mk) (l : List Mk) (id : ID) : fnd (a :: l) id = if a.id = id then some a else fnd l id := by
  unfold fnd
  rw [List.find?_cons]
  by_cases h : a.id = id
  · simp [h]
  · simp [h, beq_eq_false_iff_ne.2 h]
theorem fnd_ins {m : Mk} : ∀ {l : List Mk}, (∀ x ∈ l, x.id ≠ m.id) → ∀ id, fnd (insM m l) id = if m.id = id then some m else fnd l id
  | [], _, id => by simp [insM, fnd_cons, fnd_nil]
  | x :: l, h, id => by
    unfold insM
    split
    · rw [fnd_cons, fnd_ins (fun y hy => h y (List.mem_cons_of_mem _ hy)), fnd_cons]
      by_cases hx : x.id = id
      · have : ¬ m.id = id := fun hm => h x (List.mem_cons_self ..) (by rw [hx, hm])
        simp [hx, this]
      · simp [hx]
    · rw [fnd_cons]
theorem fnd_rep {m : Mk} : ∀ {l : List Mk}, hasM l m.id = true → ∀ id, fnd (repM m l) id = if m.id = id then some m else fnd l id
  | [], h, _ => by simp [hasM] at h
  | x :: l, h, id => by
    unfold repM
    by_cases hx : x.id = m.id
    · rw [if_pos (by simpa using hx), fnd_cons, fnd_cons, hx]
      split <;> rfl
    · have h' : hasM l m.id = true := by simpa [hasM, hx] using h
      rw [if_neg (by simpa using hx), fnd_cons, fnd_rep h', fnd_cons]
      by_cases hi : x.id = id
      · have : ¬ m.id = id := fun hm => hx (by rw [hi, hm])
        simp [hi, this]
      · simp [hi]
theorem fnd_put {l : List Mk} {m : Mk} (hr : risesM l = true) (id : ID) : fnd (putM l m) id = if m.id = id then some m else fnd l id := by
  cases hh : hasM l m.id with
  | true => rw [putM_rep hh, fnd_rep hh]
  | false => rw [putM_new hr hh, fnd_ins (hasM_false.1 hh)]
def mx : Option Mk → Option Mk → Option Mk
  | none, o => o
  | some x, none => some x
  | some x, some y => if y.seq ≤ x.seq then some x else some y
end Go.Ev.S
namespace Go.Ev
structure Lim where
  count : Int
  bytes : Int
  hard : Int
instance : Enc Lim := ⟨3, fun m => [.int .i64 m.count, .int .i64 m.bytes, .int .i64 m.hard], fun _ => rfl, fun _ => rfl⟩
@[simp] theorem Lim.cells (m : Lim) : Enc.cells m = [.int .i64 m.count, .int .i64 m.bytes, .int .i64 m.hard] := rfl
structure BatS where
  items : List It
  fin : List Mk
  used : Nat
  bytes : Nat
def BatS.none : BatS := ⟨[], [], 0, 0⟩
section
variable (tc : List Mk → It → Int) (tl : List Mk → It → Bool → List Mk) (hd : List Pr → Bool) (sz : It → Nat) (lim : Lim)
def askedB (x : It) : Bool := x.gap || hd x.rc.fields.l
def overB (x : It) : Bool := askedB hd x && (!x.gap && decide (lim.hard < (sz x : Int)))
def goesB (x : It) : Bool := askedB hd x && !overB hd sz lim x
def stopB (s : BatS) (x : It) : Bool := goesB hd sz lim x && (decide ((s.items.length : Int) = lim.count) || (decide (0 < s.items.length) && decide (lim.bytes < (s.bytes : Int) + (sz x : Int))))
def stepB (s : BatS) (x : It) : BatS := ⟨if goesB hd sz lim x then s.items ++ [x] else s.items, tl s.fin x (overB hd sz lim x), s.used + 1, if goesB hd sz lim x then s.bytes + sz x else s.bytes⟩
def bldGo : List It → BatS → BatS × Int
  | [], s => (s, 0)
  | x :: l, s => if stopB hd sz lim s x then (s, 0) else if tc s.fin x ≠ 0 then (if s.used = 0 then (BatS.none, tc s.fin x) else (s, 0)) else bldGo l (stepB tl hd sz lim s x)
def finB (l : List It) (f : List Mk) : List Mk := l.foldl (fun f x => tl f x (overB hd sz lim x)) f
def sumB (l : List It) : Nat := (l.map sz).sum
structure BldIs (l : List It) (s r : BatS) (n : Nat) : Prop where
  le : n ≤ l.length
  used : r.used = s.used + n
  items : r.items = s.items ++ (l.take n).filter (goesB hd sz lim)
  bytes : r.bytes = s.bytes + sumB sz ((l.take n).filter (goesB hd sz lim))
  fin : r.fin = finB tl hd sz lim (l.take n) s.fin
  stop : ∀ h : n < l.length, stopB hd sz lim r l[n] = true ∨ tc r.fin l[n] ≠ 0
  went : ∀ k (_ : k < n) (h : k < l.length), tc (finB tl hd sz lim (l.take k) s.fin) l[k] = 0
theorem bldGo_is : ∀ (l : List It) (s : BatS), (bldGo tc tl hd sz lim l s).2 = 0 → ∃ n, BldIs tc tl hd sz lim l s (bldGo tc tl hd sz lim l s).1 n
  | [], s, _ => ⟨0, Nat.le_refl _, rfl, by simp [bldGo], by simp [bldGo, sumB], rfl, fun h => absurd h (Nat.not_lt_zero _), fun _ h _ => absurd h (Nat.not_lt_zero _)⟩
  | x :: l, s, h => by
    unfold bldGo at h ⊢
    by_cases h1 : stopB hd sz lim s x = true
    · rw [if_pos h1] at h ⊢
      exact ⟨0, Nat.zero_le _, rfl, by simp, by simp [sumB], rfl, fun _ => .inl h1, fun _ h _ => absurd h (Nat.not_lt_zero _)⟩
    · rw [if_neg h1] at h ⊢
      by_cases h2 : tc s.fin x ≠ 0
      · rw [if_pos h2] at h ⊢
        by_cases h3 : s.used = 0
        · rw [if_pos h3] at h
          exact absurd h h2
        · rw [if_neg h3] at h ⊢
          exact ⟨0, Nat.zero_le _, rfl, by simp, by simp [sumB], rfl, fun _ => .inr h2, fun _ h _ => absurd h (Nat.not_lt_zero _)⟩
      · rw [if_neg h2] at h ⊢
        obtain ⟨n, i1, i2, i3, i4, i5, i6, i7⟩ := bldGo_is l _ h
        refine ⟨n + 1, by simpa using i1, by rw [i2]; show s.used + 1 + n = _; omega, ?_, ?_, ?_, fun hn => ?_, fun k hk hkl => ?_⟩
        · rw [i3, List.take_succ_cons, List.filter_cons]
          unfold stepB
          by_cases hg : goesB hd sz lim x = true
          · simp only [hg, if_true]
            rw [List.append_assoc]
            rfl
          · simp only [hg, if_false, Bool.false_eq_true]
        · rw [i4, List.take_succ_cons, List.filter_cons]
          unfold stepB
          by_cases hg : goesB hd sz lim x = true
          · simp only [hg, if_true, sumB, List.map_cons, List.sum_cons]
            omega
          · simp only [hg, if_false, Bool.false_eq_true]
        · rw [i5, List.take_succ_cons]
          rfl
        · exact i6 (by simpa using hn)
        · cases k with
          | zero => exact Decidable.not_not.1 h2
          | succ k => exact i7 k (by omega) (by simpa using hkl)
theorem bldGo_small : ∀ (l : List It) (s : BatS), (bldGo tc tl hd sz lim l s).2 = 0 → (s.items.length : Int) ≤ lim.count → (s.items.length ≤ 1 ∨ (s.bytes : Int) ≤ lim.bytes) →
    ((bldGo tc tl hd sz lim l s).1.items.length : Int) ≤ lim.count ∧ ((bldGo tc tl hd sz lim l s).1.items.length ≤ 1 ∨ ((bldGo tc tl hd sz lim l s).1.bytes : Int) ≤ lim.bytes)
  | [], s, _, h1, h2 => ⟨h1, h2⟩
  | x :: l, s, h, h1, h2 => by
    unfold bldGo at h ⊢
    by_cases h3 : stopB hd sz lim s x = true
    · rw [if_pos h3]
      exact ⟨h1, h2⟩
    · rw [if_neg h3] at h ⊢
      by_cases h4 : tc s.fin x ≠ 0
      · rw [if_pos h4] at h ⊢
        by_cases h5 : s.used = 0
        · rw [if_pos h5] at h
          exact absurd h h4
        · rw [if_neg h5]
          exact ⟨h1, h2⟩
      · rw [if_neg h4] at h ⊢
        refine bldGo_small l _ h ?_ ?_
        · unfold stepB
          by_cases hg : goesB hd sz lim x = true
          · simp only [hg, if_true, List.length_append, List.length_singleton]
            unfold stopB at h3
            simp [hg] at h3
            omega
          · simp only [hg, if_false, Bool.false_eq_true]
            exact h1
        · unfold stepB
          by_cases hg : goesB hd sz lim x = true
          · simp only [hg, if_true, List.length_append, List.length_singleton]
            unfold stopB at h3
            simp [hg] at h3
            by_cases h0 : s.items.length = 0
            · exact .inl (by omega)
            · have := h3.2 (by omega)
              refine .inr ?_
              omega
          · simp only [hg, if_false, Bool.false_eq_true]
            exact h2
theorem bldGo_code : ∀ (l : List It) (s : BatS), (bldGo tc tl hd sz lim l s).2 ≠ 0 → s.used = 0 ∧ ∃ x l', l = x :: l' ∧ tc s.fin x ≠ 0 ∧ stopB hd sz lim s x = false ∧ bldGo tc tl hd sz lim l s = (BatS.none, tc s.fin x)
  | [], s, h => absurd rfl h
  | x :: l, s, h => by
    unfold bldGo at h
    by_cases h1 : stopB hd sz lim s x = true
    · rw [if_pos h1] at h
      exact absurd rfl h
    · rw [if_neg h1] at h
      by_cases h2 : tc s.fin x ≠ 0
      · rw [if_pos h2] at h
        by_cases h3 : s.used = 0
        · refine ⟨h3, x, l, rfl, h2, by simpa using h1, ?_⟩
          unfold bldGo
          rw [if_neg h1, if_pos h2, if_pos h3]
        · rw [if_neg h3] at h
          exact absurd rfl h
      · rw [if_neg h2] at h
        have := (bldGo_code l _ h).1
        exact absurd this (Nat.succ_ne_zero _)
def GoesI (l : List It) (f : List Mk) : Prop := ∀ n (h : n < l.length), tc (finB tl hd sz lim (l.take n) f) l[n] = 0
theorem finB_app (a b : List It) (f : List Mk) : finB tl hd sz lim (a ++ b) f = finB tl hd sz lim b (finB tl hd sz lim a f) := by
  unfold finB
  rw [List.foldl_append]
theorem bld_goes {l : List It} {f : List Mk} (h : GoesI tc tl hd sz lim l f) (hc : 1 ≤ lim.count) : (bldGo tc tl hd sz lim l ⟨[], f, 0, 0⟩).2 = 0 ∧ ∃ n, BldIs tc tl hd sz lim l ⟨[], f, 0, 0⟩ (bldGo tc tl hd sz lim l ⟨[], f, 0, 0⟩).1 n ∧ (∀ h : n < l.length, stopB hd sz lim (bldGo tc tl hd sz lim l ⟨[], f, 0, 0⟩).1 l[n] = true) ∧ (0 < l.length → 1 ≤ n) := by
  have h0 : (bldGo tc tl hd sz lim l ⟨[], f, 0, 0⟩).2 = 0 := by
    by_cases hz : (bldGo tc tl hd sz lim l ⟨[], f, 0, 0⟩).2 = 0
    · exact hz
    · obtain ⟨-, x, l', rfl, h2, -⟩ := bldGo_code tc tl hd sz lim l _ hz
      have := h 0 (by simp)
      exact absurd this h2
  obtain ⟨n, hn⟩ := bldGo_is tc tl hd sz lim l _ h0
  have hst : ∀ h : n < l.length, stopB hd sz lim (bldGo tc tl hd sz lim l ⟨[], f, 0, 0⟩).1 l[n] = true := by
    intro hl
    rcases hn.stop hl with h1 | h1
    · exact h1
    · rw [hn.fin] at h1
      exact absurd (h n hl) h1
  refine ⟨h0, n, hn, hst, fun hl => ?_⟩
  by_cases hn0 : n = 0
  · subst hn0
    have h1 := hst hl
    unfold stopB at h1
    rw [hn.items] at h1
    simp at h1
    omega
  · omega
end
end Go.Ev
namespace Go.Ev.S
open Go Go.Proofs Go.Ev
structure MarkI (f : List Mk) (S : List It) : Prop where
  rises : risesM f = true
  ids : ∀ m ∈ f, ∃ j, j < 3 ∧ m.id = idN j
  seq : ∀ id, (getM f id).seq = 0 ∨ ∃ x ∈ S, x.id = id ∧ lstN x = (getM f id).seq
  last : ∀ x ∈ S, lstN x ≤ (getM f x.id).seq
theorem markI_nil : MarkI [] [] := ⟨rfl, fun m hm => (by cases hm), fun _ => .inl rfl, fun x hx => (by cases hx)⟩
theorem idN_lt3 : ∀ i < 3, ∀ j < 3, cmpB (idN i).l (idN j).l < 0 → i < j := by decide
theorem mark_len {f : List Mk} (hr : risesM f = true) (hi : ∀ m ∈ f, ∃ j, j < 3 ∧ m.id = idN j) : f.length ≤ 3 := by
  match f, hr, hi with
  | [], _, _ => exact Nat.zero_le _
  | [_], _, _ => exact Nat.succ_le_succ (Nat.zero_le _)
  | [_, _], _, _ => exact Nat.succ_le_succ (Nat.succ_le_succ (Nat.zero_le _))
  | [_, _, _], _, _ => exact Nat.le_refl _
  | a :: b :: c :: d :: l, hr, hi =>
    exfalso
    simp only [risesM, Bool.and_eq_true, decide_eq_true_eq] at hr
    obtain ⟨ja, ha, ea⟩ := hi a (by simp)
    obtain ⟨jb, hb, eb⟩ := hi b (by simp)
    obtain ⟨jc, hc, ec⟩ := hi c (by simp)
    obtain ⟨jd, hd, ed⟩ := hi d (by simp)
    rw [ea, eb, ec, ed] at hr
    have h1 := idN_lt3 ja ha jb hb hr.1
    have h2 := idN_lt3 jb hb jc hc hr.2.1
    have h3 := idN_lt3 jc hc jd hd hr.2.2.1
    omega
theorem may_ok {f : List Mk} (hr : risesM f = true) (h3 : f.length ≤ 3) (id : ID) : mayM f id = 0 := by
  have h : rightM f = true := by
    unfold rightM
    rw [hr, Bool.and_true, decide_eq_true_eq]
    omega
  unfold mayM
  rw [h, if_neg (by decide), if_neg (fun h => by omega)]
theorem getM_put {f : List Mk} {m : Mk} (hr : risesM f = true) (id : ID) : getM (putM f m) id = if m.id = id then m else getM f id := by
  rw [getM_fnd, fnd_put hr, getM_fnd]
  split <;> rfl
theorem put_mem {f : List Mk} {m : Mk} (hr : risesM f = true) : ∀ x ∈ putM f m, x = m ∨ x ∈ f := by
  intro x hx
  cases h : hasM f m.id with
  | true =>
    rw [putM_rep h] at hx
    exact repM_mem hx
  | false =>
    rw [putM_new hr h] at hx
    exact (insM_mem m f x).1 hx
theorem step_seq (m : Mk) (y : It) (o : Bool) : (stepM m y o).seq = lstN y := by
  unfold stepM lstN
  split <;> rfl
theorem take_goes {f : List Mk} {S : List It} (h : MarkI f S) {y : It} (hlt : ∀ x ∈ S, x.id = y.id → lstN x < fstN y) (h1 : 1 ≤ fstN y) (h2 : fstN y ≤ lstN y) : takeC f y = 0 := by
  unfold takeC
  rw [may_ok h.rises (mark_len h.rises h.ids), if_neg (by decide)]
  have hs : (getM f y.id).seq < fstN y := by
    rcases h.seq y.id with h0 | ⟨x, hx, he, hl⟩
    · omega
    · have := hlt x hx he
      omega
  have hg : goesM (getM f y.id) y = true := by
    unfold goesM fstN lstN at *
    cases hgap : y.gap with
    | true =>
      rw [hgap] at hs h2
      simp only [if_true] at hs h2 ⊢
      rw [decide_eq_false (by omega), decide_eq_false (by omega)]
      rfl
    | false =>
      rw [hgap] at hs
      simp only [Bool.false_eq_true, if_false] at hs ⊢
      rw [decide_eq_false (by omega)]
      rfl
  rw [hg, if_pos rfl]
theorem markI_add {f : List Mk} {S : List It} (h : MarkI f S) {y : It} (o : Bool) (hj : ∃ j, j < 3 ∧ y.id = idN j) (hlt : ∀ x ∈ S, x.id = y.id → lstN x < fstN y) (h2 : fstN y ≤ lstN y) : MarkI (takeL f y o) (S ++ [y]) := by
  unfold takeL
  have hid : (stepM (getM f y.id) y o).id = y.id := by rw [stepM_id, getM_id]
  have hsq := step_seq (getM f y.id) y o
  generalize stepM (getM f y.id) y o = m at *
  refine ⟨rises_put h.rises, fun x hx => ?_, fun id => ?_, fun x hx => ?_⟩
  · rcases put_mem h.rises x hx with rfl | hx
    · rw [hid]
      exact hj
    · exact h.ids x hx
  · rw [getM_put h.rises]
    by_cases he : m.id = id
    · rw [if_pos he]
      exact .inr ⟨y, by simp, by rw [← hid, he], hsq.symm⟩
    · rw [if_neg he]
      rcases h.seq id with h0 | ⟨x, hx, e1, e2⟩
      · exact .inl h0
      · exact .inr ⟨x, List.mem_append_left _ hx, e1, e2⟩
  · rw [getM_put h.rises]
    rcases List.mem_append.1 hx with hx | hx
    · by_cases he : m.id = x.id
      · rw [if_pos he, hsq]
        have := hlt x hx (by rw [← he, hid])
        omega
      · rw [if_neg he]
        exact h.last x hx
    · rw [List.mem_singleton.1 hx, hid, if_pos rfl, hsq]
      exact Int.le_refl _
section
variable (hd : List Pr → Bool) (sz : It → Nat) (lim : Lim)
theorem finB_mark : ∀ {L : List It}, SeqR L → ∀ n, n ≤ L.length → MarkI (finB takeL hd sz lim (L.take n) []) (L.take n) := by
  intro L h n
  induction n with
  | zero => intro _; rw [List.take_zero]; exact markI_nil
  | succ n ih =>
    intro hn
    have hlt : n < L.length := by omega
    have hi := ih (by omega)
    rw [List.take_succ_eq_append_getElem hlt, finB_app]
    obtain ⟨j, j1, j2, j3, j4, -⟩ := h.num L[n] (List.getElem_mem hlt)
    refine markI_add hi _ ⟨j, j1, j2⟩ (fun x hx he => ?_) j4
    obtain ⟨i, hil, hix⟩ := List.mem_iff_getElem.1 hx
    rw [List.length_take] at hil
    rw [List.getElem_take] at hix
    have := h.rise i n (by omega) hlt (by rw [hix]; exact he)
    rwa [hix] at this
theorem goesI_made {L : List It} (h : SeqR L) : GoesI takeC takeL hd sz lim L [] := by
  intro n hn
  obtain ⟨j, j1, j2, j3, j4, -⟩ := h.num L[n] (List.getElem_mem hn)
  refine take_goes (finB_mark hd sz lim h n (by omega)) (fun x hx he => ?_) j3 j4
  obtain ⟨i, hil, hix⟩ := List.mem_iff_getElem.1 hx
  rw [List.length_take] at hil
  rw [List.getElem_take] at hix
  have := h.rise i n (by omega) hn (by rw [hix]; exact he)
  rwa [hix] at this
end
end Go.Ev.S
namespace Go.Ev.S
open Go Go.Proofs Go.Ev
theorem wrap_isU64 (z : Int) : isU64 (IntKind.u64.wrap z) := by
  simp only [IntKind.wrap, IntKind.signed, IntKind.bits]
  simp
  unfold isU64
  omega
theorem more_isU64 (v n : Int) : isU64 (moreM v n) := by
  unfold moreM
  split
  · unfold u64max isU64
    decide
  · exact wrap_isU64 _
theorem step_isOk {m : Mk} {x : It} (hm : m.Ok) (hx : x.Ok) (o : Bool) : (stepM m x o).Ok := by
  unfold stepM
  split
  · exact ⟨hx.til, more_isU64 _ _, hm.over⟩
  · refine ⟨hx.rc.seq, hm.lost, ?_⟩
    simp only
    split
    · exact more_isU64 _ _
    · exact hm.over
def OkM (f : List Mk) : Prop := ∀ m ∈ f, m.Ok
theorem take_ok {f : List Mk} {x : It} (hf : OkM f) (hx : x.Ok) (h0 : takeC f x = 0) (o : Bool) : OkM (takeL f x o) := by
  have hr : risesM f = true := by
    unfold takeC at h0
    by_cases hm : mayM f x.id = 0
    · exact rises_of_right (right_of_may hm)
    · rw [if_pos hm] at h0
      exact absurd h0 hm
  intro m hm
  rcases put_mem hr m hm with rfl | hm
  · exact step_isOk (getM_ok hf x.id) hx o
  · exact hf m hm
def limOk (lim : Lim) : Bool := (decide (1 ≤ lim.count) && decide (lim.count ≤ 64)) && ((decide (1 ≤ lim.bytes) && decide (lim.bytes ≤ 32768)) && (decide (1 ≤ lim.hard) && decide (lim.hard ≤ 16384)))
end Go.Ev.S
namespace Go.Ev.S
open Go Go.Proofs Go.Ev
end Go.Ev.S
namespace Go.Ev.S
open Go Go.Proofs Go.Ev
theorem blim_ev (m : Lim) : call cx 17 [.agg [.int .i64 m.count, .int .i64 m.bytes, .int .i64 m.hard]] [] = some (.bool (limOk m), []) := by
  obtain ⟨a, b, c⟩ := m
  refine call_run Tryz.func17 rfl ⟨rfl, rfl⟩ ?_
  unfold limOk
  simp only
  by_cases hal : 1 ≤ a
  case neg => simp [Tryz.f17, hal]
  by_cases hah : a ≤ 64
  case neg => simp [Tryz.f17, hal, hah]
  by_cases hbl : 1 ≤ b
  case neg => simp [Tryz.f17, hal, hah, hbl]
  by_cases hbh : b ≤ 32768
  case neg => simp [Tryz.f17, hal, hah, hbl, hbh]
  by_cases hcl : 1 ≤ c
  case neg => simp [Tryz.f17, hal, hah, hbl, hbh, hcl]
  by_cases hch : c ≤ 16384
  case neg => simp [Tryz.f17, hal, hah, hbl, hbh, hcl, hch]
  simp [Tryz.f17, hal, hah, hbl, hbh, hcl, hch]
def mayB (l : List It) (m : Mat) (lim : Lim) (d : List Mk) : Bool := limOk lim && (matOk m.rows.l && (rightM d && l.all itOk))
set_option maxHeartbeats 1000000 in
theorem may_evB (l : Sl It) (hl : l.l.length < 1000000) (m : Mat) (hm : MatB m.rows.l) (lim : Lim) (d : Sl Mk) (hd : d.l.length < 4611686018427387904) :
    call cx 33 [(.vsl l.nil (encs l.l) l.l.length), .agg [(.vsl m.rows.nil (encs m.rows.l) m.rows.l.length)], .agg [.int .i64 lim.count, .int .i64 lim.bytes, .int .i64 lim.hard], (.vsl d.nil (encs d.l) d.l.length)] [] = some (.bool (mayB l.l m lim d.l), []) := by
  have f1 := blim_ev lim
  have f2 := mright_ev m hm
  have f3 := kright_ev d hd
  refine call_run Tryz.func33 rfl ⟨rfl, rfl⟩ ?_
  unfold mayB
  cases h1 : limOk lim with
  | false =>
    rw [h1] at f1
    simp [Tryz.f33, f1]
  | true =>
  rw [h1] at f1
  cases h2 : matOk m.rows.l with
  | false =>
    rw [h2] at f2
    simp [Tryz.f33, f1, f2]
  | true =>
  rw [h2] at f2
  cases h3 : rightM d.l with
  | false =>
    rw [h3] at f3
    simp [Tryz.f33, f1, f2, f3]
  | true =>
  rw [h3] at f3
  obtain ⟨r, hr⟩ : ∃ r, l.l.all itOk = r := ⟨_, rfl⟩
  rw [hr]
  simp [Tryz.f33, f1, f2, f3]
  refine Run.loopThen (fun (i : Nat) e H => i ≤ l.l.length ∧ H = [] ∧ look e 24 = some (.vsl l.nil (encs l.l) l.l.length) ∧ look e 25 = some (.int .i64 l.l.length) ∧ look e 26 = some (.int .i64 i) ∧ (l.l.drop i).all itOk = r) (fun i => l.l.length - i) 0 ⟨Nat.zero_le _, rfl, by simp, by simp, by simp, by simpa using hr⟩ ?_
  rintro i e H ⟨hi, rfl, k24, k25, k26, hf⟩
  by_cases hlt : i < l.l.length
  · have hlt' : (i : Int) < (l.l.length : Int) := by omega
    have hw : IntKind.i64.wrap ((i : Int) + 1) = ((i + 1 : Nat) : Int) := by rw [wrap_i64] <;> omega
    have hs := wright_evX l.l[i]
    have hea : List.drop (i * 39) (encs l.l) = Enc.cells l.l[i] ++ encs (l.l.drop (i + 1)) := It.ea hlt
    have hnn := Sl.nn hlt
    rw [List.drop_eq_getElem_cons hlt, List.all_cons] at hf
    generalize l.l[i] = x at *
    cases hx : itOk x with
    | true =>
      rw [hx] at hs hf
      simp [-It.ea, k24, k25, k26, hlt', hnn, hea, hs, hw]
      exact ⟨i + 1, by omega, by omega, by omega, by simpa using hf⟩
    | false =>
      rw [hx, Bool.false_and] at hf
      rw [hx] at hs
      simp [-It.ea, k24, k25, k26, hlt', hnn, hea, hs, ← hf]
  · rw [List.drop_eq_nil_of_le (by omega)] at hf
    replace hf : true = r := hf
    subst hf
    have hlt' : ¬ (i : Int) < (l.l.length : Int) := by omega
    simp [k24, k25, k26, hlt']
end Go.Ev.S
namespace Go.Ev.S
open Go Go.Proofs Go.Ev
def szT (x : It) : Nat := (textL x).length
def nrmF (x : It) : It := { x with rc := { x.rc with fields := Sl.grown x.rc.fields.l } }
def bOut (p : BatS × Int) : D := .tup [.agg [.vsl p.1.items.isEmpty (encs (p.1.items.map nrmF)) p.1.items.length, .vsl p.1.fin.isEmpty (encs p.1.fin) p.1.fin.length, .int .i64 p.1.used, .int .i64 p.1.bytes], .int .i64 p.2]
def bldP (l : List It) (m : Mat) (lim : Lim) (d : List Mk) : BatS × Int := if mayB l m lim d then bldGo takeC takeL (matHolds m.rows.l) szT lim l ⟨[], d, 0, 0⟩ else (BatS.none, 1)
def BldH (s : BatS) (H : Heap) : Prop :=
  (s.items = [] ∧ H = [some [.vsl true [] 0, .vsl true [] 0, .int .i64 0, .int .i64 0], some [.vsl true [] 0, .vsl s.fin.isEmpty (encs s.fin) s.fin.length, .int .i64 s.used, .int .i64 s.bytes]]) ∨
  (s.items ≠ [] ∧ ∃ n q, n = s.items.length * 39 ∧ q = s.items.length ∧ H = [some [.vsl true [] 0, .vsl true [] 0, .int .i64 0, .int .i64 0], some [.osl 2 n 0 q 39, .vsl s.fin.isEmpty (encs s.fin) s.fin.length, .int .i64 s.used, .int .i64 s.bytes], some (encs s.items)])
def BldX (s : BatS) (H : Heap) : Prop :=
  (s.items = [] ∧ ∃ T, H = some [.vsl true [] 0, .vsl true [] 0, .int .i64 0, .int .i64 0] :: some [.vsl true [] 0, .vsl s.fin.isEmpty (encs s.fin) s.fin.length, .int .i64 s.used, .int .i64 s.bytes] :: T) ∨
  (s.items ≠ [] ∧ ∃ n q T, n = s.items.length * 39 ∧ q = s.items.length ∧ H = some [.vsl true [] 0, .vsl true [] 0, .int .i64 0, .int .i64 0] :: some [.osl 2 n 0 q 39, .vsl s.fin.isEmpty (encs s.fin) s.fin.length, .int .i64 s.used, .int .i64 s.bytes] :: some (encs s.items) :: T)
def BldJ (R : BatS × Int) : Ex → Env → Heap → Prop
  | .normal, _, _ => False
  | .exit i, e, H => i = 0 ∧ ∃ (s : BatS), R = (s, 0) ∧ look e 8 = some (.optr 0 4 0) ∧ look e 10 = some (.optr 1 4 0) ∧ BldX s H
  | .ret, e, H => ∃ T, R.1 = BatS.none ∧ look e 8 = some (.optr 0 4 0) ∧ look e 9 = some (.int .i64 R.2) ∧ H = some [.vsl true [] 0, .vsl true [] 0, .int .i64 0, .int .i64 0] :: T
theorem bldJ_exit {R : BatS × Int} {e : Env} {H : Heap} {s : BatS} (h1 : R = (s, 0)) (h2 : look e 8 = some (.optr 0 4 0)) (h3 : look e 10 = some (.optr 1 4 0)) (h4 : BldX s H) : BldJ R (.exit 0) e H := ⟨rfl, s, h1, h2, h3, h4⟩
theorem bldJ_ret {R : BatS × Int} {e : Env} {T : Heap} (h1 : R.1 = BatS.none) (h2 : look e 8 = some (.optr 0 4 0)) (h3 : look e 9 = some (.int .i64 R.2)) : BldJ R .ret e (some [.vsl true [] 0, .vsl true [] 0, .int .i64 0, .int .i64 0] :: T) := ⟨T, h1, h2, h3, rfl⟩
noncomputable def LBld : Code := cAt [1, 1, 1, 0, 1, 0, 0] (stripC (bodyOf Tryz.f14))
theorem It.d38 (x : It) : List.drop 38 (Enc.cells x) = [(.vsl x.rc.fields.nil (encs x.rc.fields.l) x.rc.fields.l.length)] := by
  simp [It.cells, List.drop_append, drop_bytes]
theorem sz_le {x : It} (hi : x.Ok) (ho : itOk x = true) : szT x ≤ 10000 := (textL_len hi ho).1
section
variable (hd : List Pr → Bool) (lim : Lim)
theorem bld_stop {R : BatS × Int} {x : It} {l : List It} {s : BatS} (h : bldGo takeC takeL hd szT lim (x :: l) s = R) (hs : stopB hd szT lim s x = true) : R = (s, 0) := by
  rw [← h, bldGo, if_pos hs]
theorem bld_code0 {R : BatS × Int} {x : It} {l : List It} {s : BatS} (h : bldGo takeC takeL hd szT lim (x :: l) s = R) (hs : stopB hd szT lim s x = false) (hc : takeC s.fin x ≠ 0) (hu : s.used = 0) : R = (BatS.none, takeC s.fin x) := by
  rw [← h, bldGo, if_neg (by rw [hs]; decide), if_pos hc, if_pos hu]
theorem bld_code1 {R : BatS × Int} {x : It} {l : List It} {s : BatS} (h : bldGo takeC takeL hd szT lim (x :: l) s = R) (hs : stopB hd szT lim s x = false) (hc : takeC s.fin x ≠ 0) (hu : ¬ s.used = 0) : R = (s, 0) := by
  rw [← h, bldGo, if_neg (by rw [hs]; decide), if_pos hc, if_neg hu]
theorem bld_next {R : BatS × Int} {x : It} {l : List It} {s : BatS} (h : bldGo takeC takeL hd szT lim (x :: l) s = R) (hs : stopB hd szT lim s x = false) (hc : takeC s.fin x = 0) : bldGo takeC takeL hd szT lim l (stepB takeL hd szT lim s x) = R := by
  rw [← h, bldGo, if_neg (by rw [hs]; decide), if_neg (by simpa using hc)]
end
section
variable (hd : List Pr → Bool) (lim : Lim)
theorem stp_used (tl : List Mk → It → Bool → List Mk) (s : BatS) (x : It) : (stepB tl hd szT lim s x).used = s.used + 1 := rfl
theorem stp_fin (tl : List Mk → It → Bool → List Mk) {s : BatS} {x : It} {o : Bool} (h : overB hd szT lim x = o) : (stepB tl hd szT lim s x).fin = tl s.fin x o := by subst h; rfl
theorem stp_goes (tl : List Mk → It → Bool → List Mk) {s : BatS} {x : It} (h : goesB hd szT lim x = true) : (stepB tl hd szT lim s x).items = s.items ++ [x] ∧ (stepB tl hd szT lim s x).bytes = s.bytes + szT x := by unfold stepB; simp [h]
theorem stp_not (tl : List Mk → It → Bool → List Mk) {s : BatS} {x : It} (h : goesB hd szT lim x = false) : (stepB tl hd szT lim s x).items = s.items ∧ (stepB tl hd szT lim s x).bytes = s.bytes := by unfold stepB; simp [h]
end
theorem takeL_len {f : List Mk} {x : It} {o : Bool} : (takeL f x o).length ≤ f.length + 1 := putM_len _ _
theorem takeL_ne {f : List Mk} {x : It} {o : Bool} : (takeL f x o).isEmpty = false := by
  have h : takeL f x o ≠ [] := by
    unfold takeL putM
    split
    · intro h
      have := congrArg List.length h
      rw [insFrom_len] at this
      simp at this
    · rename_i h1
      intro h
      have h2 := congrArg List.length h
      rw [List.length_set] at h2
      have h3 : f = [] := List.eq_nil_of_length_eq_zero h2
      subst h3
      exact absurd (by simp [find?]) h1
  cases hl : takeL f x o with
  | nil => exact absurd hl h
  | cons => rfl

set_option maxRecDepth 4000 in
set_option maxHeartbeats 16000000 in
theorem bld_loop (l : Sl It) (hl : l.l.length < 1000000) (M : Sl Row) (hm : MatB M.l) (lim : Lim) (hcount : 1 ≤ lim.count) (hx : ∀ x ∈ l.l, x.Ok) (hall : ∀ x ∈ l.l, itOk x = true) (R : BatS × Int) (f0 : List Mk) (hf4 : f0.length ≤ 4) (hR : bldGo takeC takeL (matHolds M.l) szT lim l.l ⟨[], f0, 0, 0⟩ = R) (e : Env) (H : Heap)
    (k5 : look e 5 = some (.vptr [(.vsl M.nil (encs M.l) M.l.length)])) (k6 : look e 6 = some (.vptr [.int .i64 lim.count, .int .i64 lim.bytes, .int .i64 lim.hard])) (k8 : look e 8 = some (.optr 0 4 0)) (k10 : look e 10 = some (.optr 1 4 0)) (k31 : look e 31 = some (.vsl l.nil (encs l.l) l.l.length)) (k32 : look e 32 = some (.int .i64 l.l.length)) (k33 : look e 33 = some (.int .i64 0)) (hH : BldH ⟨[], f0, 0, 0⟩ H) :
    Run cx 14 149 0 (BldJ R) [] (code cx 14 149 0 (.loop LBld) e H) := by
  refine Run.loop (fun (q : Nat × BatS) e H => q.1 ≤ l.l.length ∧ q.2.used = q.1 ∧ bldGo takeC takeL (matHolds M.l) szT lim (l.l.drop q.1) q.2 = R ∧ q.2.items.length ≤ q.1 ∧ q.2.bytes ≤ q.1 * 10000 ∧ q.2.fin.length ≤ 4 + q.1 ∧ look e 5 = some (.vptr [(.vsl M.nil (encs M.l) M.l.length)]) ∧ look e 6 = some (.vptr [.int .i64 lim.count, .int .i64 lim.bytes, .int .i64 lim.hard]) ∧ look e 8 = some (.optr 0 4 0) ∧ look e 10 = some (.optr 1 4 0) ∧ look e 31 = some (.vsl l.nil (encs l.l) l.l.length) ∧ look e 32 = some (.int .i64 l.l.length) ∧ look e 33 = some (.int .i64 (q.1 : Nat)) ∧ BldH q.2 H) (fun q => l.l.length - q.1) ?_ (0, ⟨[], f0, 0, 0⟩) e H ⟨Nat.zero_le _, rfl, by rw [List.drop_zero]; exact hR, Nat.zero_le _, Nat.zero_le _, by show f0.length ≤ 4 + 0; omega, k5, k6, k8, k10, k31, k32, k33, hH⟩
  clear k5 k6 k8 k10 k31 k32 k33 hH hR hf4
  rintro ⟨k, s⟩ e H ⟨hk, hu, hRk, hsl, hsb, hsf, k5, k6, k8, k10, k31, k32, k33, hH⟩
  simp only at hk hu hRk hsl hsb hsf k33 hH
  by_cases hlt : k < l.l.length
  case neg =>
    have hlt' : ¬ (k : Int) < (l.l.length : Int) := by omega
    rw [List.drop_eq_nil_of_le (by omega)] at hRk
    replace hRk : (s, (0 : Int)) = R := hRk
    simp only [LBld, cAt, bodyOf, Tryz.f14, Option.getD, stripC, stripL, stripOp]
    rcases hH with ⟨h1, rfl⟩ | ⟨h1, n, q, hn, hq, rfl⟩
    · simp [k5, k6, k8, k10, k31, k32, k33, hlt']
      exact bldJ_exit hRk.symm (by simp) (by simp) (.inl ⟨h1, _, rfl⟩)
    · simp [k5, k6, k8, k10, k31, k32, k33, hlt']
      exact bldJ_exit hRk.symm (by simp) (by simp) (.inr ⟨h1, n, q, _, hn, hq, rfl⟩)
  have hlt' : (k : Int) < (l.l.length : Int) := by omega
  have hw : IntKind.i64.wrap ((k : Int) + 1) = ((k + 1 : Nat) : Int) := by rw [wrap_i64] <;> omega
  have hxo := hx _ (List.getElem_mem hlt)
  have hok := hall _ (List.getElem_mem hlt)
  obtain ⟨hb1, hb2⟩ := made_b hxo hok
  have ft := text_ev l.l[k] hxo hb2 hb1
  have hsz := sz_le hxo hok
  have hh := mholds_ev ⟨M⟩ hm l.l[k].rc.fields (by omega)
  simp only at hh
  have hea : List.drop (k * 39) (encs l.l) = Enc.cells l.l[k] ++ encs (l.l.drop (k + 1)) := It.ea hlt
  have hnn := Sl.nn hlt
  rw [List.drop_eq_getElem_cons hlt] at hRk
  generalize l.l[k] = x at *
  unfold textD at ft
  rw [if_pos hok] at ft
  obtain ⟨z, hz⟩ : ∃ z, szT x = z := ⟨_, rfl⟩
  replace ft : call cx 34 [.agg (Enc.cells x)] [] = some (.vsl false (ofBytes (textL x)) z, []) := by rw [← hz]; exact ft
  rw [hz] at hsz
  have htk : ∀ o, call cx 36 [.vsl s.fin.isEmpty (encs s.fin) s.fin.length, .agg (Enc.cells x), .bool o] [] = some (.tup [resM (takeC s.fin x) (takeL s.fin x o), .int .i64 (takeC s.fin x)], []) := fun o => ktake_ev (Sl.grown s.fin) (by rw [Sl.grown_l]; omega) x o
  have htkf := htk false
  have htkt := htk true
  clear htk
  have hkind : (x.gap = true ∧ goesB (matHolds M.l) szT lim x = true ∧ overB (matHolds M.l) szT lim x = false) ∨ (x.gap = false ∧ matHolds M.l x.rc.fields.l = true ∧ ¬ lim.hard < (z : Int) ∧ goesB (matHolds M.l) szT lim x = true ∧ overB (matHolds M.l) szT lim x = false) ∨
      (x.gap = false ∧ matHolds M.l x.rc.fields.l = false ∧ goesB (matHolds M.l) szT lim x = false ∧ overB (matHolds M.l) szT lim x = false) ∨ (x.gap = false ∧ matHolds M.l x.rc.fields.l = true ∧ lim.hard < (z : Int) ∧ goesB (matHolds M.l) szT lim x = false ∧ overB (matHolds M.l) szT lim x = true) := by
    unfold goesB overB askedB
    rw [hz]
    cases hg : x.gap with
    | true => exact .inl ⟨rfl, rfl, rfl⟩
    | false =>
      cases hq : matHolds M.l x.rc.fields.l with
      | false => exact .inr (.inr (.inl ⟨rfl, rfl, rfl, rfl⟩))
      | true =>
        by_cases ho : lim.hard < (z : Int)
        · exact .inr (.inr (.inr ⟨rfl, rfl, ho, by simp [ho], by simp [ho]⟩))
        · exact .inr (.inl ⟨rfl, rfl, ho, by simp [ho], by simp [ho]⟩)
  have hwb : IntKind.i64.wrap ((s.bytes : Int) + (z : Int)) = ((s.bytes + z : Nat) : Int) := by rw [wrap_i64] <;> omega
  have hwu : IntKind.i64.wrap ((s.used : Int) + 1) = ((s.used + 1 : Nat) : Int) := by rw [wrap_i64] <;> omega
  have hstopG : goesB (matHolds M.l) szT lim x = true → stopB (matHolds M.l) szT lim s x = (decide ((s.items.length : Int) = lim.count) || (decide (0 < s.items.length) && decide (lim.bytes < (s.bytes : Int) + (z : Int)))) := by
    intro hg
    unfold stopB
    rw [hg, Bool.true_and, hz]
  have hstopN : goesB (matHolds M.l) szT lim x = false → stopB (matHolds M.l) szT lim s x = false := by
    intro hg
    unfold stopB
    rw [hg, Bool.false_and]
  have hcz : ¬ (0 : Int) = lim.count := by omega
  simp only [LBld, cAt, bodyOf, Tryz.f14, Option.getD, stripC, stripL, stripOp]

  rcases hkind with ⟨hg, hgo, hovb⟩ | ⟨hg, hho, hov, hgo, hovb⟩ | ⟨hg, hho, hgo, hovb⟩ | ⟨hg, hho, hov, hgo, hovb⟩
  · rcases hH with ⟨h1, rfl⟩ | ⟨h1, n, q, hn, hq, rfl⟩
    · have hlen : s.items.length = 0 := by rw [h1]; rfl
      have hst : stopB (matHolds M.l) szT lim s x = false := by rw [hstopG hgo, hlen]; simp [hcz]
      by_cases hc : takeC s.fin x = 0
      case neg =>
        by_cases hk0 : k = 0
        · have hR2 := bld_code0 _ _ hRk hst hc (by omega)
          subst hk0
          simp [-It.ea, k5, k6, k8, k10, k31, k32, k33, hlt, hnn, hea, ft, htkf, resM, hg, hcz, hc]
          exact bldJ_ret (by rw [hR2]) (by simp) (by rw [hR2]; simp)
        · have hR2 := bld_code1 _ _ hRk hst hc (by omega)
          have hk0' : ¬ (k : Int) = 0 := by omega
          simp [-It.ea, k5, k6, k8, k10, k31, k32, k33, hlt', hnn, hea, ft, htkf, resM, hg, hcz, hc, hk0]
          exact bldJ_exit hR2 (by simp) (by simp) (.inl ⟨h1, _, rfl⟩)
      have hN := bld_next _ _ hRk hst hc
      simp [-It.ea, k5, k6, k8, k10, k31, k32, k33, hlt', hnn, hea, ft, htkf, resM, hg, hcz, hc, hw, hwb, hwu, maxBytes]
      have e1 := stp_fin (matHolds M.l) lim takeL (s := s) hovb
      have e2 := takeL_len (f := s.fin) (x := x) (o := false)
      have e3 := takeL_ne (f := s.fin) (x := x) (o := false)
      obtain ⟨e4, e5⟩ := stp_goes (matHolds M.l) lim takeL (s := s) hgo
      rw [hz] at e5
      have e6 := stp_used (matHolds M.l) lim takeL s x
      generalize stepB takeL (matHolds M.l) szT lim s x = s2 at *
      exact ⟨k + 1, by omega, by omega, s2, by omega, hN, by rw [e4]; simp; omega, by omega, by rw [e1]; omega, by omega, .inr ⟨by rw [e4]; simp, 39, 1, by rw [e4, h1]; rfl, by rw [e4, h1]; rfl, by rw [e1, e3, e4, e5, e6, h1, List.nil_append, encs_one]; simp⟩⟩
    · have hlen : 0 < s.items.length := by
        rcases Nat.eq_zero_or_pos s.items.length with h | h
        · exact absurd (List.eq_nil_of_length_eq_zero h) h1
        · exact h
      have hq0 : 0 < q := by omega
      have hk0 : ¬ k = 0 := by omega
      have hk0' : ¬ (k : Int) = 0 := by omega
      have hkn : q * 39 = n := by omega
      have hlk : s.items.length = q := hq.symm
      have htk2 : List.take n (encs s.items) = encs s.items := List.take_of_length_le (by simp; omega)
      have hm1 : (q + 1) * 104 ≤ 140737488355328 := by omega
      have hm2 : q + 1 ≤ 140737488355328 := by omega
      by_cases hcnt : (q : Int) = lim.count
      · have hcb : ((q : Int) == lim.count) = true := by simp [hcnt]
        have hR2 := bld_stop _ _ hRk (by rw [hstopG hgo, hlk, decide_eq_true hcnt, Bool.true_or])
        simp [-It.ea, k5, k6, k8, k10, k31, k32, k33, hlt', hnn, hea, ft, hg, hcb]
        exact bldJ_exit hR2 (by simp) (by simp) (.inr ⟨h1, n, q, _, hn, hq, rfl⟩)
      have hcb : ((q : Int) == lim.count) = false := by simp [hcnt]
      by_cases hby : lim.bytes < (s.bytes : Int) + (z : Int)
      · have hR2 := bld_stop _ _ hRk (by rw [hstopG hgo, hlk, decide_eq_true hq0, decide_eq_true (p := lim.bytes < _) (by omega), Bool.and_self, Bool.or_true])
        simp [-It.ea, k5, k6, k8, k10, k31, k32, k33, hlt', hnn, hea, ft, hg, hq0, hcb, hby, hwb]
        exact bldJ_exit hR2 (by simp) (by simp) (.inr ⟨h1, n, q, _, hn, hq, rfl⟩)
      have hst : stopB (matHolds M.l) szT lim s x = false := by
        rw [hstopG hgo, hlk, decide_eq_false hcnt, Bool.false_or, decide_eq_false (p := lim.bytes < _) (by omega), Bool.and_false]
      by_cases hc : takeC s.fin x = 0
      case neg =>
        have hR2 := bld_code1 _ _ hRk hst hc (by omega)
        simp [-It.ea, k5, k6, k8, k10, k31, k32, k33, hlt', hnn, hea, ft, htkf, resM, hg, hq0, hcb, hby, hwb, hc, hk0]
        exact bldJ_exit hR2 (by simp) (by simp) (.inr ⟨h1, n, q, _, hn, hq, rfl⟩)
      have hN := bld_next _ _ hRk hst hc
      simp [-It.ea, k5, k6, k8, k10, k31, k32, k33, hlt', hnn, hea, ft, htkf, resM, hg, hq0, hcb, hby, hwb, hc, hw, hwu, hkn, hlk, hm1, hm2, maxBytes]
      have e1 := stp_fin (matHolds M.l) lim takeL (s := s) hovb
      have e2 := takeL_len (f := s.fin) (x := x) (o := false)
      have e3 := takeL_ne (f := s.fin) (x := x) (o := false)
      obtain ⟨e4, e5⟩ := stp_goes (matHolds M.l) lim takeL (s := s) hgo
      rw [hz] at e5
      have e6 := stp_used (matHolds M.l) lim takeL s x
      generalize stepB takeL (matHolds M.l) szT lim s x = s2 at *
      exact ⟨k + 1, by omega, by omega, s2, by omega, hN, by rw [e4]; simp; omega, by omega, by rw [e1]; omega, by omega, .inr ⟨by rw [e4]; simp, n + 39, q + 1, by rw [e4]; simp; omega, by rw [e4]; simp; omega, by rw [e1, e3, e4, e5, e6, encs_snoc]; simp⟩⟩
  · rw [hho] at hh
    rcases hH with ⟨h1, rfl⟩ | ⟨h1, n, q, hn, hq, rfl⟩
    · have hlen : s.items.length = 0 := by rw [h1]; rfl
      have hst : stopB (matHolds M.l) szT lim s x = false := by rw [hstopG hgo, hlen]; simp [hcz]
      by_cases hc : takeC s.fin x = 0
      case neg =>
        by_cases hk0 : k = 0
        · have hR2 := bld_code0 _ _ hRk hst hc (by omega)
          subst hk0
          simp [-It.ea, k5, k6, k8, k10, k31, k32, k33, hlt, hnn, hea, ft, hh, htkf, resM, hg, hov, hcz, hc]
          exact bldJ_ret (by rw [hR2]) (by simp) (by rw [hR2]; simp)
        · have hR2 := bld_code1 _ _ hRk hst hc (by omega)
          have hk0' : ¬ (k : Int) = 0 := by omega
          simp [-It.ea, k5, k6, k8, k10, k31, k32, k33, hlt', hnn, hea, ft, hh, htkf, resM, hg, hov, hcz, hc, hk0]
          exact bldJ_exit hR2 (by simp) (by simp) (.inl ⟨h1, _, rfl⟩)
      have hN := bld_next _ _ hRk hst hc
      simp [-It.ea, k5, k6, k8, k10, k31, k32, k33, hlt', hnn, hea, ft, hh, htkf, resM, hg, hov, hcz, hc, hw, hwb, hwu, maxBytes]
      have e1 := stp_fin (matHolds M.l) lim takeL (s := s) hovb
      have e2 := takeL_len (f := s.fin) (x := x) (o := false)
      have e3 := takeL_ne (f := s.fin) (x := x) (o := false)
      obtain ⟨e4, e5⟩ := stp_goes (matHolds M.l) lim takeL (s := s) hgo
      rw [hz] at e5
      have e6 := stp_used (matHolds M.l) lim takeL s x
      generalize stepB takeL (matHolds M.l) szT lim s x = s2 at *
      exact ⟨k + 1, by omega, by omega, s2, by omega, hN, by rw [e4]; simp; omega, by omega, by rw [e1]; omega, by omega, .inr ⟨by rw [e4]; simp, 39, 1, by rw [e4, h1]; rfl, by rw [e4, h1]; rfl, by rw [e1, e3, e4, e5, e6, h1, List.nil_append, encs_one]; simp⟩⟩
    · have hlen : 0 < s.items.length := by
        rcases Nat.eq_zero_or_pos s.items.length with h | h
        · exact absurd (List.eq_nil_of_length_eq_zero h) h1
        · exact h
      have hq0 : 0 < q := by omega
      have hk0 : ¬ k = 0 := by omega
      have hk0' : ¬ (k : Int) = 0 := by omega
      have hkn : q * 39 = n := by omega
      have hlk : s.items.length = q := hq.symm
      have htk2 : List.take n (encs s.items) = encs s.items := List.take_of_length_le (by simp; omega)
      have hm1 : (q + 1) * 104 ≤ 140737488355328 := by omega
      have hm2 : q + 1 ≤ 140737488355328 := by omega
      by_cases hcnt : (q : Int) = lim.count
      · have hcb : ((q : Int) == lim.count) = true := by simp [hcnt]
        have hR2 := bld_stop _ _ hRk (by rw [hstopG hgo, hlk, decide_eq_true hcnt, Bool.true_or])
        simp [-It.ea, k5, k6, k8, k10, k31, k32, k33, hlt', hnn, hea, ft, hh, hg, hov, hcb]
        exact bldJ_exit hR2 (by simp) (by simp) (.inr ⟨h1, n, q, _, hn, hq, rfl⟩)
      have hcb : ((q : Int) == lim.count) = false := by simp [hcnt]
      by_cases hby : lim.bytes < (s.bytes : Int) + (z : Int)
      · have hR2 := bld_stop _ _ hRk (by rw [hstopG hgo, hlk, decide_eq_true hq0, decide_eq_true (p := lim.bytes < _) (by omega), Bool.and_self, Bool.or_true])
        simp [-It.ea, k5, k6, k8, k10, k31, k32, k33, hlt', hnn, hea, ft, hh, hg, hov, hq0, hcb, hby, hwb]
        exact bldJ_exit hR2 (by simp) (by simp) (.inr ⟨h1, n, q, _, hn, hq, rfl⟩)
      have hst : stopB (matHolds M.l) szT lim s x = false := by
        rw [hstopG hgo, hlk, decide_eq_false hcnt, Bool.false_or, decide_eq_false (p := lim.bytes < _) (by omega), Bool.and_false]
      by_cases hc : takeC s.fin x = 0
      case neg =>
        have hR2 := bld_code1 _ _ hRk hst hc (by omega)
        simp [-It.ea, k5, k6, k8, k10, k31, k32, k33, hlt', hnn, hea, ft, hh, htkf, resM, hg, hov, hq0, hcb, hby, hwb, hc, hk0]
        exact bldJ_exit hR2 (by simp) (by simp) (.inr ⟨h1, n, q, _, hn, hq, rfl⟩)
      have hN := bld_next _ _ hRk hst hc
      simp [-It.ea, k5, k6, k8, k10, k31, k32, k33, hlt', hnn, hea, ft, hh, htkf, resM, hg, hov, hq0, hcb, hby, hwb, hc, hw, hwu, hkn, hlk, hm1, hm2, maxBytes]
      have e1 := stp_fin (matHolds M.l) lim takeL (s := s) hovb
      have e2 := takeL_len (f := s.fin) (x := x) (o := false)
      have e3 := takeL_ne (f := s.fin) (x := x) (o := false)
      obtain ⟨e4, e5⟩ := stp_goes (matHolds M.l) lim takeL (s := s) hgo
      rw [hz] at e5
      have e6 := stp_used (matHolds M.l) lim takeL s x
      generalize stepB takeL (matHolds M.l) szT lim s x = s2 at *
      exact ⟨k + 1, by omega, by omega, s2, by omega, hN, by rw [e4]; simp; omega, by omega, by rw [e1]; omega, by omega, .inr ⟨by rw [e4]; simp, n + 39, q + 1, by rw [e4]; simp; omega, by rw [e4]; simp; omega, by rw [e1, e3, e4, e5, e6, encs_snoc]; simp⟩⟩
  · rw [hho] at hh
    rcases hH with ⟨h1, rfl⟩ | ⟨h1, n, q, hn, hq, rfl⟩
    · have hlen : s.items.length = 0 := by rw [h1]; rfl
      have hst := hstopN hgo
      by_cases hc : takeC s.fin x = 0
      case neg =>
        by_cases hk0 : k = 0
        · have hR2 := bld_code0 _ _ hRk hst hc (by omega)
          subst hk0
          simp [-It.ea, k5, k6, k8, k10, k31, k32, k33, hlt, hnn, hea, ft, hh, htkf, resM, hg, hc]
          exact bldJ_ret (by rw [hR2]) (by simp) (by rw [hR2]; simp)
        · have hR2 := bld_code1 _ _ hRk hst hc (by omega)
          have hk0' : ¬ (k : Int) = 0 := by omega
          simp [-It.ea, k5, k6, k8, k10, k31, k32, k33, hlt', hnn, hea, ft, hh, htkf, resM, hg, hc, hk0]
          exact bldJ_exit hR2 (by simp) (by simp) (.inl ⟨h1, _, rfl⟩)
      have hN := bld_next _ _ hRk hst hc
      simp [-It.ea, k5, k6, k8, k10, k31, k32, k33, hlt', hnn, hea, ft, hh, htkf, resM, hg, hc, hw, hwu]
      have e1 := stp_fin (matHolds M.l) lim takeL (s := s) hovb
      have e2 := takeL_len (f := s.fin) (x := x) (o := false)
      have e3 := takeL_ne (f := s.fin) (x := x) (o := false)
      obtain ⟨e4, e5⟩ := stp_not (matHolds M.l) lim takeL (s := s) hgo
      have e6 := stp_used (matHolds M.l) lim takeL s x
      generalize stepB takeL (matHolds M.l) szT lim s x = s2 at *
      exact ⟨k + 1, by omega, by omega, s2, by omega, hN, by rw [e4]; omega, by omega, by rw [e1]; omega, by omega, .inl ⟨by rw [e4]; exact h1, by rw [e1, e3, e5, e6]; simp⟩⟩
    · have hlen : 0 < s.items.length := by
        rcases Nat.eq_zero_or_pos s.items.length with h | h
        · exact absurd (List.eq_nil_of_length_eq_zero h) h1
        · exact h
      have hq0 : 0 < q := by omega
      have hk0 : ¬ k = 0 := by omega
      have hk0' : ¬ (k : Int) = 0 := by omega
      have hkn : q * 39 = n := by omega
      have hlk : s.items.length = q := hq.symm
      have htk2 : List.take n (encs s.items) = encs s.items := List.take_of_length_le (by simp; omega)
      have hm1 : (q + 1) * 104 ≤ 140737488355328 := by omega
      have hm2 : q + 1 ≤ 140737488355328 := by omega
      have hst := hstopN hgo
      by_cases hc : takeC s.fin x = 0
      case neg =>
        have hR2 := bld_code1 _ _ hRk hst hc (by omega)
        simp [-It.ea, k5, k6, k8, k10, k31, k32, k33, hlt', hnn, hea, ft, hh, htkf, resM, hg, hc, hk0]
        exact bldJ_exit hR2 (by simp) (by simp) (.inr ⟨h1, n, q, _, hn, hq, rfl⟩)
      have hN := bld_next _ _ hRk hst hc
      simp [-It.ea, k5, k6, k8, k10, k31, k32, k33, hlt', hnn, hea, ft, hh, htkf, resM, hg, hc, hw, hwu]
      have e1 := stp_fin (matHolds M.l) lim takeL (s := s) hovb
      have e2 := takeL_len (f := s.fin) (x := x) (o := false)
      have e3 := takeL_ne (f := s.fin) (x := x) (o := false)
      obtain ⟨e4, e5⟩ := stp_not (matHolds M.l) lim takeL (s := s) hgo
      have e6 := stp_used (matHolds M.l) lim takeL s x
      generalize stepB takeL (matHolds M.l) szT lim s x = s2 at *
      exact ⟨k + 1, by omega, by omega, s2, by omega, hN, by rw [e4]; omega, by omega, by rw [e1]; omega, by omega, .inr ⟨by rw [e4]; exact h1, n, q, by rw [e4]; exact hn, by rw [e4]; exact hq, by rw [e1, e3, e4, e5, e6]; simp⟩⟩
  · rw [hho] at hh
    rcases hH with ⟨h1, rfl⟩ | ⟨h1, n, q, hn, hq, rfl⟩
    · have hlen : s.items.length = 0 := by rw [h1]; rfl
      have hst := hstopN hgo
      by_cases hc : takeC s.fin x = 0
      case neg =>
        by_cases hk0 : k = 0
        · have hR2 := bld_code0 _ _ hRk hst hc (by omega)
          subst hk0
          simp [-It.ea, k5, k6, k8, k10, k31, k32, k33, hlt, hnn, hea, ft, hh, htkt, resM, hg, hov, hc]
          exact bldJ_ret (by rw [hR2]) (by simp) (by rw [hR2]; simp)
        · have hR2 := bld_code1 _ _ hRk hst hc (by omega)
          have hk0' : ¬ (k : Int) = 0 := by omega
          simp [-It.ea, k5, k6, k8, k10, k31, k32, k33, hlt', hnn, hea, ft, hh, htkt, resM, hg, hov, hc, hk0]
          exact bldJ_exit hR2 (by simp) (by simp) (.inl ⟨h1, _, rfl⟩)
      have hN := bld_next _ _ hRk hst hc
      simp [-It.ea, k5, k6, k8, k10, k31, k32, k33, hlt', hnn, hea, ft, hh, htkt, resM, hg, hov, hc, hw, hwu]
      have e1 := stp_fin (matHolds M.l) lim takeL (s := s) hovb
      have e2 := takeL_len (f := s.fin) (x := x) (o := true)
      have e3 := takeL_ne (f := s.fin) (x := x) (o := true)
      obtain ⟨e4, e5⟩ := stp_not (matHolds M.l) lim takeL (s := s) hgo
      have e6 := stp_used (matHolds M.l) lim takeL s x
      generalize stepB takeL (matHolds M.l) szT lim s x = s2 at *
      exact ⟨k + 1, by omega, by omega, s2, by omega, hN, by rw [e4]; omega, by omega, by rw [e1]; omega, by omega, .inl ⟨by rw [e4]; exact h1, by rw [e1, e3, e5, e6]; simp⟩⟩
    · have hlen : 0 < s.items.length := by
        rcases Nat.eq_zero_or_pos s.items.length with h | h
        · exact absurd (List.eq_nil_of_length_eq_zero h) h1
        · exact h
      have hq0 : 0 < q := by omega
      have hk0 : ¬ k = 0 := by omega
      have hk0' : ¬ (k : Int) = 0 := by omega
      have hkn : q * 39 = n := by omega
      have hlk : s.items.length = q := hq.symm
      have htk2 : List.take n (encs s.items) = encs s.items := List.take_of_length_le (by simp; omega)
      have hm1 : (q + 1) * 104 ≤ 140737488355328 := by omega
      have hm2 : q + 1 ≤ 140737488355328 := by omega
      have hst := hstopN hgo
      by_cases hc : takeC s.fin x = 0
      case neg =>
        have hR2 := bld_code1 _ _ hRk hst hc (by omega)
        simp [-It.ea, k5, k6, k8, k10, k31, k32, k33, hlt', hnn, hea, ft, hh, htkt, resM, hg, hov, hc, hk0]
        exact bldJ_exit hR2 (by simp) (by simp) (.inr ⟨h1, n, q, _, hn, hq, rfl⟩)
      have hN := bld_next _ _ hRk hst hc
      simp [-It.ea, k5, k6, k8, k10, k31, k32, k33, hlt', hnn, hea, ft, hh, htkt, resM, hg, hov, hc, hw, hwu]
      have e1 := stp_fin (matHolds M.l) lim takeL (s := s) hovb
      have e2 := takeL_len (f := s.fin) (x := x) (o := true)
      have e3 := takeL_ne (f := s.fin) (x := x) (o := true)
      obtain ⟨e4, e5⟩ := stp_not (matHolds M.l) lim takeL (s := s) hgo
      have e6 := stp_used (matHolds M.l) lim takeL s x
      generalize stepB takeL (matHolds M.l) szT lim s x = s2 at *
      exact ⟨k + 1, by omega, by omega, s2, by omega, hN, by rw [e4]; omega, by omega, by rw [e1]; omega, by omega, .inr ⟨by rw [e4]; exact h1, n, q, by rw [e4]; exact hn, by rw [e4]; exact hq, by rw [e1, e3, e4, e5, e6]; simp⟩⟩
end Go.Ev.S
namespace Go.Ev.S
open Go Go.Proofs Go.Ev
noncomputable def LBld2 : Code := cAt [1, 1, 1, 1, 0, 1, 0, 0] (stripC (bodyOf Tryz.f14))
def itHd (x : It) : List D := ofBytes x.id.l ++ (.bool x.gap :: .int .u64 x.fr :: .int .u64 x.til :: .int .u64 x.rc.seq :: .int .u64 x.rc.real :: .int .u64 x.rc.mono :: ofBytes x.rc.boot.l)
theorem it_hd (x : It) : Enc.cells x = itHd x ++ [(.vsl x.rc.fields.nil (encs x.rc.fields.l) x.rc.fields.l.length)] := by
  rw [It.cells]
  simp [itHd]
theorem it_hdN (x : It) : Enc.cells (nrmF x) = itHd x ++ [.vsl x.rc.fields.l.isEmpty (encs x.rc.fields.l) x.rc.fields.l.length] := by
  rw [it_hd]
  rfl
theorem itHd_len (x : It) : (itHd x).length = 38 := by simp [itHd]
theorem itHd_free (x : It) : idFree.idFreeL (itHd x) = true := by
  rw [idFreeL_all]
  simp [itHd, idFree]
def updF (l : List It) (j : Nat) : List It := (l.take j).map nrmF ++ l.drop j
theorem updF_len (l : List It) {j : Nat} (h : j ≤ l.length) : (updF l j).length = l.length := by
  unfold updF
  rw [List.length_append, List.length_map, List.length_take, List.length_drop]
  omega
theorem updF_zero (l : List It) : updF l 0 = l := by simp [updF]
theorem updF_all (l : List It) : updF l l.length = l.map nrmF := by simp [updF]
theorem updF_at {l : List It} {j : Nat} (h : j < l.length) : ∃ A B : List D, A.length = j * 39 + 38 ∧ idFree.idFreeL A = true ∧ idFree.idFreeL B = true ∧ encs (updF l j) = A ++ (.vsl (l[j].rc.fields).nil (encs (l[j].rc.fields).l) (l[j].rc.fields).l.length) :: B ∧
    encs (updF l (j + 1)) = A ++ .vsl l[j].rc.fields.l.isEmpty (encs l[j].rc.fields.l) l[j].rc.fields.l.length :: B := by
  refine ⟨encs ((l.take j).map nrmF) ++ itHd l[j], encs (l.drop (j + 1)), ?_, ?_, encs_idFreeL _, ?_, ?_⟩
  · rw [List.length_append, itHd_len, It.el, List.length_map, List.length_take]
    omega
  · rw [idFreeL_all, List.all_append, encs_idFree, ← idFreeL_all, itHd_free]
    rfl
  · unfold updF
    rw [List.drop_eq_getElem_cons h, encs_append, encs_cons, it_hd]
    simp
  · unfold updF
    rw [List.take_succ_eq_append_getElem h, List.map_append, encs_append, encs_append, List.map_cons, List.map_nil, encs_one, it_hdN]
    simp
theorem stayBlk_at (r o : List D) {A B : List D} (ha : idFree.idFreeL A = true) (hb : idFree.idFreeL B = true) (f : Sl Pr) :
    stayBlk [some r, some o, some (A ++ D.osl 3 (f.l.length * 2) 0 f.l.length 2 :: B), some (encs f.l)] 2 = some [some r, some o, some (A ++ D.vsl false (encs f.l) f.l.length :: B), none] := by
  have h1 : (A ++ D.osl 3 (f.l.length * 2) 0 f.l.length 2 :: B).all idFree = false := by
    rw [List.all_append, List.all_cons]
    simp [idFree]
  obtain ⟨H, hH⟩ : ∃ H : Heap, H = [some r, some o, some (A ++ D.osl 3 (f.l.length * 2) 0 f.l.length 2 :: B), some (encs f.l)] := ⟨_, rfl⟩
  have h2 : stay H 9 (D.osl 3 (f.l.length * 2) 0 f.l.length 2) = some (.vsl false (encs f.l) f.l.length, [3]) := by
    have h3 : hget H 3 = some (encs f.l) := by rw [hH]; rfl
    have h4 : List.take (f.l.length * 2) (encs f.l) = encs f.l := List.take_of_length_le (by simp)
    unfold stay
    rw [if_neg (by simp [idFree])]
    simp only [h3, List.drop_zero, Nat.zero_add]
    rw [if_pos ⟨by simp, Nat.le_refl _⟩, if_pos (encs_idFreeL _), h4]
  have h5 : stayL (stay H 9) (A ++ D.osl 3 (f.l.length * 2) 0 f.l.length 2 :: B) = some (A ++ D.vsl false (encs f.l) f.l.length :: B, [3]) := by
    rw [stayL_append, stayL_free ha]
    simp only [stayL]
    rw [h2, stayL_free hb]
    rfl
  have h6 : hget H 2 = some (A ++ D.osl 3 (f.l.length * 2) 0 f.l.length 2 :: B) := by rw [hH]; rfl
  rw [← hH]
  unfold stayBlk
  simp only [h6]
  rw [if_neg (by rw [h1]; decide), h5]
  simp only
  rw [if_neg (by decide), hH]
  rfl
def BlcJ (R : BatS × Int) : Ex → Env → Heap → Prop
  | .exit i, e, H => i = 2 ∧ look e 8 = some (.optr 0 4 0) ∧ look e 10 = some (.optr 1 4 0) ∧ ((R.1.items = [] ∧ ∃ T, H = some [.vsl true [] 0, .vsl true [] 0, .int .i64 0, .int .i64 0] :: some [.vsl true [] 0, .vsl R.1.fin.isEmpty (encs R.1.fin) R.1.fin.length, .int .i64 R.1.used, .int .i64 R.1.bytes] :: T) ∨
      (R.1.items ≠ [] ∧ ∃ n q T, n = R.1.items.length * 39 ∧ q = R.1.items.length ∧ H = some [.vsl true [] 0, .vsl true [] 0, .int .i64 0, .int .i64 0] :: some [.osl 2 n 0 q 39, .vsl R.1.fin.isEmpty (encs R.1.fin) R.1.fin.length, .int .i64 R.1.used, .int .i64 R.1.bytes] :: some (encs (R.1.items.map nrmF)) :: T))
  | _, _, _ => False
set_option maxRecDepth 4000 in
set_option maxHeartbeats 4000000 in
theorem blc_loop (R : BatS × Int) (hne : R.1.items ≠ []) (hl : R.1.items.length < 1000000) (hfl : ∀ x ∈ R.1.items, x.rc.fields.l.length ≤ 16) (_hful : ∀ x ∈ R.1.items, x.rc.fields.nil = true → x.rc.fields.l = []) (n q : Nat) (hn : n = R.1.items.length * 39) (hq : q = R.1.items.length) (e : Env) (k8 : look e 8 = some (.optr 0 4 0)) (k10 : look e 10 = some (.optr 1 4 0)) (k130 : look e 130 = some (.int .i64 q)) (k131 : look e 131 = some (.int .i64 0)) :
    Run cx 14 149 0 (BlcJ R) [] (code cx 14 149 0 (.loop LBld2) e [some [.vsl true [] 0, .vsl true [] 0, .int .i64 0, .int .i64 0], some [.osl 2 n 0 q 39, .vsl R.1.fin.isEmpty (encs R.1.fin) R.1.fin.length, .int .i64 R.1.used, .int .i64 R.1.bytes], some (encs R.1.items)]) := by
  refine Run.loop (fun (j : Nat) e H => j ≤ q ∧ look e 8 = some (.optr 0 4 0) ∧ look e 10 = some (.optr 1 4 0) ∧ look e 130 = some (.int .i64 q) ∧ look e 131 = some (.int .i64 (j : Nat)) ∧ H = [some [.vsl true [] 0, .vsl true [] 0, .int .i64 0, .int .i64 0], some [.osl 2 n 0 q 39, .vsl R.1.fin.isEmpty (encs R.1.fin) R.1.fin.length, .int .i64 R.1.used, .int .i64 R.1.bytes], some (encs (updF R.1.items j))]) (fun j => q - j) ?_ 0 e _ ⟨Nat.zero_le _, k8, k10, k130, k131, by rw [updF_zero]⟩
  clear k8 k10 k130 k131 e
  rintro j e H ⟨hj, k8, k10, k130, k131, rfl⟩
  by_cases hlt : j < q
  case neg =>
    have hlt' : ¬ (j : Int) < (q : Int) := by omega
    have hjq : j = R.1.items.length := by omega
    subst hjq
    rw [updF_all]
    simp only [LBld2, cAt, bodyOf, Tryz.f14, Option.getD, stripC, stripL, stripOp]
    simp [k8, k10, k130, k131, hlt']
    exact ⟨rfl, by simp, by simp, .inr ⟨hne, n, q, [], hn, hq, rfl⟩⟩
  have hlt' : (j : Int) < (q : Int) := by omega
  have hw : IntKind.i64.wrap ((j : Int) + 1) = ((j + 1 : Nat) : Int) := by rw [wrap_i64] <;> omega
  have hjl : j < R.1.items.length := by omega
  obtain ⟨A, B, a1, a2, a3, a4, a5⟩ := updF_at hjl
  have hlen : (encs (updF R.1.items j)).length = n := by rw [It.el, updF_len _ (by omega), hn]
  rw [a4] at hlen ⊢
  have hmem := List.getElem_mem hjl
  have hf16 := hfl _ hmem
  generalize R.1.items[j] = x at *
  obtain ⟨f, hf⟩ : ∃ f, x.rc.fields = f := ⟨_, rfl⟩
  rw [hf] at hf16 hlen a5 ⊢
  have hB : B.length + (j * 39 + 39) = n := by
    rw [List.length_append, List.length_cons, a1] at hlen
    omega
  have a2' : (∀ y, y ∈ A → idFree y = true) = True := eq_true (List.all_eq_true.1 (by rw [← idFreeL_all]; exact a2))
  have a3' : (∀ y, y ∈ B → idFree y = true) = True := eq_true (List.all_eq_true.1 (by rw [← idFreeL_all]; exact a3))
  have a2c : ∀ m, (∀ y, y ∈ A → closed m y = true) = True := fun m => eq_true (List.all_eq_true.1 (by rw [← closedL_all]; exact closedL_free m _ a2))
  have a3c : ∀ m, (∀ y, y ∈ B → closed m y = true) = True := fun m => eq_true (List.all_eq_true.1 (by rw [← closedL_all]; exact closedL_free m _ a3))
  have hsA : ∀ H, stayL (stay H 9) A = some (A, []) := fun H => stayL_free a2
  have hsB : ∀ H, stayL (stay H 9) B = some (B, []) := fun H => stayL_free a3
  have hd38 : ∀ d : D, List.drop (j * 39 + 38) (A ++ d :: B) = d :: B := fun d => List.drop_left' a1
  have ht38 : ∀ d : D, List.take (j * 39 + 38) (A ++ d :: B) = A := fun d => List.take_left' a1
  have hd39 : ∀ d : D, List.drop (j * 39 + 39) (A ++ d :: B) = B := fun d => by
    have : A ++ d :: B = (A ++ [d]) ++ B := by simp
    rw [this]
    exact List.drop_left' (by rw [List.length_append, a1]; rfl)
  have hln : ∀ d : D, (A ++ d :: B).length = n := fun d => by
    rw [List.length_append, List.length_cons, a1]
    omega
  have hfr : ∀ d : D, idFree d = true → idFree.idFreeL (A ++ d :: B) = true := fun d hd => by
    rw [idFreeL_all, List.all_append, List.all_cons, ← idFreeL_all, ← idFreeL_all, a2, a3, hd]
    rfl
  have hle : j * 39 + 39 ≤ n := by omega
  have hm : f.l.length * 32 ≤ 140737488355328 ∧ f.l.length ≤ 140737488355328 := by omega
  have ht2 : List.take (f.l.length * 2) (encs f.l) = encs f.l := List.take_of_length_le (by simp)
  clear a4
  simp only [LBld2, cAt, bodyOf, Tryz.f14, Option.getD, stripC, stripL, stripOp]
  by_cases h0 : f.l = []
  · have h00 : f.l.length = 0 := by rw [h0]; rfl
    have hfv := hfr (.vsl true [] 0) rfl
    rw [h0] at a5
    replace a5 : encs (updF R.1.items (j + 1)) = A ++ .vsl true [] 0 :: B := a5
    simp [k8, k10, k130, k131, hlt', hw, h0, hd38, ht38, hd39, hln, hle, a2', a3', hfv]
    exact ⟨j + 1, by omega, by omega, by omega, a5.symm⟩
  · have h00 : ¬ f.l.length = 0 := fun h => h0 (List.eq_nil_of_length_eq_zero h)
    have hfn : f.nil = false := by
      cases h : f.nil with
      | false => rfl
      | true => exact absurd (f.h h) h0
    have hfe : f.l.isEmpty = false := by
      cases h : f.l with
      | nil => exact absurd h h0
      | cons => rfl
    have hfv := hfr (.vsl false (encs f.l) f.l.length) rfl
    rw [hfe] at a5
    have hst := stayBlk_at [.vsl true [] 0, .vsl true [] 0, .int .i64 0, .int .i64 0] [.osl 2 n 0 q 39, .vsl R.1.fin.isEmpty (encs R.1.fin) R.1.fin.length, .int .i64 R.1.used, .int .i64 R.1.bytes] a2 a3 f
    simp [-stayBlk, k8, k10, k130, k131, hlt', hw, h00, hfn, hd38, ht38, hd39, hln, hle, hst, hm, hfv, maxBytes]
    exact ⟨j + 1, by omega, by omega, by omega, a5.symm⟩
theorem bld_sub (tc : List Mk → It → Int) (tl : List Mk → It → Bool → List Mk) (hd : List Pr → Bool) (sz : It → Nat) (lim : Lim) : ∀ (l : List It) (s : BatS), (∀ x ∈ (bldGo tc tl hd sz lim l s).1.items, x ∈ s.items ∨ x ∈ l) ∧ (bldGo tc tl hd sz lim l s).1.items.length ≤ s.items.length + l.length
  | [], s => ⟨fun x h => .inl h, Nat.le_refl _⟩
  | y :: l, s => by
    unfold bldGo
    split
    · exact ⟨fun x h => .inl h, Nat.le_add_right _ _⟩
    · split
      · split
        · exact ⟨(fun x h => by cases h), Nat.zero_le _⟩
        · exact ⟨fun x h => .inl h, Nat.le_add_right _ _⟩
      · obtain ⟨h1, h2⟩ := bld_sub tc tl hd sz lim l (stepB tl hd sz lim s y)
        have h3 : (∀ x ∈ (stepB tl hd sz lim s y).items, x ∈ s.items ∨ x = y) ∧ (stepB tl hd sz lim s y).items.length ≤ s.items.length + 1 := by
          unfold stepB
          split
          · exact ⟨fun x hx => by simpa using hx, by simp⟩
          · exact ⟨fun x hx => .inl hx, Nat.le_succ _⟩
        refine ⟨fun x hx => ?_, by rw [List.length_cons]; omega⟩
        rcases h1 x hx with h | h
        · rcases h3.1 x h with h | h
          · exact .inl h
          · exact .inr (by rw [h]; exact List.mem_cons_self ..)
        · exact .inr (List.mem_cons_of_mem _ h)
set_option maxRecDepth 4000 in
set_option maxHeartbeats 8000000 in
theorem bbuild_ev (l : Sl It) (hl : l.l.length < 1000000) (m : Mat) (hm : MatB m.rows.l) (lim : Lim) (d : Sl Mk) (hd : d.l.length < 4611686018427387904) (hx : ∀ x ∈ l.l, x.Ok) :
    call cx 14 [(.vsl l.nil (encs l.l) l.l.length), .agg [(.vsl m.rows.nil (encs m.rows.l) m.rows.l.length)], .agg [.int .i64 lim.count, .int .i64 lim.bytes, .int .i64 lim.hard], (.vsl d.nil (encs d.l) d.l.length)] [] = some (bOut (bldP l.l m lim d.l), []) := by
  have fm := may_evB l hl m hm lim d hd
  unfold bldP
  obtain ⟨M⟩ := m
  simp only at fm hm ⊢
  refine call_run Tryz.func14 rfl ⟨rfl, rfl⟩ ?_
  cases hmay : mayB l.l ⟨M⟩ lim d.l with
  | false =>
    rw [hmay] at fm
    rw [if_neg (by decide)]
    simp [Tryz.f14, fm, bOut, BatS.none]
  | true =>
  rw [hmay] at fm
  rw [if_pos rfl]
  unfold mayB at hmay
  simp only [Bool.and_eq_true] at hmay
  obtain ⟨hlim, -, hright, hall⟩ := hmay
  have hd4 : d.l.length ≤ 4 := rightM_le hright
  have hcount : 1 ≤ lim.count := by
    unfold limOk at hlim
    simp only [Bool.and_eq_true, decide_eq_true_eq] at hlim
    exact hlim.1.1
  rw [List.all_eq_true] at hall
  obtain ⟨R, hR⟩ : ∃ R, bldGo takeC takeL (matHolds M.l) szT lim l.l ⟨[], d.l, 0, 0⟩ = R := ⟨_, rfl⟩
  obtain ⟨hs1, hs2⟩ := bld_sub takeC takeL (matHolds M.l) szT lim l.l ⟨[], d.l, 0, 0⟩
  rw [hR] at hs1 hs2 ⊢
  have hsub : ∀ x ∈ R.1.items, x.rc.fields.l.length ≤ 16 := by
    intro x h
    rcases hs1 x h with h | h
    · cases h
    · cases hg : x.gap with
      | true =>
        obtain ⟨-, -, -, -, -, -, -, -, h9, -⟩ := gap_is (hx x h) (hall x h) hg
        rw [h9]
        exact Nat.zero_le _
      | false =>
        obtain ⟨-, -, -, -, -, h16, -⟩ := rec_is (hx x h) (hall x h) hg
        exact h16
  have hRl : R.1.items.length < 1000000 := by
    simp only [List.length_nil] at hs2
    omega
  clear hs1 hs2
  have hlp := fun e H => bld_loop l hl M hm lim hcount hx hall R d.l hd4 hR e H
  have hl2 := fun hne n q hn hq e => blc_loop R hne hRl hsub (fun x _ => x.rc.fields.h) n q hn hq e
  simp only [LBld, LBld2, cAt, bodyOf, Tryz.f14, Option.getD, stripC, stripL, stripOp] at hlp hl2
  have hmx : d.l.length * 40 ≤ 140737488355328 ∧ d.l.length ≤ 140737488355328 := by omega
  have ht19 : List.take (d.l.length * 19) (encs d.l) = encs d.l := List.take_of_length_le (by simp)
  have hdd : (d.l = [] ∧ d.l.length = 0 ∧ True) ∨ (d.l ≠ [] ∧ ¬ d.l.length = 0 ∧ d.nil = false) := by
    by_cases h : d.l = []
    · exact .inl ⟨h, by rw [h]; rfl, trivial⟩
    · refine .inr ⟨h, fun h2 => h (List.eq_nil_of_length_eq_zero h2), ?_⟩
      cases hn : d.nil with
      | false => rfl
      | true => exact absurd (d.h hn) h
  obtain ⟨dn, dl, hdn⟩ := d
  simp only at hdd hmx ht19 fm hR hd4 hlp ⊢
  clear hright hd
  rcases hdd with ⟨rfl, -, -⟩ | ⟨hne, hdl, rfl⟩
  · simp only [encs_nil, List.length_nil] at fm
    simp [Tryz.f14, fm]
    refine Run.mono (hlp _ _ (by simp) (by simp) (by simp) (by simp) (by simp) (by simp) (by simp) (.inl ⟨rfl, rfl⟩)) ?_
    intro ex e H hJ
    cases ex with
    | normal => exact hJ.elim
    | ret =>
      obtain ⟨T, j1, j2, j3, rfl⟩ := hJ
      simp [j2, j3, bOut, j1, BatS.none]
    | exit i =>
      obtain ⟨rfl, s, hRs, j8, j10, hX⟩ := hJ
      subst hRs
      rcases hX with ⟨h1, T, rfl⟩ | ⟨h1, n, q, T, hn, hq, rfl⟩
      · simp [j8, j10]
        refine run_loop1 ?_
        simp [bOut, h1]
      · have hln : (encs s.items).length = n := by rw [It.el, hn]
        simp [j8, j10]
        refine Run.mono (hl2 h1 n q hn hq _ (by simp) (by simp) (by simp) (by simp)) ?_
        intro ex e H hK
        cases ex with
        | normal => exact hK.elim
        | ret => exact hK.elim
        | exit i =>
          obtain ⟨rfl, c8, c10, hC⟩ := hK
          rcases hC with ⟨c1, -⟩ | ⟨-, n', q', T', c2, c3, rfl⟩
          · exact absurd c1 h1
          · have hie : s.items.isEmpty = false := by
              cases hi : s.items with
              | nil => exact absurd hi h1
              | cons => rfl
            simp only at c2 c3
            subst c2; subst c3
            have hln2 : (encs (s.items.map nrmF)).length = s.items.length * 39 := by rw [It.el, List.length_map]
            have htk : List.take (s.items.length * 39) (encs (s.items.map nrmF)) = encs (s.items.map nrmF) := List.take_of_length_le (by rw [hln2]; exact Nat.le_refl _)
            simp [c8, c10, bOut, hie, hln2, htk]
  · simp [Tryz.f14, fm, hdl, hmx, ht19, maxBytes]
    refine Run.mono (hlp _ _ (by simp) (by simp) (by simp) (by simp) (by simp) (by simp) (by simp) (.inl ⟨rfl, by simp [hne]⟩)) ?_
    intro ex e H hJ
    cases ex with
    | normal => exact hJ.elim
    | ret =>
      obtain ⟨T, j1, j2, j3, rfl⟩ := hJ
      simp [j2, j3, bOut, j1, BatS.none]
    | exit i =>
      obtain ⟨rfl, s, hRs, j8, j10, hX⟩ := hJ
      subst hRs
      rcases hX with ⟨h1, T, rfl⟩ | ⟨h1, n, q, T, hn, hq, rfl⟩
      · simp [j8, j10]
        refine run_loop1 ?_
        simp [bOut, h1]
      · have hln : (encs s.items).length = n := by rw [It.el, hn]
        simp [j8, j10]
        refine Run.mono (hl2 h1 n q hn hq _ (by simp) (by simp) (by simp) (by simp)) ?_
        intro ex e H hK
        cases ex with
        | normal => exact hK.elim
        | ret => exact hK.elim
        | exit i =>
          obtain ⟨rfl, c8, c10, hC⟩ := hK
          rcases hC with ⟨c1, -⟩ | ⟨-, n', q', T', c2, c3, rfl⟩
          · exact absurd c1 h1
          · have hie : s.items.isEmpty = false := by
              cases hi : s.items with
              | nil => exact absurd hi h1
              | cons => rfl
            simp only at c2 c3
            subst c2; subst c3
            have hln2 : (encs (s.items.map nrmF)).length = s.items.length * 39 := by rw [It.el, List.length_map]
            have htk : List.take (s.items.length * 39) (encs (s.items.map nrmF)) = encs (s.items.map nrmF) := List.take_of_length_le (by rw [hln2]; exact Nat.le_refl _)
            simp [c8, c10, bOut, hie, hln2, htk]
end Go.Ev.S
namespace Go.Ev.S
open Go Go.Proofs Go.Ev
end Go.Ev.S
namespace Go.Ev.S
open Go Go.Proofs Go.Ev
def strsS (l : List (List UInt8)) : Sl Str := .of (l.map Str.mk)
def altA : Alt := ⟨[65], strsS [[], [0, 255], [48], [49], [50, 50], [97, 61, 98], [111, 110, 101, 10, 116, 119, 111], [116, 97, 98, 9, 104, 101, 114, 101]]⟩
def altB : Alt := ⟨[66], strsS [[], [50, 50]]⟩
def altM : Alt := ⟨[77, 69, 83, 83, 65, 71, 69], strsS [[48], [49]]⟩
def altP : Alt := ⟨[80, 82, 73, 79, 82, 73, 84, 89], strsS [[110, 111]]⟩
def asksL : Nat → List Row
  | 2 => [⟨.of [altA]⟩]
  | 3 => [⟨.of [altA]⟩, ⟨.of [altB, altM]⟩]
  | 4 => [⟨.of [altP]⟩]
  | _ => []
def asksM (i : Nat) : Mat := ⟨Sl.grown (asksL i)⟩
theorem asks_b (i : Nat) : MatB (asksM i).rows.l := by
  unfold asksM MatB
  rw [Sl.grown_l]
  match i with
  | 0 => simp [asksL]
  | 1 => simp [asksL]
  | 2 => simp [asksL, altA, strsS]
  | 3 => simp [asksL, altA, altB, altM, strsS]
  | 4 => simp [asksL, altP, strsS]
  | _ + 5 => simp [asksL]
theorem asks_ok : ∀ i < 5, matOk (asksM i).rows.l = true := by decide
set_option maxRecDepth 100000 in
theorem compile_ev0 : call cx 28 [.vsl true [] 0] [] = some (.tup [.agg [.vsl true [] 0], .int .i64 0], []) := call_some.2 ⟨200, by kernel_rfl⟩
set_option maxRecDepth 100000 in
theorem compile_ev2 : call cx 28 [.vsl false [.str [65, 61], .str [65, 61, 48], .str [65, 61, 49], .str [65, 61, 50, 50], .str [65, 61, 97, 61, 98], .str [65, 61, 111, 110, 101, 10, 116, 119, 111], .str [65, 61, 116, 97, 98, 9, 104, 101, 114, 101], .str [65, 61, 0, 255]] 8] [] = some (.tup [.agg [.vsl false (encs (asksL 2)) 1], .int .i64 0], []) := call_some.2 ⟨2000, by kernel_rfl⟩
set_option maxRecDepth 100000 in
theorem compile_ev3 : call cx 28 [.vsl false [.str [65, 61], .str [65, 61, 48], .str [65, 61, 49], .str [65, 61, 50, 50], .str [65, 61, 97, 61, 98], .str [65, 61, 111, 110, 101, 10, 116, 119, 111], .str [65, 61, 116, 97, 98, 9, 104, 101, 114, 101], .str [65, 61, 0, 255], .str [43], .str [77, 69, 83, 83, 65, 71, 69, 61, 48], .str [77, 69, 83, 83, 65, 71, 69, 61, 49], .str [66, 61, 50, 50], .str [66, 61]] 13] [] = some (.tup [.agg [.vsl false (encs (asksL 3)) 2], .int .i64 0], []) := call_some.2 ⟨2000, by kernel_rfl⟩
set_option maxRecDepth 100000 in
theorem compile_ev4 : call cx 28 [.vsl false [.str [80, 82, 73, 79, 82, 73, 84, 89, 61, 110, 111]] 1] [] = some (.tup [.agg [.vsl false (encs (asksL 4)) 1], .int .i64 0], []) := call_some.2 ⟨2000, by kernel_rfl⟩
set_option maxHeartbeats 2000000 in
theorem asks_ev (nil : Bool) (zs : List Int) (hnil : nil = true → zs = []) (hz : zs.length ≤ 1000000) (k : Nat) :
    ∃ i k', i < 5 ∧ call cx 10 [.optr 0 2 0] [some (seqD nil zs k)] = some (.agg [(.vsl ((asksM i).rows).nil (encs ((asksM i).rows).l) ((asksM i).rows).l.length)], [some (seqD nil zs k')]) := by
  obtain ⟨x, k2, hx, -, c1⟩ := n_ev nil zs hnil hz k 5 (by decide) (by decide)
  have sf := seqD_free nil zs
  have sl := seqD_len nil zs
  have sc := seqD_cl nil zs
  refine ⟨x, k2, by omega, ?_⟩
  refine call_run Tryz.func10 rfl ⟨rfl, rfl⟩ ?_
  have e0 := compile_ev0
  have e2 := compile_ev2
  have e3 := compile_ev3
  have e4 := compile_ev4
  have l0 : (asksM 0).rows = Sl.none := rfl
  have l1 : (asksM 1).rows = Sl.none := rfl
  have l2 : (asksM 2).rows = .of (asksL 2) := rfl
  have l3 : (asksM 3).rows = .of (asksL 3) := rfl
  have l4 : (asksM 4).rows = .of (asksL 4) := rfl
  have n2 : (asksL 2).length = 1 := rfl
  have n3 : (asksL 3).length = 2 := rfl
  have n4 : (asksL 4).length = 1 := rfl
  generalize asksL 2 = r2 at *
  generalize asksL 3 = r3 at *
  generalize asksL 4 = r4 at *
  have hx5 : x = 0 ∨ x = 1 ∨ x = 2 ∨ x = 3 ∨ x = 4 := by omega
  rcases hx5 with rfl | rfl | rfl | rfl | rfl
  · simp [Tryz.f10, sf, sc, c1, e0, l0]
  · simp [Tryz.f10, sf, sc, c1, e0, l1]
  · simp [Tryz.f10, sf, sc, c1, e2, l2, n2]
  · simp [Tryz.f10, sf, sc, c1, e3, l3, n3]
  · simp [Tryz.f10, sf, sc, c1, e4, l4, n4]
theorem four1 {x : Nat} (h : x < 4) : ∃ v r, List.drop x [D.int .i64 1, .int .i64 300, .int .i64 900, .int .i64 32768] = D.int .i64 v :: r ∧ 1 ≤ v ∧ v ≤ 32768 := by
  have h4 : x = 0 ∨ x = 1 ∨ x = 2 ∨ x = 3 := by omega
  rcases h4 with rfl | rfl | rfl | rfl
  · exact ⟨1, _, rfl, by decide, by decide⟩
  · exact ⟨300, _, rfl, by decide, by decide⟩
  · exact ⟨900, _, rfl, by decide, by decide⟩
  · exact ⟨32768, _, rfl, by decide, by decide⟩
theorem four2 {x : Nat} (h : x < 4) : ∃ v r, List.drop x [D.int .i64 300, .int .i64 350, .int .i64 500, .int .i64 16384] = D.int .i64 v :: r ∧ 1 ≤ v ∧ v ≤ 16384 := by
  have h4 : x = 0 ∨ x = 1 ∨ x = 2 ∨ x = 3 := by omega
  rcases h4 with rfl | rfl | rfl | rfl
  · exact ⟨300, _, rfl, by decide, by decide⟩
  · exact ⟨350, _, rfl, by decide, by decide⟩
  · exact ⟨500, _, rfl, by decide, by decide⟩
  · exact ⟨16384, _, rfl, by decide, by decide⟩
theorem limits_ev (nil : Bool) (zs : List Int) (hnil : nil = true → zs = []) (hz : zs.length ≤ 1000000) (k : Nat) :
    ∃ (lim : Lim) (k' : Nat), limOk lim = true ∧ call cx 11 [.optr 0 2 0] [some (seqD nil zs k)] = some (.agg [.int .i64 lim.count, .int .i64 lim.bytes, .int .i64 lim.hard], [some (seqD nil zs k')]) := by
  obtain ⟨x1, k2, h1, -, c1⟩ := n_ev nil zs hnil hz k 5 (by decide) (by decide)
  obtain ⟨x2, k3, h2, -, c2⟩ := n_ev nil zs hnil hz k2 4 (by decide) (by decide)
  obtain ⟨x3, k4, h3, -, c3⟩ := n_ev nil zs hnil hz k3 4 (by decide) (by decide)
  have sf := seqD_free nil zs
  have sl := seqD_len nil zs
  have sc := seqD_cl nil zs
  obtain ⟨v2, r2, d2, d3, d4⟩ := four1 (x := x2) (by omega)
  obtain ⟨v3, r3, g2, g3, g4⟩ := four2 (x := x3) (by omega)
  have hw : IntKind.i64.wrap ((x1 : Int) + 1) = (x1 : Int) + 1 := by rw [wrap_i64] <;> omega
  have i2 : (x2 : Int) < 4 := by omega
  have i3 : (x3 : Int) < 4 := by omega
  have j2 : x2 < 4 := by omega
  have j3 : x3 < 4 := by omega
  refine ⟨⟨(x1 : Int) + 1, v2, v3⟩, k4, ?_, ?_⟩
  · unfold limOk
    simp only [Bool.and_eq_true, decide_eq_true_eq]
    omega
  · refine call_run Tryz.func11 rfl ⟨rfl, rfl⟩ ?_
    simp [Tryz.f11, sf, sc, c1, c2, c3, d2, g2, i2, i3, hw]
end Go.Ev.S
namespace Go.Ev.S
open Go Go.Proofs Go.Ev
def sameR (r s : Rec) : Bool := r.seq == s.seq && (r.real == s.real && (r.mono == s.mono && (r.boot == s.boot && r.fields.l == s.fields.l)))
def sameI (x y : It) : Bool := x.id == y.id && (x.gap == y.gap && (x.fr == y.fr && (x.til == y.til && sameR x.rc y.rc)))
theorem eqPr (p q : Pr) : (p == q) = (decide (p.name = q.name) && decide (p.value = q.value)) := by
  obtain ⟨a, b⟩ := p
  obtain ⟨c, d⟩ := q
  rw [Bool.eq_iff_iff]
  simp
theorem beq_drop {a b : List Pr} {k : Nat} (ha : k < a.length) (hb : k < b.length) : (a.drop k == b.drop k) = (a[k] == b[k] && a.drop (k + 1) == b.drop (k + 1)) := by
  rw [List.drop_eq_getElem_cons ha, List.drop_eq_getElem_cons hb]
  rfl
set_option maxHeartbeats 1000000 in
theorem rpairs_ev (a b : Sl Pr) (ha : a.l.length < 1000000) (_ : b.l.length < 1000000) : call cx 100 [(.vsl a.nil (encs a.l) a.l.length), (.vsl b.nil (encs b.l) b.l.length)] [] = some (.bool (a.l == b.l), []) := by
  refine call_run Tryz.func100 rfl ⟨rfl, rfl⟩ ?_
  by_cases hne : a.l.length = b.l.length
  case neg =>
    have hne' : ¬ (a.l.length : Int) = (b.l.length : Int) := by omega
    have hf : (a.l == b.l) = false := beq_eq_false_iff_ne.2 fun e => hne (by rw [e])
    rw [hf]
    simp [Tryz.f100, hne']
  have hne' : (a.l.length : Int) = (b.l.length : Int) := by omega
  simp [Tryz.f100, hne]
  refine Run.loopThen (fun (k : Nat) e H' => k ≤ a.l.length ∧ (a.l == b.l) = (a.l.drop k == b.l.drop k) ∧ look e 0 = some (.vsl a.nil (encs a.l) a.l.length) ∧ look e 1 = some (.vsl b.nil (encs b.l) b.l.length) ∧ look e 5 = some (.int .i64 (k : Nat)) ∧ H' = []) (fun k => a.l.length - k) 0 ?_ ?_
  · simp [hne]
  rintro k e H' ⟨hk, hR, k0, k1, k5, rfl⟩
  rw [hR]
  by_cases hlt : k < a.l.length
  · have hlt' : (k : Int) < (a.l.length : Int) := by omega
    have hlb : k < b.l.length := by omega
    have hlb' : (k : Int) < (b.l.length : Int) := by omega
    have hw : IntKind.i64.wrap ((k : Int) + 1) = ((k + 1 : Nat) : Int) := by rw [wrap_i64] <;> omega
    have n1 : a.nil = false := Sl.nn hlt
    have n2 : b.nil = false := Sl.nn hlb
    have hE : (a.l[k] == b.l[k]) = (decide (a.l[k].name = b.l[k].name) && decide (a.l[k].value = b.l[k].value)) := eqPr a.l[k] b.l[k]
    rw [beq_drop hlt hlb, hE]
    by_cases h1 : a.l[k].name = b.l[k].name
    · by_cases h2 : a.l[k].value = b.l[k].value
      · simp [k0, k1, k5, hlt, hlb, hlt', hlb', n1, n2, Pr.cells, h1, h2, hw]
        exact ⟨k + 1, by omega, by omega, rfl, rfl⟩
      · simp [k0, k1, k5, hlt, hlb, hlt', hlb', n1, n2, Pr.cells, h1, h2]
    · simp [k0, k1, k5, hlt, hlb, hlt', hlb', n1, n2, Pr.cells, h1]
  · have hlt' : ¬ (k : Int) < (a.l.length : Int) := by omega
    rw [List.drop_eq_nil_of_le (by omega), List.drop_eq_nil_of_le (by omega)]
    have hlt2 : ¬ (k : Int) < (b.l.length : Int) := by omega
    simp [k0, k1, k5, hlt2, hne']
set_option maxHeartbeats 1000000 in
theorem rrec_ev (r s : Rec) (ha : r.fields.l.length < 1000000) (hb : s.fields.l.length < 1000000) : call cx 78 [.agg (Enc.cells r), .agg (Enc.cells s)] [] = some (.bool (sameR r s), []) := by
  have hp := rpairs_ev r.fields s.fields ha hb
  have t1 : List.take 16 (ofBytes r.boot.l ++ [(.vsl r.fields.nil (encs r.fields.l) r.fields.l.length)]) = ofBytes r.boot.l := by rw [List.take_append]; simp
  have t2 : List.take 16 (ofBytes s.boot.l ++ [(.vsl s.fields.nil (encs s.fields.l) s.fields.l.length)]) = ofBytes s.boot.l := by rw [List.take_append]; simp
  have d1 : List.drop 16 (ofBytes r.boot.l ++ [(.vsl r.fields.nil (encs r.fields.l) r.fields.l.length)]) = [(.vsl r.fields.nil (encs r.fields.l) r.fields.l.length)] := by rw [List.drop_append]; simp
  have d2 : List.drop 16 (ofBytes s.boot.l ++ [(.vsl s.fields.nil (encs s.fields.l) s.fields.l.length)]) = [(.vsl s.fields.nil (encs s.fields.l) s.fields.l.length)] := by rw [List.drop_append]; simp
  have b1 : (ofBytes r.boot.l).length = 16 := by simp
  have b2 : (ofBytes s.boot.l).length = 16 := by simp
  unfold sameR
  refine call_run Tryz.func78 rfl ⟨rfl, rfl⟩ ?_
  rw [Rec.cells, Rec.cells]
  cases h1 : (r.seq == s.seq) <;> cases h2 : (r.real == s.real) <;> cases h3 : (r.mono == s.mono) <;> cases h4 : (r.boot == s.boot) <;> simp [Tryz.f78, hp, t1, t2, d1, d2, b1, b2, h1, h2, h3, h4]
set_option maxHeartbeats 1000000 in
theorem ritem_ev (x y : It) (ha : x.rc.fields.l.length < 1000000) (hb : y.rc.fields.l.length < 1000000) : call cx 50 [.agg (Enc.cells x), .agg (Enc.cells y)] [] = some (.bool (sameI x y), []) := by
  have hp := rrec_ev x.rc y.rc ha hb
  have u1 : List.take 17 (ofBytes x.rc.boot.l ++ [(.vsl x.rc.fields.nil (encs x.rc.fields.l) x.rc.fields.l.length)]) = ofBytes x.rc.boot.l ++ [(.vsl x.rc.fields.nil (encs x.rc.fields.l) x.rc.fields.l.length)] := List.take_of_length_le (by simp)
  have u2 : List.take 17 (ofBytes y.rc.boot.l ++ [(.vsl y.rc.fields.nil (encs y.rc.fields.l) y.rc.fields.l.length)]) = ofBytes y.rc.boot.l ++ [(.vsl y.rc.fields.nil (encs y.rc.fields.l) y.rc.fields.l.length)] := List.take_of_length_le (by simp)
  rw [Rec.cells, Rec.cells] at hp
  simp only [List.cons_append, List.nil_append] at hp
  unfold sameI
  refine call_run Tryz.func50 rfl ⟨rfl, rfl⟩ ?_
  cases h1 : (x.id == y.id) <;> cases h2 : (x.gap == y.gap) <;> cases h3 : (x.fr == y.fr) <;> cases h4 : (x.til == y.til) <;> simp [Tryz.f50, u1, u2, hp, h1, h2, h3, h4]
end Go.Ev.S
namespace Go.Ev.S
open Go Go.Proofs Go.Ev
def sameIs : List It → List It → Bool
  | [], [] => true
  | x :: xs, y :: ys => sameI x y && sameIs xs ys
  | _, _ => false
theorem sameIs_len : ∀ {x y : List It}, sameIs x y = true → x.length = y.length
  | [], [], _ => rfl
  | _ :: xs, _ :: ys, h => by
    rw [sameIs, Bool.and_eq_true] at h
    rw [List.length_cons, List.length_cons, sameIs_len h.2]
  | [], _ :: _, h => by cases h
  | _ :: _, [], h => by cases h
set_option maxHeartbeats 2000000 in
theorem rsames_ev (a b : Sl It) (ha : ∀ x ∈ a.l, x.rc.fields.l.length < 1000000) (hb : ∀ x ∈ b.l, x.rc.fields.l.length < 1000000) (han : a.l.length < 1000000) : call cx 25 [(.vsl a.nil (encs a.l) a.l.length), (.vsl b.nil (encs b.l) b.l.length)] [] = some (.bool (sameIs a.l b.l), []) := by
  refine call_run Tryz.func25 rfl ⟨rfl, rfl⟩ ?_
  by_cases hl : a.l.length = b.l.length
  case neg =>
    have hf : sameIs a.l b.l = false := by
      cases h : sameIs a.l b.l with
      | false => rfl
      | true => exact absurd (sameIs_len h) hl
    have hl' : ¬ (a.l.length : Int) = (b.l.length : Int) := by omega
    simp [Tryz.f25, hl', hf]
  obtain ⟨r, hr⟩ : ∃ r, sameIs a.l b.l = r := ⟨_, rfl⟩
  rw [hr]
  simp [Tryz.f25, hl]
  refine Run.loopThen (fun (i : Nat) e H' => i ≤ b.l.length ∧ sameIs (a.l.drop i) (b.l.drop i) = r ∧ look e 0 = some (.vsl a.nil (encs a.l) a.l.length) ∧ look e 1 = some (.vsl b.nil (encs b.l) b.l.length) ∧ look e 5 = some (.int .i64 (i : Nat)) ∧ H' = []) (fun i => b.l.length - i) 0 ⟨Nat.zero_le _, by simpa using hr, by simp [hl], by simp, by simp, rfl⟩ ?_
  rintro i e H' ⟨hi, hR, k0, k1, k5, rfl⟩
  by_cases hlt : i < b.l.length
  · have hlt' : (i : Int) < (b.l.length : Int) := by omega
    have hla : i < a.l.length := by omega
    have hw : IntKind.i64.wrap ((i : Int) + 1) = ((i + 1 : Nat) : Int) := by rw [wrap_i64] <;> omega
    have hs := ritem_ev a.l[i] b.l[i] (ha _ (List.getElem_mem hla)) (hb _ (List.getElem_mem hlt))
    rw [List.drop_eq_getElem_cons hla, List.drop_eq_getElem_cons hlt, sameIs] at hR
    have hea : List.drop (i * 39) (encs a.l) = Enc.cells a.l[i] ++ encs (a.l.drop (i + 1)) := It.ea hla
    have heb : List.drop (i * 39) (encs b.l) = Enc.cells b.l[i] ++ encs (b.l.drop (i + 1)) := It.ea hlt
    have n1 := Sl.nn hla
    have n2 := Sl.nn hlt
    generalize a.l[i] = x at *
    generalize b.l[i] = y at *
    cases hx : sameI x y with
    | true =>
      rw [hx] at hs hR
      simp [-It.ea, k0, k1, k5, hl, hlt', n1, n2, hea, heb, hs, hw]
      exact ⟨i + 1, by omega, by omega, by simpa using hR, by omega⟩
    | false =>
      rw [hx] at hs hR
      simp [-It.ea, k0, k1, k5, hl, hlt', n1, n2, hea, heb, hs, ← hR]
  · have hi2 : i = b.l.length := by omega
    rw [List.drop_eq_nil_of_le (by omega), List.drop_eq_nil_of_le (by omega)] at hR
    replace hR : true = r := hR
    subst hR
    simp [k0, k1, k5, hl, hlt]
end Go.Ev.S
namespace Go.Ev.S
open Go Go.Proofs Go.Ev
set_option maxHeartbeats 4000000 in
theorem asked_ev (x : It) (hxo : x.Ok) (hok : itOk x = true) (M : Sl Row) (hm : MatB M.l) (lim : Lim) :
    call cx 23 [.agg (Enc.cells x), .agg [(.vsl M.nil (encs M.l) M.l.length)], .agg [.int .i64 lim.count, .int .i64 lim.bytes, .int .i64 lim.hard]] [] = some (.tup [.bool (goesB (matHolds M.l) szT lim x), .bool (overB (matHolds M.l) szT lim x)], []) := by
  obtain ⟨hb1, hb2⟩ := made_b hxo hok
  have ft := rtext_ev x hxo hb2 hb1
  have hh := rholds_ev ⟨M⟩ hm x.rc.fields (by omega)
  simp only at hh
  unfold textD at ft
  rw [if_pos hok] at ft
  obtain ⟨z, hz⟩ : ∃ z, szT x = z := ⟨_, rfl⟩
  replace ft : call cx 22 [.agg (Enc.cells x)] [] = some (.vsl false (ofBytes (textL x)) z, []) := by rw [← hz]; exact ft
  refine call_run Tryz.func23 rfl ⟨rfl, rfl⟩ ?_
  unfold goesB overB askedB
  rw [hz]
  cases hg : x.gap with
  | true => simp [Tryz.f23, hg]
  | false =>
    cases hq : matHolds M.l x.rc.fields.l with
    | false =>
      rw [hq] at hh
      simp [Tryz.f23, hg, hh]
    | true =>
      rw [hq] at hh
      by_cases ho : lim.hard < (z : Int)
      · simp [Tryz.f23, hg, hh, ft, ho]
      · simp [Tryz.f23, hg, hh, ft, ho]
set_option maxRecDepth 100000 in
theorem first_evB : call cx 9 [] [] = some (.bool true, []) := call_some.2 ⟨600, by kernel_rfl⟩
end Go.Ev.S
namespace Go.Ev.S
open Go Go.Proofs Go.Ev
section
variable (hd : List Pr → Bool) (sz : It → Nat) (lim : Lim)
end
end Go.Ev.S
namespace Go.Ev.S
open Go Go.Proofs Go.Ev
theorem made_mayB {L : List It} (hLm : ∀ x ∈ L, MadeI x) {m : Mat} (hok : matOk m.rows.l = true) {lim : Lim} (hlo : limOk lim = true) {d : List Mk} (hd : rightM d = true) : mayB L m lim d = true := by
  unfold mayB
  rw [hlo, hok, hd, List.all_eq_true.2 fun x hx => (hLm x hx).2.1]
  rfl
theorem lim_is {lim : Lim} (h : limOk lim = true) : 1 ≤ lim.count ∧ lim.count ≤ 64 ∧ 1 ≤ lim.bytes ∧ lim.bytes ≤ 32768 ∧ 1 ≤ lim.hard ∧ lim.hard ≤ 16384 := by
  unfold limOk at h
  simp only [Bool.and_eq_true, decide_eq_true_eq] at h
  omega
theorem notE {α : Type} {l : List α} {j : Nat} (h : j < l.length) : l.isEmpty = false := by
  cases l with
  | nil => exact absurd h (Nat.not_lt_zero _)
  | cons => rfl
structure MadeB (L : List It) (M : List Row) (lim : Lim) (r : BatS) (n : Nat) : Prop where
  bld : bldGo takeC takeL (matHolds M) szT lim L ⟨[], [], 0, 0⟩ = (r, 0)
  le : n ≤ L.length
  used : r.used = n
  items : r.items = (L.take n).filter (goesB (matHolds M) szT lim)
  bytes : r.bytes = sumB szT r.items
  fin : r.fin = finB takeL (matHolds M) szT lim (L.take n) []
  stop : ∀ h : n < L.length, stopB (matHolds M) szT lim r L[n] = true
  count : (r.items.length : Int) ≤ lim.count
  small : r.items.length ≤ 1 ∨ (r.bytes : Int) ≤ lim.bytes
theorem madeB {L : List It} (hs : SeqR L) (M : List Row) {lim : Lim} (hlo : limOk lim = true) : ∃ r n, MadeB L M lim r n := by
  have hli := lim_is hlo
  obtain ⟨h0, n, hn, hst, -⟩ := bld_goes takeC takeL (matHolds M) szT lim (goesI_made (matHolds M) szT lim hs) hli.1
  obtain ⟨s1, s2⟩ := bldGo_small takeC takeL (matHolds M) szT lim L ⟨[], [], 0, 0⟩ h0 (by simp; omega) (.inl (by simp))
  refine ⟨_, n, Prod.ext rfl h0, hn.le, by rw [hn.used]; exact Nat.zero_add _, by rw [hn.items]; exact List.nil_append _, ?_, hn.fin, hst, s1, s2⟩
  rw [hn.bytes, hn.items]
  exact Nat.zero_add _
theorem bldP_made {L : List It} (hLm : ∀ x ∈ L, MadeI x) {M : Sl Row} (hok : matOk M.l = true) {lim : Lim} (hlo : limOk lim = true) {r : BatS} {n : Nat} (h : MadeB L M.l lim r n) : bldP L ⟨M⟩ lim [] = (r, 0) := by
  unfold bldP
  rw [if_pos (made_mayB hLm hok hlo rfl)]
  exact h.bld
set_option maxRecDepth 4000 in
theorem sum_le {l : List It} (h : ∀ x ∈ l, szT x ≤ 660) {n : Nat} (hn : l.length ≤ n) : sumB szT l ≤ n * 660 := by
  have : ∀ b : List It, (∀ x ∈ b, szT x ≤ 660) → sumB szT b ≤ b.length * 660 := by
    intro b
    induction b with
    | nil => intro _; exact Nat.zero_le _
    | cons y b ih =>
      intro hy
      have h1 := ih fun x hx => hy x (List.mem_cons_of_mem _ hx)
      have h2 := hy y (List.mem_cons_self ..)
      unfold sumB at h1 ⊢
      rw [List.length_cons, Nat.add_mul, List.map_cons, List.sum_cons]
      omega
  have h1 := this l h
  have h2 : l.length * 660 ≤ n * 660 := Nat.mul_le_mul_right _ hn
  omega
end Go.Ev.S
namespace Go.Ev.S
open Go Go.Proofs Go.Ev
theorem fin_right {L : List It} (h : SeqR L) (hd : List Pr → Bool) (lim : Lim) (k : Nat) (hk : k ≤ L.length) : rightM (finB takeL hd szT lim (L.take k) []) = true := by
  have hm := finB_mark hd szT lim h k hk
  unfold rightM
  rw [hm.rises, Bool.and_true, decide_eq_true_eq]
  have := mark_len hm.rises hm.ids
  omega
theorem sameI_nrm (x : It) : sameI (nrmF x) x = true := by
  unfold sameI sameR nrmF
  simp
theorem sameIs_nrm : ∀ l : List It, sameIs (l.map nrmF) l = true
  | [] => rfl
  | x :: l => by
    show (sameI (nrmF x) x && sameIs (l.map nrmF) l) = true
    rw [sameI_nrm, sameIs_nrm l]
    rfl
end Go.Ev.S
namespace Go.Ev.S
open Go Go.Proofs Go.Ev
end Go.Ev.S
namespace Go.Ev.S
open Go Go.Proofs Go.Ev
theorem fin_step {L : List It} (hd : List Pr → Bool) (lim : Lim) {k : Nat} (hk : k < L.length) : finB takeL hd szT lim (L.take (k + 1)) [] = takeL (finB takeL hd szT lim (L.take k) []) L[k] (overB hd szT lim L[k]) := by
  rw [List.take_succ_eq_append_getElem hk, finB_app]
  rfl
theorem fin_ok {L : List It} (hs : SeqR L) (hx : ∀ x ∈ L, x.Ok) (hd : List Pr → Bool) (lim : Lim) : ∀ k, k ≤ L.length → OkM (finB takeL hd szT lim (L.take k) []) := by
  intro k
  induction k with
  | zero => intro _ m hm; cases hm
  | succ k ih =>
    intro hk
    rw [fin_step hd lim (show k < L.length by omega)]
    exact take_ok (ih (by omega)) (hx _ (List.getElem_mem (by omega))) (goesI_made hd szT lim hs k (by omega)) _
theorem fin_take {L : List It} (hs : SeqR L) (hx : ∀ x ∈ L, x.Ok) (hd : List Pr → Bool) (lim : Lim) {k : Nat} (hk : k < L.length) :
    rtakeC (finB takeL hd szT lim (L.take k) []) L[k] (overB hd szT lim L[k]) = 0 ∧ rtakeL (finB takeL hd szT lim (L.take k) []) L[k] (overB hd szT lim L[k]) = finB takeL hd szT lim (L.take (k + 1)) [] ∧ (finB takeL hd szT lim (L.take (k + 1)) []).isEmpty = false := by
  have h0 := goesI_made hd szT lim hs k hk
  have hk1 := fin_ok hs hx hd lim k (by omega)
  refine ⟨by rw [← take_code]; exact h0, ?_, ?_⟩
  · rw [fin_step hd lim hk]
    exact (take_law _ hk1 (hx _ (List.getElem_mem hk)) h0).symm
  · rw [fin_step hd lim hk]
    exact takeL_ne
def UsH (I : List It) (e : Env) (H : Heap) : Prop :=
  (I = [] ∧ look e 12 = some (.vsl true [] 0) ∧ H = []) ∨ (I ≠ [] ∧ ∃ n q, n = I.length * 39 ∧ q = I.length ∧ look e 12 = some (.osl 0 n 0 q 39) ∧ H = [some (encs I)])
theorem usH_nil {I : List It} {e : Env} (hI : I = []) (h : look e 12 = some (.vsl true [] 0)) : UsH I e [] := .inl ⟨hI, h, rfl⟩
theorem usH_own {I : List It} {e : Env} {n q : Nat} {X : List D} (hI : I ≠ []) (h : look e 12 = some (.osl 0 n 0 q 39)) (hn : n = I.length * 39) (hq : q = I.length) (hX : X = encs I) : UsH I e [some X] := .inr ⟨hI, n, q, hn, hq, h, by rw [hX]⟩
set_option maxRecDepth 4000 in
set_option maxHeartbeats 16000000 in
theorem buses_ev (n1 : Bool) (z1 : List Int) (h1 : n1 = true → z1 = []) (n2 : Bool) (z2 : List Int) (h2 : n2 = true → z2 = []) : call cx 6 [.vsl n1 (intsK .i64 z1) z1.length, .vsl n2 (intsK .i64 z2) z2.length] [] = some (.bool true, []) := by
  have f0 := first_evB
  refine call_run Tryz.func6 rfl ⟨rfl, rfl⟩ ?_
  by_cases hz1 : z1.length ≤ 400
  case neg =>
    have hz1' : (400 : Int) < (z1.length : Int) := by omega
    simp [Tryz.f6, f0, hz1']
  have hz1' : ¬ (400 : Int) < (z1.length : Int) := by omega
  by_cases hz2 : z2.length ≤ 30
  case neg =>
    have hz2' : (30 : Int) < (z2.length : Int) := by omega
    simp [Tryz.f6, f0, hz1', hz2']
  have hz2' : ¬ (30 : Int) < (z2.length : Int) := by omega
  obtain ⟨i, k1, hi5, ha⟩ := asks_ev n2 z2 h2 (by omega) 0
  obtain ⟨lim, k2, hlo, hl⟩ := limits_ev n2 z2 h2 (by omega) k1
  obtain ⟨q, hq, L, k3, hL40, hLm, -, hseq, hsh⟩ := items_evr n1 z1 h1 (by omega) 0 40 (by decide)
  have hmb := asks_b i
  have hmo := asks_ok i hi5
  generalize (asksM i).rows = M at *
  have sf2 := seqD_free n2 z2
  have sl2 := seqD_len n2 z2
  have sc2 := seqD_cl n2 z2
  have sf1 := seqD_free n1 z1
  have sl1 := seqD_len n1 z1
  have sc1 := seqD_cl n1 z1
  replace ha : call cx 10 [.optr 0 2 0] [some [.vsl n2 (intsK .i64 z2) z2.length, .int .i64 0]] = some (.agg [(.vsl M.nil (encs M.l) M.l.length)], [some (seqD n2 z2 k1)]) := ha
  obtain ⟨r, n, hr⟩ := madeB hseq M.l hlo
  have hxo : ∀ x ∈ L, x.Ok := fun x hx => (hLm x hx).1
  have hb := bbuild_ev (Sl.grown L) (by rw [Sl.grown_l]; omega) ⟨M⟩ hmb lim .none (by simp) (by rw [Sl.grown_l]; exact hxo)
  rw [Sl.grown_l, Sl.none_l, bldP_made hLm hmo hlo hr] at hb
  unfold bOut at hb
  simp only [Sl.none_nil, encs_nil, List.length_nil] at hb
  have eL : (Sl.grown L).nil = L.isEmpty := rfl
  rw [eL, hr.used] at hb
  have hnl := hr.le
  have hnl' : ¬ L.length < n := by omega
  have hnz : ¬ (n : Int) < 0 := by omega
  have hMk : ∃ st : D × Heap, call cx 13 [.optr 0 2 0, .int .i64 40] [some [.vsl n1 (intsK .i64 z1) z1.length, .int .i64 0]] = some st ∧ ((L = [] ∧ st = (.vsl true [] 0, [some (seqD n1 z1 k3)])) ∨ (L ≠ [] ∧ st = (.osl 1 (L.length * 39) 0 L.length 39, [some (seqD n1 z1 k3), some (encs L)]))) := by
    refine ⟨q, hq, ?_⟩
    rcases hsh with ⟨e1, e2⟩ | ⟨e1, n', m', e2, e3, e4⟩
    · exact .inl ⟨e1, e2⟩
    · subst e2 e3
      exact .inr ⟨e1, e4⟩
  clear hsh hq
  obtain ⟨q', hq, hsh⟩ := hMk
  obtain ⟨F, hF⟩ : ∃ F : Nat → List Mk, F = fun k => finB takeL (matHolds M.l) szT lim (L.take k) [] := ⟨_, rfl⟩
  obtain ⟨G, hG⟩ : ∃ G : Nat → List It, G = fun k => (L.take k).filter (goesB (matHolds M.l) szT lim) := ⟨_, rfl⟩
  have hGl : ∀ k, (G k).length ≤ L.length := by
    intro k
    rw [hG]
    exact Nat.le_trans (List.length_filter_le _ _) (by rw [List.length_take]; omega)
  have hF4 : ∀ k ≤ L.length, (F k).length ≤ 4 := by
    intro k hk
    rw [hF]
    exact rightM_le (fin_right hseq _ _ k hk)
  have hI : r.items = G n := by rw [hr.items, hG]
  have hFn : r.fin = F n := by rw [hr.fin, hF]
  rw [hI, hFn] at hb
  rcases hsh with ⟨hL0, rfl⟩ | ⟨hne, rfl⟩
  all_goals first
    | (have hn0 : ¬ 0 < n := by (have h := hnl; rw [hL0] at h; exact Nat.not_lt.2 h))
    | have hn0 := True.intro
  all_goals first
    | (have hb2 := hb; rw [hL0] at hb2; simp only [List.isEmpty_nil, encs_nil, List.length_nil] at hb2)
    | (have hb2 := hb; rw [List.isEmpty_eq_false_iff.2 hne] at hb2)
  all_goals simp [Tryz.f6, f0, hz1', hz2', ha, hl, hq, hb2, hnl', hn0, hnz, sf1, sf2]
  all_goals
    refine Run.loopThen (fun (a : Nat) e H' => a ≤ n ∧ look e 5 = some (.bool true) ∧ look e 7 = some (.vptr [(.vsl M.nil (encs M.l) M.l.length)]) ∧ look e 8 = some (.vptr [.int .i64 lim.count, .int .i64 lim.bytes, .int .i64 lim.hard]) ∧ look e 9 = some (.vsl L.isEmpty (encs L) L.length) ∧ look e 10 = some (.vptr [.vsl (G n).isEmpty (encs ((G n).map nrmF)) (G n).length, .vsl (F n).isEmpty (encs (F n)) (F n).length, .int .i64 n, .int .i64 r.bytes]) ∧ look e 13 = some (.vsl (F a).isEmpty (encs (F a)) (F a).length) ∧ look e 14 = some (.int .i64 (a : Nat)) ∧ UsH (G a) e H') (fun a => n - a) 0 ⟨Nat.zero_le _, by simp, by simp, by simp, by first | (rw [hL0]; simp; done) | (simp [hne]; done), by simp, by subst hF; simp [finB], by simp, .inl ⟨by subst hG; simp, by simp, rfl⟩⟩ ?_
    rintro a e H' ⟨han, k5, k7, k8, k9, k10, k13, k14, hH⟩
    by_cases hlt : a < n
    · have hlt' : (a : Int) < (n : Int) := by omega
      have haL : a < L.length := by omega
      have haL' : (a : Int) < (L.length : Int) := by omega
      have hLe : L.isEmpty = false := notE haL
      rw [hLe] at k9
      obtain ⟨xo, xk, -⟩ := hLm L[a] (List.getElem_mem haL)
      have fa := asked_ev L[a] xo xk M hmb lim
      have ft := krtake_ev (Sl.grown (F a)) (by rw [Sl.grown_l]; have := hF4 a (by omega); omega) L[a] (overB (matHolds M.l) szT lim L[a])
      have eG : (Sl.grown (F a)).nil = (F a).isEmpty := rfl
      obtain ⟨t1, t2, t3⟩ := fin_take hseq hxo (matHolds M.l) lim haL
      have eFa : finB takeL (matHolds M.l) szT lim (L.take a) [] = F a := by rw [hF]
      have eFb : finB takeL (matHolds M.l) szT lim (L.take (a + 1)) [] = F (a + 1) := by rw [hF]
      rw [eFa] at t1 t2
      rw [eFb] at t2 t3
      rw [Sl.grown_l, eG, t1, t2] at ft
      replace ft : call cx 24 [.vsl (F a).isEmpty (encs (F a)) (F a).length, .agg (Enc.cells L[a]), .bool (overB (matHolds M.l) szT lim L[a])] [] = some (.tup [.vsl false (encs (F (a + 1))) (F (a + 1)).length, .int .i64 0], []) := ft
      have hea : List.drop (a * 39) (encs L) = Enc.cells L[a] ++ encs (L.drop (a + 1)) := It.ea haL
      have hw : IntKind.i64.wrap ((a : Int) + 1) = ((a + 1 : Nat) : Int) := by rw [wrap_i64] <;> omega
      have hGs : G (a + 1) = if goesB (matHolds M.l) szT lim L[a] then G a ++ [L[a]] else G a := by
        rw [hG]
        simp only
        rw [List.take_succ_eq_append_getElem haL, List.filter_append, List.filter_cons]
        split <;> simp
      have hLn : ¬ L = [] := List.isEmpty_eq_false_iff.1 hLe
      have hFn1 : ¬ F (a + 1) = [] := List.isEmpty_eq_false_iff.1 t3
      have hm5 : (G a).length * 104 + 104 ≤ 140737488355328 := by have := hGl a; omega
      have hm5' : ((G a).length + 1) * 104 ≤ 140737488355328 := by omega
      have hm6 : (G a).length + 1 ≤ 140737488355328 := by omega
      generalize overB (matHolds M.l) szT lim L[a] = ov at *
      cases hg : goesB (matHolds M.l) szT lim L[a] with
      | false =>
        rw [hg] at hGs fa
        simp only [Bool.false_eq_true, if_false] at hGs
        generalize L[a] = x at *
        rcases hH with ⟨hI0, k12, rfl⟩ | ⟨hI0, nn, qq, hnn, hqq, k12, rfl⟩
        all_goals first | subst hnn hqq | skip
        all_goals
          simp [k5, k7, k8, k9, k10, k12, k13, k14, hlt', haL', hea, fa, ft, hw, -It.ea, -It.ed]
          first
            | exact ⟨a + 1, by omega, by omega, hLn, ⟨hFn1, rfl, rfl⟩, by omega, usH_nil (by rw [hGs]; exact hI0) (by simp)⟩
            | exact ⟨a + 1, by omega, by omega, hLn, ⟨hFn1, rfl, rfl⟩, by omega, usH_own (n := (G a).length * 39) (q := (G a).length) (by rw [hGs]; exact hI0) (by simp) (by rw [hGs]) (by rw [hGs]) (by rw [hGs])⟩
      | true =>
        rw [hg] at hGs fa
        simp only [if_true] at hGs
        generalize L[a] = x at *
        rcases hH with ⟨hI0, k12, rfl⟩ | ⟨hI0, nn, qq, hnn, hqq, k12, rfl⟩
        all_goals first | subst hnn hqq | skip
        all_goals
          simp [k5, k7, k8, k9, k10, k12, k13, k14, hlt', haL', hea, fa, ft, hw, maxBytes, hm5', hm6, -It.ea, -It.ed]
          first
            | exact ⟨a + 1, by omega, by omega, hLn, ⟨hFn1, rfl, rfl⟩, by omega, usH_own (n := 39) (q := 1) (by rw [hGs]; simp) (by simp) (by rw [hGs, hI0]; rfl) (by rw [hGs, hI0]; rfl) (by rw [hGs, hI0, List.nil_append, encs_one])⟩
            | exact ⟨a + 1, by omega, by omega, hLn, ⟨hFn1, rfl, rfl⟩, by omega, usH_own (n := (G a).length * 39 + 39) (q := (G a).length + 1) (by rw [hGs]; simp) (by simp) (by rw [hGs, List.length_append, List.length_singleton, Nat.add_mul]) (by rw [hGs, List.length_append, List.length_singleton]) (by rw [hGs, encs_append, encs_one])⟩
    · have hae : n = a := by omega
      subst hae
      have hGm : ∀ x ∈ G n, x ∈ L := by
        intro x hx
        rw [hG] at hx
        exact List.mem_of_mem_take (List.mem_filter.1 hx).1
      have hGl' := hGl n
      have g1 := rsames_ev (Sl.grown ((G n).map nrmF)) (Sl.grown (G n)) (fun x hx => by
        obtain ⟨y, hy, rfl⟩ := List.mem_map.1 hx
        exact (made_b (hxo y (hGm y hy)) (hLm y (hGm y hy)).2.1).1) (fun x hx => (made_b (hxo x (hGm x hx)) (hLm x (hGm x hx)).2.1).1) (by rw [Sl.grown_l, List.length_map]; omega)
      have eG : (Sl.grown ((G n).map nrmF)).nil = (G n).isEmpty := by
        show ((G n).map nrmF).isEmpty = _
        cases G n <;> rfl
      have eG1 : (Sl.grown (G n)).nil = (G n).isEmpty := rfl
      rw [Sl.grown_l, Sl.grown_l, eG, eG1, sameIs_nrm, List.length_map] at g1
      have g2 := krsame_ev (Sl.grown (F n)) (Sl.grown (F n)) (by rw [Sl.grown_l]; have := hF4 n hnl; omega)
      have eG2 : (Sl.grown (F n)).nil = (F n).isEmpty := rfl
      rw [Sl.grown_l, eG2, beq_self_eq_true] at g2
      have htkF : List.take (G n).length (G n) = G n := List.take_length
      by_cases hnL : n = L.length
      · have hnL' : (n : Int) = (L.length : Int) := by omega
        rcases hH with ⟨hI0, k12, rfl⟩ | ⟨hI0, nn, qq, hnn, hqq, k12, rfl⟩
        · rw [hI0] at g1 k10
          simp only [List.isEmpty_nil, List.map_nil, encs_nil, List.length_nil] at g1 k10
          simp [k5, k7, k8, k9, k10, k12, k13, k14, g1, g2, hnL']
        · rw [List.isEmpty_eq_false_iff.2 hI0] at g1 k10
          subst hnn hqq
          simp [k5, k7, k8, k9, k10, k12, k13, k14, g1, g2, htkF, hnL']
      · have hlt2 : n < L.length := by omega
        have hnL' : ¬ (n : Int) = (L.length : Int) := by omega
        have hlt2' : (n : Int) < (L.length : Int) := by omega
        have hst := hr.stop hlt2
        have hby : r.bytes ≤ 40 * 660 := by
          rw [hr.bytes]
          exact sum_le (fun x hx => textL_small (hLm x (hGm x (by rw [← hI]; exact hx)))) (by rw [hI]; omega)
        obtain ⟨xo, xk, -⟩ := hLm L[n] (List.getElem_mem hlt2)
        have xs : (textL L[n]).length ≤ 660 := textL_small (hLm L[n] (List.getElem_mem hlt2))
        obtain ⟨hb1', hb2'⟩ := made_b xo xk
        have ft := rtext_ev L[n] xo hb2' hb1'
        unfold textD at ft
        rw [if_pos xk] at ft
        have fa := asked_ev L[n] xo xk M hmb lim
        unfold stopB at hst
        rw [hI, Bool.and_eq_true, Bool.or_eq_true, Bool.and_eq_true, decide_eq_true_eq, decide_eq_true_eq, decide_eq_true_eq] at hst
        obtain ⟨hg, hst⟩ := hst
        rw [hg] at fa
        have hcnt := (lim_is hlo).1
        have hLe : L.isEmpty = false := notE hlt2
        rw [hLe] at k9
        have hst2 : (G n).length ≠ 0 ∧ (((G n).length : Int) = lim.count ∨ lim.bytes < (r.bytes : Int) + ((textL L[n]).length : Int)) := by
          rcases hst with h | ⟨h, h'⟩
          · exact ⟨by omega, .inl h⟩
          · exact ⟨by omega, .inr h'⟩
        have hea : List.drop (n * 39) (encs L) = Enc.cells L[n] ++ encs (L.drop (n + 1)) := It.ea hlt2
        have hw : IntKind.i64.wrap ((r.bytes : Int) + ((textL L[n]).length : Int)) = (r.bytes : Int) + ((textL L[n]).length : Int) := by rw [wrap_i64] <;> omega
        generalize overB (matHolds M.l) szT lim L[n] = ov at *
        generalize L[n] = x at *
        obtain ⟨hz, hst3⟩ := hst2
        rcases hH with ⟨hI0, k12, rfl⟩ | ⟨hI0, nn, qq, hnn, hqq, k12, rfl⟩
        · rw [hI0] at hz
          exact absurd rfl hz
        · rw [List.isEmpty_eq_false_iff.2 hI0] at g1 k10
          subst hnn hqq
          have hpos : 0 < (G n).length := by omega
          by_cases hc : ((G n).length : Int) = lim.count
          · simp [k5, k7, k8, k9, k10, k12, k13, k14, g1, g2, htkF, hnL', hlt2', hea, fa, hc, -It.ea, -It.ed]
          · have hb3 : lim.bytes < (r.bytes : Int) + ((textL x).length : Int) := by
              rcases hst3 with h | h
              · exact absurd h hc
              · exact h
            simp [k5, k7, k8, k9, k10, k12, k13, k14, g1, g2, htkF, hnL', hlt2', hea, fa, ft, hw, hc, hpos, hb3, -It.ea, -It.ed]
end Go.Ev.S
namespace Go.Ev
open Go Go.Proofs Go.ChangeShapes Go.WideShapes Go.ChangeAt Go.RowKit
theorem handed_shaped {H : Type} {enc : TypeId × Value → H} {a : Assume} {C : Checked} {os : Os} {f : FuncId} {fn : Func} {s : ChangeSpec} {conds : List PathCond} {apart fresh handsOn again : Bool} {X : World → Array Value → Prop}
    (hX : ∀ (w w' : World) (args : Array Value), w.heap = w'.heap → X w args → X w' args)
    (own : ownKnob C.prog.godebug = none) (started : os.Started) (noInit : C.prog.inits.idxOf? f = none) (hfn : C.prog.funcs[f]? = some fn)
    (witness : ∃ (w : World) (tape : Tape) (i : Input), w.os = os ∧ (w.forCall tape i).Shaped C.prog ∧ i.vars = [] ∧ Input.okWide C.prog (w.forCall tape i) .any w.heap.size f i ∧
      ((s.pre enc C.prog fn conds apart (w.forCall tape i).memory i.args ∧ X (w.forCall tape i).memory i.args) ∧ sizedMet enc C.prog fn (OpenSpec.ofChange s) apart (w.forCall tape i).memory i.args) ∧ a.holds C.prog (lone (Frame.enter C.prog f i.args .normal) [] (w.forCall tape i)))
    (contract : ∀ (W : World) (base : Nat) (args : Array Value) (ds gs : List (DataW H)) (before : List MemPlace),
      (∀ (j : Nat) t v, fn.params[j]? = some t → args[j]? = some v → Value.okWide C.prog W .any base t v) →
      DataW.Whole enc C.prog fn.params.toList s.vars apart W args.toList ds gs before → X W args → W.ShapedOpen C.prog →
      Calls C.prog f args W fun e W' => ∃ v, e = .returned v ∧ s.post enc C.prog fn apart fresh handsOn again W args v W') :
    ReturnsInHanded a C os f .any (fun w args => (s.pre enc C.prog fn conds apart w args ∧ X w args) ∧ sizedMet enc C.prog fn (OpenSpec.ofChange s) apart w args) (s.post enc C.prog fn apart fresh handsOn again) := by
  refine returnsInHanded_of_calls own started noInit witness ?_
  intro w tape i _ hsh _ hok hpre _
  obtain ⟨_, _, _, fn', hfn', _, _, _, _, hval⟩ := hok
  have e : fn' = fn := Option.some.inj (hfn'.symm.trans hfn)
  subst e
  obtain ⟨⟨⟨ds, gs, before, hw, hc⟩, hx⟩, hz⟩ := hpre
  have hw' := DataW.Whole.of_heap (w' := w.forCall tape i) (by rfl) hw
  refine (contract (w.forCall tape i) w.heap.size i.args ds gs before hval hw' (hX _ _ _ (by rfl) hx) hsh).mono fun e W' ⟨v, he, hp⟩ => ?_
  subst he
  exact ChangeSpec.post_blind hp
end Go.Ev
