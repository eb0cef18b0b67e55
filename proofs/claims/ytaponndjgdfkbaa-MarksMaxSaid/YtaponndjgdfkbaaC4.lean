import Derived.Test.YtaponndjgdfkbaaC3
import Derived.DataReads
import Derived.DataElems
import Derived.ChangeArms
import Derived.OpenShut
/- The document's marks: names compared, marks got, right, the same. -/
namespace Go.Ev.S
open Go Go.Proofs Go.Ev
theorem order_ev (a b : Int) : call cx 52 [.int .u64 a, .int .u64 b] [] = some (.int .i64 (if a < b then -1 else if b < a then 1 else 0), []) := by
  refine call_run Try.func52 rfl ⟨rfl, rfl⟩ ?_
  by_cases h1 : a < b
  · simp [Try.f52, h1]
  · by_cases h2 : b < a
    · simp [Try.f52, h1, h2]
    · simp [Try.f52, h1, h2]
theorem cmpB_step : ∀ {x y : List UInt8} {i : Nat} (hx : i < x.length) (hy : i < y.length), cmpB (x.drop i) (y.drop i) = if x[i] = y[i] then cmpB (x.drop (i + 1)) (y.drop (i + 1)) else if x[i] < y[i] then -1 else 1 := by
  intro x y i hx hy
  rw [List.drop_eq_getElem_cons hx, List.drop_eq_getElem_cons hy, cmpB]
set_option maxHeartbeats 1000000 in
theorem ids_ev (x y : ID) : call cx 41 [.agg (ofBytes x.l), .agg (ofBytes y.l)] [] = some (.int .i64 (cmpB x.l y.l), []) := by
  refine call_run Try.func41 rfl ⟨rfl, rfl⟩ ?_
  simp [Try.f41]
  refine Run.loopThen (fun (i : Nat) e H => i ≤ 16 ∧ H = [some (ofBytes x.l), some (ofBytes y.l)] ∧ look e 2 = some (.optr 0 16 0) ∧ look e 3 = some (.optr 1 16 0) ∧ look e 5 = some (.int .i64 i) ∧ cmpB x.l y.l = cmpB (x.l.drop i) (y.l.drop i)) (fun i => 16 - i) 0 (by simp) ?_
  rintro i e H ⟨hi, rfl, h2, h3, h5, hr⟩
  by_cases hlt : i < 16
  · have hlt' : (i : Int) < 16 := by omega
    have hx : i < x.l.length := by simp; omega
    have hy : i < y.l.length := by simp; omega
    have hw : IntKind.i64.wrap ((i : Int) + 1) = ((i + 1 : Nat) : Int) := by rw [wrap_i64] <;> omega
    have hwx : IntKind.u64.wrap (x.l[i].toNat : Int) = (x.l[i].toNat : Int) := by rw [wrap_u64]; have := x.l[i].toNat_lt; omega
    have hwy : IntKind.u64.wrap (y.l[i].toNat : Int) = (y.l[i].toNat : Int) := by rw [wrap_u64]; have := y.l[i].toNat_lt; omega
    have ho := order_ev (x.l[i].toNat : Int) (y.l[i].toNat : Int)
    rw [cmpB_step hx hy] at hr
    by_cases he : x.l[i] = y.l[i]
    · rw [if_pos he] at hr
      simp [h2, h3, h5, hlt', ofBytes_at hx, ofBytes_at hy, he, hw]
      exact ⟨i + 1, by omega, by omega, rfl, hr⟩
    · have hne : ¬ ((x.l[i].toNat : Int) = (y.l[i].toNat : Int)) := by
        intro h
        exact he (UInt8.toNat_inj.1 (by omega))
      have hne' : ¬ (x.l[i].toNat = y.l[i].toNat) := fun h => he (UInt8.toNat_inj.1 h)
      rw [if_neg he] at hr
      have ho' : (if (x.l[i].toNat : Int) < (y.l[i].toNat : Int) then (-1 : Int) else if (y.l[i].toNat : Int) < (x.l[i].toNat : Int) then 1 else 0) = cmpB x.l y.l := by
        rw [hr]
        by_cases hl : x.l[i] < y.l[i]
        · have : x.l[i].toNat < y.l[i].toNat := hl
          rw [if_pos hl, if_pos (by omega)]
        · have : ¬ x.l[i].toNat < y.l[i].toNat := hl
          rw [if_neg hl, if_neg (by omega), if_pos (by omega)]
      rw [ho'] at ho
      simp [h2, h3, h5, hlt', ofBytes_at hx, ofBytes_at hy, hne, hwx, hwy, ho]
  · have hlt' : ¬ (i : Int) < 16 := by omega
    have h16 : i = 16 := by omega
    subst h16
    have e1 : x.l.drop 16 = [] := List.drop_eq_nil_of_le (by simp)
    have e2 : y.l.drop 16 = [] := List.drop_eq_nil_of_le (by simp)
    rw [e1, e2, cmpB] at hr
    simp [h2, h3, h5, hr]

def hasM (l : List Mk) (id : ID) : Bool := l.any fun m => m.id == id
set_option maxHeartbeats 1000000 in
theorem rget_ev (s : Sl Mk) (hn : s.l.length < 4611686018427387904) (id : ID) :
    call cx 20 [(.vsl s.nil (encs s.l) s.l.length), .agg (ofBytes id.l)] [] = some (.tup [.agg (Enc.cells (getM s.l id)), .bool (hasM s.l id)], []) := by
  refine call_run Try.func20 rfl ⟨rfl, rfl⟩ ?_
  simp [Try.f20]
  refine Run.loopThen (fun (i : Nat) e H => i ≤ s.l.length ∧ (∃ z : Mk, H = [some (ofBytes id.l), some (Enc.cells z)]) ∧ look e 0 = some (.vsl s.nil (encs s.l) s.l.length) ∧ look e 3 = some (.optr 0 16 0) ∧ look e 4 = some (.optr 1 19 0) ∧ look e 6 = some (.int .i64 i) ∧ getM s.l id = getM (s.l.drop i) id ∧ hasM s.l id = hasM (s.l.drop i) id) (fun i => s.l.length - i) 0 ?_ ?_
  · simp
    exact ⟨⟨ID.zero, 0, 0, 0⟩, by simp [Mk.cells, ID.zero, ofBytes]⟩
  rintro i e H ⟨hi, ⟨z, rfl⟩, h0, h3, h4, h6, hr, hr2⟩
  by_cases hlt : i < s.l.length
  · have hlt' : (i : Int) < (s.l.length : Int) := by omega
    have hw : IntKind.i64.wrap ((i : Int) + 1) = ((i + 1 : Nat) : Int) := by rw [wrap_i64] <;> omega
    rw [List.drop_eq_getElem_cons hlt] at hr hr2
    have h16 : ∀ k, (16 ≤ 19 + k) = True := fun k => eq_true (by omega)
    cases he : s.l[i].id == id with
    | true =>
      simp only [getM, List.find?_cons, he, Option.getD_some] at hr
      simp only [hasM, List.any_cons, he, Bool.true_or] at hr2
      simp [h0, h3, h4, h6, hlt', hlt, Sl.nn hlt, h16, he, getM, hasM, hr, hr2]
    | false =>
      simp only [getM, List.find?_cons, he] at hr
      simp only [hasM, List.any_cons, he, Bool.false_or] at hr2
      simp [h0, h3, h4, h6, hlt', hlt, Sl.nn hlt, h16, he, hw, -List.any_eq_true]
      exact ⟨i + 1, by omega, by omega, ⟨z, rfl⟩, rfl, hr, hr2⟩
  · have hlt' : ¬ (i : Int) < (s.l.length : Int) := by omega
    have hd : s.l.drop i = [] := List.drop_eq_nil_of_le (by omega)
    rw [hd] at hr hr2
    have e1 : getM [] id = ⟨id, 0, 0, 0⟩ := rfl
    have e2 : hasM [] id = false := rfl
    rw [e1] at hr
    rw [e2] at hr2
    simp [h0, h3, h4, h6, hlt', hr, hr2, List.take_of_length_le, Mk.cells, List.take_append, List.drop_append, drop_bytes]

set_option maxHeartbeats 1000000 in
theorem rright_ev (s : Sl Mk) (hn : s.l.length < 4611686018427387904) :
    call cx 27 [(.vsl s.nil (encs s.l) s.l.length)] [] = some (.bool (rightM s.l), []) := by
  refine call_run Try.func27 rfl ⟨rfl, rfl⟩ ?_
  simp [Try.f27]
  refine Run.loopThen (fun (i : Nat) e H => 1 ≤ i ∧ (i ≤ s.l.length ∨ i = 1) ∧ H = [] ∧ look e 0 = some (.vsl s.nil (encs s.l) s.l.length) ∧ look e 3 = some (.int .i64 i) ∧ risesM s.l = risesM (s.l.drop (i - 1))) (fun i => s.l.length - i) 1 (by simp) ?_
  rintro i e H ⟨hi, hil, rfl, h0, h3, hr⟩
  by_cases hlt : i < s.l.length
  · obtain ⟨k, hk⟩ : ∃ k, k + 1 = i := ⟨i - 1, by omega⟩
    have hlt' : (i : Int) < (s.l.length : Int) := by omega
    have hkl : k < s.l.length := by omega
    have hkl' : (k : Int) < (s.l.length : Int) := by omega
    have hw : IntKind.i64.wrap ((i : Int) - 1) = (k : Int) := by rw [wrap_i64] <;> omega
    have hw2 : IntKind.i64.wrap ((i : Int) + 1) = ((i + 1 : Nat) : Int) := by rw [wrap_i64] <;> omega
    have hc := ids_ev s.l[k].id s.l[i].id
    have hr2 : risesM s.l = (decide (cmpB s.l[k].id.l s.l[i].id.l < 0) && risesM (s.l.drop i)) := by
      have e1 : i - 1 = k := by omega
      have e2 : s.l.drop k = s.l[k] :: s.l[i] :: s.l.drop (i + 1) := by
        rw [List.drop_eq_getElem_cons hkl]
        congr 1
        rw [hk, List.drop_eq_getElem_cons hlt]
      rw [hr, e1, e2, risesM, List.drop_eq_getElem_cons hlt]
    have h16 : ∀ k, (16 ≤ 19 + k) = True := fun k => eq_true (by omega)
    by_cases hcm : cmpB s.l[k].id.l s.l[i].id.l < 0
    · have hcm' : ¬ 0 ≤ cmpB s.l[k].id.l s.l[i].id.l := by omega
      rw [decide_eq_true hcm, Bool.true_and] at hr2
      simp [h0, h3, hlt', hw, hkl', Sl.nn hlt, h16, hlt, hkl, hc, hcm', hw2]
      exact ⟨i + 1, by omega, by omega, .inl (by omega), rfl, by simpa using hr2⟩
    · have hcm' : 0 ≤ cmpB s.l[k].id.l s.l[i].id.l := by omega
      rw [decide_eq_false hcm, Bool.false_and] at hr2
      simp [h0, h3, hlt', hw, hkl', Sl.nn hlt, h16, hlt, hkl, hc, hcm', hr2, rightM]
  · have hlt' : ¬ (i : Int) < (s.l.length : Int) := by omega
    have hr2 : risesM s.l = true := by
      rw [hr]
      have : (s.l.drop (i - 1)).length ≤ 1 := by rw [List.length_drop]; omega
      match s.l.drop (i - 1), this with
      | [], _ => rfl
      | [a], _ => rfl
    by_cases h4 : s.l.length ≤ 4
    · have h4' : (s.l.length : Int) ≤ 4 := by omega
      simp [h0, h3, hlt', hr2, h4, h4', rightM]
    · have h4' : ¬ (s.l.length : Int) ≤ 4 := by omega
      simp [h0, h3, hlt', hr2, h4, h4', rightM]
set_option maxHeartbeats 1000000 in
theorem rsame_ev (a b : Sl Mk) (ha : a.l.length < 4611686018427387904) :
    call cx 26 [(.vsl a.nil (encs a.l) a.l.length), (.vsl b.nil (encs b.l) b.l.length)] [] = some (.bool (a.l == b.l), []) := by
  refine call_run Try.func26 rfl ⟨rfl, rfl⟩ ?_
  by_cases hl : a.l.length = b.l.length
  · simp [Try.f26, hl]
    refine Run.loopThen (fun (i : Nat) e H => i ≤ b.l.length ∧ H = [] ∧ look e 0 = some (.vsl a.nil (encs a.l) a.l.length) ∧ look e 1 = some (.vsl b.nil (encs b.l) b.l.length) ∧ look e 5 = some (.int .i64 i) ∧ sameFrom a.l b.l = sameFrom (a.l.drop i) (b.l.drop i)) (fun i => b.l.length - i) 0 (by simp [hl]) ?_
    rintro i e H ⟨hi, rfl, h0, h1, h5, hr⟩
    rw [sameFrom_eq a.l b.l] at hr
    by_cases hlt : i < b.l.length
    · have hlt' : (i : Int) < (b.l.length : Int) := by omega
      have hla : i < a.l.length := by omega
      have hw : IntKind.i64.wrap ((i : Int) + 1) = ((i + 1 : Nat) : Int) := by rw [wrap_i64] <;> omega
      rw [List.drop_eq_getElem_cons hlt, List.drop_eq_getElem_cons hla, sameFrom] at hr
      have hc := cellsEqMk a.l[i] b.l[i]
      cases he : a.l[i] == b.l[i] with
      | true =>
        rw [he] at hr hc
        rw [Bool.true_and] at hr
        simp [h0, h1, h5, hl, hlt', hlt, Sl.nn hlt, Sl.nn hla, hc, hw]
        exact ⟨i + 1, by omega, by omega, rfl, by rw [sameFrom_eq a.l b.l]; exact hr⟩
      | false =>
        rw [he] at hr hc
        rw [Bool.false_and] at hr
        simp [h0, h1, h5, hl, hlt', hlt, Sl.nn hlt, Sl.nn hla, hc, hr]
    · have hlt' : ¬ (i : Int) < (b.l.length : Int) := by omega
      have h1d : a.l.drop i = [] := List.drop_eq_nil_of_le (by omega)
      have h2d : b.l.drop i = [] := List.drop_eq_nil_of_le (by omega)
      rw [h1d, h2d, sameFrom] at hr
      simp [h0, h1, h5, hl, hlt', hr]
  · have hl' : ¬ ((a.l.length : Int) = (b.l.length : Int)) := by omega
    have he : (a.l == b.l) = false := by
      rw [beq_eq_false_iff_ne]
      intro h
      exact hl (by rw [h])
    simp [Try.f26, hl', he]
set_option maxHeartbeats 1000000 in
theorem rle_ev (a b : Sl Mk) (ha : a.l.length < 4611686018427387904) (hb : b.l.length < 4611686018427387904) :
    call cx 28 [(.vsl a.nil (encs a.l) a.l.length), (.vsl b.nil (encs b.l) b.l.length)] [] = some (.bool (leM a.l b.l), []) := by
  refine call_run Try.func28 rfl ⟨rfl, rfl⟩ ?_
  simp [Try.f28]
  refine Run.loopThen (fun (i : Nat) e H => i ≤ a.l.length ∧ H = [] ∧ look e 0 = some (.vsl a.nil (encs a.l) a.l.length) ∧ look e 1 = some (.vsl b.nil (encs b.l) b.l.length) ∧ look e 5 = some (.int .i64 i) ∧ leM a.l b.l = leM (a.l.drop i) b.l) (fun i => a.l.length - i) 0 (by simp) ?_
  rintro i e H ⟨hi, rfl, h0, h1, h5, hr⟩
  by_cases hlt : i < a.l.length
  · have hlt' : (i : Int) < (a.l.length : Int) := by omega
    have hw : IntKind.i64.wrap ((i : Int) + 1) = ((i + 1 : Nat) : Int) := by rw [wrap_i64] <;> omega
    have hg := rget_ev b hb a.l[i].id
    have h16 : ∀ k, (16 ≤ 19 + k) = True := fun k => eq_true (by omega)
    unfold leM at hr ⊢
    rw [all_step _ hlt] at hr
    by_cases hs : (getM b.l a.l[i].id).seq < a.l[i].seq
    · have hs' : ¬ a.l[i].seq ≤ (getM b.l a.l[i].id).seq := by omega
      simp only [hs', decide_false, Bool.false_and] at hr
      simp [h0, h1, h5, hlt', hlt, Sl.nn hlt, hg, hs, hr, h16]
    · have hs' : a.l[i].seq ≤ (getM b.l a.l[i].id).seq := by omega
      simp only [hs', decide_true, Bool.true_and] at hr
      simp [h0, h1, h5, hlt', hlt, Sl.nn hlt, hg, hs, hw, h16]
      exact ⟨i + 1, by omega, by omega, rfl, hr⟩
  · have hlt' : ¬ (i : Int) < (a.l.length : Int) := by omega
    have hd : a.l.drop i = [] := List.drop_eq_nil_of_le (by omega)
    rw [hd] at hr
    have he : leM [] b.l = true := rfl
    rw [he] at hr
    simp [h0, h1, h5, hlt', hr]
theorem samebytes_ev (a b : Sl UInt8) : call cx 29 [(.vsl a.nil (ofBytes a.l) a.l.length), (.vsl b.nil (ofBytes b.l) b.l.length)] [] = some (.bool (a.l == b.l), []) := by
  refine call_run Try.func29 rfl ⟨rfl, rfl⟩ ?_
  simp [Try.f29]
end Go.Ev.S
/- The document's marks: set, taken, the greater. -/
namespace Go.Ev.S
open Go Go.Proofs Go.Ev
/-- The marks with one in its place, as the document has it. -/
def rsetGo (m : Mk) : List Mk → Bool → List Mk × Bool
  | [], i => ([], i)
  | x :: l, i => let c := cmpB x.id.l m.id.l
    let r := rsetGo m l (i || decide (0 ≤ c))
    ((if !i && decide (0 ≤ c) then [m] else []) ++ (if c ≠ 0 then [x] else []) ++ r.1, r.2)
def rsetL (l : List Mk) (m : Mk) : List Mk := (rsetGo m l false).1 ++ (if (rsetGo m l false).2 then [] else [m])
def rsetC (l : List Mk) (m : Mk) : Int := if rightM l then (if !hasM l m.id && decide (4 ≤ l.length) then 15 else 0) else 1
theorem rsetGo_len (m : Mk) : ∀ (l : List Mk) (i : Bool), (rsetGo m l i).1.length ≤ 2 * l.length
  | [], _ => by simp [rsetGo]
  | x :: l, i => by
    have := rsetGo_len m l (i || decide (0 ≤ cmpB x.id.l m.id.l))
    simp only [rsetGo, List.length_append, List.length_cons]
    have h1 : (if (!i && decide (0 ≤ cmpB x.id.l m.id.l)) = true then [m] else []).length ≤ 1 := by split <;> simp
    have h2 : (if cmpB x.id.l m.id.l ≠ 0 then [x] else []).length ≤ 1 := by split <;> simp
    omega
theorem rsetGo_app (m : Mk) : ∀ (a b : List Mk) (i : Bool), rsetGo m (a ++ b) i = ((rsetGo m a i).1 ++ (rsetGo m b (rsetGo m a i).2).1, (rsetGo m b (rsetGo m a i).2).2)
  | [], b, i => by simp [rsetGo]
  | x :: a, b, i => by
    simp only [List.cons_append, rsetGo, rsetGo_app m a b, List.append_assoc]
/-- The place and the slice that grows. -/
def RS (m : Mk) (g : List Mk) (d : D) (H : Heap) : Prop := (d = .vsl true [] 0 ∧ g = [] ∧ H = [some (Enc.cells m)]) ∨ (d = .osl 1 (g.length * 19) 0 g.length 19 ∧ H = [some (Enc.cells m), some (encs g)] ∧ g ≠ [])
theorem RS.app {m : Mk} {g : List Mk} {n k : Nat} {cs : List D} (hne : g ≠ []) (hn : n = g.length * 19) (hk : k = g.length) (hc : cs = encs g) : RS m g (.osl 1 n 0 k 19) [some (Enc.cells m), some cs] := by
  subst hn; subst hk; subst hc
  exact .inr ⟨rfl, rfl, hne⟩
theorem RS.nil {m : Mk} : RS m [] (.vsl true [] 0) [some (Enc.cells m)] := .inl ⟨rfl, rfl, rfl⟩
theorem rsetGo_ne (m : Mk) : ∀ (l : List Mk), (rsetGo m l false).2 = true → (rsetGo m l false).1 ≠ []
  | [], h => by simp [rsetGo] at h
  | x :: l, h => by
    simp only [rsetGo]
    by_cases hc : 0 ≤ cmpB x.id.l m.id.l
    · simp [hc]
    · have h0 : ¬ cmpB x.id.l m.id.l = 0 := fun h0 => hc (by rw [h0]; decide)
      simp [h0]
theorem tri (c : Int) : (c < 0 ∧ ¬ 0 ≤ c ∧ ¬ c = 0) ∨ (c = 0 ∧ 0 ≤ c) ∨ (0 ≤ c ∧ ¬ c = 0) := by omega
theorem bnd40 {n : Nat} (h : n ≤ 1000) : n * 40 ≤ 140737488355328 ∧ n ≤ 140737488355328 := by omega
noncomputable def LSet : Code := cAt [1, 1, 1, 1, 1, 1, 0, 1, 0, 0] (stripC (bodyOf Try.f22))
set_option maxRecDepth 4000 in
set_option maxHeartbeats 2000000 in
theorem rset_loop (s : Sl Mk) (hl4 : s.l.length ≤ 4) (m : Mk) (e : Env) (h0 : look e 0 = some (.vsl s.nil (encs s.l) s.l.length)) (h3 : look e 3 = some (.optr 0 19 0)) (h10 : look e 10 = some (.int .i64 0)) (h9 : look e 9 = some (.bool false)) (h8 : look e 8 = some (.vsl true [] 0)) :
    Run cx 22 69 0 (fun ex e H => ex = .exit 0 ∧ look e 3 = some (.optr 0 19 0) ∧ look e 9 = some (.bool (rsetGo m s.l false).2) ∧ ∃ d, look e 8 = some d ∧ RS m (rsetGo m s.l false).1 d H) [] (code cx 22 69 0 (.loop LSet) e [some (Enc.cells m)]) := by
  refine Run.loopThen (fun (i : Nat) e H => i ≤ s.l.length ∧ look e 0 = some (.vsl s.nil (encs s.l) s.l.length) ∧ look e 3 = some (.optr 0 19 0) ∧ look e 10 = some (.int .i64 i) ∧ look e 9 = some (.bool (rsetGo m (s.l.take i) false).2) ∧
    (∃ d, look e 8 = some d ∧ RS m (rsetGo m (s.l.take i) false).1 d H)) (fun i => s.l.length - i) 0 ?_ ?_
  · simp [rsetGo, h0, h3, h10, h9, h8, RS.nil]
  clear h0 h3 h10 h9 h8 e
  rintro i e H ⟨hi, h0, h3, h10, h9, d, h8, hst⟩
  by_cases hlt : i < s.l.length
  · have hlt' : (i : Int) < (s.l.length : Int) := by omega
    have hw : IntKind.i64.wrap ((i : Int) + 1) = ((i + 1 : Nat) : Int) := by rw [wrap_i64] <;> omega
    have h16 : ∀ k, (16 ≤ 19 + k) = True := fun k => eq_true (by omega)
    have hc := ids_ev s.l[i].id m.id
    have hgl := rsetGo_len m (s.l.take i) false
    rw [List.length_take, Nat.min_eq_left hi] at hgl
    have hsn : rsetGo m (s.l.take (i + 1)) false = ((rsetGo m (s.l.take i) false).1 ++ (rsetGo m [s.l[i]] (rsetGo m (s.l.take i) false).2).1, (rsetGo m [s.l[i]] (rsetGo m (s.l.take i) false).2).2) := by
      rw [List.take_succ_eq_append_getElem hlt, rsetGo_app]
    generalize rsetGo m (s.l.take i) false = g at *
    obtain ⟨g1, g2⟩ := g
    simp only at h9 hst hgl hsn
    have hb0 : g1.length ≤ 100 := by omega
    have hb1 : g1.length * 40 + 40 ≤ 140737488355328 ∧ g1.length + 1 ≤ 140737488355328 := by have := bnd40 (n := g1.length + 1) (by omega); rwa [Nat.add_mul] at this
    have hb3 : g1.length * 40 + 80 ≤ 140737488355328 ∧ g1.length + 2 ≤ 140737488355328 := by have := bnd40 (n := g1.length + 2) (Nat.le_trans (Nat.add_le_add_right hb0 2) (by decide)); rwa [Nat.add_mul] at this
    clear hb0
    simp only [rsetGo, List.append_nil] at hsn
    have hcc : (cmpB s.l[i].id.l m.id.l < 0 ∧ ¬ 0 ≤ cmpB s.l[i].id.l m.id.l ∧ ¬ cmpB s.l[i].id.l m.id.l = 0) ∨ (cmpB s.l[i].id.l m.id.l = 0 ∧ 0 ≤ cmpB s.l[i].id.l m.id.l) ∨ (0 ≤ cmpB s.l[i].id.l m.id.l ∧ ¬ cmpB s.l[i].id.l m.id.l = 0) := tri _
    generalize cmpB s.l[i].id.l m.id.l = c at *
    simp only [LSet, cAt, bodyOf, Try.f22, Option.getD, stripC, stripL, stripOp]
    cases g2 <;> rcases hcc with ⟨c1, c2, c3⟩ | ⟨rfl, c1⟩ | ⟨c1, c2⟩ <;> rcases hst with ⟨rfl, rfl, rfl⟩ | ⟨rfl, rfl, hne⟩ <;>
      first
        | simp [h0, h3, h10, h9, h8, hlt', hlt, Sl.nn hlt, h16, hc, c2, c3, hw, hb1, maxBytes, Nat.add_mul]
        | simp [h0, h3, h10, h9, h8, hlt', hlt, Sl.nn hlt, h16, hc, c1, c2, hw, hb1, hb3, maxBytes, Nat.add_assoc, Nat.add_mul]
        | simp [h0, h3, h10, h9, h8, hlt', hlt, Sl.nn hlt, h16, hc, hw, hb1, maxBytes, Nat.add_mul]
    all_goals
      clear hb1 hb3
      refine ⟨i + 1, by omega, by omega, rfl, ?_, ?_⟩
      · first | (rw [hsn]; done) | (rw [hsn]; simp [c2]; done) | (rw [hsn]; simp [c1]; done) | (rw [hsn]; simp; done)
      · rw [hsn]
        first
          | exact RS.nil
          | (refine RS.app ?_ ?_ ?_ ?_ <;> first | simp [c2, c3, encs_append, Nat.add_mul, encs_cons] | simp [c1, c2, encs_append, Nat.add_mul, encs_cons] | simp [encs_append, Nat.add_mul, encs_cons, hne] | simp [encs_cons])
  · have hlt' : ¬ (i : Int) < (s.l.length : Int) := by omega
    have hit : s.l.take i = s.l := List.take_of_length_le (by omega)
    rw [hit] at h9 hst
    simp only [LSet, cAt, bodyOf, Try.f22, Option.getD, stripC, stripL, stripOp]
    simp [h0, h3, h10, h9, h8, hlt']
    exact hst
set_option maxRecDepth 4000 in
set_option maxHeartbeats 1000000 in
theorem rset_ev (s : Sl Mk) (hn : s.l.length < 4611686018427387904) (m : Mk) :
    call cx 22 [(.vsl s.nil (encs s.l) s.l.length), .agg (Enc.cells m)] [] = some (.tup [(.vsl (resS (rsetC s.l m) (.of (rsetL s.l m))).nil (encs (resS (rsetC s.l m) (.of (rsetL s.l m))).l) (resS (rsetC s.l m) (.of (rsetL s.l m))).l.length), .int .i64 (rsetC s.l m)], []) := by
  have hr := rright_ev s hn
  have hg := rget_ev s hn m.id
  refine call_run Try.func22 rfl ⟨rfl, rfl⟩ ?_
  cases h1 : rightM s.l with
  | false =>
    rw [h1] at hr
    simp [Try.f22, hr, rsetC, h1, resS]
  | true =>
    rw [h1] at hr
    have hl4 := rightM_le h1
    by_cases hfull : hasM s.l m.id = false ∧ 4 ≤ s.l.length
    · obtain ⟨h2, h3⟩ := hfull
      have h3' : (4 : Int) ≤ (s.l.length : Int) := by clear hn; omega
      rw [h2] at hg
      simp [Try.f22, hr, hg, rsetC, h1, h2, h3, h3', resS]
    · have hc0 : rsetC s.l m = 0 := by
        unfold rsetC
        rw [h1, if_pos rfl, if_neg]
        simp only [Bool.and_eq_true, Bool.not_eq_true', decide_eq_true_eq]
        exact hfull
      rw [hc0]
      have hb2 : hasM s.l m.id = false → ¬ (4 : Int) ≤ (s.l.length : Int) := fun h h4 => hfull ⟨h, by clear hn; omega⟩
      have hlp := rset_loop s hl4 m
      simp only [LSet, cAt, bodyOf, Try.f22, Option.getD, stripC, stripL, stripOp] at hlp
      have hgl := rsetGo_len m s.l false
      have hb1 : (rsetGo m s.l false).1.length * 40 + 40 ≤ 140737488355328 ∧ (rsetGo m s.l false).1.length + 1 ≤ 140737488355328 := by have := bnd40 (n := (rsetGo m s.l false).1.length + 1) (by clear hn; omega); rwa [Nat.add_mul] at this
      have hne0 := rsetGo_ne m s.l
      cases hb : hasM s.l m.id
      · have hb2' := hb2 hb
        rw [hb] at hg
        simp [Try.f22, hr, hg, hb2', resS]
        refine Run.mono (hlp _ ?_ ?_ ?_ ?_ ?_) ?_
        iterate 5 simp
        rintro ex e H ⟨rfl, h3, h9, d, h8, hst⟩
        unfold rsetL
        rcases hst with ⟨rfl, hz, rfl⟩ | ⟨rfl, rfl, hne⟩ <;> cases hg2 : (rsetGo m s.l false).2 <;> simp [h3, h9, h8, hg2, maxBytes, hb1, Nat.add_mul, ← encs_snoc, List.take_of_length_le]
        · rw [hz]; simp [encs_one]
        · exact hne0 hg2 hz
      · rw [hb] at hg
        simp [Try.f22, hr, hg, resS]
        refine Run.mono (hlp _ ?_ ?_ ?_ ?_ ?_) ?_
        iterate 5 simp
        rintro ex e H ⟨rfl, h3, h9, d, h8, hst⟩
        unfold rsetL
        rcases hst with ⟨rfl, hz, rfl⟩ | ⟨rfl, rfl, hne⟩ <;> cases hg2 : (rsetGo m s.l false).2 <;> simp [h3, h9, h8, hg2, maxBytes, hb1, Nat.add_mul, ← encs_snoc, List.take_of_length_le]
        · rw [hz]; simp [encs_one]
        · exact hne0 hg2 hz
end Go.Ev.S
/- The document's marks: taken, the greater. -/
namespace Go.Ev.S
open Go Go.Proofs Go.Ev
def rmoreM (v n : Int) : Int := if IntKind.u64.wrap (u64max - n) < v then u64max else IntKind.u64.wrap (v + n)
theorem rmore_ev (v n : Int) : call cx 42 [.int .u64 v, .int .u64 n] [] = some (.int .u64 (rmoreM v n), []) := by
  refine call_run Try.func42 rfl ⟨rfl, rfl⟩ ?_
  by_cases h : IntKind.u64.wrap (18446744073709551615 - n) < v
  · simp [Try.f42, h, rmoreM, u64max]
  · simp [Try.f42, h, rmoreM, u64max]
def rstepM (m : Mk) (it : It) (over : Bool) : Mk :=
  if it.gap then { m with seq := it.to, lost := rmoreM m.lost (rmoreM (IntKind.u64.wrap (it.to - it.fr)) 1) }
  else { m with seq := it.rc.seq, over := if over then rmoreM m.over 1 else m.over }
def rtakeL (l : List Mk) (it : It) (over : Bool) : List Mk := rsetL l (rstepM (getM l it.id) it over)
def rtakeC (l : List Mk) (it : It) (over : Bool) : Int :=
  let c := rsetC l (rstepM (getM l it.id) it over)
  if c ≠ 0 then c else if goesM (getM l it.id) it then 0 else 13
set_option maxRecDepth 4000 in
set_option maxHeartbeats 2000000 in
theorem rtake_ev (s : Sl Mk) (hn : s.l.length < 4611686018427387904) (it : It) (over : Bool) :
    call cx 23 [(.vsl s.nil (encs s.l) s.l.length), .agg (Enc.cells it), .bool over] [] = some (.tup [(.vsl (resS (rtakeC s.l it over) (.of (rtakeL s.l it over))).nil (encs (resS (rtakeC s.l it over) (.of (rtakeL s.l it over))).l) (resS (rtakeC s.l it over) (.of (rtakeL s.l it over))).l.length), .int .i64 (rtakeC s.l it over)], []) := by
  have hge := rget_ev s hn it.id
  have hgid := getM_id s.l it.id
  have hse := rset_ev s hn (rstepM (getM s.l it.id) it over)
  refine call_run Try.func23 rfl ⟨rfl, rfl⟩ ?_
  unfold rtakeC rtakeL
  generalize getM s.l it.id = g at *
  have hm1 := rmore_ev (IntKind.u64.wrap (it.to - it.fr)) 1
  have hm2 := rmore_ev g.lost (rmoreM (IntKind.u64.wrap (it.to - it.fr)) 1)
  have hm3 := rmore_ev g.over 1
  have key : ∀ (st : Mk) (hst : rstepM g it over = st), ∀ c (hc : rsetC s.l st = c), ∀ d (hd : rsetL s.l st = d), True := fun _ _ _ _ _ _ => trivial
  cases hgap : it.gap with
  | true =>
    have hst : rstepM g it over = { g with seq := it.to, lost := rmoreM g.lost (rmoreM (IntKind.u64.wrap (it.to - it.fr)) 1) } := by simp [rstepM, hgap]
    rw [hst] at hse ⊢
    generalize rsetC s.l { g with seq := it.to, lost := rmoreM g.lost (rmoreM (IntKind.u64.wrap (it.to - it.fr)) 1) } = c at *
    generalize rsetL s.l { g with seq := it.to, lost := rmoreM g.lost (rmoreM (IntKind.u64.wrap (it.to - it.fr)) 1) } = d at *
    by_cases hc : c = 0
    · subst hc
      by_cases h1 : it.fr ≤ g.seq
      · simp [Try.f23, hge, hgap, hm1, hm2, hse, h1, goesM, resS]
      · by_cases h2 : it.to < it.fr
        · simp [Try.f23, hge, hgap, hm1, hm2, hse, h1, h2, goesM, resS]
        · simp [Try.f23, hge, hgap, hm1, hm2, hse, h1, h2, goesM, resS]
    · simp [Try.f23, hge, hgap, hm1, hm2, hse, hc, resS]
  | false =>
    have hst : rstepM g it over = { g with seq := it.rc.seq, over := if over then rmoreM g.over 1 else g.over } := by simp [rstepM, hgap]
    rw [hst] at hse ⊢
    cases over with
    | false =>
      simp only [Bool.false_eq_true, if_false] at hse ⊢
      generalize rsetC s.l { g with seq := it.rc.seq, over := g.over } = c at *
      generalize rsetL s.l { g with seq := it.rc.seq, over := g.over } = d at *
      by_cases hc : c = 0
      · subst hc
        by_cases h1 : it.rc.seq ≤ g.seq
        · simp [Try.f23, hge, hgap, hse, h1, goesM, resS]
        · simp [Try.f23, hge, hgap, hse, h1, goesM, resS]
      · simp [Try.f23, hge, hgap, hse, hc, resS]
    | true =>
      simp only [if_true] at hse ⊢
      generalize rsetC s.l { g with seq := it.rc.seq, over := rmoreM g.over 1 } = c at *
      generalize rsetL s.l { g with seq := it.rc.seq, over := rmoreM g.over 1 } = d at *
      by_cases hc : c = 0
      · subst hc
        by_cases h1 : it.rc.seq ≤ g.seq
        · simp [Try.f23, hge, hgap, hm3, hse, h1, goesM, resS]
        · simp [Try.f23, hge, hgap, hm3, hse, h1, goesM, resS]
      · simp [Try.f23, hge, hgap, hm3, hse, hc, resS]
end Go.Ev.S
/- The document's marks: the greater. -/
namespace Go.Ev.S
open Go Go.Proofs Go.Ev
def rmaxGo : List Mk → Sl Mk → Sl Mk × Int
  | [], out => (out, 0)
  | m :: l, out => if hasM out.l m.id && decide (m.seq ≤ (getM out.l m.id).seq) then rmaxGo l out
    else if rsetC out.l m ≠ 0 then (out, rsetC out.l m) else rmaxGo l (.of (rsetL out.l m))
def rmaxC (a b : Sl Mk) : Int := if rightM a.l && rightM b.l then (rmaxGo b.l (.of a.l)).2 else 1
theorem rsetL_len (l : List Mk) (m : Mk) : (rsetL l m).length + 1 ≤ 2 * (l.length + 1) := by
  have := rsetGo_len m l false
  unfold rsetL
  rw [List.length_append]
  have : (if (rsetGo m l false).2 = true then [] else [m]).length ≤ 1 := by split <;> simp
  omega
set_option maxRecDepth 4000 in
set_option maxHeartbeats 2000000 in
theorem rmax_ev (a b : Sl Mk) (ha : a.l.length < 4611686018427387904) (hb : b.l.length < 4611686018427387904) :
    call cx 24 [(.vsl a.nil (encs a.l) a.l.length), (.vsl b.nil (encs b.l) b.l.length)] [] = some (.tup [(.vsl (resS (rmaxC a b) (rmaxGo b.l (.of a.l)).1).nil (encs (resS (rmaxC a b) (rmaxGo b.l (.of a.l)).1).l) (resS (rmaxC a b) (rmaxGo b.l (.of a.l)).1).l.length), .int .i64 (rmaxC a b)], []) := by
  have hra := rright_ev a ha
  have hrb := rright_ev b hb
  cases h1 : rightM a.l with
  | false =>
    rw [h1] at hra
    refine call_run Try.func24 rfl ⟨rfl, rfl⟩ ?_
    simp [Try.f24, hra, resS, rmaxC, h1]
  | true =>
  cases h2 : rightM b.l with
  | false =>
    rw [h1] at hra
    rw [h2] at hrb
    refine call_run Try.func24 rfl ⟨rfl, rfl⟩ ?_
    simp [Try.f24, hra, hrb, resS, rmaxC, h1, h2]
  | true =>
  rw [h1] at hra
  rw [h2] at hrb
  have hal := rightM_le h1
  have hbl := rightM_le h2
  have hC : rmaxC a b = (rmaxGo b.l (.of a.l)).2 := by simp [rmaxC, h1, h2]
  rw [hC]
  have hb1 := bnd40 (n := a.l.length) (by clear ha hb; omega)
  refine call_run Try.func24 rfl ⟨rfl, rfl⟩ ?_
  cases hn : a.nil <;> (rw [hn] at hra; simp [Try.f24, hra, hrb, maxBytes, hb1, List.take_of_length_le])
  all_goals
    clear hb1 ha hb
    refine Run.loopThen (fun (i : Nat) e H => i ≤ b.l.length ∧ H = [] ∧ ∃ out : Sl Mk, out.l.length + 1 ≤ 5 * 2 ^ i ∧ look e 6 = some (.vsl out.nil (encs out.l) out.l.length) ∧ look e 1 = some (.vsl b.nil (encs b.l) b.l.length) ∧ look e 7 = some (.int .i64 i) ∧ rmaxGo b.l (.of a.l) = rmaxGo (b.l.drop i) out) (fun i => b.l.length - i) 0 ?_ ?_
    · refine ⟨by simp, rfl, .of a.l, by simp; omega, ?_⟩
      simp
    rintro i e H ⟨hi, rfl, out, hlo, h6, h1', h7, hr⟩
    by_cases hlt : i < b.l.length
    · have hlt' : (i : Int) < (b.l.length : Int) := by omega
      have hw : IntKind.i64.wrap ((i : Int) + 1) = ((i + 1 : Nat) : Int) := by rw [wrap_i64] <;> omega
      have h16 : ∀ k, (16 ≤ 19 + k) = True := fun k => eq_true (by omega)
      have hpow : 2 ^ i ≤ 2 ^ 4 := Nat.pow_le_pow_right (by decide) (by omega)
      have hob : out.l.length < 4611686018427387904 := by
        have : out.l.length ≤ 80 := by omega
        exact Nat.lt_of_le_of_lt this (by decide)
      have hg := rget_ev out hob b.l[i].id
      have hs := rset_ev out hob b.l[i]
      have hsl := rsetL_len out.l b.l[i]
      have hp2 : 2 ^ (i + 1) = 2 * 2 ^ i := by rw [Nat.pow_succ, Nat.mul_comm]
      rw [List.drop_eq_getElem_cons hlt, rmaxGo] at hr
      cases hh : hasM out.l b.l[i].id with
      | true =>
        rw [hh] at hg hr
        by_cases hq : b.l[i].seq ≤ (getM out.l b.l[i].id).seq
        · simp only [hq, decide_true, Bool.and_self, if_true] at hr
          simp [h6, h1', h7, hlt', hlt, Sl.nn hlt, h16, hg, hq, hw]
          exact ⟨i + 1, by omega, by omega, out, by omega, ⟨rfl, rfl, rfl⟩, rfl, hr⟩
        · simp only [hq, decide_false, Bool.and_false, Bool.false_eq_true, if_false] at hr
          by_cases hc : rsetC out.l b.l[i] = 0
          · rw [hc] at hs hr
            simp [resS] at hs hr
            simp [h6, h1', h7, hlt', hlt, Sl.nn hlt, h16, hg, hq, hs, hw]
            exact ⟨i + 1, by omega, by omega, .of (rsetL out.l b.l[i]), by simp; omega, ⟨rfl, rfl, rfl⟩, rfl, hr⟩
          · rw [if_pos hc] at hr
            simp [h6, h1', h7, hlt', hlt, Sl.nn hlt, h16, hg, hq, hs, hc, hr, resS]
      | false =>
        rw [hh] at hg hr
        simp only [Bool.false_and, Bool.false_eq_true, if_false] at hr
        by_cases hc : rsetC out.l b.l[i] = 0
        · rw [hc] at hs hr
          simp [resS] at hs hr
          simp [h6, h1', h7, hlt', hlt, Sl.nn hlt, h16, hg, hs, hw]
          exact ⟨i + 1, by omega, by omega, .of (rsetL out.l b.l[i]), by simp; omega, ⟨rfl, rfl, rfl⟩, rfl, hr⟩
        · rw [if_pos hc] at hr
          simp [h6, h1', h7, hlt', hlt, Sl.nn hlt, h16, hg, hs, hc, hr, resS]
    · have hlt' : ¬ (i : Int) < (b.l.length : Int) := by omega
      have hd : b.l.drop i = [] := List.drop_eq_nil_of_le (by omega)
      rw [hd, rmaxGo] at hr
      simp [h6, h1', h7, hlt', hr, resS]
theorem low_ev (v : Nat) (hv : v < 18446744073709551616) : call cx 53 [.int .u64 v, .int .i64 8] [] = some (.vsl false (ofBytes (leB 8 v)) 8, []) := by
  refine call_run Try.func53 rfl ⟨rfl, rfl⟩ ?_
  simp [Try.f53]
  refine Run.loopThen (fun (i : Nat) e H => i ≤ 8 ∧ (∃ d, look e 5 = some d ∧ Buf d H (leB i v)) ∧ look e 0 = some (.int .u64 (v / 256 ^ i : Nat)) ∧ look e 1 = some (.int .i64 8) ∧ look e 6 = some (.int .i64 i)) (fun i => 8 - i) 0 ?_ ?_
  · simp [leB, Buf]
  rintro i e H ⟨hi, ⟨d, h5, hbuf⟩, h0, h1, h6⟩
  by_cases hlt : i < 8
  · have hlt' : (i : Int) < 8 := by omega
    have hw : IntKind.i64.wrap ((i : Int) + 1) = ((i + 1 : Nat) : Int) := by rw [wrap_i64] <;> omega
    have hsn := leB_snoc i v
    have hl : (leB i v).length ≤ 8 := by simp; omega
    have hq : v / 256 ^ i < 18446744073709551616 := Nat.lt_of_le_of_lt (Nat.div_le_self _ _) hv
    have hnx : v / 256 ^ (i + 1) = v / 256 ^ i / 256 := by rw [Nat.pow_succ, Nat.div_div_eq_div_mul]
    generalize v / 256 ^ i = x at *
    have ht1 : (x : Int).tmod 256 = ((x % 256 : Nat) : Int) := by
      rw [Int.tmod_eq_emod_of_nonneg (Int.natCast_nonneg _)]; rfl
    have ht2 : (x : Int).tdiv 256 = ((x / 256 : Nat) : Int) := by
      rw [Int.tdiv_eq_ediv_of_nonneg (Int.natCast_nonneg _)]; rfl
    have hx256 : x % 256 < 256 := Nat.mod_lt _ (by decide)
    have hw1 : IntKind.u8.wrap ((x % 256 : Nat) : Int) = ((UInt8.ofNat (x % 256)).toNat : Int) := by
      rw [UInt8.toNat_ofNat_of_lt' hx256]
      clear hv hq
      generalize x % 256 = y at *
      rw [wrap_u8]
      omega
    have hw2 : IntKind.u64.wrap ((x / 256 : Nat) : Int) = ((x / 256 : Nat) : Int) := by
      have : x / 256 < 18446744073709551616 := Nat.lt_of_le_of_lt (Nat.div_le_self _ _) hq
      clear hv hq
      generalize x / 256 = y at *
      rw [wrap_u64]
      omega
    generalize UInt8.ofNat (x % 256) = c at *
    clear hv hq
    generalize leB i v = l at *
    have hmx : l.length + 1 ≤ 140737488355328 := Nat.le_trans (Nat.add_le_add_right hl 1) (by decide)
    rcases hbuf with ⟨rfl, rfl, rfl⟩ | ⟨rfl, rfl⟩
    · simp [h5, h0, h1, h6, hlt', hw, ht1, ht2, hw1, hw2, maxBytes, -Int.natCast_emod, -Int.natCast_ediv]
      clear hmx
      exact ⟨i + 1, by omega, by omega, .inr (by simp [hsn, ofBytes]), by rw [hnx], rfl⟩
    · simp [h5, h0, h1, h6, hlt', hw, ht1, ht2, hw1, hw2, maxBytes, hmx, -Int.natCast_emod, -Int.natCast_ediv]
      clear hmx
      exact ⟨i + 1, by omega, by omega, .inr (by simp [hsn, ofBytes]), by rw [hnx], rfl⟩
  · have hlt' : ¬ (i : Int) < 8 := by omega
    have h8 : i = 8 := by omega
    subst h8
    have hl : (leB 8 v).length = 8 := leB_len 8 v
    generalize leB 8 v = l at *
    rcases hbuf with ⟨rfl, rfl, rfl⟩ | ⟨rfl, rfl⟩
    · simp at hl
    · simp [h5, h0, h1, h6, hl, List.take_of_length_le]
/-- Numbers, eight bytes each. -/
def numsB (l : List Nat) : List UInt8 := l.flatMap (leB 8)
theorem nums3_ev (a b c : Nat) (ha : a < 18446744073709551616) (hb : b < 18446744073709551616) (hc : c < 18446744073709551616) :
    call cx 44 [.vsl false [.int .u64 a, .int .u64 b, .int .u64 c] 3] [] = some (.vsl false (ofBytes (leB 8 a ++ (leB 8 b ++ leB 8 c))) 24, []) := by
  have h1 := low_ev a ha
  have h2 := low_ev b hb
  have h3 := low_ev c hc
  clear ha hb hc
  refine call_run Try.func44 rfl ⟨rfl, rfl⟩ ?_
  simp [Try.f44]
  iterate 4
    refine run_unroll ?_
    simp [h1, h2, h3, List.take_of_length_le, maxBytes]
  simp [ofBytes_append]
end Go.Ev.S
/- Plain laws on marks: the program's and the document's set are one. -/
namespace Go.Ev.S
open Go Go.Proofs Go.Ev
theorem cmpB_self : ∀ (x : List UInt8), cmpB x x = 0
  | [] => rfl
  | a :: x => by simp [cmpB, cmpB_self x]
theorem cmpB_swap : ∀ (x y : List UInt8), cmpB y x = - cmpB x y
  | [], [] => rfl
  | [], _ :: _ => rfl
  | _ :: _, [] => rfl
  | a :: x, b :: y => by
    simp only [cmpB]
    by_cases h : a = b
    · subst h; simp [cmpB_swap x y]
    · have h' : ¬ b = a := fun e => h e.symm
      rw [if_neg h, if_neg h']
      by_cases hl : a < b
      · have : ¬ b < a := UInt8.not_lt.2 (UInt8.le_of_lt hl)
        rw [if_pos hl, if_neg this]; rfl
      · have : b < a := UInt8.lt_of_le_of_ne (UInt8.not_lt.1 hl) h'
        rw [if_neg hl, if_pos this]
theorem cmpB_eq : ∀ {x y : List UInt8}, cmpB x y = 0 → x = y
  | [], [], _ => rfl
  | [], _ :: _, h => by simp [cmpB] at h
  | _ :: _, [], h => by simp [cmpB] at h
  | a :: x, b :: y, h => by
    simp only [cmpB] at h
    by_cases e : a = b
    · rw [if_pos e] at h
      rw [e, cmpB_eq h]
    · rw [if_neg e] at h
      split at h <;> simp at h
theorem cmpB_rng : ∀ (x y : List UInt8), cmpB x y = -1 ∨ cmpB x y = 0 ∨ cmpB x y = 1
  | [], [] => by simp [cmpB]
  | [], _ :: _ => by simp [cmpB]
  | _ :: _, [] => by simp [cmpB]
  | a :: x, b :: y => by
    simp only [cmpB]
    split
    · exact cmpB_rng x y
    · split <;> simp
theorem cmpB_trans : ∀ {x y z : List UInt8}, cmpB x y < 0 → cmpB y z < 0 → cmpB x z < 0
  | [], [], _, h, _ => by simp [cmpB] at h
  | [], _ :: _, [], _, h => by simp [cmpB] at h
  | [], _ :: _, _ :: _, _, _ => by simp [cmpB]
  | _ :: _, [], _, h, _ => by simp [cmpB] at h
  | _ :: _, _ :: _, [], _, h => by simp [cmpB] at h
  | a :: x, b :: y, c :: z, h1, h2 => by
    simp only [cmpB] at h1 h2 ⊢
    by_cases e1 : a = b
    · subst e1
      rw [if_pos rfl] at h1
      by_cases e2 : a = c
      · subst e2
        rw [if_pos rfl] at h2 ⊢
        exact cmpB_trans h1 h2
      · rw [if_neg e2] at h2 ⊢
        exact h2
    · rw [if_neg e1] at h1
      have l1 : a < b := by
        by_cases l : a < b
        · exact l
        · rw [if_neg l] at h1; simp at h1
      by_cases e2 : b = c
      · subst e2
        rw [if_neg e1, if_pos l1]
        decide
      · rw [if_neg e2] at h2
        have l2 : b < c := by
          by_cases l : b < c
          · exact l
          · rw [if_neg l] at h2; simp at h2
        have l3 : a < c := UInt8.lt_trans l1 l2
        rw [if_neg (UInt8.ne_of_lt l3), if_pos l3]
        decide
theorem id_of_cmp {a b : ID} (h : cmpB a.l b.l = 0) : a = b := ID.ext' (cmpB_eq h)

/-- All of them are below a name. -/
def below (l : List Mk) (id : ID) : Prop := ∀ x ∈ l, cmpB x.id.l id.l < 0
theorem rises_cons {a : Mk} {l : List Mk} : risesM (a :: l) = true ↔ (∀ x ∈ l, cmpB a.id.l x.id.l < 0) ∧ risesM l = true := by
  induction l generalizing a with
  | nil => simp [risesM]
  | cons b l ih =>
    simp only [risesM, Bool.and_eq_true, decide_eq_true_eq, List.mem_cons, forall_eq_or_imp]
    constructor
    · rintro ⟨h1, h2⟩
      exact ⟨⟨h1, fun x hx => cmpB_trans h1 ((ih.1 h2).1 x hx)⟩, h2⟩
    · rintro ⟨⟨h1, _⟩, h2⟩
      exact ⟨h1, h2⟩
theorem rises_append {a b : List Mk} : risesM (a ++ b) = true ↔ risesM a = true ∧ risesM b = true ∧ ∀ x ∈ a, ∀ y ∈ b, cmpB x.id.l y.id.l < 0 := by
  induction a with
  | nil => simp [risesM]
  | cons x a ih =>
    rw [List.cons_append, rises_cons, rises_cons, ih]
    constructor
    · rintro ⟨h1, h2, h3, h4⟩
      refine ⟨⟨fun y hy => h1 y (List.mem_append_left _ hy), h2⟩, h3, fun y hy z hz => ?_⟩
      rcases List.mem_cons.1 hy with rfl | hy
      · exact h1 z (List.mem_append_right _ hz)
      · exact h4 y hy z hz
    · rintro ⟨⟨h1, h2⟩, h3, h4⟩
      refine ⟨fun y hy => ?_, h2, h3, fun y hy z hz => h4 y (List.mem_cons_of_mem _ hy) z hz⟩
      rcases List.mem_append.1 hy with h | h
      · exact h1 y h
      · exact h4 x (List.mem_cons_self ..) y h
/-- One in its place among marks that rise. -/
def insM (m : Mk) : List Mk → List Mk
  | [] => [m]
  | x :: l => if cmpB x.id.l m.id.l < 0 then x :: insM m l else m :: x :: l
theorem insM_len (m : Mk) : ∀ (l : List Mk), (insM m l).length = l.length + 1
  | [] => rfl
  | x :: l => by
    unfold insM
    split
    · simp [insM_len m l]
    · simp
theorem insM_mem (m : Mk) : ∀ (l : List Mk) (x : Mk), x ∈ insM m l ↔ x = m ∨ x ∈ l
  | [], x => by simp [insM]
  | y :: l, x => by
    unfold insM
    split
    · simp only [List.mem_cons, insM_mem m l]
      constructor
      · rintro (h | h | h)
        · exact .inr (.inl h)
        · exact .inl h
        · exact .inr (.inr h)
      · rintro (h | h | h)
        · exact .inr (.inl h)
        · exact .inl h
        · exact .inr (.inr h)
    · simp
theorem insM_below {m : Mk} : ∀ {l : List Mk}, below l m.id → insM m l = l ++ [m]
  | [], _ => rfl
  | x :: l, h => by
    rw [insM, if_pos (h x (List.mem_cons_self ..)), insM_below fun y hy => h y (List.mem_cons_of_mem _ hy)]
    rfl
theorem insM_snoc {m x : Mk} : ∀ {l : List Mk}, ¬ cmpB x.id.l m.id.l < 0 → insM m (l ++ [x]) = insM m l ++ [x]
  | [], h => by simp [insM, h]
  | y :: l, h => by
    simp only [List.cons_append, insM]
    split
    · rw [insM_snoc h]; rfl
    · rfl
theorem hasM_false {l : List Mk} {id : ID} : hasM l id = false ↔ ∀ x ∈ l, x.id ≠ id := by
  simp [hasM]
theorem getElem?_mid {α : Type} (a : List α) (x : α) (b : List α) : (a ++ x :: b)[a.length]? = some x := by
  rw [List.getElem?_append_right (Nat.le_refl _), Nat.sub_self]; rfl
theorem sink_ins (m : Mk) : ∀ (n : Nat) (l t : List Mk), l.length = n → risesM l = true → (∀ x ∈ l, x.id ≠ m.id) → sink n (l ++ m :: t) = insM m l ++ t
  | 0, l, t, hl, _, _ => by
    have : l = [] := List.eq_nil_of_length_eq_zero hl
    subst this
    rfl
  | n + 1, l, t, hl, hr, hne => by
    obtain ⟨l', x, rfl⟩ : ∃ l' x, l = l' ++ [x] := ⟨l.dropLast, l.getLast (by intro h; subst h; simp at hl), (List.dropLast_concat_getLast _).symm⟩
    have hl' : l'.length = n := by simpa using hl
    obtain ⟨r1, _, r2⟩ := rises_append.1 hr
    have hx := hne x (by simp)
    have e1 : (l' ++ [x] ++ m :: t)[n + 1]? = some m := by
      rw [show n + 1 = (l' ++ [x]).length by simp [hl']]
      exact getElem?_mid _ _ _
    have e2 : (l' ++ [x] ++ m :: t)[n]? = some x := by
      rw [List.append_assoc, ← hl']
      exact getElem?_mid l' x (m :: t)
    rw [sink, e1, e2]
    simp only
    by_cases hc : cmpB m.id.l x.id.l < 0
    · rw [if_pos hc]
      have hsw : swp (l' ++ [x] ++ m :: t) (n + 1) = l' ++ m :: (x :: t) := by
        unfold swp
        rw [e1, Nat.add_sub_cancel, e2]
        simp only
        subst hl'
        rw [List.append_assoc, List.singleton_append, List.set_append_right _ _ (Nat.le_succ _), show l'.length + 1 - l'.length = 1 by omega, List.set_append_right _ _ (Nat.le_refl _), Nat.sub_self]
        rfl
      have hxm : ¬ cmpB x.id.l m.id.l < 0 := by rw [cmpB_swap]; omega
      rw [hsw, sink_ins m n l' (x :: t) hl' r1 (fun y hy => hne y (List.mem_append_left _ hy)), insM_snoc hxm]
      simp
    · rw [if_neg hc]
      have hxm : cmpB x.id.l m.id.l < 0 := by
        rcases cmpB_rng x.id.l m.id.l with h | h | h
        · omega
        · exact absurd (id_of_cmp h) hx
        · rw [cmpB_swap] at hc; omega
      have hb : below (l' ++ [x]) m.id := by
        intro y hy
        rcases List.mem_append.1 hy with h | h
        · exact cmpB_trans (r2 y h x (by simp)) hxm
        · rw [List.mem_singleton.1 h]; exact hxm
      rw [insM_below hb]
      simp
theorem sink_stay {l : List Mk} {t : List Mk} (hr : risesM l = true) {i : Nat} (hi : i < l.length) : sink i (l ++ t) = l ++ t := by
  cases i with
  | zero => rfl
  | succ j =>
    have hj : j < l.length := by omega
    rw [sink, List.getElem?_append_left hi, List.getElem?_append_left hj, List.getElem?_eq_getElem hi, List.getElem?_eq_getElem hj]
    simp only
    rw [if_neg]
    have hlt : cmpB l[j].id.l l[j + 1].id.l < 0 := by
      have hsp : l = l.take (j + 1) ++ l.drop (j + 1) := (List.take_append_drop _ _).symm
      rw [hsp] at hr
      refine (rises_append.1 hr).2.2 _ ?_ _ ?_
      · rw [List.mem_take_iff_getElem]
        exact ⟨j, by omega, rfl⟩
      · rw [List.drop_eq_getElem_cons hi]
        exact List.mem_cons_self ..
    rw [cmpB_swap]
    omega
theorem insFrom_stay {l : List Mk} {m : Mk} (hr : risesM l = true) (hne : ∀ x ∈ l, x.id ≠ m.id) : ∀ (k i : Nat), k + i = l.length + 1 → 1 ≤ i → insFrom k i (l ++ [m]) = if k = 0 then l ++ [m] else insM m l
  | 0, i, _, _ => rfl
  | k + 1, i, h, hi => by
    rw [insFrom, if_neg (by omega)]
    rcases Nat.lt_or_ge i l.length with hlt | hge
    · rw [sink_stay hr hlt, insFrom_stay hr hne k (i + 1) (by omega) (by omega), if_neg (by omega)]
    · have : i = l.length := by omega
      have hk : k = 0 := by omega
      subst hk
      rw [insFrom, sink_ins m i l [] this.symm hr hne]
      simp
theorem find?_neg {l : List Mk} {id : ID} : find? (fun m => m.id == id) l 0 < 0 ↔ hasM l id = false := by
  rcases find?_spec (fun m => m.id == id) l 0 with ⟨i, m, h1, h2, h3, h4, h5⟩ | ⟨h1, h2⟩
  · rw [h4]
    constructor
    · intro h; omega
    · intro h
      have := hasM_false.1 h m (List.mem_of_getElem? h1)
      simp at h3
      exact absurd h3 this
  · rw [h1]
    constructor
    · intro _
      rw [hasM_false]
      intro x hx he
      have := List.find?_eq_none.1 h2 x hx
      simp [he] at this
    · intro _; decide
theorem putM_new {l : List Mk} {m : Mk} (hr : risesM l = true) (hh : hasM l m.id = false) : putM l m = insM m l := by
  unfold putM
  rw [if_pos (find?_neg.2 hh)]
  cases l with
  | nil => rfl
  | cons a l => rw [insFrom_stay hr (hasM_false.1 hh) _ 1 rfl (Nat.le_refl _), if_neg (by simp)]

theorem rsetGo_in (m : Mk) : ∀ (l : List Mk), (∀ x ∈ l, cmpB x.id.l m.id.l ≠ 0) → rsetGo m l true = (l, true)
  | [], _ => rfl
  | x :: l, h => by
    have ih := rsetGo_in m l fun y hy => h y (List.mem_cons_of_mem _ hy)
    have hx := h x (List.mem_cons_self ..)
    simp only [rsetGo, Bool.true_or, ih, Bool.not_true, Bool.false_and, Bool.false_eq_true, if_false, List.nil_append, ne_eq, hx, not_false_eq_true, if_true, List.singleton_append]
theorem above_ne {m : Mk} {x : Mk} {l : List Mk} (hr : risesM (x :: l) = true) (hx : 0 ≤ cmpB x.id.l m.id.l) : ∀ y ∈ l, cmpB y.id.l m.id.l ≠ 0 := by
  intro y hy h0
  have h1 := (rises_cons.1 hr).1 y hy
  have : y.id = m.id := id_of_cmp h0
  rw [this] at h1
  omega
theorem rsetL_new {m : Mk} : ∀ {l : List Mk}, risesM l = true → hasM l m.id = false → rsetL l m = insM m l
  | [], _, _ => rfl
  | x :: l, hr, hh => by
    have hx : cmpB x.id.l m.id.l ≠ 0 := fun h => hasM_false.1 hh x (List.mem_cons_self ..) (id_of_cmp h)
    have hh' : hasM l m.id = false := hasM_false.2 fun y hy => hasM_false.1 hh y (List.mem_cons_of_mem _ hy)
    by_cases hc : cmpB x.id.l m.id.l < 0
    · have hc' : ¬ 0 ≤ cmpB x.id.l m.id.l := by omega
      have ih := rsetL_new (rises_cons.1 hr).2 hh'
      rw [insM, if_pos hc, ← ih]
      simp [rsetL, rsetGo, hc', hx]
    · have hc' : 0 ≤ cmpB x.id.l m.id.l := by omega
      rw [insM, if_neg hc]
      have := rsetGo_in m l (above_ne hr hc')
      simp [rsetL, rsetGo, hc', hx, this]
/-- A mark that is there, in its place. -/
def repM (m : Mk) : List Mk → List Mk
  | [] => []
  | x :: l => if x.id == m.id then m :: l else x :: repM m l
theorem rsetL_rep {m : Mk} : ∀ {l : List Mk}, risesM l = true → hasM l m.id = true → rsetL l m = repM m l
  | [], _, h => by simp [hasM] at h
  | x :: l, hr, hh => by
    by_cases he : x.id = m.id
    · have h0 : cmpB x.id.l m.id.l = 0 := by rw [he]; exact cmpB_self _
      have := rsetGo_in m l (above_ne hr (by omega))
      have hs := cmpB_self m.id.l
      simp [rsetL, rsetGo, this, repM, he, hs]
    · have hx : cmpB x.id.l m.id.l ≠ 0 := fun h => he (id_of_cmp h)
      have hh' : hasM l m.id = true := by simpa [hasM, he] using hh
      have hc : cmpB x.id.l m.id.l < 0 := by
        obtain ⟨y, hy, hye⟩ : ∃ y ∈ l, y.id = m.id := by simpa [hasM] using hh'
        rw [← hye]
        exact (rises_cons.1 hr).1 y hy
      have hc' : ¬ 0 ≤ cmpB x.id.l m.id.l := by omega
      have ih := rsetL_rep (rises_cons.1 hr).2 hh'
      have hb : (x.id == m.id) = false := by simpa using he
      rw [repM, hb, ← ih]
      simp [rsetL, rsetGo, hc', hx]
theorem find?_set {m : Mk} : ∀ {l : List Mk} (k : Nat), hasM l m.id = true → ∃ i, find? (fun x => x.id == m.id) l k = ((k + i : Nat) : Int) ∧ i < l.length ∧ l.set i m = repM m l
  | [], _, h => by simp [hasM] at h
  | x :: l, k, h => by
    cases he : x.id == m.id with
    | true => exact ⟨0, by simp [find?, he], by simp, by simp [repM, he]⟩
    | false =>
      have h' : hasM l m.id = true := by simpa [hasM, he] using h
      obtain ⟨i, h1, h2, h3⟩ := find?_set (k + 1) h'
      refine ⟨i + 1, ?_, by simpa using h2, by simp [repM, he, h3]⟩
      simp only [find?, he, Bool.false_eq_true, if_false]
      have e : (k : Int) + 1 = ((k + 1 : Nat) : Int) := by omega
      rw [e, h1]
      omega
theorem putM_rep {l : List Mk} {m : Mk} (hh : hasM l m.id = true) : putM l m = repM m l := by
  obtain ⟨i, h1, h2, h3⟩ := find?_set 0 hh
  have h1' : find? (fun x => x.id == m.id) l 0 = (i : Int) := by simpa using h1
  unfold putM
  rw [h1', if_neg (by omega)]
  simpa using h3
/-- THE LAW: what is put is what the document sets. -/
theorem put_rset {l : List Mk} {m : Mk} (hr : risesM l = true) : putM l m = rsetL l m := by
  cases hh : hasM l m.id with
  | true => rw [putM_rep hh, rsetL_rep hr hh]
  | false => rw [putM_new hr hh, rsetL_new hr hh]
theorem may_rset (l : List Mk) (m : Mk) : mayM l m.id = rsetC l m := by
  unfold mayM rsetC
  cases hr : rightM l with
  | false => simp
  | true =>
    have h4 := rightM_le hr
    simp only [Bool.true_eq_false, if_false, if_true]
    cases hh : hasM l m.id with
    | true =>
      have : ¬ find? (fun x => x.id == m.id) l 0 < 0 := fun h => by rw [find?_neg.1 h] at hh; cases hh
      simp [this]
    | false =>
      have := find?_neg.2 hh
      by_cases h : l.length = 4
      · simp [this, h]
      · have h' : ¬ 4 ≤ l.length := by omega
        simp [h, h']
theorem rises_of_right {l : List Mk} (h : rightM l = true) : risesM l = true := by
  rw [rightM, Bool.and_eq_true] at h
  exact h.2
theorem right_of_may {l : List Mk} {id : ID} (h : mayM l id = 0) : rightM l = true := by
  unfold mayM at h
  cases hr : rightM l with
  | true => rfl
  | false => rw [hr] at h; simp at h
/-- Set: code and marks. -/
theorem set_law (l : List Mk) (m : Mk) : resS (mayM l m.id) (Sl.of (putM l m)) = resS (rsetC l m) (Sl.of (rsetL l m)) := by
  rw [may_rset]
  unfold resS
  by_cases h : rsetC l m = 0
  · rw [if_pos h, if_pos h]
    rw [← may_rset] at h
    rw [put_rset (rises_of_right (right_of_may h))]
  · rw [if_neg h, if_neg h]
theorem rsetC_id {l : List Mk} {m m' : Mk} (h : m.id = m'.id) : rsetC l m = rsetC l m' := by unfold rsetC; rw [h]
theorem stepM_id (m : Mk) (it : It) (o : Bool) : (stepM m it o).id = m.id := by unfold stepM; split <;> rfl
theorem rstepM_id (m : Mk) (it : It) (o : Bool) : (rstepM m it o).id = m.id := by unfold rstepM; split <;> rfl
theorem take_code (l : List Mk) (it : It) (o : Bool) : takeC l it = rtakeC l it o := by
  unfold takeC rtakeC
  have h := may_rset l (rstepM (getM l it.id) it o)
  rw [rstepM_id, getM_id] at h
  rw [h]
theorem rmoreM_eq {v n : Int} (hv : isU64 v) (hn : isU64 n) : rmoreM v n = if u64max - n < v then u64max else v + n := by
  unfold isU64 at hv hn
  have e : IntKind.u64.wrap (u64max - n) = u64max - n := by rw [wrap_u64]; unfold u64max; omega
  unfold rmoreM
  rw [e]
  split
  · rfl
  · rw [wrap_u64]
    unfold u64max at *
    omega
theorem step_law {m : Mk} {it : It} {o : Bool} (hm : m.Ok) (hi : it.Ok) (hg : goesM m it = true) : stepM m it o = rstepM m it o := by
  have h1 := hm.seq
  have h2 := hm.lost
  have h3 := hm.over
  have h4 := hi.fr
  have h5 := hi.to
  unfold stepM rstepM
  unfold goesM at hg
  cases hgap : it.gap with
  | true =>
    rw [hgap] at hg
    simp only [if_true, Bool.not_eq_true', Bool.or_eq_false_iff, decide_eq_false_iff_not] at hg ⊢
    unfold isU64 at h1 h2 h4 h5
    have w1 : IntKind.u64.wrap (it.to - it.fr) = it.to - it.fr := by rw [wrap_u64]; omega
    have w2 : IntKind.u64.wrap (it.to - it.fr + 1) = it.to - it.fr + 1 := by rw [wrap_u64]; omega
    have r1 : rmoreM (it.to - it.fr) 1 = it.to - it.fr + 1 := by
      rw [rmoreM_eq (by unfold isU64; omega) (by unfold isU64; omega), if_neg (by unfold u64max; omega)]
    rw [w1, w2, r1, moreM_eq (by unfold isU64; omega) (by unfold isU64; omega), rmoreM_eq (by unfold isU64; omega) (by unfold isU64; omega)]
    congr 1
    unfold u64max
    split <;> split <;> omega
  | false =>
    simp only [Bool.false_eq_true, if_false]
    cases o with
    | false => rfl
    | true =>
      simp only [if_true]
      rw [moreM_eq h3 (by unfold isU64; omega), rmoreM_eq h3 (by unfold isU64; omega)]
      congr 1
      unfold u64max
      split <;> split <;> omega
/-- Take: marks. -/
theorem take_law {l : List Mk} {it : It} (o : Bool) (hl : ∀ m ∈ l, m.Ok) (hi : it.Ok) (hc : takeC l it = 0) : takeL l it o = rtakeL l it o := by
  have hm0 : mayM l it.id = 0 ∧ goesM (getM l it.id) it = true := by
    unfold takeC at hc
    by_cases h : mayM l it.id = 0
    · refine ⟨h, ?_⟩
      rw [if_neg (by simpa using h)] at hc
      cases hg : goesM (getM l it.id) it with
      | true => rfl
      | false => rw [hg] at hc; simp at hc
    · rw [if_pos h] at hc
      exact absurd hc h
  unfold takeL rtakeL
  rw [step_law (getM_ok hl it.id) hi hm0.2, put_rset (rises_of_right (right_of_may hm0.1))]

theorem rises_ins {m : Mk} : ∀ {l : List Mk}, risesM l = true → hasM l m.id = false → risesM (insM m l) = true
  | [], _, _ => rfl
  | x :: l, hr, hh => by
    have hx : cmpB x.id.l m.id.l ≠ 0 := fun h => hasM_false.1 hh x (List.mem_cons_self ..) (id_of_cmp h)
    have hh' : hasM l m.id = false := hasM_false.2 fun y hy => hasM_false.1 hh y (List.mem_cons_of_mem _ hy)
    obtain ⟨r1, r2⟩ := rises_cons.1 hr
    unfold insM
    split
    · rename_i hc
      refine rises_cons.2 ⟨fun y hy => ?_, rises_ins r2 hh'⟩
      rcases (insM_mem m l y).1 hy with rfl | hy
      · exact hc
      · exact r1 y hy
    · rename_i hc
      have hmx : cmpB m.id.l x.id.l < 0 := by
        rw [cmpB_swap]
        rcases cmpB_rng x.id.l m.id.l with h | h | h <;> omega
      refine rises_cons.2 ⟨fun y hy => ?_, hr⟩
      rcases List.mem_cons.1 hy with rfl | hy
      · exact hmx
      · exact cmpB_trans hmx (r1 y hy)
theorem repM_mem {m : Mk} : ∀ {l : List Mk} {y : Mk}, y ∈ repM m l → y = m ∨ y ∈ l
  | [], y, h => by simp [repM] at h
  | x :: l, y, h => by
    unfold repM at h
    split at h
    · rcases List.mem_cons.1 h with h | h
      · exact .inl h
      · exact .inr (List.mem_cons_of_mem _ h)
    · rcases List.mem_cons.1 h with h | h
      · exact .inr (by rw [h]; exact List.mem_cons_self ..)
      · rcases repM_mem h with h | h
        · exact .inl h
        · exact .inr (List.mem_cons_of_mem _ h)
theorem rises_rep {m : Mk} : ∀ {l : List Mk}, risesM l = true → hasM l m.id = true → risesM (repM m l) = true
  | [], _, _ => rfl
  | x :: l, hr, hh => by
    obtain ⟨r1, r2⟩ := rises_cons.1 hr
    unfold repM
    split
    · rename_i he
      have he' : x.id = m.id := by simpa using he
      refine rises_cons.2 ⟨fun y hy => ?_, r2⟩
      rw [← he']
      exact r1 y hy
    · rename_i he
      have he' : ¬ x.id = m.id := by simpa using he
      have hh' : hasM l m.id = true := by simpa [hasM, he'] using hh
      refine rises_cons.2 ⟨fun y hy => ?_, rises_rep r2 hh'⟩
      rcases repM_mem hy with rfl | hy
      · obtain ⟨z, hz, hze⟩ : ∃ z ∈ l, z.id = y.id := by simpa [hasM] using hh'
        rw [← hze]
        exact r1 z hz
      · exact r1 y hy
theorem repM_len (m : Mk) : ∀ (l : List Mk), (repM m l).length = l.length
  | [] => rfl
  | x :: l => by
    unfold repM
    split
    · rfl
    · simp [repM_len m l]
theorem rises_put {l : List Mk} {m : Mk} (hr : risesM l = true) : risesM (putM l m) = true := by
  cases hh : hasM l m.id with
  | true => rw [putM_rep hh]; exact rises_rep hr hh
  | false => rw [putM_new hr hh]; exact rises_ins hr hh
theorem putM_length {l : List Mk} {m : Mk} (hr : risesM l = true) : (putM l m).length = if hasM l m.id then l.length else l.length + 1 := by
  cases hh : hasM l m.id with
  | true => rw [putM_rep hh, repM_len]; rfl
  | false => rw [putM_new hr hh, insM_len]; rfl
theorem maxStep_cond (s : Sl Mk) (m : Mk) : maxStep s m = if hasM s.l m.id && decide (m.seq ≤ (getM s.l m.id).seq) then s else .of (putM s.l m) := by
  unfold maxStep
  cases hh : hasM s.l m.id with
  | false => rw [if_pos (.inl (find?_neg.2 hh))]; simp
  | true =>
    have hf : ¬ find? (fun x => x.id == m.id) s.l 0 < 0 := fun h => by rw [find?_neg.1 h] at hh; cases hh
    by_cases hs : m.seq ≤ (getM s.l m.id).seq
    · have hs' : ¬ (getM s.l m.id).seq < m.seq := by omega
      rw [if_neg (by simp [hf, hs'])]
      simp [hs]
    · have hs' : (getM s.l m.id).seq < m.seq := by omega
      rw [if_pos (.inr hs')]
      simp [hs]
theorem rises_maxStep {s : Sl Mk} {m : Mk} (hr : risesM s.l = true) : risesM (maxStep s m).l = true ∧ s.l.length ≤ (maxStep s m).l.length := by
  rw [maxStep_cond]
  split
  · exact ⟨hr, Nat.le_refl _⟩
  · refine ⟨rises_put hr, ?_⟩
    simp only [Sl.of_l]
    rw [putM_length hr]
    split <;> omega
theorem max_grows : ∀ (b : List Mk) (s : Sl Mk), risesM s.l = true → s.l.length ≤ (b.foldl maxStep s).l.length
  | [], s, _ => Nat.le_refl _
  | m :: b, s, hr => by
    obtain ⟨h1, h2⟩ := rises_maxStep (m := m) hr
    exact Nat.le_trans h2 (max_grows b _ h1)
theorem max_go : ∀ (b : List Mk) (s t : Sl Mk), risesM s.l = true → s.l.length ≤ 4 → s.l = t.l →
    (rmaxGo b t).2 = (if 4 < (b.foldl maxStep s).l.length then 15 else 0) ∧ (¬ 4 < (b.foldl maxStep s).l.length → (rmaxGo b t).1.l = (b.foldl maxStep s).l)
  | [], s, t, _, h4, he => by
    have : ¬ 4 < s.l.length := by omega
    rw [List.foldl_nil, if_neg this, rmaxGo]
    exact ⟨rfl, fun _ => he.symm⟩
  | m :: b, s, t, hr, h4, he => by
    rw [rmaxGo, List.foldl_cons, maxStep_cond, ← he]
    by_cases hc : (hasM s.l m.id && decide (m.seq ≤ (getM s.l m.id).seq)) = true
    · rw [if_pos hc, if_pos hc]
      exact max_go b s t hr h4 he
    · rw [if_neg hc, if_neg hc]
      have hright : rightM s.l = true := by simp [rightM, hr, h4]
      by_cases hf : hasM s.l m.id = false ∧ 4 ≤ s.l.length
      · have hc15 : rsetC s.l m = 15 := by simp [rsetC, hright, hf.1, hf.2]
        have hlen : (putM s.l m).length = s.l.length + 1 := by rw [putM_length hr, hf.1]; rfl
        have hg := max_grows b (.of (putM s.l m)) (rises_put hr)
        simp only [Sl.of_l] at hg
        have : 4 < (b.foldl maxStep (.of (putM s.l m))).l.length := by omega
        rw [hc15, if_pos (by decide), if_pos this]
        exact ⟨rfl, fun h => absurd this h⟩
      · have hc0 : rsetC s.l m = 0 := by
          unfold rsetC
          rw [hright, if_pos rfl, if_neg]
          simp only [Bool.and_eq_true, Bool.not_eq_true', decide_eq_true_eq]
          exact hf
        rw [hc0, if_neg (by decide)]
        refine max_go b (.of (putM s.l m)) (.of (rsetL s.l m)) (rises_put hr) ?_ (put_rset hr)
        simp only [Sl.of_l]
        rw [putM_length hr]
        cases hh : hasM s.l m.id with
        | true => simpa using h4
        | false =>
          have : ¬ 4 ≤ s.l.length := fun h => hf ⟨hh, h⟩
          simp
          omega
theorem max_law (a b : Sl Mk) : maxC a b = rmaxC a b ∧ (resS (maxC a b) (maxS a b)).l = (resS (rmaxC a b) (rmaxGo b.l (.of a.l)).1).l := by
  unfold maxC rmaxC maxS
  cases ha : rightM a.l with
  | false => simp [resS]
  | true =>
    cases hb : rightM b.l with
    | false => simp [resS]
    | true =>
      obtain ⟨h1, h2⟩ := max_go b.l a (.of a.l) (rises_of_right ha) (rightM_le ha) rfl
      simp only [Bool.and_self, if_true, h1]
      refine ⟨trivial, ?_⟩
      unfold resS
      by_cases h : 4 < (b.l.foldl maxStep a).l.length
      · simp [h]
      · simp [h, h2 h]
end Go.Ev.S
/- Plain laws on the most of two rows of marks. -/
namespace Go.Ev.S
open Go Go.Proofs Go.Ev
def fnd (l : List Mk) (id : ID) : Option Mk := l.find? fun m => m.id == id
theorem getM_fnd (l : List Mk) (id : ID) : getM l id = (fnd l id).getD ⟨id, 0, 0, 0⟩ := rfl
theorem fnd_nil (id : ID) : fnd [] id = none := rfl
theorem fnd_cons (a : Mk) (l : List Mk) (id : ID) : fnd (a :: l) id = if a.id = id then some a else fnd l id := by
  unfold fnd
  rw [List.find?_cons]
  by_cases h : a.id = id
  · simp [h]
  · simp [h, beq_eq_false_iff_ne.2 h]
theorem hasM_fnd (l : List Mk) (id : ID) : hasM l id = (fnd l id).isSome := by
  unfold hasM fnd
  rw [Bool.eq_iff_iff, List.find?_isSome, List.any_eq_true]
theorem fnd_none {l : List Mk} {id : ID} : fnd l id = none ↔ ∀ x ∈ l, x.id ≠ id := by
  rw [← hasM_false, hasM_fnd]
  cases fnd l id <;> simp
theorem fnd_id {l : List Mk} {id : ID} {x : Mk} (h : fnd l id = some x) : x ∈ l ∧ x.id = id := by
  unfold fnd at h
  exact ⟨List.mem_of_find?_eq_some h, by simpa using List.find?_some h⟩
theorem cmp_ne {a b : ID} (h : cmpB a.l b.l < 0) : a ≠ b := by
  rintro rfl
  rw [cmpB_self] at h
  omega
theorem fnd_mem {l : List Mk} (hr : risesM l = true) {x : Mk} (hx : x ∈ l) : fnd l x.id = some x := by
  induction l with
  | nil => cases hx
  | cons a l ih =>
    obtain ⟨r1, r2⟩ := rises_cons.1 hr
    rw [fnd_cons]
    rcases List.mem_cons.1 hx with rfl | h
    · simp
    · rw [if_neg (cmp_ne (r1 x h)), ih r2 h]
theorem fnd_ins {m : Mk} : ∀ {l : List Mk}, (∀ x ∈ l, x.id ≠ m.id) → ∀ id, fnd (insM m l) id = if m.id = id then some m else fnd l id
  | [], _, id => by simp [insM, fnd_cons, fnd_nil]
  | x :: l, h, id => by
    unfold insM
    split
    · rw [fnd_cons, fnd_ins (fun y hy => h y (List.mem_cons_of_mem _ hy)), fnd_cons]
      by_cases hx : x.id = id
      · have : ¬ m.id = id := fun hm => h x (List.mem_cons_self ..) (by rw [hx, hm])
        simp [hx, this]
      · simp [hx]
    · rw [fnd_cons]
theorem fnd_rep {m : Mk} : ∀ {l : List Mk}, hasM l m.id = true → ∀ id, fnd (repM m l) id = if m.id = id then some m else fnd l id
  | [], h, _ => by simp [hasM] at h
  | x :: l, h, id => by
    unfold repM
    by_cases hx : x.id = m.id
    · rw [if_pos (by simpa using hx), fnd_cons, fnd_cons, hx]
      split <;> rfl
    · have h' : hasM l m.id = true := by simpa [hasM, hx] using h
      rw [if_neg (by simpa using hx), fnd_cons, fnd_rep h', fnd_cons]
      by_cases hi : x.id = id
      · have : ¬ m.id = id := fun hm => hx (by rw [hi, hm])
        simp [hi, this]
      · simp [hi]
theorem fnd_put {l : List Mk} {m : Mk} (hr : risesM l = true) (id : ID) : fnd (putM l m) id = if m.id = id then some m else fnd l id := by
  cases hh : hasM l m.id with
  | true => rw [putM_rep hh, fnd_rep hh]
  | false => rw [putM_new hr hh, fnd_ins (hasM_false.1 hh)]
def mx : Option Mk → Option Mk → Option Mk
  | none, o => o
  | some x, none => some x
  | some x, some y => if y.seq ≤ x.seq then some x else some y
theorem fnd_step {s : Sl Mk} {m : Mk} (hr : risesM s.l = true) (id : ID) : fnd (maxStep s m).l id = if m.id = id then mx (fnd s.l id) (some m) else fnd s.l id := by
  rw [maxStep_cond, hasM_fnd, getM_fnd]
  by_cases hi : m.id = id
  · subst hi
    rw [if_pos rfl]
    cases h : fnd s.l m.id with
    | none => simp [mx, fnd_put hr]
    | some x =>
      by_cases hx : m.seq ≤ x.seq
      · simp [mx, hx, h]
      · simp [mx, hx, fnd_put hr]
  · rw [if_neg hi]
    split
    · rfl
    · rw [Sl.of_l, fnd_put hr, if_neg hi]
theorem fnd_fold : ∀ (b : List Mk) (s : Sl Mk), risesM s.l = true → risesM b = true → (∀ id, fnd (b.foldl maxStep s).l id = mx (fnd s.l id) (fnd b id)) ∧ risesM (b.foldl maxStep s).l = true
  | [], s, hs, _ => ⟨fun id => by rw [List.foldl_nil, fnd_nil]; cases fnd s.l id <;> rfl, hs⟩
  | m :: b, s, hs, hb => by
    obtain ⟨r1, r2⟩ := rises_cons.1 hb
    obtain ⟨h1, h2⟩ := fnd_fold b (maxStep s m) (rises_maxStep hs).1 r2
    refine ⟨fun id => ?_, h2⟩
    rw [List.foldl_cons, h1, fnd_step hs, fnd_cons]
    by_cases hi : m.id = id
    · subst hi
      have : fnd b m.id = none := fnd_none.2 fun x hx => (cmp_ne (r1 x hx)).symm
      rw [if_pos rfl, if_pos rfl, this]
      cases mx (fnd s.l m.id) (some m) <;> rfl
    · rw [if_neg hi, if_neg hi]
theorem fold_same : ∀ (b : List Mk) (s : Sl Mk), (∀ m ∈ b, fnd s.l m.id = some m) → b.foldl maxStep s = s
  | [], _, _ => rfl
  | m :: b, s, h => by
    have hm := h m (List.mem_cons_self ..)
    have : maxStep s m = s := by rw [maxStep_cond, hasM_fnd, getM_fnd, hm]; simp
    rw [List.foldl_cons, this, fold_same b s fun x hx => h x (List.mem_cons_of_mem _ hx)]
theorem max_same {a : Sl Mk} (h : risesM a.l = true) : maxS a a = a := fold_same _ _ fun _ hm => fnd_mem h hm
theorem leM_of {a b : List Mk} (ha : risesM a = true) (h : ∀ id x, fnd a id = some x → ∃ y, fnd b id = some y ∧ x.seq ≤ y.seq) : leM a b = true := by
  unfold leM
  rw [List.all_eq_true]
  intro m hm
  obtain ⟨y, h1, h2⟩ := h m.id m (fnd_mem ha hm)
  rw [getM_fnd, h1]
  simpa using h2
end Go.Ev.S
/- MarksMax -/
namespace Go.Ev.S
open Go Go.Proofs Go.Ev
theorem idOf_lt {i j : Nat} (hi : i < 4) (hj : j < 4) (h : cmpB (idOf i).l (idOf j).l < 0) : i < j := by
  have tri : i < j ∨ i = j ∨ j < i := by omega
  rcases tri with h' | h' | h'
  · exact h'
  · rw [h', cmpB_self] at h; omega
  · have := id_lt h' hi
    rw [cmpB_swap] at this
    omega
theorem few_len : ∀ (l : List Mk) (k : Nat), k ≤ 4 → risesM l = true → (∀ m ∈ l, ∃ j, k ≤ j ∧ j < 4 ∧ m.id = idOf j) → l.length + k ≤ 4
  | [], k, hk, _, _ => by simpa using hk
  | a :: l, k, hk, hr, h => by
    obtain ⟨r1, r2⟩ := rises_cons.1 hr
    obtain ⟨j, h1, h2, h3⟩ := h a (List.mem_cons_self ..)
    have := few_len l (j + 1) (by omega) r2 fun m hm => by
      obtain ⟨j', _, h5, h6⟩ := h m (List.mem_cons_of_mem _ hm)
      have hc := r1 m hm
      rw [h3, h6] at hc
      exact ⟨j', idOf_lt h2 h5 hc, h5, h6⟩
    rw [List.length_cons]
    omega
theorem Few.right {s : List Mk} (h : Few 4 s) : rightM s = true := by
  rw [rightM, Bool.and_eq_true]
  exact ⟨by simpa using h.len, h.rises⟩
theorem mx_ss (x y : Mk) : mx (some x) (some y) = if y.seq ≤ x.seq then some x else some y := rfl
/-- What the most of two few rows is. -/
structure Most (a b M : List Mk) : Prop where
  rises : risesM M = true
  val : ∀ id, fnd M id = mx (fnd a id) (fnd b id)
  len : M.length ≤ 4
theorem most {a b : Sl Mk} (ha : Few 4 a.l) (hb : Few 4 b.l) : Most a.l b.l (maxS a b).l ∧ maxC a b = 0 := by
  obtain ⟨h1, h2⟩ := fnd_fold b.l a ha.rises hb.rises
  have hl : (maxS a b).l.length ≤ 4 := by
    refine few_len _ 0 (by omega) h2 fun m hm => ?_
    have h := fnd_mem h2 hm
    rw [h1] at h
    have : ∃ y, (y ∈ a.l ∨ y ∈ b.l) ∧ y.id = m.id := by
      cases hx : fnd a.l m.id with
      | some x => exact ⟨x, .inl (fnd_id hx).1, (fnd_id hx).2⟩
      | none =>
        rw [hx] at h
        exact ⟨m, .inr (fnd_id h).1, rfl⟩
    obtain ⟨y, hy | hy, hi⟩ := this
    · obtain ⟨j, q1, q2⟩ := ha.id y hy
      exact ⟨j, by omega, q1, by rw [← hi, q2]⟩
    · obtain ⟨j, q1, q2⟩ := hb.id y hy
      exact ⟨j, by omega, q1, by rw [← hi, q2]⟩
  refine ⟨⟨h2, h1, hl⟩, ?_⟩
  unfold maxC
  rw [ha.right, hb.right, if_pos (by rfl), if_neg (by omega)]
theorem Most.right {a b M : List Mk} (h : Most a b M) : rightM M = true := by
  rw [rightM, Bool.and_eq_true]
  exact ⟨by simpa using h.len, h.rises⟩
theorem Most.left {a b M : List Mk} (h : Most a b M) (ha : risesM a = true) : leM a M = true := by
  refine leM_of ha fun id x hx => ?_
  rw [h.val, hx]
  cases hy : fnd b id with
  | none => exact ⟨x, rfl, Int.le_refl _⟩
  | some y =>
    rw [mx_ss]
    split
    · exact ⟨x, rfl, Int.le_refl _⟩
    · exact ⟨y, rfl, by omega⟩
theorem Most.other {a b M : List Mk} (h : Most a b M) (hb : risesM b = true) : leM b M = true := by
  refine leM_of hb fun id y hy => ?_
  rw [h.val, hy]
  cases hx : fnd a id with
  | none => exact ⟨y, rfl, Int.le_refl _⟩
  | some x =>
    rw [mx_ss]
    split
    · exact ⟨x, rfl, by omega⟩
    · exact ⟨y, rfl, Int.le_refl _⟩
theorem Most.swap {a b M N : List Mk} (h : Most a b M) (h' : Most b a N) : leM M N = true := by
  refine leM_of h.rises fun id z hz => ?_
  rw [h.val] at hz
  rw [h'.val]
  cases hx : fnd a id with
  | none =>
    cases hy : fnd b id with
    | none => rw [hx, hy] at hz; cases hz
    | some y => rw [hx, hy] at hz; exact ⟨y, rfl, by cases hz; exact Int.le_refl _⟩
  | some x =>
    cases hy : fnd b id with
    | none => rw [hx, hy] at hz; exact ⟨x, rfl, by cases hz; exact Int.le_refl _⟩
    | some y =>
      rw [hx, hy] at hz
      rw [mx_ss] at hz ⊢
      by_cases h1 : y.seq ≤ x.seq
      · rw [if_pos h1] at hz
        cases hz
        split
        · exact ⟨y, rfl, by omega⟩
        · exact ⟨_, rfl, Int.le_refl _⟩
      · rw [if_neg h1] at hz
        cases hz
        exact ⟨_, if_pos (by omega), Int.le_refl _⟩
theorem Most.one {a b M : List Mk} (h : Most a b M) {m : Mk} (hm : m ∈ M) : m = getM a m.id ∨ m = getM b m.id := by
  have := fnd_mem h.rises hm
  rw [h.val] at this
  rw [getM_fnd, getM_fnd]
  cases hx : fnd a m.id with
  | none => rw [hx] at this; right; rw [show fnd b m.id = some m from this]; rfl
  | some x =>
    cases hy : fnd b m.id with
    | none => rw [hx, hy] at this; left; cases this; rfl
    | some y =>
      rw [hx, hy] at this
      rw [mx_ss] at this
      split at this
      · left; cases this; rfl
      · right; cases this; rfl
theorem le_self {a : List Mk} (h : risesM a = true) : leM a a = true := leM_of h fun _ x hx => ⟨x, hx, Int.le_refl _⟩
end Go.Ev.S
/- MarksMax: the walk -/
namespace Go.Ev.S
open Go Go.Proofs Go.Ev
theorem first_ev1 : call cx 7 [] [] = some (.bool true, []) := call_some.2 ⟨400, by kernel_rfl⟩
theorem beq_of' (l : List Mk) : (l == l) = true := by simp
set_option maxRecDepth 8000 in
set_option maxHeartbeats 4000000 in
theorem lawmax_ev (n0 n1 : Bool) (z0 z1 : List Int) (h0 : n0 = true → z0 = []) (h1 : n1 = true → z1 = []) :
    call cx 4 [.vsl n0 (intsK .i64 z0) z0.length, .vsl n1 (intsK .i64 z1) z1.length] [] = some (.bool true, []) := by
  have hf := first_ev1
  refine call_run Try.func4 rfl ⟨rfl, rfl⟩ ?_
  obtain ⟨a, k0, fa, he0⟩ := some_ev n0 z0 h0 [some (seqD n0 z0 0)] 0 (by simp) (by simp [seqD, -List.all_eq_true]) rfl
  obtain ⟨b, k1, fb, he1⟩ := some_ev n1 z1 h1 [some (seqD n0 z0 k0), some (seqD n1 z1 0)] 1 (by simp) (by simp [seqD, -List.all_eq_true]) rfl
  have hs0 : List.set [some (seqD n0 z0 0)] 0 (some (seqD n0 z0 k0)) = [some (seqD n0 z0 k0)] := rfl
  have hs1 : List.set [some (seqD n0 z0 k0), some (seqD n1 z1 0)] 1 (some (seqD n1 z1 k1)) = [some (seqD n0 z0 k0), some (seqD n1 z1 k1)] := rfl
  rw [hs0] at he0
  rw [hs1] at he1
  unfold seqD at he0 he1
  have la : a.l.length < 4611686018427387904 := Nat.lt_of_le_of_lt fa.len (by decide)
  have lb : b.l.length < 4611686018427387904 := Nat.lt_of_le_of_lt fb.len (by decide)
  obtain ⟨m1, c1⟩ := most fa fb
  obtain ⟨m2, c2⟩ := most fb fa
  obtain ⟨m3, c3⟩ := most fa fa
  have lm : (maxS a b).l.length < 4611686018427387904 := Nat.lt_of_le_of_lt m1.len (by decide)
  have ln : (maxS b a).l.length < 4611686018427387904 := Nat.lt_of_le_of_lt m2.len (by decide)
  have g1 := max_ev a b la lb
  have g2 := max_ev b a lb la
  have g3 := max_ev a a la la
  rw [c1, resS, if_pos rfl] at g1
  rw [c2, resS, if_pos rfl] at g2
  rw [c3, resS, if_pos rfl, show maxS a a = a from max_same fa.rises] at g3
  have g4 := le_ev a (maxS a b) la lm
  have g5 := le_ev b (maxS a b) lb lm
  have g6 := le_ev (maxS a b) (maxS b a) lm ln
  have g7 := le_ev (maxS b a) (maxS a b) ln lm
  have g8 := right_ev (maxS a b) lm
  have g9 := le_ev a a la la
  have g10 := same_ev a a la
  rw [m1.left fa.rises] at g4
  rw [m1.other fb.rises] at g5
  rw [m1.swap m2] at g6
  rw [m2.swap m1] at g7
  rw [m1.right] at g8
  rw [le_self fa.rises] at g9
  rw [beq_of' a.l] at g10
  have gA := fun id => get_ev a la id
  have gB := fun id => get_ev b lb id
  have hone := fun m (hm : m ∈ (maxS a b).l) => m1.one hm
  have hlen := m1.len
  clear la lb lm ln m1 m2 m3 c1 c2 c3 hs0 hs1
  generalize maxS a b = M at *
  generalize maxS b a = N at *
  simp at he0 he1
  simp [Try.f4, hf, he0, he1, g1, g2, g3, g4, g5, g6, g7, g8, g9, g10]
  generalize hZ : [some [D.vsl n0 (intsK IntKind.i64 z0) z0.length, D.int IntKind.i64 (k0 : Int)], some [D.vsl n1 (intsK IntKind.i64 z1) z1.length, D.int IntKind.i64 (k1 : Int)]] = Z
  refine Run.loopThen (fun (i : Nat) e H => i ≤ M.l.length ∧ H = Z ∧ look e 5 = some (.bool true) ∧ look e 6 = some (.vsl a.nil (encs a.l) a.l.length) ∧ look e 7 = some (.vsl b.nil (encs b.l) b.l.length) ∧ look e 8 = some (.vsl M.nil (encs M.l) M.l.length) ∧ look e 12 = some (.int .i64 i)) (fun i => M.l.length - i) 0 (by simp) ?_
  rintro i e H ⟨hi, rfl, q5, q6, q7, q8, q12⟩
  by_cases hlt : i < M.l.length
  · have hlt' : (i : Int) < (M.l.length : Int) := by omega
    have hw : IntKind.i64.wrap ((i : Int) + 1) = ((i + 1 : Nat) : Int) := by rw [wrap_i64] <;> omega
    have g11 := gA M.l[i].id
    have g12 := gB M.l[i].id
    have d1 := cellsEqMk M.l[i] (getM a.l M.l[i].id)
    have d2 := cellsEqMk M.l[i] (getM b.l M.l[i].id)
    have h16 : ∀ k, (16 ≤ 19 + k) = True := fun k => eq_true (by omega)
    have ho := hone M.l[i] (List.getElem_mem hlt)
    cases e1 : M.l[i] == getM a.l M.l[i].id with
    | true =>
      rw [e1] at d1
      simp [q5, q6, q7, q8, q12, hlt', hlt, Sl.nn hlt, hw, h16, g11, d1]
      exact ⟨i + 1, by omega, by omega, rfl⟩
    | false =>
      have e2 : (M.l[i] == getM b.l M.l[i].id) = true := by
        rcases ho with ho | ho
        · rw [beq_iff_eq.2 ho] at e1; cases e1
        · exact beq_iff_eq.2 ho
      rw [e1] at d1
      rw [e2] at d2
      simp [q5, q6, q7, q8, q12, hlt', hlt, Sl.nn hlt, hw, h16, g11, g12, d1, d2]
      exact ⟨i + 1, by omega, by omega, rfl⟩
  · have hlt' : ¬ (i : Int) < (M.l.length : Int) := by omega
    simp [q5, q6, q7, q8, q12, hlt', g3, g10]
end Go.Ev.S
/- Whatever plain data comes in: what it reads as. -/
namespace Go.Ev
open Go Go.Proofs
/-- Types of plain data, field behind field. -/
def plainF (P : Program) (g : TypeId → Bool) : List Field → Nat → Nat → Bool
  | [], off, size => off == size
  | f :: fs, off, size => f.offset == off && g f.type && plainF P g fs (off + P.cellsOf f.type) size
def PlainT (P : Program) : Nat → TypeId → Bool
  | 0, _ => false
  | n + 1, t => match P.underlying t with
    | some .bool => true
    | some (.int _) => true
    | some .string => true
    | some (.slice e) => PlainT P n e
    | some (.array m e) => PlainT P n e && P.cellsOf t == m * P.cellsOf e
    | some (.struct fs) => plainF P (PlainT P n) fs.toList 0 (P.cellsOf t)
    | _ => false
def HasFs (P : Program) (g : TypeId → List D → Prop) : List Field → List D → Prop
  | [], cs => cs = []
  | f :: fs, cs => ∃ a b, cs = a ++ b ∧ a.length = P.cellsOf f.type ∧ g f.type a ∧ HasFs P g fs b
/-- Cells of a value of a type. -/
def HasT (P : Program) : Nat → TypeId → List D → Prop
  | 0, _, _ => False
  | n + 1, t, cs => match P.underlying t with
    | some .bool => ∃ b, cs = [.bool b]
    | some (.int k) => ∃ x, cs = [.int k x] ∧ (Lit.int k x).wf = true
    | some .string => ∃ s, cs = [.str s] ∧ s.length ≤ maxLen
    | some (.slice e) => cs = [.vsl true [] 0] ∨ ∃ ls : List (List D), cs = [.vsl false ls.flatten ls.length] ∧ ls.length ≤ maxLen ∧ ∀ l, l ∈ ls → l.length = P.cellsOf e ∧ HasT P n e l
    | some (.array m e) => ∃ ls : List (List D), cs = ls.flatten ∧ ls.length = m ∧ ∀ l, l ∈ ls → l.length = P.cellsOf e ∧ HasT P n e l
    | some (.struct fs) => HasFs P (HasT P n) fs.toList cs
    | _ => False
attribute [irreducible] HasT

theorem cell_lt {W : World} {a : Addr} {v : Value} (h : W.cell? a = some v) : a.block < W.heap.size := by
  unfold World.cell? at h
  rcases Nat.lt_or_ge a.block W.heap.size with hlt | hge
  · exact hlt
  · have : W.heap[a.block]? = none := Array.getElem?_eq_none hge
    simp [this] at h
def Cor (W : World) (ds : List D) (vs : List Value) : Prop := ds.length = vs.length ∧ (∀ d, d ∈ ds → isCell d = true) ∧ ∀ (j : Nat) d, ds[j]? = some d → Rep (· < W.heap.size) W iota0 [] d (vs.getD j undef)

theorem cor_one {W : World} {d : D} {v : Value} (hc : isCell d = true) (h : Rep (· < W.heap.size) W iota0 [] d v) : Cor W [d] [v] := by
  refine ⟨rfl, fun x hx => by rw [List.mem_singleton.1 hx]; exact hc, fun j x hj => ?_⟩
  cases j with
  | zero => simp at hj; subst hj; exact h
  | succ j => simp at hj

theorem cor_append {W : World} {a b : List D} {us vs : List Value} (h1 : Cor W a us) (h2 : Cor W b vs) : Cor W (a ++ b) (us ++ vs) := by
  refine ⟨by simp [h1.1, h2.1], fun d hd => ?_, fun j d hj => ?_⟩
  · rcases List.mem_append.1 hd with h | h
    · exact h1.2.1 d h
    · exact h2.2.1 d h
  · by_cases hlt : j < a.length
    · rw [List.getElem?_append_left hlt] at hj
      have := h1.2.2 j d hj
      rw [List.getD_eq_getElem?_getD] at this ⊢
      rwa [List.getElem?_append_left (by rw [← h1.1]; exact hlt)]
    · rw [List.getElem?_append_right (by omega)] at hj
      have := h2.2.2 _ d hj
      rw [List.getD_eq_getElem?_getD] at this ⊢
      rw [List.getElem?_append_right (by rw [← h1.1]; omega), ← h1.1]
      exact this

section
variable {H : Type} {enc : TypeId × Value → H} {P : Program} {W : World}

/-- Cells that are cut out one behind the other. -/
theorem cut_rows {sz : Nat} {Q : List D → Prop} : ∀ (m off : Nat) (cs : List Value), cs.length = off + m * sz →
    (∀ i, i < m → ∃ ds, Q ds ∧ Cor W ds ((cs.drop (off + i * sz)).take sz)) → ∃ ls : List (List D), ls.length = m ∧ (∀ l, l ∈ ls → l.length = sz ∧ Q l) ∧ Cor W ls.flatten (cs.drop off)
  | 0, off, cs, hl, _ => ⟨[], rfl, by simp, by
      rw [List.drop_eq_nil_of_le (by omega)]
      exact ⟨rfl, by simp, by simp⟩⟩
  | m + 1, off, cs, hl, h => by
    have e1 : (m + 1) * sz = sz + m * sz := by rw [Nat.add_mul, Nat.one_mul, Nat.add_comm]
    rw [e1] at hl
    obtain ⟨ds, q1, q2⟩ := h 0 (by omega)
    rw [Nat.zero_mul, Nat.add_zero] at q2
    obtain ⟨ls, l1, l2, l3⟩ := cut_rows (sz := sz) (Q := Q) m (off + sz) cs (by omega) (fun i hi => by
      have := h (i + 1) (by omega)
      rw [Nat.add_mul, Nat.one_mul] at this
      rw [show off + sz + i * sz = off + (i * sz + sz) by omega]
      exact this)
    have hds : ds.length = sz := by
      rw [q2.1, List.length_take, List.length_drop]
      omega
    refine ⟨ds :: ls, by simp [l1], fun l hl => ?_, ?_⟩
    · rcases List.mem_cons.1 hl with rfl | hl
      · exact ⟨hds, q1⟩
      · exact l2 l hl
    · rw [List.flatten_cons]
      have := cor_append q2 l3
      rw [← List.drop_drop, List.take_append_drop] at this
      exact this

theorem fs_has {g : TypeId → Bool} {Q : TypeId → List D → Prop} : ∀ (fs : List Field) (off : Nat) (cs : List Value), plainF P g fs off cs.length = true →
    (∀ f, f ∈ fs → g f.type = true → ∃ ds, Q f.type ds ∧ Cor W ds ((cs.drop f.offset).take (P.cellsOf f.type))) → ∃ ds, HasFs P Q fs ds ∧ Cor W ds (cs.drop off)
  | [], off, cs, hp, _ => by
    simp only [plainF, beq_iff_eq] at hp
    exact ⟨[], rfl, by rw [List.drop_eq_nil_of_le (by omega)]; exact ⟨rfl, by simp, by simp⟩⟩
  | f :: fs, off, cs, hp, h => by
    simp only [plainF, Bool.and_eq_true, beq_iff_eq] at hp
    obtain ⟨⟨h1, h2⟩, h3⟩ := hp
    obtain ⟨a, a1, a2⟩ := h f (List.mem_cons_self ..) h2
    obtain ⟨b, b1, b2⟩ := fs_has fs (off + P.cellsOf f.type) cs h3 fun f' hf => h f' (List.mem_cons_of_mem _ hf)
    rw [h1] at a2
    have hle : off + P.cellsOf f.type ≤ cs.length := plainF_le h3
    refine ⟨a ++ b, ⟨a, b, rfl, ?_, a1, b1⟩, ?_⟩
    · rw [a2.1, List.length_take, List.length_drop]
      omega
    · have := cor_append a2 b2
      rwa [← List.drop_drop, List.take_append_drop] at this
where plainF_le {g : TypeId → Bool} : ∀ {fs : List Field} {off n : Nat}, plainF P g fs off n = true → off ≤ n
  | [], off, n, h => by simp only [plainF, beq_iff_eq] at h; omega
  | f :: fs, off, n, h => by
    simp only [plainF, Bool.and_eq_true] at h
    have := plainF_le h.2
    omega

theorem trod_has : ∀ (n fuel : Nat) (t : TypeId) (cs : List Value) (x : DataW H × List MemPlace), PlainT P n t = true → DataW.trod enc P W 0 (fun _ => true) true fuel t cs = some x →
    ∃ ds, HasT P n t ds ∧ Cor W ds cs
  | 0, _, _, _, _, h, _ => by simp [PlainT] at h
  | n + 1, fuel, t, cs, x, hp, h => by
    have ih := trod_has n
    unfold PlainT at hp
    unfold HasT
    cases hu : P.underlying t with
    | none => rw [hu] at hp; simp at hp
    | some u =>
    rw [hu] at hp
    cases u with
    | bool =>
      obtain ⟨b, rfl, _⟩ := DataW.trod_bool hu h
      exact ⟨_, ⟨b, rfl⟩, cor_one rfl (.bool _)⟩
    | int k =>
      obtain ⟨b, rfl, _, hw⟩ := DataW.trod_int hu h
      exact ⟨_, ⟨b, rfl, hw⟩, cor_one rfl (.int _ _)⟩
    | string =>
      obtain ⟨s, rfl, _, hw⟩ := DataW.trod_string hu h
      refine ⟨_, ⟨s.data.toList, rfl, by simpa using hw⟩, cor_one rfl ?_⟩
      have := Rep.str (ok := (· < W.heap.size)) (w := W) (ι := iota0) (H := []) s.data.toList
      simpa using this
    | slice e =>
      simp only at hp ⊢
      rcases DataW.trod_slice hu h with ⟨rfl, _⟩ | ⟨a, len, cap, elems, rest, m, rfl, rfl, _, _, hlc, hcm, hel, hget, _⟩
      · exact ⟨_, .inl rfl, cor_one rfl .vnil⟩
      · have hrow : ∀ i, i < len → ∃ ds, HasT P n e ds ∧ ds.length = P.cellsOf e ∧ (∀ d, d ∈ ds → isCell d = true) ∧ ∀ (j : Nat) d, ds[j]? = some d → ∃ v, W.cell? (a.add (i * P.cellsOf e + j)) = some v ∧ Rep (· < W.heap.size) W iota0 [] d v := by
          intro i hi
          have hg := hget i hi
          rw [List.getElem?_eq_getElem (by omega)] at hg
          cases hcs : W.cells? 0 (a.add (i * P.cellsOf e)) (P.cellsOf e) with
          | none => rw [hcs] at hg; simp at hg
          | some cs =>
            rw [hcs, Option.bind_some] at hg
            obtain ⟨ds, d1, d2, d3, d4⟩ := ih m e cs _ hp hg
            obtain ⟨_, c2, c3⟩ := World.cells?_some hcs
            refine ⟨ds, d1, by rw [d2, c2], d3, fun j d hj => ?_⟩
            have hjl : j < cs.length := by rw [← d2]; exact (List.getElem?_eq_some_iff.1 hj).1
            refine ⟨cs[j], ?_, ?_⟩
            · rw [← Addr.add_add, c3 j (by omega), List.getElem?_eq_getElem hjl]
            · have := d4 j d hj
              rwa [List.getD_eq_getElem?_getD, List.getElem?_eq_getElem hjl, Option.getD_some] at this
        have hall : ∀ k, k ≤ len → ∃ ls : List (List D), ls.length = k ∧ (∀ l, l ∈ ls → l.length = P.cellsOf e ∧ HasT P n e l) ∧ (∀ d, d ∈ ls.flatten → isCell d = true) ∧ ls.flatten.length = k * P.cellsOf e ∧
            ∀ (j : Nat) d, ls.flatten[j]? = some d → ∃ v, W.cell? (a.add j) = some v ∧ Rep (· < W.heap.size) W iota0 [] d v := by
          intro k
          induction k with
          | zero => intro _; exact ⟨[], rfl, by simp, by simp, by simp, by simp⟩
          | succ k ihk =>
            intro hk
            obtain ⟨ls, l1, l2, l3, l4, l5⟩ := ihk (by omega)
            obtain ⟨ds, d1, d2, d3, d4⟩ := hrow k (by omega)
            refine ⟨ls ++ [ds], by simp [l1], fun l hl => ?_, ?_, ?_, ?_⟩
            · rcases List.mem_append.1 hl with h | h
              · exact l2 l h
              · rw [List.mem_singleton.1 h]; exact ⟨d2, d1⟩
            · intro d hd
              rw [List.flatten_append] at hd
              rcases List.mem_append.1 hd with h | h
              · exact l3 d h
              · exact d3 d (by simpa using h)
            · rw [List.flatten_append, List.length_append, l4, Nat.add_mul, Nat.one_mul]
              simp [d2]
            · intro j d hj
              rw [List.flatten_append] at hj
              by_cases hlt : j < ls.flatten.length
              · rw [List.getElem?_append_left hlt] at hj
                exact l5 j d hj
              · rw [List.getElem?_append_right (by omega)] at hj
                rw [l4] at hj hlt
                have hj' : ds[j - k * P.cellsOf e]? = some d := by simpa using hj
                obtain ⟨v, v1, v2⟩ := d4 _ d hj'
                refine ⟨v, ?_, v2⟩
                rw [← v1]
                congr 2
                omega
        obtain ⟨ls, l1, l2, l3, l4, l5⟩ := hall len (Nat.le_refl _)
        refine ⟨_, .inr ⟨ls, rfl, by rw [l1]; omega, l2⟩, cor_one rfl ?_⟩
        rw [l1]
        refine .vsl a (fun j => (W.cell? (a.add j)).getD undef) (fun d hd => ?_) l3 (fun j d hj => ?_) (fun j d hj => ?_) hlc
        · obtain ⟨j, hj⟩ := List.mem_iff_getElem?.1 hd
          obtain ⟨v, v1, _⟩ := l5 j d hj
          have := cell_lt v1
          rwa [add_block] at this
        · obtain ⟨v, v1, _⟩ := l5 j d hj
          rw [v1]; rfl
        · obtain ⟨v, v1, v2⟩ := l5 j d hj
          rw [v1]; exact v2
    | array m e =>
      simp only [Bool.and_eq_true, beq_iff_eq] at hp ⊢
      obtain ⟨xs, k, rfl, _, hl, hxl, hg⟩ := DataW.trod_array hu h
      have := cut_rows (W := W) (sz := P.cellsOf e) (Q := HasT P n e) m 0 cs (by rw [hl, hp.2]; omega) (fun i hi => by
        rw [Nat.zero_add]
        have hgi := hg i hi
        rw [List.getElem?_eq_getElem (by omega)] at hgi
        exact ih k e _ _ hp.1 hgi)
      obtain ⟨ls, l1, l2, l3⟩ := this
      exact ⟨ls.flatten, ⟨ls, rfl, l1, l2⟩, by simpa using l3⟩
    | struct fs =>
      simp only at hp ⊢
      obtain ⟨xs, k, rfl, _, hl, hxl, hg⟩ := DataW.trod_struct hu h
      rw [← hl] at hp
      obtain ⟨ds, d1, d2⟩ := fs_has (W := W) (Q := HasT P n) fs.toList 0 cs hp (fun f hf hgf => by
        obtain ⟨i, hi⟩ := List.mem_iff_getElem?.1 hf
        have hi' : fs[i]? = some f := by simpa using hi
        have hgi := hg i f hi'
        have hlt : i < xs.length := by rw [hxl]; exact (Array.getElem?_eq_some_iff.1 hi').1
        rw [List.getElem?_eq_getElem hlt] at hgi
        exact ih k f.type _ _ hgf hgi)
      exact ⟨ds, d1, by simpa using d2⟩
    | _ => simp at hp

/-- An argument of plain data: what it reads as. -/
theorem read_plain {n : Nat} {t : TypeId} {v : Value} {d : DataW H} {ps : List MemPlace} (hp : PlainT P n t = true) (h : DataW.Trod enc P W 0 (fun _ => true) true t v d ps) :
    ∃ ds, HasT P n t ds ∧ Cor W ds v.cells.toList := by
  obtain ⟨fuel, hf⟩ := h
  exact trod_has n fuel t _ _ hp hf
end
end Go.Ev
/- What arguments of plain data are, as data of one's own. -/
namespace Go.Ev
open Go Go.Proofs
section
variable {P : Program} {n : Nat} {t e : TypeId} {cs : List D}
theorem has_bool (hu : P.underlying t = some .bool) (h : HasT P (n + 1) t cs) : ∃ b, cs = [.bool b] := by
  unfold HasT at h; rw [hu] at h; exact h
theorem has_int {k : IntKind} (hu : P.underlying t = some (.int k)) (h : HasT P (n + 1) t cs) : ∃ x, cs = [.int k x] ∧ (Lit.int k x).wf = true := by
  unfold HasT at h; rw [hu] at h; exact h
theorem has_u64 (hu : P.underlying t = some (.int .u64)) (h : HasT P (n + 1) t cs) : ∃ x, cs = [.int .u64 x] ∧ isU64 x := by
  obtain ⟨x, h1, h2⟩ := has_int hu h
  refine ⟨x, h1, ?_⟩
  simp [Lit.wf, IntKind.min, IntKind.max, IntKind.signed, IntKind.bits] at h2
  unfold isU64
  omega
def isI64 (n : Int) : Prop := -9223372036854775808 ≤ n ∧ n < 9223372036854775808
theorem has_i64 (hu : P.underlying t = some (.int .i64)) (h : HasT P (n + 1) t cs) : ∃ x, cs = [.int .i64 x] ∧ isI64 x := by
  obtain ⟨x, h1, h2⟩ := has_int hu h
  refine ⟨x, h1, ?_⟩
  simp [Lit.wf, IntKind.min, IntKind.max, IntKind.signed, IntKind.bits] at h2
  unfold isI64
  omega
theorem has_u8 (hu : P.underlying t = some (.int .u8)) (h : HasT P (n + 1) t cs) : ∃ x : UInt8, cs = [.int .u8 x.toNat] := by
  obtain ⟨x, h1, h2⟩ := has_int hu h
  simp [Lit.wf, IntKind.min, IntKind.max, IntKind.signed, IntKind.bits] at h2
  refine ⟨UInt8.ofNat x.toNat, ?_⟩
  rw [h1, UInt8.toNat_ofNat_of_lt' (by simp; omega)]
  congr 2
  omega
theorem has_str (hu : P.underlying t = some .string) (h : HasT P (n + 1) t cs) : ∃ s, cs = [.str s] ∧ s.length ≤ maxLen := by
  unfold HasT at h; rw [hu] at h; exact h
theorem rows_bytes {e : TypeId} (hu : P.underlying e = some (.int .u8)) : ∀ (ls : List (List D)), (∀ l, l ∈ ls → l.length = P.cellsOf e ∧ HasT P (n + 1) e l) → ∃ s : List UInt8, ls.flatten = ofBytes s ∧ s.length = ls.length
  | [], _ => ⟨[], rfl, rfl⟩
  | l :: ls, h => by
    obtain ⟨x, hx⟩ := has_u8 hu (h l (List.mem_cons_self ..)).2
    obtain ⟨s, h1, h2⟩ := rows_bytes hu ls fun l' hl => h l' (List.mem_cons_of_mem _ hl)
    exact ⟨x :: s, by rw [List.flatten_cons, hx, h1]; rfl, by simp [h2]⟩
theorem has_id (hu : P.underlying t = some (.array 16 e)) (he : P.underlying e = some (.int .u8)) (h : HasT P (n + 2) t cs) : ∃ i : ID, cs = ofBytes i.l := by
  unfold HasT at h
  rw [hu] at h
  obtain ⟨ls, h1, h2, h3⟩ := h
  obtain ⟨s, s1, s2⟩ := rows_bytes he ls h3
  exact ⟨⟨s, by omega⟩, by rw [h1, s1]⟩
theorem has_bytes (hu : P.underlying t = some (.slice e)) (he : P.underlying e = some (.int .u8)) (h : HasT P (n + 2) t cs) : ∃ s : Sl UInt8, cs = [(.vsl s.nil (ofBytes s.l) s.l.length)] ∧ s.l.length ≤ maxLen := by
  unfold HasT at h
  rw [hu] at h
  rcases h with rfl | ⟨ls, h1, h2, h3⟩
  · exact ⟨.none, rfl, by simp⟩
  · obtain ⟨s, s1, s2⟩ := rows_bytes he ls h3
    exact ⟨.of s, by rw [h1, s1, ← s2]; rfl, by simp only [Sl.of_l]; omega⟩
theorem rows_enc {α : Type} [Enc α] {R : α → Prop} {Q : List D → Prop} (hel : ∀ l, Q l → ∃ a : α, l = Enc.cells a ∧ R a) : ∀ (ls : List (List D)), (∀ l, l ∈ ls → Q l) → ∃ s : List α, ls.flatten = encs s ∧ s.length = ls.length ∧ ∀ a, a ∈ s → R a
  | [], _ => ⟨[], rfl, rfl, by simp⟩
  | l :: ls, h => by
    obtain ⟨x, hx, hr⟩ := hel l (h l (List.mem_cons_self ..))
    obtain ⟨s, h1, h2, h3⟩ := rows_enc hel ls fun l' hl => h l' (List.mem_cons_of_mem _ hl)
    refine ⟨x :: s, by rw [List.flatten_cons, hx, h1, encs_cons], by simp [h2], fun a ha => ?_⟩
    rcases List.mem_cons.1 ha with rfl | ha
    · exact hr
    · exact h3 a ha
theorem has_slice {α : Type} [Enc α] {R : α → Prop} (hu : P.underlying t = some (.slice e)) (hel : ∀ l, HasT P n e l → ∃ a : α, l = Enc.cells a ∧ R a) (h : HasT P (n + 1) t cs) : ∃ s : Sl α, cs = [(.vsl s.nil (encs s.l) s.l.length)] ∧ s.l.length ≤ maxLen ∧ ∀ a, a ∈ s.l → R a := by
  unfold HasT at h
  rw [hu] at h
  rcases h with rfl | ⟨ls, h1, h2, h3⟩
  · exact ⟨.none, rfl, by simp, by simp⟩
  · obtain ⟨s, s1, s2, s3⟩ := rows_enc hel ls fun l hl => (h3 l hl).2
    exact ⟨.of s, by rw [h1, s1, ← s2]; rfl, by simp only [Sl.of_l]; omega, s3⟩
theorem has_struct {fs : Array Field} (hu : P.underlying t = some (.struct fs)) (h : HasT P (n + 1) t cs) : HasFs P (HasT P n) fs.toList cs := by
  unfold HasT at h; rw [hu] at h; exact h
end
/-- Cells back to a value. -/
theorem cor_val {W : World} {d : D} {v : Value} (h : Cor W [d] v.cells.toList) (ho : v.oneCell' = true) : Rep (· < W.heap.size) W iota0 [] d v := by
  have hv : v.cells.toList = [v] := by
    cases v <;> first | rfl | simp [Value.oneCell'] at ho
  rw [hv] at h
  exact h.2.2 0 d rfl
theorem cor_agg {W : World} {ds : List D} {vs : Array Value} (h : Cor W ds vs.toList) : Rep (· < W.heap.size) W iota0 [] (.agg ds) (.agg vs) := by
  refine .agg (by simpa using h.1.symm) h.2.1 fun j d hj => ?_
  have := h.2.2 j d hj
  simpa [List.getD_eq_getElem?_getD, Array.getD_eq_getD_getElem?] using this
end Go.Ev
namespace Go.Ev
open Go Go.Proofs
theorem one_slice {P : Program} {W : World} {base : Nat} {t e : TypeId} {v : Value} (hu : P.underlying t = some (.slice e)) (h : Value.okWide P W .any base t v) : v.oneCell' = true := by
  simp only [Value.okWide, hu, Cell.okWide] at h
  cases v <;> first | rfl | simp [Cell.ok, hu] at h
theorem one_bool {P : Program} {W : World} {base : Nat} {t : TypeId} {v : Value} (hu : P.underlying t = some .bool) (h : Value.okWide P W .any base t v) : v.oneCell' = true := by
  simp only [Value.okWide, hu, Cell.okWide] at h
  cases v <;> first | rfl | simp [Cell.ok, hu] at h
theorem one_int {P : Program} {W : World} {base : Nat} {t : TypeId} {k : IntKind} {v : Value} (hu : P.underlying t = some (.int k)) (h : Value.okWide P W .any base t v) : v.oneCell' = true := by
  simp only [Value.okWide, hu, Cell.okWide] at h
  cases v <;> first | rfl | simp [Cell.ok, hu] at h
theorem one_str {P : Program} {W : World} {base : Nat} {t : TypeId} {v : Value} (hu : P.underlying t = some .string) (h : Value.okWide P W .any base t v) : v.oneCell' = true := by
  simp only [Value.okWide, hu, Cell.okWide] at h
  cases v <;> first | rfl | simp [Cell.ok, hu] at h
theorem agg_struct {P : Program} {W : World} {base : Nat} {t : TypeId} {fs : Array Field} {v : Value} (hu : P.underlying t = some (.struct fs)) (h : Value.okWide P W .any base t v) : ∃ vs, v = .agg vs := by
  simp only [Value.okWide, hu] at h
  obtain ⟨cs, h, _⟩ := h
  exact ⟨cs, h⟩
theorem agg_array {P : Program} {W : World} {base : Nat} {t e : TypeId} {n : Nat} {v : Value} (hu : P.underlying t = some (.array n e)) (h : Value.okWide P W .any base t v) : ∃ vs, v = .agg vs := by
  simp only [Value.okWide, hu] at h
  obtain ⟨cs, h, _⟩ := h
  exact ⟨cs, h⟩
section
variable {H : Type} {enc : TypeId × Value → H} {P : Program} {W : World} {base n : Nat} {t e : TypeId} {v : Value} {d : DataW H} {ps : List MemPlace}
theorem arg_bytes (hu : P.underlying t = some (.slice e)) (he : P.underlying e = some (.int .u8)) (hp : PlainT P (n + 2) t = true) (hv : Value.okWide P W .any base t v) (h : DataW.Trod enc P W 0 (fun _ => true) true t v d ps) :
    ∃ s : Sl UInt8, Rep (· < W.heap.size) W iota0 [] (.vsl s.nil (ofBytes s.l) s.l.length) v ∧ s.l.length ≤ maxLen := by
  obtain ⟨ds, h1, h2⟩ := read_plain hp h
  obtain ⟨s, rfl, hl⟩ := has_bytes hu he h1
  exact ⟨s, cor_val h2 (one_slice hu hv), hl⟩
theorem arg_slice {α : Type} [Enc α] {R : α → Prop} (hu : P.underlying t = some (.slice e)) (hel : ∀ l, HasT P n e l → ∃ a : α, l = Enc.cells a ∧ R a) (hp : PlainT P (n + 1) t = true) (hv : Value.okWide P W .any base t v) (h : DataW.Trod enc P W 0 (fun _ => true) true t v d ps) :
    ∃ s : Sl α, Rep (· < W.heap.size) W iota0 [] (.vsl s.nil (encs s.l) s.l.length) v ∧ s.l.length ≤ maxLen ∧ ∀ a, a ∈ s.l → R a := by
  obtain ⟨ds, h1, h2⟩ := read_plain hp h
  obtain ⟨s, rfl, hl, hr⟩ := has_slice hu hel h1
  exact ⟨s, cor_val h2 (one_slice hu hv), hl, hr⟩
theorem arg_struct {α : Type} [Enc α] {R : α → Prop} {fs : Array Field} (hu : P.underlying t = some (.struct fs)) (hel : ∀ l, HasT P n t l → ∃ a : α, l = Enc.cells a ∧ R a) (hp : PlainT P n t = true) (hv : Value.okWide P W .any base t v) (h : DataW.Trod enc P W 0 (fun _ => true) true t v d ps) :
    ∃ a : α, Rep (· < W.heap.size) W iota0 [] (.agg (Enc.cells a)) v ∧ R a := by
  obtain ⟨ds, h1, h2⟩ := read_plain hp h
  obtain ⟨a, rfl, hr⟩ := hel ds h1
  obtain ⟨vs, rfl⟩ := agg_struct hu hv
  exact ⟨a, cor_agg h2, hr⟩
theorem arg_bool (hu : P.underlying t = some .bool) (hp : PlainT P (n + 1) t = true) (hv : Value.okWide P W .any base t v) (h : DataW.Trod enc P W 0 (fun _ => true) true t v d ps) : ∃ b, Rep (· < W.heap.size) W iota0 [] (.bool b) v := by
  obtain ⟨ds, h1, h2⟩ := read_plain hp h
  obtain ⟨b, rfl⟩ := has_bool hu h1
  exact ⟨b, cor_val h2 (one_bool hu hv)⟩
theorem arg_i64 (hu : P.underlying t = some (.int .i64)) (hp : PlainT P (n + 1) t = true) (hv : Value.okWide P W .any base t v) (h : DataW.Trod enc P W 0 (fun _ => true) true t v d ps) : ∃ b, Rep (· < W.heap.size) W iota0 [] (.int .i64 b) v ∧ isI64 b := by
  obtain ⟨ds, h1, h2⟩ := read_plain hp h
  obtain ⟨b, rfl, hb⟩ := has_i64 hu h1
  exact ⟨b, cor_val h2 (one_int hu hv), hb⟩
theorem arg_str (hu : P.underlying t = some .string) (hp : PlainT P (n + 1) t = true) (hv : Value.okWide P W .any base t v) (h : DataW.Trod enc P W 0 (fun _ => true) true t v d ps) : ∃ s, Rep (· < W.heap.size) W iota0 [] (.str s) v ∧ s.length ≤ maxLen := by
  obtain ⟨ds, h1, h2⟩ := read_plain hp h
  obtain ⟨b, rfl, hb⟩ := has_str hu h1
  exact ⟨b, cor_val h2 (one_str hu hv), hb⟩
end
theorem repL_nil' {ok : Nat → Prop} {w : World} {ι : Iota} {H : Heap} : RepL ok w ι H [] [] := ⟨rfl, by simp⟩
theorem repL_cons' {ok : Nat → Prop} {w : World} {ι : Iota} {H : Heap} {d : D} {v : Value} {ds : List D} {vs : List Value} (h : Rep ok w ι H d v) (hs : RepL ok w ι H ds vs) : RepL ok w ι H (d :: ds) (v :: vs) := by
  refine ⟨by simp [hs.1], fun j x hj => ?_⟩
  cases j with
  | zero => simp at hj; subst hj; exact h
  | succ j => exact hs.2 j x (by simpa using hj)
/-- Fields as they may come in. -/
def Rec.Fit (r : Rec) : Prop := r.fields.l.length ≤ maxLen ∧ ∀ p, p ∈ r.fields.l → p.name.length ≤ maxLen ∧ p.value.length ≤ maxLen
end Go.Ev
/- What arguments of this program's types are. -/
namespace Go.Ev.S
open Go Go.Proofs Go.Ev
theorem has_ID {n : Nat} {cs : List D} (h : HasT Try.prog (n + 2) 27 cs) : ∃ i : ID, cs = ofBytes i.l := has_id un27 un5 h
theorem has_Mk {n : Nat} {cs : List D} (h : HasT Try.prog (n + 2 + 1) 38 cs) : ∃ m : Mk, cs = Enc.cells m ∧ m.Ok := by
  have h := has_struct (P := Try.prog) (n := n + 2) (t := 38) Try.underlying38 h
  simp only [HasFs] at h
  obtain ⟨a, b, rfl, -, ha, c, d, rfl, -, hc, e, f, rfl, -, he, g, k, rfl, -, hg, rfl⟩ := h
  obtain ⟨id, rfl⟩ := has_ID ha
  obtain ⟨x1, rfl, w1⟩ := has_u64 un25 hc
  obtain ⟨x2, rfl, w2⟩ := has_u64 un25 he
  obtain ⟨x3, rfl, w3⟩ := has_u64 un25 hg
  exact ⟨⟨id, x1, x2, x3⟩, by simp [Mk.cells], ⟨w1, w2, w3⟩⟩
theorem has_Pr {n : Nat} {cs : List D} (h : HasT Try.prog (n + 1 + 1) 118 cs) : ∃ p : Pr, cs = Enc.cells p ∧ (p.name.length ≤ maxLen ∧ p.value.length ≤ maxLen) := by
  have h := has_struct (P := Try.prog) (n := n + 1) (t := 118) Try.underlying118 h
  simp only [HasFs] at h
  obtain ⟨a, b, rfl, -, ha, c, d, rfl, -, hc, rfl⟩ := h
  obtain ⟨x1, rfl, w1⟩ := has_str un9 ha
  obtain ⟨x2, rfl, w2⟩ := has_str un9 hc
  exact ⟨⟨x1, x2⟩, by simp [Pr.cells], w1, w2⟩
theorem has_Rec {n : Nat} {cs : List D} (h : HasT Try.prog (n + 3 + 1) 32 cs) : ∃ r : Rec, cs = Enc.cells r ∧ (r.Ok ∧ r.Fit) := by
  have h := has_struct (P := Try.prog) (n := n + 3) (t := 32) Try.underlying32 h
  simp only [HasFs] at h
  obtain ⟨a, b, rfl, -, ha, c, d, rfl, -, hc, e, f, rfl, -, he, g, k, rfl, -, hg, i, j, rfl, -, hi, rfl⟩ := h
  obtain ⟨x1, rfl, w1⟩ := has_u64 un25 ha
  obtain ⟨x2, rfl, w2⟩ := has_u64 un25 hc
  obtain ⟨x3, rfl, w3⟩ := has_u64 un25 he
  obtain ⟨id, rfl⟩ := has_ID hg
  obtain ⟨s, rfl, s1, s2⟩ := has_slice (α := Pr) un30 (fun l => has_Pr) hi
  exact ⟨⟨x1, x2, x3, id, s⟩, by simp [Rec.cells], ⟨w1, w2, w3⟩, s1, s2⟩
theorem has_It {n : Nat} {cs : List D} (h : HasT Try.prog (n + 4 + 1) 34 cs) : ∃ i : It, cs = Enc.cells i ∧ (i.Ok ∧ i.rc.Fit) := by
  have h := has_struct (P := Try.prog) (n := n + 4) (t := 34) Try.underlying34 h
  simp only [HasFs] at h
  obtain ⟨a, b, rfl, -, ha, c, d, rfl, -, hc, e, f, rfl, -, he, g, k, rfl, -, hg, i, j, rfl, -, hi, rfl⟩ := h
  obtain ⟨id, rfl⟩ := has_ID ha
  obtain ⟨gap, rfl⟩ := has_bool un4 hc
  obtain ⟨x1, rfl, w1⟩ := has_u64 un25 he
  obtain ⟨x2, rfl, w2⟩ := has_u64 un25 hg
  obtain ⟨r, rfl, r1, r2⟩ := has_Rec hi
  exact ⟨⟨id, gap, x1, x2, r⟩, by simp [It.cells, Rec.cells], ⟨w1, w2, r1⟩, r2⟩
end Go.Ev.S
