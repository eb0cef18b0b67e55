import Derived.Test.YtaponndjgdfkbaaM2
namespace Go.Ev.S1
open Go Go.Proofs Go.Ev

theorem clone_ev (l : List Mk) (hl : ∀ m ∈ l, m.Ok) (hn : l.length ≤ 12) (nil : Bool) (hnil : nil = true → l = []) :
    call cx 36 [.vsl nil (mks l) l.length] [] = if nil then some (.vsl true [] 0, []) else some (.osl 0 (l.length * 19) 0 l.length 19, [some (mks l)]) := by
  have hlen := mks_len hl
  have h40 : l.length * 40 ≤ 140737488355328 := by omega
  have hmx : l.length ≤ 140737488355328 := by omega
  cases nil with
  | true =>
    have hl0 := hnil rfl
    subst hl0
    rw [if_pos rfl]
    refine call_run Try.func36 rfl rfl ?_
    simp [Try.f36, mks]
  | false =>
    rw [if_neg (by decide)]
    refine call_run Try.func36 rfl rfl ?_
    simp [Try.f36, hlen, h40, hmx, maxBytes]

theorem insFrom_len : ∀ (k i : Nat) (l : List Mk), (insFrom k i l).length = l.length
  | 0, _, _ => rfl
  | k + 1, i, l => by rw [insFrom, insFrom_len k, sink_len]
theorem insFrom_ok : ∀ (k i : Nat) {l : List Mk}, (∀ m ∈ l, m.Ok) → ∀ m ∈ insFrom k i l, m.Ok
  | 0, _, _, h => h
  | k + 1, i, l, h => by rw [insFrom]; exact insFrom_ok k _ (sink_ok i h)

/-- Marks with one of them put. -/
def putM (l : List Mk) (m : Mk) : List Mk :=
  if find? (fun x => x.id == m.id) l 0 < 0 then insFrom l.length 1 (l ++ [m]) else l.set (find? (fun x => x.id == m.id) l 0).toNat m

theorem put_ev (l : List Mk) (hl : ∀ m ∈ l, m.Ok) (hn : l.length ≤ 11) (nil : Bool) (hnil : nil = true → l = []) (m : Mk) (hm : m.Ok) :
    call cx 33 [.vsl nil (mks l) l.length, .agg m.cells] [] = some (.osl 0 ((putM l m).length * 19) 0 (putM l m).length 19, [some (mks (putM l m))]) := by
  have hc := clone_ev l hl (by omega) nil hnil
  have hf := find_ev l hl (by omega)
  have hlen := mks_len hl
  have htl : (mks l).take (l.length * 19) = mks l := List.take_of_length_le (by omega)
  have htk : m.cells.take 16 = ofBytes m.id := by simp [Mk.cells, hm.len]
  cases nil with
  | true =>
    have hl0 := hnil rfl
    subst hl0
    have hf := hf true hnil m.id hm.len
    rw [if_pos rfl] at hc
    have hs := sort_ev 1 (by decide) [some m.cells, some m.cells, some m.cells] 2 (by simp [blkClosed]) [m] (by simpa using hm) rfl (by simp [hget, mks])
    simp [mks] at hc hf hs
    have hp : putM [] m = [m] := rfl
    refine call_run Try.func33 rfl rfl ?_
    simp [Try.f33, hc, hf, hm.len, htk, maxBytes, find?, hs, hp, insFrom, mks]
  | false =>
    have hf := hf false hnil m.id hm.len
    rw [if_neg (by decide)] at hc
    rcases find?_spec (fun x => x.id == m.id) l 0 with ⟨i, m', h1, h2, h3, h4, h5⟩ | ⟨h1, h2⟩
    · rw [h4] at hf
      have hp : putM l m = l.set i m := by
        unfold putM
        rw [h4, if_neg (by omega)]
        congr 1
        omega
      have h19 : i * 19 + 19 ≤ l.length * 19 := by omega
      refine call_run Try.func33 rfl rfl ?_
      simp [-setRange, Try.f33, hc, hf, hm.len, htk, htl, hlen, h2, h19, setRange_mks hl hm.len h2, hp]
    · rw [h1] at hf
      have hp : putM l m = insFrom l.length 1 (l ++ [m]) := by
        unfold putM
        rw [h1, if_pos (by decide)]
      have hs := sort_ev (l.length + 1) (by omega) [some m.cells, some (mks l ++ m.cells), some m.cells] 1 (by simp [blkClosed]) (l ++ [m]) (by
        intro x hx
        rcases List.mem_append.1 hx with h | h
        · exact hl x h
        · rw [List.mem_singleton.1 h]; exact hm) (by simp) (by simp [hget, mks_append]; simp [mks])
      have hsz : l.length * 19 + 19 = (l.length + 1) * 19 := by omega
      have h40 : (l.length + 1) * 40 ≤ 140737488355328 := by omega
      have hmx : l.length + 1 ≤ 140737488355328 := by omega
      have hil : (insFrom l.length 1 (l ++ [m])).length = l.length + 1 := by rw [insFrom_len]; simp
      simp at hs
      refine call_run Try.func33 rfl rfl ?_
      simp [Try.f33, hc, hf, hm.len, htk, htl, hlen, maxBytes, h40, hmx, hsz, hs, hp, hil]

theorem putM_ok {l : List Mk} (hl : ∀ m ∈ l, m.Ok) {m : Mk} (hm : m.Ok) : ∀ x ∈ putM l m, x.Ok := by
  unfold putM
  split
  · refine insFrom_ok _ _ fun x hx => ?_
    rcases List.mem_append.1 hx with h | h
    · exact hl x h
    · rw [List.mem_singleton.1 h]; exact hm
  · intro x hx
    rcases List.mem_or_eq_of_mem_set hx with h | rfl
    · exact hl x h
    · exact hm

def u64max : Int := 18446744073709551615
def moreM (v n : Int) : Int := if u64max - v < n then u64max else v + n
theorem more_ev (v n : Int) (hv : 0 ≤ v ∧ v ≤ u64max) (hn : 0 ≤ n ∧ n ≤ u64max) : call cx 32 [.int .u64 v, .int .u64 n] [] = some (.int .u64 (moreM v n), []) := by
  unfold u64max at hv hn
  have hw : IntKind.u64.wrap (18446744073709551615 - v) = 18446744073709551615 - v := by rw [wrap_u64]; omega
  refine call_run Try.func32 rfl rfl ?_
  by_cases h : 18446744073709551615 - v < n
  · simp [Try.f32, hw, h, moreM, u64max]
  · have hw2 : IntKind.u64.wrap (v + n) = v + n := by rw [wrap_u64]; omega
    simp [Try.f32, hw, h, moreM, u64max, hw2]

/-- Marks that rise. -/
def risesM : List Mk → Bool
  | a :: b :: l => decide (cmpB a.id b.id < 0) && risesM (b :: l)
  | _ => true
def rightM (l : List Mk) : Bool := decide (l.length ≤ 4) && risesM l

noncomputable def L15 : Code := cAt [1, 1, 0, 1, 0, 0] (bodyOf Try.f15)
theorem loop15 (l : List Mk) (hl : ∀ m ∈ l, m.Ok) (hn : l.length < 9223372036854775807) (nil : Bool) (hnil : nil = true → l = []) (e : Env)
    (h0 : look e 0 = some (.vsl nil (mks l) l.length)) (h3 : look e 3 = some (.int .i64 1)) :
    Run cx 15 26 0 (fun ex e H => H = [] ∧ ((risesM l = true ∧ ex = .exit 0) ∨ (risesM l = false ∧ ex = .ret ∧ look e 2 = some (.bool false)))) [] (code cx 15 26 0 (.loop L15) e []) := by
  refine Run.loop (fun (i : Nat) e H => 1 ≤ i ∧ (i ≤ l.length ∨ i = 1) ∧ H = [] ∧ look e 0 = some (.vsl nil (mks l) l.length) ∧ look e 3 = some (.int .i64 i) ∧ risesM l = risesM (l.drop (i - 1))) (fun i => l.length - i) ?_ 1 e [] ⟨Nat.le_refl _, .inr rfl, rfl, h0, h3, rfl⟩
  clear h0 h3 e
  rintro i e H ⟨hi, hil, rfl, h0, h3, hr⟩
  simp only [L15, cAt, bodyOf, Try.f15, Option.getD]
  by_cases hlt : i < l.length
  · have hnf : nil = false := by
      cases nil with
      | false => rfl
      | true => rw [hnil rfl] at hlt; simp at hlt
    subst hnf
    obtain ⟨k, hk⟩ : ∃ k, k + 1 = i := ⟨i - 1, by omega⟩
    have hlt' : (i : Int) < (l.length : Int) := by omega
    have hkl : k < l.length := by omega
    have hkl' : (k : Int) < (l.length : Int) := by omega
    have hw : IntKind.i64.wrap ((i : Int) - 1) = (k : Int) := by rw [wrap_i64] <;> omega
    have hw2 : IntKind.i64.wrap ((i : Int) + 1) = ((i + 1 : Nat) : Int) := by rw [wrap_i64] <;> omega
    have hm := hl _ (List.getElem_mem hlt)
    have hm' := hl _ (List.getElem_mem hkl)
    have hc := compare_ev false false l[k].id l[i].id (by simp) (by simp)
    rw [hm.len, hm'.len] at hc
    have h16 : ∀ k, (16 ≤ 19 + k) = True := fun k => eq_true (by omega)
    have ht : ∀ (m : Mk) (r : List D), m.Ok → (m.cells ++ r).take 16 = ofBytes m.id := fun m r h => by simp [Mk.cells, h.len, List.take_append]
    have hr2 : risesM l = (decide (cmpB l[k].id l[i].id < 0) && risesM (l.drop i)) := by
      have e1 : i - 1 = k := by omega
      have e2 : l.drop k = l[k] :: l[i] :: l.drop (i + 1) := by
        rw [List.drop_eq_getElem_cons hkl]
        congr 1
        rw [hk, List.drop_eq_getElem_cons hlt]
      rw [hr, e1, e2, risesM, List.drop_eq_getElem_cons hlt]
    by_cases hcm : cmpB l[k].id l[i].id < 0
    · have hcm' : ¬ 0 ≤ cmpB l[k].id l[i].id := by omega
      rw [decide_eq_true hcm, Bool.true_and] at hr2
      simp [h0, h3, hlt', hw, hkl', h16, mks_at hl hlt, mks_at hl hkl, ht _ _ hm, ht _ _ hm', hm.len, hm'.len, hc, hcm', hw2]
      exact ⟨i + 1, by omega, by omega, .inl (by omega), rfl, by simpa using hr2⟩
    · have hcm' : 0 ≤ cmpB l[k].id l[i].id := by omega
      rw [decide_eq_false hcm, Bool.false_and] at hr2
      simp [h0, h3, hlt', hw, hkl', h16, mks_at hl hlt, mks_at hl hkl, ht _ _ hm, ht _ _ hm', hm.len, hm'.len, hc, hcm', hr2]
  · have hlt' : ¬ (i : Int) < (l.length : Int) := by omega
    have hr2 : risesM l = true := by
      rw [hr]
      have : (l.drop (i - 1)).length ≤ 1 := by rw [List.length_drop]; omega
      match l.drop (i - 1), this with
      | [], _ => rfl
      | [a], _ => rfl
    simp [h0, h3, hlt', hr2]

theorem right_ev (l : List Mk) (hl : ∀ m ∈ l, m.Ok) (hn : l.length < 9223372036854775807) (nil : Bool) (hnil : nil = true → l = []) :
    call cx 15 [.vsl nil (mks l) l.length] [] = some (.bool (rightM l), []) := by
  refine call_run Try.func15 rfl rfl ?_
  by_cases h4 : l.length ≤ 4
  · have h4' : ¬ (4 : Int) < (l.length : Int) := by omega
    simp [Try.f15, h4']
    have hr := loop15 l hl hn nil hnil
    simp only [L15, cAt, bodyOf, Try.f15, Option.getD] at hr
    refine Run.mono (hr _ ?_ ?_) ?_
    iterate 2 simp
    rintro ex e H ⟨rfl, ⟨h1, rfl⟩ | ⟨h1, rfl, h2⟩⟩
    · simp [rightM, h4, h1]
    · simp [rightM, h4, h1, h2]
  · have h4' : (4 : Int) < (l.length : Int) := by omega
    simp [Try.f15, h4', rightM, h4]
end Go.Ev.S1
