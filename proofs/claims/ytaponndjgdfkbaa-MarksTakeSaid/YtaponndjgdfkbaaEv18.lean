import Derived.Test.YtaponndjgdfkbaaEv17
/-
  The evaluator without fuel.
-/
namespace Go.Ev

section
variable {X : Cx}

def FLe (F G : CallF) : Prop := ∀ f args H r, F f args H = some r → G f args H = some r

theorem callV_mono {F G : CallF} (h : FLe F G) {f : Nat} {args : List D} {H : Heap} {r : D × Heap} (hc : callV X F f args H = some r) : callV X G f args H = some r := by
  unfold callV at hc ⊢
  split
  · rename_i hb
    rw [if_pos hb] at hc
    exact h _ _ _ _ hc
  · rename_i hb
    rw [if_neg hb] at hc
    split
    · rename_i ha
      rw [if_pos ha] at hc
      cases hF : F f args [] with
      | none => simp [hF] at hc
      | some q => rw [h _ _ _ _ hF]; rw [hF] at hc; exact hc
    · rename_i ha
      rw [if_neg ha] at hc
      cases hz : freezeArgs H args with
      | none => simp [hz] at hc
      | some args' =>
        simp only [hz] at hc ⊢
        cases hF : F f args' [] with
        | none => simp [hF] at hc
        | some q => rw [h _ _ _ _ hF]; rw [hF] at hc; exact hc

theorem callD_mono {F G : CallF} (h : FLe F G) {f : Nat} {args : List D} {H : Heap} {r : D × Heap} (hc : callD X F f args H = some r) : callD X G f args H = some r := by
  by_cases hp : (X.pureF f && !X.byRef f) = true
  · obtain ⟨h1, h2, h3, h4⟩ := callD_pure hp hc
    unfold callD
    rw [if_pos hp, if_pos h1, h _ _ _ _ h2]
    simp only [h3, if_true, ← h4]
  · unfold callD at hc ⊢
    rw [if_neg hp] at hc ⊢
    exact callV_mono h hc

theorem evOp_mono {F G : CallF} (h : FLe F G) {o : Op} {e : Env} {H : Heap} {r : D × Heap} (ho : evOp X F o e H = some r) : evOp X G o e H = some r := by
  cases o with
  | call c =>
    simp only [evOp] at ho ⊢
    cases hc : c.callee with
    | builtin b => cases ha : opds X e c.args.toList <;> simp only [hc, ha] at ho ⊢ <;> first | exact ho | cases ho
    | invoke r m => cases ha : opds X e c.args.toList <;> simp only [hc, ha] at ho ⊢ <;> cases ho
    | value g =>
      simp only [hc] at ho ⊢
      cases ha : opds X e c.args.toList with
      | none => simp [ha] at ho
      | some args =>
        simp only [ha] at ho ⊢
        split at ho
        · exact callD_mono h ho
        · cases ho
  | makeFunc g _ _ => cases g <;> exact ho
  | slice _ _ _ _ m => cases m <;> exact ho
  | _ => exact ho

theorem evOpW_mono {F G : CallF} (h : FLe F G) {drw : Bool} {o : Op} {e : Env} {H : Heap} {r : D × Heap} (ho : evOpW X F drw o e H = some r) : evOpW X G drw o e H = some r := by
  unfold evOpW at ho ⊢
  split at ho
  · exact ho
  · exact ho
  · exact evOp_mono h ho

theorem evOps_mono {F G : CallF} (h : FLe F G) {nt : Nat} {drw : Bool} {ops : Array Oper} : ∀ {l : List Oper} {e : Env} {H : Heap} {r : Env × Heap}, evOps X F nt drw ops l e H = some r → evOps X G nt drw ops l e H = some r
  | [], _, _, _, ho => ho
  | o :: l, e, H, r, ho => by
    simp only [evOps] at ho ⊢
    cases hd : dstOk nt o.dst <;> simp only [hd] at ho ⊢
    · cases ho
    · cases hg : guardQ ops e o.guard with
      | none => simp [hg] at ho
      | some b =>
        cases b <;> simp only [hg] at ho ⊢
        · exact evOps_mono h ho
        · cases hx : evOpW X F drw o.op e H with
          | none => simp [hx] at ho
          | some q =>
            rw [evOpW_mono h hx]
            rw [hx] at ho
            exact evOps_mono h ho

theorem ev_mono : ∀ n, FLe (evF X n) (evF X (n + 1)) ∧ ∀ f nt n0 c e H r, evC X n f nt n0 c e H = some r → evC X (n + 1) f nt n0 c e H = some r
  | 0 => ⟨fun f args H r h => by simp [evF] at h, fun f nt n0 c e H r h => by simp [evC] at h⟩
  | n + 1 => by
    obtain ⟨ihF, ihC⟩ := ev_mono n
    constructor
    · intro f args H r h
      simp only [evF] at h ⊢
      cases hf : X.P.funcs[f]? with
      | none => simp [hf] at h
      | some fn =>
        simp only [hf] at h ⊢
        cases hb : fn.body with
        | none => simp only [hb] at h ⊢; exact h
        | some c =>
          simp only [hb] at h ⊢
          cases hbad : X.bad f <;> simp only [hbad, Bool.false_eq_true, if_false, if_true] at h ⊢
          · cases hc : evC X n f fn.ntmps H.length c (argEnv 0 args) H with
            | none => simp [hc] at h
            | some q =>
              rw [ihC _ _ _ _ _ _ _ hc]
              rw [hc] at h
              exact h
          · cases h
    · intro f nt n0 c e H r h
      cases c with
      | region id ops draw =>
        rw [evC] at h ⊢
        cases hen : enter X f n0 id e H with
        | none => simp [hen] at h
        | some q =>
          obtain ⟨e1, H1⟩ := q
          simp only [hen] at h ⊢
          cases ho : evOps X (evF X n) nt draw ops ops.toList e1 H1 with
          | none => simp [ho] at h
          | some q =>
            rw [evOps_mono ihF ho]
            rw [ho] at h
            exact h
      | seq a b =>
        rw [evC] at h ⊢
        cases ha : evC X n f nt n0 a e H with
        | none => simp [ha] at h
        | some q =>
          obtain ⟨ex, e1, H1⟩ := q
          rw [ihC _ _ _ _ _ _ _ ha]
          rw [ha] at h
          cases ex with
          | normal => exact ihC _ _ _ _ _ _ _ h
          | exit i => exact h
          | ret => exact h
      | cond x a b =>
        rw [evC] at h ⊢
        split at h
        · exact ihC _ _ _ _ _ _ _ h
        · cases h
      | block id c =>
        rw [evC] at h ⊢
        cases ha : evC X n f nt n0 c e H with
        | none => simp [ha] at h
        | some q =>
          rw [ihC _ _ _ _ _ _ _ ha]
          rw [ha] at h
          exact h
      | scope c =>
        rw [evC] at h ⊢
        exact ihC _ _ _ _ _ _ _ h
      | loop c =>
        rw [evC] at h ⊢
        cases ha : evC X n f nt n0 c e H with
        | none => simp [ha] at h
        | some q =>
          obtain ⟨ex, e1, H1⟩ := q
          rw [ihC _ _ _ _ _ _ _ ha]
          rw [ha] at h
          cases ex with
          | normal => exact ihC _ _ _ _ _ _ _ h
          | exit i => exact h
          | ret => exact h
      | skip => exact h
      | label l => exact h
      | exit id => exact h
      | ret => exact h
      | goto l => simp [evC] at h
      | rangeFunc a b c d => simp [evC] at h
      | refuse w => simp [evC] at h

theorem evF_le {n m : Nat} (hnm : n ≤ m) : FLe (evF X n) (evF X m) := by
  induction m with
  | zero => have : n = 0 := by omega
            subst this; exact fun _ _ _ _ h => h
  | succ m ih =>
    by_cases h : n = m + 1
    · subst h; exact fun _ _ _ _ h => h
    · exact fun f args H r hr => (ev_mono m).1 _ _ _ _ (ih (by omega) f args H r hr)

theorem evC_le {n m : Nat} (hnm : n ≤ m) {f nt n0 : Nat} {c : Code} {e : Env} {H : Heap} {r : Ex × Env × Heap} (h : evC X n f nt n0 c e H = some r) : evC X m f nt n0 c e H = some r := by
  induction m with
  | zero => have : n = 0 := by omega
            subst this; exact h
  | succ m ih =>
    by_cases hn : n = m + 1
    · subst hn; exact h
    · exact (ev_mono m).2 _ _ _ _ _ _ _ (ih (by omega))

open Classical in
/-- The limit of a growing row of answers. -/
noncomputable def lim {α : Type} (g : Nat → Option α) : Option α := if h : ∃ r, ∃ n, g n = some r then some h.choose else none

theorem lim_some {α : Type} {g : Nat → Option α} (hm : ∀ n m r, n ≤ m → g n = some r → g m = some r) {r : α} : lim g = some r ↔ ∃ n, g n = some r := by
  unfold lim
  constructor
  · intro h
    split at h
    · rename_i hex
      injection h with h
      subst h
      exact hex.choose_spec
    · cases h
  · rintro ⟨n, hn⟩
    have hex : ∃ r, ∃ n, g n = some r := ⟨r, n, hn⟩
    rw [dif_pos hex]
    obtain ⟨k, hk⟩ := hex.choose_spec
    have h1 := hm n (max n k) _ (Nat.le_max_left _ _) hn
    have h2 := hm k (max n k) _ (Nat.le_max_right _ _) hk
    rw [h1] at h2
    injection h2 with h2
    rw [← h2]

/-- What a function gives. -/
noncomputable def call (X : Cx) : CallF := fun f args H => lim fun n => evF X n f args H
/-- What code comes to. -/
noncomputable def code (X : Cx) (f nt n0 : Nat) (c : Code) (e : Env) (H : Heap) : Option (Ex × Env × Heap) := lim fun n => evC X n f nt n0 c e H

theorem call_some {f : Nat} {args : List D} {H : Heap} {r : D × Heap} : call X f args H = some r ↔ ∃ n, evF X n f args H = some r := lim_some fun _ _ _ hnm h => evF_le hnm _ _ _ _ h
theorem code_some {f nt n0 : Nat} {c : Code} {e : Env} {H : Heap} {r : Ex × Env × Heap} : code X f nt n0 c e H = some r ↔ ∃ n, evC X n f nt n0 c e H = some r := lim_some fun _ _ _ hnm h => evC_le hnm h

theorem evF_call (n : Nat) : FLe (evF X n) (call X) := fun _ _ _ _ h => call_some.2 ⟨n, h⟩

theorem callV_cont {f : Nat} {args : List D} {H : Heap} {r : D × Heap} (hc : callV X (call X) f args H = some r) : ∃ n, callV X (evF X n) f args H = some r := by
  unfold callV at hc ⊢
  split at hc
  · rename_i hb
    obtain ⟨n, hn⟩ := call_some.1 hc
    exact ⟨n, by rw [if_pos hb]; exact hn⟩
  · rename_i hb
    split at hc
    · rename_i ha
      cases hF : call X f args [] with
      | none => simp [hF] at hc
      | some q =>
        obtain ⟨n, hn⟩ := call_some.1 hF
        exact ⟨n, by rw [if_neg hb, if_pos ha, hn]; rw [hF] at hc; exact hc⟩
    · rename_i ha
      cases hz : freezeArgs H args with
      | none => simp [hz] at hc
      | some args' =>
        simp only [hz] at hc
        cases hF : call X f args' [] with
        | none => simp [hF] at hc
        | some q =>
          obtain ⟨n, hn⟩ := call_some.1 hF
          exact ⟨n, by rw [if_neg hb, if_neg ha]; simp only [hn]; rw [hF] at hc; exact hc⟩

theorem callD_cont {f : Nat} {args : List D} {H : Heap} {r : D × Heap} (hc : callD X (call X) f args H = some r) : ∃ n, callD X (evF X n) f args H = some r := by
  by_cases hp : (X.pureF f && !X.byRef f) = true
  · obtain ⟨h1, h2, h3, h4⟩ := callD_pure hp hc
    obtain ⟨n, hn⟩ := call_some.1 h2
    refine ⟨n, ?_⟩
    unfold callD
    rw [if_pos hp, if_pos h1, hn]
    simp only [h3, if_true, ← h4]
  · unfold callD at hc
    rw [if_neg hp] at hc
    obtain ⟨n, hn⟩ := callV_cont hc
    exact ⟨n, by unfold callD; rw [if_neg hp]; exact hn⟩

theorem evOp_cont {o : Op} {e : Env} {H : Heap} {r : D × Heap} (ho : evOp X (call X) o e H = some r) : ∃ n, evOp X (evF X n) o e H = some r := by
  cases o with
  | call c =>
    simp only [evOp] at ho ⊢
    cases hc : c.callee with
    | builtin b => cases ha : opds X e c.args.toList <;> simp only [hc, ha] at ho ⊢ <;> first | exact ⟨0, ho⟩ | cases ho
    | invoke r m => cases ha : opds X e c.args.toList <;> simp only [hc, ha] at ho <;> cases ho
    | value g =>
      simp only [hc] at ho ⊢
      cases ha : opds X e c.args.toList with
      | none => simp [ha] at ho
      | some args =>
        simp only [ha] at ho ⊢
        split at ho
        · rename_i f caps hg
          obtain ⟨n, hn⟩ := callD_cont ho
          exact ⟨n, hn⟩
        · cases ho
  | makeFunc g _ _ => cases g <;> exact ⟨0, ho⟩
  | slice _ _ _ _ m => cases m <;> exact ⟨0, ho⟩
  | _ => exact ⟨0, ho⟩

theorem evOpW_cont {drw : Bool} {o : Op} {e : Env} {H : Heap} {r : D × Heap} (ho : evOpW X (call X) drw o e H = some r) : ∃ n, evOpW X (evF X n) drw o e H = some r := by
  unfold evOpW at ho ⊢
  split at ho
  · exact ⟨0, ho⟩
  · exact ⟨0, ho⟩
  · exact evOp_cont ho

theorem evOps_cont {nt : Nat} {drw : Bool} {ops : Array Oper} : ∀ {l : List Oper} {e : Env} {H : Heap} {r : Env × Heap}, evOps X (call X) nt drw ops l e H = some r → ∃ n, evOps X (evF X n) nt drw ops l e H = some r
  | [], _, _, _, ho => ⟨0, ho⟩
  | o :: l, e, H, r, ho => by
    simp only [evOps] at ho
    cases hd : dstOk nt o.dst <;> simp only [hd] at ho
    · cases ho
    · cases hg : guardQ ops e o.guard with
      | none => simp [hg] at ho
      | some b =>
        cases b <;> simp only [hg] at ho
        · obtain ⟨n, hn⟩ := evOps_cont ho
          exact ⟨n, by simp only [evOps, hd, hg]; exact hn⟩
        · cases hx : evOpW X (call X) drw o.op e H with
          | none => simp [hx] at ho
          | some q =>
            rw [hx] at ho
            obtain ⟨n, hn⟩ := evOpW_cont hx
            obtain ⟨m, hm⟩ := evOps_cont ho
            refine ⟨max n m, ?_⟩
            simp only [evOps, hd, hg]
            rw [evOpW_mono (evF_le (Nat.le_max_left n m)) hn]
            exact evOps_mono (evF_le (Nat.le_max_right n m)) hm

theorem evOps_lim {nt : Nat} {drw : Bool} {ops : Array Oper} {l : List Oper} {e : Env} {H : Heap} {r : Env × Heap} : evOps X (call X) nt drw ops l e H = some r ↔ ∃ n, evOps X (evF X n) nt drw ops l e H = some r :=
  ⟨evOps_cont, fun ⟨n, hn⟩ => evOps_mono (evF_call n) hn⟩

theorem opt_ext {α : Type} {x y : Option α} (h : ∀ r, x = some r ↔ y = some r) : x = y := by
  cases x with
  | none =>
    cases y with
    | none => rfl
    | some b => exact absurd ((h b).2 rfl) (by simp)
  | some a => exact ((h a).1 rfl).symm

section eqs
variable {f nt n0 : Nat} {e : Env} {H : Heap}

theorem code_skip : code X f nt n0 .skip e H = some (.normal, e, H) := code_some.2 ⟨1, rfl⟩
theorem code_label {l : Nat} : code X f nt n0 (.label l) e H = some (.normal, e, H) := code_some.2 ⟨1, rfl⟩
theorem code_exit {i : Nat} : code X f nt n0 (.exit i) e H = some (.exit i, e, H) := code_some.2 ⟨1, rfl⟩
theorem code_ret : code X f nt n0 .ret e H = some (.ret, e, H) := code_some.2 ⟨1, rfl⟩

theorem code_region {id : Nat} {ops : Array Oper} {draw : Bool} : code X f nt n0 (.region id ops draw) e H = match enter X f n0 id e H with
    | none => none
    | some (e, H) => (evOps X (call X) nt draw ops ops.toList e H).map fun (e, H) => (.normal, e, H) := by
  refine opt_ext fun r => ?_
  rw [code_some]
  cases hen : enter X f n0 id e H with
  | none =>
    simp only [reduceCtorEq, iff_false, not_exists]
    intro n h
    cases n <;> simp [evC, hen] at h
  | some q =>
    obtain ⟨e1, H1⟩ := q
    constructor
    · rintro ⟨n, hn⟩
      cases n with
      | zero => simp [evC] at hn
      | succ n =>
        simp only [evC, hen] at hn
        cases ho : evOps X (evF X n) nt draw ops ops.toList e1 H1 with
        | none => simp [ho] at hn
        | some q =>
          simp only [evOps_lim.2 ⟨n, ho⟩]
          rw [ho] at hn
          exact hn
    · intro h
      simp only at h
      cases ho : evOps X (call X) nt draw ops ops.toList e1 H1 with
      | none => simp [ho] at h
      | some q =>
        obtain ⟨n, hn⟩ := evOps_lim.1 ho
        refine ⟨n + 1, ?_⟩
        simp only [evC, hen, hn]
        rw [ho] at h
        exact h

theorem code_seq {a b : Code} : code X f nt n0 (.seq a b) e H = match code X f nt n0 a e H with
    | some (.normal, e, H) => code X f nt n0 b e H
    | r => r := by
  refine opt_ext fun r => ?_
  rw [code_some]
  constructor
  · rintro ⟨n, hn⟩
    cases n with
    | zero => simp [evC] at hn
    | succ n =>
      simp only [evC] at hn
      cases ha : evC X n f nt n0 a e H with
      | none => simp [ha] at hn
      | some q =>
        obtain ⟨ex, e1, H1⟩ := q
        rw [code_some.2 ⟨n, ha⟩]
        rw [ha] at hn
        cases ex with
        | normal => exact code_some.2 ⟨n, hn⟩
        | exit i => exact hn
        | ret => exact hn
  · intro h
    cases ha : code X f nt n0 a e H with
    | none => simp [ha] at h
    | some q =>
      obtain ⟨n, hn⟩ := code_some.1 ha
      obtain ⟨ex, e1, H1⟩ := q
      rw [ha] at h
      cases ex with
      | normal =>
        obtain ⟨m, hm⟩ := code_some.1 h
        refine ⟨max n m + 1, ?_⟩
        simp only [evC, evC_le (Nat.le_max_left n m) hn]
        exact evC_le (Nat.le_max_right n m) hm
      | exit i => exact ⟨n + 1, by simp only [evC, hn]; exact h⟩
      | ret => exact ⟨n + 1, by simp only [evC, hn]; exact h⟩

theorem code_cond {c : Operand} {a b : Code} : code X f nt n0 (.cond c a b) e H = match opd X e c with
    | some (.bool t) => code X f nt n0 (if t then a else b) e H
    | _ => none := by
  refine opt_ext fun r => ?_
  rw [code_some]
  constructor
  · rintro ⟨n, hn⟩
    cases n with
    | zero => simp [evC] at hn
    | succ n =>
      simp only [evC] at hn
      split at hn
      · rename_i hc
        rw [hc]
        exact code_some.2 ⟨n, hn⟩
      · cases hn
  · intro h
    split at h
    · rename_i t hc
      obtain ⟨n, hn⟩ := code_some.1 h
      exact ⟨n + 1, by simp only [evC, hc]; exact hn⟩
    · cases h

theorem code_block {id : Nat} {c : Code} : code X f nt n0 (.block id c) e H = match code X f nt n0 c e H with
    | some (.exit i, e, H) => if i = id then some (.normal, e, H) else some (.exit i, e, H)
    | r => r := by
  refine opt_ext fun r => ?_
  rw [code_some]
  constructor
  · rintro ⟨n, hn⟩
    cases n with
    | zero => simp [evC] at hn
    | succ n =>
      simp only [evC] at hn
      cases ha : evC X n f nt n0 c e H with
      | none => simp [ha] at hn
      | some q => rw [code_some.2 ⟨n, ha⟩]; rw [ha] at hn; exact hn
  · intro h
    cases ha : code X f nt n0 c e H with
    | none => simp [ha] at h
    | some q =>
      obtain ⟨n, hn⟩ := code_some.1 ha
      exact ⟨n + 1, by simp only [evC, hn]; rw [ha] at h; exact h⟩

theorem code_scope {c : Code} : code X f nt n0 (.scope c) e H = code X f nt n0 c e H := by
  refine opt_ext fun r => ?_
  rw [code_some, code_some]
  constructor
  · rintro ⟨n, hn⟩
    cases n with
    | zero => simp [evC] at hn
    | succ n => exact ⟨n, hn⟩
  · rintro ⟨n, hn⟩
    exact ⟨n + 1, hn⟩

theorem code_loop {c : Code} : code X f nt n0 (.loop c) e H = match code X f nt n0 c e H with
    | some (.normal, e, H) => code X f nt n0 (.loop c) e H
    | r => r := by
  refine opt_ext fun r => ?_
  rw [code_some]
  constructor
  · rintro ⟨n, hn⟩
    cases n with
    | zero => simp [evC] at hn
    | succ n =>
      rw [evC] at hn
      cases ha : evC X n f nt n0 c e H with
      | none => simp [ha] at hn
      | some q =>
        obtain ⟨ex, e1, H1⟩ := q
        rw [code_some.2 ⟨n, ha⟩]
        rw [ha] at hn
        cases ex with
        | normal => exact code_some.2 ⟨n, hn⟩
        | exit i => exact hn
        | ret => exact hn
  · intro h
    cases ha : code X f nt n0 c e H with
    | none => simp [ha] at h
    | some q =>
      obtain ⟨n, hn⟩ := code_some.1 ha
      obtain ⟨ex, e1, H1⟩ := q
      rw [ha] at h
      cases ex with
      | normal =>
        obtain ⟨m, hm⟩ := code_some.1 h
        refine ⟨max n m + 1, ?_⟩
        rw [evC]
        simp only [evC_le (Nat.le_max_left n m) hn]
        exact evC_le (Nat.le_max_right n m) hm
      | exit i => exact ⟨n + 1, by rw [evC]; simp only [hn]; exact h⟩
      | ret => exact ⟨n + 1, by rw [evC]; simp only [hn]; exact h⟩

theorem call_body {fn : Func} {c : Code} {args : List D} (hf : X.P.funcs[f]? = some fn) (hb : fn.body = some c) (hbad : X.bad f = false) :
    call X f args H = match code X f fn.ntmps H.length c (argEnv 0 args) H with
      | some (.normal, e, H') | some (.ret, e, H') => match resD X e H' fn.results.toList with
        | some ds => pack H.length H' (oneOrTup ds)
        | none => none
      | _ => none := by
  refine opt_ext fun r => ?_
  rw [call_some]
  constructor
  · rintro ⟨n, hn⟩
    cases n with
    | zero => simp [evF] at hn
    | succ n =>
      simp only [evF, hf, hb, hbad, Bool.false_eq_true, if_false] at hn
      cases hc : evC X n f fn.ntmps H.length c (argEnv 0 args) H with
      | none => simp [hc] at hn
      | some q => rw [code_some.2 ⟨n, hc⟩]; rw [hc] at hn; exact hn
  · intro h
    cases hc : code X f fn.ntmps H.length c (argEnv 0 args) H with
    | none => simp [hc] at h
    | some q =>
      obtain ⟨n, hn⟩ := code_some.1 hc
      refine ⟨n + 1, ?_⟩
      simp only [evF, hf, hb, hbad, Bool.false_eq_true, if_false, hn]
      rw [hc] at h
      exact h

theorem call_ext {fn : Func} {args : List D} (hf : X.P.funcs[f]? = some fn) (hb : fn.body = none) : call X f args H = (X.ext f args).map (·, H) := by
  refine opt_ext fun r => ?_
  rw [call_some]
  constructor
  · rintro ⟨n, hn⟩
    cases n with
    | zero => simp [evF] at hn
    | succ n =>
      simp only [evF, hf, hb] at hn
      exact hn
  · intro h
    exact ⟨1, by simp only [evF, hf, hb]; exact h⟩
end eqs

/-- THE EVALUATOR IS SOUND: what 'call' gives, the program's call gives. -/
theorem call_sound (hG : Good X) : SoundF X (call X) := by
  intro f args H r H' ok w ι vs h hs hv
  obtain ⟨n, hn⟩ := call_some.1 h
  exact (sound hG n).1 f args H r H' ok w ι vs hn hs hv
end
end Go.Ev
