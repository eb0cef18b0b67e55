import Derived.Test.YtaponndjgdfkbaaEv19
/- Going through code, part by part. -/
namespace Go.Ev
section
variable {X : Cx} {f nt n0 : Nat}

/-- What waits behind a part of code. -/
inductive Fr where
  | seq (b : Code)
  | block (id : Nat)

def Run (X : Cx) (f nt n0 : Nat) (Q : Ex → Env → Heap → Prop) : List Fr → Option (Ex × Env × Heap) → Prop
  | _, none => False
  | [], some (ex, e, H) => Q ex e H
  | .seq b :: fs, some (.normal, e, H) => Run X f nt n0 Q fs (code X f nt n0 b e H)
  | .seq _ :: fs, some (ex, e, H) => Run X f nt n0 Q fs (some (ex, e, H))
  | .block id :: fs, some (.exit i, e, H) => if i = id then Run X f nt n0 Q fs (some (.normal, e, H)) else Run X f nt n0 Q fs (some (.exit i, e, H))
  | .block _ :: fs, some (ex, e, H) => Run X f nt n0 Q fs (some (ex, e, H))

variable {Q : Ex → Env → Heap → Prop} {fs : List Fr} {e : Env} {H : Heap} {a b c : Code}

theorem run_none : Run X f nt n0 Q fs none = False := by unfold Run; rfl
theorem run_nil {ex : Ex} : Run X f nt n0 Q [] (some (ex, e, H)) = Q ex e H := by unfold Run; rfl
theorem run_seqn : Run X f nt n0 Q (.seq b :: fs) (some (.normal, e, H)) = Run X f nt n0 Q fs (code X f nt n0 b e H) := by rw [Run]
theorem run_seqe {i : Nat} : Run X f nt n0 Q (.seq b :: fs) (some (.exit i, e, H)) = Run X f nt n0 Q fs (some (.exit i, e, H)) := by rw [Run]; intro h; cases h
theorem run_seqr : Run X f nt n0 Q (.seq b :: fs) (some (.ret, e, H)) = Run X f nt n0 Q fs (some (.ret, e, H)) := by rw [Run]; intro h; cases h
theorem run_blockn {id : Nat} : Run X f nt n0 Q (.block id :: fs) (some (.normal, e, H)) = Run X f nt n0 Q fs (some (.normal, e, H)) := by rw [Run]; intro i h; cases h
theorem run_blockr {id : Nat} : Run X f nt n0 Q (.block id :: fs) (some (.ret, e, H)) = Run X f nt n0 Q fs (some (.ret, e, H)) := by rw [Run]; intro i h; cases h
theorem run_blocke {id i : Nat} : Run X f nt n0 Q (.block id :: fs) (some (.exit i, e, H)) = if i = id then Run X f nt n0 Q fs (some (.normal, e, H)) else Run X f nt n0 Q fs (some (.exit i, e, H)) := by rw [Run]
theorem run_seq : Run X f nt n0 Q fs (code X f nt n0 (.seq a b) e H) = Run X f nt n0 Q (.seq b :: fs) (code X f nt n0 a e H) := by
  rw [code_seq]
  cases h : code X f nt n0 a e H with
  | none => simp [run_none]
  | some q =>
    obtain ⟨ex, e1, H1⟩ := q
    cases ex with
    | normal => rw [run_seqn]
    | exit i => rw [run_seqe]
    | ret => rw [run_seqr]
theorem run_block {id : Nat} : Run X f nt n0 Q fs (code X f nt n0 (.block id c) e H) = Run X f nt n0 Q (.block id :: fs) (code X f nt n0 c e H) := by
  rw [code_block]
  cases h : code X f nt n0 c e H with
  | none => simp [run_none]
  | some q =>
    obtain ⟨ex, e1, H1⟩ := q
    cases ex with
    | normal => rw [run_blockn]
    | exit i => rw [run_blocke]; by_cases hi : i = id <;> simp [hi]
    | ret => rw [run_blockr]
theorem run_scope : Run X f nt n0 Q fs (code X f nt n0 (.scope c) e H) = Run X f nt n0 Q fs (code X f nt n0 c e H) := by rw [code_scope]

theorem Run.mono {o : Option (Ex × Env × Heap)} {R : Ex → Env → Heap → Prop} (h : Run X f nt n0 R [] o) (hq : ∀ ex e H, R ex e H → Run X f nt n0 Q fs (some (ex, e, H))) : Run X f nt n0 Q fs o := by
  cases o with
  | none => rw [run_none] at h; exact h.elim
  | some q =>
    obtain ⟨ex, e1, H1⟩ := q
    rw [run_nil] at h
    exact hq _ _ _ h

theorem Run.loop {σ : Type} (I : σ → Env → Heap → Prop) (m : σ → Nat)
    (step : ∀ s e H, I s e H → Run X f nt n0 (fun ex e' H' => match ex with | .normal => ∃ s', m s' < m s ∧ I s' e' H' | ex => Q ex e' H') [] (code X f nt n0 c e H)) :
    ∀ s e H, I s e H → Run X f nt n0 Q [] (code X f nt n0 (.loop c) e H) := by
  suffices h : ∀ k s e H, m s < k → I s e H → Run X f nt n0 Q [] (code X f nt n0 (.loop c) e H) from
    fun s e H hi => h (m s + 1) s e H (Nat.lt_succ_self _) hi
  intro k
  induction k with
  | zero => intro s e H h; omega
  | succ k ih =>
    intro s e H hk hi
    have hs := step s e H hi
    rw [code_loop]
    cases ho : code X f nt n0 c e H with
    | none => rw [ho, run_none] at hs; exact hs.elim
    | some q =>
      obtain ⟨ex, e1, H1⟩ := q
      rw [ho, run_nil] at hs
      cases ex with
      | normal =>
        obtain ⟨s', hlt, hi'⟩ := hs
        exact ih s' e1 H1 (by omega) hi'
      | exit i => exact hs
      | ret => exact hs

/-- What a function gives at its end. -/
def Fin (X : Cx) (rs : List ResultVar) (n0 : Nat) (r : D × Heap) : Ex → Env → Heap → Prop
  | .exit _, _, _ => False
  | _, e, H => (resD X e H rs).bind (fun ds => pack n0 H (oneOrTup ds)) = some r

theorem fin_ret {rs : List ResultVar} {r : D × Heap} : Fin X rs n0 r .ret e H = ((resD X e H rs).bind (fun ds => pack n0 H (oneOrTup ds)) = some r) := rfl
theorem fin_normal {rs : List ResultVar} {r : D × Heap} : Fin X rs n0 r .normal e H = ((resD X e H rs).bind (fun ds => pack n0 H (oneOrTup ds)) = some r) := rfl

theorem call_run {fn : Func} {args : List D} {r : D × Heap} (hf : X.P.funcs[f]? = some fn) (hb : fn.body.isSome = true) (hbad : X.bad f = false)
    (h : Run X f fn.ntmps H.length (Fin X fn.results.toList H.length r) [] (code X f fn.ntmps H.length (bodyOf fn) (argEnv 0 args) H)) : call X f args H = some r := by
  cases hbd : fn.body with
  | none => rw [hbd] at hb; cases hb
  | some c =>
    have hc : bodyOf fn = c := by simp only [bodyOf, hbd, Option.getD_some]
    rw [hc] at h
    rw [call_body hf hbd hbad]
    cases ho : code X f fn.ntmps H.length c (argEnv 0 args) H with
    | none => rw [ho, run_none] at h; exact h.elim
    | some q =>
      obtain ⟨ex, e1, H1⟩ := q
      rw [ho, run_nil] at h
      cases ex with
      | exit i => exact h.elim
      | normal =>
        rw [fin_normal] at h
        cases hr : resD X e1 H1 fn.results.toList with
        | none => rw [hr] at h; cases h
        | some ds => rw [hr] at h; simpa [hr] using h
      | ret =>
        rw [fin_ret] at h
        cases hr : resD X e1 H1 fn.results.toList with
        | none => rw [hr] at h; cases h
        | some ds => rw [hr] at h; simpa [hr] using h
end
attribute [simp] run_none run_nil run_seqn run_seqe run_seqr run_blockn run_blockr run_blocke run_seq run_block run_scope fin_ret fin_normal
end Go.Ev
