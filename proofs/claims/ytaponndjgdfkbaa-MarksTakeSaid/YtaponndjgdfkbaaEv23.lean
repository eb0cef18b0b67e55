import Derived.Test.YtaponndjgdfkbaaEv22
/- Regions, without what is not needed of them. -/
namespace Go.Ev
section
variable {X : Cx} {f nt n0 : Nat}

/-- An operation: its slot, itself, the slot that it hangs on. -/
structure SOp where
  dst : Option Tmp
  op : Op
  g : Option (Option Tmp × Bool)

def stripO (ops : Array Oper) (o : Oper) : SOp := ⟨o.dst, o.op, match o.guard with
  | none => none
  | some (j, want) => some ((ops[j]?).bind (·.dst), want)⟩
def strip (ops : Array Oper) : List Oper → List SOp
  | [] => []
  | o :: l => stripO ops o :: strip ops l

def guardS (e : Env) : Option (Option Tmp × Bool) → Option Bool
  | none => some true
  | some (none, _) => some false
  | some (some t, want) => match look e t with
    | some (.bool b) => some (b == want)
    | some (.tup []) => some false
    | _ => none

theorem guard_strip (ops : Array Oper) (e : Env) (g : Option (Nat × Bool)) : guardQ ops e g = guardS e (match g with
    | none => none
    | some (j, want) => some ((ops[j]?).bind (·.dst), want)) := by
  cases g with
  | none => rfl
  | some q =>
    obtain ⟨j, want⟩ := q
    simp only [guardQ, guardS]
    cases (ops[j]?).bind (·.dst) <;> rfl

def evS (X : Cx) (F : CallF) (nt : Nat) (drw : Bool) : List SOp → Env → Heap → Option (Env × Heap)
  | [], e, H => some (e, H)
  | o :: l, e, H => match dstOk nt o.dst, guardS e o.g with
    | true, some true => match evOpW X F drw o.op e H with
      | some (d, H') => evS X F nt drw l (putE e o.dst d) H'
      | none => none
    | true, some false => evS X F nt drw l (putE e o.dst (.tup [])) H
    | _, _ => none

theorem evOps_strip {F : CallF} {drw : Bool} (ops : Array Oper) : ∀ (l : List Oper) (e : Env) (H : Heap), evOps X F nt drw ops l e H = evS X F nt drw (strip ops l) e H
  | [], e, H => rfl
  | o :: l, e, H => by
    simp only [evOps, strip, evS, guard_strip ops e o.guard]
    show _ = match dstOk nt o.dst, guardS e (stripO ops o).g with
      | true, some true => match evOpW X F drw o.op e H with
        | some (d, H') => evS X F nt drw (strip ops l) (putE e o.dst d) H'
        | none => none
      | true, some false => evS X F nt drw (strip ops l) (putE e o.dst (.tup [])) H
      | _, _ => none
    simp only [evOps_strip ops l, stripO]
    rfl

variable {Q : Ex → Env → Heap → Prop} {fs : List Fr} {e : Env} {H : Heap}

/-- A region, and what waits behind it. -/
def RunS (X : Cx) (f nt n0 : Nat) (Q : Ex → Env → Heap → Prop) (fs : List Fr) (drw : Bool) (l : List SOp) (e : Env) (H : Heap) : Prop :=
  Run X f nt n0 Q fs ((evS X (call X) nt drw l e H).map fun (e, H) => (.normal, e, H))
def RunK (X : Cx) (f nt n0 : Nat) (Q : Ex → Env → Heap → Prop) (fs : List Fr) (drw : Bool) (l : List SOp) (e : Env) (dst : Option Tmp) : Option (D × Heap) → Prop
  | none => False
  | some (d, H) => RunS X f nt n0 Q fs drw l (putE e dst d) H
/-- Behind the look at what an operation hangs on. -/
def RunG (X : Cx) (f nt n0 : Nat) (Q : Ex → Env → Heap → Prop) (fs : List Fr) (drw : Bool) (dst : Option Tmp) (op : Op) (want : Bool) (l : List SOp) (e : Env) (H : Heap) : Option D → Prop
  | some (.bool b) => if b = want then RunK X f nt n0 Q fs drw l e dst (evOpW X (call X) drw op e H) else RunS X f nt n0 Q fs drw l (putE e dst (.tup [])) H
  | some (.tup []) => RunS X f nt n0 Q fs drw l (putE e dst (.tup [])) H
  | _ => False

theorem runS_nil {drw : Bool} : RunS X f nt n0 Q fs drw [] e H = Run X f nt n0 Q fs (some (.normal, e, H)) := rfl
theorem runS_none {drw : Bool} {dst : Option Tmp} {op : Op} {l : List SOp} : RunS X f nt n0 Q fs drw (⟨dst, op, none⟩ :: l) e H =
    (dstOk nt dst = true ∧ RunK X f nt n0 Q fs drw l e dst (evOpW X (call X) drw op e H)) := by
  unfold RunS
  simp only [evS, guardS]
  cases dstOk nt dst with
  | false => simp [run_none]
  | true =>
    cases evOpW X (call X) drw op e H with
    | none => simp [RunK, run_none]
    | some q => simp [RunK, RunS]
theorem runS_some {drw : Bool} {dst : Option Tmp} {op : Op} {l : List SOp} {t : Tmp} {want : Bool} : RunS X f nt n0 Q fs drw (⟨dst, op, some (some t, want)⟩ :: l) e H =
    (dstOk nt dst = true ∧ RunG X f nt n0 Q fs drw dst op want l e H (look e t)) := by
  unfold RunS
  simp only [evS, guardS]
  cases dstOk nt dst with
  | false => simp [run_none]
  | true =>
    cases look e t with
    | none => simp [RunG, run_none]
    | some d =>
      cases d with
      | bool b =>
        by_cases hb : b = want
        · subst hb
          simp only [beq_self_eq_true, RunG, if_true, true_and]
          cases evOpW X (call X) drw op e H with
          | none => simp [RunK, run_none]
          | some q => simp [RunK, RunS]
        · have : (b == want) = false := by simpa using hb
          simp [RunG, hb, this, RunS]
      | tup cs =>
        cases cs with
        | nil => simp [RunG, RunS]
        | cons => simp [RunG, run_none]
      | _ => simp [RunG, run_none]
theorem runK_some {drw : Bool} {dst : Option Tmp} {l : List SOp} {d : D} : RunK X f nt n0 Q fs drw l e dst (some (d, H)) = RunS X f nt n0 Q fs drw l (putE e dst d) H := rfl
theorem runK_none {drw : Bool} {dst : Option Tmp} {l : List SOp} : RunK X f nt n0 Q fs drw l e dst none = False := rfl
theorem runG_bool {drw : Bool} {dst : Option Tmp} {op : Op} {l : List SOp} {want b : Bool} : RunG X f nt n0 Q fs drw dst op want l e H (some (.bool b)) =
    if b = want then RunK X f nt n0 Q fs drw l e dst (evOpW X (call X) drw op e H) else RunS X f nt n0 Q fs drw l (putE e dst (.tup [])) H := rfl
theorem runG_tup {drw : Bool} {dst : Option Tmp} {op : Op} {l : List SOp} {want : Bool} : RunG X f nt n0 Q fs drw dst op want l e H (some (.tup [])) = RunS X f nt n0 Q fs drw l (putE e dst (.tup [])) H := rfl

/-- A region's head, then its operations. -/
def RunE (X : Cx) (f nt n0 : Nat) (Q : Ex → Env → Heap → Prop) (fs : List Fr) (drw : Bool) (l : List SOp) : Option (Env × Heap) → Prop
  | none => False
  | some (e, H) => RunS X f nt n0 Q fs drw l e H
theorem runE_some {drw : Bool} {l : List SOp} : RunE X f nt n0 Q fs drw l (some (e, H)) = RunS X f nt n0 Q fs drw l e H := rfl
theorem run_region {id : Nat} {ops : Array Oper} {drw : Bool} : Run X f nt n0 Q fs (code X f nt n0 (.region id ops drw) e H) = RunE X f nt n0 Q fs drw (strip ops ops.toList) (enter X f n0 id e H) := by
  rw [code_region]
  cases enter X f n0 id e H with
  | none => simp [run_none, RunE]
  | some q => simp only [RunE, RunS, evOps_strip]

theorem strip_cons (ops : Array Oper) (dst : Option Tmp) (op : Op) (ty : TypeId) (pos : String) (af : Array Edge) (l : List Oper) : strip ops ({ dst := dst, op := op, type := ty, pos := pos, after := af, guard := none } :: l) = ⟨dst, op, none⟩ :: strip ops l := rfl
theorem strip_consG (ops : Array Oper) (dst : Option Tmp) (op : Op) (ty : TypeId) (pos : String) (af : Array Edge) (j : Nat) (want : Bool) (l : List Oper) :
    strip ops ({ dst := dst, op := op, type := ty, pos := pos, after := af, guard := some (j, want) } :: l) = ⟨dst, op, some ((ops[j]?).bind (·.dst), want)⟩ :: strip ops l := rfl
theorem strip_nil (ops : Array Oper) : strip ops [] = [] := rfl
theorem evOpW_false {F : CallF} {o : Op} : evOpW X F false o e H = evOp X F o e H := by
  unfold evOpW
  split <;> first | rfl | contradiction
end
attribute [simp] runS_nil runS_none runS_some runK_some runK_none runG_bool runG_tup runE_some run_region strip_cons strip_consG strip_nil
end Go.Ev
