import Derived.Test.YtaponndjgdfkbaaEv14
import Derived.Orders
/-
  Regions that draw their order.
-/
namespace Go.Ev

section
variable {X : Cx} {ok ok' : Nat → Prop} {w w' : World} {ι : Iota} {H H' : Heap}

def edgesIn (S : Nat → Prop) (o : Oper) : Prop := ∀ e, e ∈ o.after.toList → Region.binds .any e = true → S e.on

theorem before_mem {ops : Array Oper} {S : Nat → Prop} (hcl : ∀ (i : Nat) (o : Oper), ops[i]? = some o → S i → edgesIn S o) {j i : Nat} {o : Oper} (hj : ops[j]? = some o)
    (hready : edgesIn S o) (hb : ((Region.before ops).getD j 0).testBit i = true) : S i := by
  have gen : ∀ (l pre : List Oper) (acc : Array Nat), ops.toList = pre ++ l → acc.size = pre.length → (∀ j i, (acc.getD j 0).testBit i = true → ∀ o, ops[j]? = some o → edgesIn S o → S i) →
      ∀ j i, ((l.foldl (fun acc o => acc.push (o.after.foldl (fun s e => if Region.binds .any e then s ||| 2 ^ e.on ||| acc.getD e.on 0 else s) 0)) acc).getD j 0).testBit i = true → ∀ o, ops[j]? = some o → edgesIn S o → S i := by
    intro l
    induction l with
    | nil => intro pre acc _ _ h; exact h
    | cons o l ih =>
      intro pre acc he hsz hacc
      simp only [List.foldl_cons]
      refine ih (pre ++ [o]) _ (by rw [he]; simp) (by simp [hsz]) ?_
      intro j i hi o' ho' hed
      by_cases hlt : j < acc.size
      · have : (acc.push (o.after.foldl (fun s e => if Region.binds .any e then s ||| 2 ^ e.on ||| acc.getD e.on 0 else s) 0)).getD j 0 = acc.getD j 0 := by
          simp only [Array.getD_eq_getD_getElem?]
          rw [Array.getElem?_push, if_neg (by omega)]
        rw [this] at hi
        exact hacc j i hi o' ho' hed
      · by_cases hje : j = acc.size
        · subst hje
          have : (acc.push (o.after.foldl (fun s e => if Region.binds .any e then s ||| 2 ^ e.on ||| acc.getD e.on 0 else s) 0)).getD acc.size 0 = o.after.foldl (fun s e => if Region.binds .any e then s ||| 2 ^ e.on ||| acc.getD e.on 0 else s) 0 := by
            simp only [Array.getD_eq_getD_getElem?]
            rw [Array.getElem?_push, if_pos rfl]
            rfl
          rw [this] at hi
          have hoo : o' = o := by
            have h1 : ops.toList[acc.size]? = some o := by rw [he, hsz]; simp
            rw [Array.getElem?_toList, ho'] at h1
            injection h1
          subst hoo
          rw [← Array.foldl_toList] at hi
          have inner : ∀ (es : List Edge) (s : Nat), (∀ e, e ∈ es → e ∈ o'.after.toList) → (∀ i, s.testBit i = true → S i) →
              ∀ i, (es.foldl (fun s e => if Region.binds .any e then s ||| 2 ^ e.on ||| acc.getD e.on 0 else s) s).testBit i = true → S i := by
            intro es
            induction es with
            | nil => intro s _ hs i hi; exact hs i hi
            | cons e es ih2 =>
              intro s hes hs i hi
              simp only [List.foldl_cons] at hi
              refine ih2 _ (fun x hx => hes x (List.mem_cons_of_mem _ hx)) ?_ i hi
              intro i hi
              split at hi
              · rename_i hbe
                rw [Nat.testBit_or, Nat.testBit_or] at hi
                simp only [Bool.or_eq_true] at hi
                have hse := hed e (hes e (List.mem_cons_self ..)) hbe
                rcases hi with (hi | hi) | hi
                · exact hs i hi
                · rw [Nat.testBit_two_pow] at hi
                  have : e.on = i := by simpa using hi
                  rw [← this]
                  exact hse
                · by_cases hlt2 : e.on < acc.size
                  · have hlo : e.on < ops.size := by
                      have : ops.toList.length = pre.length + (o' :: l).length := by rw [he]; simp
                      simp at this
                      omega
                    have ho := Array.getElem?_eq_getElem hlo
                    exact hacc e.on i hi _ ho (hcl e.on _ ho hse)
                  · simp only [Array.getD_eq_getD_getElem?, Array.getElem?_eq_none (show acc.size ≤ e.on by omega)] at hi
                    simp at hi
              · exact hs i hi
          exact inner _ 0 (fun _ h => h) (fun i hi => by simp at hi) i hi
        · simp only [Array.getD_eq_getD_getElem?] at hi
          rw [Array.getElem?_eq_none (by simp; omega)] at hi
          simp at hi
  have := gen ops.toList [] #[] rfl rfl (fun j i hi => by simp at hi) j i
  unfold Region.before at hb
  rw [← Array.foldl_toList] at hb
  exact this hb o hj hready

/-- One operation of the text's order. -/
def StepOf (X : Cx) (F : CallF) (nt : Nat) (drw : Bool) (ops : Array Oper) (o : Oper) (e : Env) (H : Heap) (e1 : Env) (H1 : Heap) : Prop :=
  dstOk nt o.dst = true ∧ ((guardQ ops e o.guard = some true ∧ ∃ d, evOpW X F drw o.op e H = some (d, H1) ∧ e1 = putE e o.dst d) ∨ (guardQ ops e o.guard = some false ∧ H1 = H ∧ e1 = putE e o.dst (.tup [])))

theorem trace_exists {F : CallF} {nt : Nat} {drw : Bool} {ops : Array Oper} : ∀ {l : List Oper} {e e' : Env} {H H' : Heap}, evOps X F nt drw ops l e H = some (e', H') →
    ∃ (E : Nat → Env) (T : Nat → Heap), E 0 = e ∧ T 0 = H ∧ E l.length = e' ∧ T l.length = H' ∧ ∀ k o, l[k]? = some o → StepOf X F nt drw ops o (E k) (T k) (E (k + 1)) (T (k + 1))
  | [], e, e', H, H', h => by
    simp only [evOps, Option.some.injEq, Prod.mk.injEq] at h
    obtain ⟨rfl, rfl⟩ := h
    exact ⟨fun _ => e, fun _ => H, rfl, rfl, rfl, rfl, fun k o hk => by simp at hk⟩
  | o :: l, e, e', H, H', h => by
    simp only [evOps] at h
    have key : ∀ e1 H1, StepOf X F nt drw ops o e H e1 H1 → evOps X F nt drw ops l e1 H1 = some (e', H') → ∃ (E : Nat → Env) (T : Nat → Heap), E 0 = e ∧ T 0 = H ∧ E (o :: l).length = e' ∧ T (o :: l).length = H' ∧
        ∀ k x, (o :: l)[k]? = some x → StepOf X F nt drw ops x (E k) (T k) (E (k + 1)) (T (k + 1)) := by
      intro e1 H1 hst hl
      obtain ⟨E, T, k1, k2, k3, k4, k5⟩ := trace_exists hl
      refine ⟨fun k => match k with | 0 => e | k + 1 => E k, fun k => match k with | 0 => H | k + 1 => T k, rfl, rfl, k3, k4, fun k x hx => ?_⟩
      cases k with
      | zero =>
        simp only [List.getElem?_cons_zero, Option.some.injEq] at hx
        subst hx
        simp only [k1, k2]
        exact hst
      | succ k => exact k5 k x (by simpa using hx)
    split at h
    · rename_i hd hg
      split at h
      · rename_i d H1 ho
        exact key _ H1 ⟨hd, .inl ⟨hg, d, ho, rfl⟩⟩ h
      · cases h
    · rename_i hd hg
      exact key _ H ⟨hd, .inr ⟨hg, rfl, rfl⟩⟩ h
    · cases h

theorem opd_congr {e1 e2 : Env} {x : Operand} (h : ∀ t, t ∈ tmpOf x → look e1 t = look e2 t) : opd X e1 x = opd X e2 x := by
  cases x with
  | tmp t => exact h t (by simp [tmpOf])
  | _ => rfl

theorem opds_congr {e1 e2 : Env} : ∀ {l : List Operand}, (∀ x, x ∈ l → opd X e1 x = opd X e2 x) → opds X e1 l = opds X e2 l
  | [], _ => rfl
  | x :: l, h => by
    simp only [opds, h x (List.mem_cons_self ..), opds_congr (fun y hy => h y (List.mem_cons_of_mem _ hy))]

theorem partsD_congr {e1 e2 : Env} : ∀ {l : List (Nat × Operand)}, (∀ x, x ∈ l.map (·.2) → opd X e1 x = opd X e2 x) → partsD X e1 l = partsD X e2 l
  | [], _ => rfl
  | (i, x) :: l, h => by
    simp only [partsD, h x (by simp), partsD_congr (l := l) (fun y hy => h y (by simp only [List.map_cons, List.mem_cons]; exact .inr hy))]

theorem evOp_congr {F : CallF} {o : Op} {e1 e2 : Env} (h : ∀ x, x ∈ o.operands.toList → opd X e1 x = opd X e2 x) : evOp X F o e1 H = evOp X F o e2 H := by
  cases o with
  | build t parts =>
    simp only [evOp]
    rw [partsD_congr (e2 := e2) (fun x hx => h x (by simpa [Op.operands] using hx))]
  | buildSlice t n parts =>
    simp only [evOp]
    rw [partsD_congr (e2 := e2) (fun x hx => h x (by simpa [Op.operands] using hx))]
  | makeFunc fn first caps =>
    cases fn with
    | func f =>
      simp only [evOp]
      rw [opds_congr (e2 := e2) (fun x hx => h x (by
        simp only [Op.operands, Array.toList_append, List.mem_append]
        exact .inr hx))]
    | _ => rfl
  | slice t x lo hi mx =>
    cases mx with
    | none =>
      have hx := h x (by simp [Op.operands])
      have hlo : lo.map (opd X e1) = lo.map (opd X e2) := by
        cases lo with
        | none => rfl
        | some l => simp [h l (by simp [Op.operands])]
      have hhi : hi.map (opd X e1) = hi.map (opd X e2) := by
        cases hi with
        | none => rfl
        | some l => simp [h l (by simp [Op.operands])]
      simp only [evOp, hx, hlo, hhi]
    | some m => rfl
  | call c =>
    simp only [evOp]
    have ha : opds X e1 c.args.toList = opds X e2 c.args.toList := opds_congr fun x hx => h x (by
      simp only [Op.operands, Call.operands, Array.toList_append, List.mem_append]
      exact .inr hx)
    rw [ha]
    cases hc : c.callee with
    | builtin b => cases opds X e2 c.args.toList <;> rfl
    | value g =>
      have hg := h g (by simp [Op.operands, Call.operands, hc])
      cases opds X e2 c.args.toList with
      | none => rfl
      | some args => simp only [hg]
    | invoke r m => cases opds X e2 c.args.toList <;> rfl
  | pick c a b =>
    simp only [evOp]
    rw [h c (by simp [Op.operands])]
    split
    · rename_i t _
      cases t
      · simp only [Bool.false_eq_true, if_false]; rw [h b (by simp [Op.operands])]
      · simp only [if_true]; rw [h a (by simp [Op.operands])]
    · rfl
  | move x => simp only [evOp, h x (by simp [Op.operands])]
  | assign x => simp only [evOp, h x (by simp [Op.operands])]
  | box t x => simp only [evOp, h x (by simp [Op.operands])]
  | load t x => simp only [evOp, h x (by simp [Op.operands])]
  | store t x y => simp only [evOp, h x (by simp [Op.operands]), h y (by simp [Op.operands])]
  | nilCheck x => simp only [evOp, h x (by simp [Op.operands])]
  | binOp op t x y u => simp only [evOp, h x (by simp [Op.operands]), h y (by simp [Op.operands])]
  | unOp op t x => simp only [evOp, h x (by simp [Op.operands])]
  | convert s d x => simp only [evOp, h x (by simp [Op.operands])]
  | makeInterface t x => simp only [evOp, h x (by simp [Op.operands])]
  | makeSlice t x y => simp only [evOp, h x (by simp [Op.operands]), h y (by simp [Op.operands])]
  | fieldAddr s x f => simp only [evOp, h x (by simp [Op.operands])]
  | field s x f => simp only [evOp, h x (by simp [Op.operands])]
  | indexAddr t x y => simp only [evOp, h x (by simp [Op.operands]), h y (by simp [Op.operands])]
  | index t x y => simp only [evOp, h x (by simp [Op.operands]), h y (by simp [Op.operands])]
  | extract x i => simp only [evOp, h x (by simp [Op.operands])]
  | _ => rfl

theorem evOpW_congr {F : CallF} {drw : Bool} {o : Op} {e1 e2 : Env} (h : ∀ x, x ∈ o.operands.toList → opd X e1 x = opd X e2 x) : evOpW X F drw o e1 H = evOpW X F drw o e2 H := by
  unfold evOpW
  split
  · rw [partsD_congr (e2 := e2) (fun x hx => h x (by simpa [Op.operands] using hx))]
  · rw [h _ (by simp [Op.operands])]
  · exact evOp_congr h

theorem guardQ_congr {ops : Array Oper} {e1 e2 : Env} {g : Option (Nat × Bool)} (h : ∀ k want t, g = some (k, want) → (ops[k]?).bind (·.dst) = some t → look e1 t = look e2 t) : guardQ ops e1 g = guardQ ops e2 g := by
  unfold guardQ
  cases g with
  | none => rfl
  | some kw =>
    obtain ⟨k, want⟩ := kw
    simp only
    cases hd : (ops[k]?).bind (·.dst) with
    | none => rfl
    | some t => simp only [h k want t rfl hd]

theorem map_pair {x : Option D} {d : D} (h : x.map (·, H) = some (d, H')) : H' = H ∧ ∀ H2 : Heap, x.map (·, H2) = some (d, H2) := by
  obtain ⟨rfl, rfl⟩ := map_some_pair h
  exact ⟨rfl, fun _ => rfl⟩

theorem builtinD_v {b : Builtin} {ts : List TypeId} {args : List D} {d : D} (hb : b = .len ∨ b = .min ∨ b = .max) (h : builtinD X b ts args H = some (d, H')) : H' = H ∧ ∀ H2, builtinD X b ts args H2 = some (d, H2) := by
  rcases hb with rfl | rfl | rfl
  · rcases ts with _ | ⟨t, ts⟩
    · simp [builtinD] at h
    · rcases args with _ | ⟨x, args⟩
      · simp [builtinD] at h
      · exact map_pair h
  · exact map_pair h
  · exact map_pair h

/-- What turns on no memory gives the same in whatever memory. -/
theorem kind_v {F : CallF} {o : Op} {e : Env} {d : D} (hk : opKind X o = .v) (h : evOpW X F true o e H = some (d, H')) : H' = H ∧ ∀ H2, evOpW X F true o e H2 = some (d, H2) := by
  have mp : ∀ {x : Option D}, x.map (·, H) = some (d, H') → H' = H ∧ ∀ H2 : Heap, x.map (·, H2) = some (d, H2) := by
    intro x hx
    obtain ⟨rfl, rfl⟩ := map_some_pair hx
    exact ⟨rfl, fun _ => rfl⟩
  cases o with
  | buildSlice t n parts =>
    simp only [evOpW] at h ⊢
    split at h
    · rename_i ps hp
      split at h
      · rename_i ds hb
        injection h with h
        injection h with h1 h2
        subst h1; subst h2
        exact ⟨rfl, fun H2 => rfl⟩
      · cases h
    · cases h
  | move x => exact mp h
  | assign x => exact mp h
  | pick c a b =>
    simp only [evOpW, evOp] at h ⊢
    split at h
    · exact mp h
    · cases h
  | build t parts =>
    simp only [evOpW, evOp] at h ⊢
    split at h
    · exact mp h
    · cases h
  | nilCheck x =>
    simp only [evOpW, evOp] at h ⊢
    split at h <;> first | (cases h; done) | skip
    all_goals
      injection h with h
      injection h with h1 h2
      subst h1; subst h2
      exact ⟨rfl, fun _ => rfl⟩
  | binOp op t x y u =>
    simp only [evOpW, evOp] at h ⊢
    split at h
    · exact mp h
    · cases h
  | unOp op t x =>
    simp only [evOpW, evOp] at h ⊢
    split at h
    · exact mp h
    · cases h
  | makeInterface t x =>
    simp only [evOpW, evOp] at h ⊢
    split at h
    · cases h
    · injection h with h
      injection h with h1 h2
      subst h1; subst h2
      exact ⟨rfl, fun _ => rfl⟩
    · cases h
  | makeFunc fn first caps =>
    cases fn with
    | func f =>
      simp only [evOpW, evOp] at h ⊢
      split at h
      · rename_i hf
        cases hc : opds X e caps.toList with
        | none => simp [hc] at h
        | some cs =>
          simp only [hc, Option.map_some, Option.some.injEq, Prod.mk.injEq] at h
          obtain ⟨rfl, rfl⟩ := h
          exact ⟨rfl, fun _ => by simp [hf]⟩
      · cases h
    | _ => simp [evOpW, evOp] at h
  | slice t x lo hi mx =>
    cases mx with
    | none =>
      simp only [evOpW, evOp] at h ⊢
      split at h <;> first | (cases h; done) | exact mp h
    | some m => simp [evOpW, evOp] at h
  | fieldAddr s x f =>
    simp only [evOpW, evOp] at h ⊢
    split at h
    · exact mp h
    · cases h
  | field s x f =>
    simp only [evOpW, evOp] at h ⊢
    split at h
    · exact mp h
    · cases h
  | indexAddr t x y =>
    simp only [evOpW, evOp] at h ⊢
    split at h
    · exact mp h
    · cases h
  | index t x y =>
    simp only [evOpW, evOp] at h ⊢
    split at h
    · exact mp h
    · cases h
  | extract x i =>
    simp only [evOpW, evOp] at h ⊢
    split at h
    · exact mp h
    · cases h
  | call c =>
    have hc : (c.callee = .builtin .len ∨ c.callee = .builtin .min ∨ c.callee = .builtin .max) ∨ ∃ f, c.callee = .value (.func f) ∧ (X.pureF f && !X.byRef f) = true := by
      simp only [opKind] at hk
      split at hk
      · rename_i hc; exact .inl (.inl hc)
      · rename_i hc; exact .inl (.inr (.inl hc))
      · rename_i hc; exact .inl (.inr (.inr hc))
      · rename_i f hc
        refine .inr ⟨f, hc, ?_⟩
        split at hk
        · cases hk
        · rename_i hb
          split at hk
          · rename_i hp
            rw [hp]; simpa using hb
          · cases hk
      · cases hk
    simp only [evOpW, evOp] at h ⊢
    rcases hc with hc | ⟨f, hc, hp⟩
    rotate_left
    · simp only [hc] at h ⊢
      cases ha : opds X e c.args.toList with
      | none => simp [ha] at h
      | some args =>
        simp only [ha, opd] at h ⊢
        obtain ⟨h1, h2, h3, h4⟩ := callD_pure hp h
        refine ⟨h4, fun H2 => ?_⟩
        unfold callD
        rw [if_pos hp, if_pos h1, h2]
        simp only at h3
        simp only [h3, if_true]
    cases ha : opds X e c.args.toList with
    | none => rcases hc with hc | hc | hc <;> simp [hc, ha] at h
    | some args => rcases hc with hc | hc | hc <;> (simp only [hc, ha] at h ⊢; exact builtinD_v (by simp) h)
  | load _ _ => simp [opKind] at hk
  | convert _ _ _ => simp [opKind] at hk
  | alloc _ => simp [opKind] at hk
  | box _ _ => simp [opKind] at hk
  | makeSlice _ _ _ => simp [opKind] at hk
  | store _ _ _ => simp [opKind] at hk
  | _ => simp [evOpW, evOp] at h

def topId : D → Option Nat
  | .optr i _ _ => some i
  | .osl i _ _ _ _ => some i
  | _ => none

theorem mem_pre {T1 T2 : Heap} {p : D} {cs : List D} (hg : ∀ i, topId p = some i → hget T1 i ≠ none → hget T2 i = hget T1 i) (h : mem T1 p = some cs) : mem T2 p = some cs := by
  cases p <;> simp only [mem, reduceCtorEq] at h ⊢
  · exact h
  · rename_i i st off
    split at h
    · rename_i ds hd
      have := hg i rfl (by rw [hd]; simp)
      rw [this, hd]
      exact h
    · cases h

theorem slc_pre {T1 T2 : Heap} {p : D} {k : Nat} {r : List D × Nat} (hg : ∀ i, topId p = some i → hget T1 i ≠ none → hget T2 i = hget T1 i) (h : slc T1 k p = some r) : slc T2 k p = some r := by
  cases p <;> simp only [slc, reduceCtorEq] at h ⊢
  · exact h
  · rename_i i st off len k'
    split at h
    · rename_i ds hd
      have := hg i rfl (by rw [hd]; simp)
      rw [this, hd]
      exact h
    · cases h

/-- What reads gives the same where what it reads is the same. -/
theorem kind_r {F : CallF} {o : Op} {e : Env} {d : D} {T1 T2 : Heap} (hk : opKind X o = .r) (h : evOpW X F true o e T1 = some (d, H'))
    (hg : ∀ x, x ∈ o.operands.toList → ∀ p i, opd X e x = some p → topId p = some i → hget T1 i ≠ none → hget T2 i = hget T1 i) : H' = T1 ∧ evOpW X F true o e T2 = some (d, T2) := by
  cases o with
  | load t x =>
    simp only [evOpW, evOp] at h ⊢
    split at h
    · rename_i p hp
      obtain ⟨h1, rfl⟩ := map_some_pair h
      refine ⟨rfl, ?_⟩
      have hl : ldD X.P T2 t p = some d := by
        unfold ldD at h1 ⊢
        split at h1
        · rename_i cs hq hm
          rw [mem_pre (hg x (by simp [Op.operands]) p · hp) hm]
          simp only [hq]
          exact h1
        · rename_i x' l hq hm
          rw [mem_pre (hg x (by simp [Op.operands]) p · hp) hm]
          simp only [hq]
          exact h1
        · cases h1
      rw [hl]
      rfl
    · cases h
  | convert s t x =>
    simp only [evOpW] at h ⊢
    split at h
    · rename_i b u hx hu
      split at h
      · injection h with h
        injection h with h1 h2
        subst h1; subst h2
        exact ⟨rfl, rfl⟩
      · cases h
    · rename_i a hx _
      have hgx : ∀ i, topId a = some i → hget T1 i ≠ none → hget T2 i = hget T1 i := fun i => hg x (by simp [Op.operands]) a i hx
      unfold convD at h ⊢
      split at h
      · rename_i k k' n h1 h2
        injection h with h
        injection h with h3 h4
        subst h3; subst h4
        exact ⟨rfl, rfl⟩
      · rename_i b h1 h2
        injection h with h
        injection h with h3 h4
        subst h3; subst h4
        exact ⟨rfl, rfl⟩
      · exfalso
        simp_all
      · rename_i e' _ h1 h2
        split at h
        · rename_i cs n he hsl
          obtain ⟨h3, rfl⟩ : ((bytesD cs).map fun s => D.str s) = some d ∧ T1 = H' := by
            cases hb : bytesD cs with
            | none => simp [hb] at h
            | some s =>
              simp only [hb, Option.map_some, Option.some.injEq, Prod.mk.injEq] at h
              exact ⟨by simp [h.1], h.2⟩
          refine ⟨rfl, ?_⟩
          rw [slc_pre hgx hsl]
          simp only [he]
          cases hb : bytesD cs with
          | none => simp [hb] at h3
          | some s => simpa [hb] using h3
        · cases h
      · cases h
    · cases h
  | call c =>
    simp only [opKind] at hk
    split at hk <;> first | (cases hk; done) | skip
    split at hk
    · cases hk
    · split at hk <;> cases hk
  | _ => simp [opKind] at hk

/-- What makes adds behind. -/
theorem kind_e {F : CallF} {o : Op} {e : Env} {d : D} (hk : opKind X o = .e) (h : evOpW X F true o e H = some (d, H')) : ∃ N, H' = H ++ N := by
  cases o with
  | alloc t =>
    simp only [evOpW, evOp] at h
    split at h
    · injection h with h
      injection h with h1 h2
      exact ⟨_, h2.symm⟩
    · cases h
  | box t x =>
    simp only [evOpW, evOp] at h
    split at h
    · split at h
      · injection h with h
        injection h with h1 h2
        exact ⟨_, h2.symm⟩
      · cases h
    · cases h
  | makeSlice t x y =>
    simp only [evOpW, evOp] at h
    split at h
    · unfold makeSliceD at h
      split at h
      · split at h
        · simp only [Option.bind_eq_some_iff] at h
          obtain ⟨z, _, h⟩ := h
          split at h
          · injection h with h
            injection h with h1 h2
            exact ⟨_, h2.symm⟩
          · cases h
        · cases h
      · cases h
    · cases h
  | call c =>
    simp only [opKind] at hk
    split at hk <;> first | (cases hk; done) | skip
    rename_i f hc
    split at hk
    · cases hk
    · rename_i hnr
      simp only [evOpW, evOp, hc] at h
      cases ha : opds X e c.args.toList with
      | none => simp [ha] at h
      | some args =>
        simp only [ha, opd] at h
        replace h := callD_callV h
        unfold callV at h
        rw [if_neg hnr] at h
        split at h
        · split at h
          · cases h
          · injection h with h
            injection h with h1 h2
            exact ⟨_, h2.symm⟩
        · split at h
          · cases h
          · split at h
            · cases h
            · split at h
              · injection h with h
                injection h with h1 h2
                exact ⟨_, h2.symm⟩
              · cases h
  | _ => simp [opKind] at hk

end
end Go.Ev
