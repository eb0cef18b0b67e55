import Derived.Test.YtgbahhhhfgppjaaGreatDoorC2
import Derived.Lib.BytesEntry
import Derived.Laws.Externs
import Derived.ProofKit
import Derived.OpenShut
import Derived.Below
import Derived.WideKeyArgs
import Derived.Carry
import Derived.ChangeSame
import Derived.ChangeSlices
import Derived.DataReads
import Derived.DataElems
import Derived.ChangeArms
import Derived.Lib.LaidTab
import Derived.Stop.LaidErr
import Derived.LaidMore
import Derived.Shelf.Strconv.Itoa1
import Derived.Shelf.Strings.Search2
import Derived.Shelf.Strconv.Clone
import Derived.WalkSmall
import Derived.Shelf.Strings.Repeat
import Derived.Lib.Bytealg
/-
  Regions that draw their order: in whatever order, what the text's order gives.
-/
namespace Go.Ev

section
variable {X : Cx} {bw : Option Tmp → Bool} {L : Pairs} {al : Option Nat} {ok ok' : Nat → Prop} {w w' : World} {ι : Iota} {H H' : Heap}

theorem wanted_of_guard' {ops : Array Oper} {e : Env} {a : Act} {o : Oper} {b : Bool} (he : ∀ k want t, o.guard = some (k, want) → (ops[k]?).bind (·.dst) = some t → ∀ d, look e t = some d → t < a.tmps.size ∧ Rep ok w ι H d (a.tmps.getD t undef))
    (h : guardQ ops e o.guard = some b) : Region.wanted o (yielded ops a.tmps) = b := by
  unfold guardQ at h
  unfold Region.wanted
  split at h
  · rename_i hg
    injection h with h
    rw [hg]
    exact h
  · rename_i j want hg
    rw [hg]
    simp only
    unfold yielded
    cases hd : (ops[j]?).bind (·.dst) with
    | none =>
      simp only [hd, Option.some.injEq] at h
      subst h
      simp
    | some t =>
      simp only [hd] at h
      simp only [Option.bind_some]
      split at h
      · rename_i v hl
        injection h with h
        obtain ⟨hlt, hr⟩ := he j want t hg hd _ hl
        rw [Array.getD_eq_getD_getElem?, Array.getElem?_eq_getElem hlt] at hr
        rw [Array.getElem?_eq_getElem hlt]
        generalize a.tmps[t] = x at hr
        cases hr
        simp only
        rw [← h]
        cases v <;> cases want <;> rfl
      · rename_i hl
        injection h with h
        subst h
        obtain ⟨hlt, hr⟩ := he j want t hg hd _ hl
        rw [Array.getD_eq_getD_getElem?, Array.getElem?_eq_getElem hlt] at hr
        rw [Array.getElem?_eq_getElem hlt]
        generalize a.tmps[t] = x at hr
        cases hr
        simp
      · cases h

theorem put_size (a : Act) (dst : Option Tmp) (v : Value) : (a.put dst v).tmps.size = a.tmps.size ∧ (a.put dst v).defers = a.defers := by
  cases dst <;> simp [Act.put]

/-- What code leaves. -/
def Out (X : Cx) (n : Nat) (ok : Nat → Prop) (w : World) (ι : Iota) (H : Heap) (a : Act) (e' : Env) (H' : Heap) (a' : Act) (w' : World) : Prop :=
  a'.tmps.size = a.tmps.size ∧ a'.defers = a.defers ∧ ∃ ι' ok', Sim X ok' w' ι' H' ∧ EnvRep ok' w' ι' H' e' a'.tmps ∧ Evol n ok w ι H ok' w' ι' H'

theorem undef_rep : Rep ok w ι H (.tup []) undef := .tup rfl (by simp)

theorem look_putE {e : Env} {dst : Option Tmp} {d : D} {t : Nat} : look (putE e dst d) t = if dst = some t then some d else look e t := by
  cases dst with
  | none => simp [putE]
  | some s =>
    simp only [putE, look, Option.some.injEq]

/-- The slots of one operation alone. -/
def restr (l : List Nat) (e : Env) : Env := keepE l e

theorem look_restr_in : ∀ {l : List Nat} {e : Env} {t : Nat}, t ∈ l → look (restr l e) t = look e t
  | k :: l, e, t, h => by
    simp only [restr, keepE]
    by_cases hkt : k = t
    · subst hkt
      cases hk : look e k with
      | some d => simp [look]
      | none =>
        simp only
        by_cases hm : k ∈ l
        · exact (look_restr_in hm).trans hk
        · have : ∀ {l : List Nat} {t : Nat}, t ∉ l → look (keepE l e) t = none := by
            intro l
            induction l with
            | nil => intro t _; rfl
            | cons x l ih =>
              intro t ht
              simp only [List.mem_cons, not_or] at ht
              simp only [keepE]
              split
              · simp only [look, Ne.symm ht.1, if_false]
                exact ih ht.2
              · exact ih ht.2
          exact this hm
    · have hm : t ∈ l := by
        rcases List.mem_cons.1 h with h | h
        · exact absurd h.symm hkt
        · exact h
      split
      · simp only [look, hkt, if_false]
        exact look_restr_in hm
      · exact look_restr_in hm

theorem look_restr_some : ∀ {l : List Nat} {e : Env} {t : Nat} {d : D}, look (restr l e) t = some d → t ∈ l ∧ look e t = some d
  | [], e, t, d, h => by simp [restr, keepE, look] at h
  | k :: l, e, t, d, h => by
    simp only [restr, keepE] at h
    split at h
    · rename_i x hk
      simp only [look] at h
      split at h
      · rename_i hkt
        subst hkt
        exact ⟨List.mem_cons_self .., by rw [hk]; exact h⟩
      · obtain ⟨h1, h2⟩ := look_restr_some h
        exact ⟨List.mem_cons_of_mem _ h1, h2⟩
    · obtain ⟨h1, h2⟩ := look_restr_some h
      exact ⟨List.mem_cons_of_mem _ h1, h2⟩

structure DrawFacts (X : Cx) (bw : Option Tmp → Bool) (L : Pairs) (al : Option Nat) (ops : Array Oper) : Prop where
  edge : ∀ (j : Nat) (o : Oper), ops[j]? = some o → ∀ e, e ∈ o.after.toList → Region.binds .any e = true → e.on < j
  ord : ∀ (i j : Nat) (x y : Oper), ops[i]? = some x → ops[j]? = some y → i < j → clash X bw L al ops i x j y = true → ((Region.before ops).getD j 0).testBit i = true
  alo : ∀ j, al = some j → ∃ o ty t, ops[j]? = some o ∧ o.op = .alloc ty ∧ o.dst = some t ∧ o.guard = none ∧
    ∀ (k : Nat) (y : Oper), ops[k]? = some y → k ≠ j → t ∈ namesOf ops y → j < k ∧ ∀ (i : Nat) (x : Oper), ops[i]? = some x → i < j → isK X (bw x.dst) x.op = true → ((Region.before ops).getD k 0).testBit i = true

theorem drawFacts {ops : Array Oper} (h : drawOk X bw L al ops = true) : DrawFacts X bw L al ops := by
  unfold drawOk at h
  simp only [Bool.and_eq_true] at h
  obtain ⟨hal, h⟩ := h
  have hall := List.all_eq_true.1 h
  have hmem : ∀ (j : Nat) (o : Oper), ops[j]? = some o → (o, j) ∈ ops.toList.zipIdx := by
    intro j o hj
    rw [List.mem_zipIdx_iff_getElem?]
    simpa using hj
  constructor
  · intro j o hj e he hb
    have := hall _ (hmem j o hj)
    simp only [Bool.and_eq_true] at this
    have h1 := Array.all_eq_true'.1 this.1 e (by simpa using he)
    simpa [hb] using h1
  · intro i j x y hi hj hij hc
    have := hall _ (hmem j y hj)
    simp only [Bool.and_eq_true] at this
    have h1 := List.all_eq_true.1 this.2 _ (hmem i x hi)
    simpa [hij, hc] using h1
  · intro j hj
    subst hj
    simp only [alOk] at hal
    cases ho : ops[j]? with
    | none => simp [ho] at hal
    | some o =>
      simp only [ho] at hal
      split at hal
      · rename_i ty t h1 h2 h3
        refine ⟨o, ty, t, rfl, h1, h2, h3, fun k y hk hkj ht => ?_⟩
        have := List.all_eq_true.1 hal _ (hmem k y hk)
        have hc : (namesOf ops y).contains t = true := by simpa using ht
        simp only [hc, beq_iff_eq, hkj, Bool.not_true, Bool.or_false, Bool.and_eq_true, decide_eq_true_eq, Bool.or_eq_true, false_or] at this
        refine ⟨this.1, fun i x hi hij hk => ?_⟩
        have h4 := List.all_eq_true.1 this.2 _ (hmem i x hi)
        simpa [hij, hk] using h4
      · cases hal

theorem clash_symm {ops : Array Oper} {i j : Nat} {x y : Oper} (h : clash X bw L al ops i x j y = true) : clash X bw L al ops j y i x = true := by
  unfold clash at *
  rw [Nat.max_comm j i]
  simp only [Bool.or_eq_true, Bool.and_eq_true] at *
  rcases h with (((h | h) | h) | h) | h
  · exact .inl (.inl (.inl (.inr h)))
  · exact .inl (.inl (.inl (.inl h)))
  · exact .inl (.inl (.inr ⟨⟨h.1.2, h.1.1⟩, h.2⟩))
  · exact .inr ⟨⟨h.1.2, h.1.1⟩, h.2⟩
  · exact .inl (.inr ⟨⟨h.1.2, h.1.1⟩, h.2⟩)
theorem clash_K {ops : Array Oper} {i j : Nat} {x y : Oper} (hx : isK X (bw x.dst) x.op = true) (hy : isK X (bw y.dst) y.op = true) (hal : al ≠ some (max i j)) : clash X bw L al ops i x j y = true := by
  unfold clash
  have : (al == some (max i j)) = false := by simpa using hal
  simp only [hx, hy, this, Bool.not_false, Bool.and_true, Bool.or_true, Bool.true_or]
/-- The world grows. -/
theorem sim_grow (hs : Sim X ok w ι H) (hw : SameS w w') (hsz : w.heap.size ≤ w'.heap.size) (hfr : ∀ c, c < w.heap.size → w'.heap[c]? = w.heap[c]?) : Sim X ok w' ι H ∧ Evol H.length ok w ι H ok w' ι H := by
  have hev : Evol H.length ok w ι H ok w' ι H :=
    ⟨hw.1, hw.2.1, hw.2.2, hsz, fun c hc _ => hfr c hc, fun _ h => h, fun _ h _ => .inl h, ⟨Nat.le_refl _, Nat.le_refl _⟩, fun _ _ ds hd => ⟨ds, hd, Nat.le_refl _, fun _ => rfl⟩,
      fun i ds _ s hd hi _ => ⟨i, ds, s, hd, hi⟩⟩
  refine ⟨⟨fun c hc => Nat.lt_of_lt_of_le (hs.okS c hc) hsz, fun g cs hg => ?_, hs.inj, fun k es he => ?_⟩, hev⟩
  · have h := (hs.glob g cs hg).lift (ι := ι) (H := H)
    exact (h.evol hs hev rfl).free rfl _ _
  · obtain ⟨c, arr2, e2, fr2, h1, h2, h3, h4, h5, h6, h7, h8⟩ := hs.blk k es he
    exact ⟨c, arr2, e2, fr2, h1, h2, by rw [hfr c (hs.lt he h1)]; exact h3, h4, h5, h6, h7, fun j d hj => (h8 j d hj).evol hs hev (h8 j d hj).closed⟩
/-- What reads in memory reads so where a block is added. -/
theorem rep_add {ds : List D} {ι2 : Iota} (hι : ∀ k, k < H.length → ι2 k = ι k) {ι1 : Iota} {H1 : Heap} {d : D} {v : Value} (h : Rep ok w ι1 H1 d v) : ι1 = ι → H1 = H → Rep ok w ι2 (newBlk H ds) d v := by
  induction h with
  | bool b => intros; exact .bool b
  | int k n => intros; exact .int k n
  | str s => intros; exact .str s
  | nilp => intros; exact .nilp
  | nilf => intros; exact .nilf
  | nili => intros; exact .nili
  | raw v => intros; exact .raw v
  | agg hl hc h ih => intro h1 h2; exact .agg hl hc fun j d hj => ih j d hj h1 h2
  | tup hl h ih => intro h1 h2; exact .tup hl fun j d hj => ih j d hj h1 h2
  | fn hl h ih => intro h1 h2; exact .fn hl fun j d hj => ih j d hj h1 h2
  | iface h ih => intro h1 h2; exact .iface (ih h1 h2)
  | optr a hi hk =>
    intro h1 h2
    subst h1; subst h2
    refine .optr a (by rw [length_newBlk]; omega) fun ds' hd' => ?_
    rw [hget_newBlk_lt hi] at hd'
    obtain ⟨k1, k2⟩ := hk ds' hd'
    exact ⟨k1, fun e => by obtain ⟨b, s, q1, q2⟩ := k2 e; exact ⟨b, s, by rw [hι _ hi]; exact q1, q2⟩⟩
  | osl a hi hk hlc =>
    intro h1 h2
    subst h1; subst h2
    refine .osl a (by rw [length_newBlk]; omega) (fun ds' hd' => ?_) hlc
    rw [hget_newBlk_lt hi] at hd'
    obtain ⟨k1, k2⟩ := hk ds' hd'
    exact ⟨k1, fun e => by obtain ⟨b, s, q1, q2⟩ := k2 e; exact ⟨b, s, by rw [hι _ hi]; exact q1, q2⟩⟩
  | vptr a f ha hc hr h ih => intros; exact .vptr a f ha hc hr h
  | vnil => intros; exact .vnil
  | vsl a f ha hc hr h hlc ih => intros; exact .vsl a f ha hc hr h hlc
/-- A block of the world that nothing told of is told of. -/
theorem step_add {ds : List D} {b : Nat} {arr : Array Value} {e : TypeId} {fr : Nat × Nat} (hs : Sim X ok w ι H) (hb : w.heap[b]? = some (.cells arr e fr)) (hno : ¬ ok b) (hfree : ∀ q es s, hget H q = some es → ι q ≠ some (b, s))
    (hfit : ds.length ≤ arr.size) (hfz : fr.1 = fr.2 ∨ arr.size ≤ fr.1) (hone : ∀ j, j < arr.size → (arr.getD j undef).oneCell' = true) (hcell : ∀ d, d ∈ ds → isCell d = true) (hrep : ∀ (j : Nat) d, ds[j]? = some d → Rep ok w ι H d (arr.getD j undef)) :
    ∃ ι', Sim X ok w ι' (newBlk H ds) ∧ ι' H.length = some (b, arr.size) ∧ (∀ d v, Rep ok w ι H d v → Rep ok w ι' (newBlk H ds) d v) ∧
      ∀ (n : Nat) (ok0 : Nat → Prop) (w0 : World) (ι0 : Iota) (H0 : Heap), Evol n ok0 w0 ι0 H0 ok w ι H → w0.heap.size ≤ b → Evol n ok0 w0 ι0 H0 ok w ι' (newBlk H ds) := by
  have hι : ∀ k, k < H.length → (fun k => if k = H.length then some (b, arr.size) else ι k) k = ι k := fun k hk => by simp [Nat.ne_of_lt hk]
  have split : ∀ k es, hget (newBlk H ds) k = some es → (k = H.length ∧ es = ds) ∨ (k < H.length ∧ hget H k = some es) := by
    intro k es he
    by_cases hki : k = H.length
    · subst hki
      rw [hget_newBlk_same] at he
      injection he with he
      exact .inl ⟨rfl, he.symm⟩
    · have hlt : k < H.length := by
        have := hget_lt he
        rw [length_newBlk] at this
        omega
      rw [hget_newBlk_lt hlt] at he
      exact .inr ⟨hlt, he⟩
  refine ⟨fun k => if k = H.length then some (b, arr.size) else ι k, ⟨hs.okS, hs.glob, ?_, ?_⟩, by simp, fun d v h => rep_add hι h rfl rfl, fun n ok0 w0 ι0 H0 he hb0 => ⟨he.os, he.tape, he.output, he.size, he.frame, he.okU, he.okN, ⟨he.nle.1, by have := he.nle.2; rw [length_newBlk]; omega⟩, fun i hi ds' hd' => ?_, fun i ds' c s hd hi hc => ?_⟩⟩
  · intro p q es fs c s s' hp hq hιp hιq
    rcases split p es hp with ⟨rfl, _⟩ | ⟨hp1, hp2⟩ <;> rcases split q fs hq with ⟨rfl, _⟩ | ⟨hq1, hq2⟩
    · rfl
    · simp only [if_true, Nat.ne_of_lt hq1, if_false, Option.some.injEq, Prod.mk.injEq] at hιp hιq
      rw [← hιp.1] at hιq
      exact absurd hιq (hfree q fs s' hq2)
    · simp only [if_true, Nat.ne_of_lt hp1, if_false, Option.some.injEq, Prod.mk.injEq] at hιp hιq
      rw [← hιq.1] at hιp
      exact absurd hιp (hfree p es s hp2)
    · simp only [Nat.ne_of_lt hp1, Nat.ne_of_lt hq1, if_false] at hιp hιq
      exact hs.inj p q es fs c s s' hp2 hq2 hιp hιq
  · intro k es he
    rcases split k es he with ⟨rfl, rfl⟩ | ⟨hk, he⟩
    · exact ⟨b, arr, e, fr, by simp, hno, hb, hfit, hfz, hone, hcell, fun j d hj => rep_add hι (hrep j d hj) rfl rfl⟩
    · obtain ⟨c, arr2, e2, fr2, h1, h2, h3, h4, h5, h6, h7, h8⟩ := hs.blk k es he
      exact ⟨c, arr2, e2, fr2, by simp [Nat.ne_of_lt hk, h1], h2, h3, h4, h5, h6, h7, fun j d hj => rep_add hι (h8 j d hj) rfl rfl⟩
  · have hlt : i < H.length := Nat.lt_of_lt_of_le hi he.nle.2
    rw [hget_newBlk_lt hlt] at hd'
    obtain ⟨es, k1, k2, k3⟩ := he.heap i hi ds' hd'
    exact ⟨es, k1, k2, fun e => by simp only [Nat.ne_of_lt hlt, if_false]; exact k3 e⟩
  · rcases split i ds' hd with ⟨rfl, _⟩ | ⟨h1, h2⟩
    · simp only [if_true, Option.some.injEq, Prod.mk.injEq] at hi
      omega
    · simp only [Nat.ne_of_lt h1, if_false] at hi
      exact he.own i ds' c s h2 hi hc
/-- A variable's place: zeros, whatever is told of. -/
theorem alloc_run {t : TypeId} {cs : List D} (h : (zeroOf X.P t).bind cellsOf = some cs) (w : World) : ∃ (arr : Array Value), (Instr.alloc t true (.tuple #[])).run X.P w = .ok (.pointer (some ⟨w.heap.size, 0, none⟩)) (w.alloc (.cells arr t)) ∧
    cs.length ≤ arr.size ∧ (∀ j, j < arr.size → (arr.getD j undef).oneCell' = true) ∧ (∀ d, d ∈ cs → isCell d = true) ∧ ∀ (ok : Nat → Prop) (w : World) (ι : Iota) (H : Heap) (j : Nat) d, cs[j]? = some d → Rep ok w ι H d (arr.getD j undef) := by
  cases hz : zeroOf X.P t with
  | none => simp [hz] at h
  | some z =>
    simp only [hz, Option.bind_some] at h
    obtain ⟨zv, z1, z2⟩ := zeroOf_run hz
    have c0 := fun ok w ι H => cellsOf_rep (z2 ok w ι H) h
    obtain ⟨c1, c2, c3⟩ := c0 (fun _ => True) w iota0 []
    refine ⟨zv.cells, by simp [Instr.alloc, z1, newVar, newRow], by omega, fun j hj => ?_, c2, fun ok w ι H => (c0 ok w ι H).2.2⟩
    have hj' : cs[j]? = some (cs[j]'(by omega)) := List.getElem?_eq_getElem (by omega)
    exact (c3 j _ hj').oneCell (c2 _ (mem_of_get? hj'))
theorem mem_idsL {p : D} {b : Nat} (hb : topId p = some b) : ∀ {l : List (Option D)}, some p ∈ l → b ∈ idsL l
  | [], h => by cases h
  | some d :: l, h => by
    simp only [idsL, List.mem_append]
    rcases List.mem_cons.1 h with h | h
    · injection h with h
      subst h
      exact .inl (by simp [hb])
    · exact .inr (mem_idsL hb h)
  | none :: l, h => by
    rcases List.mem_cons.1 h with h | h
    · cases h
    · simp only [idsL]
      exact mem_idsL hb h

theorem draw_sound0 {F : CallF} (hF : SoundF X F) {nt : Nat} {ops : Array Oper} {Q : Exit → Act → World → Prop} (hD : DrawFacts X bw L al ops) {e e' : Env} {a : Act} {E : Nat → Env} {T : Nat → Heap} (hE0 : E 0 = e) (hT0 : T 0 = H) (hEn : E ops.toList.length = e') (hTn : T ops.toList.length = H')
    (hstep : ∀ k o, ops.toList[k]? = some o → StepOf X F nt bw ops o (E k) (T k) (E (k + 1)) (T (k + 1))) (hTr : TrOk X ops L E T)
    (hs : Sim X ok w ι H) (he : EnvRep ok w ι H e a.tmps) (hnt : nt ≤ a.tmps.size) (hQ : ∀ a' w', Out X H.length ok w ι H a e' H' a' w' → Q .normal a' w') :
    wpAny X.P .any ops Q ops.size (Array.replicate ops.size false) a w := by
  have hstep' : ∀ (k : Nat) (o : Oper), ops[k]? = some o → StepOf X F nt bw ops o (E k) (T k) (E (k + 1)) (T (k + 1)) := fun k o hk => hstep k o (by simpa using hk)
  have hEn' : E ops.size = e' := by simpa using hEn
  have hTn' : T ops.size = H' := by simpa using hTn
  -- slots that nobody writes between two places
  have hslot : ∀ (t a b : Nat), a ≤ b → b ≤ ops.size → (∀ i o, ops[i]? = some o → o.dst = some t → ¬ (a ≤ i ∧ i < b)) → look (E b) t = look (E a) t := by
    intro t a b hab
    induction b with
    | zero => intro _ _; have : a = 0 := by omega
              subst this; rfl
    | succ b ih =>
      intro hb hno
      by_cases hab' : a = b + 1
      · rw [hab']
      · have hlt : b < ops.size := by omega
        have ho := Array.getElem?_eq_getElem hlt
        have hih := ih (by omega) (by omega) (fun i o hi hd h => hno i o hi hd ⟨h.1, by omega⟩)
        rw [← hih]
        obtain ⟨_, h | h⟩ := hstep' b _ ho
        · obtain ⟨_, d, _, h3⟩ := h
          rw [h3, look_putE, if_neg (fun hd => hno b _ ho hd ⟨by omega, by omega⟩)]
        · obtain ⟨_, _, h3⟩ := h
          rw [h3, look_putE, if_neg (fun hd => hno b _ ho hd ⟨by omega, by omega⟩)]
  -- memory that nobody turns between two places
  have hnoK : ∀ (k : Nat) (o : Oper), ops[k]? = some o → isK X (bw o.dst) o.op = false → T (k + 1) = T k := by
    intro k o ho hk
    obtain ⟨_, h | h⟩ := hstep' k o ho
    · obtain ⟨_, d, h2, _⟩ := h
      unfold isK at hk
      cases hkd : opKindB X (bw o.dst) o.op with
      | v => exact (kind_vB hkd h2).1
      | r => exact (kind_rB (T2 := T k) hkd h2 (fun _ _ _ _ _ _ _ => rfl)).1
      | e => simp [hkd] at hk
      | m => simp [hkd] at hk
    · exact h.2.1
  have hmem : ∀ (a b : Nat), a ≤ b → b ≤ ops.size → (∀ i o, ops[i]? = some o → isK X (bw o.dst) o.op = true → ¬ (a ≤ i ∧ i < b)) → T b = T a := by
    intro a b hab
    induction b with
    | zero => intro _ _; have : a = 0 := by omega
              subst this; rfl
    | succ b ih =>
      intro hb hno
      by_cases hab' : a = b + 1
      · rw [hab']
      · have hlt : b < ops.size := by omega
        have ho := Array.getElem?_eq_getElem hlt
        rw [← ih (by omega) (by omega) (fun i o hi hd h => hno i o hi hd ⟨h.1, by omega⟩)]
        refine hnoK b _ ho ?_
        cases hk : isK X (bw ops[b].dst) ops[b].op with
        | false => rfl
        | true => exact absurd ⟨by omega, by omega⟩ (hno b _ ho hk)
  -- a block that what writes between two places leaves as it is
  have hread : ∀ (q a b : Nat), a ≤ b → b ≤ ops.size → q < (T a).length →
      (∀ i o, ops[i]? = some o → opKindB X (bw o.dst) o.op = .m → guardQ ops (E i) o.guard = some true → a ≤ i → i < b → (T i).length ≤ (T (i + 1)).length ∧ hget (T (i + 1)) q = hget (T i) q) → hget (T b) q = hget (T a) q ∧ q < (T b).length := by
    intro q a b hab
    induction b with
    | zero => intro _ hq _; have : a = 0 := by omega
              subst this; exact ⟨rfl, hq⟩
    | succ b ih =>
      intro hb hq hno
      by_cases hab' : a = b + 1
      · subst hab'; exact ⟨rfl, hq⟩
      · have hlt : b < ops.size := by omega
        have ho := Array.getElem?_eq_getElem hlt
        obtain ⟨h1, h2⟩ := ih (by omega) (by omega) hq (fun i o hi hd hg h3 h4 => hno i o hi hd hg h3 (by omega))
        cases hkd : opKindB X (bw ops[b].dst) ops[b].op with
        | v => rw [hnoK b _ ho (by simp only [isK, hkd])]; exact ⟨h1, h2⟩
        | r => rw [hnoK b _ ho (by simp only [isK, hkd])]; exact ⟨h1, h2⟩
        | m =>
          obtain ⟨_, h | h⟩ := hstep' b _ ho
          · obtain ⟨k1, k2⟩ := hno b _ ho hkd h.1 (by omega) (by omega)
            exact ⟨k2.trans h1, by omega⟩
          · rw [h.2.1]; exact ⟨h1, h2⟩
        | e =>
          obtain ⟨_, h | h⟩ := hstep' b _ ho
          · obtain ⟨_, d, h3, _⟩ := h
            obtain ⟨M, hM⟩ := kind_eB hkd h3
            rw [hM, hget_join_lt h2]
            exact ⟨h1, by simp; omega⟩
          · rw [h.2.1]; exact ⟨h1, h2⟩
  have halK : ∀ i, al = some i → ∃ o, ops[i]? = some o ∧ opKindB X (bw o.dst) o.op = .e := by
    intro i hai
    obtain ⟨o, ty, t, g1, g2, -, -, -⟩ := hD.alo i hai
    refine ⟨o, g1, ?_⟩
    rw [g2]
    cases bw o.dst <;> rfl
  -- a place that is made already, though the text has it behind
  let Pend : Array Bool → Act → World → Nat → Iota → (Nat → Prop) → Prop := fun listed a1 w1 m ι1 ok1 => ∃ (i : Nat) (o : Oper) (t : Nat) (b : Nat) (arr : Array Value) (ty : TypeId) (fr : Nat × Nat) (cs : List D), al = some i ∧ ops[i]? = some o ∧ o.dst = some t ∧ m ≤ i ∧
    T (i + 1) = newBlk (T i) cs ∧ E (i + 1) = putE (E i) (some t) (.optr (T i).length cs.length 0) ∧ t < a1.tmps.size ∧ a1.tmps.getD t undef = .pointer (some ⟨b, 0, none⟩) ∧ w1.heap[b]? = some (.cells arr ty fr) ∧ ¬ ok1 b ∧ (∀ q es s, hget (T m) q = some es → ι1 q ≠ some (b, s)) ∧ w.heap.size ≤ b ∧
    cs.length ≤ arr.size ∧ (fr.1 = fr.2 ∨ arr.size ≤ fr.1) ∧ (∀ j, j < arr.size → (arr.getD j undef).oneCell' = true) ∧ (∀ d, d ∈ cs → isCell d = true) ∧ (∀ (ok : Nat → Prop) (w : World) (ι : Iota) (H : Heap) (j : Nat) d, cs[j]? = some d → Rep ok w ι H d (arr.getD j undef)) ∧
    ∀ k y, ops[k]? = some y → k ≠ i → t ∈ namesOf ops y → listed.getD k false = false
  -- the invariant
  have main : ∀ (fuel : Nat) (listed : Array Bool) (a1 : Act) (w1 : World) (m : Nat) (ι1 : Iota) (ok1 : Nat → Prop) (pend : Bool), listed.size = ops.size →
      ((List.range ops.size).filter fun i => !listed.getD i false).length ≤ fuel →
      (∀ i o, ops[i]? = some o → listed.getD i false = true → edgesIn (fun k => listed.getD k false = true) o) →
      m ≤ ops.size → (∀ i o, ops[i]? = some o → isK X (bw o.dst) o.op = true → al ≠ some i → (listed.getD i false = true ↔ i < m)) → (∀ i, al = some i → (listed.getD i false = true ↔ (i < m ∨ pend = true))) → (pend = true → Pend listed a1 w1 m ι1 ok1) →
      Sim X ok1 w1 ι1 (T m) → Evol H.length ok w ι H ok1 w1 ι1 (T m) → a1.tmps.size = a.tmps.size → a1.defers = a.defers →
      (∀ t k, k ≤ ops.size → (∀ i o, ops[i]? = some o → o.dst = some t → (listed.getD i false = true ↔ i < k)) → (pend = true → ∀ i o, al = some i → ops[i]? = some o → o.dst ≠ some t) → ∀ d, look (E k) t = some d → t < a1.tmps.size ∧ Rep ok1 w1 ι1 (T m) d (a1.tmps.getD t undef)) →
      wpAny X.P .any ops Q fuel listed a1 w1 := by
    -- what is made already is told of, once all ahead of it is done
    have absorb : ∀ (listed : Array Bool) (a1 : Act) (w1 : World) (m : Nat) (ι1 : Iota) (ok1 : Nat → Prop) (pend : Bool),
      m ≤ ops.size → (∀ i o, ops[i]? = some o → isK X (bw o.dst) o.op = true → al ≠ some i → (listed.getD i false = true ↔ i < m)) → (∀ i, al = some i → (listed.getD i false = true ↔ (i < m ∨ pend = true))) → (pend = true → Pend listed a1 w1 m ι1 ok1) →
      Sim X ok1 w1 ι1 (T m) → Evol H.length ok w ι H ok1 w1 ι1 (T m) → a1.tmps.size = a.tmps.size → a1.defers = a.defers →
      (∀ t k, k ≤ ops.size → (∀ i o, ops[i]? = some o → o.dst = some t → (listed.getD i false = true ↔ i < k)) → (pend = true → ∀ i o, al = some i → ops[i]? = some o → o.dst ≠ some t) → ∀ d, look (E k) t = some d → t < a1.tmps.size ∧ Rep ok1 w1 ι1 (T m) d (a1.tmps.getD t undef)) →
      (∀ i o k, al = some k → ops[i]? = some o → isK X (bw o.dst) o.op = true → i < k → listed.getD i false = true) →
      ∃ (m2 : Nat) (ι2 : Iota), m2 ≤ ops.size ∧ (∀ i o, ops[i]? = some o → isK X (bw o.dst) o.op = true → (listed.getD i false = true ↔ i < m2)) ∧ Sim X ok1 w1 ι2 (T m2) ∧ Evol H.length ok w ι H ok1 w1 ι2 (T m2) ∧
        (∀ t k, k ≤ ops.size → (∀ i o, ops[i]? = some o → o.dst = some t → (listed.getD i false = true ↔ i < k)) → ∀ d, look (E k) t = some d → t < a1.tmps.size ∧ Rep ok1 w1 ι2 (T m2) d (a1.tmps.getD t undef)) := by
      intro listed a1 w1 m ι1 ok1 pend hm hK hJ hP hsim hevol h1 h2 hslots hall
      cases pend with
      | false =>
        refine ⟨m, ι1, hm, fun i o ho hk => ?_, hsim, hevol, fun t k hk hag d hd => hslots t k hk hag (fun h => by cases h) d hd⟩
        by_cases hai : al = some i
        · have := hJ i hai
          simpa using this
        · exact hK i o ho hk hai
      | true =>
        obtain ⟨j0, o, t0, b, arr, ty, fr, cs, p1, p2, p3, p4, p5, p6, p7, p8, p9, p10, p11, p12, p13, p14, p15, p16, p17, p18⟩ := hP rfl
        have hj0 := (Array.getElem?_eq_some_iff.1 p2).1
        have hTm : T j0 = T m := hmem m j0 p4 (by omega) fun i x hx hk hi => by
          have hne : al ≠ some i := by rw [p1]; intro h; injection h with h; omega
          have := (hK i x hx hk hne).1 (hall i x j0 p1 hx hk hi.2)
          omega
        obtain ⟨ι2, s1, s2, s3, s4⟩ := step_add (ds := cs) hsim p9 p10 p11 p13 p14 p15 p16 (fun j d hj => p17 _ _ _ _ j d hj)
        have hT2 : T (j0 + 1) = newBlk (T m) cs := by rw [p5, hTm]
        rw [hTm] at p6
        refine ⟨j0 + 1, ι2, by omega, fun i x hx hk => ?_, by rw [hT2]; exact s1, by rw [hT2]; exact s4 _ _ _ _ _ hevol p12, fun t k hk hag d hd => ?_⟩
        · by_cases hai : al = some i
          · have : i = j0 := by rw [p1] at hai; injection hai with h; exact h.symm
            subst this
            exact ⟨fun _ => Nat.lt_succ_self _, fun _ => (hJ i hai).2 (.inr rfl)⟩
          · have hne : i ≠ j0 := fun h => hai (by rw [h]; exact p1)
            have h3 := hK i x hx hk hai
            exact ⟨fun hl => by have := h3.1 hl; omega, fun hlt => hall i x j0 p1 hx hk (by omega)⟩
        · rw [hT2]
          by_cases ht : t0 = t
          · subst ht
            have hjk : j0 < k := (hag j0 o p2 p3).1 ((hJ j0 p1).2 (.inr rfl))
            have hl := hslot t0 (j0 + 1) k (by omega) hk fun i x hx hdst hik => by
              have := p18 i x hx (by omega) (by simp [namesOf, hdst])
              rw [(hag i x hx hdst).2 hik.2] at this
              cases this
            rw [hl, p6, look_putE, if_pos rfl] at hd
            injection hd with hd
            subst hd
            refine ⟨p7, ?_⟩
            rw [p8]
            refine .optr _ (by rw [length_newBlk]; omega) fun ds hds => ?_
            rw [hget_newBlk_same] at hds
            injection hds with hds
            subst hds
            exact ⟨Nat.le_refl _, fun _ => ⟨_, _, s2, rfl⟩⟩
          · obtain ⟨q1, q2⟩ := hslots t k hk hag (fun _ i x hai hx => by
              have : i = j0 := by rw [p1] at hai; injection hai with h; exact h.symm
              subst this
              rw [p2] at hx
              injection hx with hx
              subst hx
              rw [p3]
              intro h
              injection h with h
              exact ht h) d hd
            exact ⟨q1, s3 _ _ q2⟩
    -- when all are done
    have fin : ∀ (listed : Array Bool) (a1 : Act) (w1 : World) (m : Nat) (ι1 : Iota) (ok1 : Nat → Prop), (∀ i, i < ops.size → listed.getD i false = true) → m ≤ ops.size →
        (∀ i o, ops[i]? = some o → isK X (bw o.dst) o.op = true → (listed.getD i false = true ↔ i < m)) →
        Sim X ok1 w1 ι1 (T m) → Evol H.length ok w ι H ok1 w1 ι1 (T m) → a1.tmps.size = a.tmps.size → a1.defers = a.defers →
        (∀ t k, k ≤ ops.size → (∀ i o, ops[i]? = some o → o.dst = some t → (listed.getD i false = true ↔ i < k)) → ∀ d, look (E k) t = some d → t < a1.tmps.size ∧ Rep ok1 w1 ι1 (T m) d (a1.tmps.getD t undef)) → Q .normal a1 w1 := by
      intro listed a1 w1 m ι1 ok1 hall hm hK hsim hevol h1 h2 hslots
      have hT : T ops.size = T m := hmem m ops.size hm (Nat.le_refl _) (fun i o ho hk h => by
        have := (hK i o ho hk).1 (hall i h.2)
        omega)
      rw [hTn'] at hT
      rw [← hT] at hsim hevol hslots
      refine hQ a1 w1 ⟨h1, h2, ι1, ok1, hsim, fun t d ht => ?_, hevol⟩
      rw [← hEn'] at ht
      exact hslots t ops.size (Nat.le_refl _) (fun i o ho _ => ⟨fun _ => (Array.getElem?_eq_some_iff.1 ho).1, fun h => hall i h⟩) d ht
    have finA : ∀ (listed : Array Bool) (a1 : Act) (w1 : World) (m : Nat) (ι1 : Iota) (ok1 : Nat → Prop) (pend : Bool), (∀ i, i < ops.size → listed.getD i false = true) →
      m ≤ ops.size → (∀ i o, ops[i]? = some o → isK X (bw o.dst) o.op = true → al ≠ some i → (listed.getD i false = true ↔ i < m)) → (∀ i, al = some i → (listed.getD i false = true ↔ (i < m ∨ pend = true))) → (pend = true → Pend listed a1 w1 m ι1 ok1) →
      Sim X ok1 w1 ι1 (T m) → Evol H.length ok w ι H ok1 w1 ι1 (T m) → a1.tmps.size = a.tmps.size → a1.defers = a.defers →
      (∀ t k, k ≤ ops.size → (∀ i o, ops[i]? = some o → o.dst = some t → (listed.getD i false = true ↔ i < k)) → (pend = true → ∀ i o, al = some i → ops[i]? = some o → o.dst ≠ some t) → ∀ d, look (E k) t = some d → t < a1.tmps.size ∧ Rep ok1 w1 ι1 (T m) d (a1.tmps.getD t undef)) →
      Q .normal a1 w1 := by
      intro listed a1 w1 m ι1 ok1 pend hall hm hK hJ hP hsim hevol h1 h2 hslots
      obtain ⟨m2, ι2, q1, q2, q3, q4, q5⟩ := absorb listed a1 w1 m ι1 ok1 pend hm hK hJ hP hsim hevol h1 h2 hslots (fun i o k _ ho _ _ => hall i (Array.getElem?_eq_some_iff.1 ho).1)
      exact fin listed a1 w1 m2 ι2 ok1 hall q1 q2 q3 q4 h1 h2 q5
    intro fuel
    induction fuel with
    | zero =>
      intro listed a1 w1 m ι1 ok1 pend hsz hcnt hcl hm hK hJ hP hsim hevol h1 h2 hslots
      have hall : ∀ i, i < ops.size → listed.getD i false = true := by
        intro i hi
        cases hl : listed.getD i false with
        | true => rfl
        | false =>
          have : i ∈ (List.range ops.size).filter fun i => !listed.getD i false := by
            rw [List.mem_filter]
            exact ⟨List.mem_range.2 hi, by simp only [hl]; rfl⟩
          have hne := List.length_pos_of_mem this
          omega
      refine ⟨?_, finA listed a1 w1 m ι1 ok1 pend hall hm hK hJ hP hsim hevol h1 h2 hslots⟩
      unfold Region.ready
      rw [List.filter_eq_nil_iff]
      intro i hi
      have hlt := List.mem_range.1 hi
      have := hall i hlt
      have h3 : listed.getD i true = true := by
        rw [Array.getD_eq_getD_getElem?, Array.getElem?_eq_getElem (by omega)] at this ⊢
        exact this
      simp [h3]
    | succ fuel ih =>
      intro listed a1 w1 m0 ι0 ok1 pend0 hsz hcnt hcl hm0 hK0 hJ0 hP0 hsim0 hevol0 h1 h2 hslots0
      -- either nothing waits, or something ahead of what waits is not done
      obtain ⟨m, ι1, pend, hm, hK, hJ, hP, hsim, hevol, hslots, hwait⟩ : ∃ (m : Nat) (ι1 : Iota) (pend : Bool), m ≤ ops.size ∧ (∀ i o, ops[i]? = some o → isK X (bw o.dst) o.op = true → al ≠ some i → (listed.getD i false = true ↔ i < m)) ∧ (∀ i, al = some i → (listed.getD i false = true ↔ (i < m ∨ pend = true))) ∧ (pend = true → Pend listed a1 w1 m ι1 ok1) ∧
          Sim X ok1 w1 ι1 (T m) ∧ Evol H.length ok w ι H ok1 w1 ι1 (T m) ∧
          (∀ t k, k ≤ ops.size → (∀ i o, ops[i]? = some o → o.dst = some t → (listed.getD i false = true ↔ i < k)) → (pend = true → ∀ i o, al = some i → ops[i]? = some o → o.dst ≠ some t) → ∀ d, look (E k) t = some d → t < a1.tmps.size ∧ Rep ok1 w1 ι1 (T m) d (a1.tmps.getD t undef)) ∧
          (pend = true → ∃ i o k, al = some k ∧ ops[i]? = some o ∧ isK X (bw o.dst) o.op = true ∧ i < k ∧ listed.getD i false = false) := by
        by_cases hall : ∀ i o k, al = some k → ops[i]? = some o → isK X (bw o.dst) o.op = true → i < k → listed.getD i false = true
        · obtain ⟨m2, ι2, q1, q2, q3, q4, q5⟩ := absorb listed a1 w1 m0 ι0 ok1 pend0 hm0 hK0 hJ0 hP0 hsim0 hevol0 h1 h2 hslots0 hall
          refine ⟨m2, ι2, false, q1, fun i o ho hk _ => q2 i o ho hk, fun i hai => ?_, (fun h => by cases h), q3, q4, fun t k hk hag _ d hd => q5 t k hk hag d hd, (fun h => by cases h)⟩
          obtain ⟨o, g1, g2⟩ := halK i hai
          simpa using q2 i o g1 (by simp only [isK, g2])
        · refine ⟨m0, ι0, pend0, hm0, hK0, hJ0, hP0, hsim0, hevol0, hslots0, fun _ => ?_⟩
          simp only [Classical.not_forall] at hall
          obtain ⟨i, o, k, g1, g2, g3, g4, g5⟩ := hall
          exact ⟨i, o, k, g1, g2, g3, g4, by simpa using g5⟩
      have hready : ∀ j, j ∈ Region.ready .any ops listed ↔ ∃ o, ops[j]? = some o ∧ listed.getD j false = false ∧ edgesIn (fun k => listed.getD k false = true) o := by
        intro j
        unfold Region.ready
        rw [List.mem_filter]
        constructor
        · rintro ⟨hj, hc⟩
          have hlt := List.mem_range.1 hj
          simp only [Array.getElem?_eq_getElem hlt, Option.map_some, Option.getD_some, Bool.and_eq_true, Bool.not_eq_true'] at hc
          refine ⟨_, Array.getElem?_eq_getElem hlt, ?_, ?_⟩
          · rw [Array.getD_eq_getD_getElem?, Array.getElem?_eq_getElem (by omega)] at hc ⊢
            exact hc.1
          · intro e he hb
            have := Array.all_eq_true'.1 hc.2 e (by simpa using he)
            simpa [hb] using this
        · rintro ⟨o, ho, hl, hed⟩
          have hlt := (Array.getElem?_eq_some_iff.1 ho).1
          refine ⟨List.mem_range.2 hlt, ?_⟩
          simp only [ho, Option.map_some, Option.getD_some, Bool.and_eq_true, Bool.not_eq_true']
          refine ⟨?_, ?_⟩
          · rw [Array.getD_eq_getD_getElem?, Array.getElem?_eq_getElem (by omega)] at hl ⊢
            exact hl
          · rw [Array.all_eq_true']
            intro e he
            cases hb : Region.binds .any e with
            | false => simp
            | true => simpa [hb] using hed e (by simpa using he) hb
      refine ⟨fun hnil => ?_, fun j hj => ?_⟩
      · refine finA listed a1 w1 m ι1 ok1 pend ?_ hm hK hJ hP hsim hevol h1 h2 hslots
        intro i
        induction i using Nat.strongRecOn with
        | _ i ihi =>
          intro hi
          cases hl : listed.getD i false with
          | true => rfl
          | false =>
            have ho := Array.getElem?_eq_getElem hi
            have : i ∈ Region.ready .any ops listed := (hready i).2 ⟨_, ho, hl, fun e he hb => by
              have hlt := hD.edge i _ ho e he hb
              exact ihi e.on hlt (by omega)⟩
            rw [hnil] at this
            simp at this
      · obtain ⟨o, ho, hunl, hed⟩ := (hready j).1 hj
        have hjn := (Array.getElem?_eq_some_iff.1 ho).1
        have hbef : ∀ i x, ops[i]? = some x → i < j → clash X bw L al ops i x j o = true → listed.getD i false = true := fun i x hx hij hc =>
          before_mem (S := fun k => listed.getD k false = true) hcl ho hed (hD.ord i j x o hx ho hij hc)
        have haft : ∀ i x, ops[i]? = some x → j < i → clash X bw L al ops j o i x = true → listed.getD i false = false := by
          intro i x hx hij hc
          cases hl : listed.getD i false with
          | false => rfl
          | true =>
            have := before_mem (S := fun k => listed.getD k false = true) hcl hx (hcl i x hx hl) (hD.ord j i o x ho hx hij hc)
            rw [hunl] at this
            cases this
        have hagree : ∀ i x, ops[i]? = some x → (i ≠ j → clash X bw L al ops i x j o = true) → (listed.getD i false = true ↔ i < j) := by
          intro i x hx hc
          rcases Nat.lt_trichotomy i j with h | h | h
          · exact ⟨fun _ => h, fun _ => hbef i x hx h (hc (by omega))⟩
          · subst h
            exact ⟨fun h => (by rw [hunl] at h; cases h), fun h => (by omega)⟩
          · exact ⟨fun hl => (by rw [haft i x hx h (clash_symm (hc (by omega)))] at hl; cases hl), fun h => (by omega)⟩
        have hnp : pend = true → al ≠ some j := by
          intro hp hj
          have := (hJ j hj).2 (.inr hp)
          rw [hunl] at this
          cases this
        have hnt0 : pend = true → ∀ i y, al = some i → ops[i]? = some y → ∀ t, y.dst = some t → t ∉ namesOf ops o := by
          intro hp i y hai hy t hyt ht
          obtain ⟨y', ty, t', g1, g2, g3, g4, g5⟩ := hD.alo i hai
          rw [hy] at g1
          injection g1 with g1
          subst g1
          rw [hyt] at g3
          injection g3 with g3
          subst g3
          have hne : j ≠ i := fun h => hnp hp (by rw [h]; exact hai)
          obtain ⟨q, x, k, u1, u2, u3, u4, u5⟩ := hwait hp
          have hki : k = i := by rw [hai] at u1; injection u1 with u1; exact u1.symm
          subst hki
          have := before_mem (S := fun k => listed.getD k false = true) hcl ho hed ((g5 j o ho hne ht).2 q x u2 u4 u3)
          rw [u5] at this
          cases this
        have hnames : ∀ t, t ∈ namesOf ops o → ∀ d, look (E j) t = some d → t < a1.tmps.size ∧ Rep ok1 w1 ι1 (T m) d (a1.tmps.getD t undef) := by
          intro t ht d hd
          refine hslots t j (by omega) (fun i x hx hdst => hagree i x hx (fun _ => ?_)) (fun hp i y hai hy hyt => hnt0 hp i y hai hy t hyt ht) d hd
          unfold clash
          simp only [hdst, Option.any_some, Bool.or_eq_true]
          exact .inl (.inl (.inl (.inl (by simpa using ht))))
        -- the state behind this operation
        have hset : ∀ i, (listed.setIfInBounds j true).getD i false = if i = j then true else listed.getD i false := by
          intro i
          rw [Array.getD_eq_getD_getElem?, Array.getD_eq_getD_getElem?]
          by_cases hij : i = j
          · subst hij
            simp [show i < listed.size by omega]
          · rw [Array.getElem?_setIfInBounds_ne (Ne.symm hij), if_neg hij]
        have htmp : ∀ (v : Value) t, o.dst ≠ some t → (a1.put o.dst v).tmps.getD t undef = a1.tmps.getD t undef := by
          intro v t ht
          cases hod : o.dst with
          | none => rfl
          | some s =>
            have : s ≠ t := fun e => ht (by rw [hod, e])
            simp only [Act.put, Array.getD_eq_getD_getElem?]
            rw [Array.getElem?_setIfInBounds_ne this]
        have hPk : ∀ (v : Value) (w2 : World) (ι2 : Iota) (ok2 : Nat → Prop) (m' : Nat), Evol (T m).length ok1 w1 ι1 (T m) ok2 w2 ι2 (T m') → (∀ i, al = some i → pend = true → m' ≤ i) → pend = true → Pend (listed.setIfInBounds j true) (a1.put o.dst v) w2 m' ι2 ok2 := by
          intro v w2 ι2 ok2 m' hev2 hmi hp
          obtain ⟨j0, y, t0, b, arr, ty, fr, cs, p1, p2, p3, p4, p5, p6, p7, p8, p9, p10, p11, p12, p13, p14, p15, p16, p17, p18⟩ := hP hp
          have hno := hnt0 hp j0 y p1 p2 t0 p3
          have hdn : o.dst ≠ some t0 := fun h => hno (by simp [namesOf, h])
          have hblt : b < w1.heap.size := (Array.getElem?_eq_some_iff.1 p9).1
          refine ⟨j0, y, t0, b, arr, ty, fr, cs, p1, p2, p3, hmi j0 p1 hp, p5, p6, by rw [(put_size a1 o.dst v).1]; exact p7, by rw [htmp v t0 hdn]; exact p8, by rw [hev2.frame b hblt p11]; exact p9, fun h => ?_, fun q es s hq h => ?_, p12, p13, p14, p15, p16, p17, fun k z hz hk hn => ?_⟩
          · rcases hev2.okN b h hblt with h | ⟨i, ds, s, g1, g2⟩
            · exact p10 h
            · exact p11 i ds s g1 g2
          · obtain ⟨q', ds, s', g1, g2⟩ := hev2.own q es b s hq h hblt
            exact p11 _ _ _ g1 g2
          · rw [hset]
            have hkj : k ≠ j := by
              rintro rfl
              rw [ho] at hz
              injection hz with hz
              subst hz
              exact hno hn
            rw [if_neg hkj]
            exact p18 k z hz hk hn
        have finish : ∀ (d : D) (v : Value) (w2 : World) (ι2 : Iota) (ok2 : Nat → Prop) (m' : Nat) (pend' : Bool), (pend = true → pend' = true) → E (j + 1) = putE (E j) o.dst d → dstOk nt o.dst = true → Sim X ok2 w2 ι2 (T m') → ((al = some j → pend' = false) → Rep ok2 w2 ι2 (T m') d v) →
            Evol (T m).length ok1 w1 ι1 (T m) ok2 w2 ι2 (T m') → m' ≤ ops.size → (∀ i x, ops[i]? = some x → isK X (bw x.dst) x.op = true → al ≠ some i → ((listed.setIfInBounds j true).getD i false = true ↔ i < m')) →
            (∀ i, al = some i → ((listed.setIfInBounds j true).getD i false = true ↔ (i < m' ∨ pend' = true))) → (pend' = true → Pend (listed.setIfInBounds j true) (a1.put o.dst v) w2 m' ι2 ok2) →
            wpAny X.P .any ops Q fuel (listed.setIfInBounds j true) (a1.put o.dst v) w2 := by
          intro d v w2 ι2 ok2 m' pend' hpm hE hdst hsim2 hrep hev2 hm' hK' hJ' hP'
          have hset' : ∀ i, (listed.setIfInBounds j true).getD i false = if i = j then true else listed.getD i false := by
            intro i
            rw [Array.getD_eq_getD_getElem?, Array.getD_eq_getD_getElem?]
            by_cases hij : i = j
            · subst hij
              simp [show i < listed.size by omega]
            · rw [Array.getElem?_setIfInBounds_ne (Ne.symm hij), if_neg hij]
          obtain ⟨p1, p2⟩ := put_size a1 o.dst v
          refine ih _ _ w2 m' ι2 ok2 pend' (by simpa using hsz) ?_ ?_ hm' hK' hJ' hP' hsim2 (hevol.trans (hev2.mono hevol.nle.2)) (by omega) (by rw [p2, h2]) ?_
          · have hlt : ((List.range ops.size).filter fun i => !(listed.setIfInBounds j true).getD i false).length < ((List.range ops.size).filter fun i => !listed.getD i false).length := by
              have hcong : ((List.range ops.size).filter fun i => !(listed.setIfInBounds j true).getD i false) = (((List.range ops.size).filter fun i => !listed.getD i false).filter fun i => decide (i ≠ j)) := by
                rw [List.filter_filter]
                apply List.filter_congr
                intro i _
                rw [hset i]
                by_cases hij : i = j <;> simp [hij]
              rw [hcong]
              refine List.length_filter_lt_length_iff_exists.2 ⟨j, ?_, by simp⟩
              rw [List.mem_filter]
              exact ⟨List.mem_range.2 hjn, by simp only [hunl]; rfl⟩
            omega
          · intro i x hx hl e he hb
            show (listed.setIfInBounds j true).getD e.on false = true
            rw [hset] at hl ⊢
            by_cases heo : e.on = j
            · rw [if_pos heo]
            · rw [if_neg heo]
              by_cases hij : i = j
              · subst hij
                rw [ho] at hx
                injection hx with hx
                subst hx
                exact hed e he hb
              · rw [if_neg hij] at hl
                exact hcl i x hx hl e he hb
          · intro t k hk hag hex d' hd'
            by_cases ht : o.dst = some t
            · have hjk : j < k := (hag j o ho ht).1 (by rw [hset, if_pos rfl])
              have hl := hslot t (j + 1) k (by omega) hk (fun i x hx hdst hik => by
                have h3 := (hag i x hx hdst).2 hik.2
                rw [hset, if_neg (by omega)] at h3
                have h4 := haft i x hx (by omega) (by
                  unfold clash
                  simp only [ht, Option.any_some, Bool.or_eq_true]
                  exact .inl (.inl (.inl (.inl (by simp [namesOf, hdst])))))
                rw [h4] at h3
                cases h3)
              rw [hl, hE, look_putE, if_pos ht] at hd'
              injection hd' with hd'
              subst hd'
              rw [ht] at hdst ⊢
              have hlt : t < nt := by simpa [dstOk] using hdst
              have hlt2 : t < a1.tmps.size := Nat.lt_of_lt_of_le hlt (by omega)
              refine ⟨by simpa [Act.put] using hlt2, ?_⟩
              have hrep := hrep fun hj => by
                cases hp' : pend' with
                | false => rfl
                | true => exact absurd ht (hex hp' j o hj ho)
              simpa [Act.put, hlt2, Array.getD_eq_getD_getElem?] using hrep
            · have hold := hslots t k hk (fun i x hx hdst => by
                have h3 := hag i x hx hdst
                have hij : i ≠ j := by
                  rintro rfl
                  rw [ho] at hx
                  injection hx with hx
                  subst hx
                  exact ht hdst
                rwa [hset, if_neg hij] at h3) (fun hp => hex (hpm hp)) d' hd'
              refine ⟨by have h := hold.1; rw [p1]; exact h, ?_⟩
              have htm : (a1.put o.dst v).tmps.getD t undef = a1.tmps.getD t undef := by
                cases hod : o.dst with
                | none => rfl
                | some s =>
                  have : s ≠ t := fun e => ht (by rw [hod, e])
                  simp only [Act.put, Array.getD_eq_getD_getElem?]
                  rw [Array.getElem?_setIfInBounds_ne this]
              rw [htm]
              exact hold.2.evol hsim hev2 hold.2.closed
        have hK1 : isK X (bw o.dst) o.op = false → ∀ i x, ops[i]? = some x → isK X (bw x.dst) x.op = true → al ≠ some i → ((listed.setIfInBounds j true).getD i false = true ↔ i < m) := by
          intro hk i x hx hkx hai
          have hij : i ≠ j := by
            rintro rfl
            rw [ho] at hx
            injection hx with hx
            subst hx
            rw [hk] at hkx
            cases hkx
          rw [hset, if_neg hij]
          exact hK i x hx hkx hai
        have hJ1 : isK X (bw o.dst) o.op = false → ∀ i, al = some i → ((listed.setIfInBounds j true).getD i false = true ↔ (i < m ∨ pend = true)) := by
          intro hk i hai
          have hij : i ≠ j := by
            rintro rfl
            obtain ⟨x, g1, g2⟩ := halK i hai
            rw [ho] at g1
            injection g1 with g1
            subst g1
            simp only [isK, g2] at hk
            cases hk
          rw [hset, if_neg hij]
          exact hJ i hai
        have hm1 : ∀ i, al = some i → pend = true → m ≤ i := by
          intro i hai hp
          obtain ⟨j0, y, t0, b, arr, ty, fr, cs, p1, p2, p3, p4, -⟩ := hP hp
          rw [hai] at p1
          injection p1 with p1
          omega
        have hKj : isK X (bw o.dst) o.op = true → (al = some j → ∀ i x, ops[i]? = some x → isK X (bw x.dst) x.op = true → i < j → listed.getD i false = true) →
            ∀ i x, ops[i]? = some x → isK X (bw x.dst) x.op = true → (i < m ↔ i < j) ∧ (al ≠ some i → (listed.getD i false = true ↔ i < j)) := by
          intro hk hfull i x hx hkx
          have hord : al ≠ some i → (listed.getD i false = true ↔ i < j) := by
            intro hai
            by_cases haj : al = some j
            · rcases Nat.lt_trichotomy i j with h | h | h
              · exact ⟨fun _ => h, fun _ => hfull haj i x hx hkx h⟩
              · subst h
                exact absurd haj hai
              · have hc : clash X bw L al ops j o i x = true := clash_K hk hkx (by rw [Nat.max_eq_right (by omega)]; exact hai)
                exact ⟨fun hl => (by rw [haft i x hx h hc] at hl; cases hl), fun h => (by omega)⟩
            · refine hagree i x hx fun _ => clash_K hkx hk ?_
              rcases Nat.le_total i j with h | h
              · rw [Nat.max_eq_right h]; exact haj
              · rw [Nat.max_eq_left h]; exact hai
          refine ⟨?_, hord⟩
          by_cases hai : al = some i
          · by_cases hij : i = j
            · subst hij
              have : ¬ i < m := fun h => by
                have := (hJ i hai).2 (.inl h)
                rw [hunl] at this
                cases this
              exact ⟨fun h => absurd h this, fun h => absurd h (Nat.lt_irrefl _)⟩
            · have haj : al ≠ some j := fun h => by rw [hai] at h; injection h with h; exact hij h
              have hjm : ¬ j < m := fun h => by
                have := (hK j o ho hk haj).2 h
                rw [hunl] at this
                cases this
              have hlt : i < j → listed.getD i false = true := fun h => hbef i x hx h (clash_K hkx hk (by rw [Nat.max_eq_right (by omega)]; exact haj))
              cases hp : pend with
              | false =>
                have h3 := hJ i hai
                rw [hp] at h3
                simp only [Bool.false_eq_true, or_false] at h3
                refine ⟨fun h => by omega, fun h => h3.1 (hlt h)⟩
              | true =>
                have h4 := hm1 i hai hp
                obtain ⟨q, z, k, u1, u2, u3, u4, u5⟩ := hwait hp
                have hki : k = i := by rw [hai] at u1; injection u1 with u1; exact u1.symm
                subst hki
                refine ⟨fun h => by omega, fun h => ?_⟩
                have hc : clash X bw L al ops q z j o = true := clash_K u3 hk (by rw [Nat.max_eq_right (by omega)]; exact haj)
                have := hbef q z u2 (by omega) hc
                rw [u5] at this
                cases this
          · exact (hK i x hx hkx hai).symm.trans (hord hai)
        have hK2 : isK X (bw o.dst) o.op = true → (al = some j → ∀ i x, ops[i]? = some x → isK X (bw x.dst) x.op = true → i < j → listed.getD i false = true) → ∀ i x, ops[i]? = some x → isK X (bw x.dst) x.op = true → al ≠ some i → ((listed.setIfInBounds j true).getD i false = true ↔ i < j + 1) := by
          intro hk hfull i x hx hkx hai
          rw [hset]
          by_cases hij : i = j
          · subst hij
            simp
          · rw [if_neg hij, (hKj hk hfull i x hx hkx).2 hai]
            omega
        have hJ2 : isK X (bw o.dst) o.op = true → (al = some j → ∀ i x, ops[i]? = some x → isK X (bw x.dst) x.op = true → i < j → listed.getD i false = true) → ∀ i, al = some i → ((listed.setIfInBounds j true).getD i false = true ↔ (i < j + 1 ∨ pend = true)) := by
          intro hk hfull i hai
          rw [hset]
          by_cases hij : i = j
          · subst hij
            simp
          · obtain ⟨x, g1, g2⟩ := halK i hai
            have h3 := (hKj hk hfull i x g1 (by simp only [isK, g2])).1
            rw [if_neg hij, hJ i hai]
            constructor
            · rintro (h | h)
              · exact .inl (by omega)
              · exact .inr h
            · rintro (h | h)
              · exact .inl (by omega)
              · exact .inr h
        have hm2 : isK X (bw o.dst) o.op = true → ∀ i, al = some i → pend = true → j + 1 ≤ i := by
          intro hk i hai hp
          have haj := hnp hp
          have hij : i ≠ j := fun h => haj (by rw [← h]; exact hai)
          obtain ⟨x, g1, g2⟩ := halK i hai
          have h3 := (hKj hk (fun h => absurd h haj) i x g1 (by simp only [isK, g2])).1
          have := hm1 i hai hp
          omega
        have hTK : isK X (bw o.dst) o.op = true → (al = some j → ∀ i x, ops[i]? = some x → isK X (bw x.dst) x.op = true → i < j → listed.getD i false = true) → T m = T j := by
          intro hk hfull
          have hmj : ∀ i x, ops[i]? = some x → isK X (bw x.dst) x.op = true → (i < m ↔ i < j) := fun i x hx hkx => (hKj hk hfull i x hx hkx).1
          rcases Nat.le_total m j with h | h
          · exact (hmem m j h (by omega) (fun i x hx hkx hi => by have := (hmj i x hx hkx).2 hi.2; omega)).symm
          · exact hmem j m h hm (fun i x hx hkx hi => by have := (hmj i x hx hkx).1 hi.2; omega)
        unfold wpOp
        simp only [ho]
        obtain ⟨hdst, hcase⟩ := hstep' j o ho
        have hgn : ∀ k want t, ∀ o' : Oper, o'.guard = some (k, want) → o' = o → (ops[k]?).bind (·.dst) = some t → t ∈ namesOf ops o := by
          intro k want t o' hg he' hd
          subst he'
          simp [namesOf, hg, hd]
        have hw : ∀ b, guardQ ops (E j) o.guard = some b → Region.wanted o (yielded ops a1.tmps) = b := by
          intro b hb
          exact wanted_of_guard' (fun k want t hg hd d hl => hnames t (hgn k want t o hg rfl hd) d hl) hb
        rcases hcase with ⟨hg, d, hop, hE⟩ | ⟨hg, hTj, hE⟩
        · rw [if_pos (hw true hg)]
          refine .inl ?_
          unfold Oper.wp
          have hopn : ∀ x, x ∈ o.op.operands.toList → opd X (E j) x = opd X (restr (namesOf ops o) (E j)) x := fun x hx => opd_congr fun t ht => (look_restr_in (by
            simp only [namesOf, List.mem_append, List.mem_flatMap]
            exact .inl (.inr ⟨x, hx, ht⟩))).symm
          rw [evOpW_congr hopn] at hop
          have henv : EnvRep ok1 w1 ι1 (T m) (restr (namesOf ops o) (E j)) a1.tmps := fun t d ht => hnames t (look_restr_some ht).1 d (look_restr_some ht).2
          have go : ∀ m', evOpW X F (bw o.dst) o.op (restr (namesOf ops o) (E j)) (T m) = some (d, T m') → m' ≤ ops.size → (∀ i x, ops[i]? = some x → isK X (bw x.dst) x.op = true → al ≠ some i → ((listed.setIfInBounds j true).getD i false = true ↔ i < m')) →
              (∀ i, al = some i → ((listed.setIfInBounds j true).getD i false = true ↔ (i < m' ∨ pend = true))) → (∀ i, al = some i → pend = true → m' ≤ i) →
              o.upon X.P a1 (wpAny X.P .any ops Q fuel (listed.setIfInBounds j true)) Q ((execOp a1.eval o).run X.P w1) := by
            intro m' hop' hm' hK' hJ' hmi
            refine Goes.upon ((opW_goes hF hsim henv hop').mono fun v w2 hp => ?_)
            obtain ⟨ι2, ok2, q1, q2, q3⟩ := hp
            exact finish d v w2 ι2 ok2 m' pend (fun h => h) hE hdst q1 (fun _ => q2) q3 hm' hK' hJ' (hPk v w2 ι2 ok2 m' q3 hmi)
          cases hkd : opKindB X (bw o.dst) o.op with
          | v => exact go m ((kind_vB hkd hop).2 (T m)) hm (hK1 (by simp only [isK, hkd])) (hJ1 (by simp only [isK, hkd])) hm1
          | r =>
            refine go m (kind_rB hkd hop fun x hx p i hp hi hne => ?_).2 hm (hK1 (by simp only [isK, hkd])) (hJ1 (by simp only [isK, hkd])) hm1
            have hMag : ∀ i x, ops[i]? = some x → opKindB X (bw x.dst) x.op = .m → L.contains (i, j) = true ∨ (i < m ↔ i < j) := by
              intro i x hx hkx
              cases hc : L.contains (i, j) with
              | true => exact .inl rfl
              | false =>
                have hai : al ≠ some i := fun h => by
                  obtain ⟨z, g1, g2⟩ := halK i h
                  rw [hx] at g1
                  injection g1 with g1
                  subst g1
                  rw [hkx] at g2
                  cases g2
                refine .inr ((hK i x hx (by simp only [isK, hkx]) hai).symm.trans (hagree i x hx fun _ => ?_))
                unfold clash
                simp only [hkx, hkd, hc]
                simp
            have hlt : i < (T m).length := by
              have := (opd_rep hsim henv hp).closed
              cases p <;> simp only [topId, reduceCtorEq, Option.some.injEq] at hi
              · subst hi; simpa [closed] using this
              · subst hi; simpa [closed] using this
            have hin : i ∈ idsL (o.op.operands.toList.map (opd X (E j))) := mem_idsL hi (by
              rw [← hp, ← hopn x hx]
              exact List.mem_map_of_mem hx)
            have hwr : ∀ i' x', ops[i']? = some x' → opKindB X (bw x'.dst) x'.op = .m → guardQ ops (E i') x'.guard = some true → L.contains (i', j) = true → (T i').length ≤ (T (i' + 1)).length ∧ hget (T (i' + 1)) i = hget (T i') i := by
              intro i' x' hx' hkx' hgx' hc
              have hne' : i' ≠ j := by
                rintro rfl
                rw [ho] at hx'
                injection hx' with hx'
                subst hx'
                rw [hkd] at hkx'
                cases hkx'
              obtain ⟨u1, u2⟩ := hTr i' j x' o hx' ho hc hne' hgx' hg
              exact ⟨u1, u2 i hin⟩
            rcases Nat.le_total m j with h | h
            · exact (hread i m j h (by omega) hlt (fun i' x' hx' hkx' hgx' h1 h2 => by
                rcases hMag i' x' hx' hkx' with hc | hc
                · exact hwr i' x' hx' hkx' hgx' hc
                · omega)).1.symm
            · have hltj : i < (T j).length := by
                cases hgi : hget (T j) i with
                | none => exact absurd hgi hne
                | some ds => exact hget_lt hgi
              exact (hread i j m h hm hltj (fun i' x' hx' hkx' hgx' h1 h2 => by
                rcases hMag i' x' hx' hkx' with hc | hc
                · exact hwr i' x' hx' hkx' hgx' hc
                · omega)).1
          | e =>
            have hk : isK X (bw o.dst) o.op = true := by simp only [isK, hkd]
            by_cases hfull : al = some j → ∀ i x, ops[i]? = some x → isK X (bw x.dst) x.op = true → i < j → listed.getD i false = true
            · rw [← hTK hk hfull] at hop
              exact go (j + 1) hop (by omega) (hK2 hk hfull) (hJ2 hk hfull) (hm2 hk)
            · have haj : al = some j := Classical.byContradiction fun h => hfull fun h2 => absurd h2 h
              have hpf : pend = false := by
                cases hp : pend with
                | false => rfl
                | true => exact absurd haj (hnp hp)
              obtain ⟨o', ty, t0, g1, g2, g3, g4, g5⟩ := hD.alo j haj
              rw [ho] at g1
              injection g1 with g1
              subst g1
              have hjm : ¬ j < m := fun h => by
                have := (hJ j haj).2 (.inl h)
                rw [hunl] at this
                cases this
              have hev0 : evOpW X F (bw o.dst) o.op (restr (namesOf ops o) (E j)) (T j) = match (zeroOf X.P ty).bind cellsOf with
                  | some cs => some (.optr (T j).length cs.length 0, newBlk (T j) cs)
                  | none => none := by
                rw [g2]
                cases bw o.dst <;> rfl
              rw [hev0] at hop
              cases hz : (zeroOf X.P ty).bind cellsOf with
              | none => rw [hz] at hop; cases hop
              | some cs =>
                rw [hz] at hop
                injection hop with hop
                injection hop with hd hT1
                obtain ⟨arr, r1, r2, r3, r4, r5⟩ := alloc_run hz w1
                have hgr := sim_grow (w' := w1.alloc (.cells arr ty)) hsim ⟨rfl, rfl, rfl⟩ (by simp) (fun c hc => heap_alloc_old w1 _ hc)
                have hlt : t0 < nt := by simpa [dstOk, g3] using hdst
                have hrun : Goes X.P (execOp a1.eval o) w1 (fun v w2 => v = .pointer (some ⟨w1.heap.size, 0, none⟩) ∧ w2 = w1.alloc (.cells arr ty)) := Goes.value (by simp [execOp, g2, r1]) ⟨rfl, rfl⟩
                refine Goes.upon (hrun.mono fun v w2 hp => ?_)
                obtain ⟨rfl, rfl⟩ := hp
                refine finish d _ _ ι1 ok1 m true (fun _ => rfl) hE hdst hgr.1 (fun h => by cases h haj) hgr.2 hm (fun i x hx hkx hai => ?_) (fun i hai => ?_) (fun _ => ?_)
                · have hij : i ≠ j := fun h => hai (by rw [h]; exact haj)
                  rw [hset, if_neg hij]
                  exact hK i x hx hkx hai
                · have hij : i = j := by rw [haj] at hai; injection hai with h; exact h.symm
                  rw [hset, if_pos hij]
                  simp
                · refine ⟨j, o, t0, w1.heap.size, arr, ty, (0, 0), cs, haj, ho, g3, by omega, hT1.symm, by rw [hE, ← hd, g3], by rw [(put_size a1 o.dst _).1]; exact Nat.lt_of_lt_of_le hlt (by rw [h1]; exact hnt), ?_, heap_alloc_new w1 _, fun h => ?_, fun q es s hq h => ?_, hevol.size, r2, .inl rfl, r3, r4, r5, fun k y hy hk2 hn => ?_⟩
                  · rw [g3]
                    have : t0 < a1.tmps.size := Nat.lt_of_lt_of_le hlt (by rw [h1]; exact hnt)
                    simp [Act.put, this, Array.getD_eq_getD_getElem?]
                  · exact absurd (hsim.okS _ h) (Nat.lt_irrefl _)
                  · exact absurd (hsim.lt hq h) (Nat.lt_irrefl _)
                  · rw [hset, if_neg hk2]
                    refine haft k y hy (g5 k y hy hk2 hn).1 ?_
                    unfold clash
                    simp only [g3, Option.any_some, Bool.or_eq_true]
                    exact .inl (.inl (.inl (.inl (by simpa using hn))))
          | m =>
            have hk : isK X (bw o.dst) o.op = true := by simp only [isK, hkd]
            have hfull : al = some j → ∀ i x, ops[i]? = some x → isK X (bw x.dst) x.op = true → i < j → listed.getD i false = true := fun h => by
              obtain ⟨z, g1, g2⟩ := halK j h
              rw [ho] at g1
              injection g1 with g1
              subst g1
              rw [hkd] at g2
              cases g2
            rw [← hTK hk hfull] at hop
            exact go (j + 1) hop (by omega) (hK2 hk hfull) (hJ2 hk hfull) (hm2 hk)
        · rw [if_neg (by rw [hw false hg]; simp)]
          cases hk : isK X (bw o.dst) o.op with
          | false => exact finish (.tup []) undef w1 ι1 ok1 m pend (fun h => h) hE hdst hsim (fun _ => undef_rep) (.refl _ (Nat.le_refl _)) hm (hK1 hk) (hJ1 hk) (hPk _ _ _ _ _ (.refl _ (Nat.le_refl _)) hm1)
          | true =>
            have hfull : al = some j → ∀ i x, ops[i]? = some x → isK X (bw x.dst) x.op = true → i < j → listed.getD i false = true := fun h => by
              obtain ⟨o', ty, t0, g1, g2, g3, g4, g5⟩ := hD.alo j h
              rw [ho] at g1
              injection g1 with g1
              subst g1
              rw [g4] at hg
              simp [guardQ] at hg
            have hT2 : T (j + 1) = T m := by rw [hTj, hTK hk hfull]
            have hev2 : Evol (T m).length ok1 w1 ι1 (T m) ok1 w1 ι1 (T (j + 1)) := by rw [hT2]; exact .refl _ (Nat.le_refl _)
            exact finish (.tup []) undef w1 ι1 ok1 (j + 1) pend (fun h => h) hE hdst (by rw [hT2]; exact hsim) (fun _ => undef_rep) hev2 (by omega) (hK2 hk hfull) (hJ2 hk hfull) (hPk _ _ _ _ _ hev2 (hm2 hk))
  refine main ops.size (Array.replicate ops.size false) a w 0 ι ok false (by simp) ?_ ?_ (Nat.zero_le _) ?_ ?_ (fun h => by cases h) (by rw [hT0]; exact hs) (by rw [hT0]; exact .refl _ (Nat.le_refl _)) rfl rfl ?_
  · exact Nat.le_trans (List.length_filter_le _ _) (by simp)
  · intro i o hi hl
    have : (Array.replicate ops.size false).getD i false = false := by
      rw [Array.getD_eq_getD_getElem?, Array.getElem?_replicate]
      split <;> rfl
    rw [this] at hl
    cases hl
  · intro i o hi hk _
    have : (Array.replicate ops.size false).getD i false = false := by
      rw [Array.getD_eq_getD_getElem?, Array.getElem?_replicate]
      split <;> rfl
    rw [this]
    simp
  · intro i _
    have : (Array.replicate ops.size false).getD i false = false := by
      rw [Array.getD_eq_getD_getElem?, Array.getElem?_replicate]
      split <;> rfl
    rw [this]
    simp
  · intro t k hk hag _ d hd
    rw [hT0]
    have hl := hslot t 0 k (Nat.zero_le _) hk (fun i o hi hdst hik => by
      have h3 := (hag i o hi hdst).2 hik.2
      have : (Array.replicate ops.size false).getD i false = false := by
        rw [Array.getD_eq_getD_getElem?, Array.getElem?_replicate]
        split <;> rfl
      rw [this] at h3
      cases h3)
    rw [hl, hE0] at hd
    exact he t d hd

theorem draw_sound {F : CallF} (hF : SoundF X F) {nt : Nat} {ops : Array Oper} {drw : Bool} {Q : Exit → Act → World → Prop} (hD : DrawFacts X (fun _ => drw) [] al ops) {e e' : Env} {a : Act} (hev : evOps X F nt drw ops ops.toList e H = some (e', H'))
    (hs : Sim X ok w ι H) (he : EnvRep ok w ι H e a.tmps) (hnt : nt ≤ a.tmps.size) (hQ : ∀ a' w', Out X H.length ok w ι H a e' H' a' w' → Q .normal a' w') :
    wpAny X.P .any ops Q ops.size (Array.replicate ops.size false) a w := by
  obtain ⟨E, T, hE0, hT0, hEn, hTn, hstep⟩ := trace_exists hev
  exact draw_sound0 hF hD hE0 hT0 hEn hTn hstep (fun i j x y _ _ hc => by simp at hc) hs he hnt hQ
theorem draw_soundL {F : CallF} (hF : SoundF X F) {nt : Nat} {ops : Array Oper} {ow : List Nat} {Q : Exit → Act → World → Prop} (hD : DrawFacts X (bwD ow) L al ops) {e e' : Env} {a : Act} (hev : evOpsL X F nt ow ops L 0 [] [] ops.toList e H = some (e', H'))
    (hs : Sim X ok w ι H) (he : EnvRep ok w ι H e a.tmps) (hnt : nt ≤ a.tmps.size) (hQ : ∀ a' w', Out X H.length ok w ι H a e' H' a' w' → Q .normal a' w') :
    wpAny X.P .any ops Q ops.size (Array.replicate ops.size false) a w := by
  obtain ⟨E, T, hE0, hT0, hEn, hTn, hstep⟩ := trace_existsL hev
  refine draw_sound0 hF hD hE0 hT0 hEn hTn hstep ?_ hs he hnt hQ
  rw [← hE0, ← hT0] at hev
  intro i j x y hi hj hc hne gi gj
  exact trOk_of (fun k o hk => hstep k o (by simpa using hk)) ops.toList 0 [] [] _ (fun m => by simp) hev (fun i x hik => by omega) (fun j y hjk => by omega) i j x y hi hj hc hne gi gj (Nat.zero_le _)

end
end Go.Ev
/-
  Regions, code, functions: what the evaluator says is what the program does.
-/
namespace Go.Ev

section
variable {X : Cx} {ok ok' : Nat → Prop} {w w' : World} {ι : Iota} {H H' : Heap}

theorem wanted_of_guard {ops : Array Oper} {e : Env} {a : Act} (he : EnvRep ok w ι H e a.tmps) {o : Oper} {b : Bool} (h : guardQ ops e o.guard = some b) : Region.wanted o (yielded ops a.tmps) = b :=
  wanted_of_guard' (fun _ _ t _ _ d hd => he t d hd) h

theorem put_env {e : Env} {a : Act} {dst : Option Tmp} {d : D} {v : Value} {nt : Nat} (he : EnvRep ok w ι H e a.tmps) (hd : Rep ok w ι H d v) (hn : nt ≤ a.tmps.size) (ht : dstOk nt dst = true) : EnvRep ok w ι H (putE e dst d) (a.put dst v).tmps := by
  cases dst with
  | none => exact he
  | some t =>
    have ht' : t < nt := by simpa [dstOk] using ht
    exact he.put hd (Nat.lt_of_lt_of_le ht' hn)

theorem evOps_sound {F : CallF} (hF : SoundF X F) {nt : Nat} {drw : Bool} {ops : Array Oper} {Q : Exit → Act → World → Prop} : ∀ {l : List Oper} {e e' : Env} {H H' : Heap} {ok : Nat → Prop} {w : World} {ι : Iota} {a : Act}, evOps X F nt drw ops l e H = some (e', H') →
    Sim X ok w ι H → EnvRep ok w ι H e a.tmps → nt ≤ a.tmps.size → (∀ a' w', Out X H.length ok w ι H a e' H' a' w' → Q .normal a' w') → wpList X.P ops Q l a w
  | [], e, e', H, H', ok, w, ι, a, h, hs, he, hn, hQ => by
    simp only [evOps, Option.some.injEq, Prod.mk.injEq] at h
    obtain ⟨rfl, rfl⟩ := h
    exact hQ a w ⟨rfl, rfl, ι, ok, hs, he, .refl _ (Nat.le_refl _)⟩
  | o :: l, e, e', H, H', ok, w, ι, a, h, hs, he, hn, hQ => by
    simp only [evOps] at h
    split at h
    · rename_i hdst hg
      split at h
      · rename_i d H1 ho
        have hw := wanted_of_guard he hg
        simp only [wpList, hw, if_true]
        refine .inl ?_
        unfold Oper.wp
        refine Goes.upon ((opW_goes hF hs he ho).mono fun v w1 hp => ?_)
        obtain ⟨ι1, ok1, k1, k2, k3⟩ := hp
        obtain ⟨s1, s2⟩ := put_size a o.dst v
        refine evOps_sound hF h k1 (put_env (he.evol' hs k3) k2 hn hdst) (by omega) fun a2 w2 hout => hQ a2 w2 ?_
        obtain ⟨t1, t2, ι2, ok2, u1, u2, u3⟩ := hout
        exact ⟨by omega, by rw [t2, s2], ι2, ok2, u1, u2, k3.trans (u3.mono k3.nle.2)⟩
      · cases h
    · rename_i hdst hg
      have hw := wanted_of_guard he hg
      simp only [wpList, hw, Bool.false_eq_true, if_false]
      obtain ⟨s1, s2⟩ := put_size a o.dst undef
      refine evOps_sound hF h hs (put_env he undef_rep hn hdst) (by omega) fun a2 w2 hout => hQ a2 w2 ?_
      obtain ⟨t1, t2, rest⟩ := hout
      exact ⟨by omega, by rw [t2, s2], rest⟩
    · cases h

theorem look_keepE : ∀ {ks : List Nat} {e : Env} {t : Nat} {d : D}, look (keepE ks e) t = some d → look e t = some d
  | [], e, t, d, h => by simp [keepE, look] at h
  | k :: ks, e, t, d, h => by
    simp only [keepE] at h
    split at h
    · rename_i x hk
      simp only [look] at h
      split at h
      · rename_i hkt
        subst hkt
        rw [hk]
        exact h
      · exact look_keepE h
    · exact look_keepE h

theorem look_envClosed {n : Nat} : ∀ {e : Env} {t : Nat} {d : D}, envClosed n e = true → look e t = some d → closed n d = true
  | [], t, d, _, h => by simp [look] at h
  | (s, x) :: e, t, d, hc, h => by
    simp only [envClosed, Bool.and_eq_true] at hc
    simp only [look] at h
    split at h
    · injection h with h
      subst h
      exact hc.1
    · exact look_envClosed hc.2 h

theorem enterB_sound {f n0 id : Nat} {e e' : Env} {tmps : Array Value} (h : enterB X f n0 id e H = some (e', H')) (hn : n0 ≤ H.length) (hs : Sim X ok w ι H) (he : EnvRep ok w ι H e tmps) :
    Sim X ok w ι H' ∧ EnvRep ok w ι H' e' tmps ∧ Evol n0 ok w ι H ok w ι H' := by
  unfold enterB at h
  split at h
  · simp only [Option.some.injEq, Prod.mk.injEq] at h
    obtain ⟨rfl, rfl⟩ := h
    exact ⟨hs, he, .refl _ hn⟩
  · simp only [Option.some.injEq, Prod.mk.injEq] at h
    obtain ⟨rfl, rfl⟩ := h
    exact ⟨hs, fun t d ht => he t d (look_keepE ht), .refl _ hn⟩
  · rename_i ks k hk
    have hkeep : EnvRep ok w ι H (keepE ks e) tmps := fun t d ht => he t d (look_keepE ht)
    split at h
    · simp only [Option.some.injEq, Prod.mk.injEq] at h
      obtain ⟨rfl, rfl⟩ := h
      exact ⟨hs, hkeep, .refl _ hn⟩
    · rename_i hlen
      split at h
      · rename_i hc
        rw [Bool.and_eq_true] at hc
        simp only [Option.some.injEq, Prod.mk.injEq] at h
        obtain ⟨rfl, rfl⟩ := h
        have hm : n0 + k ≤ H.length := by omega
        exact ⟨cut_sim hm hs hc.2, hkeep.evol hs (cut_evol hm) (fun t d ht => look_envClosed hc.1 ht), (cut_evol hm).mono (by omega)⟩
      · cases h

theorem enterF_sound {f n0 id : Nat} {e e' : Env} {tmps : Array Value} (h : enterF X f n0 id e H = some (e', H')) (hn : n0 ≤ H.length) (hs : Sim X ok w ι H) (he : EnvRep ok w ι H e tmps) :
    ∃ ok' ι', Sim X ok' w ι' H' ∧ EnvRep ok' w ι' H' e' tmps ∧ Evol n0 ok w ι H ok' w ι' H' := by
  have stepC : ∀ {e e' : Env} {ok : Nat → Prop} {H H' : Heap}, enterC X f n0 id e H = some (e', H') → n0 ≤ H.length → Sim X ok w ι H → EnvRep ok w ι H e tmps →
      ∃ ι', Sim X ok w ι' H' ∧ EnvRep ok w ι' H' e' tmps ∧ Evol n0 ok w ι H ok w ι' H' := by
    intro e e' ok H H' h hn hs he
    unfold enterC at h
    split at h
    · obtain ⟨h1, h2, h3⟩ := enterB_sound h hn hs he
      exact ⟨ι, h1, h2, h3⟩
    · exact retE_sound h hn hs he
  unfold enterF at h
  split at h
  · obtain ⟨ι', h1, h2, h3⟩ := stepC h hn hs he
    exact ⟨ok, ι', h1, h2, h3⟩
  · split at h
    · rename_i e1 H1 hfz
      obtain ⟨ok', k1, k2, k3⟩ := freezeE_sound hfz hs he
      obtain ⟨ι', h1, h2, h3⟩ := stepC h (Nat.le_trans hn k3.nle.2) k1 k2
      exact ⟨ok', ι', h1, h2, (k3.mono hn).trans h3⟩
    · cases h

theorem enter_sound {f n0 id : Nat} {e e' : Env} {tmps : Array Value} (h : enter X f n0 id e H = some (e', H')) (hn : n0 ≤ H.length) (hs : Sim X ok w ι H) (he : EnvRep ok w ι H e tmps) :
    ∃ ok' ι', Sim X ok' w ι' H' ∧ EnvRep ok' w ι' H' e' tmps ∧ Evol n0 ok w ι H ok' w ι' H' := by
  unfold enter at h
  split at h
  · exact enterF_sound h hn hs he
  · split at h
    · rename_i H1 hst
      obtain ⟨ok1, k1, k2, k3⟩ := stayIn_sound hst hs
      obtain ⟨ok2, ι', h1, h2, h3⟩ := enterF_sound h (by rw [k3]; exact hn) k1 (fun t d ht => ⟨(he t d ht).1, (he t d ht).2.evol hs k2 (he t d ht).2.closed⟩)
      exact ⟨ok2, ι', h1, h2, (k2.mono hn).trans h3⟩
    · cases h

def exOf : Ex → Exit
  | .normal => .normal
  | .exit id => .exit id
  | .ret => .ret

def CQ (X : Cx) (n : Nat) (ok : Nat → Prop) (w : World) (ι : Iota) (H : Heap) (a : Act) (ex : Ex) (e' : Env) (H' : Heap) (x : Exit) (a' : Act) (w' : World) : Prop :=
  x = exOf ex ∧ Out X n ok w ι H a e' H' a' w'

def SoundC (X : Cx) (n : Nat) : Prop :=
  ∀ (f nt n0 : Nat) (c : Code) (e e' : Env) (H H' : Heap) (ex : Ex) (ok : Nat → Prop) (w : World) (ι : Iota) (a : Act), evC X n f nt n0 c e H = some (ex, e', H') → okCode X f c = true → n0 ≤ H.length → Sim X ok w ι H → EnvRep ok w ι H e a.tmps → nt ≤ a.tmps.size →
    c.wp X.P (CQ X n0 ok w ι H a ex e' H') a w

theorem Out.trans {n : Nat} {a a1 a2 : Act} {w1 w2 : World} {H1 H2 : Heap} {ok1 : Nat → Prop} {ι1 : Iota} {e2 : Env} (h1 : a1.tmps.size = a.tmps.size) (h2 : a1.defers = a.defers) (h3 : Evol n ok w ι H ok1 w1 ι1 H1)
    (h : Out X n ok1 w1 ι1 H1 a1 e2 H2 a2 w2) : Out X n ok w ι H a e2 H2 a2 w2 := by
  obtain ⟨t1, t2, ι2, ok2, u1, u2, u3⟩ := h
  exact ⟨by omega, by rw [t2, h2], ι2, ok2, u1, u2, h3.trans u3⟩

theorem ofBool {t : Bool} {c : Operand} {e : Env} {a : Act} (hs : Sim X ok w ι H) (he : EnvRep ok w ι H e a.tmps) (h : opd X e c = some (.bool t)) : a.eval c = .bool t := by
  have := opd_rep hs he h
  generalize a.eval c = v at this ⊢
  cases this
  rfl

theorem argEnv_look : ∀ (l : List D) (i t : Nat) (d : D), look (argEnv i l) t = some d → i ≤ t ∧ l[t - i]? = some d
  | [], i, t, d, h => by simp [argEnv, look] at h
  | x :: l, i, t, d, h => by
    simp only [argEnv, look] at h
    split at h
    · rename_i hit
      subst hit
      injection h with h
      subst h
      exact ⟨Nat.le_refl _, by simp⟩
    · obtain ⟨h1, h2⟩ := argEnv_look l (i + 1) t d h
      refine ⟨by omega, ?_⟩
      rw [show t - i = (t - (i + 1)) + 1 by omega, List.getElem?_cons_succ]
      exact h2

def resOne (tmps : Array Value) : ResultVar → Sem Value
  | .tmp t => pure (tmps.getD t undef)
  | .cell a t => do loadVar t (← asAddr (tmps.getD a undef))

theorem res_run {e : Env} {tmps : Array Value} (hs : Sim X ok w ι H) (he : EnvRep ok w ι H e tmps) : ∀ {l : List ResultVar} {ds : List D}, resD X e H l = some ds →
    ∃ vs : List Value, (l.mapM (resOne tmps)).run X.P w = .ok vs w ∧ RepL ok w ι H ds vs
  | [], ds, h => by
    simp only [resD, Option.some.injEq] at h
    subst h
    exact ⟨[], by simp, rfl, by simp⟩
  | .tmp t :: l, ds, h => by
    simp only [resD] at h
    split at h
    · rename_i d ds' h1 h2
      injection h with h
      subst h
      obtain ⟨vs, q1, q2⟩ := res_run hs he h2
      refine ⟨tmps.getD t undef :: vs, ?_, by simp [q2.1], fun j x hx => ?_⟩
      · rw [List.mapM_cons]
        simp only [resOne, Sem.run_bind, Sem.run_pure, Result.andThen_ok, q1]
      · cases j with
        | zero =>
          simp only [List.getElem?_cons_zero, Option.some.injEq] at hx
          subst hx
          exact (he t d h1).2
        | succ j => exact q2.2 j x (by simpa using hx)
    · cases h
  | .cell a t :: l, ds, h => by
    simp only [resD] at h
    split at h
    · rename_i d ds' h1 h2
      injection h with h
      subst h
      obtain ⟨vs, q1, q2⟩ := res_run hs he h2
      cases hl : look e a with
      | none => simp [hl] at h1
      | some p =>
        simp only [hl, Option.bind_some] at h1
        obtain ⟨_, hr⟩ := he a p hl
        obtain ⟨v, r1, r2⟩ := load_run hs hr h1
        have hptr : ∃ ad, tmps.getD a undef = .pointer (some ad) := by
          unfold ldD at h1
          split at h1
          · rename_i hm; exact hr.ptr hm
          · rename_i hm; exact hr.ptr hm
          · cases h1
        obtain ⟨ad, had⟩ := hptr
        rw [had] at r1
        simp only [Instr.loadAt, Instr.sureAddr, Sem.run_bind, Sem.run_pure, Result.andThen_ok] at r1
        refine ⟨v :: vs, ?_, by simp [q2.1], fun j x hx => ?_⟩
        · rw [List.mapM_cons]
          simp only [resOne, had, asAddr, Sem.run_bind, Sem.run_pure, Result.andThen_ok, r1, q1]
        · cases j with
          | zero =>
            simp only [List.getElem?_cons_zero, Option.some.injEq] at hx
            subst hx
            exact r2
          | succ j => exact q2.2 j x (by simpa using hx)
    · cases h

theorem oneOrTup_rep {ds : List D} {vs : List Value} (h : RepL ok w ι H ds vs) : Rep ok w ι H (oneOrTup ds) (if hh : vs.toArray.size = 1 then vs.toArray[0] else .tuple vs.toArray) := by
  unfold oneOrTup
  split
  · rename_i d
    obtain ⟨v, us, rfl, r1, h2⟩ := repL_cons h
    obtain rfl := repL_nil h2
    simpa using r1
  · rename_i hne
    have hl : vs.toArray.size ≠ 1 := by
      intro e
      have : ds.length = 1 := by rw [← h.1]; simpa using e
      match ds, this with
      | [d], _ => exact hne d rfl
    rw [dif_neg hl]
    exact .tup (by simpa using h.1) fun j d hj => by
      have := h.2 j d hj
      simpa [Array.getD_eq_getD_getElem?, List.getD_eq_getElem?_getD] using this

theorem results_run {fn : Func} {e : Env} {tmps : Array Value} {ds : List D} (hs : Sim X ok w ι H) (he : EnvRep ok w ι H e tmps) (h : resD X e H fn.results.toList = some ds) :
    ∃ v, (results fn tmps).run X.P w = .ok v w ∧ Rep ok w ι H (oneOrTup ds) v := by
  obtain ⟨vs, q1, q2⟩ := res_run hs he h
  refine ⟨_, ?_, oneOrTup_rep q2⟩
  have hfun : results fn tmps = (do let vs ← fn.results.mapM (resOne tmps); pure (if h : vs.size = 1 then vs[0] else .tuple vs)) := by
    unfold results
    congr 1
  rw [hfun, Sem.run_bind, Array.mapM_eq_mapM_toList, Sem.run_map, q1]
  rfl

theorem rounds_mono {P : Program} {c : Code} {Q Q' : Exit → Act → World → Prop} (hq : ∀ x a w, Q x a w → Q' x a w) : ∀ (n : Nat) (a : Act) (w : World), Code.rounds P c Q n a w → Code.rounds P c Q' n a w
  | 0, _, _, h => h
  | n + 1, a, w, h => by
    rw [rounds_succ] at h ⊢
    refine wp_mono h fun x a w hx => ?_
    cases x <;> first | exact hq _ _ _ hx | exact rounds_mono hq n a w hx

theorem sound (hG : Good X) : ∀ n, SoundF X (evF X n) ∧ SoundC X n := by
  intro n
  induction n using Nat.strongRecOn with
  | _ n ih =>
    cases n with
    | zero =>
      refine ⟨fun f args H r H' ok w ι vs h => by simp [evF] at h, fun f nt n0 c e e' H H' ex ok w ι a h => by simp [evC] at h⟩
    | succ n =>
      have ihF := (ih n (by omega)).1
      have ihC := (ih n (by omega)).2
      constructor
      · -- a function
        intro f args H r H' ok w ι vs h hs hv
        simp only [evF] at h
        split at h
        · rename_i r0 hcon
          injection h with h
          subst h
          exact (hG.con f args H r H' hcon ok w ι vs hs hv).mono fun v w' hp => hp.g _
        split at h
        · cases h
        · rename_i fn hf
          split at h
          · rename_i hb
            obtain ⟨h1, rfl⟩ := map_some_pair h
            obtain ⟨v, q1, q2, q3⟩ := hG.ext f fn args r hf hb h1 ok w ι H vs hs hv
            exact Goes.value q1 ⟨ι, ok, hs, q2, .refl _ (Nat.le_refl _), fun _ i ds hi hd => by have := hget_lt hd; omega⟩
          · rename_i c hb
            cases hbad : X.bad f with
            | true => simp [hbad] at h
            | false =>
            simp only [hbad, Bool.false_eq_true, if_false] at h
            have hokc := hG.okc f fn c hf hb hbad
            have henter : (callFunc f vs.toArray).run X.P w = .ok (.enter f vs.toArray) w := Go.Proofs.enters_of hf (hG.ng f fn hf) hb _ _
            have key : ∀ ex e H1 ds, (ex = .normal ∨ ex = .ret) → evC X n f fn.ntmps H.length c (argEnv 0 args) H = some (ex, e, H1) → resD X e H1 fn.results.toList = some ds → packS (X.gr f && X.byRef f) (X.fzr f) H.length H1 (oneOrTup ds) = some (r, H') →
                Goes X.P (callFunc f vs.toArray) w (CallPostG X (X.gr f && X.byRef f) ok w ι H r H') := by
              intro ex e H1 ds hex hc hr hp
              unfold Goes
              rw [henter]
              simp only
              refine calls_of_wp hf hb (wp_mono (ihC f fn.ntmps H.length c (argEnv 0 args) e H H1 ex ok w ι ⟨vs.toArray ++ Array.replicate (fn.ntmps - vs.toArray.size) undef, []⟩ hc hokc (Nat.le_refl _) hs ?_ ?_) ?_)
              · intro t d ht
                obtain ⟨_, h2⟩ := argEnv_look args 0 t d ht
                rw [Nat.sub_zero] at h2
                have hlt : t < vs.length := by rw [hv.1]; exact (List.getElem?_eq_some_iff.1 h2).1
                refine ⟨by simp; omega, ?_⟩
                have := hv.2 t d h2
                rw [Array.getD_eq_getD_getElem?, Array.getElem?_append_left (by simpa using hlt)]
                simpa [List.getD_eq_getElem?_getD] using this
              · simp
                omega
              · rintro x a' w' ⟨rfl, k1, k2, ι1, ok1, k3, k4, k5⟩
                obtain ⟨v, q1, q2⟩ := results_run (fn := fn) k3 k4 hr
                have hpost : CallPostG X (X.gr f && X.byRef f) ok w ι H r H' v w' := by
                  cases hgr : (X.gr f && X.byRef f) with
                  | true =>
                    rw [hgr] at hp
                    cases hz : X.fzr f with
                    | false =>
                      rw [hz] at hp
                      simp only [packS, packG, Option.some.injEq, Prod.mk.injEq] at hp
                      obtain ⟨rfl, rfl⟩ := hp
                      exact ⟨ι1, ok1, k3, q2, k5, fun h => by cases h⟩
                    | true =>
                      rw [hz] at hp
                      simp only [packS, packG] at hp
                      split at hp
                      · rename_i r1 l hst
                        have h1 := stay_rep k3 (okF := okL ok1 ι1 H1 l) (fun b hb => .inl hb) _ _ _ _ _ q2 hst (fun i hi ds b s hd hb => .inr ⟨i, ds, s, hi, hd, hb⟩)
                        simp only [Option.some.injEq, Prod.mk.injEq] at hp
                        obtain ⟨rfl, rfl⟩ := hp
                        exact ⟨ι1, _, clr_sim k3 l, h1.lift (ι := ι1) (H := clr H1 l), k5.trans ((clr_evol l).mono k5.nle.2), fun h => by cases h⟩
                      · cases hp
                  | false =>
                    rw [hgr] at hp
                    obtain ⟨ok2, ι2, p1, p2, p3, p4⟩ := packR_rep k5.nle.2 k3 q2 hp
                    exact ⟨ι2, ok2, p1, p2, k5.trans p3, fun _ => p4⟩
                rcases hex with rfl | rfl
                · exact ⟨k2, v, q1, v, rfl, hpost⟩
                · exact ⟨k2, v, q1, v, rfl, hpost⟩
            split at h
            · rename_i e H1 hc
              split at h
              · rename_i ds hr
                exact key _ e H1 ds (.inl rfl) hc hr h
              · cases h
            · rename_i e H1 hc
              split at h
              · rename_i ds hr
                exact key _ e H1 ds (.inr rfl) hc hr h
              · cases h
            · cases h
      · -- code
        intro f nt n0 c e e' H H' ex ok w ι a h hoc hn hs he hnt
        have again : ∀ (ex1 : Ex) (e1 : Env) (H1 : Heap) (Q : Exit → Act → World → Prop) (c1 : Code), evC X n f nt n0 c1 e H = some (ex1, e1, H1) → okCode X f c1 = true → (∀ a' w', Out X n0 ok w ι H a e1 H1 a' w' → Q (exOf ex1) a' w') → c1.wp X.P Q a w := by
          intro ex1 e1 H1 Q c1 h1 hoc1 hQ
          refine wp_mono (ihC f nt n0 c1 e e1 H H1 ex1 ok w ι a h1 hoc1 hn hs he hnt) ?_
          rintro x a' w' ⟨rfl, hout⟩
          exact hQ a' w' hout
        have here : Out X n0 ok w ι H a e H a w := ⟨rfl, rfl, ι, ok, hs, he, .refl _ hn⟩
        cases c with
        | skip =>
          simp only [evC, Option.some.injEq, Prod.mk.injEq] at h
          obtain ⟨rfl, rfl, rfl⟩ := h
          exact wp_skip ⟨rfl, here⟩
        | label l =>
          simp only [evC, Option.some.injEq, Prod.mk.injEq] at h
          obtain ⟨rfl, rfl, rfl⟩ := h
          exact wp_label ⟨rfl, here⟩
        | exit id =>
          simp only [evC, Option.some.injEq, Prod.mk.injEq] at h
          obtain ⟨rfl, rfl, rfl⟩ := h
          exact wp_exit ⟨rfl, here⟩
        | ret =>
          simp only [evC, Option.some.injEq, Prod.mk.injEq] at h
          obtain ⟨rfl, rfl, rfl⟩ := h
          exact wp_ret ⟨rfl, here⟩
        | region id ops draw =>
          simp only [evC] at h
          split at h
          · cases h
          · rename_i e1 H1 hen
            obtain ⟨ok1, ι1, s1, s2, s3⟩ := enter_sound hen hn hs he
            cases ho : evR X (evF X n) f nt id draw ops e1 H1 with
            | none => simp [ho] at h
            | some r =>
              obtain ⟨e2, H2⟩ := r
              simp only [ho, Option.map_some, Option.some.injEq, Prod.mk.injEq] at h
              obtain ⟨rfl, rfl, rfl⟩ := h
              cases draw with
              | false =>
                simp only [evR] at ho
                refine wp_region_list (evOps_sound ihF ho s1 s2 hnt fun a' w' hout => ⟨rfl, ?_⟩)
                obtain ⟨t1, t2, ι2, ok2, u1, u2, u3⟩ := hout
                exact ⟨t1, t2, ι2, ok2, u1, u2, s3.trans (u3.mono s3.nle.2)⟩
              | true =>
                simp only [okCode, Bool.not_true, Bool.false_or] at hoc
                simp only [evR] at ho
                obtain ⟨d1, d2⟩ := step_same (w' := { w with drawn := w.drawn + 1 }) s1 ⟨rfl, rfl, rfl⟩ rfl
                cases hlp : X.lp f id with
                | none =>
                  rw [hlp] at ho hoc
                  simp only [regW] at ho
                  refine wp_region_any hG.mixed (draw_sound ihF (drawFacts hoc) ho d1 (s2.evol' s1 d2) hnt fun a' w' hout => ⟨rfl, ?_⟩)
                  obtain ⟨t1, t2, ι2, ok2, u1, u2, u3⟩ := hout
                  exact ⟨t1, t2, ι2, ok2, u1, u2, s3.trans ((d2.mono s3.nle.2).trans (u3.mono s3.nle.2))⟩
                | some q =>
                  obtain ⟨L, ow⟩ := q
                  rw [hlp] at ho hoc
                  refine wp_region_any hG.mixed (draw_soundL ihF (drawFacts hoc) ho d1 (s2.evol' s1 d2) hnt fun a' w' hout => ⟨rfl, ?_⟩)
                  obtain ⟨t1, t2, ι2, ok2, u1, u2, u3⟩ := hout
                  exact ⟨t1, t2, ι2, ok2, u1, u2, s3.trans ((d2.mono s3.nle.2).trans (u3.mono s3.nle.2))⟩
        | seq x y =>
          simp only [okCode, Bool.and_eq_true] at hoc
          simp only [evC] at h
          refine wp_seq ?_
          split at h
          · rename_i e1 H1 hx
            refine again _ e1 H1 _ x hx hoc.1 fun a1 w1 hout => ?_
            obtain ⟨t1, t2, ι1, ok1, u1, u2, u3⟩ := hout
            refine wp_mono (ihC f nt n0 y e1 e' H1 H' ex ok1 w1 ι1 a1 h hoc.2 u3.nle.2 u1 u2 (by omega)) ?_
            rintro z a2 w2 ⟨rfl, hout2⟩
            exact ⟨rfl, Out.trans t1 t2 u3 hout2⟩
          · rename_i hne
            refine again ex e' H' _ x h hoc.1 fun a1 w1 hout => ?_
            cases ex with
            | normal => exact absurd h (hne _ _)
            | exit id => exact ⟨rfl, hout⟩
            | ret => exact ⟨rfl, hout⟩
        | cond c x y =>
          simp only [okCode, Bool.and_eq_true] at hoc
          simp only [evC] at h
          split at h
          · rename_i t hc
            refine wp_cond (ofBool hs he hc) (again ex e' H' _ _ h (by cases t; exact hoc.2; exact hoc.1) fun a1 w1 hout => ⟨rfl, hout⟩)
          · cases h
        | block id c =>
          simp only [okCode] at hoc
          simp only [evC] at h
          refine wp_block ?_
          split at h
          · rename_i i e1 H1 hc
            refine again _ e1 H1 _ c hc hoc fun a1 w1 hout => ?_
            simp only [exOf, Exit.inBlock]
            split at h
            · rename_i hi
              simp only [Option.some.injEq, Prod.mk.injEq] at h
              obtain ⟨rfl, rfl, rfl⟩ := h
              rw [if_pos hi]
              exact ⟨rfl, hout⟩
            · rename_i hi
              simp only [Option.some.injEq, Prod.mk.injEq] at h
              obtain ⟨rfl, rfl, rfl⟩ := h
              rw [if_neg hi]
              exact ⟨rfl, hout⟩
          · rename_i hne
            refine again ex e' H' _ c h hoc fun a1 w1 hout => ?_
            cases ex with
            | normal => exact ⟨rfl, hout⟩
            | exit i => exact absurd h (hne _ _ _)
            | ret => exact ⟨rfl, hout⟩
        | scope c =>
          simp only [okCode] at hoc
          simp only [evC] at h
          refine wp_scope_straight (again ex e' H' _ c h hoc fun a1 w1 hout => ?_)
          cases ex <;> exact ⟨rfl, hout⟩
        | loop c =>
          simp only [okCode] at hoc
          have key : ∀ m, m ≤ n → ∀ (e e' : Env) (H H' : Heap) (ex : Ex) (ok : Nat → Prop) (w : World) (ι : Iota) (a : Act), evC X (m + 1) f nt n0 (.loop c) e H = some (ex, e', H') → n0 ≤ H.length → Sim X ok w ι H → EnvRep ok w ι H e a.tmps → nt ≤ a.tmps.size →
              Code.rounds X.P c (CQ X n0 ok w ι H a ex e' H') (m + 1) a w := by
            intro m
            induction m with
            | zero =>
              intro _ e e' H H' ex ok w ι a h
              simp only [evC] at h
              simp at h
            | succ m ihm =>
              intro hm e e' H H' ex ok w ι a h hn hs he hnt
              rw [rounds_succ]
              rw [evC] at h
              split at h
              · rename_i e1 H1 hc
                refine wp_mono ((ih (m + 1) (by omega)).2 f nt n0 c e e1 H H1 .normal ok w ι a hc hoc hn hs he hnt) ?_
                rintro x a1 w1 ⟨rfl, t1, t2, ι1, ok1, u1, u2, u3⟩
                have hrec := ihm (by omega) e1 e' H1 H' ex ok1 w1 ι1 a1 h u3.nle.2 u1 u2 (by omega)
                refine rounds_mono ?_ _ _ _ hrec
                rintro x a2 w2 ⟨hx, hout⟩
                exact ⟨hx, Out.trans t1 t2 u3 hout⟩
              · rename_i hne
                refine wp_mono ((ih (m + 1) (by omega)).2 f nt n0 c e e' H H' ex ok w ι a h hoc hn hs he hnt) ?_
                rintro x a1 w1 ⟨rfl, hout⟩
                cases ex with
                | normal => exact absurd h (hne _ _)
                | exit id => exact ⟨rfl, hout⟩
                | ret => exact ⟨rfl, hout⟩
          exact wp_loop_rounds _ (key n (Nat.le_refl _) e e' H H' ex ok w ι a h hn hs he hnt)
        | goto l => simp [evC] at h
        | rangeFunc _ _ _ _ => simp [evC] at h
        | refuse _ => simp [evC] at h

end
end Go.Ev
/-
  The evaluator without fuel.
-/
namespace Go.Ev

section
variable {X : Cx}

def FLe (F G : CallF) : Prop := ∀ f args H r, F f args H = some r → G f args H = some r

theorem callL_mono {F G : CallF} (h : FLe F G) {f : Nat} {args : List D} {H : Heap} {r : D × Heap} (hc : callL F f args H = some r) : callL G f args H = some r := by
  cases args with
  | nil => simp [callL] at hc
  | cons a rest =>
    cases a with
    | optr i st off =>
      simp only [callL] at hc ⊢
      cases hd : hget H i with
      | none => simp [hd] at hc
      | some ds =>
        simp only [hd] at hc ⊢
        split at hc
        · rename_i hf
          rw [if_pos hf]
          cases hF : F f (.optr 0 st off :: rest) [some ds] with
          | none => simp [hF] at hc
          | some q => rw [h _ _ _ _ hF]; rw [hF] at hc; exact hc
        · cases hc
    | _ => simp [callL] at hc
theorem callM_mono {F G : CallF} (h : FLe F G) {f : Nat} {args : List D} {H : Heap} {r : D × Heap} (hc : callM F f args H = some r) : callM G f args H = some r := by
  unfold callM at hc ⊢
  split at hc
  · cases hc
  · unfold callP at hc ⊢
    split at hc
    · split at hc
      · rename_i hf
        rw [if_pos hf]
        split at hc
        · rename_i hF
          rw [h _ _ _ _ hF]
          exact hc
        · cases hc
      · cases hc
    · cases hc
theorem callK_mono {F G : CallF} (h : FLe F G) {f : Nat} {args : List D} {H : Heap} {r : D × Heap} (hc : callK X F f args H = some r) : callK X G f args H = some r := by
  unfold callK at hc ⊢
  split
  · rename_i hl
    rw [if_pos hl] at hc
    exact callM_mono h hc
  · rename_i hl
    rw [if_neg hl] at hc
    exact callL_mono h hc
theorem callG_mono {F G : CallF} (h : FLe F G) {f : Nat} {args : List D} {H : Heap} {r : D × Heap} (hc : callG F f args H = some r) : callG G f args H = some r := by
  unfold callG callQ at hc ⊢
  split at hc
  · split at hc
    · rename_i hf
      rw [if_pos hf]
      split at hc
      · rename_i hF
        rw [h _ _ _ _ hF]
        exact hc
      · cases hc
    · cases hc
  · cases hc
theorem callV_mono {F G : CallF} (h : FLe F G) {f : Nat} {args : List D} {H : Heap} {r : D × Heap} (hc : callV X F f args H = some r) : callV X G f args H = some r := by
  unfold callV at hc ⊢
  split
  · rename_i hb
    rw [if_pos hb] at hc
    split
    · rename_i hl
      rw [if_pos hl] at hc
      split
      · rename_i hg
        rw [if_pos hg] at hc
        exact callG_mono h hc
      · rename_i hg
        rw [if_neg hg] at hc
        exact callK_mono h hc
    · rename_i hl
      rw [if_neg hl] at hc
      exact h _ _ _ _ hc
  · rename_i hb
    rw [if_neg hb] at hc
    split
    · rename_i ha
      rw [if_pos ha] at hc
      cases hF : F f args [] with
      | none => simp [hF] at hc
      | some q => rw [h _ _ _ _ hF]; rw [hF] at hc; exact hc
    · rename_i ha
      rw [if_neg ha] at hc
      cases hz : freezeArgs H args with
      | none => simp [hz] at hc
      | some args' =>
        simp only [hz] at hc ⊢
        cases hF : F f args' [] with
        | none => simp [hF] at hc
        | some q => rw [h _ _ _ _ hF]; rw [hF] at hc; exact hc

theorem callW_mono {F G : CallF} (h : FLe F G) {f : Nat} {args : List D} {H : Heap} {r : D × Heap} (hc : callW X F f args H = some r) : callW X G f args H = some r := by
  by_cases hp : (X.pureF f && !X.byRef f) = true
  · obtain ⟨h4, h3, h1⟩ := callW_pure hp hc
    unfold callW
    rw [if_pos hp]
    rcases h1 with ⟨h1, h2⟩ | ⟨h1, hpe, hfl, hv, args', hfz, h2⟩
    · rw [if_pos h1, h _ _ _ _ h2]
      simp only [h3, if_true, ← h4]
    · rw [if_neg h1]
      subst h4
      simp only [hpe, hfl, Bool.and_self, if_true, hfz, h _ _ _ _ h2, h3, hv]
  · unfold callW at hc ⊢
    rw [if_neg hp] at hc ⊢
    exact callV_mono h hc
theorem callB_mono {F G : CallF} (h : FLe F G) {f : Nat} {args : List D} {H : Heap} {r : D × Heap} (hc : callB X F f args H = some r) : callB X G f args H = some r := by
  unfold callB at hc ⊢
  split at hc
  · exact callW_mono h hc
  · split at hc
    · exact callW_mono h hc
    · cases hc
theorem callD_mono {F G : CallF} (h : FLe F G) {f : Nat} {args : List D} {H : Heap} {r : D × Heap} (hc : callD X F f args H = some r) : callD X G f args H = some r := by
  unfold callD at hc ⊢
  split at hc
  · exact callB_mono h hc
  · split at hc
    · exact callW_mono h hc
    · cases hc

theorem evOp_mono {F G : CallF} (h : FLe F G) {o : Op} {e : Env} {H : Heap} {r : D × Heap} (ho : evOp X F o e H = some r) : evOp X G o e H = some r := by
  cases o with
  | call c =>
    simp only [evOp] at ho ⊢
    cases hc : c.callee with
    | builtin b => cases ha : opds X e c.args.toList <;> simp only [hc, ha] at ho ⊢ <;> first | exact ho | cases ho
    | invoke r m => cases ha : opds X e c.args.toList <;> simp only [hc, ha] at ho ⊢ <;> cases ho
    | value g =>
      simp only [hc] at ho ⊢
      cases ha : opds X e c.args.toList with
      | none => simp [ha] at ho
      | some args =>
        simp only [ha] at ho ⊢
        split at ho
        · exact callD_mono h ho
        · cases ho
  | makeFunc g _ _ => cases g <;> exact ho
  | slice _ _ _ _ m => cases m <;> exact ho
  | _ => exact ho

theorem evOpW_mono {F G : CallF} (h : FLe F G) {drw : Bool} {o : Op} {e : Env} {H : Heap} {r : D × Heap} (ho : evOpW X F drw o e H = some r) : evOpW X G drw o e H = some r := by
  unfold evOpW at ho ⊢
  split at ho
  · exact ho
  · exact ho
  · split at ho
    · cases ho
    · rename_i hb
      rw [if_neg hb]
      exact evOp_mono h ho
  · exact evOp_mono h ho

theorem evOps_mono {F G : CallF} (h : FLe F G) {nt : Nat} {drw : Bool} {ops : Array Oper} : ∀ {l : List Oper} {e : Env} {H : Heap} {r : Env × Heap}, evOps X F nt drw ops l e H = some r → evOps X G nt drw ops l e H = some r
  | [], _, _, _, ho => ho
  | o :: l, e, H, r, ho => by
    simp only [evOps] at ho ⊢
    cases hd : dstOk nt o.dst <;> simp only [hd] at ho ⊢
    · cases ho
    · cases hg : guardQ ops e o.guard with
      | none => simp [hg] at ho
      | some b =>
        cases b <;> simp only [hg] at ho ⊢
        · exact evOps_mono h ho
        · cases hx : evOpW X F drw o.op e H with
          | none => simp [hx] at ho
          | some q =>
            rw [evOpW_mono h hx]
            rw [hx] at ho
            exact evOps_mono h ho

theorem evOpsL_mono {F G : CallF} (h : FLe F G) {nt : Nat} {ow : List Nat} {ops : Array Oper} {L : Pairs} : ∀ {l : List Oper} {k : Nat} {ws : List (Nat × Heap × Heap)} {rs : List (Nat × List Nat)} {e : Env} {H : Heap} {r : Env × Heap}, evOpsL X F nt ow ops L k ws rs l e H = some r → evOpsL X G nt ow ops L k ws rs l e H = some r
  | [], _, _, _, _, _, _, ho => by simpa [evOpsL] using ho
  | o :: l, k, ws, rs, e, H, r, ho => by
    simp only [evOpsL] at ho ⊢
    cases hd : dstOk nt o.dst <;> simp only [hd] at ho ⊢
    · cases ho
    · cases hg : guardQ ops e o.guard with
      | none => simp [hg] at ho
      | some b =>
        cases b <;> simp only [hg] at ho ⊢
        · exact evOpsL_mono h ho
        · cases hx : evOpW X F (bwD ow o.dst) o.op e H with
          | none => simp [hx] at ho
          | some q =>
            rw [evOpW_mono h hx]
            rw [hx] at ho
            simp only at ho ⊢
            split at ho
            · rename_i hc
              rw [if_pos hc]
              exact evOpsL_mono h ho
            · cases ho
theorem evR_mono {F G : CallF} (h : FLe F G) {f nt id : Nat} {draw : Bool} {ops : Array Oper} {e : Env} {H : Heap} {r : Env × Heap} (ho : evR X F f nt id draw ops e H = some r) : evR X G f nt id draw ops e H = some r := by
  unfold evR at ho ⊢
  split at ho
  · exact evOpsL_mono h ho
  · exact evOps_mono h ho

theorem ev_mono : ∀ n, FLe (evF X n) (evF X (n + 1)) ∧ ∀ f nt n0 c e H r, evC X n f nt n0 c e H = some r → evC X (n + 1) f nt n0 c e H = some r
  | 0 => ⟨fun f args H r h => by simp [evF] at h, fun f nt n0 c e H r h => by simp [evC] at h⟩
  | n + 1 => by
    obtain ⟨ihF, ihC⟩ := ev_mono n
    constructor
    · intro f args H r h
      simp only [evF] at h ⊢
      cases hcon : X.con f args H with
      | some q => simp only [hcon] at h ⊢; exact h
      | none =>
      simp only [hcon] at h ⊢
      cases hf : X.P.funcs[f]? with
      | none => simp [hf] at h
      | some fn =>
        simp only [hf] at h ⊢
        cases hb : fn.body with
        | none => simp only [hb] at h ⊢; exact h
        | some c =>
          simp only [hb] at h ⊢
          cases hbad : X.bad f <;> simp only [hbad, Bool.false_eq_true, if_false, if_true] at h ⊢
          · cases hc : evC X n f fn.ntmps H.length c (argEnv 0 args) H with
            | none => simp [hc] at h
            | some q =>
              rw [ihC _ _ _ _ _ _ _ hc]
              rw [hc] at h
              exact h
          · cases h
    · intro f nt n0 c e H r h
      cases c with
      | region id ops draw =>
        rw [evC] at h ⊢
        cases hen : enter X f n0 id e H with
        | none => simp [hen] at h
        | some q =>
          obtain ⟨e1, H1⟩ := q
          simp only [hen] at h ⊢
          cases ho : evR X (evF X n) f nt id draw ops e1 H1 with
          | none => simp [ho] at h
          | some q =>
            rw [evR_mono ihF ho]
            rw [ho] at h
            exact h
      | seq a b =>
        rw [evC] at h ⊢
        cases ha : evC X n f nt n0 a e H with
        | none => simp [ha] at h
        | some q =>
          obtain ⟨ex, e1, H1⟩ := q
          rw [ihC _ _ _ _ _ _ _ ha]
          rw [ha] at h
          cases ex with
          | normal => exact ihC _ _ _ _ _ _ _ h
          | exit i => exact h
          | ret => exact h
      | cond x a b =>
        rw [evC] at h ⊢
        split at h
        · exact ihC _ _ _ _ _ _ _ h
        · cases h
      | block id c =>
        rw [evC] at h ⊢
        cases ha : evC X n f nt n0 c e H with
        | none => simp [ha] at h
        | some q =>
          rw [ihC _ _ _ _ _ _ _ ha]
          rw [ha] at h
          exact h
      | scope c =>
        rw [evC] at h ⊢
        exact ihC _ _ _ _ _ _ _ h
      | loop c =>
        rw [evC] at h ⊢
        cases ha : evC X n f nt n0 c e H with
        | none => simp [ha] at h
        | some q =>
          obtain ⟨ex, e1, H1⟩ := q
          rw [ihC _ _ _ _ _ _ _ ha]
          rw [ha] at h
          cases ex with
          | normal => exact ihC _ _ _ _ _ _ _ h
          | exit i => exact h
          | ret => exact h
      | skip => exact h
      | label l => exact h
      | exit id => exact h
      | ret => exact h
      | goto l => simp [evC] at h
      | rangeFunc a b c d => simp [evC] at h
      | refuse w => simp [evC] at h

theorem evF_le {n m : Nat} (hnm : n ≤ m) : FLe (evF X n) (evF X m) := by
  induction m with
  | zero => have : n = 0 := by omega
            subst this; exact fun _ _ _ _ h => h
  | succ m ih =>
    by_cases h : n = m + 1
    · subst h; exact fun _ _ _ _ h => h
    · exact fun f args H r hr => (ev_mono m).1 _ _ _ _ (ih (by omega) f args H r hr)

theorem evC_le {n m : Nat} (hnm : n ≤ m) {f nt n0 : Nat} {c : Code} {e : Env} {H : Heap} {r : Ex × Env × Heap} (h : evC X n f nt n0 c e H = some r) : evC X m f nt n0 c e H = some r := by
  induction m with
  | zero => have : n = 0 := by omega
            subst this; exact h
  | succ m ih =>
    by_cases hn : n = m + 1
    · subst hn; exact h
    · exact (ev_mono m).2 _ _ _ _ _ _ _ (ih (by omega))

open Classical in
/-- The limit of a growing row of answers. -/
noncomputable def lim {α : Type} (g : Nat → Option α) : Option α := if h : ∃ r, ∃ n, g n = some r then some h.choose else none

theorem lim_some {α : Type} {g : Nat → Option α} (hm : ∀ n m r, n ≤ m → g n = some r → g m = some r) {r : α} : lim g = some r ↔ ∃ n, g n = some r := by
  unfold lim
  constructor
  · intro h
    split at h
    · rename_i hex
      injection h with h
      subst h
      exact hex.choose_spec
    · cases h
  · rintro ⟨n, hn⟩
    have hex : ∃ r, ∃ n, g n = some r := ⟨r, n, hn⟩
    rw [dif_pos hex]
    obtain ⟨k, hk⟩ := hex.choose_spec
    have h1 := hm n (max n k) _ (Nat.le_max_left _ _) hn
    have h2 := hm k (max n k) _ (Nat.le_max_right _ _) hk
    rw [h1] at h2
    injection h2 with h2
    rw [← h2]

/-- What a function gives. -/
noncomputable def call (X : Cx) : CallF := fun f args H => lim fun n => evF X n f args H
/-- What code comes to. -/
noncomputable def code (X : Cx) (f nt n0 : Nat) (c : Code) (e : Env) (H : Heap) : Option (Ex × Env × Heap) := lim fun n => evC X n f nt n0 c e H

theorem call_some {f : Nat} {args : List D} {H : Heap} {r : D × Heap} : call X f args H = some r ↔ ∃ n, evF X n f args H = some r := lim_some fun _ _ _ hnm h => evF_le hnm _ _ _ _ h
theorem code_some {f nt n0 : Nat} {c : Code} {e : Env} {H : Heap} {r : Ex × Env × Heap} : code X f nt n0 c e H = some r ↔ ∃ n, evC X n f nt n0 c e H = some r := lim_some fun _ _ _ hnm h => evC_le hnm h

theorem evF_call (n : Nat) : FLe (evF X n) (call X) := fun _ _ _ _ h => call_some.2 ⟨n, h⟩

theorem callL_cont {f : Nat} {args : List D} {H : Heap} {r : D × Heap} (hc : callL (call X) f args H = some r) : ∃ n, callL (evF X n) f args H = some r := by
  cases args with
  | nil => simp [callL] at hc
  | cons a rest =>
    cases a with
    | optr i st off =>
      simp only [callL] at hc ⊢
      cases hd : hget H i with
      | none => simp [hd] at hc
      | some ds =>
        simp only [hd] at hc ⊢
        split at hc
        · rename_i hf
          cases hF : call X f (.optr 0 st off :: rest) [some ds] with
          | none => simp [hF] at hc
          | some q =>
            obtain ⟨n, hn⟩ := call_some.1 hF
            refine ⟨n, ?_⟩
            rw [if_pos hf, hn]
            rw [hF] at hc
            exact hc
        · cases hc
    | _ => simp [callL] at hc
theorem callM_cont {f : Nat} {args : List D} {H : Heap} {r : D × Heap} (hc : callM (call X) f args H = some r) : ∃ n, callM (evF X n) f args H = some r := by
  unfold callM at hc ⊢
  split at hc
  · cases hc
  · unfold callP at hc ⊢
    split at hc
    · split at hc
      · rename_i hf
        split at hc
        · rename_i hF
          obtain ⟨n, hn⟩ := call_some.1 hF
          exact ⟨n, by rw [if_pos hf, hn]; exact hc⟩
        · cases hc
      · cases hc
    · cases hc
theorem callK_cont {f : Nat} {args : List D} {H : Heap} {r : D × Heap} (hc : callK X (call X) f args H = some r) : ∃ n, callK X (evF X n) f args H = some r := by
  unfold callK at hc ⊢
  split at hc
  · rename_i hl
    obtain ⟨n, hn⟩ := callM_cont hc
    exact ⟨n, by rw [if_pos hl]; exact hn⟩
  · rename_i hl
    obtain ⟨n, hn⟩ := callL_cont hc
    exact ⟨n, by rw [if_neg hl]; exact hn⟩
theorem callG_cont {f : Nat} {args : List D} {H : Heap} {r : D × Heap} (hc : callG (call X) f args H = some r) : ∃ n, callG (evF X n) f args H = some r := by
  unfold callG callQ at hc ⊢
  split at hc
  · split at hc
    · rename_i hf
      split at hc
      · rename_i hF
        obtain ⟨n, hn⟩ := call_some.1 hF
        exact ⟨n, by rw [if_pos hf, hn]; exact hc⟩
      · cases hc
    · cases hc
  · cases hc
theorem callV_cont {f : Nat} {args : List D} {H : Heap} {r : D × Heap} (hc : callV X (call X) f args H = some r) : ∃ n, callV X (evF X n) f args H = some r := by
  unfold callV at hc ⊢
  split at hc
  · rename_i hb
    split at hc
    · rename_i hl
      split at hc
      · rename_i hg
        obtain ⟨n, hn⟩ := callG_cont hc
        exact ⟨n, by rw [if_pos hb, if_pos hl, if_pos hg]; exact hn⟩
      · rename_i hg
        obtain ⟨n, hn⟩ := callK_cont hc
        exact ⟨n, by rw [if_pos hb, if_pos hl, if_neg hg]; exact hn⟩
    · rename_i hl
      obtain ⟨n, hn⟩ := call_some.1 hc
      exact ⟨n, by rw [if_pos hb, if_neg hl]; exact hn⟩
  · rename_i hb
    split at hc
    · rename_i ha
      cases hF : call X f args [] with
      | none => simp [hF] at hc
      | some q =>
        obtain ⟨n, hn⟩ := call_some.1 hF
        exact ⟨n, by rw [if_neg hb, if_pos ha, hn]; rw [hF] at hc; exact hc⟩
    · rename_i ha
      cases hz : freezeArgs H args with
      | none => simp [hz] at hc
      | some args' =>
        simp only [hz] at hc
        cases hF : call X f args' [] with
        | none => simp [hF] at hc
        | some q =>
          obtain ⟨n, hn⟩ := call_some.1 hF
          exact ⟨n, by rw [if_neg hb, if_neg ha]; simp only [hn]; rw [hF] at hc; exact hc⟩

theorem callW_cont {f : Nat} {args : List D} {H : Heap} {r : D × Heap} (hc : callW X (call X) f args H = some r) : ∃ n, callW X (evF X n) f args H = some r := by
  by_cases hp : (X.pureF f && !X.byRef f) = true
  · obtain ⟨h4, h3, h1⟩ := callW_pure hp hc
    rcases h1 with ⟨h1, h2⟩ | ⟨h1, hpe, hfl, hv, args', hfz, h2⟩
    · obtain ⟨n, hn⟩ := call_some.1 h2
      refine ⟨n, ?_⟩
      unfold callW
      rw [if_pos hp, if_pos h1, hn]
      simp only [h3, if_true, ← h4]
    · obtain ⟨n, hn⟩ := call_some.1 h2
      refine ⟨n, ?_⟩
      unfold callW
      rw [if_pos hp, if_neg h1]
      subst h4
      simp only [hpe, hfl, Bool.and_self, if_true, hfz, hn, h3, hv]
  · unfold callW at hc
    rw [if_neg hp] at hc
    obtain ⟨n, hn⟩ := callV_cont hc
    exact ⟨n, by unfold callW; rw [if_neg hp]; exact hn⟩
theorem callB_cont {f : Nat} {args : List D} {H : Heap} {r : D × Heap} (hc : callB X (call X) f args H = some r) : ∃ n, callB X (evF X n) f args H = some r := by
  unfold callB at hc
  split at hc
  · rename_i hp
    obtain ⟨n, hn⟩ := callW_cont hc
    exact ⟨n, by unfold callB; rw [hp]; exact hn⟩
  · rename_i hp
    split at hc
    · rename_i H1 hst
      obtain ⟨n, hn⟩ := callW_cont hc
      exact ⟨n, by unfold callB; rw [hp]; simp only [hst]; exact hn⟩
    · cases hc
theorem callD_cont {f : Nat} {args : List D} {H : Heap} {r : D × Heap} (hc : callD X (call X) f args H = some r) : ∃ n, callD X (evF X n) f args H = some r := by
  unfold callD at hc
  split at hc
  · rename_i hp
    obtain ⟨n, hn⟩ := callB_cont hc
    exact ⟨n, by unfold callD; rw [hp]; exact hn⟩
  · rename_i hp
    split at hc
    · rename_i args' l hst
      obtain ⟨n, hn⟩ := callW_cont hc
      exact ⟨n, by unfold callD; rw [hp]; simp only [hst]; exact hn⟩
    · cases hc

theorem evOp_cont {o : Op} {e : Env} {H : Heap} {r : D × Heap} (ho : evOp X (call X) o e H = some r) : ∃ n, evOp X (evF X n) o e H = some r := by
  cases o with
  | call c =>
    simp only [evOp] at ho ⊢
    cases hc : c.callee with
    | builtin b => cases ha : opds X e c.args.toList <;> simp only [hc, ha] at ho ⊢ <;> first | exact ⟨0, ho⟩ | cases ho
    | invoke r m => cases ha : opds X e c.args.toList <;> simp only [hc, ha] at ho <;> cases ho
    | value g =>
      simp only [hc] at ho ⊢
      cases ha : opds X e c.args.toList with
      | none => simp [ha] at ho
      | some args =>
        simp only [ha] at ho ⊢
        split at ho
        · rename_i f caps hg
          obtain ⟨n, hn⟩ := callD_cont ho
          exact ⟨n, hn⟩
        · cases ho
  | makeFunc g _ _ => cases g <;> exact ⟨0, ho⟩
  | slice _ _ _ _ m => cases m <;> exact ⟨0, ho⟩
  | _ => exact ⟨0, ho⟩

theorem evOpW_cont {drw : Bool} {o : Op} {e : Env} {H : Heap} {r : D × Heap} (ho : evOpW X (call X) drw o e H = some r) : ∃ n, evOpW X (evF X n) drw o e H = some r := by
  unfold evOpW at ho ⊢
  split at ho
  · exact ⟨0, ho⟩
  · exact ⟨0, ho⟩
  · split at ho
    · cases ho
    · rename_i hb
      obtain ⟨n, hn⟩ := evOp_cont ho
      exact ⟨n, by simp only [hb]; exact hn⟩
  · exact evOp_cont ho

theorem evOps_cont {nt : Nat} {drw : Bool} {ops : Array Oper} : ∀ {l : List Oper} {e : Env} {H : Heap} {r : Env × Heap}, evOps X (call X) nt drw ops l e H = some r → ∃ n, evOps X (evF X n) nt drw ops l e H = some r
  | [], _, _, _, ho => ⟨0, ho⟩
  | o :: l, e, H, r, ho => by
    simp only [evOps] at ho
    cases hd : dstOk nt o.dst <;> simp only [hd] at ho
    · cases ho
    · cases hg : guardQ ops e o.guard with
      | none => simp [hg] at ho
      | some b =>
        cases b <;> simp only [hg] at ho
        · obtain ⟨n, hn⟩ := evOps_cont ho
          exact ⟨n, by simp only [evOps, hd, hg]; exact hn⟩
        · cases hx : evOpW X (call X) drw o.op e H with
          | none => simp [hx] at ho
          | some q =>
            rw [hx] at ho
            obtain ⟨n, hn⟩ := evOpW_cont hx
            obtain ⟨m, hm⟩ := evOps_cont ho
            refine ⟨max n m, ?_⟩
            simp only [evOps, hd, hg]
            rw [evOpW_mono (evF_le (Nat.le_max_left n m)) hn]
            exact evOps_mono (evF_le (Nat.le_max_right n m)) hm

theorem evOps_lim {nt : Nat} {drw : Bool} {ops : Array Oper} {l : List Oper} {e : Env} {H : Heap} {r : Env × Heap} : evOps X (call X) nt drw ops l e H = some r ↔ ∃ n, evOps X (evF X n) nt drw ops l e H = some r :=
  ⟨evOps_cont, fun ⟨n, hn⟩ => evOps_mono (evF_call n) hn⟩

theorem evOpsL_cont {nt : Nat} {ow : List Nat} {ops : Array Oper} {L : Pairs} : ∀ {l : List Oper} {k : Nat} {ws : List (Nat × Heap × Heap)} {rs : List (Nat × List Nat)} {e : Env} {H : Heap} {r : Env × Heap}, evOpsL X (call X) nt ow ops L k ws rs l e H = some r → ∃ n, evOpsL X (evF X n) nt ow ops L k ws rs l e H = some r
  | [], _, _, _, _, _, _, ho => ⟨0, by simpa [evOpsL] using ho⟩
  | o :: l, k, ws, rs, e, H, r, ho => by
    simp only [evOpsL] at ho
    cases hd : dstOk nt o.dst <;> simp only [hd] at ho
    · cases ho
    · cases hg : guardQ ops e o.guard with
      | none => simp [hg] at ho
      | some b =>
        cases b <;> simp only [hg] at ho
        · obtain ⟨n, hn⟩ := evOpsL_cont ho
          exact ⟨n, by simp only [evOpsL, hd, hg]; exact hn⟩
        · cases hx : evOpW X (call X) (bwD ow o.dst) o.op e H with
          | none => simp [hx] at ho
          | some q =>
            rw [hx] at ho
            simp only at ho
            split at ho
            · rename_i hc
              obtain ⟨n, hn⟩ := evOpW_cont hx
              obtain ⟨m, hm⟩ := evOpsL_cont ho
              refine ⟨max n m, ?_⟩
              simp only [evOpsL, hd, hg]
              rw [evOpW_mono (evF_le (Nat.le_max_left n m)) hn]
              simp only
              rw [if_pos hc]
              exact evOpsL_mono (evF_le (Nat.le_max_right n m)) hm
            · cases ho
theorem evR_lim {f nt id : Nat} {draw : Bool} {ops : Array Oper} {e : Env} {H : Heap} {r : Env × Heap} : evR X (call X) f nt id draw ops e H = some r ↔ ∃ n, evR X (evF X n) f nt id draw ops e H = some r := by
  unfold evR
  split
  · exact ⟨evOpsL_cont, fun ⟨n, hn⟩ => evOpsL_mono (evF_call n) hn⟩
  · exact evOps_lim

theorem opt_ext {α : Type} {x y : Option α} (h : ∀ r, x = some r ↔ y = some r) : x = y := by
  cases x with
  | none =>
    cases y with
    | none => rfl
    | some b => exact absurd ((h b).2 rfl) (by simp)
  | some a => exact ((h a).1 rfl).symm

section eqs
variable {f nt n0 : Nat} {e : Env} {H : Heap}

theorem code_skip : code X f nt n0 .skip e H = some (.normal, e, H) := code_some.2 ⟨1, rfl⟩
theorem code_label {l : Nat} : code X f nt n0 (.label l) e H = some (.normal, e, H) := code_some.2 ⟨1, rfl⟩
theorem code_exit {i : Nat} : code X f nt n0 (.exit i) e H = some (.exit i, e, H) := code_some.2 ⟨1, rfl⟩
theorem code_ret : code X f nt n0 .ret e H = some (.ret, e, H) := code_some.2 ⟨1, rfl⟩

theorem code_region {id : Nat} {ops : Array Oper} {draw : Bool} : code X f nt n0 (.region id ops draw) e H = match enter X f n0 id e H with
    | none => none
    | some (e, H) => (evR X (call X) f nt id draw ops e H).map fun (e, H) => (.normal, e, H) := by
  refine opt_ext fun r => ?_
  rw [code_some]
  cases hen : enter X f n0 id e H with
  | none =>
    simp only [reduceCtorEq, iff_false, not_exists]
    intro n h
    cases n <;> simp [evC, hen] at h
  | some q =>
    obtain ⟨e1, H1⟩ := q
    constructor
    · rintro ⟨n, hn⟩
      cases n with
      | zero => simp [evC] at hn
      | succ n =>
        simp only [evC, hen] at hn
        cases ho : evR X (evF X n) f nt id draw ops e1 H1 with
        | none => simp [ho] at hn
        | some q =>
          simp only [evR_lim.2 ⟨n, ho⟩]
          rw [ho] at hn
          exact hn
    · intro h
      simp only at h
      cases ho : evR X (call X) f nt id draw ops e1 H1 with
      | none => simp [ho] at h
      | some q =>
        obtain ⟨n, hn⟩ := evR_lim.1 ho
        refine ⟨n + 1, ?_⟩
        simp only [evC, hen, hn]
        rw [ho] at h
        exact h

theorem code_seq {a b : Code} : code X f nt n0 (.seq a b) e H = match code X f nt n0 a e H with
    | some (.normal, e, H) => code X f nt n0 b e H
    | r => r := by
  refine opt_ext fun r => ?_
  rw [code_some]
  constructor
  · rintro ⟨n, hn⟩
    cases n with
    | zero => simp [evC] at hn
    | succ n =>
      simp only [evC] at hn
      cases ha : evC X n f nt n0 a e H with
      | none => simp [ha] at hn
      | some q =>
        obtain ⟨ex, e1, H1⟩ := q
        rw [code_some.2 ⟨n, ha⟩]
        rw [ha] at hn
        cases ex with
        | normal => exact code_some.2 ⟨n, hn⟩
        | exit i => exact hn
        | ret => exact hn
  · intro h
    cases ha : code X f nt n0 a e H with
    | none => simp [ha] at h
    | some q =>
      obtain ⟨n, hn⟩ := code_some.1 ha
      obtain ⟨ex, e1, H1⟩ := q
      rw [ha] at h
      cases ex with
      | normal =>
        obtain ⟨m, hm⟩ := code_some.1 h
        refine ⟨max n m + 1, ?_⟩
        simp only [evC, evC_le (Nat.le_max_left n m) hn]
        exact evC_le (Nat.le_max_right n m) hm
      | exit i => exact ⟨n + 1, by simp only [evC, hn]; exact h⟩
      | ret => exact ⟨n + 1, by simp only [evC, hn]; exact h⟩

theorem code_cond {c : Operand} {a b : Code} : code X f nt n0 (.cond c a b) e H = match opd X e c with
    | some (.bool t) => code X f nt n0 (if t then a else b) e H
    | _ => none := by
  refine opt_ext fun r => ?_
  rw [code_some]
  constructor
  · rintro ⟨n, hn⟩
    cases n with
    | zero => simp [evC] at hn
    | succ n =>
      simp only [evC] at hn
      split at hn
      · rename_i hc
        rw [hc]
        exact code_some.2 ⟨n, hn⟩
      · cases hn
  · intro h
    split at h
    · rename_i t hc
      obtain ⟨n, hn⟩ := code_some.1 h
      exact ⟨n + 1, by simp only [evC, hc]; exact hn⟩
    · cases h

theorem code_block {id : Nat} {c : Code} : code X f nt n0 (.block id c) e H = match code X f nt n0 c e H with
    | some (.exit i, e, H) => if i = id then some (.normal, e, H) else some (.exit i, e, H)
    | r => r := by
  refine opt_ext fun r => ?_
  rw [code_some]
  constructor
  · rintro ⟨n, hn⟩
    cases n with
    | zero => simp [evC] at hn
    | succ n =>
      simp only [evC] at hn
      cases ha : evC X n f nt n0 c e H with
      | none => simp [ha] at hn
      | some q => rw [code_some.2 ⟨n, ha⟩]; rw [ha] at hn; exact hn
  · intro h
    cases ha : code X f nt n0 c e H with
    | none => simp [ha] at h
    | some q =>
      obtain ⟨n, hn⟩ := code_some.1 ha
      exact ⟨n + 1, by simp only [evC, hn]; rw [ha] at h; exact h⟩

theorem code_scope {c : Code} : code X f nt n0 (.scope c) e H = code X f nt n0 c e H := by
  refine opt_ext fun r => ?_
  rw [code_some, code_some]
  constructor
  · rintro ⟨n, hn⟩
    cases n with
    | zero => simp [evC] at hn
    | succ n => exact ⟨n, hn⟩
  · rintro ⟨n, hn⟩
    exact ⟨n + 1, hn⟩

theorem code_loop {c : Code} : code X f nt n0 (.loop c) e H = match code X f nt n0 c e H with
    | some (.normal, e, H) => code X f nt n0 (.loop c) e H
    | r => r := by
  refine opt_ext fun r => ?_
  rw [code_some]
  constructor
  · rintro ⟨n, hn⟩
    cases n with
    | zero => simp [evC] at hn
    | succ n =>
      rw [evC] at hn
      cases ha : evC X n f nt n0 c e H with
      | none => simp [ha] at hn
      | some q =>
        obtain ⟨ex, e1, H1⟩ := q
        rw [code_some.2 ⟨n, ha⟩]
        rw [ha] at hn
        cases ex with
        | normal => exact code_some.2 ⟨n, hn⟩
        | exit i => exact hn
        | ret => exact hn
  · intro h
    cases ha : code X f nt n0 c e H with
    | none => simp [ha] at h
    | some q =>
      obtain ⟨n, hn⟩ := code_some.1 ha
      obtain ⟨ex, e1, H1⟩ := q
      rw [ha] at h
      cases ex with
      | normal =>
        obtain ⟨m, hm⟩ := code_some.1 h
        refine ⟨max n m + 1, ?_⟩
        rw [evC]
        simp only [evC_le (Nat.le_max_left n m) hn]
        exact evC_le (Nat.le_max_right n m) hm
      | exit i => exact ⟨n + 1, by rw [evC]; simp only [hn]; exact h⟩
      | ret => exact ⟨n + 1, by rw [evC]; simp only [hn]; exact h⟩

/-- Code without what does not matter: types, places in the text, edges. -/
def stripOp (o : Oper) : Oper := { dst := o.dst, op := o.op, type := 0, pos := "", after := #[], guard := o.guard }
def stripL : List Oper → List Oper
  | [] => []
  | o :: l => stripOp o :: stripL l
def stripC : Code → Code
  | .region id ops draw => .region id (stripL ops.toList).toArray draw
  | .seq a b => .seq (stripC a) (stripC b)
  | .cond x a b => .cond x (stripC a) (stripC b)
  | .block id c => .block id (stripC c)
  | .loop c => .loop (stripC c)
  | .scope c => .scope (stripC c)
  | c => c
theorem stripL_get : ∀ (l : List Oper) (j : Nat), ((stripL l)[j]?).bind (·.dst) = (l[j]?).bind (·.dst)
  | [], j => by simp [stripL]
  | o :: l, 0 => by simp [stripL, stripOp]
  | o :: l, j + 1 => by simp [stripL, stripL_get l j]
theorem guardQ_strip (ops : Array Oper) (e : Env) (g : Option (Nat × Bool)) : guardQ (stripL ops.toList).toArray e g = guardQ ops e g := by
  cases g with
  | none => rfl
  | some q =>
    obtain ⟨j, want⟩ := q
    have h := stripL_get ops.toList j
    simp only [guardQ]
    have e1 : ((stripL ops.toList).toArray[j]?) = (stripL ops.toList)[j]? := by simp
    have e2 : ops[j]? = ops.toList[j]? := by simp
    rw [e1, e2, h]
theorem evOps_stripL {F : CallF} {drw : Bool} (ops : Array Oper) : ∀ (l : List Oper) (e : Env) (H : Heap), evOps X F nt drw (stripL ops.toList).toArray (stripL l) e H = evOps X F nt drw ops l e H
  | [], e, H => rfl
  | o :: l, e, H => by
    simp only [stripL, evOps, stripOp, guardQ_strip, evOps_stripL ops l]
theorem evOpsL_stripL {F : CallF} {ow : List Nat} (ops : Array Oper) {L : Pairs} : ∀ (l : List Oper) (k : Nat) (ws : List (Nat × Heap × Heap)) (rs : List (Nat × List Nat)) (e : Env) (H : Heap), evOpsL X F nt ow (stripL ops.toList).toArray L k ws rs (stripL l) e H = evOpsL X F nt ow ops L k ws rs l e H
  | [], k, ws, rs, e, H => by simp only [stripL, evOpsL]
  | o :: l, k, ws, rs, e, H => by
    simp only [stripL, evOpsL, stripOp, guardQ_strip, evOpsL_stripL ops l]
theorem ownL_strip : ∀ (l : List Oper), ownL (stripL l) = ownL l
  | [] => rfl
  | o :: l => by simp only [stripL, ownL, stripOp, ownL_strip l]
theorem evC_strip : ∀ (n : Nat) (c : Code) (e : Env) (H : Heap), evC X n f nt n0 (stripC c) e H = evC X n f nt n0 c e H := by
  intro n
  induction n with
  | zero => intro c e H; simp [evC]
  | succ n ih =>
    intro c e H
    cases c with
    | region id ops draw =>
      simp only [stripC, evC]
      cases enter X f n0 id e H with
      | none => rfl
      | some q =>
        obtain ⟨e1, H1⟩ := q
        have : (stripL ops.toList).toArray.toList = stripL ops.toList := by simp
        cases draw <;> cases hlp : X.lp f id <;> simp only [evR, hlp, evOps_stripL, evOpsL_stripL, ownL_strip, regW]
    | seq a b => simp only [stripC, evC, ih]
    | cond x a b =>
      simp only [stripC, evC]
      split
      · rename_i t _
        cases t <;> simp only [ih, if_true, if_false, Bool.false_eq_true]
      · rfl
    | block id c => simp only [stripC, evC, ih]
    | loop c =>
      have := ih (.loop c)
      simp only [stripC] at this
      simp only [stripC, evC, ih, this]
    | scope c => simp only [stripC, evC, ih]
    | _ => rfl
theorem code_strip {c : Code} : code X f nt n0 (stripC c) e H = code X f nt n0 c e H := by
  unfold code
  congr 1
  funext n
  exact evC_strip n c e H

theorem call_con {args : List D} {r : D × Heap} (hcon : X.con f args H = some r) : call X f args H = some r := call_some.2 ⟨1, by simp only [evF, hcon]⟩

theorem call_body {fn : Func} {c : Code} {args : List D} (hcon : X.con f args H = none) (hf : X.P.funcs[f]? = some fn) (hb : fn.body = some c) (hbad : X.bad f = false) :
    call X f args H = match code X f fn.ntmps H.length c (argEnv 0 args) H with
      | some (.normal, e, H') | some (.ret, e, H') => match resD X e H' fn.results.toList with
        | some ds => packS (X.gr f && X.byRef f) (X.fzr f) H.length H' (oneOrTup ds)
        | none => none
      | _ => none := by
  refine opt_ext fun r => ?_
  rw [call_some]
  constructor
  · rintro ⟨n, hn⟩
    cases n with
    | zero => simp [evF] at hn
    | succ n =>
      simp only [evF, hcon, hf, hb, hbad, Bool.false_eq_true, if_false] at hn
      cases hc : evC X n f fn.ntmps H.length c (argEnv 0 args) H with
      | none => simp [hc] at hn
      | some q => rw [code_some.2 ⟨n, hc⟩]; rw [hc] at hn; exact hn
  · intro h
    cases hc : code X f fn.ntmps H.length c (argEnv 0 args) H with
    | none => simp [hc] at h
    | some q =>
      obtain ⟨n, hn⟩ := code_some.1 hc
      refine ⟨n + 1, ?_⟩
      simp only [evF, hcon, hf, hb, hbad, Bool.false_eq_true, if_false, hn]
      rw [hc] at h
      exact h

theorem call_ext {fn : Func} {args : List D} (hcon : X.con f args H = none) (hf : X.P.funcs[f]? = some fn) (hb : fn.body = none) : call X f args H = (X.ext f args).map (·, H) := by
  refine opt_ext fun r => ?_
  rw [call_some]
  constructor
  · rintro ⟨n, hn⟩
    cases n with
    | zero => simp [evF] at hn
    | succ n =>
      simp only [evF, hcon, hf, hb] at hn
      exact hn
  · intro h
    exact ⟨1, by simp only [evF, hcon, hf, hb]; exact h⟩
end eqs

/-- THE EVALUATOR IS SOUND: what 'call' gives, the program's call gives. -/
theorem call_sound (hG : Good X) : SoundF X (call X) := by
  intro f args H r H' ok w ι vs h hs hv
  obtain ⟨n, hn⟩ := call_some.1 h
  exact (sound hG n).1 f args H r H' ok w ι vs hn hs hv
end
end Go.Ev
/- How the evaluator's equations are used. -/
namespace Go.Ev
def enterK (ks : List Nat) : Nat → Nat → Env → Heap → Option (Env × Heap)
  | 0, _, e, H => some (keepE ks e, H)
  | k + 1, n0, e, H => if H.length ≤ n0 + k then some (keepE ks e, H)
    else if envClosed (n0 + k) (keepE ks e) && (H.take (n0 + k)).all (blkClosed (n0 + k)) then some (keepE ks e, H.take (n0 + k)) else none
def enterZ (zs ks : List Nat) (k n0 : Nat) (e : Env) (H : Heap) : Option (Env × Heap) :=
  match freezeE zs e H with
  | some (e, H) => enterK ks k n0 e H
  | none => none
def enterR (zs S ks : List Nat) (n0 : Nat) (e : Env) (H : Heap) : Option (Env × Heap) :=
  match zs with
  | [] => retE n0 S ks e H
  | zs => match freezeE zs e H with
    | some (e, H) => retE n0 S ks e H
    | none => none
def enterI (ss : List Nat) (g : Heap → Option (Env × Heap)) (e : Env) (H : Heap) : Option (Env × Heap) :=
  match stayIn e ss H with
  | some H => g H
  | none => none
/-- A part of code, by its way from the top. -/
def cAt : List Nat → Code → Code
  | [], c => c
  | 0 :: p, .seq a _ => cAt p a
  | _ :: p, .seq _ b => cAt p b
  | 0 :: p, .cond _ a _ => cAt p a
  | _ :: p, .cond _ _ b => cAt p b
  | _ :: p, .block _ c => cAt p c
  | _ :: p, .scope c => cAt p c
  | _ :: p, .loop c => cAt p c
  | _, c => c
/-- A function's code. -/
def bodyOf (f : Func) : Code := f.body.getD .skip
attribute [simp] code_skip code_label code_exit code_ret code_cond
attribute [simp] stripOp stripL stripC dstOk evOp evOpW dynBad opd opds partsD ofVal ofVal1 ofVals look putE keepE enterK enterZ enterR enterI stayIn stayBlk argEnv resD oneOrTup binD unD intD builtinD clearD callD callB stayB callW flatQ callV ldD stD mem hget hset cellsOf fieldAddrD fieldD fieldOf partD ptrAdd indexAddrD indexD sliceD bounds lenD minmaxD convD callK callL noZ noZ.noZL buildD buildSliceD makeSliceD structPlace fillD zeroCellsD srcD srcA appendD copyD eqD cellEq cellsEq shiftD newBlk isConstOp slc bytesD idFree idFree.idFreeL vFree vFree.vFreeL closed closed.closedL blkClosed blkVFree envClosed pack pack1 pack1.packs packR packA upN stay stayL clr staySlots freezeE valsE zipE retE retF retN retP renE renH renV renB renD renD.renL idsD namesB addN idxP shift shift.shiftL freeze freeze.freezeL freezeArgs isNilD cAt bodyOf strD
@[simp low] theorem setRange_eq (ds : List D) (off : Nat) (xs : List D) : setRange ds off xs = ds.take off ++ xs ++ ds.drop (off + xs.length) := rfl
end Go.Ev
/- Going through code, part by part. -/
namespace Go.Ev
section
variable {X : Cx} {f nt n0 : Nat}

/-- What waits behind a part of code. -/
inductive Fr where
  | seq (b : Code)
  | block (id : Nat)

def Run (X : Cx) (f nt n0 : Nat) (Q : Ex → Env → Heap → Prop) : List Fr → Option (Ex × Env × Heap) → Prop
  | _, none => False
  | [], some (ex, e, H) => Q ex e H
  | .seq b :: fs, some (.normal, e, H) => Run X f nt n0 Q fs (code X f nt n0 b e H)
  | .seq _ :: fs, some (ex, e, H) => Run X f nt n0 Q fs (some (ex, e, H))
  | .block id :: fs, some (.exit i, e, H) => if i = id then Run X f nt n0 Q fs (some (.normal, e, H)) else Run X f nt n0 Q fs (some (.exit i, e, H))
  | .block _ :: fs, some (ex, e, H) => Run X f nt n0 Q fs (some (ex, e, H))

variable {Q : Ex → Env → Heap → Prop} {fs : List Fr} {e : Env} {H : Heap} {a b c : Code}

theorem run_none : Run X f nt n0 Q fs none = False := by unfold Run; rfl
theorem run_nil {ex : Ex} : Run X f nt n0 Q [] (some (ex, e, H)) = Q ex e H := by unfold Run; rfl
theorem run_seqn : Run X f nt n0 Q (.seq b :: fs) (some (.normal, e, H)) = Run X f nt n0 Q fs (code X f nt n0 b e H) := by rw [Run]
theorem run_seqe {i : Nat} : Run X f nt n0 Q (.seq b :: fs) (some (.exit i, e, H)) = Run X f nt n0 Q fs (some (.exit i, e, H)) := by rw [Run]; intro h; cases h
theorem run_seqr : Run X f nt n0 Q (.seq b :: fs) (some (.ret, e, H)) = Run X f nt n0 Q fs (some (.ret, e, H)) := by rw [Run]; intro h; cases h
theorem run_blockn {id : Nat} : Run X f nt n0 Q (.block id :: fs) (some (.normal, e, H)) = Run X f nt n0 Q fs (some (.normal, e, H)) := by rw [Run]; intro i h; cases h
theorem run_blockr {id : Nat} : Run X f nt n0 Q (.block id :: fs) (some (.ret, e, H)) = Run X f nt n0 Q fs (some (.ret, e, H)) := by rw [Run]; intro i h; cases h
theorem run_blocke {id i : Nat} : Run X f nt n0 Q (.block id :: fs) (some (.exit i, e, H)) = if i = id then Run X f nt n0 Q fs (some (.normal, e, H)) else Run X f nt n0 Q fs (some (.exit i, e, H)) := by rw [Run]
theorem run_seq : Run X f nt n0 Q fs (code X f nt n0 (.seq a b) e H) = Run X f nt n0 Q (.seq b :: fs) (code X f nt n0 a e H) := by
  rw [code_seq]
  cases h : code X f nt n0 a e H with
  | none => simp [run_none]
  | some q =>
    obtain ⟨ex, e1, H1⟩ := q
    cases ex with
    | normal => rw [run_seqn]
    | exit i => rw [run_seqe]
    | ret => rw [run_seqr]
theorem run_block {id : Nat} : Run X f nt n0 Q fs (code X f nt n0 (.block id c) e H) = Run X f nt n0 Q (.block id :: fs) (code X f nt n0 c e H) := by
  rw [code_block]
  cases h : code X f nt n0 c e H with
  | none => simp [run_none]
  | some q =>
    obtain ⟨ex, e1, H1⟩ := q
    cases ex with
    | normal => rw [run_blockn]
    | exit i => rw [run_blocke]; by_cases hi : i = id <;> simp [hi]
    | ret => rw [run_blockr]
theorem run_scope : Run X f nt n0 Q fs (code X f nt n0 (.scope c) e H) = Run X f nt n0 Q fs (code X f nt n0 c e H) := by rw [code_scope]

theorem Run.mono {o : Option (Ex × Env × Heap)} {R : Ex → Env → Heap → Prop} (h : Run X f nt n0 R [] o) (hq : ∀ ex e H, R ex e H → Run X f nt n0 Q fs (some (ex, e, H))) : Run X f nt n0 Q fs o := by
  cases o with
  | none => rw [run_none] at h; exact h.elim
  | some q =>
    obtain ⟨ex, e1, H1⟩ := q
    rw [run_nil] at h
    exact hq _ _ _ h

theorem Run.loop {σ : Type} (I : σ → Env → Heap → Prop) (m : σ → Nat)
    (step : ∀ s e H, I s e H → Run X f nt n0 (fun ex e' H' => match ex with | .normal => ∃ s', m s' < m s ∧ I s' e' H' | ex => Q ex e' H') [] (code X f nt n0 c e H)) :
    ∀ s e H, I s e H → Run X f nt n0 Q [] (code X f nt n0 (.loop c) e H) := by
  suffices h : ∀ k s e H, m s < k → I s e H → Run X f nt n0 Q [] (code X f nt n0 (.loop c) e H) from
    fun s e H hi => h (m s + 1) s e H (Nat.lt_succ_self _) hi
  intro k
  induction k with
  | zero => intro s e H h; omega
  | succ k ih =>
    intro s e H hk hi
    have hs := step s e H hi
    rw [code_loop]
    cases ho : code X f nt n0 c e H with
    | none => rw [ho, run_none] at hs; exact hs.elim
    | some q =>
      obtain ⟨ex, e1, H1⟩ := q
      rw [ho, run_nil] at hs
      cases ex with
      | normal =>
        obtain ⟨s', hlt, hi'⟩ := hs
        exact ih s' e1 H1 (by omega) hi'
      | exit i => exact hs
      | ret => exact hs

/-- What a function gives at its end. -/
def Fin (X : Cx) (z : Bool) (rs : List ResultVar) (n0 : Nat) (r : D × Heap) : Ex → Env → Heap → Prop
  | .exit _, _, _ => False
  | _, e, H => (resD X e H rs).bind (fun ds => packR z n0 H (oneOrTup ds)) = some r

theorem fin_ret {z : Bool} {rs : List ResultVar} {r : D × Heap} : Fin X z rs n0 r .ret e H = ((resD X e H rs).bind (fun ds => packR z n0 H (oneOrTup ds)) = some r) := rfl
theorem fin_normal {z : Bool} {rs : List ResultVar} {r : D × Heap} : Fin X z rs n0 r .normal e H = ((resD X e H rs).bind (fun ds => packR z n0 H (oneOrTup ds)) = some r) := rfl

theorem call_run {fn : Func} {args : List D} {r : D × Heap} (hf : X.P.funcs[f]? = some fn) (hb : fn.body.isSome = true) (hbad : X.bad f = false ∧ X.con f args H = none)
    (h : Run X f fn.ntmps H.length (Fin X (X.fzr f) fn.results.toList H.length r) [] (code X f fn.ntmps H.length (stripC (bodyOf fn)) (argEnv 0 args) H)) (hg : (X.gr f && X.byRef f) = false := by rfl) : call X f args H = some r := by
  rw [code_strip] at h
  cases hbd : fn.body with
  | none => rw [hbd] at hb; cases hb
  | some c =>
    have hc : bodyOf fn = c := by simp only [bodyOf, hbd, Option.getD_some]
    rw [hc] at h
    rw [call_body hbad.2 hf hbd hbad.1, hg]
    cases ho : code X f fn.ntmps H.length c (argEnv 0 args) H with
    | none => rw [ho, run_none] at h; exact h.elim
    | some q =>
      obtain ⟨ex, e1, H1⟩ := q
      rw [ho, run_nil] at h
      cases ex with
      | exit i => exact h.elim
      | normal =>
        rw [fin_normal] at h
        cases hr : resD X e1 H1 fn.results.toList with
        | none => rw [hr] at h; cases h
        | some ds => rw [hr] at h; simpa [hr, packS] using h
      | ret =>
        rw [fin_ret] at h
        cases hr : resD X e1 H1 fn.results.toList with
        | none => rw [hr] at h; cases h
        | some ds => rw [hr] at h; simpa [hr, packS] using h
end
attribute [simp] run_none run_nil run_seqn run_seqe run_seqr run_blockn run_blockr run_blocke run_seq run_block run_scope fin_ret fin_normal
end Go.Ev
/- What has no names in it stays as it is. -/
namespace Go.Ev
mutual
theorem pack1_free (n0 : Nat) (H : Heap) (seen : List Nat) (acc : Heap) : ∀ (d : D), idFree d = true → pack1 n0 H seen acc d = some (d, seen, acc)
  | .agg cs, h => by simp only [idFree] at h; simp only [pack1, packs_free n0 H seen acc cs h, Option.map_some]
  | .tup cs, h => by simp only [idFree] at h; simp only [pack1, packs_free n0 H seen acc cs h, Option.map_some]
  | .fn f cs, h => by simp only [pack1, h, if_true]
  | .iface t d, h => by simp only [pack1, h, if_true]
  | .optr .., h => by simp [idFree] at h
  | .osl .., h => by simp [idFree] at h
  | .bool _, _ => rfl
  | .int _ _, _ => rfl
  | .str _, _ => rfl
  | .nilp, _ => rfl
  | .nilf, _ => rfl
  | .nili, _ => rfl
  | .raw _, _ => rfl
  | .vptr _, _ => rfl
  | .vsl .., _ => rfl
theorem packs_free (n0 : Nat) (H : Heap) (seen : List Nat) (acc : Heap) : ∀ (cs : List D), idFree.idFreeL cs = true → pack1.packs n0 H seen acc cs = some (cs, seen, acc)
  | [], _ => rfl
  | d :: l, h => by
    simp only [idFree.idFreeL, Bool.and_eq_true] at h
    simp only [pack1.packs, pack1_free n0 H seen acc d h.1, packs_free n0 H seen acc l h.2]
end
mutual
theorem shift_free (n : Nat) : ∀ (d : D), idFree d = true → shift n d = d
  | .agg cs, h => by simp only [idFree] at h; simp only [shift, shiftL_free n cs h]
  | .tup cs, h => by simp only [idFree] at h; simp only [shift, shiftL_free n cs h]
  | .fn f cs, h => by simp only [idFree] at h; simp only [shift, shiftL_free n cs h]
  | .iface t d, h => by simp only [idFree] at h; simp only [shift, shift_free n d h]
  | .optr .., h => by simp [idFree] at h
  | .osl .., h => by simp [idFree] at h
  | .bool _, _ => rfl
  | .int _ _, _ => rfl
  | .str _, _ => rfl
  | .nilp, _ => rfl
  | .nilf, _ => rfl
  | .nili, _ => rfl
  | .raw _, _ => rfl
  | .vptr _, _ => rfl
  | .vsl .., _ => rfl
theorem shiftL_free (n : Nat) : ∀ (cs : List D), idFree.idFreeL cs = true → shift.shiftL n cs = cs
  | [], _ => rfl
  | d :: l, h => by
    simp only [idFree.idFreeL, Bool.and_eq_true] at h
    simp only [shift.shiftL, shift_free n d h.1, shiftL_free n l h.2]
end
mutual
theorem closed_free (n : Nat) : ∀ (d : D), idFree d = true → closed n d = true
  | .agg cs, h => by simp only [idFree] at h; simp only [closed, closedL_free n cs h]
  | .tup cs, h => by simp only [idFree] at h; simp only [closed, closedL_free n cs h]
  | .fn f cs, h => by simp only [idFree] at h; simp only [closed, closedL_free n cs h]
  | .iface t d, h => by simp only [idFree] at h; simp only [closed, closed_free n d h]
  | .optr .., h => by simp [idFree] at h
  | .osl .., h => by simp [idFree] at h
  | .bool _, _ => rfl
  | .int _ _, _ => rfl
  | .str _, _ => rfl
  | .nilp, _ => rfl
  | .nilf, _ => rfl
  | .nili, _ => rfl
  | .raw _, _ => rfl
  | .vptr _, _ => rfl
  | .vsl .., _ => rfl
theorem closedL_free (n : Nat) : ∀ (cs : List D), idFree.idFreeL cs = true → closed.closedL n cs = true
  | [], _ => rfl
  | d :: l, h => by
    simp only [idFree.idFreeL, Bool.and_eq_true] at h
    simp only [closed.closedL, closed_free n d h.1, closedL_free n l h.2, Bool.and_self]
end
theorem freezeL_free (H : Heap) : ∀ (cs : List D), idFree.idFreeL cs = true → freeze.freezeL H cs = some cs
  | [], _ => rfl
  | d :: l, h => by
    simp only [idFree.idFreeL, Bool.and_eq_true] at h
    have hd : freeze H d = some d := by
      cases d with
      | agg cs => have h1 := h.1; simp only [idFree] at h1; simp only [freeze, freezeL_free H cs h1, Option.map_some]
      | fn f cs => have h1 := h.1; simp only [idFree] at h1; simp only [freeze, freezeL_free H cs h1, Option.map_some]
      | osl _ _ _ _ _ => simp [idFree] at h
      | optr _ _ _ => simp [idFree] at h
      | _ => simp only [freeze, h.1, if_true]
    simp only [freeze.freezeL, hd, freezeL_free H l h.2]
theorem idFreeL_all : ∀ (cs : List D), idFree.idFreeL cs = cs.all idFree
  | [] => rfl
  | d :: l => by simp only [idFree.idFreeL, List.all_cons, idFreeL_all l]
theorem closedL_all (n : Nat) : ∀ (cs : List D), closed.closedL n cs = cs.all (closed n)
  | [] => rfl
  | d :: l => by simp only [closed.closedL, List.all_cons, closedL_all n l]
theorem idFreeL_append : ∀ (a b : List D), idFree.idFreeL (a ++ b) = (idFree.idFreeL a && idFree.idFreeL b)
  | [], b => by simp [idFree.idFreeL]
  | x :: a, b => by simp [idFree.idFreeL, idFreeL_append a b, Bool.and_assoc]
theorem closedL_append (n : Nat) : ∀ (a b : List D), closed.closedL n (a ++ b) = (closed.closedL n a && closed.closedL n b)
  | [], b => by simp [closed.closedL]
  | x :: a, b => by simp [closed.closedL, closedL_append n a b, Bool.and_assoc]
theorem vFreeL_append : ∀ (a b : List D), vFree.vFreeL (a ++ b) = (vFree.vFreeL a && vFree.vFreeL b)
  | [], b => by simp [vFree.vFreeL]
  | x :: a, b => by simp [vFree.vFreeL, vFreeL_append a b, Bool.and_assoc]

@[simp] theorem ofBytes_len (s : List UInt8) : (ofBytes s).length = s.length := by simp [ofBytes]
@[simp] theorem idFree_bytes (s : List UInt8) : idFree.idFreeL (ofBytes s) = true := by
  induction s with
  | nil => rfl
  | cons a s ih => simpa [ofBytes, idFree.idFreeL, idFree] using ih
@[simp] theorem vFree_bytes (s : List UInt8) : vFree.vFreeL (ofBytes s) = true := by
  induction s with
  | nil => rfl
  | cons a s ih => simpa [ofBytes, vFree.vFreeL, vFree] using ih
@[simp] theorem closedL_bytes (n : Nat) (s : List UInt8) : closed.closedL n (ofBytes s) = true := closedL_free n _ (idFree_bytes s)
@[simp] theorem all_idFree_bytes (s : List UInt8) : (ofBytes s).all idFree = true := by simp [ofBytes, idFree]
@[simp] theorem all_closed_bytes (n : Nat) (s : List UInt8) : (ofBytes s).all (closed n) = true := by simp [ofBytes, closed]
@[simp] theorem all_vFree_bytes (s : List UInt8) : (ofBytes s).all vFree = true := by simp [ofBytes, vFree]
@[simp] theorem take_bytes {s : List UInt8} {n : Nat} (h : s.length ≤ n) : (ofBytes s).take n = ofBytes s := List.take_of_length_le (by simpa using h)
@[simp] theorem bytes_allI (s : List UInt8) : (∀ x, x ∈ ofBytes s → idFree x = true) = True := eq_true (List.all_eq_true.1 (all_idFree_bytes s))
@[simp] theorem bytes_allC (s : List UInt8) (n : Nat) : (∀ x, x ∈ ofBytes s → closed n x = true) = True := eq_true (List.all_eq_true.1 (all_closed_bytes n s))
@[simp] theorem bytes_allV (s : List UInt8) : (∀ x, x ∈ ofBytes s → vFree x = true) = True := eq_true (List.all_eq_true.1 (all_vFree_bytes s))
attribute [simp] packs_free shiftL_free closedL_free freezeL_free idFreeL_append closedL_append vFreeL_append
theorem wrap_i64 {n : Int} (h : -9223372036854775808 ≤ n ∧ n < 9223372036854775808) : IntKind.i64.wrap n = n := by
  simp only [IntKind.wrap, IntKind.signed, IntKind.bits]; simp; omega
theorem wrap_u64 {n : Int} (h : 0 ≤ n ∧ n < 18446744073709551616) : IntKind.u64.wrap n = n := by
  simp only [IntKind.wrap, IntKind.signed, IntKind.bits]; simp; omega
theorem wrap_u8 {n : Int} (h : 0 ≤ n ∧ n < 256) : IntKind.u8.wrap n = n := by
  simp only [IntKind.wrap, IntKind.signed, IntKind.bits]; simp; omega
theorem wrap_u32 {n : Int} (h : 0 ≤ n ∧ n < 4294967296) : IntKind.u32.wrap n = n := by
  simp only [IntKind.wrap, IntKind.signed, IntKind.bits]; simp; omega
theorem wrap_u16 {n : Int} (h : 0 ≤ n ∧ n < 65536) : IntKind.u16.wrap n = n := by
  simp only [IntKind.wrap, IntKind.signed, IntKind.bits]; simp; omega
theorem wrap_i32 {n : Int} (h : -2147483648 ≤ n ∧ n < 2147483648) : IntKind.i32.wrap n = n := by
  simp only [IntKind.wrap, IntKind.signed, IntKind.bits]; simp; omega
theorem bv_nat {n x : Nat} (h : x < 2 ^ n) : (BitVec.ofInt n (x : Int)).toNat = x := by
  rw [BitVec.ofInt_natCast, BitVec.toNat_ofNat, Nat.mod_eq_of_lt h]
theorem wrap_nat {k : IntKind} (hk : k.signed = false) {x : Nat} (h : x < 2 ^ k.bits) : k.wrap (x : Int) = (x : Int) := by
  have : ((x : Int) % (2 ^ k.bits : Int)) = x := Int.emod_eq_of_lt (by omega) (by exact_mod_cast h)
  simp only [IntKind.wrap, hk]
  simpa using this
theorem orI_nat {k : IntKind} (hk : k.signed = false) {x y : Nat} (hx : x < 2 ^ k.bits) (hy : y < 2 ^ k.bits) : orI k x y = ((x ||| y : Nat) : Int) := by
  unfold orI
  rw [BitVec.toNat_or, bv_nat hx, bv_nat hy, wrap_nat hk (Nat.or_lt_two_pow hx hy)]
theorem andI_nat {k : IntKind} (hk : k.signed = false) {x y : Nat} (hx : x < 2 ^ k.bits) (hy : y < 2 ^ k.bits) : andI k x y = ((x &&& y : Nat) : Int) := by
  unfold andI
  rw [BitVec.toNat_and, bv_nat hx, bv_nat hy, wrap_nat hk (Nat.and_lt_two_pow _ hy)]
theorem xorI_nat {k : IntKind} (hk : k.signed = false) {x y : Nat} (hx : x < 2 ^ k.bits) (hy : y < 2 ^ k.bits) : xorI k x y = ((x ^^^ y : Nat) : Int) := by
  unfold xorI
  rw [BitVec.toNat_xor, bv_nat hx, bv_nat hy, wrap_nat hk (Nat.xor_lt_two_pow hx hy)]
attribute [simp] wrap_i64 wrap_u64 wrap_u8 wrap_u32 wrap_u16 wrap_i32
end Go.Ev
/- Two rows of bytes are compared by a function without a body. -/
namespace Go.Ev
open Go Go.Proofs

def byteInts : List D → Option (List Int)
  | [] => some []
  | .int .u8 n :: l => (byteInts l).map (n :: ·)
  | _ => none
def slb : D → Option (List Int)
  | .vsl true [] 0 => some []
  | .vsl false cs len => if cs.length = len then byteInts cs else none
  | _ => none
def cmpExt : List D → Option D
  | [x, y] => match slb x, slb y with
    | some a, some b => some (.int .i64 (Extern.BytealgCompare.cmp ⟨(Lib.bytesOf a).toArray⟩ ⟨(Lib.bytesOf b).toArray⟩))
    | _, _ => none
  | _ => none

theorem byteInts_get : ∀ {cs : List D} {l : List Int}, byteInts cs = some l → cs.length = l.length ∧ ∀ (j : Nat) x, l[j]? = some x → cs[j]? = some (.int .u8 x)
  | [], l, h => by simp only [byteInts, Option.some.injEq] at h; subst h; simp
  | d :: cs, l, h => by
    cases d with
    | int k n =>
      cases k with
      | u8 =>
        simp only [byteInts] at h
        cases hb : byteInts cs with
        | none => simp [hb] at h
        | some l' =>
          simp only [hb, Option.map_some, Option.some.injEq] at h
          subst h
          obtain ⟨h1, h2⟩ := byteInts_get hb
          refine ⟨by simp [h1], fun j x hj => ?_⟩
          cases j with
          | zero => simpa using hj
          | succ j => simpa using h2 j x (by simpa using hj)
      | _ => simp [byteInts] at h
    | _ => simp [byteInts] at h

theorem slb_run {P : Program} {ok : Nat → Prop} {w : World} {ι : Iota} {H : Heap} {d : D} {v : Value} {l : List Int} (h : slb d = some l) (hr : Rep ok w ι H d v) :
    (Extern.Bytes.bytesOf v).run P w = .ok ⟨(Lib.bytesOf l).toArray⟩ w := by
  cases hr with
  | vnil => simp only [slb, Option.some.injEq] at h; subst h; simp [Extern.Bytes.bytesOf, Lib.bytesOf]; rfl
  | vsl a f ha hc hr hf hlc =>
    rename_i ds len c
    simp only [slb] at h
    split at h
    · rename_i hlen
      obtain ⟨h1, h2⟩ := byteInts_get h
      have := Lib.run_loadBytesX (P := P) w l a .empty (fun j x hj => by
        have hd := h2 j x hj
        rw [hr j _ hd]
        have := hf j _ hd
        generalize f j = v at this
        cases this
        rfl)
      simp only [Extern.Bytes.bytesOf]
      rw [← hlen, h1, this]
      simp
    · cases h
  | _ => simp [slb] at h

theorem cmpExt_run {P : Program} {f : Nat} {fn : Func} (hf : P.funcs[f]? = some fn) (hn : fn.body = none) (hng : (fn.name == "runtime.NumGoroutine") = false)
    (h1 : Extern.findNext fn = none) (h2 : Extern.find fn = some Extern.BytealgCompare.compare) {ok : Nat → Prop} {w : World} {ι : Iota} {H : Heap} {args : List D} {d : D} {vs : List Value}
    (h : cmpExt args = some d) (hv : RepL ok w ι H args vs) : ∃ v, (callFunc f vs.toArray).run P w = .ok (.value v) w ∧ Rep ok w ι H d v ∧ idFree d = true := by
  rw [run_callFunc_extern hf hng (by rw [hn]; rfl) h1 h2]
  match args, h with
  | [x, y], h =>
    simp only [cmpExt] at h
    cases hx : slb x with
    | none => simp [hx] at h
    | some a =>
      cases hy : slb y with
      | none => simp [hx, hy] at h
      | some b =>
        simp only [hx, hy, Option.some.injEq] at h
        subst h
        obtain ⟨u, v, rfl, hu, hv⟩ : ∃ u v, vs = [u, v] ∧ Rep ok w ι H x u ∧ Rep ok w ι H y v := by
          obtain ⟨hl, hh⟩ := hv
          match vs, hl with
          | [u, v], _ => exact ⟨u, v, rfl, hh 0 x rfl, hh 1 y rfl⟩
        refine ⟨_, ?_, .int .i64 _, rfl⟩
        have hc : Extern.BytealgCompare.compare [u, v].toArray = (do pure (goInt (Extern.BytealgCompare.cmp (← Extern.Bytes.bytesOf u) (← Extern.Bytes.bytesOf v)))) := rfl
        rw [hc]
        simp only [Sem.run_bind, slb_run hx hu, slb_run hy hv, Result.andThen]
        rfl

/-- One row of bytes and another one: less, the same, greater. -/
def cmpB : List UInt8 → List UInt8 → Int
  | [], [] => 0
  | [], _ :: _ => -1
  | _ :: _, [] => 1
  | a :: x, b :: y => if a = b then cmpB x y else if a < b then -1 else 1

theorem ba_size (l : List UInt8) : (ByteArray.mk l.toArray).size = l.length := by
  show l.toArray.size = _
  simp
theorem ba_get (l : List UInt8) (i : Nat) : (ByteArray.mk l.toArray)[i]! = (l[i]?).getD 0 := by
  by_cases h : i < l.length
  · have h' : i < (ByteArray.mk l.toArray).size := by rw [ba_size]; exact h
    rw [getElem!_pos (ByteArray.mk l.toArray) i h', List.getElem?_eq_getElem h]
    rfl
  · have h' : ¬ i < (ByteArray.mk l.toArray).size := by rw [ba_size]; exact h
    rw [getElem!_neg (ByteArray.mk l.toArray) i h', List.getElem?_eq_none (by omega)]
    rfl
theorem cmp_cons (a : UInt8) (x : List UInt8) (b : UInt8) (y : List UInt8) :
    Extern.BytealgCompare.cmp ⟨(a :: x).toArray⟩ ⟨(b :: y).toArray⟩ = if a = b then Extern.BytealgCompare.cmp ⟨x.toArray⟩ ⟨y.toArray⟩ else if a < b then -1 else 1 := by
  have hs : min (ByteArray.mk (a :: x).toArray).size (ByteArray.mk (b :: y).toArray).size = min x.length y.length + 1 := by
    show min (a :: x).toArray.size (b :: y).toArray.size = _
    simp only [List.size_toArray, List.length_cons]
    omega
  have hs' : min (ByteArray.mk x.toArray).size (ByteArray.mk y.toArray).size = min x.length y.length := by
    show min x.toArray.size y.toArray.size = _
    simp
  have hg : ∀ (c : UInt8) (z : List UInt8) (i : Nat), (ByteArray.mk (c :: z).toArray)[i + 1]! = (ByteArray.mk z.toArray)[i]! := fun c z i => by
    rw [ba_get, ba_get]; rfl
  have hg0 : ∀ (c : UInt8) (z : List UInt8), (ByteArray.mk (c :: z).toArray)[0]! = c := fun c z => by rw [ba_get]; rfl
  unfold Extern.BytealgCompare.cmp
  rw [hs, hs', List.range_succ_eq_map, List.find?_cons]
  simp only [hg0]
  by_cases hab : a = b
  · subst hab
    simp only [bne_self_eq_false, if_true, List.find?_map, Function.comp_def, hg, Nat.succ_eq_add_one]
    cases List.find? (fun i => (ByteArray.mk x.toArray)[i]! != (ByteArray.mk y.toArray)[i]!) (List.range (min x.length y.length)) with
    | some i => simp only [Option.map_some, hg]
    | none =>
      have e : ∀ (c : UInt8) (z : List UInt8), (ByteArray.mk (c :: z).toArray).size = (ByteArray.mk z.toArray).size + 1 := fun c z => by
        show (c :: z).toArray.size = z.toArray.size + 1
        simp
      simp only [Option.map_none, e, Nat.add_lt_add_iff_right, gt_iff_lt]
  · have : (a != b) = true := by simp [hab]
    simp only [this, hab, if_false, hg0]

theorem cmp_eq : ∀ (x y : List UInt8), Extern.BytealgCompare.cmp ⟨x.toArray⟩ ⟨y.toArray⟩ = cmpB x y
  | [], [] => rfl
  | [], b :: y => by
    unfold Extern.BytealgCompare.cmp
    rw [ba_size, ba_size]
    simp [cmpB]
  | a :: x, [] => by
    unfold Extern.BytealgCompare.cmp
    rw [ba_size, ba_size]
    simp [cmpB]
  | a :: x, b :: y => by rw [cmp_cons, cmpB, cmp_eq x y]

theorem byteInts_bytes (s : List UInt8) : byteInts (ofBytes s) = some (s.map fun b => (b.toNat : Int)) := by
  induction s with
  | nil => rfl
  | cons a s ih => simp only [ofBytes, List.map_cons, byteInts] at ih ⊢; rw [ih]; rfl
theorem bytesOf_bytes (s : List UInt8) : Lib.bytesOf (s.map fun b => (b.toNat : Int)) = s := by
  simp [Lib.bytesOf, Function.comp_def]
theorem cmpExt_bytes (m n : Bool) (x y : List UInt8) (hm : m = true → x = []) (hn : n = true → y = []) :
    cmpExt [.vsl m (ofBytes x) x.length, .vsl n (ofBytes y) y.length] = some (.int .i64 (cmpB x y)) := by
  have h : ∀ (m : Bool) (x : List UInt8), (m = true → x = []) → slb (.vsl m (ofBytes x) x.length) = some (x.map fun b => (b.toNat : Int)) := by
    intro m x hm
    cases m with
    | true => rw [hm rfl]; rfl
    | false => simp [slb, byteInts_bytes]
  simp only [cmpExt, h m x hm, h n y hn, bytesOf_bytes, cmp_eq]
end Go.Ev
/- Regions, without what is not needed of them. -/
namespace Go.Ev
section
variable {X : Cx} {f nt n0 : Nat}

/-- An operation: its slot, itself, the slot that it hangs on. -/
structure SOp where
  dst : Option Tmp
  op : Op
  g : Option (Option Tmp × Bool)

def stripO (ops : Array Oper) (o : Oper) : SOp := ⟨o.dst, o.op, match o.guard with
  | none => none
  | some (j, want) => some ((ops[j]?).bind (·.dst), want)⟩
def strip (ops : Array Oper) : List Oper → List SOp
  | [] => []
  | o :: l => stripO ops o :: strip ops l

def guardS (e : Env) : Option (Option Tmp × Bool) → Option Bool
  | none => some true
  | some (none, _) => some false
  | some (some t, want) => match look e t with
    | some (.bool b) => some (b == want)
    | some (.tup []) => some false
    | _ => none

theorem guard_strip (ops : Array Oper) (e : Env) (g : Option (Nat × Bool)) : guardQ ops e g = guardS e (match g with
    | none => none
    | some (j, want) => some ((ops[j]?).bind (·.dst), want)) := by
  cases g with
  | none => rfl
  | some q =>
    obtain ⟨j, want⟩ := q
    simp only [guardQ, guardS]
    cases (ops[j]?).bind (·.dst) <;> rfl

def evS (X : Cx) (F : CallF) (nt : Nat) (drw : Bool) : List SOp → Env → Heap → Option (Env × Heap)
  | [], e, H => some (e, H)
  | o :: l, e, H => match dstOk nt o.dst, guardS e o.g with
    | true, some true => match evOpW X F drw o.op e H with
      | some (d, H') => evS X F nt drw l (putE e o.dst d) H'
      | none => none
    | true, some false => evS X F nt drw l (putE e o.dst (.tup [])) H
    | _, _ => none

theorem evOps_strip {F : CallF} {drw : Bool} (ops : Array Oper) : ∀ (l : List Oper) (e : Env) (H : Heap), evOps X F nt drw ops l e H = evS X F nt drw (strip ops l) e H
  | [], e, H => rfl
  | o :: l, e, H => by
    simp only [evOps, strip, evS, guard_strip ops e o.guard]
    show _ = match dstOk nt o.dst, guardS e (stripO ops o).g with
      | true, some true => match evOpW X F drw o.op e H with
        | some (d, H') => evS X F nt drw (strip ops l) (putE e o.dst d) H'
        | none => none
      | true, some false => evS X F nt drw (strip ops l) (putE e o.dst (.tup [])) H
      | _, _ => none
    simp only [evOps_strip ops l, stripO]
    rfl

variable {Q : Ex → Env → Heap → Prop} {fs : List Fr} {e : Env} {H : Heap}

/-- A region, and what waits behind it. -/
def RunS (X : Cx) (f nt n0 : Nat) (Q : Ex → Env → Heap → Prop) (fs : List Fr) (drw : Bool) (l : List SOp) (e : Env) (H : Heap) : Prop :=
  Run X f nt n0 Q fs ((evS X (call X) nt drw l e H).map fun (e, H) => (.normal, e, H))
def RunK (X : Cx) (f nt n0 : Nat) (Q : Ex → Env → Heap → Prop) (fs : List Fr) (drw : Bool) (l : List SOp) (e : Env) (dst : Option Tmp) : Option (D × Heap) → Prop
  | none => False
  | some (d, H) => RunS X f nt n0 Q fs drw l (putE e dst d) H
/-- Behind the look at what an operation hangs on. -/
def RunG (X : Cx) (f nt n0 : Nat) (Q : Ex → Env → Heap → Prop) (fs : List Fr) (drw : Bool) (dst : Option Tmp) (op : Op) (want : Bool) (l : List SOp) (e : Env) (H : Heap) : Option D → Prop
  | some (.bool b) => if b = want then RunK X f nt n0 Q fs drw l e dst (evOpW X (call X) drw op e H) else RunS X f nt n0 Q fs drw l (putE e dst (.tup [])) H
  | some (.tup []) => RunS X f nt n0 Q fs drw l (putE e dst (.tup [])) H
  | _ => False

theorem runS_nil {drw : Bool} : RunS X f nt n0 Q fs drw [] e H = Run X f nt n0 Q fs (some (.normal, e, H)) := rfl
theorem runS_none {drw : Bool} {dst : Option Tmp} {op : Op} {l : List SOp} : RunS X f nt n0 Q fs drw (⟨dst, op, none⟩ :: l) e H =
    (dstOk nt dst = true ∧ RunK X f nt n0 Q fs drw l e dst (evOpW X (call X) drw op e H)) := by
  unfold RunS
  simp only [evS, guardS]
  cases dstOk nt dst with
  | false => simp [run_none]
  | true =>
    cases evOpW X (call X) drw op e H with
    | none => simp [RunK, run_none]
    | some q => simp [RunK, RunS]
theorem runS_some {drw : Bool} {dst : Option Tmp} {op : Op} {l : List SOp} {t : Tmp} {want : Bool} : RunS X f nt n0 Q fs drw (⟨dst, op, some (some t, want)⟩ :: l) e H =
    (dstOk nt dst = true ∧ RunG X f nt n0 Q fs drw dst op want l e H (look e t)) := by
  unfold RunS
  simp only [evS, guardS]
  cases dstOk nt dst with
  | false => simp [run_none]
  | true =>
    cases look e t with
    | none => simp [RunG, run_none]
    | some d =>
      cases d with
      | bool b =>
        by_cases hb : b = want
        · subst hb
          simp only [beq_self_eq_true, RunG, if_true, true_and]
          cases evOpW X (call X) drw op e H with
          | none => simp [RunK, run_none]
          | some q => simp [RunK, RunS]
        · have : (b == want) = false := by simpa using hb
          simp [RunG, hb, this, RunS]
      | tup cs =>
        cases cs with
        | nil => simp [RunG, RunS]
        | cons => simp [RunG, run_none]
      | _ => simp [RunG, run_none]
theorem runK_some {drw : Bool} {dst : Option Tmp} {l : List SOp} {d : D} : RunK X f nt n0 Q fs drw l e dst (some (d, H)) = RunS X f nt n0 Q fs drw l (putE e dst d) H := rfl
theorem runK_none {drw : Bool} {dst : Option Tmp} {l : List SOp} : RunK X f nt n0 Q fs drw l e dst none = False := rfl
theorem runG_bool {drw : Bool} {dst : Option Tmp} {op : Op} {l : List SOp} {want b : Bool} : RunG X f nt n0 Q fs drw dst op want l e H (some (.bool b)) =
    if b = want then RunK X f nt n0 Q fs drw l e dst (evOpW X (call X) drw op e H) else RunS X f nt n0 Q fs drw l (putE e dst (.tup [])) H := rfl
theorem runG_tup {drw : Bool} {dst : Option Tmp} {op : Op} {l : List SOp} {want : Bool} : RunG X f nt n0 Q fs drw dst op want l e H (some (.tup [])) = RunS X f nt n0 Q fs drw l (putE e dst (.tup [])) H := rfl

/-- A region's head, then its operations. -/
def RunE (X : Cx) (f nt n0 : Nat) (Q : Ex → Env → Heap → Prop) (fs : List Fr) (drw : Bool) (l : List SOp) : Option (Env × Heap) → Prop
  | none => False
  | some (e, H) => RunS X f nt n0 Q fs drw l e H
theorem runE_some {drw : Bool} {l : List SOp} : RunE X f nt n0 Q fs drw l (some (e, H)) = RunS X f nt n0 Q fs drw l e H := rfl
theorem run_regionF {id : Nat} {ops : Array Oper} : Run X f nt n0 Q fs (code X f nt n0 (.region id ops false) e H) = RunE X f nt n0 Q fs (X.cv f id) (strip ops ops.toList) (enter X f n0 id e H) := by
  rw [code_region]
  cases enter X f n0 id e H with
  | none => simp [run_none, RunE]
  | some q => simp only [RunE, RunS, evR, evOps_strip, regW]

section lp
variable {L : Pairs} {ow : List Nat}
/-- The same of a region with places that no order binds. -/
noncomputable def evSL (X : Cx) (F : CallF) (nt : Nat) (ow : List Nat) (L : Pairs) : Nat → List (Nat × Heap × Heap) → List (Nat × List Nat) → List SOp → Env → Heap → Option (Env × Heap)
  | _, _, _, [], e, H => some (e, H)
  | k, ws, rs, o :: l, e, H => match dstOk nt o.dst, guardS e o.g with
    | true, some true => match evOpW X F (bwD ow o.dst) o.op e H with
      | some (d, H') =>
        @ite _ ((rIn L k = true → apartR L k (idsL (o.op.operands.toList.map (opd X e))) ws) ∧ (wIn L k = true → H.length ≤ H'.length ∧ apartW L k H H' rs)) (Classical.propDecidable _)
          (evSL X F nt ow L (k + 1) (if wIn L k then (k, H, H') :: ws else ws) (if rIn L k then (k, idsL (o.op.operands.toList.map (opd X e))) :: rs else rs) l (putE e o.dst d) H') none
      | none => none
    | true, some false => evSL X F nt ow L (k + 1) ws rs l (putE e o.dst (.tup [])) H
    | _, _ => none
theorem evOpsL_strip {F : CallF} (ops : Array Oper) : ∀ (l : List Oper) (k : Nat) (ws : List (Nat × Heap × Heap)) (rs : List (Nat × List Nat)) (e : Env) (H : Heap), evOpsL X F nt ow ops L k ws rs l e H = evSL X F nt ow L k ws rs (strip ops l) e H
  | [], k, ws, rs, e, H => by simp only [strip, evSL, evOpsL]
  | o :: l, k, ws, rs, e, H => by
    have ih := evOpsL_strip (F := F) ops l
    rw [evOpsL]
    show _ = evSL X F nt ow L k ws rs (stripO ops o :: strip ops l) e H
    rw [evSL]
    show _ = match dstOk nt o.dst, guardS e (stripO ops o).g with
      | true, some true => match evOpW X F (bwD ow o.dst) o.op e H with
        | some (d, H') =>
          @ite _ ((rIn L k = true → apartR L k (idsL (o.op.operands.toList.map (opd X e))) ws) ∧ (wIn L k = true → H.length ≤ H'.length ∧ apartW L k H H' rs)) (Classical.propDecidable _)
            (evSL X F nt ow L (k + 1) (if wIn L k then (k, H, H') :: ws else ws) (if rIn L k then (k, idsL (o.op.operands.toList.map (opd X e))) :: rs else rs) (strip ops l) (putE e o.dst d) H') none
        | none => none
      | true, some false => evSL X F nt ow L (k + 1) ws rs (strip ops l) (putE e o.dst (.tup [])) H
      | _, _ => none
    have h3 : guardS e (stripO ops o).g = guardQ ops e o.guard := (guard_strip ops e o.guard).symm
    rw [h3]
    cases hd : dstOk nt o.dst with
    | false => simp only
    | true =>
      cases hg : guardQ ops e o.guard with
      | none => simp only
      | some b =>
        cases b with
        | false => simp only [ih]
        | true =>
          cases ho : evOpW X F (bwD ow o.dst) o.op e H with
          | none => simp only
          | some q =>
            obtain ⟨d, H1⟩ := q
            simp only
            by_cases hc : (rIn L k = true → apartR L k (idsL (o.op.operands.toList.map (opd X e))) ws) ∧ (wIn L k = true → H.length ≤ H1.length ∧ apartW L k H H1 rs)
            · rw [if_pos hc, if_pos hc]
              exact ih _ _ _ _ _
            · rw [if_neg hc, if_neg hc]
def RunSL (X : Cx) (f nt n0 : Nat) (Q : Ex → Env → Heap → Prop) (fs : List Fr) (ow : List Nat) (L : Pairs) (k : Nat) (ws : List (Nat × Heap × Heap)) (rs : List (Nat × List Nat)) (l : List SOp) (e : Env) (H : Heap) : Prop :=
  Run X f nt n0 Q fs ((evSL X (call X) nt ow L k ws rs l e H).map fun (e, H) => (.normal, e, H))
def RunKL (X : Cx) (f nt n0 : Nat) (Q : Ex → Env → Heap → Prop) (fs : List Fr) (ow : List Nat) (L : Pairs) (k : Nat) (ws : List (Nat × Heap × Heap)) (rs : List (Nat × List Nat)) (bs : List Nat) (l : List SOp) (e : Env) (dst : Option Tmp) (H : Heap) : Option (D × Heap) → Prop
  | none => False
  | some (d, H') => (rIn L k = true → apartR L k bs ws) ∧ (wIn L k = true → H.length ≤ H'.length ∧ apartW L k H H' rs) ∧
      RunSL X f nt n0 Q fs ow L (k + 1) (if wIn L k then (k, H, H') :: ws else ws) (if rIn L k then (k, bs) :: rs else rs) l (putE e dst d) H'
def RunGL (X : Cx) (f nt n0 : Nat) (Q : Ex → Env → Heap → Prop) (fs : List Fr) (ow : List Nat) (L : Pairs) (k : Nat) (ws : List (Nat × Heap × Heap)) (rs : List (Nat × List Nat)) (bs : List Nat) (dst : Option Tmp) (op : Op) (want : Bool) (l : List SOp) (e : Env) (H : Heap) : Option D → Prop
  | some (.bool b) => if b = want then RunKL X f nt n0 Q fs ow L k ws rs bs l e dst H (evOpW X (call X) (bwD ow dst) op e H) else RunSL X f nt n0 Q fs ow L (k + 1) ws rs l (putE e dst (.tup [])) H
  | some (.tup []) => RunSL X f nt n0 Q fs ow L (k + 1) ws rs l (putE e dst (.tup [])) H
  | _ => False
variable {k : Nat} {ws : List (Nat × Heap × Heap)} {rs : List (Nat × List Nat)}
theorem runSL_nil : RunSL X f nt n0 Q fs ow L k ws rs [] e H = Run X f nt n0 Q fs (some (.normal, e, H)) := by unfold RunSL; simp only [evSL]; rfl
theorem runKL_eq {dst : Option Tmp} {op : Op} {l : List SOp} : Run X f nt n0 Q fs (Option.map (fun (e, H) => (Ex.normal, e, H)) (match evOpW X (call X) (bwD ow dst) op e H with
      | some (d, H') =>
        @ite _ ((rIn L k = true → apartR L k (idsL (op.operands.toList.map (opd X e))) ws) ∧ (wIn L k = true → H.length ≤ H'.length ∧ apartW L k H H' rs)) (Classical.propDecidable _)
          (evSL X (call X) nt ow L (k + 1) (if wIn L k then (k, H, H') :: ws else ws) (if rIn L k then (k, idsL (op.operands.toList.map (opd X e))) :: rs else rs) l (putE e dst d) H') none
      | none => none)) = RunKL X f nt n0 Q fs ow L k ws rs (idsL (op.operands.toList.map (opd X e))) l e dst H (evOpW X (call X) (bwD ow dst) op e H) := by
  cases evOpW X (call X) (bwD ow dst) op e H with
  | none => simp [RunKL, run_none]
  | some q =>
    obtain ⟨d, H1⟩ := q
    simp only [RunKL, RunSL]
    by_cases hc : (rIn L k = true → apartR L k (idsL (op.operands.toList.map (opd X e))) ws) ∧ (wIn L k = true → H.length ≤ H1.length ∧ apartW L k H H1 rs)
    · rw [if_pos hc]
      exact propext ⟨fun h => ⟨hc.1, hc.2, h⟩, fun h => h.2.2⟩
    · rw [if_neg hc]
      simp only [Option.map_none, run_none]
      exact propext ⟨fun h => h.elim, fun h => hc ⟨h.1, h.2.1⟩⟩
theorem runSL_none {dst : Option Tmp} {op : Op} {l : List SOp} : RunSL X f nt n0 Q fs ow L k ws rs (⟨dst, op, none⟩ :: l) e H =
    (dstOk nt dst = true ∧ RunKL X f nt n0 Q fs ow L k ws rs (idsL (op.operands.toList.map (opd X e))) l e dst H (evOpW X (call X) (bwD ow dst) op e H)) := by
  rw [← runKL_eq]
  unfold RunSL
  simp only [evSL, guardS]
  cases dstOk nt dst with
  | false => simp [run_none]
  | true => simp
theorem runSL_some {dst : Option Tmp} {op : Op} {l : List SOp} {t : Tmp} {want : Bool} : RunSL X f nt n0 Q fs ow L k ws rs (⟨dst, op, some (some t, want)⟩ :: l) e H =
    (dstOk nt dst = true ∧ RunGL X f nt n0 Q fs ow L k ws rs (idsL (op.operands.toList.map (opd X e))) dst op want l e H (look e t)) := by
  unfold RunSL
  simp only [evSL, guardS]
  cases dstOk nt dst with
  | false => simp [run_none]
  | true =>
    cases look e t with
    | none => simp [RunGL, run_none]
    | some d =>
      cases d with
      | bool b =>
        by_cases hb : b = want
        · subst hb
          simp only [beq_self_eq_true, RunGL, if_true, true_and]
          rw [← runKL_eq]
        · have : (b == want) = false := by simpa using hb
          simp [RunGL, hb, this, RunSL]
      | tup cs =>
        cases cs with
        | nil => simp [RunGL, RunSL]
        | cons => simp [RunGL, run_none]
      | _ => simp [RunGL, run_none]
theorem runKL_some {dst : Option Tmp} {l : List SOp} {d : D} {bs : List Nat} {H' : Heap} : RunKL X f nt n0 Q fs ow L k ws rs bs l e dst H (some (d, H')) = ((rIn L k = true → apartR L k bs ws) ∧ (wIn L k = true → H.length ≤ H'.length ∧ apartW L k H H' rs) ∧
      RunSL X f nt n0 Q fs ow L (k + 1) (if wIn L k then (k, H, H') :: ws else ws) (if rIn L k then (k, bs) :: rs else rs) l (putE e dst d) H') := rfl
theorem runKL_none {dst : Option Tmp} {l : List SOp} {bs : List Nat} : RunKL X f nt n0 Q fs ow L k ws rs bs l e dst H none = False := rfl
theorem runGL_bool {dst : Option Tmp} {op : Op} {l : List SOp} {want b : Bool} {bs : List Nat} : RunGL X f nt n0 Q fs ow L k ws rs bs dst op want l e H (some (.bool b)) =
    if b = want then RunKL X f nt n0 Q fs ow L k ws rs bs l e dst H (evOpW X (call X) (bwD ow dst) op e H) else RunSL X f nt n0 Q fs ow L (k + 1) ws rs l (putE e dst (.tup [])) H := rfl
theorem runGL_tup {dst : Option Tmp} {op : Op} {l : List SOp} {want : Bool} {bs : List Nat} : RunGL X f nt n0 Q fs ow L k ws rs bs dst op want l e H (some (.tup [])) = RunSL X f nt n0 Q fs ow L (k + 1) ws rs l (putE e dst (.tup [])) H := rfl
/-- A region that draws its order: its head, then its operations. -/
def RunR (X : Cx) (f nt n0 : Nat) (Q : Ex → Env → Heap → Prop) (fs : List Fr) (drw : Bool) : Option (Pairs × List Nat) → List SOp → Option (Env × Heap) → Prop
  | none, l, o => RunE X f nt n0 Q fs drw l o
  | some (L, ow), l, some (e, H) => RunSL X f nt n0 Q fs ow L 0 [] [] l e H
  | _, _, none => False
theorem runR_nil {drw : Bool} {l : List SOp} {o : Option (Env × Heap)} : RunR X f nt n0 Q fs drw none l o = RunE X f nt n0 Q fs drw l o := rfl
theorem runR_cons {drw : Bool} {l : List SOp} : RunR X f nt n0 Q fs drw (some (L, ow)) l (some (e, H)) = RunSL X f nt n0 Q fs ow L 0 [] [] l e H := rfl
end lp
theorem run_regionT {id : Nat} {ops : Array Oper} : Run X f nt n0 Q fs (code X f nt n0 (.region id ops true) e H) = RunR X f nt n0 Q fs (!ownL ops.toList) (X.lp f id) (strip ops ops.toList) (enter X f n0 id e H) := by
  rw [code_region]
  cases hen : enter X f n0 id e H with
  | none => cases hlp : X.lp f id <;> simp [run_none, RunE, RunR]
  | some q => cases hlp : X.lp f id <;> simp only [RunE, RunS, RunR, RunSL, evR, hlp, evOps_strip, evOpsL_strip, regW]
theorem strip_cons (ops : Array Oper) (dst : Option Tmp) (op : Op) (ty : TypeId) (pos : String) (af : Array Edge) (l : List Oper) : strip ops ({ dst := dst, op := op, type := ty, pos := pos, after := af, guard := none } :: l) = ⟨dst, op, none⟩ :: strip ops l := rfl
theorem strip_consG (ops : Array Oper) (dst : Option Tmp) (op : Op) (ty : TypeId) (pos : String) (af : Array Edge) (j : Nat) (want : Bool) (l : List Oper) :
    strip ops ({ dst := dst, op := op, type := ty, pos := pos, after := af, guard := some (j, want) } :: l) = ⟨dst, op, some ((ops[j]?).bind (·.dst), want)⟩ :: strip ops l := rfl
theorem strip_nil (ops : Array Oper) : strip ops [] = [] := rfl
theorem evOpW_false {F : CallF} {o : Op} : evOpW X F false o e H = evOp X F o e H := by
  unfold evOpW
  split <;> first | rfl | contradiction
end
attribute [simp] bwD Op.operands Call.operands idsL topId wIn rIn apartR apartW runSL_nil runSL_none runSL_some runKL_some runKL_none runGL_bool runGL_tup runR_nil runR_cons runS_nil runS_none runS_some runK_some runK_none runG_bool runG_tup runE_some run_regionF run_regionT ownL isApp strip_cons strip_consG strip_nil
end Go.Ev
/- Memory that grows. -/
namespace Go.Ev
@[simp] theorem app_get (H L : Heap) (k : Nat) : (H ++ L)[H.length + k]? = L[k]? := by rw [List.getElem?_append_right (Nat.le_add_right _ _), Nat.add_sub_cancel_left]
@[simp] theorem app_get0 (H L : Heap) : (H ++ L)[H.length]? = L[0]? := app_get H L 0
@[simp] theorem app_set (H L : Heap) (k : Nat) (x : Option (List D)) : (H ++ L).set (H.length + k) x = H ++ L.set k x := by
  rw [List.set_append_right _ _ (Nat.le_add_right _ _), Nat.add_sub_cancel_left]
@[simp] theorem app_set0 (H L : Heap) (x : Option (List D)) : (H ++ L).set H.length x = H ++ L.set 0 x := app_set H L 0 x
theorem hget_app {H : Heap} {b : Nat} {ds : List D} (h : hget H b = some ds) (L : Heap) : (H ++ L)[b]? = some (some ds) := by
  have hb : b < H.length := by
    rcases Nat.lt_or_ge b H.length with h1 | h1
    · exact h1
    · rw [hget, List.getElem?_eq_none h1] at h; cases h
  rw [List.getElem?_append_left hb]
  rw [hget, List.getElem?_eq_getElem hb] at h
  rw [List.getElem?_eq_getElem hb]
  simp only [Option.getD_some] at h
  rw [h]
theorem hget_at {H : Heap} {b : Nat} {ds : List D} (h : hget H b = some ds) : H[b]? = some (some ds) := by
  have := hget_app h []
  rwa [List.append_nil] at this
end Go.Ev
/- From what the evaluator gives to a law's statement. -/
namespace Go.Ev
open Go Go.Proofs Go.ChangeShapes Go.WideShapes Go.ChangeAt Go.RowKit

theorem post_below {H : Type} {enc : TypeId × Value → H} {P : Program} {f : Func} {s : ChangeSpec} {apart fresh handsOn again : Bool} {W W' : World} {args : Array Value} {v : Value} {ds gs : List (DataW H)} {before pa pv : List MemPlace}
    (hW : DataW.Whole enc P f.params.toList s.vars apart W args.toList ds gs before)
    (hres : ∀ (b : Nat) (sp : Nat → Bool) (hd : Bool), DataW.TrodAll enc P W' b sp hd f.resultTypes.toList (v.resultList f.resultTypes.size) (s.fn H (ds ++ gs)).results [])
    (hargs : ∀ sp : Nat → Bool, (∀ p ∈ before, sp p.block = true) → DataW.TrodAll enc P W' 0 sp true f.params.toList args.toList (s.fn H (ds ++ gs)).args pa)
    (hvars : ∀ sp : Nat → Bool, (∀ p ∈ before, sp p.block = true) → DataW.TrodVars enc P W' sp s.vars (s.fn H (ds ++ gs)).vars pv)
    (hps : before = pa ++ pv) (hb : Below W.heap.size W W')
    (hok : ∀ (j : Nat) (t : TypeId) (r : Value), f.resultTypes[j]? = some t → (v.resultList f.resultTypes.size)[j]? = some r → Value.okWide P W' .any 0 t r) :
    s.post enc P f apart fresh handsOn again W args v W' := by
  have hlt : ∀ p ∈ before, p.block < W.heap.size := fun p hp => hW.lt p hp
  have hold : ∀ p ∈ before, (fun b => decide (b < W.heap.size)) p.block = true := fun p hp => by simpa using hlt p hp
  refine ⟨ds, gs, before, [], pa, pv, hW, hres _ _ _, hargs _ hold, hvars _ hold, World.keptBut_mono (fun p hp => ⟨hp, ?_⟩) (hb.frame (· ∈ before)), fun _ => ?_⟩
  · rw [hps, List.mem_append] at hp
    exact Or.inr hp
  · obtain ⟨_, _, _, _, _, hz, hn⟩ := hW
    refine ⟨hok, _, _, ([] ++ pa) ++ pv, ⟨[] ++ pa, pv, trodAll_append (hargs _ (fun _ _ => rfl)) (hres _ _ _), hvars _ (fun _ _ => rfl), rfl, ?_, ?_⟩, ?_⟩
    · intro b off hp
      have hin : MemPlace.cell b off ∈ before := by rw [hps]; simpa using hp
      rw [hb.frozen (hlt _ hin)]
      exact hz b off hin
    · intro ha
      have := hn ha
      rw [hps] at this
      simpa using this
    · intro p hp _
      rw [hps]
      simpa using hp

theorem trodAll_stays {H : Type} {enc : TypeId × Value → H} {P : Program} (hl : laidOutB P = true) {W W' : World} {sp : Nat → Bool} (hb : Below W.heap.size W W') :
    ∀ {ts : List TypeId} {vs : List Value} {ds : List (DataW H)} {ps : List MemPlace}, (ts.all fun t => P.readableRec t && decide (t < P.types.size)) = true →
      DataW.TrodAll enc P W 0 (fun _ => true) true ts vs ds ps → (∀ p ∈ ps, p.block < W.heap.size) → (∀ p ∈ ps, sp p.block = true) → DataW.TrodAll enc P W' 0 sp true ts vs ds ps
  | [], [], [], _, _, h, _, _ => h
  | _ :: _, _ :: _, _ :: _, _, ht, ⟨p, q, h1, h2, e⟩, hlt, hs => by
    simp only [List.all_cons, Bool.and_eq_true, decide_eq_true_eq] at ht
    subst e
    exact ⟨p, q, WideElems.Trod_stays hl ht.1.1 ht.1.2 h1 (fun x hx => hb.same (hlt x (List.mem_append_left _ hx))) (fun x hx => hs x (List.mem_append_left _ hx)),
      trodAll_stays hl hb (by simpa using ht.2) h2 (fun x hx => hlt x (List.mem_append_right _ hx)) (fun x hx => hs x (List.mem_append_right _ hx)), rfl⟩

theorem law_step {H : Type} {enc : TypeId × Value → H} {X : Cx} (hG : Good X) (hl : laidOutB X.P = true) {f : Nat} {fn : Func} {tb : TypeId} (hf : X.P.funcs[f]? = some fn) (hbd : fn.body.isSome = true)
    (hres : fn.resultTypes = #[tb]) (htb : X.P.underlying tb = some .bool) (hpar : (fn.params.toList.all fun t => X.P.readableRec t && decide (t < X.P.types.size)) = true)
    {s : ChangeSpec} (hvr : s.vars = []) {W : World} {args : Array Value} {ds gs : List (DataW H)} {before : List MemPlace}
    (hglob : ∀ g cs, X.glob g = some cs → Rep (· < W.heap.size) W iota0 [] (.vptr cs) (.pointer (some ⟨g, 0, none⟩)))
    (hW : DataW.Whole enc X.P fn.params.toList s.vars false W args.toList ds gs before) (hs : (s.fn H (ds ++ gs)).results = [.lit (.bool true)] ∧ (s.fn H (ds ++ gs)).args = ds ∧ (s.fn H (ds ++ gs)).vars = [])
    {dd : List D} {L : Heap} (hr : RepL (· < W.heap.size) W iota0 [] dd args.toList) (hc : call X f dd [] = some (.bool true, L)) :
    Calls X.P f args W fun e W' => ∃ v, e = .returned v ∧ s.post enc X.P fn false true false false W args v W' := by
  have hsim : Sim X (· < W.heap.size) W iota0 [] := ⟨fun b hb => hb, hglob, fun i j ds es b s s' hd => by simp [hget] at hd, fun i ds hd => by simp [hget] at hd⟩
  have hgo := call_sound hG f dd [] _ _ _ W iota0 args.toList hc hsim hr
  obtain ⟨c, hb⟩ := Option.isSome_iff_exists.1 hbd
  have henter : (callFunc f args.toList.toArray).run X.P W = .ok (.enter f args.toList.toArray) W := Go.Proofs.enters_of hf (hG.ng f fn hf) (by rw [hb]) _ _
  unfold Goes at hgo
  rw [henter] at hgo
  simp only [Array.toArray_toList] at hgo
  refine hgo.mono ?_
  rintro e W' ⟨v, rfl, ι', ok', _, hrep, hev, _⟩
  refine ⟨v, rfl, ?_⟩
  cases hrep
  have hbel : Below W.heap.size W W' := ⟨hev.os, hev.tape, hev.output, hev.size, fun b hb => hev.frame b hb (fun i ds s hd => by simp [hget] at hd)⟩
  have hW' := hW
  obtain ⟨p, q, hA, hV, rfl, hfz, hnd⟩ := hW
  rw [hvr] at hV
  obtain ⟨rfl, rfl⟩ := trodVars_none hV
  refine post_below (pa := p) (pv := []) hW' (fun b sp hd => ?_) (fun sp hsp => ?_) (fun sp _ => ?_) rfl hbel ?_
  · rw [hs.1, hres]
    exact trodAll_cons_mk (shut_bool htb _) trodAll_mk0
  · rw [hs.2.1]
    exact trodAll_stays hl hbel hpar hA (fun x hx => hW'.lt x (List.mem_append_left _ hx)) (fun x hx => hsp x (List.mem_append_left _ hx))
  · rw [hs.2.2, hvr]
    rfl
  · rw [hres]
    intro j t r hj hv
    cases j with
    | zero =>
      simp only [List.size_toArray, List.length_cons, List.length_nil] at hj hv
      injection hj with hj
      subst hj
      have : r = .bool true := by
        simp only [Value.resultList] at hv
        simpa using hv.symm
      subst this
      exact okWide_bool_mk htb _
    | succ j => simp at hj
end Go.Ev
/- What arguments read as. -/
namespace Go.Ev
open Go Go.Proofs Go.ChangeShapes Go.WideShapes Go.ChangeAt Go.RowKit
def intsK (k : IntKind) (l : List Int) : List D := l.map (.int k ·)
theorem read_ints {H : Type} {enc : TypeId × Value → H} {P : Program} {W : World} {t e : TypeId} {k : IntKind} {v : Value} {d : DataW H} {ps : List MemPlace} {base : Nat} (ht : P.underlying t = some (.slice e)) (he : P.underlying e = some (.int k)) (hc : P.cellsOf e = 1)
    (hv : Value.okWide P W .any base t v) (h : DataW.Trod enc P W 0 (fun _ => true) true t v d ps) :
    ∃ (nil : Bool) (zs : List Int), Rep (· < W.heap.size) W iota0 [] (.vsl nil (intsK k zs) zs.length) v ∧ (nil = true → zs = []) ∧ (∀ n ∈ zs, (Lit.int k n).wf = true) ∧ zs.length < 9223372036854775808 := by
  obtain ⟨n, hn⟩ := h
  obtain ⟨a0, len0, cap0, rfl⟩ := okWide_slice ht hv
  rcases open_ints ht he hc hn with ⟨hcs, hx⟩ | ⟨a, len, cap, zs, hcs, hb, hl, hm, hz, hx, hcell, hwf⟩
  · simp only [Value.cells, List.cons.injEq, and_true] at hcs
    rw [hcs]
    exact ⟨true, [], .vnil, fun _ => rfl, by simp, by decide⟩
  · simp only [Value.cells, List.cons.injEq, and_true] at hcs
    rw [hcs] at hv ⊢
    simp only [if_true] at hz
    have hlen : (zs.take len).length = len := by rw [List.length_take]; omega
    have hblk : a.block < W.heap.size := by
      simp only [Value.okWide, ht, Cell.okWide, Cell.ok] at hv
      obtain ⟨_, _, _, _, row, cells, hs, _⟩ := hv
      unfold World.shape? at hs
      rcases Nat.lt_or_ge a.block W.heap.size with h | h
      · exact h
      · rw [Array.getElem?_eq_none h] at hs
        simp at hs
    refine ⟨false, zs.take len, ?_, by simp, fun n hn => hwf n (List.mem_of_mem_take hn), by rw [hlen]; unfold maxLen at hm; omega⟩
    rw [hlen]
    refine .vsl a (fun j => .int k (zs.getD j 0)) (fun _ _ => hblk) (fun d hd => ?_) (fun j d hj => ?_) (fun j d hj => ?_) hl
    · simp only [intsK, List.mem_map] at hd
      obtain ⟨n, _, rfl⟩ := hd
      rfl
    · have hjl : j < len := by
        have := (List.getElem?_eq_some_iff.1 hj).1
        simp [intsK] at this
        omega
      exact hcell j (by omega)
    · have hjl : j < len := by
        have := (List.getElem?_eq_some_iff.1 hj).1
        simp [intsK] at this
        omega
      have : d = .int k (zs.getD j 0) := by
        simp only [intsK, List.getElem?_map, List.getElem?_take_of_lt hjl] at hj
        have hzl : j < zs.length := by omega
        rw [List.getElem?_eq_getElem hzl] at hj
        simp only [Option.map_some, Option.some.injEq] at hj
        rw [← hj, List.getD_eq_getElem?_getD, List.getElem?_eq_getElem hzl]
        rfl
      rw [this]
      exact .int _ _
end Go.Ev
/- What is asked of a program's functions. -/
namespace Go.Ev
open Go Go.Proofs
/-- A function's code may be taken in the text's order. -/
def okOne (X : Cx) (n : Nat) : Bool := match X.P.funcs[n]? with
  | some fn => (fn.name != "runtime.NumGoroutine") && match fn.body with
    | some c => X.bad n || okCode X n c
    | none => true
  | none => true
def okRange (X : Cx) (a : Nat) : Nat → Bool
  | 0 => true
  | k + 1 => okRange X a k && okOne X (a + k)
theorem okRange_get {X : Cx} {a : Nat} : ∀ {k : Nat}, okRange X a k = true → ∀ {f : Nat}, a ≤ f → f < a + k → okOne X f = true
  | 0, _, f, h1, h2 => by omega
  | k + 1, h, f, h1, h2 => by
    simp only [okRange, Bool.and_eq_true] at h
    by_cases hf : f = a + k
    · rw [hf]; exact h.2
    · exact okRange_get h.1 h1 (by omega)
theorem okOne_get {X : Cx} {f : Nat} {fn : Func} (h : okOne X f = true) (hfn : X.P.funcs[f]? = some fn) : (fn.name == "runtime.NumGoroutine") = false ∧ ∀ c, fn.body = some c → X.bad f = false → okCode X f c = true := by
  simp only [okOne, hfn, Bool.and_eq_true, bne_iff_ne, ne_eq] at h
  refine ⟨by simpa using h.1, fun c hc hb => ?_⟩
  have h3 := h.2
  simpa [hc, hb] using h3
end Go.Ev
/- Data of one's own as cells. -/
namespace Go.Ev
open Go Go.Proofs
class Enc (α : Type) where
  size : Nat
  cells : α → List D
  len : ∀ a, (cells a).length = size
  free : ∀ a, (cells a).all idFree = true
section
variable {α : Type} [Enc α]
/-- Data one behind the other. -/
def encs (l : List α) : List D := (l.map Enc.cells).flatten
abbrev cel (a : α) : List D := Enc.cells a
@[simp] theorem cells_idFree (a : α) : (Enc.cells a).all idFree = true := Enc.free a
@[simp] theorem cells_idFreeL (a : α) : idFree.idFreeL (Enc.cells a) = true := by rw [idFreeL_all]; exact Enc.free a
@[simp] theorem cells_closed (n : Nat) (a : α) : (Enc.cells a).all (closed n) = true := by
  rw [← closedL_all]; exact closedL_free n _ (cells_idFreeL a)
@[simp] theorem cells_closedL (n : Nat) (a : α) : closed.closedL n (Enc.cells a) = true := closedL_free n _ (cells_idFreeL a)
@[simp] theorem cells_aI (a : α) : (∀ x, x ∈ Enc.cells a → idFree x = true) = True := eq_true (List.all_eq_true.1 (cells_idFree a))
@[simp] theorem cells_aC (n : Nat) (a : α) : (∀ x, x ∈ Enc.cells a → closed n x = true) = True := eq_true (List.all_eq_true.1 (cells_closed n a))
@[simp] theorem encs_nil : encs ([] : List α) = [] := rfl
theorem encs_cons (a : α) (l : List α) : encs (a :: l) = Enc.cells a ++ encs l := rfl
theorem encs_one (a : α) : encs [a] = Enc.cells a := by simp [encs]
theorem encs_append (a b : List α) : encs (a ++ b) = encs a ++ encs b := by simp [encs]
theorem encs_snoc (l : List α) (a : α) : encs (l ++ [a]) = encs l ++ Enc.cells a := by rw [encs_append, encs_one]
theorem encs_len (l : List α) : (encs l).length = l.length * Enc.size α := by
  induction l with
  | nil => simp
  | cons a l ih => rw [encs_cons, List.length_append, Enc.len, ih, List.length_cons, Nat.add_mul, Nat.one_mul]; omega
theorem encs_len' {n : Nat} (hn : n = Enc.size α) (l : List α) : (encs l).length = l.length * n := by rw [hn, encs_len]
theorem encs_drop {n : Nat} (hn : n = Enc.size α) : ∀ (l : List α) (i : Nat), (encs l).drop (i * n) = encs (l.drop i)
  | [], i => by simp
  | a :: l, 0 => by simp
  | a :: l, i + 1 => by
    have hd : (i + 1) * n = n + i * n := by rw [Nat.add_mul, Nat.one_mul, Nat.add_comm]
    rw [encs_cons, hd, ← List.drop_drop, List.drop_left' (by rw [Enc.len, hn]), List.drop_succ_cons, encs_drop hn l i]
theorem encs_take {n : Nat} (hn : n = Enc.size α) : ∀ (l : List α) (i : Nat), (encs l).take (i * n) = encs (l.take i)
  | [], i => by simp
  | a :: l, 0 => by simp
  | a :: l, i + 1 => by
    have hd : (i + 1) * n = n + i * n := by rw [Nat.add_mul, Nat.one_mul, Nat.add_comm]
    have hl : (Enc.cells a).length = n := by rw [Enc.len, hn]
    rw [encs_cons, hd, ← hl, List.take_append, List.take_of_length_le (Nat.le_add_right _ _), Nat.add_sub_cancel_left, hl, encs_take hn l i, List.take_succ_cons, encs_cons]
theorem encs_at {n : Nat} (hn : n = Enc.size α) {l : List α} {i : Nat} (hi : i < l.length) : (encs l).drop (i * n) = Enc.cells l[i] ++ encs (l.drop (i + 1)) := by
  rw [encs_drop hn, List.drop_eq_getElem_cons hi, encs_cons]
theorem encs_at0 {l : List α} (hi : 0 < l.length) : encs l = Enc.cells l[0] ++ encs (l.drop 1) := by
  have := encs_at (n := Enc.size α) rfl hi
  rwa [Nat.zero_mul, List.drop_zero] at this
theorem cells_take {n : Nat} (hn : n = Enc.size α) (a : α) (r : List D) : (Enc.cells a ++ r).take n = Enc.cells a := List.take_left' (by rw [Enc.len, hn])
theorem cells_take' {n : Nat} (hn : n = Enc.size α) (a : α) : (Enc.cells a).take n = Enc.cells a := List.take_of_length_le (by rw [Enc.len, hn]; exact Nat.le_refl _)
theorem cells_drop {n : Nat} (hn : n = Enc.size α) (a : α) (r : List D) : (Enc.cells a ++ r).drop n = r := List.drop_left' (by rw [Enc.len, hn])
theorem cells_le {n : Nat} (hn : n = Enc.size α) (a : α) (r : List D) : n ≤ (Enc.cells a ++ r).length := by rw [List.length_append, Enc.len, hn]; omega
theorem encs_set {n : Nat} (hn : n = Enc.size α) (m : α) : ∀ (l : List α) {j : Nat}, j < l.length → setRange (encs l) (j * n) (Enc.cells m) = encs (l.set j m)
  | [], j, hj => by simp at hj
  | a :: l, j, hj => by
    have ha : (Enc.cells a).length = n := by rw [Enc.len, hn]
    have hm : (Enc.cells m).length = n := by rw [Enc.len, hn]
    cases j with
    | zero =>
      simp only [setRange, Nat.zero_mul, List.take_zero, List.nil_append, Nat.zero_add, hm, List.set_cons_zero, encs_cons]
      rw [List.drop_left' ha]
    | succ j =>
      have ih := encs_set hn m l (j := j) (by simpa using hj)
      have e1 : (j + 1) * n = n + j * n := by rw [Nat.add_mul, Nat.one_mul, Nat.add_comm]
      simp only [setRange, hm] at ih ⊢
      rw [List.set_cons_succ, encs_cons, encs_cons, ← ih, e1, Nat.add_assoc, ← List.drop_drop, List.drop_left' ha, ← ha, List.take_append, List.take_of_length_le (Nat.le_add_right _ _), Nat.add_sub_cancel_left]
      simp
@[simp] theorem encs_idFree (l : List α) : (encs l).all idFree = true := by
  induction l with
  | nil => rfl
  | cons a l ih => rw [encs_cons, List.all_append, ih, cells_idFree]; rfl
@[simp] theorem encs_idFreeL (l : List α) : idFree.idFreeL (encs l) = true := by rw [idFreeL_all]; exact encs_idFree l
@[simp] theorem encs_closed (n : Nat) (l : List α) : (encs l).all (closed n) = true := by
  rw [← closedL_all]; exact closedL_free n _ (encs_idFreeL l)
@[simp] theorem encs_closedL (n : Nat) (l : List α) : closed.closedL n (encs l) = true := closedL_free n _ (encs_idFreeL l)
@[simp] theorem encs_aI (l : List α) : (∀ x, x ∈ encs l → idFree x = true) = True := eq_true (List.all_eq_true.1 (encs_idFree l))
@[simp] theorem encs_aC (n : Nat) (l : List α) : (∀ x, x ∈ encs l → closed n x = true) = True := eq_true (List.all_eq_true.1 (encs_closed n l))
/-- A slice that reads as a list. -/
structure Sl (α : Type) where
  nil : Bool
  l : List α
  h : nil = true → l = []
omit [Enc α] in
theorem Sl.nn {s : Sl α} {i : Nat} (h : i < s.l.length) : s.nil = false := by
  cases hn : s.nil with
  | false => rfl
  | true => rw [s.h hn] at h; simp at h
end
/-- A list as a slice that is not nil. -/
def Sl.of {α : Type} (l : List α) : Sl α := ⟨false, l, by simp⟩
def Sl.none {α : Type} : Sl α := ⟨true, [], by simp⟩
@[simp] theorem Sl.of_l {α : Type} (l : List α) : (Sl.of l).l = l := rfl
@[simp] theorem Sl.of_nil {α : Type} (l : List α) : (Sl.of l).nil = false := rfl
@[simp] theorem Sl.none_l {α : Type} : (Sl.none : Sl α).l = [] := rfl
@[simp] theorem Sl.none_nil {α : Type} : (Sl.none : Sl α).nil = true := rfl
theorem stay_free {H : Heap} {n : Nat} {d : D} (h : idFree d = true) : stay H (n + 1) d = some (d, []) := by
  unfold stay
  rw [if_pos h]
theorem stayL_free {H : Heap} {n : Nat} : ∀ {l : List D}, idFree.idFreeL l = true → stayL (stay H (n + 1)) l = some (l, [])
  | [], _ => rfl
  | d :: l, h => by
    simp only [idFree.idFreeL, Bool.and_eq_true] at h
    simp only [stayL, stay_free h.1, stayL_free h.2, List.append_nil]
theorem stayL_append {g : D → Option (D × List Nat)} : ∀ (a b : List D), stayL g (a ++ b) = match stayL g a, stayL g b with
    | some (x, p), some (y, q) => some (x ++ y, p ++ q)
    | _, _ => none
  | [], b => by
    simp only [List.nil_append, stayL]
    cases stayL g b with
    | none => rfl
    | some q => obtain ⟨y, q⟩ := q; rfl
  | d :: a, b => by
    simp only [List.cons_append, stayL, stayL_append a b]
    cases g d with
    | none => rfl
    | some r =>
      obtain ⟨r, i⟩ := r
      cases stayL g a with
      | none => rfl
      | some p =>
        obtain ⟨x, p⟩ := p
        cases stayL g b with
        | none => rfl
        | some q => obtain ⟨y, q⟩ := q; simp
theorem stayL_free8 {H : Heap} {l : List D} (h : idFree.idFreeL l = true) : stayL (stay H 8) l = some (l, []) := stayL_free h
theorem stayL_free7 {H : Heap} {l : List D} (h : idFree.idFreeL l = true) : stayL (stay H 7) l = some (l, []) := stayL_free h
attribute [simp] stayL_append stayL_free8 stayL_free7
theorem run_loop1 {X : Cx} {f nt n0 : Nat} {Q : Ex → Env → Heap → Prop} {fs : List Fr} {e : Env} {H : Heap} {c : Code} (h : Run X f nt n0 (fun ex e H => ex ≠ .normal ∧ Run X f nt n0 Q fs (some (ex, e, H))) [] (code X f nt n0 c e H)) :
    Run X f nt n0 Q fs (code X f nt n0 (.loop c) e H) := by
  rw [code_loop]
  cases ho : code X f nt n0 c e H with
  | none => rw [ho, run_none] at h; exact h.elim
  | some q =>
    obtain ⟨ex, e1, H1⟩ := q
    rw [ho, run_nil] at h
    cases ex with
    | normal => exact absurd rfl h.1
    | exit i => exact h.2
    | ret => exact h.2
/-- A loop in the midst of code: what it comes to, and what goes on behind it. -/
theorem Run.loopThen {X : Cx} {f nt n0 : Nat} {Q : Ex → Env → Heap → Prop} {fs : List Fr} {c : Code} {σ : Type} (I : σ → Env → Heap → Prop) (m : σ → Nat) (s : σ) {e : Env} {H : Heap} (h0 : I s e H)
    (step : ∀ s e H, I s e H → Run X f nt n0 (fun ex e' H' => match ex with | .normal => ∃ s', m s' < m s ∧ I s' e' H' | ex => Run X f nt n0 Q fs (some (ex, e', H'))) [] (code X f nt n0 c e H)) :
    Run X f nt n0 Q fs (code X f nt n0 (.loop c) e H) := by
  have h := Run.loop (Q := fun ex e H => ex ≠ .normal ∧ Run X f nt n0 Q fs (some (ex, e, H))) I m (fun s e H hi => by
    refine Run.mono (step s e H hi) ?_
    intro ex e' H' hq
    rw [run_nil]
    cases ex with
    | normal => exact hq
    | exit i => exact ⟨by simp, hq⟩
    | ret => exact ⟨by simp, hq⟩) s e H h0
  exact Run.mono h fun ex e H hq => hq.2
/-- A loop, one round of it gone. -/
theorem run_unroll {X : Cx} {f nt n0 : Nat} {Q : Ex → Env → Heap → Prop} {fs : List Fr} {c : Code} {e : Env} {H : Heap}
    (h : Run X f nt n0 (fun ex e' H' => match ex with | .normal => Run X f nt n0 Q fs (code X f nt n0 (.loop c) e' H') | ex => Run X f nt n0 Q fs (some (ex, e', H'))) [] (code X f nt n0 c e H)) :
    Run X f nt n0 Q fs (code X f nt n0 (.loop c) e H) := by
  rw [code_loop]
  cases ho : code X f nt n0 c e H with
  | none => rw [ho, run_none] at h; exact h.elim
  | some q =>
    obtain ⟨ex, e1, H1⟩ := q
    rw [ho, run_nil] at h
    cases ex with
    | normal => exact h
    | exit i => exact h
    | ret => exact h
/-- What a function gives at its end, where that is not told ahead. -/
def FinE (X : Cx) (z : Bool) (rs : List ResultVar) (n0 : Nat) (P : D × Heap → Prop) : Ex → Env → Heap → Prop
  | .exit _, _, _ => False
  | _, e, H => ∃ r, (resD X e H rs).bind (fun ds => packR z n0 H (oneOrTup ds)) = some r ∧ P r
theorem finE_ret {X : Cx} {z : Bool} {rs : List ResultVar} {n0 : Nat} {P : D × Heap → Prop} {e : Env} {H : Heap} : FinE X z rs n0 P .ret e H = ∃ r, (resD X e H rs).bind (fun ds => packR z n0 H (oneOrTup ds)) = some r ∧ P r := rfl
theorem finE_normal {X : Cx} {z : Bool} {rs : List ResultVar} {n0 : Nat} {P : D × Heap → Prop} {e : Env} {H : Heap} : FinE X z rs n0 P .normal e H = ∃ r, (resD X e H rs).bind (fun ds => packR z n0 H (oneOrTup ds)) = some r ∧ P r := rfl
theorem call_runE {X : Cx} {f : Nat} {H : Heap} {fn : Func} {args : List D} (P : D × Heap → Prop) (hf : X.P.funcs[f]? = some fn) (hb : fn.body.isSome = true) (hbad : X.bad f = false ∧ X.con f args H = none)
    (h : Run X f fn.ntmps H.length (FinE X (X.fzr f) fn.results.toList H.length P) [] (code X f fn.ntmps H.length (stripC (bodyOf fn)) (argEnv 0 args) H)) (hg : (X.gr f && X.byRef f) = false := by rfl) : ∃ r, call X f args H = some r ∧ P r := by
  cases ho : code X f fn.ntmps H.length (stripC (bodyOf fn)) (argEnv 0 args) H with
  | none => rw [ho, run_none] at h; exact h.elim
  | some q =>
    obtain ⟨ex, e1, H1⟩ := q
    rw [ho, run_nil] at h
    cases ex with
    | exit i => exact h.elim
    | normal =>
      obtain ⟨r, h1, h2⟩ := h
      exact ⟨r, call_run hf hb hbad (by rw [ho, run_nil, fin_normal]; exact h1) hg, h2⟩
    | ret =>
      obtain ⟨r, h1, h2⟩ := h
      exact ⟨r, call_run hf hb hbad (by rw [ho, run_nil, fin_ret]; exact h1) hg, h2⟩
attribute [simp] finE_ret finE_normal
/-- What a function gives at its end, where all that was made stays. -/
def FinG (X : Cx) (z : Bool) (rs : List ResultVar) (P : D × Heap → Prop) : Ex → Env → Heap → Prop
  | .exit _, _, _ => False
  | _, e, H => ∃ r, (resD X e H rs).bind (fun ds => packG z H (oneOrTup ds)) = some r ∧ P r
theorem finG_ret {X : Cx} {z : Bool} {rs : List ResultVar} {P : D × Heap → Prop} {e : Env} {H : Heap} : FinG X z rs P .ret e H = ∃ r, (resD X e H rs).bind (fun ds => packG z H (oneOrTup ds)) = some r ∧ P r := rfl
theorem finG_normal {X : Cx} {z : Bool} {rs : List ResultVar} {P : D × Heap → Prop} {e : Env} {H : Heap} : FinG X z rs P .normal e H = ∃ r, (resD X e H rs).bind (fun ds => packG z H (oneOrTup ds)) = some r ∧ P r := rfl
theorem call_runG {X : Cx} {f : Nat} {H : Heap} {fn : Func} {args : List D} (P : D × Heap → Prop) (hf : X.P.funcs[f]? = some fn) (hb : fn.body.isSome = true) (hbad : X.bad f = false ∧ X.con f args H = none)
    (h : Run X f fn.ntmps H.length (FinG X (X.fzr f) fn.results.toList P) [] (code X f fn.ntmps H.length (stripC (bodyOf fn)) (argEnv 0 args) H)) (hg : (X.gr f && X.byRef f) = true := by rfl) : ∃ r, call X f args H = some r ∧ P r := by
  rw [code_strip] at h
  cases hbd : fn.body with
  | none => rw [hbd] at hb; cases hb
  | some c =>
    have hc : bodyOf fn = c := by simp only [bodyOf, hbd, Option.getD_some]
    rw [hc] at h
    rw [call_body hbad.2 hf hbd hbad.1, hg]
    cases ho : code X f fn.ntmps H.length c (argEnv 0 args) H with
    | none => rw [ho, run_none] at h; exact h.elim
    | some q =>
      obtain ⟨ex, e1, H1⟩ := q
      rw [ho, run_nil] at h
      cases ex with
      | exit i => exact h.elim
      | normal =>
        obtain ⟨r, h1, h2⟩ := h
        cases hr : resD X e1 H1 fn.results.toList with
        | none => rw [hr] at h1; cases h1
        | some ds => rw [hr] at h1; exact ⟨r, by simpa [hr, packS] using h1, h2⟩
      | ret =>
        obtain ⟨r, h1, h2⟩ := h
        cases hr : resD X e1 H1 fn.results.toList with
        | none => rw [hr] at h1; cases h1
        | some ds => rw [hr] at h1; exact ⟨r, by simpa [hr, packS] using h1, h2⟩
attribute [simp] finG_ret finG_normal packG
end Go.Ev
/- Whatever plain data comes in: what it reads as. -/
namespace Go.Ev
open Go Go.Proofs
/-- Types of plain data, field behind field. -/
def plainF (P : Program) (g : TypeId → Bool) : List Field → Nat → Nat → Bool
  | [], off, size => off == size
  | f :: fs, off, size => f.offset == off && g f.type && plainF P g fs (off + P.cellsOf f.type) size
def PlainT (P : Program) : Nat → TypeId → Bool
  | 0, _ => false
  | n + 1, t => match P.underlying t with
    | some .bool => true
    | some (.int _) => true
    | some .string => true
    | some (.slice e) => PlainT P n e
    | some (.array m e) => PlainT P n e && P.cellsOf t == m * P.cellsOf e
    | some (.struct fs) => plainF P (PlainT P n) fs.toList 0 (P.cellsOf t)
    | _ => false
def HasFs (P : Program) (g : TypeId → List D → Prop) : List Field → List D → Prop
  | [], cs => cs = []
  | f :: fs, cs => ∃ a b, cs = a ++ b ∧ a.length = P.cellsOf f.type ∧ g f.type a ∧ HasFs P g fs b
/-- Cells of a value of a type. -/
def HasT (P : Program) : Nat → TypeId → List D → Prop
  | 0, _, _ => False
  | n + 1, t, cs => match P.underlying t with
    | some .bool => ∃ b, cs = [.bool b]
    | some (.int k) => ∃ x, cs = [.int k x] ∧ (Lit.int k x).wf = true
    | some .string => ∃ s, cs = [.str s] ∧ s.length ≤ maxLen
    | some (.slice e) => cs = [.vsl true [] 0] ∨ ∃ ls : List (List D), cs = [.vsl false ls.flatten ls.length] ∧ (ls.length ≤ maxLen ∧ ls.length * P.bytesOf e ≤ reachBytes) ∧ ∀ l, l ∈ ls → l.length = P.cellsOf e ∧ HasT P n e l
    | some (.array m e) => ∃ ls : List (List D), cs = ls.flatten ∧ ls.length = m ∧ ∀ l, l ∈ ls → l.length = P.cellsOf e ∧ HasT P n e l
    | some (.struct fs) => HasFs P (HasT P n) fs.toList cs
    | _ => False
attribute [irreducible] HasT

theorem cell_lt {W : World} {a : Addr} {v : Value} (h : W.cell? a = some v) : a.block < W.heap.size := by
  unfold World.cell? at h
  rcases Nat.lt_or_ge a.block W.heap.size with hlt | hge
  · exact hlt
  · have : W.heap[a.block]? = none := Array.getElem?_eq_none hge
    simp [this] at h
def Cor (W : World) (ds : List D) (vs : List Value) : Prop := ds.length = vs.length ∧ (∀ d, d ∈ ds → isCell d = true) ∧ ∀ (j : Nat) d, ds[j]? = some d → Rep (· < W.heap.size) W iota0 [] d (vs.getD j undef)

theorem cor_one {W : World} {d : D} {v : Value} (hc : isCell d = true) (h : Rep (· < W.heap.size) W iota0 [] d v) : Cor W [d] [v] := by
  refine ⟨rfl, fun x hx => by rw [List.mem_singleton.1 hx]; exact hc, fun j x hj => ?_⟩
  cases j with
  | zero => simp at hj; subst hj; exact h
  | succ j => simp at hj

theorem cor_append {W : World} {a b : List D} {us vs : List Value} (h1 : Cor W a us) (h2 : Cor W b vs) : Cor W (a ++ b) (us ++ vs) := by
  refine ⟨by simp [h1.1, h2.1], fun d hd => ?_, fun j d hj => ?_⟩
  · rcases List.mem_append.1 hd with h | h
    · exact h1.2.1 d h
    · exact h2.2.1 d h
  · by_cases hlt : j < a.length
    · rw [List.getElem?_append_left hlt] at hj
      have := h1.2.2 j d hj
      rw [List.getD_eq_getElem?_getD] at this ⊢
      rwa [List.getElem?_append_left (by rw [← h1.1]; exact hlt)]
    · rw [List.getElem?_append_right (by omega)] at hj
      have := h2.2.2 _ d hj
      rw [List.getD_eq_getElem?_getD] at this ⊢
      rw [List.getElem?_append_right (by rw [← h1.1]; omega), ← h1.1]
      exact this

section
variable {H : Type} {enc : TypeId × Value → H} {P : Program} {W : World}

/-- Cells that are cut out one behind the other. -/
theorem cut_rows {sz : Nat} {Q : List D → Prop} : ∀ (m off : Nat) (cs : List Value), cs.length = off + m * sz →
    (∀ i, i < m → ∃ ds, Q ds ∧ Cor W ds ((cs.drop (off + i * sz)).take sz)) → ∃ ls : List (List D), ls.length = m ∧ (∀ l, l ∈ ls → l.length = sz ∧ Q l) ∧ Cor W ls.flatten (cs.drop off)
  | 0, off, cs, hl, _ => ⟨[], rfl, by simp, by
      rw [List.drop_eq_nil_of_le (by omega)]
      exact ⟨rfl, by simp, by simp⟩⟩
  | m + 1, off, cs, hl, h => by
    have e1 : (m + 1) * sz = sz + m * sz := by rw [Nat.add_mul, Nat.one_mul, Nat.add_comm]
    rw [e1] at hl
    obtain ⟨ds, q1, q2⟩ := h 0 (by omega)
    rw [Nat.zero_mul, Nat.add_zero] at q2
    obtain ⟨ls, l1, l2, l3⟩ := cut_rows (sz := sz) (Q := Q) m (off + sz) cs (by omega) (fun i hi => by
      have := h (i + 1) (by omega)
      rw [Nat.add_mul, Nat.one_mul] at this
      rw [show off + sz + i * sz = off + (i * sz + sz) by omega]
      exact this)
    have hds : ds.length = sz := by
      rw [q2.1, List.length_take, List.length_drop]
      omega
    refine ⟨ds :: ls, by simp [l1], fun l hl => ?_, ?_⟩
    · rcases List.mem_cons.1 hl with rfl | hl
      · exact ⟨hds, q1⟩
      · exact l2 l hl
    · rw [List.flatten_cons]
      have := cor_append q2 l3
      rw [← List.drop_drop, List.take_append_drop] at this
      exact this

theorem fs_has {g : TypeId → Bool} {Q : TypeId → List D → Prop} : ∀ (fs : List Field) (off : Nat) (cs : List Value), plainF P g fs off cs.length = true →
    (∀ f, f ∈ fs → g f.type = true → ∃ ds, Q f.type ds ∧ Cor W ds ((cs.drop f.offset).take (P.cellsOf f.type))) → ∃ ds, HasFs P Q fs ds ∧ Cor W ds (cs.drop off)
  | [], off, cs, hp, _ => by
    simp only [plainF, beq_iff_eq] at hp
    exact ⟨[], rfl, by rw [List.drop_eq_nil_of_le (by omega)]; exact ⟨rfl, by simp, by simp⟩⟩
  | f :: fs, off, cs, hp, h => by
    simp only [plainF, Bool.and_eq_true, beq_iff_eq] at hp
    obtain ⟨⟨h1, h2⟩, h3⟩ := hp
    obtain ⟨a, a1, a2⟩ := h f (List.mem_cons_self ..) h2
    obtain ⟨b, b1, b2⟩ := fs_has fs (off + P.cellsOf f.type) cs h3 fun f' hf => h f' (List.mem_cons_of_mem _ hf)
    rw [h1] at a2
    have hle : off + P.cellsOf f.type ≤ cs.length := plainF_le h3
    refine ⟨a ++ b, ⟨a, b, rfl, ?_, a1, b1⟩, ?_⟩
    · rw [a2.1, List.length_take, List.length_drop]
      omega
    · have := cor_append a2 b2
      rwa [← List.drop_drop, List.take_append_drop] at this
where plainF_le {g : TypeId → Bool} : ∀ {fs : List Field} {off n : Nat}, plainF P g fs off n = true → off ≤ n
  | [], off, n, h => by simp only [plainF, beq_iff_eq] at h; omega
  | f :: fs, off, n, h => by
    simp only [plainF, Bool.and_eq_true] at h
    have := plainF_le h.2
    omega

/-- No part is of a size that memory can not have. -/
def Wok (P : Program) (t : TypeId) (d : DataW H) : Prop := ∀ k, k ∈ d.weights P t → k ≤ reachBytes
theorem wAll_mem {e : TypeId} : ∀ {l : List (DataW H)} {d : DataW H}, d ∈ l → ∀ k, k ∈ d.weights P e → k ∈ DataW.weightsAll P e l
  | [], _, h, _, _ => by cases h
  | a :: l, d, h, k, hk => by
    unfold DataW.weightsAll
    rcases List.mem_cons.1 h with rfl | h
    · exact List.mem_append_left _ hk
    · exact List.mem_append_right _ (wAll_mem h k hk)
theorem wEach_mem : ∀ {ts : List TypeId} {l : List (DataW H)} {i : Nat} {t : TypeId} {d : DataW H}, ts[i]? = some t → l[i]? = some d → ∀ k, k ∈ d.weights P t → k ∈ DataW.weightsEach P ts l
  | [], _, i, _, _, h, _, _, _ => by simp at h
  | t :: ts, [], i, _, _, _, h, _, _ => by simp at h
  | t :: ts, a :: l, 0, u, d, h, g, k, hk => by
    simp at h g
    subst h g
    unfold DataW.weightsEach
    exact List.mem_append_left _ hk
  | t :: ts, a :: l, i + 1, u, d, h, g, k, hk => by
    unfold DataW.weightsEach
    exact List.mem_append_right _ (wEach_mem (i := i) (by simpa using h) (by simpa using g) k hk)
theorem trod_has : ∀ (n fuel : Nat) (t : TypeId) (cs : List Value) (x : DataW H × List MemPlace), PlainT P n t = true → Wok P t x.1 → DataW.trod enc P W 0 (fun _ => true) true fuel t cs = some x →
    ∃ ds, HasT P n t ds ∧ Cor W ds cs
  | 0, _, _, _, _, h, _, _ => by simp [PlainT] at h
  | n + 1, fuel, t, cs, x, hp, hw, h => by
    have ih := trod_has n
    unfold PlainT at hp
    unfold HasT
    cases hu : P.underlying t with
    | none => rw [hu] at hp; simp at hp
    | some u =>
    rw [hu] at hp
    cases u with
    | bool =>
      obtain ⟨b, rfl, _⟩ := DataW.trod_bool hu h
      exact ⟨_, ⟨b, rfl⟩, cor_one rfl (.bool _)⟩
    | int k =>
      obtain ⟨b, rfl, _, hw⟩ := DataW.trod_int hu h
      exact ⟨_, ⟨b, rfl, hw⟩, cor_one rfl (.int _ _)⟩
    | string =>
      obtain ⟨s, rfl, _, hw⟩ := DataW.trod_string hu h
      refine ⟨_, ⟨s.data.toList, rfl, by simpa using hw⟩, cor_one rfl ?_⟩
      have := Rep.str (ok := (· < W.heap.size)) (w := W) (ι := iota0) (H := []) s.data.toList
      simpa using this
    | slice e =>
      simp only at hp ⊢
      rcases DataW.trod_slice hu h with ⟨rfl, _⟩ | ⟨a, len, cap, elems, rest, m, rfl, rfl, hx, _, hlc, hcm, hel, hget, _⟩
      · exact ⟨_, .inl rfl, cor_one rfl .vnil⟩
      · have hwe : ∀ k, k ∈ (elems.length + rest.length) * P.bytesOf e :: (DataW.weightsAll P e (elems.map (·.1)) ++ DataW.weightsAll P e (rest.map (·.1))) → k ≤ reachBytes := by
          intro k hk
          refine hw k ?_
          rw [hx]
          unfold DataW.weights
          rw [hu]
          simp only [List.length_map]
          exact hk
        have hw1 := hwe _ (List.mem_cons_self ..)
        have hrow : ∀ i, i < len → ∃ ds, HasT P n e ds ∧ ds.length = P.cellsOf e ∧ (∀ d, d ∈ ds → isCell d = true) ∧ ∀ (j : Nat) d, ds[j]? = some d → ∃ v, W.cell? (a.add (i * P.cellsOf e + j)) = some v ∧ Rep (· < W.heap.size) W iota0 [] d v := by
          intro i hi
          have hg := hget i hi
          rw [List.getElem?_eq_getElem (by omega)] at hg
          cases hcs : W.cells? 0 (a.add (i * P.cellsOf e)) (P.cellsOf e) with
          | none => rw [hcs] at hg; simp at hg
          | some cs =>
            rw [hcs, Option.bind_some] at hg
            have hwi : Wok P e elems[i].1 := fun k hk => hwe k (List.mem_cons_of_mem _ (List.mem_append_left _ (wAll_mem (List.mem_map_of_mem (List.getElem_mem _)) k hk)))
            obtain ⟨ds, d1, d2, d3, d4⟩ := ih m e cs _ hp hwi hg
            obtain ⟨_, c2, c3⟩ := World.cells?_some hcs
            refine ⟨ds, d1, by rw [d2, c2], d3, fun j d hj => ?_⟩
            have hjl : j < cs.length := by rw [← d2]; exact (List.getElem?_eq_some_iff.1 hj).1
            refine ⟨cs[j], ?_, ?_⟩
            · rw [← Addr.add_add, c3 j (by omega), List.getElem?_eq_getElem hjl]
            · have := d4 j d hj
              rwa [List.getD_eq_getElem?_getD, List.getElem?_eq_getElem hjl, Option.getD_some] at this
        have hall : ∀ k, k ≤ len → ∃ ls : List (List D), ls.length = k ∧ (∀ l, l ∈ ls → l.length = P.cellsOf e ∧ HasT P n e l) ∧ (∀ d, d ∈ ls.flatten → isCell d = true) ∧ ls.flatten.length = k * P.cellsOf e ∧
            ∀ (j : Nat) d, ls.flatten[j]? = some d → ∃ v, W.cell? (a.add j) = some v ∧ Rep (· < W.heap.size) W iota0 [] d v := by
          intro k
          induction k with
          | zero => intro _; exact ⟨[], rfl, by simp, by simp, by simp, by simp⟩
          | succ k ihk =>
            intro hk
            obtain ⟨ls, l1, l2, l3, l4, l5⟩ := ihk (by omega)
            obtain ⟨ds, d1, d2, d3, d4⟩ := hrow k (by omega)
            refine ⟨ls ++ [ds], by simp [l1], fun l hl => ?_, ?_, ?_, ?_⟩
            · rcases List.mem_append.1 hl with h | h
              · exact l2 l h
              · rw [List.mem_singleton.1 h]; exact ⟨d2, d1⟩
            · intro d hd
              rw [List.flatten_append] at hd
              rcases List.mem_append.1 hd with h | h
              · exact l3 d h
              · exact d3 d (by simpa using h)
            · rw [List.flatten_append, List.length_append, l4, Nat.add_mul, Nat.one_mul]
              simp [d2]
            · intro j d hj
              rw [List.flatten_append] at hj
              by_cases hlt : j < ls.flatten.length
              · rw [List.getElem?_append_left hlt] at hj
                exact l5 j d hj
              · rw [List.getElem?_append_right (by omega)] at hj
                rw [l4] at hj hlt
                have hj' : ds[j - k * P.cellsOf e]? = some d := by simpa using hj
                obtain ⟨v, v1, v2⟩ := d4 _ d hj'
                refine ⟨v, ?_, v2⟩
                rw [← v1]
                congr 2
                omega
        obtain ⟨ls, l1, l2, l3, l4, l5⟩ := hall len (Nat.le_refl _)
        refine ⟨_, .inr ⟨ls, rfl, ⟨by rw [l1]; omega, by rw [l1, ← hel]; exact Nat.le_trans (Nat.mul_le_mul_right _ (Nat.le_add_right _ _)) hw1⟩, l2⟩, cor_one rfl ?_⟩
        rw [l1]
        refine .vsl a (fun j => (W.cell? (a.add j)).getD undef) (fun d hd => ?_) l3 (fun j d hj => ?_) (fun j d hj => ?_) hlc
        · obtain ⟨j, hj⟩ := List.mem_iff_getElem?.1 hd
          obtain ⟨v, v1, _⟩ := l5 j d hj
          have := cell_lt v1
          rwa [add_block] at this
        · obtain ⟨v, v1, _⟩ := l5 j d hj
          rw [v1]; rfl
        · obtain ⟨v, v1, v2⟩ := l5 j d hj
          rw [v1]; exact v2
    | array m e =>
      simp only [Bool.and_eq_true, beq_iff_eq] at hp ⊢
      obtain ⟨xs, k, rfl, hx, hl, hxl, hg⟩ := DataW.trod_array hu h
      have := cut_rows (W := W) (sz := P.cellsOf e) (Q := HasT P n e) m 0 cs (by rw [hl, hp.2]; omega) (fun i hi => by
        rw [Nat.zero_add]
        have hgi := hg i hi
        rw [List.getElem?_eq_getElem (by omega)] at hgi
        exact ih k e _ _ hp.1 (fun j hj => hw j (by rw [hx]; unfold DataW.weights; rw [hu]; exact wAll_mem (List.mem_map_of_mem (List.getElem_mem _)) j hj)) hgi)
      obtain ⟨ls, l1, l2, l3⟩ := this
      exact ⟨ls.flatten, ⟨ls, rfl, l1, l2⟩, by simpa using l3⟩
    | struct fs =>
      simp only at hp ⊢
      obtain ⟨xs, k, rfl, hx, hl, hxl, hg⟩ := DataW.trod_struct hu h
      rw [← hl] at hp
      obtain ⟨ds, d1, d2⟩ := fs_has (W := W) (Q := HasT P n) fs.toList 0 cs hp (fun f hf hgf => by
        obtain ⟨i, hi⟩ := List.mem_iff_getElem?.1 hf
        have hi' : fs[i]? = some f := by simpa using hi
        have hgi := hg i f hi'
        have hlt : i < xs.length := by rw [hxl]; exact (Array.getElem?_eq_some_iff.1 hi').1
        rw [List.getElem?_eq_getElem hlt] at hgi
        exact ih k f.type _ _ hgf (fun j hj => hw j (by
          rw [hx]
          unfold DataW.weights
          rw [hu]
          exact wEach_mem (i := i) (by rw [List.getElem?_map, hi]; rfl) (by rw [List.getElem?_map, List.getElem?_eq_getElem hlt]; rfl) j hj)) hgi)
      exact ⟨ds, d1, by simpa using d2⟩
    | _ => simp at hp

/-- An argument of plain data: what it reads as. -/
theorem read_plain {n : Nat} {t : TypeId} {v : Value} {d : DataW H} {ps : List MemPlace} (hp : PlainT P n t = true) (h : DataW.Trod enc P W 0 (fun _ => true) true t v d ps ∧ Wok P t d) :
    ∃ ds, HasT P n t ds ∧ Cor W ds v.cells.toList := by
  obtain ⟨⟨fuel, hf⟩, hw⟩ := h
  exact trod_has n fuel t _ _ hp hw hf
end
end Go.Ev
/- Package-level variables that are laid: what they read as. -/
namespace Go.Ev
open Go Go.Proofs Go.RowKit Go.ChangeShapes
theorem addr_add_zero (a : Addr) : a.add 0 = a := by
  obtain ⟨b, o, p⟩ := a
  cases p <;> simp [Addr.add]
theorem rep_tab {P : Program} {W : World} {name : String} {k : IntKind} {zs : List Int} {g : Nat} (h : Lib.TabIs P W name k zs) (hg : P.globalNamed name = some g) :
    Rep (· < W.heap.size) W iota0 [] (.vptr (zs.map (.int k))) (.pointer (some ⟨g, 0, none⟩)) := by
  have hc : ∀ i, i < zs.length → W.cell? ⟨g, i, none⟩ = some (.int k (zs.getD i 0)) := fun i hi => h.cell hg i hi
  refine .vptr _ (fun j => .int k (zs.getD j 0)) (fun d hd => ?_) (fun d hd => ?_) (fun j d hj => ?_) (fun j d hj => ?_)
  · obtain ⟨j, hj⟩ := List.mem_iff_getElem?.1 hd
    have hlt : j < zs.length := by
      have := (List.getElem?_eq_some_iff.1 hj).1
      simpa using this
    have := cell_lt (hc j hlt)
    exact this
  · obtain ⟨z, _, rfl⟩ := List.mem_map.1 hd
    rfl
  · have hlt : j < zs.length := by
      have := (List.getElem?_eq_some_iff.1 hj).1
      simpa using this
    rw [addr_add, Nat.zero_add]
    exact hc j hlt
  · have hlt : j < zs.length := by
      have := (List.getElem?_eq_some_iff.1 hj).1
      simpa using this
    rw [List.getElem?_map, List.getElem?_eq_getElem hlt, Option.map_some, Option.some.injEq] at hj
    subst hj
    rw [List.getD_eq_getElem?_getD, List.getElem?_eq_getElem hlt, Option.getD_some]
    exact .int k _
theorem rep_err {P : Program} {W : World} {name : String} {g : Nat} {tp : TypeId} {text : List UInt8} (hg : P.globalNamed name = some g)
    (h : ∃ (a : Addr) (s : ByteArray), W.var? P name = some #[.iface tp (.pointer (some a))] ∧ W.cell? a = some (.string s) ∧ s.data.toList = text ∧ s.size ≤ maxLen) :
    Rep (· < W.heap.size) W iota0 [] (.vptr [.iface tp (.vptr [.str text])]) (.pointer (some ⟨g, 0, none⟩)) := by
  obtain ⟨a, s, hv, hc, rfl, _⟩ := h
  have hcell : W.cell? ⟨g, 0, none⟩ = some (.iface tp (.pointer (some a))) := by
    have := World.var?_cell hg hv 0
    simpa using this
  have one : ∀ {d e : D} {j : Nat}, [e][j]? = some d → j = 0 ∧ d = e := fun {d e j} hj => by
    cases j with
    | zero => simp at hj; exact ⟨rfl, hj.symm⟩
    | succ j => simp at hj
  have hin : Rep (· < W.heap.size) W iota0 [] (.vptr [.str s.data.toList]) (.pointer (some a)) := by
    refine .vptr a (fun _ => .string s) (fun d hd => cell_lt hc) (fun d hd => by rw [List.mem_singleton.1 hd]; rfl) (fun j d hj => ?_) (fun j d hj => ?_)
    · obtain ⟨rfl, rfl⟩ := one hj
      rw [addr_add_zero]
      exact hc
    · obtain ⟨rfl, rfl⟩ := one hj
      have := Rep.str (ok := (· < W.heap.size)) (w := W) (ι := iota0) (H := []) s.data.toList
      simpa using this
  refine .vptr _ (fun _ => .iface tp (.pointer (some a))) (fun d hd => cell_lt hcell) (fun d hd => by rw [List.mem_singleton.1 hd]; rfl) (fun j d hj => ?_) (fun j d hj => ?_)
  · obtain ⟨rfl, rfl⟩ := one hj
    rw [addr_add_zero]
    exact hcell
  · obtain ⟨rfl, rfl⟩ := one hj
    exact .iface hin
/-- The sign of a pointer's name. -/
def star : String := String.ofList [Char.ofNat 42]
theorem err_row {P : Program} {nm base : String} {tp : TypeId} (hs : star ++ base = nm)
    (hrows : ((List.range P.types.size).all fun u => P.typeName? 3 u != some nm || u == tp) = true)
    (hnamed : ((List.range P.types.size).all fun e => P.typeName? 2 e != some base || (match (P.info? e).map (·.desc) with | some (TypeDesc.named _ _) => true | _ => false)) = true)
    (hstar : base.toList.head? ≠ some (Char.ofNat 42)) : ∀ u, P.typeName? 3 u = some nm → u = tp := by
  subst hs
  intro u hu
  exact typeName_ptr_named (nm := base) hrows hnamed hstar u hu
end Go.Ev
/- Functions that are met by a contract. -/
namespace Go.Ev
open Go Go.Proofs Go.RowKit
section
variable {X : Cx} {ok : Nat → Prop} {w w' : World} {ι : Iota} {H : Heap}
theorem below_evol {n : Nat} (hn : n ≤ H.length) (hb : Below w.heap.size w w') : Evol n ok w ι H ok w' ι H where
  os := hb.os
  tape := hb.tape
  output := hb.output
  size := hb.size
  frame b hlt _ := hb.block b hlt
  okU _ h := h
  okN _ h _ := .inl h
  nle := ⟨hn, hn⟩
  heap _ _ ds h := ⟨ds, h, Nat.le_refl _, fun _ => rfl⟩
  own i ds _ s h1 h2 _ := ⟨i, ds, s, h1, h2⟩
theorem below_sim (hs : Sim X ok w ι H) (hb : Below w.heap.size w w') : Sim X ok w' ι H := by
  have hev : Evol H.length ok w ι H ok w' ι H := below_evol (Nat.le_refl _) hb
  refine ⟨fun b h => Nat.lt_of_lt_of_le (hs.okS b h) hb.size, fun g cs hg => (((hs.glob g cs hg).lift (ι := ι) (H := H)).evol hs hev rfl).free rfl _ _, hs.inj, fun i ds hd => ?_⟩
  obtain ⟨b, arr, e, fr, q1, q2, q3, q4, q5, q6, q7, q8⟩ := hs.blk i ds hd
  have hlt : b < w.heap.size := by
    rcases Nat.lt_or_ge b w.heap.size with h | h
    · exact h
    · rw [Array.getElem?_eq_none h] at q3; cases q3
  exact ⟨b, arr, e, fr, q1, q2, by rw [hb.block b hlt]; exact q3, q4, q5, q6, q7, fun j d hj => (q8 j d hj).evol hs hev (q8 j d hj).closed⟩
/-- A function that leaves all that was there as it was, and gives something without names. -/
theorem con_below {f : Nat} {vs : List Value} {r : D} (hs : Sim X ok w ι H) (henter : (callFunc f vs.toArray).run X.P w = .ok (.enter f vs.toArray) w)
    (hc : Calls X.P f vs.toArray w fun e w' => ∃ v, e = .returned v ∧ Rep ok w' ι H r v ∧ Below w.heap.size w w') : Goes X.P (callFunc f vs.toArray) w (CallPost X ok w ι H r H) := by
  unfold Goes
  rw [henter]
  refine hc.mono ?_
  rintro e w' ⟨v, rfl, hr, hb⟩
  exact ⟨v, rfl, ι, ok, below_sim hs hb, hr, below_evol (Nat.le_refl _) hb, fun i ds hi hd => by rw [hget, List.getElem?_eq_none hi] at hd; cases hd⟩
/-- One variable of one number. -/
theorem glob_int {g : Nat} {k : IntKind} {m : Int} (hs : Sim X ok w ι H) (hg : X.glob g = some [.int k m]) : w.cell? ⟨g, 0, none⟩ = some (.int k m) := by
  have h := hs.glob g _ hg
  cases h with
  | vptr a f ha hc hr h =>
    have h1 := hr 0 (.int k m) rfl
    have h2 := h 0 (.int k m) rfl
    rw [addr_add_zero] at h1
    generalize f 0 = v at h1 h2
    cases h2
    exact h1
theorem rep_one {W : World} {g : Nat} {k : IntKind} {m : Int} (h : W.cell? ⟨g, 0, none⟩ = some (.int k m)) : Rep (· < W.heap.size) W iota0 [] (.vptr [.int k m]) (.pointer (some ⟨g, 0, none⟩)) := by
  refine .vptr _ (fun _ => .int k m) (fun d hd => cell_lt h) (fun d hd => by rw [List.mem_singleton.1 hd]; rfl) (fun j d hj => ?_) (fun j d hj => ?_)
  · cases j with
    | zero => rw [addr_add_zero]; exact h
    | succ j => simp at hj
  · cases j with
    | zero => simp at hj; subst hj; exact .int k m
    | succ j => simp at hj
end
/-- A number that a program's start sets, whatever it is. -/
class MaxL where
  m : Int
end Go.Ev
/- Numbers as texts: what the shelf has of it. -/
namespace Go.Ev
open Go Go.Proofs Go.RowKit Go.Shelf
/-- The decimal digits of a number below 10^f. -/
def decF : Nat → Nat → List UInt8
  | 0, _ => []
  | f + 1, v => if v < 10 then [UInt8.ofNat (48 + v)] else decF f (v / 10) ++ [UInt8.ofNat (48 + v % 10)]
def dec (v : Nat) : List UInt8 := decF 20 v
theorem decF_lib : ∀ {f v : Nat}, v < 10 ^ f → 1 ≤ f → decF f v = Lib.decDigits v
  | f + 1, v, h, _ => by
    rw [decF, Lib.decDigits]
    by_cases hv : v < 10
    · rw [if_pos hv, dif_pos hv]
    · have hf : 1 ≤ f := by
        rcases f with _ | f
        · simp at h; omega
        · omega
      rw [if_neg hv, dif_neg hv, decF_lib (f := f) (by rw [Nat.pow_succ] at h; omega) hf]
theorem dec_lib {v : Nat} (h : v < 18446744073709551616) : dec v = Lib.decDigits v := decF_lib (Nat.lt_trans h (by decide)) (by decide)
def conLen64 : List D → Heap → Option (D × Heap)
  | [.int .u64 x], H => if 0 ≤ x ∧ x ≤ 18446744073709551615 then some (.int .i64 (Lib.bitLen x.toNat), H) else none
  | _, _ => none
def conSmall : List D → Heap → Option (D × Heap)
  | [.int .i64 x], H => if 0 ≤ x ∧ x < 100 then some (.str (dec x.toNat), H) else none
  | _, _ => none
section
variable {X : Cx} {ρ : Ren} {ok : Nat → Prop} {w : World} {ι : Iota} {H H' : Heap} {r : D} {args : List D} {vs : List Value}
theorem repL_int1 {k : IntKind} {x : Int} (hv : RepL ok w ι H [.int k x] vs) : vs = [.int k x] := by
  obtain ⟨v, us, rfl, h1, h2⟩ := repL_cons hv
  cases repL_nil h2
  cases h1
  rfl
theorem conLen64_run (L : Lays.n129 X.P ρ) (h : conLen64 args H = some (r, H')) (hs : Sim X ok w ι H) (hv : RepL ok w ι H args vs) :
    Goes X.P (callFunc (ρ.f 129) vs.toArray) w (CallPost X ok w ι H r H') := by
  have he : ∀ args w, (callFunc (ρ.f 129) args).run X.P w = .ok (.enter (ρ.f 129) args) w := Go.Proofs.enters_of L.f129 (by kernel_rfl) rfl
  unfold conLen64 at h
  split at h
  · rename_i x
    split at h
    · rename_i hc
      injection h with h
      injection h with h1 h2
      subst h1; subst h2
      cases repL_int1 hv
      refine con_below hs (he _ _) ((Any.bits_Len64 L x w hc.1 hc.2).mono ?_)
      rintro e w' ⟨rfl, rfl⟩
      exact ⟨_, rfl, .int .i64 _, Below.refl _ _⟩
    · cases h
  · cases h
theorem conSmall_run (L : Lays.n283 X.P ρ) (h : conSmall args H = some (r, H')) (hs : Sim X ok w ι H) (hv : RepL ok w ι H args vs) :
    Goes X.P (callFunc (ρ.f 283) vs.toArray) w (CallPost X ok w ι H r H') := by
  have he : ∀ args w, (callFunc (ρ.f 283) args).run X.P w = .ok (.enter (ρ.f 283) args) w := Go.Proofs.enters_of L.f283 (by kernel_rfl) rfl
  unfold conSmall at h
  split at h
  · rename_i x
    split at h
    · rename_i hc
      injection h with h
      injection h with h1 h2
      subst h1; subst h2
      cases repL_int1 hv
      have hx : x = ((x.toNat : Nat) : Int) := by omega
      have := Any.internal_strconv_small L x.toNat (by omega) w
      rw [← hx] at this
      refine con_below hs (he _ _) (this.mono ?_)
      rintro e w' ⟨rfl, rfl⟩
      rw [dec_lib (by omega)]
      exact ⟨_, rfl, .str _, Below.refl _ _⟩
    · cases h
  · cases h
end
end Go.Ev
/- Functions of the library that are met by the shelf's contracts: strings.Index, Clone. -/
namespace Go.Ev
open Go Go.Proofs Go.RowKit Go.Shelf
/-- Where a text stands in another one first, or -1. -/
def idxN (sub : List UInt8) : List UInt8 → Nat → Int
  | [], n => if sub.isEmpty then n else -1
  | b :: l, n => if sub.isPrefixOf (b :: l) then n else idxN sub l (n + 1)
theorem idxN_lib (sub : List UInt8) : ∀ (l : List UInt8) (n : Nat), idxN sub l n = if Lib.index l sub = -1 then -1 else Lib.index l sub + n
  | [], n => by
    simp only [idxN, Lib.index]
    by_cases h : sub.isEmpty = true <;> simp [h]
  | b :: l, n => by
    have hg := Lib.index_ge l sub
    simp only [idxN, Lib.index, idxN_lib sub l (n + 1)]
    by_cases hp : sub.isPrefixOf (b :: l) = true
    · simp [hp]
    · by_cases h : Lib.index l sub = -1
      · simp [h, hp]
      · have h2 : ¬ Lib.index l sub + 1 = -1 := by omega
        simp only [beq_iff_eq, h, h2, hp, if_false, Bool.false_eq_true]
        omega
theorem idx_lib (sub l : List UInt8) : Lib.index l sub = idxN sub l 0 := by
  rw [idxN_lib]
  split
  · assumption
  · simp
def conIdx : List D → Heap → Option (D × Heap)
  | [.str s, .str sub], H => if s.length < 4294967281 then some (.int .i64 (idxN sub s 0), H) else none
  | _, _ => none
def conClone : List D → Heap → Option (D × Heap)
  | [.str s], H => if s.length ≤ 281474976710656 then some (.str s, H) else none
  | _, _ => none
section
variable {X : Cx} {ρ : Ren} {ok : Nat → Prop} {w : World} {ι : Iota} {H H' : Heap} {r : D} {args : List D} {vs : List Value}
theorem repL_str1 {s : List UInt8} (hv : RepL ok w ι H [.str s] vs) : vs = [.string ⟨s.toArray⟩] := by
  obtain ⟨v, us, rfl, h1, h2⟩ := repL_cons hv
  cases repL_nil h2
  cases h1
  rfl
theorem repL_str2 {s t : List UInt8} (hv : RepL ok w ι H [.str s, .str t] vs) : vs = [.string ⟨s.toArray⟩, .string ⟨t.toArray⟩] := by
  obtain ⟨v, us, rfl, h1, h2⟩ := repL_cons hv
  cases repL_str1 h2
  cases h1
  rfl
theorem conIdx_run {m : Int} (L : Lays.n219 X.P ρ) (hg : X.glob (ρ.g 1) = some [.int .i64 m]) (h : conIdx args H = some (r, H')) (hs : Sim X ok w ι H) (hv : RepL ok w ι H args vs) :
    Goes X.P (callFunc (ρ.f 219) vs.toArray) w (CallPost X ok w ι H r H') := by
  have he : ∀ args w, (callFunc (ρ.f 219) args).run X.P w = .ok (.enter (ρ.f 219) args) w := Go.Proofs.enters_of L.f219 (by kernel_rfl) rfl
  unfold conIdx at h
  split at h
  · rename_i s sub
    split at h
    · rename_i hlen
      injection h with h
      injection h with h1 h2
      subst h1; subst h2
      cases repL_str2 hv
      refine con_below hs (he _ _) ((Any.stringslite_Index L ⟨s.toArray⟩ ⟨sub.toArray⟩ m w (by simpa [ByteArray.size] using hlen) (glob_int hs hg)).mono ?_)
      rintro e w' ⟨rfl, rfl⟩
      refine ⟨_, rfl, ?_, Below.refl _ _⟩
      rw [idx_lib]
      exact .int .i64 _
    · cases h
  · cases h
theorem conClone_run (L : LaysM.n316 X.P ρ) (h : conClone args H = some (r, H')) (hs : Sim X ok w ι H) (hv : RepL ok w ι H args vs) :
    Goes X.P (callFunc (ρ.f 316) vs.toArray) w (CallPost X ok w ι H r H') := by
  have he : ∀ args w, (callFunc (ρ.f 316) args).run X.P w = .ok (.enter (ρ.f 316) args) w := Go.Proofs.enters_of L.f316 (by kernel_rfl) rfl
  unfold conClone at h
  split at h
  · rename_i s
    split at h
    · rename_i hlen
      injection h with h
      injection h with h1 h2
      subst h1; subst h2
      cases repL_str1 hv
      refine con_below hs (he _ _) ((Any.stringslite_Clone L ⟨s.toArray⟩ w (by simpa [ByteArray.size] using hlen)).mono ?_)
      rintro e w' ⟨rfl, hb⟩
      exact ⟨_, rfl, .str s, hb⟩
    · cases h
  · cases h
end
end Go.Ev
/- Functions of the library: a byte's place, how often it stands, copies of a text. -/
namespace Go.Ev
open Go Go.Proofs Go.RowKit Go.Shelf
/-- Where a byte stands first, or -1. -/
def idxB (c : UInt8) : List UInt8 → Nat → Int
  | [], _ => -1
  | b :: l, n => if b = c then n else idxB c l (n + 1)
theorem idxB_lib (c : UInt8) : ∀ (l : List UInt8) (n : Nat), idxB c l n = if Lib.indexByte l c = -1 then -1 else Lib.indexByte l c + n
  | [], n => by simp [idxB, Lib.indexByte]
  | b :: l, n => by
    have hg := Lib.indexByte_ge l c
    simp only [idxB, Lib.indexByte, idxB_lib c l (n + 1)]
    by_cases hp : b = c
    · simp [hp]
    · by_cases h : Lib.indexByte l c = -1
      · simp [h, hp]
      · have h2 : ¬ Lib.indexByte l c + 1 = -1 := by omega
        simp only [beq_iff_eq, h, h2, hp, if_false]
        omega
theorem idxB_lib0 (c : UInt8) (l : List UInt8) : Lib.indexByte l c = idxB c l 0 := by
  rw [idxB_lib]
  split
  · assumption
  · simp
def idxBExt : List D → Option D
  | [.str s, .int .u8 c] => some (.int .i64 (idxB (UInt8.ofNat c.toNat) s 0))
  | _ => none
def cntExt : List D → Option D
  | [.str s, .int .u8 c] => some (.int .i64 (s.count (UInt8.ofNat c.toNat) : Nat))
  | _ => none
def conRepeat : List D → Heap → Option (D × Heap)
  | [.str s, .int .i64 c], H => if 0 ≤ c ∧ c ≤ 100000 ∧ s.length * c.toNat ≤ 140737488355328 then some (.str (Lib.repeatL s c.toNat), H) else none
  | _, _ => none
section
variable {X : Cx} {ρ : Ren} {ok : Nat → Prop} {w : World} {ι : Iota} {H H' : Heap} {r : D} {args : List D} {vs : List Value}
theorem repL_strInt {s : List UInt8} {k : IntKind} {c : Int} (hv : RepL ok w ι H [.str s, .int k c] vs) : vs = [.string ⟨s.toArray⟩, .int k c] := by
  obtain ⟨v, us, rfl, h1, h2⟩ := repL_cons hv
  obtain ⟨v2, us2, rfl, h3, h4⟩ := repL_cons h2
  cases repL_nil h4
  cases h1
  cases h3
  rfl
theorem idxBExt_run {P : Program} {f : Nat} {fn : Func} (hf : P.funcs[f]? = some fn) (hn : fn.body = none) (hng : (fn.name == "runtime.NumGoroutine") = false)
    (h1 : Extern.findNext fn = none) (h2 : Extern.find fn = some Extern.BytealgIndexByte.indexByte) {d : D}
    (h : idxBExt args = some d) (hv : RepL ok w ι H args vs) : ∃ v, (callFunc f vs.toArray).run P w = .ok (.value v) w ∧ Rep ok w ι H d v ∧ idFree d = true := by
  unfold idxBExt at h
  split at h
  · rename_i s c
    injection h with h
    subst h
    cases repL_strInt hv
    refine ⟨.int .i64 (idxB (UInt8.ofNat c.toNat) s 0), ?_, .int _ _, rfl⟩
    rw [run_callFunc_extern hf hng (by rw [hn]; rfl) h1 h2, Lib.run_indexByteString, idxB_lib0]
    rfl
  · cases h
theorem cntExt_run {P : Program} {f : Nat} {fn : Func} (hf : P.funcs[f]? = some fn) (hn : fn.body = none) (hng : (fn.name == "runtime.NumGoroutine") = false)
    (h1 : Extern.findNext fn = none) (h2 : Extern.find fn = some Extern.BytealgCount.count) {d : D}
    (h : cntExt args = some d) (hv : RepL ok w ι H args vs) : ∃ v, (callFunc f vs.toArray).run P w = .ok (.value v) w ∧ Rep ok w ι H d v ∧ idFree d = true := by
  unfold cntExt at h
  split at h
  · rename_i s c
    injection h with h
    subst h
    cases repL_strInt hv
    refine ⟨.int .i64 (s.count (UInt8.ofNat c.toNat) : Nat), ?_, .int _ _, rfl⟩
    rw [run_callFunc_extern hf hng (by rw [hn]; rfl) h1 h2, Lib.run_countString]
    rfl
  · cases h
theorem conRepeat_run (L : Lays.n105 X.P ρ) (E : Builder.Extra X.P ρ) (h : conRepeat args H = some (r, H')) (hs : Sim X ok w ι H) (hv : RepL ok w ι H args vs) :
    Goes X.P (callFunc (ρ.f 105) vs.toArray) w (CallPost X ok w ι H r H') := by
  have he : ∀ args w, (callFunc (ρ.f 105) args).run X.P w = .ok (.enter (ρ.f 105) args) w := Go.Proofs.enters_of L.f105 (by kernel_rfl) rfl
  unfold conRepeat at h
  split at h
  · rename_i s c
    split at h
    · rename_i hc
      injection h with h
      injection h with h1 h2
      subst h1; subst h2
      cases repL_strInt hv
      obtain ⟨n, rfl⟩ : ∃ n : Nat, c = (n : Int) := ⟨c.toNat, by omega⟩
      refine con_below hs (he _ _) ((Any.strings_Repeat L E ⟨s.toArray⟩ n w (by omega) (by simpa [ByteArray.size] using hc.2.2)).mono ?_)
      rintro e w' ⟨rfl, hb⟩
      exact ⟨_, rfl, .str _, hb⟩
    · cases h
  · cases h
end
end Go.Ev
