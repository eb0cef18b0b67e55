import Derived.Test.YtaponndjgdfkbaaEv15
/-
  Regions that draw their order: in whatever order, what the text's order gives.
-/
namespace Go.Ev

section
variable {X : Cx} {ok ok' : Nat → Prop} {w w' : World} {ι : Iota} {H H' : Heap}

theorem wanted_of_guard' {ops : Array Oper} {e : Env} {a : Act} {o : Oper} {b : Bool} (he : ∀ k want t, o.guard = some (k, want) → (ops[k]?).bind (·.dst) = some t → ∀ d, look e t = some d → t < a.tmps.size ∧ Rep ok w ι H d (a.tmps.getD t undef))
    (h : guardQ ops e o.guard = some b) : Region.wanted o (yielded ops a.tmps) = b := by
  unfold guardQ at h
  unfold Region.wanted
  split at h
  · rename_i hg
    injection h with h
    rw [hg]
    exact h
  · rename_i j want hg
    rw [hg]
    simp only
    unfold yielded
    cases hd : (ops[j]?).bind (·.dst) with
    | none =>
      simp only [hd, Option.some.injEq] at h
      subst h
      simp
    | some t =>
      simp only [hd] at h
      simp only [Option.bind_some]
      split at h
      · rename_i v hl
        injection h with h
        obtain ⟨hlt, hr⟩ := he j want t hg hd _ hl
        rw [Array.getD_eq_getD_getElem?, Array.getElem?_eq_getElem hlt] at hr
        rw [Array.getElem?_eq_getElem hlt]
        generalize a.tmps[t] = x at hr
        cases hr
        simp only
        rw [← h]
        cases v <;> cases want <;> rfl
      · rename_i hl
        injection h with h
        subst h
        obtain ⟨hlt, hr⟩ := he j want t hg hd _ hl
        rw [Array.getD_eq_getD_getElem?, Array.getElem?_eq_getElem hlt] at hr
        rw [Array.getElem?_eq_getElem hlt]
        generalize a.tmps[t] = x at hr
        cases hr
        simp
      · cases h

theorem put_size (a : Act) (dst : Option Tmp) (v : Value) : (a.put dst v).tmps.size = a.tmps.size ∧ (a.put dst v).defers = a.defers := by
  cases dst <;> simp [Act.put]

/-- What code leaves. -/
def Out (X : Cx) (n : Nat) (ok : Nat → Prop) (w : World) (ι : Iota) (H : Heap) (a : Act) (e' : Env) (H' : Heap) (a' : Act) (w' : World) : Prop :=
  a'.tmps.size = a.tmps.size ∧ a'.defers = a.defers ∧ ∃ ι' ok', Sim X ok' w' ι' H' ∧ EnvRep ok' w' ι' H' e' a'.tmps ∧ Evol n ok w ι H ok' w' ι' H'

theorem undef_rep : Rep ok w ι H (.tup []) undef := .tup rfl (by simp)

theorem look_putE {e : Env} {dst : Option Tmp} {d : D} {t : Nat} : look (putE e dst d) t = if dst = some t then some d else look e t := by
  cases dst with
  | none => simp [putE]
  | some s =>
    simp only [putE, look, Option.some.injEq]

/-- The slots of one operation alone. -/
def restr (l : List Nat) (e : Env) : Env := keepE l e

theorem look_restr_in : ∀ {l : List Nat} {e : Env} {t : Nat}, t ∈ l → look (restr l e) t = look e t
  | k :: l, e, t, h => by
    simp only [restr, keepE]
    by_cases hkt : k = t
    · subst hkt
      cases hk : look e k with
      | some d => simp [look]
      | none =>
        simp only
        by_cases hm : k ∈ l
        · exact (look_restr_in hm).trans hk
        · have : ∀ {l : List Nat} {t : Nat}, t ∉ l → look (keepE l e) t = none := by
            intro l
            induction l with
            | nil => intro t _; rfl
            | cons x l ih =>
              intro t ht
              simp only [List.mem_cons, not_or] at ht
              simp only [keepE]
              split
              · simp only [look, Ne.symm ht.1, if_false]
                exact ih ht.2
              · exact ih ht.2
          exact this hm
    · have hm : t ∈ l := by
        rcases List.mem_cons.1 h with h | h
        · exact absurd h.symm hkt
        · exact h
      split
      · simp only [look, hkt, if_false]
        exact look_restr_in hm
      · exact look_restr_in hm

theorem look_restr_some : ∀ {l : List Nat} {e : Env} {t : Nat} {d : D}, look (restr l e) t = some d → t ∈ l ∧ look e t = some d
  | [], e, t, d, h => by simp [restr, keepE, look] at h
  | k :: l, e, t, d, h => by
    simp only [restr, keepE] at h
    split at h
    · rename_i x hk
      simp only [look] at h
      split at h
      · rename_i hkt
        subst hkt
        exact ⟨List.mem_cons_self .., by rw [hk]; exact h⟩
      · obtain ⟨h1, h2⟩ := look_restr_some h
        exact ⟨List.mem_cons_of_mem _ h1, h2⟩
    · obtain ⟨h1, h2⟩ := look_restr_some h
      exact ⟨List.mem_cons_of_mem _ h1, h2⟩

structure DrawFacts (X : Cx) (ops : Array Oper) : Prop where
  edge : ∀ (j : Nat) (o : Oper), ops[j]? = some o → ∀ e, e ∈ o.after.toList → Region.binds .any e = true → e.on < j
  ord : ∀ (i j : Nat) (x y : Oper), ops[i]? = some x → ops[j]? = some y → i < j → clash X ops x y = true → ((Region.before ops).getD j 0).testBit i = true

theorem drawFacts {ops : Array Oper} (h : drawOk X ops = true) : DrawFacts X ops := by
  unfold drawOk at h
  have hall := List.all_eq_true.1 h
  have hmem : ∀ (j : Nat) (o : Oper), ops[j]? = some o → (o, j) ∈ ops.toList.zipIdx := by
    intro j o hj
    rw [List.mem_zipIdx_iff_getElem?]
    simpa using hj
  constructor
  · intro j o hj e he hb
    have := hall _ (hmem j o hj)
    simp only [Bool.and_eq_true] at this
    have h1 := Array.all_eq_true'.1 this.1 e (by simpa using he)
    simpa [hb] using h1
  · intro i j x y hi hj hij hc
    have := hall _ (hmem j y hj)
    simp only [Bool.and_eq_true] at this
    have h1 := List.all_eq_true.1 this.2 _ (hmem i x hi)
    simpa [hij, hc] using h1

theorem clash_symm {ops : Array Oper} {x y : Oper} (h : clash X ops x y = true) : clash X ops y x = true := by
  unfold clash at *
  simp only [Bool.or_eq_true, Bool.and_eq_true] at *
  rcases h with (((h | h) | h) | h) | h
  · exact .inl (.inl (.inl (.inr h)))
  · exact .inl (.inl (.inl (.inl h)))
  · exact .inl (.inl (.inr ⟨h.2, h.1⟩))
  · exact .inr ⟨h.2, h.1⟩
  · exact .inl (.inr ⟨h.2, h.1⟩)

theorem draw_sound {F : CallF} (hF : SoundF X F) {nt : Nat} {ops : Array Oper} {Q : Exit → Act → World → Prop} (hD : DrawFacts X ops) {e e' : Env} {a : Act} (hev : evOps X F nt true ops ops.toList e H = some (e', H'))
    (hs : Sim X ok w ι H) (he : EnvRep ok w ι H e a.tmps) (hnt : nt ≤ a.tmps.size) (hQ : ∀ a' w', Out X H.length ok w ι H a e' H' a' w' → Q .normal a' w') :
    wpAny X.P .any ops Q ops.size (Array.replicate ops.size false) a w := by
  obtain ⟨E, T, hE0, hT0, hEn, hTn, hstep⟩ := trace_exists hev
  have hstep' : ∀ (k : Nat) (o : Oper), ops[k]? = some o → StepOf X F nt true ops o (E k) (T k) (E (k + 1)) (T (k + 1)) := fun k o hk => hstep k o (by simpa using hk)
  have hEn' : E ops.size = e' := by simpa using hEn
  have hTn' : T ops.size = H' := by simpa using hTn
  -- slots that nobody writes between two places
  have hslot : ∀ (t a b : Nat), a ≤ b → b ≤ ops.size → (∀ i o, ops[i]? = some o → o.dst = some t → ¬ (a ≤ i ∧ i < b)) → look (E b) t = look (E a) t := by
    intro t a b hab
    induction b with
    | zero => intro _ _; have : a = 0 := by omega
              subst this; rfl
    | succ b ih =>
      intro hb hno
      by_cases hab' : a = b + 1
      · rw [hab']
      · have hlt : b < ops.size := by omega
        have ho := Array.getElem?_eq_getElem hlt
        have hih := ih (by omega) (by omega) (fun i o hi hd h => hno i o hi hd ⟨h.1, by omega⟩)
        rw [← hih]
        obtain ⟨_, h | h⟩ := hstep' b _ ho
        · obtain ⟨_, d, _, h3⟩ := h
          rw [h3, look_putE, if_neg (fun hd => hno b _ ho hd ⟨by omega, by omega⟩)]
        · obtain ⟨_, _, h3⟩ := h
          rw [h3, look_putE, if_neg (fun hd => hno b _ ho hd ⟨by omega, by omega⟩)]
  -- memory that nobody turns between two places
  have hnoK : ∀ (k : Nat) (o : Oper), ops[k]? = some o → isK X o.op = false → T (k + 1) = T k := by
    intro k o ho hk
    obtain ⟨_, h | h⟩ := hstep' k o ho
    · obtain ⟨_, d, h2, _⟩ := h
      unfold isK at hk
      cases hkd : opKind X o.op with
      | v => exact (kind_v hkd h2).1
      | r => exact (kind_r (T2 := T k) hkd h2 (fun _ _ _ _ _ _ _ => rfl)).1
      | e => simp [hkd] at hk
      | m => simp [hkd] at hk
    · exact h.2.1
  have hmem : ∀ (a b : Nat), a ≤ b → b ≤ ops.size → (∀ i o, ops[i]? = some o → isK X o.op = true → ¬ (a ≤ i ∧ i < b)) → T b = T a := by
    intro a b hab
    induction b with
    | zero => intro _ _; have : a = 0 := by omega
              subst this; rfl
    | succ b ih =>
      intro hb hno
      by_cases hab' : a = b + 1
      · rw [hab']
      · have hlt : b < ops.size := by omega
        have ho := Array.getElem?_eq_getElem hlt
        rw [← ih (by omega) (by omega) (fun i o hi hd h => hno i o hi hd ⟨h.1, by omega⟩)]
        refine hnoK b _ ho ?_
        cases hk : isK X ops[b].op with
        | false => rfl
        | true => exact absurd ⟨by omega, by omega⟩ (hno b _ ho hk)
  -- memory that is only added to between two places
  have hadd : ∀ (a b : Nat), a ≤ b → b ≤ ops.size → (∀ i o, ops[i]? = some o → opKind X o.op = .m → ¬ (a ≤ i ∧ i < b)) → ∃ N, T b = T a ++ N := by
    intro a b hab
    induction b with
    | zero => intro _ _; have : a = 0 := by omega
              subst this; exact ⟨[], by simp⟩
    | succ b ih =>
      intro hb hno
      by_cases hab' : a = b + 1
      · exact ⟨[], by rw [hab']; simp⟩
      · have hlt : b < ops.size := by omega
        have ho := Array.getElem?_eq_getElem hlt
        obtain ⟨N, hN⟩ := ih (by omega) (by omega) (fun i o hi hd h => hno i o hi hd ⟨h.1, by omega⟩)
        cases hkd : opKind X ops[b].op with
        | v => exact ⟨N, by rw [hnoK b _ ho (by simp [isK, hkd]), hN]⟩
        | r => exact ⟨N, by rw [hnoK b _ ho (by simp [isK, hkd]), hN]⟩
        | m => exact absurd ⟨by omega, by omega⟩ (hno b _ ho hkd)
        | e =>
          obtain ⟨_, h | h⟩ := hstep' b _ ho
          · obtain ⟨_, d, h2, _⟩ := h
            obtain ⟨M, hM⟩ := kind_e hkd h2
            exact ⟨N ++ M, by rw [hM, hN, List.append_assoc]⟩
          · exact ⟨N, by rw [h.2.1, hN]⟩
  -- the invariant
  have main : ∀ (fuel : Nat) (listed : Array Bool) (a1 : Act) (w1 : World) (m : Nat) (ι1 : Iota) (ok1 : Nat → Prop), listed.size = ops.size →
      ((List.range ops.size).filter fun i => !listed.getD i false).length ≤ fuel →
      (∀ i o, ops[i]? = some o → listed.getD i false = true → edgesIn (fun k => listed.getD k false = true) o) →
      m ≤ ops.size → (∀ i o, ops[i]? = some o → isK X o.op = true → (listed.getD i false = true ↔ i < m)) →
      Sim X ok1 w1 ι1 (T m) → Evol H.length ok w ι H ok1 w1 ι1 (T m) → a1.tmps.size = a.tmps.size → a1.defers = a.defers →
      (∀ t k, k ≤ ops.size → (∀ i o, ops[i]? = some o → o.dst = some t → (listed.getD i false = true ↔ i < k)) → ∀ d, look (E k) t = some d → t < a1.tmps.size ∧ Rep ok1 w1 ι1 (T m) d (a1.tmps.getD t undef)) →
      wpAny X.P .any ops Q fuel listed a1 w1 := by
    -- when all are done
    have fin : ∀ (listed : Array Bool) (a1 : Act) (w1 : World) (m : Nat) (ι1 : Iota) (ok1 : Nat → Prop), (∀ i, i < ops.size → listed.getD i false = true) → m ≤ ops.size →
        (∀ i o, ops[i]? = some o → isK X o.op = true → (listed.getD i false = true ↔ i < m)) →
        Sim X ok1 w1 ι1 (T m) → Evol H.length ok w ι H ok1 w1 ι1 (T m) → a1.tmps.size = a.tmps.size → a1.defers = a.defers →
        (∀ t k, k ≤ ops.size → (∀ i o, ops[i]? = some o → o.dst = some t → (listed.getD i false = true ↔ i < k)) → ∀ d, look (E k) t = some d → t < a1.tmps.size ∧ Rep ok1 w1 ι1 (T m) d (a1.tmps.getD t undef)) → Q .normal a1 w1 := by
      intro listed a1 w1 m ι1 ok1 hall hm hK hsim hevol h1 h2 hslots
      have hT : T ops.size = T m := hmem m ops.size hm (Nat.le_refl _) (fun i o ho hk h => by
        have := (hK i o ho hk).1 (hall i h.2)
        omega)
      rw [hTn'] at hT
      rw [← hT] at hsim hevol hslots
      refine hQ a1 w1 ⟨h1, h2, ι1, ok1, hsim, fun t d ht => ?_, hevol⟩
      rw [← hEn'] at ht
      exact hslots t ops.size (Nat.le_refl _) (fun i o ho _ => ⟨fun _ => (Array.getElem?_eq_some_iff.1 ho).1, fun h => hall i h⟩) d ht
    intro fuel
    induction fuel with
    | zero =>
      intro listed a1 w1 m ι1 ok1 hsz hcnt hcl hm hK hsim hevol h1 h2 hslots
      have hall : ∀ i, i < ops.size → listed.getD i false = true := by
        intro i hi
        cases hl : listed.getD i false with
        | true => rfl
        | false =>
          have : i ∈ (List.range ops.size).filter fun i => !listed.getD i false := by
            rw [List.mem_filter]
            exact ⟨List.mem_range.2 hi, by simp only [hl]; rfl⟩
          have hne := List.length_pos_of_mem this
          omega
      refine ⟨?_, fin listed a1 w1 m ι1 ok1 hall hm hK hsim hevol h1 h2 hslots⟩
      unfold Region.ready
      rw [List.filter_eq_nil_iff]
      intro i hi
      have hlt := List.mem_range.1 hi
      have := hall i hlt
      have h3 : listed.getD i true = true := by
        rw [Array.getD_eq_getD_getElem?, Array.getElem?_eq_getElem (by omega)] at this ⊢
        exact this
      simp [h3]
    | succ fuel ih =>
      intro listed a1 w1 m ι1 ok1 hsz hcnt hcl hm hK hsim hevol h1 h2 hslots
      have hready : ∀ j, j ∈ Region.ready .any ops listed ↔ ∃ o, ops[j]? = some o ∧ listed.getD j false = false ∧ edgesIn (fun k => listed.getD k false = true) o := by
        intro j
        unfold Region.ready
        rw [List.mem_filter]
        constructor
        · rintro ⟨hj, hc⟩
          have hlt := List.mem_range.1 hj
          simp only [Array.getElem?_eq_getElem hlt, Option.map_some, Option.getD_some, Bool.and_eq_true, Bool.not_eq_true'] at hc
          refine ⟨_, Array.getElem?_eq_getElem hlt, ?_, ?_⟩
          · rw [Array.getD_eq_getD_getElem?, Array.getElem?_eq_getElem (by omega)] at hc ⊢
            exact hc.1
          · intro e he hb
            have := Array.all_eq_true'.1 hc.2 e (by simpa using he)
            simpa [hb] using this
        · rintro ⟨o, ho, hl, hed⟩
          have hlt := (Array.getElem?_eq_some_iff.1 ho).1
          refine ⟨List.mem_range.2 hlt, ?_⟩
          simp only [ho, Option.map_some, Option.getD_some, Bool.and_eq_true, Bool.not_eq_true']
          refine ⟨?_, ?_⟩
          · rw [Array.getD_eq_getD_getElem?, Array.getElem?_eq_getElem (by omega)] at hl ⊢
            exact hl
          · rw [Array.all_eq_true']
            intro e he
            cases hb : Region.binds .any e with
            | false => simp
            | true => simpa [hb] using hed e (by simpa using he) hb
      refine ⟨fun hnil => ?_, fun j hj => ?_⟩
      · refine fin listed a1 w1 m ι1 ok1 ?_ hm hK hsim hevol h1 h2 hslots
        intro i
        induction i using Nat.strongRecOn with
        | _ i ihi =>
          intro hi
          cases hl : listed.getD i false with
          | true => rfl
          | false =>
            have ho := Array.getElem?_eq_getElem hi
            have : i ∈ Region.ready .any ops listed := (hready i).2 ⟨_, ho, hl, fun e he hb => by
              have hlt := hD.edge i _ ho e he hb
              exact ihi e.on hlt (by omega)⟩
            rw [hnil] at this
            simp at this
      · obtain ⟨o, ho, hunl, hed⟩ := (hready j).1 hj
        have hjn := (Array.getElem?_eq_some_iff.1 ho).1
        have hbef : ∀ i x, ops[i]? = some x → i < j → clash X ops x o = true → listed.getD i false = true := fun i x hx hij hc =>
          before_mem (S := fun k => listed.getD k false = true) hcl ho hed (hD.ord i j x o hx ho hij hc)
        have haft : ∀ i x, ops[i]? = some x → j < i → clash X ops o x = true → listed.getD i false = false := by
          intro i x hx hij hc
          cases hl : listed.getD i false with
          | false => rfl
          | true =>
            have := before_mem (S := fun k => listed.getD k false = true) hcl hx (hcl i x hx hl) (hD.ord j i o x ho hx hij hc)
            rw [hunl] at this
            cases this
        have hagree : ∀ i x, ops[i]? = some x → (i ≠ j → clash X ops x o = true) → (listed.getD i false = true ↔ i < j) := by
          intro i x hx hc
          rcases Nat.lt_trichotomy i j with h | h | h
          · exact ⟨fun _ => h, fun _ => hbef i x hx h (hc (by omega))⟩
          · subst h
            exact ⟨fun h => (by rw [hunl] at h; cases h), fun h => (by omega)⟩
          · exact ⟨fun hl => (by rw [haft i x hx h (clash_symm (hc (by omega)))] at hl; cases hl), fun h => (by omega)⟩
        have hnames : ∀ t, t ∈ namesOf ops o → ∀ d, look (E j) t = some d → t < a1.tmps.size ∧ Rep ok1 w1 ι1 (T m) d (a1.tmps.getD t undef) := by
          intro t ht d hd
          refine hslots t j (by omega) (fun i x hx hdst => hagree i x hx (fun _ => ?_)) d hd
          unfold clash
          simp only [hdst, Option.any_some, Bool.or_eq_true]
          exact .inl (.inl (.inl (.inl (by simpa using ht))))
        -- the state behind this operation
        have finish : ∀ (d : D) (v : Value) (w2 : World) (ι2 : Iota) (ok2 : Nat → Prop) (m' : Nat), E (j + 1) = putE (E j) o.dst d → dstOk nt o.dst = true → Sim X ok2 w2 ι2 (T m') → Rep ok2 w2 ι2 (T m') d v →
            Evol (T m).length ok1 w1 ι1 (T m) ok2 w2 ι2 (T m') → m' ≤ ops.size → (∀ i x, ops[i]? = some x → isK X x.op = true → ((listed.setIfInBounds j true).getD i false = true ↔ i < m')) →
            wpAny X.P .any ops Q fuel (listed.setIfInBounds j true) (a1.put o.dst v) w2 := by
          intro d v w2 ι2 ok2 m' hE hdst hsim2 hrep hev2 hm' hK'
          have hset : ∀ i, (listed.setIfInBounds j true).getD i false = if i = j then true else listed.getD i false := by
            intro i
            rw [Array.getD_eq_getD_getElem?, Array.getD_eq_getD_getElem?]
            by_cases hij : i = j
            · subst hij
              simp [show i < listed.size by omega]
            · rw [Array.getElem?_setIfInBounds_ne (Ne.symm hij), if_neg hij]
          obtain ⟨p1, p2⟩ := put_size a1 o.dst v
          refine ih _ _ w2 m' ι2 ok2 (by simpa using hsz) ?_ ?_ hm' hK' hsim2 (hevol.trans (hev2.mono hevol.nle.2)) (by omega) (by rw [p2, h2]) ?_
          · have hlt : ((List.range ops.size).filter fun i => !(listed.setIfInBounds j true).getD i false).length < ((List.range ops.size).filter fun i => !listed.getD i false).length := by
              have hcong : ((List.range ops.size).filter fun i => !(listed.setIfInBounds j true).getD i false) = (((List.range ops.size).filter fun i => !listed.getD i false).filter fun i => decide (i ≠ j)) := by
                rw [List.filter_filter]
                apply List.filter_congr
                intro i _
                rw [hset i]
                by_cases hij : i = j <;> simp [hij]
              rw [hcong]
              refine List.length_filter_lt_length_iff_exists.2 ⟨j, ?_, by simp⟩
              rw [List.mem_filter]
              exact ⟨List.mem_range.2 hjn, by simp only [hunl]; rfl⟩
            omega
          · intro i x hx hl e he hb
            show (listed.setIfInBounds j true).getD e.on false = true
            rw [hset] at hl ⊢
            by_cases heo : e.on = j
            · rw [if_pos heo]
            · rw [if_neg heo]
              by_cases hij : i = j
              · subst hij
                rw [ho] at hx
                injection hx with hx
                subst hx
                exact hed e he hb
              · rw [if_neg hij] at hl
                exact hcl i x hx hl e he hb
          · intro t k hk hag d' hd'
            by_cases ht : o.dst = some t
            · have hjk : j < k := (hag j o ho ht).1 (by rw [hset, if_pos rfl])
              have hl := hslot t (j + 1) k (by omega) hk (fun i x hx hdst hik => by
                have h3 := (hag i x hx hdst).2 hik.2
                rw [hset, if_neg (by omega)] at h3
                have h4 := haft i x hx (by omega) (by
                  unfold clash
                  simp only [ht, Option.any_some, Bool.or_eq_true]
                  exact .inl (.inl (.inl (.inl (by simp [namesOf, hdst])))))
                rw [h4] at h3
                cases h3)
              rw [hl, hE, look_putE, if_pos ht] at hd'
              injection hd' with hd'
              subst hd'
              rw [ht] at hdst ⊢
              have hlt : t < nt := by simpa [dstOk] using hdst
              have hlt2 : t < a1.tmps.size := Nat.lt_of_lt_of_le hlt (by omega)
              refine ⟨by simpa [Act.put] using hlt2, ?_⟩
              simpa [Act.put, hlt2, Array.getD_eq_getD_getElem?] using hrep
            · have hold := hslots t k hk (fun i x hx hdst => by
                have h3 := hag i x hx hdst
                have hij : i ≠ j := by
                  rintro rfl
                  rw [ho] at hx
                  injection hx with hx
                  subst hx
                  exact ht hdst
                rwa [hset, if_neg hij] at h3) d' hd'
              refine ⟨by omega, ?_⟩
              have htm : (a1.put o.dst v).tmps.getD t undef = a1.tmps.getD t undef := by
                cases hod : o.dst with
                | none => rfl
                | some s =>
                  have : s ≠ t := fun e => ht (by rw [hod, e])
                  simp only [Act.put, Array.getD_eq_getD_getElem?]
                  rw [Array.getElem?_setIfInBounds_ne this]
              rw [htm]
              exact hold.2.evol hsim hev2 hold.2.closed
        have hK1 : isK X o.op = false → ∀ i x, ops[i]? = some x → isK X x.op = true → ((listed.setIfInBounds j true).getD i false = true ↔ i < m) := by
          intro hk i x hx hkx
          have hij : i ≠ j := by
            rintro rfl
            rw [ho] at hx
            injection hx with hx
            subst hx
            rw [hk] at hkx
            cases hkx
          have := hK i x hx hkx
          rw [Array.getD_eq_getD_getElem?] at this ⊢
          rwa [Array.getElem?_setIfInBounds_ne (Ne.symm hij)]
        have hKag : isK X o.op = true → ∀ i x, ops[i]? = some x → isK X x.op = true → (listed.getD i false = true ↔ i < j) := by
          intro hk i x hx hkx
          refine hagree i x hx fun _ => ?_
          unfold clash
          simp only [hk, hkx, Bool.and_true, Bool.or_true, Bool.true_or]
        have hK2 : isK X o.op = true → ∀ i x, ops[i]? = some x → isK X x.op = true → ((listed.setIfInBounds j true).getD i false = true ↔ i < j + 1) := by
          intro hk i x hx hkx
          by_cases hij : i = j
          · subst hij
            have : (listed.setIfInBounds i true).getD i false = true := by
              rw [Array.getD_eq_getD_getElem?]
              simp [show i < listed.size by omega]
            rw [this]
            simp
          · have := hKag hk i x hx hkx
            rw [Array.getD_eq_getD_getElem?] at this ⊢
            rw [Array.getElem?_setIfInBounds_ne (Ne.symm hij), this]
            omega
        have hTK : isK X o.op = true → T m = T j := by
          intro hk
          have hmj : ∀ i x, ops[i]? = some x → isK X x.op = true → (i < m ↔ i < j) := fun i x hx hkx => (hK i x hx hkx).symm.trans (hKag hk i x hx hkx)
          rcases Nat.le_total m j with h | h
          · exact (hmem m j h (by omega) (fun i x hx hkx hi => by have := (hmj i x hx hkx).2 hi.2; omega)).symm
          · exact hmem j m h hm (fun i x hx hkx hi => by have := (hmj i x hx hkx).1 hi.2; omega)
        unfold wpOp
        simp only [ho]
        obtain ⟨hdst, hcase⟩ := hstep' j o ho
        have hgn : ∀ k want t, ∀ o' : Oper, o'.guard = some (k, want) → o' = o → (ops[k]?).bind (·.dst) = some t → t ∈ namesOf ops o := by
          intro k want t o' hg he' hd
          subst he'
          simp [namesOf, hg, hd]
        have hw : ∀ b, guardQ ops (E j) o.guard = some b → Region.wanted o (yielded ops a1.tmps) = b := by
          intro b hb
          exact wanted_of_guard' (fun k want t hg hd d hl => hnames t (hgn k want t o hg rfl hd) d hl) hb
        rcases hcase with ⟨hg, d, hop, hE⟩ | ⟨hg, hTj, hE⟩
        · rw [if_pos (hw true hg)]
          refine .inl ?_
          unfold Oper.wp
          have hopn : ∀ x, x ∈ o.op.operands.toList → opd X (E j) x = opd X (restr (namesOf ops o) (E j)) x := fun x hx => opd_congr fun t ht => (look_restr_in (by
            simp only [namesOf, List.mem_append, List.mem_flatMap]
            exact .inl (.inr ⟨x, hx, ht⟩))).symm
          rw [evOpW_congr hopn] at hop
          have henv : EnvRep ok1 w1 ι1 (T m) (restr (namesOf ops o) (E j)) a1.tmps := fun t d ht => hnames t (look_restr_some ht).1 d (look_restr_some ht).2
          have go : ∀ m', evOpW X F true o.op (restr (namesOf ops o) (E j)) (T m) = some (d, T m') → m' ≤ ops.size → (∀ i x, ops[i]? = some x → isK X x.op = true → ((listed.setIfInBounds j true).getD i false = true ↔ i < m')) →
              o.upon X.P a1 (wpAny X.P .any ops Q fuel (listed.setIfInBounds j true)) Q ((execOp a1.eval o).run X.P w1) := by
            intro m' hop' hm' hK'
            refine Goes.upon ((opW_goes hF hsim henv hop').mono fun v w2 hp => ?_)
            obtain ⟨ι2, ok2, q1, q2, q3⟩ := hp
            exact finish d v w2 ι2 ok2 m' hE hdst q1 q2 q3 hm' hK'
          cases hkd : opKind X o.op with
          | v => exact go m ((kind_v hkd hop).2 (T m)) hm (hK1 (by simp [isK, hkd]))
          | r =>
            refine go m (kind_r hkd hop fun x hx p i hp hi hne => ?_).2 hm (hK1 (by simp [isK, hkd]))
            have hMag : ∀ i x, ops[i]? = some x → opKind X x.op = .m → (i < m ↔ i < j) := by
              intro i x hx hkx
              refine (hK i x hx (by simp [isK, hkx])).symm.trans (hagree i x hx fun _ => ?_)
              unfold clash
              simp [hkx, hkd]
            have hlt : i < (T m).length := by
              have := (opd_rep hsim henv hp).closed
              cases p <;> simp only [topId, reduceCtorEq, Option.some.injEq] at hi
              · subst hi; simpa [closed] using this
              · subst hi; simpa [closed] using this
            rcases Nat.le_total m j with h | h
            · obtain ⟨N, hN⟩ := hadd m j h (by omega) (fun i x hx hkx hi => by have := (hMag i x hx hkx).2 hi.2; omega)
              rw [hN, hget_join_lt hlt]
            · obtain ⟨N, hN⟩ := hadd j m h hm (fun i x hx hkx hi => by have := (hMag i x hx hkx).1 hi.2; omega)
              have hltj : i < (T j).length := by
                cases hgi : hget (T j) i with
                | none => exact absurd hgi hne
                | some ds => exact hget_lt hgi
              rw [hN, hget_join_lt hltj]
          | e =>
            have hk : isK X o.op = true := by simp [isK, hkd]
            rw [← hTK hk] at hop
            exact go (j + 1) hop (by omega) (hK2 hk)
          | m =>
            have hk : isK X o.op = true := by simp [isK, hkd]
            rw [← hTK hk] at hop
            exact go (j + 1) hop (by omega) (hK2 hk)
        · rw [if_neg (by rw [hw false hg]; simp)]
          cases hk : isK X o.op with
          | false => exact finish (.tup []) undef w1 ι1 ok1 m hE hdst hsim undef_rep (.refl _ (Nat.le_refl _)) hm (hK1 hk)
          | true =>
            have hT2 : T (j + 1) = T m := by rw [hTj, hTK hk]
            refine finish (.tup []) undef w1 ι1 ok1 (j + 1) hE hdst (by rw [hT2]; exact hsim) undef_rep (by rw [hT2]; exact .refl _ (Nat.le_refl _)) (by omega) (hK2 hk)
  refine main ops.size (Array.replicate ops.size false) a w 0 ι ok (by simp) ?_ ?_ (Nat.zero_le _) ?_ (by rw [hT0]; exact hs) (by rw [hT0]; exact .refl _ (Nat.le_refl _)) rfl rfl ?_
  · exact Nat.le_trans (List.length_filter_le _ _) (by simp)
  · intro i o hi hl
    have : (Array.replicate ops.size false).getD i false = false := by
      rw [Array.getD_eq_getD_getElem?, Array.getElem?_replicate]
      split <;> rfl
    rw [this] at hl
    cases hl
  · intro i o hi hk
    have : (Array.replicate ops.size false).getD i false = false := by
      rw [Array.getD_eq_getD_getElem?, Array.getElem?_replicate]
      split <;> rfl
    rw [this]
    simp
  · intro t k hk hag d hd
    rw [hT0]
    have hl := hslot t 0 k (Nat.zero_le _) hk (fun i o hi hdst hik => by
      have h3 := (hag i o hi hdst).2 hik.2
      have : (Array.replicate ops.size false).getD i false = false := by
        rw [Array.getD_eq_getD_getElem?, Array.getElem?_replicate]
        split <;> rfl
      rw [this] at h3
      cases h3)
    rw [hl, hE0] at hd
    exact he t d hd

end
end Go.Ev
