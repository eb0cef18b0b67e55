import Derived.Test.YtaponndjgdfkbaaEv1
/-
  What a value reads as, in a world; what a step leaves.
-/
namespace Go.Ev

abbrev Iota := Nat → Option (Nat × Nat)
def iota0 : Iota := fun _ => none

def isCell : D → Bool
  | .agg _ | .tup _ => false
  | _ => true

inductive Rep (ok : Nat → Prop) (w : World) : Iota → Heap → D → Value → Prop
  | bool {ι H} (b : Bool) : Rep ok w ι H (.bool b) (.bool b)
  | int {ι H} (k : IntKind) (n : Int) : Rep ok w ι H (.int k n) (.int k n)
  | str {ι H} (s : List UInt8) : Rep ok w ι H (.str s) (.string ⟨s.toArray⟩)
  | nilp {ι H} : Rep ok w ι H .nilp (.pointer none)
  | nilf {ι H} : Rep ok w ι H .nilf .nilFunc
  | nili {ι H} : Rep ok w ι H .nili .nilIface
  | agg {ι H} {ds : List D} {vs : Array Value} (hl : vs.size = ds.length) (hc : ∀ d, d ∈ ds → isCell d = true)
      (h : ∀ (j : Nat) d, ds[j]? = some d → Rep ok w ι H d (vs.getD j undef)) : Rep ok w ι H (.agg ds) (.agg vs)
  | tup {ι H} {ds : List D} {vs : Array Value} (hl : vs.size = ds.length)
      (h : ∀ (j : Nat) d, ds[j]? = some d → Rep ok w ι H d (vs.getD j undef)) : Rep ok w ι H (.tup ds) (.tuple vs)
  | vptr {ι H} {ds : List D} (a : Addr) (f : Nat → Value) (ha : ok a.block) (hc : ∀ d, d ∈ ds → isCell d = true)
      (hr : ∀ (j : Nat) d, ds[j]? = some d → w.cell? (a.add j) = some (f j))
      (h : ∀ (j : Nat) d, ds[j]? = some d → Rep ok w iota0 [] d (f j)) : Rep ok w ι H (.vptr ds) (.pointer (some a))
  | optr {ι H} {i st off : Nat} (a : Addr) (hi : i < H.length)
      (h : ∀ ds, hget H i = some ds → st ≤ ds.length ∧ (ds.length = st → ∃ b s, ι i = some (b, s) ∧ a = ⟨b, off, none⟩)) : Rep ok w ι H (.optr i st off) (.pointer (some a))
  | vnil {ι H} : Rep ok w ι H (.vsl true [] 0) (.slice none 0 0)
  | vsl {ι H} {ds : List D} {len c : Nat} (a : Addr) (f : Nat → Value) (ha : ok a.block) (hc : ∀ d, d ∈ ds → isCell d = true)
      (hr : ∀ (j : Nat) d, ds[j]? = some d → w.cell? (a.add j) = some (f j))
      (h : ∀ (j : Nat) d, ds[j]? = some d → Rep ok w iota0 [] d (f j)) (hlc : len ≤ c) : Rep ok w ι H (.vsl false ds len) (.slice (some a) len c)
  | osl {ι H} {i st off len k c : Nat} (a : Addr) (hi : i < H.length)
      (h : ∀ ds, hget H i = some ds → st ≤ ds.length ∧ (ds.length = st → ∃ b s, ι i = some (b, s) ∧ a = ⟨b, off, none⟩ ∧ off + c * k ≤ s)) (hlc : len ≤ c) :
      Rep ok w ι H (.osl i st off len k) (.slice (some a) len c)
  | fn {ι H} {f : Nat} {ds : List D} {vs : Array Value} (hl : vs.size = ds.length)
      (h : ∀ (j : Nat) d, ds[j]? = some d → Rep ok w ι H d (vs.getD j undef)) : Rep ok w ι H (.fn f ds) (.func (.func f) #[] vs)
  | iface {ι H} {t : Nat} {d : D} {v : Value} (h : Rep ok w ι H d v) : Rep ok w ι H (.iface t d) (.iface t v)

section
variable {ok ok' : Nat → Prop} {w w' : World} {ι ι' : Iota} {H H' : Heap}

theorem Rep.oneCell {d : D} {v : Value} (h : Rep ok w ι H d v) (hc : isCell d = true) : v.oneCell' = true := by
  cases h <;> first | rfl | simp [isCell] at hc

theorem idFreeL_iff (l : List D) : idFree.idFreeL l = true ↔ ∀ d, d ∈ l → idFree d = true := by
  induction l with
  | nil => simp [idFree.idFreeL]
  | cons d l ih => simp [idFree.idFreeL, ih]
theorem vFreeL_iff (l : List D) : vFree.vFreeL l = true ↔ ∀ d, d ∈ l → vFree d = true := by
  induction l with
  | nil => simp [vFree.vFreeL]
  | cons d l ih => simp [vFree.vFreeL, ih]
theorem closedL_iff (n : Nat) (l : List D) : closed.closedL n l = true ↔ ∀ d, d ∈ l → closed n d = true := by
  induction l with
  | nil => simp [closed.closedL]
  | cons d l ih => simp [closed.closedL, ih]

theorem mem_of_get? {ds : List D} {j : Nat} {d : D} (h : ds[j]? = some d) : d ∈ ds := List.mem_of_getElem? h

/-- A value's names are of blocks that there are. -/
theorem Rep.closed {d : D} {v : Value} (h : Rep ok w ι H d v) : Ev.closed H.length d = true := by
  induction h with
  | agg hl hc h ih | tup hl h ih | fn hl h ih =>
    simp only [Ev.closed, closedL_iff]
    intro d hd
    obtain ⟨j, hj⟩ := List.mem_iff_getElem?.1 hd
    exact ih j d hj
  | iface h ih => simpa [Ev.closed] using ih
  | optr a hi h => simpa [Ev.closed] using hi
  | osl a hi h => simpa [Ev.closed] using hi
  | _ => rfl

theorem closed_mono {n m : Nat} (hnm : n ≤ m) : ∀ d, closed n d = true → closed m d = true
  | .agg cs, h | .tup cs, h | .fn _ cs, h => by
    simp only [closed, closedL_iff] at h ⊢
    intro d hd
    exact closed_mono hnm d (h d hd)
  | .iface _ d, h => by simp only [closed] at h ⊢; exact closed_mono hnm d h
  | .optr i _ _, h | .osl i _ _ _ _, h => by simp only [closed, decide_eq_true_eq] at h ⊢; omega
  | .bool _, _ | .int _ _, _ | .str _, _ | .nilp, _ | .nilf, _ | .nili, _ | .vptr _, _ | .vsl _ _ _, _ => rfl

theorem idFree_closed {n : Nat} : ∀ d, idFree d = true → closed n d = true
  | .agg cs, h | .tup cs, h | .fn _ cs, h => by
    simp only [closed, closedL_iff, idFree, idFreeL_iff] at h ⊢
    intro d hd
    exact idFree_closed d (h d hd)
  | .iface _ d, h => by simp only [closed, idFree] at h ⊢; exact idFree_closed d h
  | .optr i _ _, h | .osl i _ _ _ _, h => by simp [idFree] at h
  | .bool _, _ | .int _ _, _ | .str _, _ | .nilp, _ | .nilf, _ | .nili, _ | .vptr _, _ | .vsl _ _ _, _ => rfl

/-- What has no names reads the same whatever the names are. -/
theorem Rep.free {d : D} {v : Value} (h : Rep ok w ι H d v) (hf : idFree d = true) (ι' : Iota) (H' : Heap) : Rep ok w ι' H' d v := by
  induction h with
  | bool b => exact .bool b
  | int k n => exact .int k n
  | str s => exact .str s
  | nilp => exact .nilp
  | nilf => exact .nilf
  | nili => exact .nili
  | agg hl hc h ih =>
    simp only [idFree, idFreeL_iff] at hf
    exact .agg hl hc fun j d hj => ih j d hj (hf d (mem_of_get? hj))
  | tup hl h ih =>
    simp only [idFree, idFreeL_iff] at hf
    exact .tup hl fun j d hj => ih j d hj (hf d (mem_of_get? hj))
  | fn hl h ih =>
    simp only [idFree, idFreeL_iff] at hf
    exact .fn hl fun j d hj => ih j d hj (hf d (mem_of_get? hj))
  | iface h ih => exact .iface (ih hf)
  | optr a hi h => simp [idFree] at hf
  | osl a hi h => simp [idFree] at hf
  | vptr a f ha hc hr h _ => exact .vptr a f ha hc hr h
  | vnil => exact .vnil
  | vsl a f ha hc hr h hlc _ => exact .vsl a f ha hc hr h hlc

/-- What a step from one state to another leaves; n: the names that go on. -/
structure Evol (n : Nat) (ok : Nat → Prop) (w : World) (ι : Iota) (H : Heap) (ok' : Nat → Prop) (w' : World) (ι' : Iota) (H' : Heap) : Prop where
  os : w'.os = w.os
  tape : w'.tape = w.tape
  output : w'.output = w.output
  size : w.heap.size ≤ w'.heap.size
  frame : ∀ b, b < w.heap.size → (∀ i ds s, hget H i = some ds → ι i ≠ some (b, s)) → w'.heap[b]? = w.heap[b]?
  okU : ∀ b, ok b → ok' b
  okN : ∀ b, ok' b → b < w.heap.size → ok b
  nle : n ≤ H.length ∧ n ≤ H'.length
  heap : ∀ i, i < n → ∀ ds', hget H' i = some ds' → ∃ ds, hget H i = some ds ∧ ds.length ≤ ds'.length ∧ (ds.length = ds'.length → ι' i = ι i)
  own : ∀ i ds' b s, hget H' i = some ds' → ι' i = some (b, s) → b < w.heap.size → ∃ j ds s', hget H j = some ds ∧ ι j = some (b, s')

structure Sim (X : Cx) (ok : Nat → Prop) (w : World) (ι : Iota) (H : Heap) : Prop where
  okS : ∀ b, ok b → b < w.heap.size
  glob : ∀ g cs, X.glob g = some cs → Rep ok w iota0 [] (.vptr cs) (.pointer (some ⟨g, 0, none⟩))
  inj : ∀ i j ds es b s s', hget H i = some ds → hget H j = some es → ι i = some (b, s) → ι j = some (b, s') → i = j
  blk : ∀ i ds, hget H i = some ds → ∃ b arr e fr, ι i = some (b, arr.size) ∧ ¬ ok b ∧ w.heap[b]? = some (.cells arr e fr) ∧ ds.length ≤ arr.size ∧
    (∀ j, j < arr.size → ¬ (fr.1 ≤ j ∧ j < fr.2)) ∧ (∀ j, j < arr.size → (arr.getD j undef).oneCell' = true) ∧ (∀ d, d ∈ ds → isCell d = true) ∧
    (∀ (j : Nat) d, ds[j]? = some d → Rep ok w ι H d (arr.getD j undef))

theorem Sim.notOwn {X : Cx} (hs : Sim X ok w ι H) {b : Nat} (hb : ok b) : ∀ i ds s, hget H i = some ds → ι i ≠ some (b, s) := by
  intro i ds s hi he
  obtain ⟨b', arr, e, fr, hb', hn, _⟩ := hs.blk i ds hi
  rw [he] at hb'
  injection hb' with hb'
  injection hb' with hb'
  subst hb'
  exact hn hb

theorem add_block (a : Addr) (j : Nat) : (a.add j).block = a.block := by unfold Addr.add; split <;> rfl

/-- A value still reads as it did. -/
theorem Rep.evol {X : Cx} {n : Nat} {d : D} {v : Value} (h : Rep ok w ι H d v) (hs : Sim X ok w ι H) (he : Evol n ok w ι H ok' w' ι' H') (hc : Ev.closed n d = true) : Rep ok' w' ι' H' d v := by
  have hcell : ∀ a : Addr, ∀ j v, ok a.block → w.cell? (a.add j) = some v → w'.cell? (a.add j) = some v := by
    intro a j v ha hv
    rw [World.cell?_of_block (w := w)]
    · exact hv
    · rw [add_block]
      exact he.frame _ (hs.okS _ ha) (hs.notOwn ha)
  have inner : ∀ {ι1 : Iota} {H1 : Heap} {d : D} {v : Value}, Rep ok w ι1 H1 d v → ι1 = iota0 → H1 = [] → Rep ok' w' iota0 [] d v := by
    intro ι1 H1 d v h
    induction h with
    | bool b => intros; exact .bool b
    | int k n => intros; exact .int k n
    | str s => intros; exact .str s
    | nilp => intros; exact .nilp
    | nilf => intros; exact .nilf
    | nili => intros; exact .nili
    | agg hl hc h ih => intro h1 h2; exact .agg hl hc fun j d hj => ih j d hj h1 h2
    | tup hl h ih => intro h1 h2; exact .tup hl fun j d hj => ih j d hj h1 h2
    | fn hl h ih => intro h1 h2; exact .fn hl fun j d hj => ih j d hj h1 h2
    | iface h ih => intro h1 h2; exact .iface (ih h1 h2)
    | optr a hi h => intro h1 h2; subst h2; simp at hi
    | osl a hi h => intro h1 h2; subst h2; simp at hi
    | vptr a f ha hc hr h ih => intros; exact .vptr a f (he.okU _ ha) hc (fun j d hj => hcell a j _ ha (hr j d hj)) fun j d hj => ih j d hj rfl rfl
    | vnil => intros; exact .vnil
    | vsl a f ha hc hr h hlc ih => intros; exact .vsl a f (he.okU _ ha) hc (fun j d hj => hcell a j _ ha (hr j d hj)) (fun j d hj => ih j d hj rfl rfl) hlc
  have main : ∀ {ι1 : Iota} {H1 : Heap} {d : D} {v : Value}, Rep ok w ι1 H1 d v → ι1 = ι → H1 = H → Ev.closed n d = true → Rep ok' w' ι' H' d v := by
    intro ι1 H1 d v h
    induction h with
    | bool b => intros; exact .bool b
    | int k n => intros; exact .int k n
    | str s => intros; exact .str s
    | nilp => intros; exact .nilp
    | nilf => intros; exact .nilf
    | nili => intros; exact .nili
    | agg hl hc h ih =>
      intro h1 h2 h3
      simp only [Ev.closed, closedL_iff] at h3
      exact .agg hl hc fun j d hj => ih j d hj h1 h2 (h3 d (mem_of_get? hj))
    | tup hl h ih =>
      intro h1 h2 h3
      simp only [Ev.closed, closedL_iff] at h3
      exact .tup hl fun j d hj => ih j d hj h1 h2 (h3 d (mem_of_get? hj))
    | fn hl h ih =>
      intro h1 h2 h3
      simp only [Ev.closed, closedL_iff] at h3
      exact .fn hl fun j d hj => ih j d hj h1 h2 (h3 d (mem_of_get? hj))
    | iface h ih => intro h1 h2 h3; exact .iface (ih h1 h2 h3)
    | optr a hi hk =>
      intro h1 h2 h3
      subst h1; subst h2
      simp only [Ev.closed, decide_eq_true_eq] at h3
      refine .optr a (Nat.lt_of_lt_of_le h3 he.nle.2) fun ds' hd' => ?_
      obtain ⟨ds, hd, hle, hi'⟩ := he.heap _ h3 ds' hd'
      obtain ⟨k1, k2⟩ := hk ds hd
      refine ⟨by omega, fun e => ?_⟩
      obtain ⟨b, s, q1, q2⟩ := k2 (by omega)
      exact ⟨b, s, by rw [hi' (by omega)]; exact q1, q2⟩
    | osl a hi hk hlc =>
      intro h1 h2 h3
      subst h1; subst h2
      simp only [Ev.closed, decide_eq_true_eq] at h3
      refine .osl a (Nat.lt_of_lt_of_le h3 he.nle.2) (fun ds' hd' => ?_) hlc
      obtain ⟨ds, hd, hle, hi'⟩ := he.heap _ h3 ds' hd'
      obtain ⟨k1, k2⟩ := hk ds hd
      refine ⟨by omega, fun e => ?_⟩
      obtain ⟨b, s, q1, q2⟩ := k2 (by omega)
      exact ⟨b, s, by rw [hi' (by omega)]; exact q1, q2⟩
    | vptr a f ha hc hr h ih => intros; exact .vptr a f (he.okU _ ha) hc (fun j d hj => hcell a j _ ha (hr j d hj)) fun j d hj => inner (h j d hj) rfl rfl
    | vnil => intros; exact .vnil
    | vsl a f ha hc hr h hlc ih => intros; exact .vsl a f (he.okU _ ha) hc (fun j d hj => hcell a j _ ha (hr j d hj)) (fun j d hj => inner (h j d hj) rfl rfl) hlc
  exact main h rfl rfl hc

theorem Evol.refl (n : Nat) (hn : n ≤ H.length) : Evol n ok w ι H ok w ι H :=
  ⟨rfl, rfl, rfl, Nat.le_refl _, fun _ _ _ => rfl, fun _ h => h, fun _ h _ => h, ⟨hn, hn⟩, fun _ _ ds hd => ⟨ds, hd, Nat.le_refl _, fun _ => rfl⟩, fun i ds _ s hd hi _ => ⟨i, ds, s, hd, hi⟩⟩

theorem Evol.mono {n m : Nat} (he : Evol n ok w ι H ok' w' ι' H') (hm : m ≤ n) : Evol m ok w ι H ok' w' ι' H' :=
  ⟨he.os, he.tape, he.output, he.size, he.frame, he.okU, he.okN, ⟨by have := he.nle; omega, by have := he.nle; omega⟩, fun i hi => he.heap i (by omega), he.own⟩

theorem Evol.trans {ok'' : Nat → Prop} {w'' : World} {ι'' : Iota} {H'' : Heap} {n : Nat} (h : Evol n ok w ι H ok' w' ι' H') (k : Evol n ok' w' ι' H' ok'' w'' ι'' H'') : Evol n ok w ι H ok'' w'' ι'' H'' where
  os := k.os.trans h.os
  tape := k.tape.trans h.tape
  output := k.output.trans h.output
  size := Nat.le_trans h.size k.size
  frame b hb hno := by
    rw [k.frame b (Nat.lt_of_lt_of_le hb h.size), h.frame b hb hno]
    intro i ds s hd hi
    obtain ⟨j, ds0, s', hj, hι⟩ := h.own i ds b s hd hi hb
    exact hno j ds0 s' hj hι
  okU b hb := k.okU b (h.okU b hb)
  okN b hb hlt := h.okN b (k.okN b hb (Nat.lt_of_lt_of_le hlt h.size)) hlt
  nle := ⟨h.nle.1, k.nle.2⟩
  heap i hi ds'' hd'' := by
    obtain ⟨ds', hd', hle', hi'⟩ := k.heap i hi ds'' hd''
    obtain ⟨ds, hd, hle, hi0⟩ := h.heap i hi ds' hd'
    exact ⟨ds, hd, by omega, fun e => by rw [hi' (by omega), hi0 (by omega)]⟩
  own i ds' b s hd hi hb := by
    obtain ⟨j, ds0, s', hj, hι⟩ := k.own i ds' b s hd hi (Nat.lt_of_lt_of_le hb h.size)
    exact h.own j ds0 b s' hj hι hb

def EnvRep (ok : Nat → Prop) (w : World) (ι : Iota) (H : Heap) (e : Env) (tmps : Array Value) : Prop :=
  ∀ t d, look e t = some d → t < tmps.size ∧ Rep ok w ι H d (tmps.getD t undef)

def RepL (ok : Nat → Prop) (w : World) (ι : Iota) (H : Heap) (ds : List D) (vs : List Value) : Prop :=
  vs.length = ds.length ∧ ∀ (j : Nat) d, ds[j]? = some d → Rep ok w ι H d (vs.getD j undef)

theorem EnvRep.put {e : Env} {tmps : Array Value} {t : Nat} {d : D} {v : Value} (he : EnvRep ok w ι H e tmps) (hd : Rep ok w ι H d v) (ht : t < tmps.size) :
    EnvRep ok w ι H ((t, d) :: e) (tmps.setIfInBounds t v) := by
  intro u d' hu
  simp only [look] at hu
  by_cases h : t = u
  · subst h
    simp only [if_true, Option.some.injEq] at hu
    subst hu
    simp [ht, hd, Array.getD]
  · simp only [h, if_false] at hu
    obtain ⟨h1, h2⟩ := he u d' hu
    refine ⟨by simpa using h1, ?_⟩
    have : (tmps.setIfInBounds t v).getD u undef = tmps.getD u undef := by
      simp only [Array.getD_eq_getD_getElem?, Array.getElem?_setIfInBounds_ne h]
    rw [this]
    exact h2

theorem EnvRep.evol {X : Cx} {n : Nat} {e : Env} {tmps : Array Value} (he : EnvRep ok w ι H e tmps) (hs : Sim X ok w ι H) (hv : Evol n ok w ι H ok' w' ι' H')
    (hc : ∀ t d, look e t = some d → Ev.closed n d = true) : EnvRep ok' w' ι' H' e tmps :=
  fun t d ht => ⟨(he t d ht).1, (he t d ht).2.evol hs hv (hc t d ht)⟩

theorem EnvRep.evol' {X : Cx} {e : Env} {tmps : Array Value} (he : EnvRep ok w ι H e tmps) (hs : Sim X ok w ι H) (hv : Evol H.length ok w ι H ok' w' ι' H') : EnvRep ok' w' ι' H' e tmps :=
  he.evol hs hv fun t d ht => (he t d ht).2.closed
end
end Go.Ev
