import Derived.Test.YtaponndjgdfkbaaEv11
import Derived.Scope
import Derived.LoopN
import Derived.Shelf.Abstract
/-
  Operations, regions, code, functions: what the evaluator says is what the program does.
-/
namespace Go.Ev

section
variable {X : Cx} {ok ok' : Nat → Prop} {w w' : World} {ι : Iota} {H H' : Heap}

/-- What a step of the run comes to. -/
def Goes (P : Program) (s : Sem Next) (w : World) (R : Value → World → Prop) : Prop :=
  match s.run P w with
  | .ok (.value v) w' => R v w'
  | .ok .skip w' => R undef w'
  | .ok (.enter f args) w' => Calls P f args w' fun e w'' => ∃ v, e = .returned v ∧ R v w''
  | _ => False

theorem Goes.value {P : Program} {s : Sem Next} {v : Value} {R : Value → World → Prop} (h : s.run P w = .ok (.value v) w') (hr : R v w') : Goes P s w R := by
  unfold Goes; rw [h]; exact hr
theorem Goes.skip {P : Program} {s : Sem Next} {R : Value → World → Prop} (h : s.run P w = .ok .skip w') (hr : R undef w') : Goes P s w R := by
  unfold Goes; rw [h]; exact hr
theorem Goes.mono {P : Program} {s : Sem Next} {R R' : Value → World → Prop} (h : Goes P s w R) (hr : ∀ v w', R v w' → R' v w') : Goes P s w R' := by
  unfold Goes at *
  split at h
  · exact hr _ _ h
  · exact hr _ _ h
  · exact h.mono fun e w'' ⟨v, h1, h2⟩ => ⟨v, h1, hr _ _ h2⟩
  · exact h.elim

theorem Goes.upon {P : Program} {o : Oper} {a : Act} {s : Sem Next} {next : Act → World → Prop} {Q : Exit → Act → World → Prop} (h : Goes P s w fun v w' => next (a.put o.dst v) w') : o.upon P a next Q (s.run P w) := by
  unfold Goes at h
  split at h
  · rename_i v w' hr; rw [hr]; exact h
  · rename_i w' hr; rw [hr]; exact h
  · rename_i f args w' hr
    rw [hr]
    simp only [Oper.upon]
    exact h.mono fun e w'' ⟨v, h1, h2⟩ => by subst h1; exact h2
  · exact h.elim

/-- What a call leaves. -/
def CallPost (X : Cx) (ok : Nat → Prop) (w : World) (ι : Iota) (H : Heap) (r : D) (H' : Heap) (v : Value) (w' : World) : Prop :=
  ∃ ι' ok', Sim X ok' w' ι' H' ∧ Rep ok' w' ι' H' r v ∧ Evol H.length ok w ι H ok' w' ι' H' ∧ ∀ i ds, H.length ≤ i → hget H' i = some ds → ds.all idFree = true

def SoundF (X : Cx) (F : CallF) : Prop :=
  ∀ (f : Nat) (args : List D) (H : Heap) (r : D) (H' : Heap) (ok : Nat → Prop) (w : World) (ι : Iota) (vs : List Value), F f args H = some (r, H') → Sim X ok w ι H → RepL ok w ι H args vs →
    Goes X.P (callFunc f vs.toArray) w (CallPost X ok w ι H r H')

structure Good (X : Cx) : Prop where
  mixed : X.P.follows .mixedOrders = true
  okc : ∀ (f : Nat) (fn : Func) (c : Code), X.P.funcs[f]? = some fn → fn.body = some c → X.bad f = false → okCode X c = true
  ng : ∀ (f : Nat) (fn : Func), X.P.funcs[f]? = some fn → (fn.name == "runtime.NumGoroutine") = false
  ext : ∀ (f : Nat) (fn : Func) (args : List D) (d : D), X.P.funcs[f]? = some fn → fn.body = none → X.ext f args = some d →
    ∀ (ok : Nat → Prop) (w : World) (ι : Iota) (H : Heap) (vs : List Value), Sim X ok w ι H → RepL ok w ι H args vs → ∃ v, (callFunc f vs.toArray).run X.P w = .ok (.value v) w ∧ Rep ok w ι H d v ∧ idFree d = true

theorem sim_alone (hs : Sim X ok w ι H) : Sim X ok w iota0 [] :=
  ⟨hs.okS, hs.glob, fun i j ds es b s s' hd => by simp [hget] at hd, fun i ds hd => by simp [hget] at hd⟩

theorem sim_all (hs : Sim X ok w ι H) : Sim X (okAll ok ι H) w iota0 [] :=
  ⟨fun b hb => by
      rcases hb with hb | ⟨i, ds, s, hd, hi⟩
      · exact hs.okS b hb
      · exact hs.lt hd hi, fun g cs hg => (hs.glob g cs hg).okMono fun b hb => .inl hb, fun i j ds es b s s' hd => by simp [hget] at hd, fun i ds hd => by simp [hget] at hd⟩

theorem callV_sound {F : CallF} (hF : SoundF X F) {f : Nat} {args : List D} {r : D} {vs : List Value} (h : callV X F f args H = some (r, H')) (hs : Sim X ok w ι H) (hv : RepL ok w ι H args vs) :
    Goes X.P (callFunc f vs.toArray) w (Post X H.length ok w ι H r H') := by
  unfold callV at h
  split at h
  · refine (hF f args H r H' ok w ι vs h hs hv).mono fun v w' hp => ?_
    obtain ⟨ι', ok', h1, h2, h3, _⟩ := hp
    exact ⟨ι', ok', h1, h2, h3⟩
  · split at h
    · rename_i hfree
      split at h
      · cases h
      · rename_i r0 L hc
        injection h with h
        injection h with h1 h2
        subst h1; subst h2
        refine (hF f args [] r0 L ok w iota0 vs hc (sim_alone hs) ⟨hv.1, fun j d hj => (hv.2 j d hj).free (allFree hfree d (mem_of_get? hj)) _ _⟩).mono fun v w' hp => ?_
        obtain ⟨ι1, ok1, k1, k2, k3, k4⟩ := hp
        have hfr : ∀ b, b < w.heap.size → w'.heap[b]? = w.heap[b]? := fun b hb => k3.frame b hb (fun i ds s hd => by simp [hget] at hd)
        obtain ⟨j1, j2⟩ := call_join (L := L) (ι1 := ι1) (ok2 := ok1) hs ⟨k3.os, k3.tape, k3.output⟩ k3.size hfr k3.okU k3.okN k1.okS k1.inj (fun i ds hd => by
          obtain ⟨b, arr, e, fr, q1, q2, q3, q4, q5, q6, q7, q8⟩ := k1.blk i ds hd
          refine ⟨b, arr, e, fr, q1, ?_, q2, q3, q4, q5, q6, q7, fun j d hj => (q8 j d hj).free (allFree (k4 i ds (Nat.zero_le _) hd) d (mem_of_get? hj)) _ _⟩
          rcases Nat.lt_or_ge b w.heap.size with hlt | hge
          · obtain ⟨j, es, s', hj, _⟩ := k3.own i ds b _ hd q1 hlt
            simp [hget] at hj
          · exact hge)
        exact ⟨_, ok1, j1, k2.shift ι H, j2⟩
    · split at h
      · cases h
      · rename_i args' hfz
        split at h
        · cases h
        · rename_i r0 L hc
          split at h
          · rename_i hvf
            rw [Bool.and_eq_true] at hvf
            injection h with h
            injection h with h1 h2
            subst h1; subst h2
            obtain ⟨l1, l2⟩ := freeze_rep.freezeL_rep hs args (vs := fun j => vs.getD j undef) hv.2 hfz
            refine (hF f args' [] r0 L (okAll ok ι H) w iota0 vs hc (sim_all hs) ⟨by rw [hv.1, l1], l2⟩).mono fun v w' hp => ?_
            obtain ⟨ι1, ok1, k1, k2, k3, k4⟩ := hp
            have hfr : ∀ b, b < w.heap.size → w'.heap[b]? = w.heap[b]? := fun b hb => k3.frame b hb (fun i ds s hd => by simp [hget] at hd)
            obtain ⟨j1, j2⟩ := call_join (L := L) (ι1 := ι1) (ok2 := ok) hs ⟨k3.os, k3.tape, k3.output⟩ k3.size hfr (fun _ h => h) (fun _ h _ => h) (fun b hb => Nat.lt_of_lt_of_le (hs.okS b hb) k3.size) k1.inj (fun i ds hd => by
              obtain ⟨b, arr, e, fr, q1, q2, q3, q4, q5, q6, q7, q8⟩ := k1.blk i ds hd
              have hge : w.heap.size ≤ b := by
                rcases Nat.lt_or_ge b w.heap.size with hlt | hge
                · obtain ⟨j, es, s', hj, _⟩ := k3.own i ds b _ hd q1 hlt
                  simp [hget] at hj
                · exact hge
              refine ⟨b, arr, e, fr, q1, hge, fun hb => by have := hs.okS b hb; omega, q3, q4, q5, q6, q7, fun j d hj => ?_⟩
              have hdv : vFree d = true := by
                have hl := hget_lt hd
                have hmem : some ds ∈ L := by
                  unfold hget at hd
                  rw [List.getElem?_eq_getElem hl] at hd
                  simp only [Option.getD_some] at hd
                  rw [← hd]
                  exact List.getElem_mem hl
                have := List.all_eq_true.1 hvf.2 _ hmem
                simp only [blkVFree] at this
                exact List.all_eq_true.1 this d (mem_of_get? hj)
              exact ((q8 j d hj).free (allFree (k4 i ds (Nat.zero_le _) hd) d (mem_of_get? hj)) _ _).vfree hdv ok)
            exact ⟨_, ok, j1, (k2.vfree hvf.1 ok).shift ι H, j2⟩
          · cases h

mutual
theorem shift_of_free (n : Nat) : ∀ (d : D), idFree d = true → shift n d = d
  | .agg cs, h => by simp only [idFree] at h; simp only [shift, shiftL_of_free n cs h]
  | .tup cs, h => by simp only [idFree] at h; simp only [shift, shiftL_of_free n cs h]
  | .fn f cs, h => by simp only [idFree] at h; simp only [shift, shiftL_of_free n cs h]
  | .iface t d, h => by simp only [idFree] at h; simp only [shift, shift_of_free n d h]
  | .optr .., h => by simp [idFree] at h
  | .osl .., h => by simp [idFree] at h
  | .bool _, _ => rfl
  | .int _ _, _ => rfl
  | .str _, _ => rfl
  | .nilp, _ => rfl
  | .nilf, _ => rfl
  | .nili, _ => rfl
  | .vptr _, _ => rfl
  | .vsl .., _ => rfl
theorem shiftL_of_free (n : Nat) : ∀ (cs : List D), idFree.idFreeL cs = true → shift.shiftL n cs = cs
  | [], _ => rfl
  | d :: l, h => by
    simp only [idFree.idFreeL, Bool.and_eq_true] at h
    simp only [shift.shiftL, shift_of_free n d h.1, shiftL_of_free n l h.2]
end
theorem callD_pure {F : CallF} {f : Nat} {args : List D} {r : D × Heap} (hp : (X.pureF f && !X.byRef f) = true) (h : callD X F f args H = some r) : args.all idFree = true ∧ F f args [] = some (r.1, []) ∧ idFree r.1 = true ∧ r.2 = H := by
  unfold callD at h
  rw [if_pos hp] at h
  split at h
  · rename_i ha
    split at h
    · rename_i r0 hc
      split at h
      · rename_i hi
        injection h with h
        subst h
        exact ⟨ha, hc, hi, rfl⟩
      · cases h
    · cases h
  · cases h
theorem callD_callV {F : CallF} {f : Nat} {args : List D} {r : D × Heap} (h : callD X F f args H = some r) : callV X F f args H = some r := by
  by_cases hp : (X.pureF f && !X.byRef f) = true
  · obtain ⟨h1, h2, h3, h4⟩ := callD_pure hp h
    have hb : ¬ X.byRef f = true := by
      rw [Bool.and_eq_true] at hp
      simpa using hp.2
    unfold callV
    rw [if_neg hb, if_pos h1, h2]
    obtain ⟨r, H'⟩ := r
    simp only at h3 h4
    subst h4
    simp only [shift_of_free _ _ h3, List.append_nil]
  · unfold callD at h
    rwa [if_neg hp] at h
theorem callD_sound {F : CallF} (hF : SoundF X F) {f : Nat} {args : List D} {r : D} {vs : List Value} (h : callD X F f args H = some (r, H')) (hs : Sim X ok w ι H) (hv : RepL ok w ι H args vs) :
    Goes X.P (callFunc f vs.toArray) w (Post X H.length ok w ι H r H') := callV_sound hF (callD_callV h) hs hv

theorem RepL.append {xs ys : List D} {vs us : List Value} (h1 : RepL ok w ι H xs vs) (h2 : RepL ok w ι H ys us) : RepL ok w ι H (xs ++ ys) (vs ++ us) := by
  refine ⟨by simp [h1.1, h2.1], fun j d hj => ?_⟩
  rw [List.getD_eq_getElem?_getD]
  by_cases hlt : j < xs.length
  · rw [List.getElem?_append_left hlt] at hj
    rw [List.getElem?_append_left (by rw [h1.1]; exact hlt)]
    have := h1.2 j d hj
    rwa [List.getD_eq_getElem?_getD] at this
  · rw [List.getElem?_append_right (by omega)] at hj
    rw [List.getElem?_append_right (by rw [h1.1]; omega), h1.1]
    have := h2.2 _ d hj
    rwa [List.getD_eq_getElem?_getD] at this

theorem repL_fn {ds : List D} {vs : Array Value} (hl : vs.size = ds.length) (h : ∀ (j : Nat) d, ds[j]? = some d → Rep ok w ι H d (vs.getD j undef)) : RepL ok w ι H ds vs.toList :=
  ⟨by simpa using hl, fun j d hj => by
    have := h j d hj
    simpa [Array.getD_eq_getD_getElem?, List.getD_eq_getElem?_getD] using this⟩

theorem repL_cons {d : D} {ds : List D} {vs : List Value} (h : RepL ok w ι H (d :: ds) vs) : ∃ v us, vs = v :: us ∧ Rep ok w ι H d v ∧ RepL ok w ι H ds us := by
  cases vs with
  | nil => have := h.1; simp at this
  | cons v us => exact ⟨v, us, rfl, h.2 0 d rfl, by have := h.1; simpa using this, fun j x hj => h.2 (j + 1) x (by simpa using hj)⟩

theorem repL_nil {vs : List Value} (h : RepL ok w ι H [] vs) : vs = [] := List.eq_nil_of_length_eq_zero (by simpa using h.1)

theorem map_some_pair {α : Type} {x : Option α} {H H' : Heap} {d : α} (h : x.map (·, H) = some (d, H')) : x = some d ∧ H = H' := by
  cases x with
  | none => simp at h
  | some y => simp only [Option.map_some, Option.some.injEq, Prod.mk.injEq] at h; exact ⟨by rw [h.1], h.2⟩

theorem minmax_run {mx : Bool} {args : List D} {d : D} {vs : List Value} (hv : RepL ok w ι H args vs) (h : minmaxD mx args = some d) {P : Program} {ts : Array TypeId} {t : TypeId} :
    ∃ v, ((if mx then Builtin.max_ else Builtin.min_) ts t vs.toArray).run P w = .ok v w ∧ Rep ok w ι H d v := by
  unfold minmaxD at h
  split at h
  · split at h
    · rename_i k a k' b hk
      subst hk
      injection h with h
      subst h
      obtain ⟨v1, us, rfl, r1, h2⟩ := repL_cons hv
      obtain ⟨v2, us, rfl, r2, h3⟩ := repL_cons h2
      obtain rfl := repL_nil h3
      cases r1; cases r2
      cases mx
      · exact ⟨_, by simp [Builtin.min_, Builtin.min2], .int _ _⟩
      · exact ⟨_, by simp [Builtin.max_, Builtin.max2], .int _ _⟩
    · cases h
  · cases h

theorem builtin_sound {b : Builtin} {ts : Array TypeId} {t : TypeId} {cst : Array Bool} {args : List D} {d : D} {vs : List Value} (hs : Sim X ok w ι H) (hv : RepL ok w ι H args vs) (h : builtinD X b ts.toList args H = some (d, H')) :
    Goes X.P (builtin b ts t cst vs.toArray) w (Post X H.length ok w ι H d H') := by
  unfold builtinD at h
  split at h
  · rename_i t0 tr x xr hts
    cases hl : lenD X.P t0 x with
    | none => simp [hl] at h
    | some r =>
      simp only [hl, Option.map_some, Option.some.injEq, Prod.mk.injEq] at h
      obtain ⟨rfl, rfl⟩ := h
      obtain ⟨v, us, rfl, r1, _⟩ := repL_cons hv
      obtain ⟨rv, q1, q2⟩ := len_run (P := X.P) (ty := t) (ts := ts) (vs := (v :: us).toArray) (by rw [← Array.getElem?_toList, hts]; rfl) (by simp) r1 hl
      exact Goes.value (by simp [builtin, q1]) (Post.same hs q2)
  · rename_i t0 u tr s x xr hts
    obtain ⟨v1, us, rfl, r1, h2⟩ := repL_cons hv
    obtain ⟨v2, us, rfl, r2, h3⟩ := repL_cons h2
    obtain ⟨rv, w1, q1, q2⟩ := append_run (P := X.P) (ty := t) hs r1 r2 h
    refine Goes.value (w' := w1) (v := rv) ?_ q2
    have e1 : ts[0]? = some t0 := by rw [← Array.getElem?_toList, hts]; rfl
    have e2 : ts[1]? = some u := by rw [← Array.getElem?_toList, hts]; rfl
    have e3 : Builtin.append_ ts t (v1 :: v2 :: us).toArray = Builtin.append_ #[t0, u] t #[v1, v2] := by
      simp only [Builtin.append_, e1, e2]
      rfl
    simp [builtin, e3, q1]
  · rename_i t0 u tr s x xr hts
    obtain ⟨v1, us, rfl, r1, h2⟩ := repL_cons hv
    obtain ⟨v2, us, rfl, r2, h3⟩ := repL_cons h2
    obtain ⟨rv, w1, q1, q2⟩ := copy_run (P := X.P) (ty := t) hs r1 r2 h
    refine Goes.value (w' := w1) (v := rv) ?_ q2
    have e1 : ts[0]? = some t0 := by rw [← Array.getElem?_toList, hts]; rfl
    have e3 : Builtin.copy_ ts t (v1 :: v2 :: us).toArray = Builtin.copy_ #[t0, u] t #[v1, v2] := by
      simp only [Builtin.copy_, e1]
      rfl
    simp [builtin, e3, q1]
  · obtain ⟨hm, rfl⟩ := map_some_pair h
    obtain ⟨v, q1, q2⟩ := minmax_run (P := X.P) (ts := ts) (t := t) hv hm
    simp only [Bool.false_eq_true, if_false] at q1
    exact Goes.value (by simp [builtin, q1]) (Post.same hs q2)
  · obtain ⟨hm, rfl⟩ := map_some_pair h
    obtain ⟨v, q1, q2⟩ := minmax_run (P := X.P) (ts := ts) (t := t) hv hm
    simp only [if_true] at q1
    exact Goes.value (by simp [builtin, q1]) (Post.same hs q2)
  · cases h

theorem zeroCell_run {t : TypeId} {cs : List D} (hs : Sim X ok w ι H) (h : (zeroOf X.P t).bind cellsOf = some cs) : ∃ v w', (Instr.alloc t true (.tuple #[])).run X.P w = .ok v w' ∧ Post X H.length ok w ι H (.optr H.length cs.length 0) (newBlk H cs) v w' := by
  cases hz : zeroOf X.P t with
  | none => simp [hz] at h
  | some z =>
    simp only [hz, Option.bind_some] at h
    obtain ⟨zv, z1, z2⟩ := zeroOf_run hz
    obtain ⟨c1, c2, c3⟩ := cellsOf_rep (z2 ok w ι H) h
    obtain ⟨ι', n1, n2, n3⟩ := new_run (e := t) (arr := zv.cells) (ds := cs) hs w ⟨rfl, rfl, rfl⟩ rfl (by omega)
      (fun j hj => by
        have hj' : cs[j]? = some (cs[j]'(by omega)) := List.getElem?_eq_getElem (by omega)
        exact (c3 j _ hj').oneCell (c2 _ (mem_of_get? hj')))
      c2 c3
    refine ⟨.pointer (some ⟨w.heap.size, 0, none⟩), w.alloc (.cells zv.cells t), by simp [Instr.alloc, z1, newVar, newRow], ι', ok, n1, ?_, n2⟩
    refine .optr _ (by rw [length_newBlk]; omega) fun ds hd => ?_
    rw [hget_newBlk_same] at hd
    injection hd with hd
    subst hd
    exact ⟨Nat.le_refl _, fun _ => ⟨_, _, n3, rfl⟩⟩

theorem box_run {t : TypeId} {d : D} {v : Value} {cs : List D} (hs : Sim X ok w ι H) (hd : Rep ok w ι H d v) (h : cellsOf d = some cs) : ∃ v' w', (Instr.box t v).run X.P w = .ok v' w' ∧ Post X H.length ok w ι H (.optr H.length cs.length 0) (newBlk H cs) v' w' := by
  obtain ⟨c1, c2, c3⟩ := cellsOf_rep hd h
  obtain ⟨ι', n1, n2, n3⟩ := new_run (e := t) (arr := v.cells) (ds := cs) hs w ⟨rfl, rfl, rfl⟩ rfl (by omega)
    (fun j hj => by
      have hj' : cs[j]? = some (cs[j]'(by omega)) := List.getElem?_eq_getElem (by omega)
      exact (c3 j _ hj').oneCell (c2 _ (mem_of_get? hj')))
    c2 c3
  refine ⟨.pointer (some ⟨w.heap.size, 0, none⟩), w.alloc (.cells v.cells t), by simp [Instr.box, newVar, newRow], ι', ok, n1, ?_, n2⟩
  refine .optr _ (by rw [length_newBlk]; omega) fun ds hd => ?_
  rw [hget_newBlk_same] at hd
  injection hd with hd
  subst hd
  exact ⟨Nat.le_refl _, fun _ => ⟨_, _, n3, rfl⟩⟩

theorem opt_arg (hs : Sim X ok w ι H) {e : Env} {a : Act} (he : EnvRep ok w ι H e a.tmps) {x : Operand} {d : D} (h : opd X e x = some d) : ∀ y, some d = some y → ∃ v, (some x : Option Operand).map a.eval = some v ∧ Rep ok w ι H y v := by
  intro y hy
  injection hy with hy
  subst hy
  exact ⟨_, rfl, opd_rep hs he h⟩

theorem op_goes {F : CallF} (hF : SoundF X F) {o : Oper} {e : Env} {a : Act} {d : D} (hs : Sim X ok w ι H) (he : EnvRep ok w ι H e a.tmps) (h : evOp X F o.op e H = some (d, H')) :
    Goes X.P (execOp a.eval o) w (Post X H.length ok w ι H d H') := by
  have pure_ : ∀ {v : Value} {d : D}, Rep ok w ι H d v → ∀ {s : Sem Next}, s.run X.P w = .ok (.value v) w → Goes X.P s w (Post X H.length ok w ι H d H) := fun hr _ h => Goes.value h (Post.same hs hr)
  unfold evOp at h
  split at h
  · rename_i x ho
    obtain ⟨h1, rfl⟩ := map_some_pair h
    exact pure_ (opd_rep hs he h1) (by simp [execOp, ho])
  · rename_i x ho
    obtain ⟨h1, rfl⟩ := map_some_pair h
    exact pure_ (opd_rep hs he h1) (by simp [execOp, ho])
  · rename_i c x y ho
    split at h
    · rename_i t hc
      obtain ⟨h1, rfl⟩ := map_some_pair h
      have hb := opd_rep hs he hc
      generalize hcv : a.eval c = cv at hb
      cases hb
      refine pure_ (v := a.eval (if t then x else y)) (opd_rep hs he h1) ?_
      cases t <;> simp [execOp, ho, hcv, asBool]
    · cases h
  · rename_i t ho
    split at h
    · rename_i cs hz
      injection h with h
      injection h with h1 h2
      subst h1; subst h2
      obtain ⟨v, w1, q1, q2⟩ := zeroCell_run hs hz
      exact Goes.value (by simp [execOp, ho, q1]) q2
    · cases h
  · rename_i t x ho
    split at h
    · rename_i cs hz
      split at h
      · injection h with h
        injection h with h1 h2
        subst h1; subst h2
        cases hx : opd X e x with
        | none => simp [hx] at hz
        | some dx =>
          simp only [hx, Option.bind_some] at hz
          obtain ⟨v, w1, q1, q2⟩ := box_run (t := t) hs (opd_rep hs he hx) hz
          exact Goes.value (by simp [execOp, ho, q1]) q2
      · cases h
    · cases h
  · rename_i t parts ho
    split at h
    · rename_i ps hps
      obtain ⟨h1, rfl⟩ := map_some_pair h
      obtain ⟨v, q1, q2⟩ := build_run (P := X.P) (vps := parts.map fun (i, x) => (i, a.eval x)) (by simpa using partsD_rep hs he hps) h1
      exact pure_ q2 (by simp [execOp, ho, q1])
    · cases h
  · rename_i t len parts ho
    split at h
    · rename_i ps hps
      obtain ⟨v, w1, q1, q2⟩ := buildSlice_run (P := X.P) (vps := parts.map fun (i, x) => (i, a.eval x)) hs (by simpa using partsD_rep hs he hps) h
      exact Goes.value (by simp [execOp, ho, q1]) q2
    · cases h
  · rename_i t p ho
    split at h
    · rename_i pd hp
      obtain ⟨h1, rfl⟩ := map_some_pair h
      obtain ⟨v, q1, q2⟩ := load_run hs (opd_rep hs he hp) h1
      exact pure_ q2 (by simp [execOp, ho, q1])
    · cases h
  · rename_i t p x ho
    split at h
    · rename_i pd xd hp hx
      cases hst : stD X.P H t pd xd with
      | none => simp [hst] at h
      | some H1 =>
        simp only [hst, Option.map_some, Option.some.injEq, Prod.mk.injEq] at h
        obtain ⟨rfl, rfl⟩ := h
        obtain ⟨w1, ι', q1, q2, q3⟩ := store_run hs (opd_rep hs he hp) (opd_rep hs he hx) hst
        exact Goes.skip (by simp [execOp, ho, q1]) ⟨ι', ok, q2, .tup rfl (by simp), q3⟩
    · cases h
  · rename_i x ho
    split at h
    · rename_i cs hx
      injection h with h
      injection h with h1 h2
      subst h1; subst h2
      have hb := opd_rep hs he hx
      generalize hcv : a.eval x = cv at hb
      refine pure_ hb ?_
      cases hb
      simp [execOp, ho, hcv]
    · rename_i i st off hx
      injection h with h
      injection h with h1 h2
      subst h1; subst h2
      have hb := opd_rep hs he hx
      generalize hcv : a.eval x = cv at hb
      refine pure_ hb ?_
      cases hb
      simp [execOp, ho, hcv]
    · rename_i f caps hx
      injection h with h
      injection h with h1 h2
      subst h1; subst h2
      have hb := opd_rep hs he hx
      generalize hcv : a.eval x = cv at hb
      refine pure_ hb ?_
      cases hb
      simp [execOp, ho, hcv]
    · rename_i t d hx
      injection h with h
      injection h with h1 h2
      subst h1; subst h2
      have hb := opd_rep hs he hx
      generalize hcv : a.eval x = cv at hb
      refine pure_ hb ?_
      cases hb
      simp [execOp, ho, hcv]
    · cases h
  · rename_i op t x y yt ho
    split at h
    · rename_i p q hx hy
      obtain ⟨h1, rfl⟩ := map_some_pair h
      obtain ⟨v, q1, q2⟩ := binOp_run (P := X.P) (x := x) (y := y) (opd_rep hs he hx) (opd_rep hs he hy) h1
      have e : execOp a.eval o = (do let r ← (do eqGuard op t x y (a.eval x) (a.eval y); binOp op t (a.eval x) (a.eval y) : Sem Value); pure (.value r)) := by simp only [execOp, ho]
      exact pure_ q2 (by rw [e, Sem.run_bind, q1]; rfl)
    · cases h
  · rename_i op t x ho
    split at h
    · rename_i p hx
      obtain ⟨h1, rfl⟩ := map_some_pair h
      obtain ⟨v, q1, q2⟩ := unD_run (P := X.P) (opd_rep hs he hx) h1
      exact pure_ q2 (by simp [execOp, ho, q1])
    · cases h
  · rename_i s t x ho
    split at h
    · rename_i p hx
      obtain ⟨v, w1, q1, q2⟩ := convert_run (P := X.P) hs (opd_rep hs he hx) h
      exact Goes.value (by simp [execOp, ho, q1]) q2
    · cases h
  · rename_i t x ho
    split at h
    · cases h
    · rename_i p u hu hx hni
      injection h with h
      injection h with h1 h2
      subst h1; subst h2
      refine pure_ (.iface (opd_rep hs he hx)) ?_
      simp only [execOp, ho, Instr.makeInterface, Sem.run_bind, run_underlying hni, Result.andThen_ok]
      cases u <;> first | rfl | exact absurd rfl (hu _)
    · cases h
  · rename_i f first caps ho
    split at h
    · rename_i hfe
      cases hcs : opds X e caps.toList with
      | none => simp [hcs] at h
      | some cs =>
        simp only [hcs, Option.map_some, Option.some.injEq, Prod.mk.injEq] at h
        obtain ⟨rfl, rfl⟩ := h
        obtain ⟨l1, l2⟩ := opds_rep hs he hcs
        have hf0 : first = #[] := by simpa using hfe
        subst hf0
        refine pure_ (v := .func (.func f) #[] (caps.map a.eval)) (.fn (by simpa using l1) fun j d hj => ?_) (by simp [execOp, ho, Instr.makeFunc])
        have := l2 j d hj
        simpa [Array.getD_eq_getD_getElem?, List.getD_eq_getElem?_getD] using this
    · cases h
  · rename_i t l c ho
    split at h
    · rename_i ld cd hl hc
      obtain ⟨v, w1, q1, q2⟩ := makeSlice_run (P := X.P) hs (opd_rep hs he hl) (opd_rep hs he hc) h
      exact Goes.value (by simp [execOp, ho, q1]) q2
    · cases h
  · rename_i t x lo hi ho
    split at h
    · rename_i p hx hlo hhi
      obtain ⟨h1, rfl⟩ := map_some_pair h
      have e1 : lo = none := by cases lo <;> simp_all
      have e2 : hi = none := by cases hi <;> simp_all
      subst e1; subst e2
      obtain ⟨v, q1, q2⟩ := sliceAt_run (P := X.P) (lov := none) (hiv := none) hs (opd_rep hs he hx) (fun _ h => by cases h) (fun _ => rfl) (fun _ h => by cases h) (fun _ => rfl) h1
      exact pure_ q2 (by simp [execOp, ho, q1])
    · rename_i p l hx hlo hhi
      obtain ⟨h1, rfl⟩ := map_some_pair h
      have e2 : hi = none := by cases hi <;> simp_all
      subst e2
      cases lo with
      | none => simp at hlo
      | some lo =>
        simp only [Option.map_some, Option.some.injEq] at hlo
        obtain ⟨v, q1, q2⟩ := sliceAt_run (P := X.P) (lov := some (a.eval lo)) (hiv := none) hs (opd_rep hs he hx) (opt_arg hs he hlo) (fun h => by cases h) (fun _ h => by cases h) (fun _ => rfl) h1
        exact pure_ q2 (by simp [execOp, ho, q1])
    · rename_i p l hx hlo hhi
      obtain ⟨h1, rfl⟩ := map_some_pair h
      have e1 : lo = none := by cases lo <;> simp_all
      subst e1
      cases hi with
      | none => simp at hhi
      | some hi =>
        simp only [Option.map_some, Option.some.injEq] at hhi
        obtain ⟨v, q1, q2⟩ := sliceAt_run (P := X.P) (lov := none) (hiv := some (a.eval hi)) hs (opd_rep hs he hx) (fun _ h => by cases h) (fun _ => rfl) (opt_arg hs he hhi) (fun h => by cases h) h1
        exact pure_ q2 (by simp [execOp, ho, q1])
    · rename_i p l l' hx hlo hhi
      obtain ⟨h1, rfl⟩ := map_some_pair h
      cases lo with
      | none => simp at hlo
      | some lo =>
        cases hi with
        | none => simp at hhi
        | some hi =>
          simp only [Option.map_some, Option.some.injEq] at hlo hhi
          obtain ⟨v, q1, q2⟩ := sliceAt_run (P := X.P) (lov := some (a.eval lo)) (hiv := some (a.eval hi)) hs (opd_rep hs he hx) (opt_arg hs he hlo) (fun h => by cases h) (opt_arg hs he hhi) (fun h => by cases h) h1
          exact pure_ q2 (by simp [execOp, ho, q1])
    · cases h
  · rename_i s x f ho
    split at h
    · rename_i p hx
      obtain ⟨h1, rfl⟩ := map_some_pair h
      obtain ⟨v, q1, q2⟩ := fieldAt_run (P := X.P) (opd_rep hs he hx) h1
      exact pure_ q2 (by simp [execOp, ho, q1])
    · cases h
  · rename_i s x f ho
    split at h
    · rename_i p hx
      obtain ⟨h1, rfl⟩ := map_some_pair h
      obtain ⟨v, q1, q2⟩ := field_run (P := X.P) (opd_rep hs he hx) h1
      exact pure_ q2 (by simp [execOp, ho, q1])
    · cases h
  · rename_i t x i ho
    split at h
    · rename_i p q hx hy
      obtain ⟨h1, rfl⟩ := map_some_pair h
      obtain ⟨v, q1, q2⟩ := indexAt_run (P := X.P) (opd_rep hs he hx) (opd_rep hs he hy) h1
      exact pure_ q2 (by simp [execOp, ho, q1])
    · cases h
  · rename_i t x i ho
    split at h
    · rename_i p q hx hy
      obtain ⟨h1, rfl⟩ := map_some_pair h
      obtain ⟨v, q1, q2⟩ := index_run (P := X.P) (opd_rep hs he hx) (opd_rep hs he hy) h1
      exact pure_ q2 (by simp [execOp, ho, q1])
    · cases h
  · rename_i x i ho
    split at h
    · rename_i cs hx
      obtain ⟨h1, rfl⟩ := map_some_pair h
      have hb := opd_rep hs he hx
      generalize hcv : a.eval x = cv at hb
      cases hb with
      | @tup _ _ _ vs hl hh =>
        have hlt : i < vs.size := by rw [hl]; exact (List.getElem?_eq_some_iff.1 h1).1
        have hr := hh i d h1
        rw [Array.getD_eq_getD_getElem?, Array.getElem?_eq_getElem hlt] at hr
        exact pure_ (v := vs[i]) hr (by simp [execOp, ho, hcv, Instr.extract, hlt])
    · cases h
  · rename_i c ho
    split at h
    · rename_i b args hcal hargs
      have hv := opds_rep hs he hargs
      have := builtin_sound (t := o.type) (cst := c.args.map fun | .const _ => true | _ => false) hs hv h
      have e : execOp a.eval o = builtin b c.argTypes o.type (c.args.map fun | .const _ => true | _ => false) (c.args.toList.map a.eval).toArray := by
        simp only [execOp, ho, resolve, hcal]
        simp only [pure_bind, invoke]
        congr 1
        apply Array.ext'
        simp
      rw [e]
      exact this
    · rename_i g args hcal hargs
      split at h
      · rename_i f caps hg
        have hv := opds_rep hs he hargs
        have hb := opd_rep hs he hg
        generalize hcv : a.eval g = cv at hb
        cases hb with
        | @fn _ _ _ _ vs hl hh =>
          have := callD_sound hF h hs (RepL.append hv (repL_fn hl hh))
          have e : execOp a.eval o = callFunc f ((c.args.toList.map a.eval) ++ vs.toList).toArray := by
            simp only [execOp, ho, resolve, hcal, hcv, Deferred.ofValue]
            simp only [pure_bind, invoke]
            congr 1
            apply Array.ext'
            simp
          rw [e]
          exact this
      · cases h
    · cases h
  · cases h

end
end Go.Ev
