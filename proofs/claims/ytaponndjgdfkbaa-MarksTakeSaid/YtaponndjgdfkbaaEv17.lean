import Derived.Test.YtaponndjgdfkbaaEv16
/-
  Regions, code, functions: what the evaluator says is what the program does.
-/
namespace Go.Ev

section
variable {X : Cx} {ok ok' : Nat → Prop} {w w' : World} {ι : Iota} {H H' : Heap}

theorem wanted_of_guard {ops : Array Oper} {e : Env} {a : Act} (he : EnvRep ok w ι H e a.tmps) {o : Oper} {b : Bool} (h : guardQ ops e o.guard = some b) : Region.wanted o (yielded ops a.tmps) = b :=
  wanted_of_guard' (fun _ _ t _ _ d hd => he t d hd) h

theorem put_env {e : Env} {a : Act} {dst : Option Tmp} {d : D} {v : Value} {nt : Nat} (he : EnvRep ok w ι H e a.tmps) (hd : Rep ok w ι H d v) (hn : nt ≤ a.tmps.size) (ht : dstOk nt dst = true) : EnvRep ok w ι H (putE e dst d) (a.put dst v).tmps := by
  cases dst with
  | none => exact he
  | some t =>
    have ht' : t < nt := by simpa [dstOk] using ht
    exact he.put hd (Nat.lt_of_lt_of_le ht' hn)

theorem evOps_sound {F : CallF} (hF : SoundF X F) {nt : Nat} {drw : Bool} {ops : Array Oper} {Q : Exit → Act → World → Prop} : ∀ {l : List Oper} {e e' : Env} {H H' : Heap} {ok : Nat → Prop} {w : World} {ι : Iota} {a : Act}, evOps X F nt drw ops l e H = some (e', H') →
    Sim X ok w ι H → EnvRep ok w ι H e a.tmps → nt ≤ a.tmps.size → (∀ a' w', Out X H.length ok w ι H a e' H' a' w' → Q .normal a' w') → wpList X.P ops Q l a w
  | [], e, e', H, H', ok, w, ι, a, h, hs, he, hn, hQ => by
    simp only [evOps, Option.some.injEq, Prod.mk.injEq] at h
    obtain ⟨rfl, rfl⟩ := h
    exact hQ a w ⟨rfl, rfl, ι, ok, hs, he, .refl _ (Nat.le_refl _)⟩
  | o :: l, e, e', H, H', ok, w, ι, a, h, hs, he, hn, hQ => by
    simp only [evOps] at h
    split at h
    · rename_i hdst hg
      split at h
      · rename_i d H1 ho
        have hw := wanted_of_guard he hg
        simp only [wpList, hw, if_true]
        refine .inl ?_
        unfold Oper.wp
        refine Goes.upon ((opW_goes hF hs he ho).mono fun v w1 hp => ?_)
        obtain ⟨ι1, ok1, k1, k2, k3⟩ := hp
        obtain ⟨s1, s2⟩ := put_size a o.dst v
        refine evOps_sound hF h k1 (put_env (he.evol' hs k3) k2 hn hdst) (by omega) fun a2 w2 hout => hQ a2 w2 ?_
        obtain ⟨t1, t2, ι2, ok2, u1, u2, u3⟩ := hout
        exact ⟨by omega, by rw [t2, s2], ι2, ok2, u1, u2, k3.trans (u3.mono k3.nle.2)⟩
      · cases h
    · rename_i hdst hg
      have hw := wanted_of_guard he hg
      simp only [wpList, hw, Bool.false_eq_true, if_false]
      obtain ⟨s1, s2⟩ := put_size a o.dst undef
      refine evOps_sound hF h hs (put_env he undef_rep hn hdst) (by omega) fun a2 w2 hout => hQ a2 w2 ?_
      obtain ⟨t1, t2, rest⟩ := hout
      exact ⟨by omega, by rw [t2, s2], rest⟩
    · cases h

theorem look_keepE : ∀ {ks : List Nat} {e : Env} {t : Nat} {d : D}, look (keepE ks e) t = some d → look e t = some d
  | [], e, t, d, h => by simp [keepE, look] at h
  | k :: ks, e, t, d, h => by
    simp only [keepE] at h
    split at h
    · rename_i x hk
      simp only [look] at h
      split at h
      · rename_i hkt
        subst hkt
        rw [hk]
        exact h
      · exact look_keepE h
    · exact look_keepE h

theorem look_envClosed {n : Nat} : ∀ {e : Env} {t : Nat} {d : D}, envClosed n e = true → look e t = some d → closed n d = true
  | [], t, d, _, h => by simp [look] at h
  | (s, x) :: e, t, d, hc, h => by
    simp only [envClosed, Bool.and_eq_true] at hc
    simp only [look] at h
    split at h
    · injection h with h
      subst h
      exact hc.1
    · exact look_envClosed hc.2 h

theorem enter_sound {f n0 id : Nat} {e e' : Env} {tmps : Array Value} (h : enter X f n0 id e H = some (e', H')) (hn : n0 ≤ H.length) (hs : Sim X ok w ι H) (he : EnvRep ok w ι H e tmps) :
    Sim X ok w ι H' ∧ EnvRep ok w ι H' e' tmps ∧ Evol n0 ok w ι H ok w ι H' := by
  unfold enter at h
  split at h
  · simp only [Option.some.injEq, Prod.mk.injEq] at h
    obtain ⟨rfl, rfl⟩ := h
    exact ⟨hs, he, .refl _ hn⟩
  · simp only [Option.some.injEq, Prod.mk.injEq] at h
    obtain ⟨rfl, rfl⟩ := h
    exact ⟨hs, fun t d ht => he t d (look_keepE ht), .refl _ hn⟩
  · rename_i ks k hk
    have hkeep : EnvRep ok w ι H (keepE ks e) tmps := fun t d ht => he t d (look_keepE ht)
    split at h
    · simp only [Option.some.injEq, Prod.mk.injEq] at h
      obtain ⟨rfl, rfl⟩ := h
      exact ⟨hs, hkeep, .refl _ hn⟩
    · rename_i hlen
      split at h
      · rename_i hc
        rw [Bool.and_eq_true] at hc
        simp only [Option.some.injEq, Prod.mk.injEq] at h
        obtain ⟨rfl, rfl⟩ := h
        have hm : n0 + k ≤ H.length := by omega
        exact ⟨cut_sim hm hs hc.2, hkeep.evol hs (cut_evol hm) (fun t d ht => look_envClosed hc.1 ht), (cut_evol hm).mono (by omega)⟩
      · cases h

def exOf : Ex → Exit
  | .normal => .normal
  | .exit id => .exit id
  | .ret => .ret

def CQ (X : Cx) (n : Nat) (ok : Nat → Prop) (w : World) (ι : Iota) (H : Heap) (a : Act) (ex : Ex) (e' : Env) (H' : Heap) (x : Exit) (a' : Act) (w' : World) : Prop :=
  x = exOf ex ∧ Out X n ok w ι H a e' H' a' w'

def SoundC (X : Cx) (n : Nat) : Prop :=
  ∀ (f nt n0 : Nat) (c : Code) (e e' : Env) (H H' : Heap) (ex : Ex) (ok : Nat → Prop) (w : World) (ι : Iota) (a : Act), evC X n f nt n0 c e H = some (ex, e', H') → okCode X c = true → n0 ≤ H.length → Sim X ok w ι H → EnvRep ok w ι H e a.tmps → nt ≤ a.tmps.size →
    c.wp X.P (CQ X n0 ok w ι H a ex e' H') a w

theorem Out.trans {n : Nat} {a a1 a2 : Act} {w1 w2 : World} {H1 H2 : Heap} {ok1 : Nat → Prop} {ι1 : Iota} {e2 : Env} (h1 : a1.tmps.size = a.tmps.size) (h2 : a1.defers = a.defers) (h3 : Evol n ok w ι H ok1 w1 ι1 H1)
    (h : Out X n ok1 w1 ι1 H1 a1 e2 H2 a2 w2) : Out X n ok w ι H a e2 H2 a2 w2 := by
  obtain ⟨t1, t2, ι2, ok2, u1, u2, u3⟩ := h
  exact ⟨by omega, by rw [t2, h2], ι2, ok2, u1, u2, h3.trans u3⟩

theorem ofBool {t : Bool} {c : Operand} {e : Env} {a : Act} (hs : Sim X ok w ι H) (he : EnvRep ok w ι H e a.tmps) (h : opd X e c = some (.bool t)) : a.eval c = .bool t := by
  have := opd_rep hs he h
  generalize a.eval c = v at this ⊢
  cases this
  rfl

theorem argEnv_look : ∀ (l : List D) (i t : Nat) (d : D), look (argEnv i l) t = some d → i ≤ t ∧ l[t - i]? = some d
  | [], i, t, d, h => by simp [argEnv, look] at h
  | x :: l, i, t, d, h => by
    simp only [argEnv, look] at h
    split at h
    · rename_i hit
      subst hit
      injection h with h
      subst h
      exact ⟨Nat.le_refl _, by simp⟩
    · obtain ⟨h1, h2⟩ := argEnv_look l (i + 1) t d h
      refine ⟨by omega, ?_⟩
      rw [show t - i = (t - (i + 1)) + 1 by omega, List.getElem?_cons_succ]
      exact h2

def resOne (tmps : Array Value) : ResultVar → Sem Value
  | .tmp t => pure (tmps.getD t undef)
  | .cell a t => do loadVar t (← asAddr (tmps.getD a undef))

theorem res_run {e : Env} {tmps : Array Value} (hs : Sim X ok w ι H) (he : EnvRep ok w ι H e tmps) : ∀ {l : List ResultVar} {ds : List D}, resD X e H l = some ds →
    ∃ vs : List Value, (l.mapM (resOne tmps)).run X.P w = .ok vs w ∧ RepL ok w ι H ds vs
  | [], ds, h => by
    simp only [resD, Option.some.injEq] at h
    subst h
    exact ⟨[], by simp, rfl, by simp⟩
  | .tmp t :: l, ds, h => by
    simp only [resD] at h
    split at h
    · rename_i d ds' h1 h2
      injection h with h
      subst h
      obtain ⟨vs, q1, q2⟩ := res_run hs he h2
      refine ⟨tmps.getD t undef :: vs, ?_, by simp [q2.1], fun j x hx => ?_⟩
      · rw [List.mapM_cons]
        simp only [resOne, Sem.run_bind, Sem.run_pure, Result.andThen_ok, q1]
      · cases j with
        | zero =>
          simp only [List.getElem?_cons_zero, Option.some.injEq] at hx
          subst hx
          exact (he t d h1).2
        | succ j => exact q2.2 j x (by simpa using hx)
    · cases h
  | .cell a t :: l, ds, h => by
    simp only [resD] at h
    split at h
    · rename_i d ds' h1 h2
      injection h with h
      subst h
      obtain ⟨vs, q1, q2⟩ := res_run hs he h2
      cases hl : look e a with
      | none => simp [hl] at h1
      | some p =>
        simp only [hl, Option.bind_some] at h1
        obtain ⟨_, hr⟩ := he a p hl
        obtain ⟨v, r1, r2⟩ := load_run hs hr h1
        have hptr : ∃ ad, tmps.getD a undef = .pointer (some ad) := by
          unfold ldD at h1
          split at h1
          · rename_i hm; exact hr.ptr hm
          · rename_i hm; exact hr.ptr hm
          · cases h1
        obtain ⟨ad, had⟩ := hptr
        rw [had] at r1
        simp only [Instr.loadAt, Instr.sureAddr, Sem.run_bind, Sem.run_pure, Result.andThen_ok] at r1
        refine ⟨v :: vs, ?_, by simp [q2.1], fun j x hx => ?_⟩
        · rw [List.mapM_cons]
          simp only [resOne, had, asAddr, Sem.run_bind, Sem.run_pure, Result.andThen_ok, r1, q1]
        · cases j with
          | zero =>
            simp only [List.getElem?_cons_zero, Option.some.injEq] at hx
            subst hx
            exact r2
          | succ j => exact q2.2 j x (by simpa using hx)
    · cases h

theorem oneOrTup_rep {ds : List D} {vs : List Value} (h : RepL ok w ι H ds vs) : Rep ok w ι H (oneOrTup ds) (if hh : vs.toArray.size = 1 then vs.toArray[0] else .tuple vs.toArray) := by
  unfold oneOrTup
  split
  · rename_i d
    obtain ⟨v, us, rfl, r1, h2⟩ := repL_cons h
    obtain rfl := repL_nil h2
    simpa using r1
  · rename_i hne
    have hl : vs.toArray.size ≠ 1 := by
      intro e
      have : ds.length = 1 := by rw [← h.1]; simpa using e
      match ds, this with
      | [d], _ => exact hne d rfl
    rw [dif_neg hl]
    exact .tup (by simpa using h.1) fun j d hj => by
      have := h.2 j d hj
      simpa [Array.getD_eq_getD_getElem?, List.getD_eq_getElem?_getD] using this

theorem results_run {fn : Func} {e : Env} {tmps : Array Value} {ds : List D} (hs : Sim X ok w ι H) (he : EnvRep ok w ι H e tmps) (h : resD X e H fn.results.toList = some ds) :
    ∃ v, (results fn tmps).run X.P w = .ok v w ∧ Rep ok w ι H (oneOrTup ds) v := by
  obtain ⟨vs, q1, q2⟩ := res_run hs he h
  refine ⟨_, ?_, oneOrTup_rep q2⟩
  have hfun : results fn tmps = (do let vs ← fn.results.mapM (resOne tmps); pure (if h : vs.size = 1 then vs[0] else .tuple vs)) := by
    unfold results
    congr 1
  rw [hfun, Sem.run_bind, Array.mapM_eq_mapM_toList, Sem.run_map, q1]
  rfl

theorem rounds_mono {P : Program} {c : Code} {Q Q' : Exit → Act → World → Prop} (hq : ∀ x a w, Q x a w → Q' x a w) : ∀ (n : Nat) (a : Act) (w : World), Code.rounds P c Q n a w → Code.rounds P c Q' n a w
  | 0, _, _, h => h
  | n + 1, a, w, h => by
    rw [rounds_succ] at h ⊢
    refine wp_mono h fun x a w hx => ?_
    cases x <;> first | exact hq _ _ _ hx | exact rounds_mono hq n a w hx

theorem sound (hG : Good X) : ∀ n, SoundF X (evF X n) ∧ SoundC X n := by
  intro n
  induction n using Nat.strongRecOn with
  | _ n ih =>
    cases n with
    | zero =>
      refine ⟨fun f args H r H' ok w ι vs h => by simp [evF] at h, fun f nt n0 c e e' H H' ex ok w ι a h => by simp [evC] at h⟩
    | succ n =>
      have ihF := (ih n (by omega)).1
      have ihC := (ih n (by omega)).2
      constructor
      · -- a function
        intro f args H r H' ok w ι vs h hs hv
        simp only [evF] at h
        split at h
        · cases h
        · rename_i fn hf
          split at h
          · rename_i hb
            obtain ⟨h1, rfl⟩ := map_some_pair h
            obtain ⟨v, q1, q2, q3⟩ := hG.ext f fn args r hf hb h1 ok w ι H vs hs hv
            exact Goes.value q1 ⟨ι, ok, hs, q2, .refl _ (Nat.le_refl _), fun i ds hi hd => by have := hget_lt hd; omega⟩
          · rename_i c hb
            cases hbad : X.bad f with
            | true => simp [hbad] at h
            | false =>
            simp only [hbad, Bool.false_eq_true, if_false] at h
            have hokc := hG.okc f fn c hf hb hbad
            have henter : (callFunc f vs.toArray).run X.P w = .ok (.enter f vs.toArray) w := Go.Proofs.enters_of hf (hG.ng f fn hf) hb _ _
            have key : ∀ ex e H1 ds, (ex = .normal ∨ ex = .ret) → evC X n f fn.ntmps H.length c (argEnv 0 args) H = some (ex, e, H1) → resD X e H1 fn.results.toList = some ds → pack H.length H1 (oneOrTup ds) = some (r, H') →
                Goes X.P (callFunc f vs.toArray) w (CallPost X ok w ι H r H') := by
              intro ex e H1 ds hex hc hr hp
              unfold Goes
              rw [henter]
              simp only
              refine calls_of_wp hf hb (wp_mono (ihC f fn.ntmps H.length c (argEnv 0 args) e H H1 ex ok w ι ⟨vs.toArray ++ Array.replicate (fn.ntmps - vs.toArray.size) undef, []⟩ hc hokc (Nat.le_refl _) hs ?_ ?_) ?_)
              · intro t d ht
                obtain ⟨_, h2⟩ := argEnv_look args 0 t d ht
                rw [Nat.sub_zero] at h2
                have hlt : t < vs.length := by rw [hv.1]; exact (List.getElem?_eq_some_iff.1 h2).1
                refine ⟨by simp; omega, ?_⟩
                have := hv.2 t d h2
                rw [Array.getD_eq_getD_getElem?, Array.getElem?_append_left (by simpa using hlt)]
                simpa [List.getD_eq_getElem?_getD] using this
              · simp
                omega
              · rintro x a' w' ⟨rfl, k1, k2, ι1, ok1, k3, k4, k5⟩
                obtain ⟨v, q1, q2⟩ := results_run (fn := fn) k3 k4 hr
                obtain ⟨ι2, p1, p2, p3, p4⟩ := pack_rep k5.nle.2 k3 q2 hp
                have hpost : CallPost X ok w ι H r H' v w' := ⟨ι2, ok1, p1, p2, k5.trans p3, p4⟩
                rcases hex with rfl | rfl
                · exact ⟨k2, v, q1, v, rfl, hpost⟩
                · exact ⟨k2, v, q1, v, rfl, hpost⟩
            split at h
            · rename_i e H1 hc
              split at h
              · rename_i ds hr
                exact key _ e H1 ds (.inl rfl) hc hr h
              · cases h
            · rename_i e H1 hc
              split at h
              · rename_i ds hr
                exact key _ e H1 ds (.inr rfl) hc hr h
              · cases h
            · cases h
      · -- code
        intro f nt n0 c e e' H H' ex ok w ι a h hoc hn hs he hnt
        have again : ∀ (ex1 : Ex) (e1 : Env) (H1 : Heap) (Q : Exit → Act → World → Prop) (c1 : Code), evC X n f nt n0 c1 e H = some (ex1, e1, H1) → okCode X c1 = true → (∀ a' w', Out X n0 ok w ι H a e1 H1 a' w' → Q (exOf ex1) a' w') → c1.wp X.P Q a w := by
          intro ex1 e1 H1 Q c1 h1 hoc1 hQ
          refine wp_mono (ihC f nt n0 c1 e e1 H H1 ex1 ok w ι a h1 hoc1 hn hs he hnt) ?_
          rintro x a' w' ⟨rfl, hout⟩
          exact hQ a' w' hout
        have here : Out X n0 ok w ι H a e H a w := ⟨rfl, rfl, ι, ok, hs, he, .refl _ hn⟩
        cases c with
        | skip =>
          simp only [evC, Option.some.injEq, Prod.mk.injEq] at h
          obtain ⟨rfl, rfl, rfl⟩ := h
          exact wp_skip ⟨rfl, here⟩
        | label l =>
          simp only [evC, Option.some.injEq, Prod.mk.injEq] at h
          obtain ⟨rfl, rfl, rfl⟩ := h
          exact wp_label ⟨rfl, here⟩
        | exit id =>
          simp only [evC, Option.some.injEq, Prod.mk.injEq] at h
          obtain ⟨rfl, rfl, rfl⟩ := h
          exact wp_exit ⟨rfl, here⟩
        | ret =>
          simp only [evC, Option.some.injEq, Prod.mk.injEq] at h
          obtain ⟨rfl, rfl, rfl⟩ := h
          exact wp_ret ⟨rfl, here⟩
        | region id ops draw =>
          simp only [evC] at h
          split at h
          · cases h
          · rename_i e1 H1 hen
            obtain ⟨s1, s2, s3⟩ := enter_sound hen hn hs he
            cases ho : evOps X (evF X n) nt draw ops ops.toList e1 H1 with
            | none => simp [ho] at h
            | some r =>
              obtain ⟨e2, H2⟩ := r
              simp only [ho, Option.map_some, Option.some.injEq, Prod.mk.injEq] at h
              obtain ⟨rfl, rfl, rfl⟩ := h
              cases draw with
              | false =>
                refine wp_region_list (evOps_sound ihF ho s1 s2 hnt fun a' w' hout => ⟨rfl, ?_⟩)
                obtain ⟨t1, t2, ι2, ok2, u1, u2, u3⟩ := hout
                exact ⟨t1, t2, ι2, ok2, u1, u2, s3.trans (u3.mono s3.nle.2)⟩
              | true =>
                simp only [okCode, Bool.not_true, Bool.false_or] at hoc
                obtain ⟨d1, d2⟩ := step_same (w' := { w with drawn := w.drawn + 1 }) s1 ⟨rfl, rfl, rfl⟩ rfl
                refine wp_region_any hG.mixed (draw_sound ihF (drawFacts hoc) ho d1 (s2.evol' s1 d2) hnt fun a' w' hout => ⟨rfl, ?_⟩)
                obtain ⟨t1, t2, ι2, ok2, u1, u2, u3⟩ := hout
                exact ⟨t1, t2, ι2, ok2, u1, u2, s3.trans ((d2.mono s3.nle.2).trans (u3.mono s3.nle.2))⟩
        | seq x y =>
          simp only [okCode, Bool.and_eq_true] at hoc
          simp only [evC] at h
          refine wp_seq ?_
          split at h
          · rename_i e1 H1 hx
            refine again _ e1 H1 _ x hx hoc.1 fun a1 w1 hout => ?_
            obtain ⟨t1, t2, ι1, ok1, u1, u2, u3⟩ := hout
            refine wp_mono (ihC f nt n0 y e1 e' H1 H' ex ok1 w1 ι1 a1 h hoc.2 u3.nle.2 u1 u2 (by omega)) ?_
            rintro z a2 w2 ⟨rfl, hout2⟩
            exact ⟨rfl, Out.trans t1 t2 u3 hout2⟩
          · rename_i hne
            refine again ex e' H' _ x h hoc.1 fun a1 w1 hout => ?_
            cases ex with
            | normal => exact absurd h (hne _ _)
            | exit id => exact ⟨rfl, hout⟩
            | ret => exact ⟨rfl, hout⟩
        | cond c x y =>
          simp only [okCode, Bool.and_eq_true] at hoc
          simp only [evC] at h
          split at h
          · rename_i t hc
            refine wp_cond (ofBool hs he hc) (again ex e' H' _ _ h (by cases t; exact hoc.2; exact hoc.1) fun a1 w1 hout => ⟨rfl, hout⟩)
          · cases h
        | block id c =>
          simp only [okCode] at hoc
          simp only [evC] at h
          refine wp_block ?_
          split at h
          · rename_i i e1 H1 hc
            refine again _ e1 H1 _ c hc hoc fun a1 w1 hout => ?_
            simp only [exOf, Exit.inBlock]
            split at h
            · rename_i hi
              simp only [Option.some.injEq, Prod.mk.injEq] at h
              obtain ⟨rfl, rfl, rfl⟩ := h
              rw [if_pos hi]
              exact ⟨rfl, hout⟩
            · rename_i hi
              simp only [Option.some.injEq, Prod.mk.injEq] at h
              obtain ⟨rfl, rfl, rfl⟩ := h
              rw [if_neg hi]
              exact ⟨rfl, hout⟩
          · rename_i hne
            refine again ex e' H' _ c h hoc fun a1 w1 hout => ?_
            cases ex with
            | normal => exact ⟨rfl, hout⟩
            | exit i => exact absurd h (hne _ _ _)
            | ret => exact ⟨rfl, hout⟩
        | scope c =>
          simp only [okCode] at hoc
          simp only [evC] at h
          refine wp_scope_straight (again ex e' H' _ c h hoc fun a1 w1 hout => ?_)
          cases ex <;> exact ⟨rfl, hout⟩
        | loop c =>
          simp only [okCode] at hoc
          have key : ∀ m, m ≤ n → ∀ (e e' : Env) (H H' : Heap) (ex : Ex) (ok : Nat → Prop) (w : World) (ι : Iota) (a : Act), evC X (m + 1) f nt n0 (.loop c) e H = some (ex, e', H') → n0 ≤ H.length → Sim X ok w ι H → EnvRep ok w ι H e a.tmps → nt ≤ a.tmps.size →
              Code.rounds X.P c (CQ X n0 ok w ι H a ex e' H') (m + 1) a w := by
            intro m
            induction m with
            | zero =>
              intro _ e e' H H' ex ok w ι a h
              simp only [evC] at h
              simp at h
            | succ m ihm =>
              intro hm e e' H H' ex ok w ι a h hn hs he hnt
              rw [rounds_succ]
              rw [evC] at h
              split at h
              · rename_i e1 H1 hc
                refine wp_mono ((ih (m + 1) (by omega)).2 f nt n0 c e e1 H H1 .normal ok w ι a hc hoc hn hs he hnt) ?_
                rintro x a1 w1 ⟨rfl, t1, t2, ι1, ok1, u1, u2, u3⟩
                have hrec := ihm (by omega) e1 e' H1 H' ex ok1 w1 ι1 a1 h u3.nle.2 u1 u2 (by omega)
                refine rounds_mono ?_ _ _ _ hrec
                rintro x a2 w2 ⟨hx, hout⟩
                exact ⟨hx, Out.trans t1 t2 u3 hout⟩
              · rename_i hne
                refine wp_mono ((ih (m + 1) (by omega)).2 f nt n0 c e e' H H' ex ok w ι a h hoc hn hs he hnt) ?_
                rintro x a1 w1 ⟨rfl, hout⟩
                cases ex with
                | normal => exact absurd h (hne _ _)
                | exit id => exact ⟨rfl, hout⟩
                | ret => exact ⟨rfl, hout⟩
          exact wp_loop_rounds _ (key n (Nat.le_refl _) e e' H H' ex ok w ι a h hn hs he hnt)
        | goto l => simp [evC] at h
        | rangeFunc _ _ _ _ => simp [evC] at h
        | refuse _ => simp [evC] at h

end
end Go.Ev
