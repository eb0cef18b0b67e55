import Derived.Test.YtkfojmihnjnhfaaGreatDoorC2
import Derived.Lib.BytesEntry
import Derived.Laws.Externs
import Derived.ProofKit
import Derived.OpenShut
import Derived.Below
import Derived.WideKeyArgs
import Derived.Carry
import Derived.ChangeSame
import Derived.ChangeSlices
import Derived.DataReads
import Derived.DataElems
import Derived.ChangeArms
import Derived.Lib.LaidTab
import Derived.Stop.LaidErr
import Derived.LaidMore
import Derived.Shelf.Strconv.Itoa1
import Derived.Shelf.Strings.Search2
import Derived.Shelf.Strconv.Clone
import Derived.WalkSmall
import Derived.Shelf.Strings.Repeat
import Derived.Lib.Bytealg
import Derived.Shelf.Bytes.SlIndexWhole
import Derived.Lib.LaidU8T
import Derived.Shelf.Spec.DecodeRune
import Derived.Lib.IndexEntry
namespace Go.Ev

section
variable {X:Cx}

def FLe (F G:CallF):Prop:= ∀ f args H r,F f args H = some r→G f args H = some r

theorem callL_mono {F G:CallF} (h:FLe F G) {f:Nat} {args:List D} {H:Heap} {r:D × Heap} (hc:callL F f args H = some r):callL G f args H = some r:=by
 cases args with
 | nil=>simp [callL] at hc
 | cons a rest =>
  cases a with
  | optr i st off =>
   simp only [callL] at hc ⊢
   cases hd:hget H i with
   | none=>simp [hd] at hc
   | some ds =>
    simp only [hd] at hc ⊢
    split at hc
    ·rename_i hf
     rw [if_pos hf]
     cases hF:F f (.optr 0 st off :: rest) [some ds] with
     | none=>simp [hF] at hc
     | some q=>rw [h _ _ _ _ hF];rw [hF] at hc;exact hc
    ·cases hc
  | _=>simp [callL] at hc
theorem callM_mono {F G:CallF} (h:FLe F G) {f:Nat} {args:List D} {H:Heap} {r:D × Heap} (hc:callM F f args H = some r):callM G f args H = some r:=by
 unfold callM at hc ⊢
 split at hc
 ·split at hc
  ·unfold callP at hc ⊢
   split at hc
   ·split at hc
    ·rename_i hf
     rw [if_pos hf]
     split at hc
     ·rename_i hF
      rw [h _ _ _ _ hF]
      exact hc
     ·cases hc
    ·cases hc
   ·cases hc
  ·cases hc
 ·cases hc
theorem callK_mono {F G:CallF} (h:FLe F G) {f:Nat} {args:List D} {H:Heap} {r:D × Heap} (hc:callK X F f args H = some r):callK X G f args H = some r:=by
 unfold callK at hc ⊢
 split
 ·rename_i hl
  rw [if_pos hl] at hc
  exact callM_mono h hc
 ·rename_i hl
  rw [if_neg hl] at hc
  exact callL_mono h hc
theorem callV_mono {F G:CallF} (h:FLe F G) {f:Nat} {args:List D} {H:Heap} {r:D × Heap} (hc:callV X F f args H = some r):callV X G f args H = some r:=by
 unfold callV at hc ⊢
 split
 ·rename_i hb
  rw [if_pos hb] at hc
  split
  ·rename_i hl
   rw [if_pos hl] at hc
   exact callK_mono h hc
  ·rename_i hl
   rw [if_neg hl] at hc
   exact h _ _ _ _ hc
 ·rename_i hb
  rw [if_neg hb] at hc
  split
  ·rename_i ha
   rw [if_pos ha] at hc
   cases hF:F f args [] with
   | none=>simp [hF] at hc
   | some q=>rw [h _ _ _ _ hF];rw [hF] at hc;exact hc
  ·rename_i ha
   rw [if_neg ha] at hc
   cases hz:freezeArgs H args with
   | none=>simp [hz] at hc
   | some args' =>
    simp only [hz] at hc ⊢
    cases hF:F f args' [] with
    | none=>simp [hF] at hc
    | some q=>rw [h _ _ _ _ hF];rw [hF] at hc;exact hc

theorem callW_mono {F G:CallF} (h:FLe F G) {f:Nat} {args:List D} {H:Heap} {r:D × Heap} (hc:callW X F f args H = some r):callW X G f args H = some r:=by
 by_cases hp:(X.pureF f && !X.byRef f) = true
 ·obtain ⟨h4,h3,h1⟩:=callW_pure hp hc
  unfold callW
  rw [if_pos hp]
  rcases h1 with ⟨h1,h2⟩ | ⟨h1,hpe,hfl,hv,args',hfz,h2⟩
  ·rw [if_pos h1,h _ _ _ _ h2]
   simp only [h3,if_true,← h4]
  ·rw [if_neg h1]
   subst h4
   simp only [hpe,hfl,Bool.and_self,if_true,hfz,h _ _ _ _ h2,h3,hv]
 ·unfold callW at hc ⊢
  rw [if_neg hp] at hc ⊢
  exact callV_mono h hc
theorem callB_mono {F G:CallF} (h:FLe F G) {f:Nat} {args:List D} {H:Heap} {r:D × Heap} (hc:callB X F f args H = some r):callB X G f args H = some r:=by
 unfold callB at hc ⊢
 split at hc
 ·exact callW_mono h hc
 ·split at hc
  ·exact callW_mono h hc
  ·cases hc
theorem callD_mono {F G:CallF} (h:FLe F G) {f:Nat} {args:List D} {H:Heap} {r:D × Heap} (hc:callD X F f args H = some r):callD X G f args H = some r:=by
 unfold callD at hc ⊢
 split at hc
 ·exact callB_mono h hc
 ·split at hc
  ·exact callW_mono h hc
  ·cases hc

theorem evOp_mono {F G:CallF} (h:FLe F G) {o:Op} {e:Env} {H:Heap} {r:D × Heap} (ho:evOp X F o e H = some r):evOp X G o e H = some r:=by
 cases o with
 | call c =>
  simp only [evOp] at ho ⊢
  cases hc:c.callee with
  | builtin b=>cases ha:opds X e c.args.toList <;> simp only [hc,ha] at ho ⊢ <;> first | exact ho | cases ho
  | invoke r m=>cases ha:opds X e c.args.toList <;> simp only [hc,ha] at ho ⊢ <;> cases ho
  | value g =>
   simp only [hc] at ho ⊢
   cases ha:opds X e c.args.toList with
   | none=>simp [ha] at ho
   | some args =>
    simp only [ha] at ho ⊢
    split at ho
    ·exact callD_mono h ho
    ·cases ho
 | makeFunc g _ _=>cases g <;> exact ho
 | slice _ _ _ _ m=>cases m <;> exact ho
 | _=>exact ho

theorem evOpW_mono {F G:CallF} (h:FLe F G) {drw:Bool} {o:Op} {e:Env} {H:Heap} {r:D × Heap} (ho:evOpW X F drw o e H = some r):evOpW X G drw o e H = some r:=by
 unfold evOpW at ho ⊢
 split at ho
 ·exact ho
 ·exact ho
 ·split at ho
  ·cases ho
  ·rename_i hb
   rw [if_neg hb]
   exact evOp_mono h ho
 ·exact evOp_mono h ho

theorem evOps_mono {F G:CallF} (h:FLe F G) {nt:Nat} {drw:Bool} {ops:Array Oper}:∀ {l:List Oper} {e:Env} {H:Heap} {r:Env × Heap},evOps X F nt drw ops l e H = some r→evOps X G nt drw ops l e H = some r
 | [],_,_,_,ho=>ho
 | o :: l,e,H,r,ho=>by
  simp only [evOps] at ho ⊢
  cases hd:dstOk nt o.dst <;> simp only [hd] at ho ⊢
  ·cases ho
  ·cases hg:guardQ ops e o.guard with
   | none=>simp [hg] at ho
   | some b =>
    cases b <;> simp only [hg] at ho ⊢
    ·exact evOps_mono h ho
    ·cases hx:evOpW X F drw o.op e H with
     | none=>simp [hx] at ho
     | some q =>
      rw [evOpW_mono h hx]
      rw [hx] at ho
      exact evOps_mono h ho

theorem evOpsL_mono {F G:CallF} (h:FLe F G) {nt:Nat} {ow:List Nat} {ops:Array Oper} {L:Pairs}:∀ {l:List Oper} {k:Nat} {ws:List (Nat × Heap × Heap)} {rs:List (Nat × List Nat)} {e:Env} {H:Heap} {r:Env × Heap},evOpsL X F nt ow ops L k ws rs l e H = some r→evOpsL X G nt ow ops L k ws rs l e H = some r
 | [],_,_,_,_,_,_,ho=>by simpa [evOpsL] using ho
 | o :: l,k,ws,rs,e,H,r,ho=>by
  simp only [evOpsL] at ho ⊢
  cases hd:dstOk nt o.dst <;> simp only [hd] at ho ⊢
  ·cases ho
  ·cases hg:guardQ ops e o.guard with
   | none=>simp [hg] at ho
   | some b =>
    cases b <;> simp only [hg] at ho ⊢
    ·exact evOpsL_mono h ho
    ·cases hx:evOpW X F (bwD ow o.dst) o.op e H with
     | none=>simp [hx] at ho
     | some q =>
      rw [evOpW_mono h hx]
      rw [hx] at ho
      simp only at ho ⊢
      split at ho
      ·rename_i hc
       rw [if_pos hc]
       exact evOpsL_mono h ho
      ·cases ho
theorem evR_mono {F G:CallF} (h:FLe F G) {f nt id:Nat} {draw:Bool} {ops:Array Oper} {e:Env} {H:Heap} {r:Env × Heap} (ho:evR X F f nt id draw ops e H = some r):evR X G f nt id draw ops e H = some r:=by
 unfold evR at ho ⊢
 split at ho
 ·exact evOpsL_mono h ho
 ·exact evOps_mono h ho

theorem ev_mono:∀ n,FLe (evF X n) (evF X (n+1))∧∀ f nt n0 c e H r,evC X n f nt n0 c e H = some r→evC X (n+1) f nt n0 c e H = some r
 | 0=>⟨fun f args H r h=>by simp [evF] at h,fun f nt n0 c e H r h=>by simp [evC] at h⟩
 | n+1=>by
  obtain ⟨ihF,ihC⟩:=ev_mono n
  constructor
  ·intro f args H r h
   simp only [evF] at h ⊢
   cases hcon:X.con f args H with
   | some q=>simp only [hcon] at h ⊢;exact h
   | none =>
   simp only [hcon] at h ⊢
   cases hf:X.P.funcs[f]? with
   | none=>simp [hf] at h
   | some fn =>
    simp only [hf] at h ⊢
    cases hb:fn.body with
    | none=>simp only [hb] at h ⊢;exact h
    | some c =>
     simp only [hb] at h ⊢
     cases hbad:X.bad f <;> simp only [hbad,Bool.false_eq_true,if_false,if_true] at h ⊢
     ·cases hc:evC X n f fn.ntmps H.length c (argEnv 0 args) H with
      | none=>simp [hc] at h
      | some q =>
       rw [ihC _ _ _ _ _ _ _ hc]
       rw [hc] at h
       exact h
     ·cases h
  ·intro f nt n0 c e H r h
   cases c with
   | region id ops draw =>
    rw [evC] at h ⊢
    cases hen:enter X f n0 id e H with
    | none=>simp [hen] at h
    | some q =>
     obtain ⟨e1,H1⟩:=q
     simp only [hen] at h ⊢
     cases ho:evR X (evF X n) f nt id draw ops e1 H1 with
     | none=>simp [ho] at h
     | some q =>
      rw [evR_mono ihF ho]
      rw [ho] at h
      exact h
   | seq a b =>
    rw [evC] at h ⊢
    cases ha:evC X n f nt n0 a e H with
    | none=>simp [ha] at h
    | some q =>
     obtain ⟨ex,e1,H1⟩:=q
     rw [ihC _ _ _ _ _ _ _ ha]
     rw [ha] at h
     cases ex with
     | normal=>exact ihC _ _ _ _ _ _ _ h
     | exit i=>exact h
     | ret=>exact h
   | cond x a b =>
    rw [evC] at h ⊢
    split at h
    ·exact ihC _ _ _ _ _ _ _ h
    ·cases h
   | block id c =>
    rw [evC] at h ⊢
    cases ha:evC X n f nt n0 c e H with
    | none=>simp [ha] at h
    | some q =>
     rw [ihC _ _ _ _ _ _ _ ha]
     rw [ha] at h
     exact h
   | scope c =>
    rw [evC] at h ⊢
    exact ihC _ _ _ _ _ _ _ h
   | loop c =>
    rw [evC] at h ⊢
    cases ha:evC X n f nt n0 c e H with
    | none=>simp [ha] at h
    | some q =>
     obtain ⟨ex,e1,H1⟩:=q
     rw [ihC _ _ _ _ _ _ _ ha]
     rw [ha] at h
     cases ex with
     | normal=>exact ihC _ _ _ _ _ _ _ h
     | exit i=>exact h
     | ret=>exact h
   | skip=>exact h
   | label l=>exact h
   | exit id=>exact h
   | ret=>exact h
   | goto l=>simp [evC] at h
   | rangeFunc a b c d=>simp [evC] at h
   | refuse w=>simp [evC] at h

theorem evF_le {n m:Nat} (hnm:n≤m):FLe (evF X n) (evF X m):=by
 induction m with
 | zero=>have:n = 0:=by omega
         subst this;exact fun _ _ _ _ h=>h
 | succ m ih =>
  by_cases h:n = m+1
  ·subst h;exact fun _ _ _ _ h=>h
  ·exact fun f args H r hr=>(ev_mono m).1 _ _ _ _ (ih (by omega) f args H r hr)

theorem evC_le {n m:Nat} (hnm:n≤m) {f nt n0:Nat} {c:Code} {e:Env} {H:Heap} {r:Ex × Env × Heap} (h:evC X n f nt n0 c e H = some r):evC X m f nt n0 c e H = some r:=by
 induction m with
 | zero=>have:n = 0:=by omega
         subst this;exact h
 | succ m ih =>
  by_cases hn:n = m+1
  ·subst hn;exact h
  ·exact (ev_mono m).2 _ _ _ _ _ _ _ (ih (by omega))

open Classical in
noncomputable def lim {α:Type} (g:Nat→Option α):Option α:=if h:∃ r,∃ n,g n = some r then some h.choose else none

theorem lim_some {α:Type} {g:Nat→Option α} (hm:∀ n m r,n≤m→g n = some r→g m = some r) {r:α}:lim g = some r↔∃ n,g n = some r:=by
 unfold lim
 constructor
 ·intro h
  split at h
  ·rename_i hex
   injection h with h
   subst h
   exact hex.choose_spec
  ·cases h
 ·rintro ⟨n,hn⟩
  have hex:∃ r,∃ n,g n = some r:=⟨r,n,hn⟩
  rw [dif_pos hex]
  obtain ⟨k,hk⟩:=hex.choose_spec
  have h1:=hm n (max n k) _ (Nat.le_max_left _ _) hn
  have h2:=hm k (max n k) _ (Nat.le_max_right _ _) hk
  rw [h1] at h2
  injection h2 with h2
  rw [← h2]

noncomputable def call (X:Cx):CallF:=fun f args H=>lim fun n=>evF X n f args H
noncomputable def code (X:Cx) (f nt n0:Nat) (c:Code) (e:Env) (H:Heap):Option (Ex × Env × Heap):=lim fun n=>evC X n f nt n0 c e H

theorem call_some {f:Nat} {args:List D} {H:Heap} {r:D × Heap}:call X f args H = some r↔∃ n,evF X n f args H = some r:=lim_some fun _ _ _ hnm h=>evF_le hnm _ _ _ _ h
theorem code_some {f nt n0:Nat} {c:Code} {e:Env} {H:Heap} {r:Ex × Env × Heap}:code X f nt n0 c e H = some r↔∃ n,evC X n f nt n0 c e H = some r:=lim_some fun _ _ _ hnm h=>evC_le hnm h

theorem evF_call (n:Nat):FLe (evF X n) (call X):=fun _ _ _ _ h=>call_some.2 ⟨n,h⟩

theorem callL_cont {f:Nat} {args:List D} {H:Heap} {r:D × Heap} (hc:callL (call X) f args H = some r):∃ n,callL (evF X n) f args H = some r:=by
 cases args with
 | nil=>simp [callL] at hc
 | cons a rest =>
  cases a with
  | optr i st off =>
   simp only [callL] at hc ⊢
   cases hd:hget H i with
   | none=>simp [hd] at hc
   | some ds =>
    simp only [hd] at hc ⊢
    split at hc
    ·rename_i hf
     cases hF:call X f (.optr 0 st off :: rest) [some ds] with
     | none=>simp [hF] at hc
     | some q =>
      obtain ⟨n,hn⟩:=call_some.1 hF
      refine ⟨n,?_⟩
      rw [if_pos hf,hn]
      rw [hF] at hc
      exact hc
    ·cases hc
  | _=>simp [callL] at hc
theorem callM_cont {f:Nat} {args:List D} {H:Heap} {r:D × Heap} (hc:callM (call X) f args H = some r):∃ n,callM (evF X n) f args H = some r:=by
 unfold callM at hc ⊢
 split at hc
 ·split at hc
  ·unfold callP at hc ⊢
   split at hc
   ·split at hc
    ·rename_i hf
     split at hc
     ·rename_i hF
      obtain ⟨n,hn⟩:=call_some.1 hF
      exact ⟨n,by rw [if_pos hf,hn];exact hc⟩
     ·cases hc
    ·cases hc
   ·cases hc
  ·cases hc
 ·cases hc
theorem callK_cont {f:Nat} {args:List D} {H:Heap} {r:D × Heap} (hc:callK X (call X) f args H = some r):∃ n,callK X (evF X n) f args H = some r:=by
 unfold callK at hc ⊢
 split at hc
 ·rename_i hl
  obtain ⟨n,hn⟩:=callM_cont hc
  exact ⟨n,by rw [if_pos hl];exact hn⟩
 ·rename_i hl
  obtain ⟨n,hn⟩:=callL_cont hc
  exact ⟨n,by rw [if_neg hl];exact hn⟩
theorem callV_cont {f:Nat} {args:List D} {H:Heap} {r:D × Heap} (hc:callV X (call X) f args H = some r):∃ n,callV X (evF X n) f args H = some r:=by
 unfold callV at hc ⊢
 split at hc
 ·rename_i hb
  split at hc
  ·rename_i hl
   obtain ⟨n,hn⟩:=callK_cont hc
   exact ⟨n,by rw [if_pos hb,if_pos hl];exact hn⟩
  ·rename_i hl
   obtain ⟨n,hn⟩:=call_some.1 hc
   exact ⟨n,by rw [if_pos hb,if_neg hl];exact hn⟩
 ·rename_i hb
  split at hc
  ·rename_i ha
   cases hF:call X f args [] with
   | none=>simp [hF] at hc
   | some q =>
    obtain ⟨n,hn⟩:=call_some.1 hF
    exact ⟨n,by rw [if_neg hb,if_pos ha,hn];rw [hF] at hc;exact hc⟩
  ·rename_i ha
   cases hz:freezeArgs H args with
   | none=>simp [hz] at hc
   | some args' =>
    simp only [hz] at hc
    cases hF:call X f args' [] with
    | none=>simp [hF] at hc
    | some q =>
     obtain ⟨n,hn⟩:=call_some.1 hF
     exact ⟨n,by rw [if_neg hb,if_neg ha];simp only [hn];rw [hF] at hc;exact hc⟩

theorem callW_cont {f:Nat} {args:List D} {H:Heap} {r:D × Heap} (hc:callW X (call X) f args H = some r):∃ n,callW X (evF X n) f args H = some r:=by
 by_cases hp:(X.pureF f && !X.byRef f) = true
 ·obtain ⟨h4,h3,h1⟩:=callW_pure hp hc
  rcases h1 with ⟨h1,h2⟩ | ⟨h1,hpe,hfl,hv,args',hfz,h2⟩
  ·obtain ⟨n,hn⟩:=call_some.1 h2
   refine ⟨n,?_⟩
   unfold callW
   rw [if_pos hp,if_pos h1,hn]
   simp only [h3,if_true,← h4]
  ·obtain ⟨n,hn⟩:=call_some.1 h2
   refine ⟨n,?_⟩
   unfold callW
   rw [if_pos hp,if_neg h1]
   subst h4
   simp only [hpe,hfl,Bool.and_self,if_true,hfz,hn,h3,hv]
 ·unfold callW at hc
  rw [if_neg hp] at hc
  obtain ⟨n,hn⟩:=callV_cont hc
  exact ⟨n,by unfold callW;rw [if_neg hp];exact hn⟩
theorem callB_cont {f:Nat} {args:List D} {H:Heap} {r:D × Heap} (hc:callB X (call X) f args H = some r):∃ n,callB X (evF X n) f args H = some r:=by
 unfold callB at hc
 split at hc
 ·rename_i hp
  obtain ⟨n,hn⟩:=callW_cont hc
  exact ⟨n,by unfold callB;rw [hp];exact hn⟩
 ·rename_i hp
  split at hc
  ·rename_i H1 hst
   obtain ⟨n,hn⟩:=callW_cont hc
   exact ⟨n,by unfold callB;rw [hp];simp only [hst];exact hn⟩
  ·cases hc
theorem callD_cont {f:Nat} {args:List D} {H:Heap} {r:D × Heap} (hc:callD X (call X) f args H = some r):∃ n,callD X (evF X n) f args H = some r:=by
 unfold callD at hc
 split at hc
 ·rename_i hp
  obtain ⟨n,hn⟩:=callB_cont hc
  exact ⟨n,by unfold callD;rw [hp];exact hn⟩
 ·rename_i hp
  split at hc
  ·rename_i args' l hst
   obtain ⟨n,hn⟩:=callW_cont hc
   exact ⟨n,by unfold callD;rw [hp];simp only [hst];exact hn⟩
  ·cases hc

theorem evOp_cont {o:Op} {e:Env} {H:Heap} {r:D × Heap} (ho:evOp X (call X) o e H = some r):∃ n,evOp X (evF X n) o e H = some r:=by
 cases o with
 | call c =>
  simp only [evOp] at ho ⊢
  cases hc:c.callee with
  | builtin b=>cases ha:opds X e c.args.toList <;> simp only [hc,ha] at ho ⊢ <;> first | exact ⟨0,ho⟩ | cases ho
  | invoke r m=>cases ha:opds X e c.args.toList <;> simp only [hc,ha] at ho <;> cases ho
  | value g =>
   simp only [hc] at ho ⊢
   cases ha:opds X e c.args.toList with
   | none=>simp [ha] at ho
   | some args =>
    simp only [ha] at ho ⊢
    split at ho
    ·rename_i f caps hg
     obtain ⟨n,hn⟩:=callD_cont ho
     exact ⟨n,hn⟩
    ·cases ho
 | makeFunc g _ _=>cases g <;> exact ⟨0,ho⟩
 | slice _ _ _ _ m=>cases m <;> exact ⟨0,ho⟩
 | _=>exact ⟨0,ho⟩

theorem evOpW_cont {drw:Bool} {o:Op} {e:Env} {H:Heap} {r:D × Heap} (ho:evOpW X (call X) drw o e H = some r):∃ n,evOpW X (evF X n) drw o e H = some r:=by
 unfold evOpW at ho ⊢
 split at ho
 ·exact ⟨0,ho⟩
 ·exact ⟨0,ho⟩
 ·split at ho
  ·cases ho
  ·rename_i hb
   obtain ⟨n,hn⟩:=evOp_cont ho
   exact ⟨n,by simp only [hb];exact hn⟩
 ·exact evOp_cont ho

theorem evOps_cont {nt:Nat} {drw:Bool} {ops:Array Oper}:∀ {l:List Oper} {e:Env} {H:Heap} {r:Env × Heap},evOps X (call X) nt drw ops l e H = some r→∃ n,evOps X (evF X n) nt drw ops l e H = some r
 | [],_,_,_,ho=>⟨0,ho⟩
 | o :: l,e,H,r,ho=>by
  simp only [evOps] at ho
  cases hd:dstOk nt o.dst <;> simp only [hd] at ho
  ·cases ho
  ·cases hg:guardQ ops e o.guard with
   | none=>simp [hg] at ho
   | some b =>
    cases b <;> simp only [hg] at ho
    ·obtain ⟨n,hn⟩:=evOps_cont ho
     exact ⟨n,by simp only [evOps,hd,hg];exact hn⟩
    ·cases hx:evOpW X (call X) drw o.op e H with
     | none=>simp [hx] at ho
     | some q =>
      rw [hx] at ho
      obtain ⟨n,hn⟩:=evOpW_cont hx
      obtain ⟨m,hm⟩:=evOps_cont ho
      refine ⟨max n m,?_⟩
      simp only [evOps,hd,hg]
      rw [evOpW_mono (evF_le (Nat.le_max_left n m)) hn]
      exact evOps_mono (evF_le (Nat.le_max_right n m)) hm

theorem evOps_lim {nt:Nat} {drw:Bool} {ops:Array Oper} {l:List Oper} {e:Env} {H:Heap} {r:Env × Heap}:evOps X (call X) nt drw ops l e H = some r↔∃ n,evOps X (evF X n) nt drw ops l e H = some r :=
 ⟨evOps_cont,fun ⟨n,hn⟩=>evOps_mono (evF_call n) hn⟩

theorem evOpsL_cont {nt:Nat} {ow:List Nat} {ops:Array Oper} {L:Pairs}:∀ {l:List Oper} {k:Nat} {ws:List (Nat × Heap × Heap)} {rs:List (Nat × List Nat)} {e:Env} {H:Heap} {r:Env × Heap},evOpsL X (call X) nt ow ops L k ws rs l e H = some r→∃ n,evOpsL X (evF X n) nt ow ops L k ws rs l e H = some r
 | [],_,_,_,_,_,_,ho=>⟨0,by simpa [evOpsL] using ho⟩
 | o :: l,k,ws,rs,e,H,r,ho=>by
  simp only [evOpsL] at ho
  cases hd:dstOk nt o.dst <;> simp only [hd] at ho
  ·cases ho
  ·cases hg:guardQ ops e o.guard with
   | none=>simp [hg] at ho
   | some b =>
    cases b <;> simp only [hg] at ho
    ·obtain ⟨n,hn⟩:=evOpsL_cont ho
     exact ⟨n,by simp only [evOpsL,hd,hg];exact hn⟩
    ·cases hx:evOpW X (call X) (bwD ow o.dst) o.op e H with
     | none=>simp [hx] at ho
     | some q =>
      rw [hx] at ho
      simp only at ho
      split at ho
      ·rename_i hc
       obtain ⟨n,hn⟩:=evOpW_cont hx
       obtain ⟨m,hm⟩:=evOpsL_cont ho
       refine ⟨max n m,?_⟩
       simp only [evOpsL,hd,hg]
       rw [evOpW_mono (evF_le (Nat.le_max_left n m)) hn]
       simp only
       rw [if_pos hc]
       exact evOpsL_mono (evF_le (Nat.le_max_right n m)) hm
      ·cases ho
theorem evR_lim {f nt id:Nat} {draw:Bool} {ops:Array Oper} {e:Env} {H:Heap} {r:Env × Heap}:evR X (call X) f nt id draw ops e H = some r↔∃ n,evR X (evF X n) f nt id draw ops e H = some r:=by
 unfold evR
 split
 ·exact ⟨evOpsL_cont,fun ⟨n,hn⟩=>evOpsL_mono (evF_call n) hn⟩
 ·exact evOps_lim

theorem opt_ext {α:Type} {x y:Option α} (h:∀ r,x = some r↔y = some r):x = y:=by
 cases x with
 | none =>
  cases y with
  | none=>rfl
  | some b=>exact absurd ((h b).2 rfl) (by simp)
 | some a=>exact ((h a).1 rfl).symm

section eqs
variable {f nt n0:Nat} {e:Env} {H:Heap}

theorem code_skip:code X f nt n0 .skip e H = some (.normal,e,H):=code_some.2 ⟨1,rfl⟩
theorem code_label {l:Nat}:code X f nt n0 (.label l) e H = some (.normal,e,H):=code_some.2 ⟨1,rfl⟩
theorem code_exit {i:Nat}:code X f nt n0 (.exit i) e H = some (.exit i,e,H):=code_some.2 ⟨1,rfl⟩
theorem code_ret:code X f nt n0 .ret e H = some (.ret,e,H):=code_some.2 ⟨1,rfl⟩

theorem code_region {id:Nat} {ops:Array Oper} {draw:Bool}:code X f nt n0 (.region id ops draw) e H = match enter X f n0 id e H with
  | none=>none
  | some (e,H)=>(evR X (call X) f nt id draw ops e H).map fun (e,H)=>(.normal,e,H):=by
 refine opt_ext fun r=>?_
 rw [code_some]
 cases hen:enter X f n0 id e H with
 | none =>
  simp only [reduceCtorEq,iff_false,not_exists]
  intro n h
  cases n <;> simp [evC,hen] at h
 | some q =>
  obtain ⟨e1,H1⟩:=q
  constructor
  ·rintro ⟨n,hn⟩
   cases n with
   | zero=>simp [evC] at hn
   | succ n =>
    simp only [evC,hen] at hn
    cases ho:evR X (evF X n) f nt id draw ops e1 H1 with
    | none=>simp [ho] at hn
    | some q =>
     simp only [evR_lim.2 ⟨n,ho⟩]
     rw [ho] at hn
     exact hn
  ·intro h
   simp only at h
   cases ho:evR X (call X) f nt id draw ops e1 H1 with
   | none=>simp [ho] at h
   | some q =>
    obtain ⟨n,hn⟩:=evR_lim.1 ho
    refine ⟨n+1,?_⟩
    simp only [evC,hen,hn]
    rw [ho] at h
    exact h

theorem code_seq {a b:Code}:code X f nt n0 (.seq a b) e H = match code X f nt n0 a e H with
  | some (.normal,e,H)=>code X f nt n0 b e H
  | r=>r:=by
 refine opt_ext fun r=>?_
 rw [code_some]
 constructor
 ·rintro ⟨n,hn⟩
  cases n with
  | zero=>simp [evC] at hn
  | succ n =>
   simp only [evC] at hn
   cases ha:evC X n f nt n0 a e H with
   | none=>simp [ha] at hn
   | some q =>
    obtain ⟨ex,e1,H1⟩:=q
    rw [code_some.2 ⟨n,ha⟩]
    rw [ha] at hn
    cases ex with
    | normal=>exact code_some.2 ⟨n,hn⟩
    | exit i=>exact hn
    | ret=>exact hn
 ·intro h
  cases ha:code X f nt n0 a e H with
  | none=>simp [ha] at h
  | some q =>
   obtain ⟨n,hn⟩:=code_some.1 ha
   obtain ⟨ex,e1,H1⟩:=q
   rw [ha] at h
   cases ex with
   | normal =>
    obtain ⟨m,hm⟩:=code_some.1 h
    refine ⟨max n m+1,?_⟩
    simp only [evC,evC_le (Nat.le_max_left n m) hn]
    exact evC_le (Nat.le_max_right n m) hm
   | exit i=>exact ⟨n+1,by simp only [evC,hn];exact h⟩
   | ret=>exact ⟨n+1,by simp only [evC,hn];exact h⟩

theorem code_cond {c:Operand} {a b:Code}:code X f nt n0 (.cond c a b) e H = match opd X e c with
  | some (.bool t)=>code X f nt n0 (if t then a else b) e H
  | _=>none:=by
 refine opt_ext fun r=>?_
 rw [code_some]
 constructor
 ·rintro ⟨n,hn⟩
  cases n with
  | zero=>simp [evC] at hn
  | succ n =>
   simp only [evC] at hn
   split at hn
   ·rename_i hc
    rw [hc]
    exact code_some.2 ⟨n,hn⟩
   ·cases hn
 ·intro h
  split at h
  ·rename_i t hc
   obtain ⟨n,hn⟩:=code_some.1 h
   exact ⟨n+1,by simp only [evC,hc];exact hn⟩
  ·cases h

theorem code_block {id:Nat} {c:Code}:code X f nt n0 (.block id c) e H = match code X f nt n0 c e H with
  | some (.exit i,e,H)=>if i = id then some (.normal,e,H) else some (.exit i,e,H)
  | r=>r:=by
 refine opt_ext fun r=>?_
 rw [code_some]
 constructor
 ·rintro ⟨n,hn⟩
  cases n with
  | zero=>simp [evC] at hn
  | succ n =>
   simp only [evC] at hn
   cases ha:evC X n f nt n0 c e H with
   | none=>simp [ha] at hn
   | some q=>rw [code_some.2 ⟨n,ha⟩];rw [ha] at hn;exact hn
 ·intro h
  cases ha:code X f nt n0 c e H with
  | none=>simp [ha] at h
  | some q =>
   obtain ⟨n,hn⟩:=code_some.1 ha
   exact ⟨n+1,by simp only [evC,hn];rw [ha] at h;exact h⟩

theorem code_scope {c:Code}:code X f nt n0 (.scope c) e H = code X f nt n0 c e H:=by
 refine opt_ext fun r=>?_
 rw [code_some,code_some]
 constructor
 ·rintro ⟨n,hn⟩
  cases n with
  | zero=>simp [evC] at hn
  | succ n=>exact ⟨n,hn⟩
 ·rintro ⟨n,hn⟩
  exact ⟨n+1,hn⟩

theorem code_loop {c:Code}:code X f nt n0 (.loop c) e H = match code X f nt n0 c e H with
  | some (.normal,e,H)=>code X f nt n0 (.loop c) e H
  | r=>r:=by
 refine opt_ext fun r=>?_
 rw [code_some]
 constructor
 ·rintro ⟨n,hn⟩
  cases n with
  | zero=>simp [evC] at hn
  | succ n =>
   rw [evC] at hn
   cases ha:evC X n f nt n0 c e H with
   | none=>simp [ha] at hn
   | some q =>
    obtain ⟨ex,e1,H1⟩:=q
    rw [code_some.2 ⟨n,ha⟩]
    rw [ha] at hn
    cases ex with
    | normal=>exact code_some.2 ⟨n,hn⟩
    | exit i=>exact hn
    | ret=>exact hn
 ·intro h
  cases ha:code X f nt n0 c e H with
  | none=>simp [ha] at h
  | some q =>
   obtain ⟨n,hn⟩:=code_some.1 ha
   obtain ⟨ex,e1,H1⟩:=q
   rw [ha] at h
   cases ex with
   | normal =>
    obtain ⟨m,hm⟩:=code_some.1 h
    refine ⟨max n m+1,?_⟩
    rw [evC]
    simp only [evC_le (Nat.le_max_left n m) hn]
    exact evC_le (Nat.le_max_right n m) hm
   | exit i=>exact ⟨n+1,by rw [evC];simp only [hn];exact h⟩
   | ret=>exact ⟨n+1,by rw [evC];simp only [hn];exact h⟩

def stripOp (o : Oper) : Oper := { dst := o.dst, op := o.op, type := 0, pos := "", after := #[], guard := o.guard }
def stripL:List Oper→List Oper
 | []=>[]
 | o :: l=>stripOp o :: stripL l
def stripC:Code→Code
 | .region id ops draw=>.region id (stripL ops.toList).toArray draw
 | .seq a b=>.seq (stripC a) (stripC b)
 | .cond x a b=>.cond x (stripC a) (stripC b)
 | .block id c=>.block id (stripC c)
 | .loop c=>.loop (stripC c)
 | .scope c=>.scope (stripC c)
 | c=>c
theorem stripL_get:∀ (l:List Oper) (j:Nat),((stripL l)[j]?).bind (·.dst) = (l[j]?).bind (·.dst)
 | [],j=>by simp [stripL]
 | o :: l,0=>by simp [stripL,stripOp]
 | o :: l,j+1=>by simp [stripL,stripL_get l j]
theorem guardQ_strip (ops:Array Oper) (e:Env) (g:Option (Nat × Bool)):guardQ (stripL ops.toList).toArray e g = guardQ ops e g:=by
 cases g with
 | none=>rfl
 | some q =>
  obtain ⟨j,want⟩:=q
  have h:=stripL_get ops.toList j
  simp only [guardQ]
  have e1:((stripL ops.toList).toArray[j]?) = (stripL ops.toList)[j]?:=by simp
  have e2:ops[j]? = ops.toList[j]?:=by simp
  rw [e1,e2,h]
theorem evOps_stripL {F:CallF} {drw:Bool} (ops:Array Oper):∀ (l:List Oper) (e:Env) (H:Heap),evOps X F nt drw (stripL ops.toList).toArray (stripL l) e H = evOps X F nt drw ops l e H
 | [],e,H=>rfl
 | o :: l,e,H=>by
  simp only [stripL,evOps,stripOp,guardQ_strip,evOps_stripL ops l]
theorem evOpsL_stripL {F:CallF} {ow:List Nat} (ops:Array Oper) {L:Pairs}:∀ (l:List Oper) (k:Nat) (ws:List (Nat × Heap × Heap)) (rs:List (Nat × List Nat)) (e:Env) (H:Heap),evOpsL X F nt ow (stripL ops.toList).toArray L k ws rs (stripL l) e H = evOpsL X F nt ow ops L k ws rs l e H
 | [],k,ws,rs,e,H=>by simp only [stripL,evOpsL]
 | o :: l,k,ws,rs,e,H=>by
  simp only [stripL,evOpsL,stripOp,guardQ_strip,evOpsL_stripL ops l]
theorem ownL_strip:∀ (l:List Oper),ownL (stripL l) = ownL l
 | []=>rfl
 | o :: l=>by simp only [stripL,ownL,stripOp,ownL_strip l]
theorem evC_strip:∀ (n:Nat) (c:Code) (e:Env) (H:Heap),evC X n f nt n0 (stripC c) e H = evC X n f nt n0 c e H:=by
 intro n
 induction n with
 | zero=>intro c e H;simp [evC]
 | succ n ih =>
  intro c e H
  cases c with
  | region id ops draw =>
   simp only [stripC,evC]
   cases enter X f n0 id e H with
   | none=>rfl
   | some q =>
    obtain ⟨e1,H1⟩:=q
    have:(stripL ops.toList).toArray.toList = stripL ops.toList:=by simp
    cases draw <;> cases hlp:X.lp f id <;> simp only [evR,hlp,evOps_stripL,evOpsL_stripL,ownL_strip,regW]
  | seq a b=>simp only [stripC,evC,ih]
  | cond x a b =>
   simp only [stripC,evC]
   split
   ·rename_i t _
    cases t <;> simp only [ih,if_true,if_false,Bool.false_eq_true]
   ·rfl
  | block id c=>simp only [stripC,evC,ih]
  | loop c =>
   have:=ih (.loop c)
   simp only [stripC] at this
   simp only [stripC,evC,ih,this]
  | scope c=>simp only [stripC,evC,ih]
  | _=>rfl
theorem code_strip {c:Code}:code X f nt n0 (stripC c) e H = code X f nt n0 c e H:=by
 unfold code
 congr 1
 funext n
 exact evC_strip n c e H

theorem call_con {args:List D} {r:D × Heap} (hcon:X.con f args H = some r):call X f args H = some r:=call_some.2 ⟨1,by simp only [evF,hcon]⟩

theorem call_body {fn:Func} {c:Code} {args:List D} (hcon:X.con f args H = none) (hf:X.P.funcs[f]? = some fn) (hb:fn.body = some c) (hbad:X.bad f = false) :
  call X f args H = match code X f fn.ntmps H.length c (argEnv 0 args) H with
   | some (.normal,e,H') | some (.ret,e,H')=>match resD X e H' fn.results.toList with
    | some ds=>packR (X.fzr f) H.length H' (oneOrTup ds)
    | none=>none
   | _=>none:=by
 refine opt_ext fun r=>?_
 rw [call_some]
 constructor
 ·rintro ⟨n,hn⟩
  cases n with
  | zero=>simp [evF] at hn
  | succ n =>
   simp only [evF,hcon,hf,hb,hbad,Bool.false_eq_true,if_false] at hn
   cases hc:evC X n f fn.ntmps H.length c (argEnv 0 args) H with
   | none=>simp [hc] at hn
   | some q=>rw [code_some.2 ⟨n,hc⟩];rw [hc] at hn;exact hn
 ·intro h
  cases hc:code X f fn.ntmps H.length c (argEnv 0 args) H with
  | none=>simp [hc] at h
  | some q =>
   obtain ⟨n,hn⟩:=code_some.1 hc
   refine ⟨n+1,?_⟩
   simp only [evF,hcon,hf,hb,hbad,Bool.false_eq_true,if_false,hn]
   rw [hc] at h
   exact h

theorem call_ext {fn:Func} {args:List D} (hcon:X.con f args H = none) (hf:X.P.funcs[f]? = some fn) (hb:fn.body = none):call X f args H = (X.ext f args).map (·,H):=by
 refine opt_ext fun r=>?_
 rw [call_some]
 constructor
 ·rintro ⟨n,hn⟩
  cases n with
  | zero=>simp [evF] at hn
  | succ n =>
   simp only [evF,hcon,hf,hb] at hn
   exact hn
 ·intro h
  exact ⟨1,by simp only [evF,hcon,hf,hb];exact h⟩
end eqs

theorem call_sound (hG:Good X):SoundF X (call X):=by
 intro f args H r H' ok w ι vs h hs hv
 obtain ⟨n,hn⟩:=call_some.1 h
 exact (sound hG n).1 f args H r H' ok w ι vs hn hs hv
end
end Go.Ev
namespace Go.Ev
def enterK (ks:List Nat):Nat→Nat→Env→Heap→Option (Env × Heap)
 | 0,_,e,H=>some (keepE ks e,H)
 | k+1,n0,e,H=>if H.length≤n0+k then some (keepE ks e,H)
  else if envClosed (n0+k) (keepE ks e) && (H.take (n0+k)).all (blkClosed (n0+k)) then some (keepE ks e,H.take (n0+k)) else none
def enterZ (zs ks:List Nat) (k n0:Nat) (e:Env) (H:Heap):Option (Env × Heap) :=
 match freezeE zs e H with
 | some (e,H)=>enterK ks k n0 e H
 | none=>none
def enterR (zs S ks:List Nat) (n0:Nat) (e:Env) (H:Heap):Option (Env × Heap) :=
 match zs with
 | []=>retE n0 S ks e H
 | zs=>match freezeE zs e H with
  | some (e,H)=>retE n0 S ks e H
  | none=>none
def enterI (ss:List Nat) (g:Heap→Option (Env × Heap)) (e:Env) (H:Heap):Option (Env × Heap) :=
 match stayIn e ss H with
 | some H=>g H
 | none=>none
def cAt:List Nat→Code→Code
 | [],c=>c
 | 0 :: p,.seq a _=>cAt p a
 | _ :: p,.seq _ b=>cAt p b
 | 0 :: p,.cond _ a _=>cAt p a
 | _ :: p,.cond _ _ b=>cAt p b
 | _ :: p,.block _ c=>cAt p c
 | _ :: p,.scope c=>cAt p c
 | _ :: p,.loop c=>cAt p c
 | _,c=>c
def bodyOf (f:Func):Code:=f.body.getD .skip
attribute [simp] code_skip code_label code_exit code_ret code_cond
attribute [simp] stripOp stripL stripC dstOk evOp evOpW dynBad opd opds partsD ofVal ofVal1 ofVals look putE keepE enterK enterZ enterR enterI stayIn stayBlk argEnv resD oneOrTup binD unD intD builtinD callD callB stayB callW flatQ callV ldD stD mem hget hset cellsOf fieldAddrD fieldD fieldOf partD ptrAdd indexAddrD indexD sliceD bounds lenD minmaxD convD callK callL noZ noZ.noZL buildD buildSliceD makeSliceD structPlace fillD zeroCellsD srcD appendD copyD eqD cellEq cellsEq shiftD newBlk isConstOp slc bytesD idFree idFree.idFreeL vFree vFree.vFreeL closed closed.closedL blkClosed blkVFree envClosed pack pack1 pack1.packs packR packA upN stay stayL clr staySlots freezeE valsE zipE retE retF retN retP renE renH renV renB renD renD.renL idsD namesB addN idxP shift shift.shiftL freeze freeze.freezeL freezeArgs isNilD cAt bodyOf strD
@[simp low] theorem setRange_eq (ds:List D) (off:Nat) (xs:List D):setRange ds off xs = ds.take off ++ xs ++ ds.drop (off+xs.length):=rfl
end Go.Ev
namespace Go.Ev
section
variable {X:Cx} {f nt n0:Nat}

inductive Fr where
 | seq (b:Code)
 | block (id:Nat)

def Run (X:Cx) (f nt n0:Nat) (Q:Ex→Env→Heap→Prop):List Fr→Option (Ex × Env × Heap)→Prop
 | _,none=>False
 | [],some (ex,e,H)=>Q ex e H
 | .seq b :: fs,some (.normal,e,H)=>Run X f nt n0 Q fs (code X f nt n0 b e H)
 | .seq _ :: fs,some (ex,e,H)=>Run X f nt n0 Q fs (some (ex,e,H))
 | .block id :: fs,some (.exit i,e,H)=>if i = id then Run X f nt n0 Q fs (some (.normal,e,H)) else Run X f nt n0 Q fs (some (.exit i,e,H))
 | .block _ :: fs,some (ex,e,H)=>Run X f nt n0 Q fs (some (ex,e,H))

variable {Q:Ex→Env→Heap→Prop} {fs:List Fr} {e:Env} {H:Heap} {a b c:Code}

theorem run_none:Run X f nt n0 Q fs none = False:=by unfold Run;rfl
theorem run_nil {ex:Ex}:Run X f nt n0 Q [] (some (ex,e,H)) = Q ex e H:=by unfold Run;rfl
theorem run_seqn:Run X f nt n0 Q (.seq b :: fs) (some (.normal,e,H)) = Run X f nt n0 Q fs (code X f nt n0 b e H):=by rw [Run]
theorem run_seqe {i:Nat}:Run X f nt n0 Q (.seq b :: fs) (some (.exit i,e,H)) = Run X f nt n0 Q fs (some (.exit i,e,H)):=by rw [Run];intro h;cases h
theorem run_seqr:Run X f nt n0 Q (.seq b :: fs) (some (.ret,e,H)) = Run X f nt n0 Q fs (some (.ret,e,H)):=by rw [Run];intro h;cases h
theorem run_blockn {id:Nat}:Run X f nt n0 Q (.block id :: fs) (some (.normal,e,H)) = Run X f nt n0 Q fs (some (.normal,e,H)):=by rw [Run];intro i h;cases h
theorem run_blockr {id:Nat}:Run X f nt n0 Q (.block id :: fs) (some (.ret,e,H)) = Run X f nt n0 Q fs (some (.ret,e,H)):=by rw [Run];intro i h;cases h
theorem run_blocke {id i:Nat}:Run X f nt n0 Q (.block id :: fs) (some (.exit i,e,H)) = if i = id then Run X f nt n0 Q fs (some (.normal,e,H)) else Run X f nt n0 Q fs (some (.exit i,e,H)):=by rw [Run]
theorem run_seq:Run X f nt n0 Q fs (code X f nt n0 (.seq a b) e H) = Run X f nt n0 Q (.seq b :: fs) (code X f nt n0 a e H):=by
 rw [code_seq]
 cases h:code X f nt n0 a e H with
 | none=>simp [run_none]
 | some q =>
  obtain ⟨ex,e1,H1⟩:=q
  cases ex with
  | normal=>rw [run_seqn]
  | exit i=>rw [run_seqe]
  | ret=>rw [run_seqr]
theorem run_block {id:Nat}:Run X f nt n0 Q fs (code X f nt n0 (.block id c) e H) = Run X f nt n0 Q (.block id :: fs) (code X f nt n0 c e H):=by
 rw [code_block]
 cases h:code X f nt n0 c e H with
 | none=>simp [run_none]
 | some q =>
  obtain ⟨ex,e1,H1⟩:=q
  cases ex with
  | normal=>rw [run_blockn]
  | exit i=>rw [run_blocke];by_cases hi:i = id <;> simp [hi]
  | ret=>rw [run_blockr]
theorem run_scope:Run X f nt n0 Q fs (code X f nt n0 (.scope c) e H) = Run X f nt n0 Q fs (code X f nt n0 c e H):=by rw [code_scope]

theorem Run.mono {o:Option (Ex × Env × Heap)} {R:Ex→Env→Heap→Prop} (h:Run X f nt n0 R [] o) (hq:∀ ex e H,R ex e H→Run X f nt n0 Q fs (some (ex,e,H))):Run X f nt n0 Q fs o:=by
 cases o with
 | none=>rw [run_none] at h;exact h.elim
 | some q =>
  obtain ⟨ex,e1,H1⟩:=q
  rw [run_nil] at h
  exact hq _ _ _ h

theorem Run.loop {σ:Type} (I:σ→Env→Heap→Prop) (m:σ→Nat)
  (step:∀ s e H,I s e H→Run X f nt n0 (fun ex e' H'=>match ex with | .normal=>∃ s',m s' < m s∧I s' e' H' | ex=>Q ex e' H') [] (code X f nt n0 c e H)) :
  ∀ s e H,I s e H→Run X f nt n0 Q [] (code X f nt n0 (.loop c) e H):=by
 suffices h:∀ k s e H,m s < k→I s e H→Run X f nt n0 Q [] (code X f nt n0 (.loop c) e H) from
  fun s e H hi=>h (m s+1) s e H (Nat.lt_succ_self _) hi
 intro k
 induction k with
 | zero=>intro s e H h;omega
 | succ k ih =>
  intro s e H hk hi
  have hs:=step s e H hi
  rw [code_loop]
  cases ho:code X f nt n0 c e H with
  | none=>rw [ho,run_none] at hs;exact hs.elim
  | some q =>
   obtain ⟨ex,e1,H1⟩:=q
   rw [ho,run_nil] at hs
   cases ex with
   | normal =>
    obtain ⟨s',hlt,hi'⟩:=hs
    exact ih s' e1 H1 (by omega) hi'
   | exit i=>exact hs
   | ret=>exact hs

def Fin (X:Cx) (z:Bool) (rs:List ResultVar) (n0:Nat) (r:D × Heap):Ex→Env→Heap→Prop
 | .exit _,_,_=>False
 | _,e,H=>(resD X e H rs).bind (fun ds=>packR z n0 H (oneOrTup ds)) = some r

theorem fin_ret {z:Bool} {rs:List ResultVar} {r:D × Heap}:Fin X z rs n0 r .ret e H = ((resD X e H rs).bind (fun ds=>packR z n0 H (oneOrTup ds)) = some r):=rfl
theorem fin_normal {z:Bool} {rs:List ResultVar} {r:D × Heap}:Fin X z rs n0 r .normal e H = ((resD X e H rs).bind (fun ds=>packR z n0 H (oneOrTup ds)) = some r):=rfl

theorem call_run {fn:Func} {args:List D} {r:D × Heap} (hf:X.P.funcs[f]? = some fn) (hb:fn.body.isSome = true) (hbad:X.bad f = false∧X.con f args H = none)
  (h:Run X f fn.ntmps H.length (Fin X (X.fzr f) fn.results.toList H.length r) [] (code X f fn.ntmps H.length (stripC (bodyOf fn)) (argEnv 0 args) H)):call X f args H = some r:=by
 rw [code_strip] at h
 cases hbd:fn.body with
 | none=>rw [hbd] at hb;cases hb
 | some c =>
  have hc:bodyOf fn = c:=by simp only [bodyOf,hbd,Option.getD_some]
  rw [hc] at h
  rw [call_body hbad.2 hf hbd hbad.1]
  cases ho:code X f fn.ntmps H.length c (argEnv 0 args) H with
  | none=>rw [ho,run_none] at h;exact h.elim
  | some q =>
   obtain ⟨ex,e1,H1⟩:=q
   rw [ho,run_nil] at h
   cases ex with
   | exit i=>exact h.elim
   | normal =>
    rw [fin_normal] at h
    cases hr:resD X e1 H1 fn.results.toList with
    | none=>rw [hr] at h;cases h
    | some ds=>rw [hr] at h;simpa [hr] using h
   | ret =>
    rw [fin_ret] at h
    cases hr:resD X e1 H1 fn.results.toList with
    | none=>rw [hr] at h;cases h
    | some ds=>rw [hr] at h;simpa [hr] using h
end
attribute [simp] run_none run_nil run_seqn run_seqe run_seqr run_blockn run_blockr run_blocke run_seq run_block run_scope fin_ret fin_normal
end Go.Ev
namespace Go.Ev
mutual
theorem pack1_free (n0:Nat) (H:Heap) (seen:List Nat) (acc:Heap):∀ (d:D),idFree d = true→pack1 n0 H seen acc d = some (d,seen,acc)
 | .agg cs,h=>by simp only [idFree] at h;simp only [pack1,packs_free n0 H seen acc cs h,Option.map_some]
 | .tup cs,h=>by simp only [idFree] at h;simp only [pack1,packs_free n0 H seen acc cs h,Option.map_some]
 | .fn f cs,h=>by simp only [pack1,h,if_true]
 | .iface t d,h=>by simp only [pack1,h,if_true]
 | .optr ..,h=>by simp [idFree] at h
 | .osl ..,h=>by simp [idFree] at h
 | .bool _,_=>rfl
 | .int _ _,_=>rfl
 | .str _,_=>rfl
 | .nilp,_=>rfl
 | .nilf,_=>rfl
 | .nili,_=>rfl
 | .raw _,_=>rfl
 | .vptr _,_=>rfl
 | .vsl ..,_=>rfl
theorem packs_free (n0:Nat) (H:Heap) (seen:List Nat) (acc:Heap):∀ (cs:List D),idFree.idFreeL cs = true→pack1.packs n0 H seen acc cs = some (cs,seen,acc)
 | [],_=>rfl
 | d :: l,h=>by
  simp only [idFree.idFreeL,Bool.and_eq_true] at h
  simp only [pack1.packs,pack1_free n0 H seen acc d h.1,packs_free n0 H seen acc l h.2]
end
mutual
theorem shift_free (n:Nat):∀ (d:D),idFree d = true→shift n d = d
 | .agg cs,h=>by simp only [idFree] at h;simp only [shift,shiftL_free n cs h]
 | .tup cs,h=>by simp only [idFree] at h;simp only [shift,shiftL_free n cs h]
 | .fn f cs,h=>by simp only [idFree] at h;simp only [shift,shiftL_free n cs h]
 | .iface t d,h=>by simp only [idFree] at h;simp only [shift,shift_free n d h]
 | .optr ..,h=>by simp [idFree] at h
 | .osl ..,h=>by simp [idFree] at h
 | .bool _,_=>rfl
 | .int _ _,_=>rfl
 | .str _,_=>rfl
 | .nilp,_=>rfl
 | .nilf,_=>rfl
 | .nili,_=>rfl
 | .raw _,_=>rfl
 | .vptr _,_=>rfl
 | .vsl ..,_=>rfl
theorem shiftL_free (n:Nat):∀ (cs:List D),idFree.idFreeL cs = true→shift.shiftL n cs = cs
 | [],_=>rfl
 | d :: l,h=>by
  simp only [idFree.idFreeL,Bool.and_eq_true] at h
  simp only [shift.shiftL,shift_free n d h.1,shiftL_free n l h.2]
end
mutual
theorem closed_free (n:Nat):∀ (d:D),idFree d = true→closed n d = true
 | .agg cs,h=>by simp only [idFree] at h;simp only [closed,closedL_free n cs h]
 | .tup cs,h=>by simp only [idFree] at h;simp only [closed,closedL_free n cs h]
 | .fn f cs,h=>by simp only [idFree] at h;simp only [closed,closedL_free n cs h]
 | .iface t d,h=>by simp only [idFree] at h;simp only [closed,closed_free n d h]
 | .optr ..,h=>by simp [idFree] at h
 | .osl ..,h=>by simp [idFree] at h
 | .bool _,_=>rfl
 | .int _ _,_=>rfl
 | .str _,_=>rfl
 | .nilp,_=>rfl
 | .nilf,_=>rfl
 | .nili,_=>rfl
 | .raw _,_=>rfl
 | .vptr _,_=>rfl
 | .vsl ..,_=>rfl
theorem closedL_free (n:Nat):∀ (cs:List D),idFree.idFreeL cs = true→closed.closedL n cs = true
 | [],_=>rfl
 | d :: l,h=>by
  simp only [idFree.idFreeL,Bool.and_eq_true] at h
  simp only [closed.closedL,closed_free n d h.1,closedL_free n l h.2,Bool.and_self]
end
theorem freezeL_free (H:Heap):∀ (cs:List D),idFree.idFreeL cs = true→freeze.freezeL H cs = some cs
 | [],_=>rfl
 | d :: l,h=>by
  simp only [idFree.idFreeL,Bool.and_eq_true] at h
  have hd:freeze H d = some d:=by
   cases d with
   | agg cs=>have h1:=h.1;simp only [idFree] at h1;simp only [freeze,freezeL_free H cs h1,Option.map_some]
   | fn f cs=>have h1:=h.1;simp only [idFree] at h1;simp only [freeze,freezeL_free H cs h1,Option.map_some]
   | osl _ _ _ _ _=>simp [idFree] at h
   | optr _ _ _=>simp [idFree] at h
   | _=>simp only [freeze,h.1,if_true]
  simp only [freeze.freezeL,hd,freezeL_free H l h.2]
theorem idFreeL_all:∀ (cs:List D),idFree.idFreeL cs = cs.all idFree
 | []=>rfl
 | d :: l=>by simp only [idFree.idFreeL,List.all_cons,idFreeL_all l]
theorem closedL_all (n:Nat):∀ (cs:List D),closed.closedL n cs = cs.all (closed n)
 | []=>rfl
 | d :: l=>by simp only [closed.closedL,List.all_cons,closedL_all n l]
theorem idFreeL_append:∀ (a b:List D),idFree.idFreeL (a ++ b) = (idFree.idFreeL a && idFree.idFreeL b)
 | [],b=>by simp [idFree.idFreeL]
 | x :: a,b=>by simp [idFree.idFreeL,idFreeL_append a b,Bool.and_assoc]
theorem closedL_append (n:Nat):∀ (a b:List D),closed.closedL n (a ++ b) = (closed.closedL n a && closed.closedL n b)
 | [],b=>by simp [closed.closedL]
 | x :: a,b=>by simp [closed.closedL,closedL_append n a b,Bool.and_assoc]
theorem vFreeL_append:∀ (a b:List D),vFree.vFreeL (a ++ b) = (vFree.vFreeL a && vFree.vFreeL b)
 | [],b=>by simp [vFree.vFreeL]
 | x :: a,b=>by simp [vFree.vFreeL,vFreeL_append a b,Bool.and_assoc]

@[simp] theorem ofBytes_len (s:List UInt8):(ofBytes s).length = s.length:=by simp [ofBytes]
@[simp] theorem idFree_bytes (s:List UInt8):idFree.idFreeL (ofBytes s) = true:=by
 induction s with
 | nil=>rfl
 | cons a s ih=>simpa [ofBytes,idFree.idFreeL,idFree] using ih
@[simp] theorem vFree_bytes (s:List UInt8):vFree.vFreeL (ofBytes s) = true:=by
 induction s with
 | nil=>rfl
 | cons a s ih=>simpa [ofBytes,vFree.vFreeL,vFree] using ih
@[simp] theorem closedL_bytes (n:Nat) (s:List UInt8):closed.closedL n (ofBytes s) = true:=closedL_free n _ (idFree_bytes s)
@[simp] theorem all_idFree_bytes (s:List UInt8):(ofBytes s).all idFree = true:=by simp [ofBytes,idFree]
@[simp] theorem all_closed_bytes (n:Nat) (s:List UInt8):(ofBytes s).all (closed n) = true:=by simp [ofBytes,closed]
@[simp] theorem all_vFree_bytes (s:List UInt8):(ofBytes s).all vFree = true:=by simp [ofBytes,vFree]
@[simp] theorem take_bytes {s:List UInt8} {n:Nat} (h:s.length≤n):(ofBytes s).take n = ofBytes s:=List.take_of_length_le (by simpa using h)
@[simp] theorem bytes_allI (s:List UInt8):(∀ x,x∈ofBytes s→idFree x = true) = True:=eq_true (List.all_eq_true.1 (all_idFree_bytes s))
@[simp] theorem bytes_allC (s:List UInt8) (n:Nat):(∀ x,x∈ofBytes s→closed n x = true) = True:=eq_true (List.all_eq_true.1 (all_closed_bytes n s))
@[simp] theorem bytes_allV (s:List UInt8):(∀ x,x∈ofBytes s→vFree x = true) = True:=eq_true (List.all_eq_true.1 (all_vFree_bytes s))
attribute [simp] packs_free shiftL_free closedL_free freezeL_free idFreeL_append closedL_append vFreeL_append
theorem wrap_i64 {n:Int} (h:-9223372036854775808≤n∧n < 9223372036854775808):IntKind.i64.wrap n = n:=by
 simp only [IntKind.wrap,IntKind.signed,IntKind.bits];simp;omega
theorem wrap_u64 {n:Int} (h:0≤n∧n < 18446744073709551616):IntKind.u64.wrap n = n:=by
 simp only [IntKind.wrap,IntKind.signed,IntKind.bits];simp;omega
theorem wrap_u8 {n:Int} (h:0≤n∧n < 256):IntKind.u8.wrap n = n:=by
 simp only [IntKind.wrap,IntKind.signed,IntKind.bits];simp;omega
theorem wrap_u32 {n:Int} (h:0≤n∧n < 4294967296):IntKind.u32.wrap n = n:=by
 simp only [IntKind.wrap,IntKind.signed,IntKind.bits];simp;omega
theorem wrap_u16 {n:Int} (h:0≤n∧n < 65536):IntKind.u16.wrap n = n:=by
 simp only [IntKind.wrap,IntKind.signed,IntKind.bits];simp;omega
theorem wrap_i32 {n:Int} (h:-2147483648≤n∧n < 2147483648):IntKind.i32.wrap n = n:=by
 simp only [IntKind.wrap,IntKind.signed,IntKind.bits];simp;omega
theorem bv_nat {n x:Nat} (h:x < 2 ^ n):(BitVec.ofInt n (x:Int)).toNat = x:=by
 rw [BitVec.ofInt_natCast,BitVec.toNat_ofNat,Nat.mod_eq_of_lt h]
theorem wrap_nat {k:IntKind} (hk:k.signed = false) {x:Nat} (h:x < 2 ^ k.bits):k.wrap (x:Int) = (x:Int):=by
 have:((x:Int) % (2 ^ k.bits:Int)) = x:=Int.emod_eq_of_lt (by omega) (by exact_mod_cast h)
 simp only [IntKind.wrap,hk]
 simpa using this
theorem orI_nat {k:IntKind} (hk:k.signed = false) {x y:Nat} (hx:x < 2 ^ k.bits) (hy:y < 2 ^ k.bits):orI k x y = ((x ||| y:Nat):Int):=by
 unfold orI
 rw [BitVec.toNat_or,bv_nat hx,bv_nat hy,wrap_nat hk (Nat.or_lt_two_pow hx hy)]
attribute [simp] wrap_i64 wrap_u64 wrap_u8 wrap_u32 wrap_u16 wrap_i32
end Go.Ev
namespace Go.Ev
open Go Go.Proofs

def byteInts:List D→Option (List Int)
 | []=>some []
 | .int .u8 n :: l=>(byteInts l).map (n :: ·)
 | _=>none
def slb:D→Option (List Int)
 | .vsl true [] 0=>some []
 | .vsl false cs len=>if cs.length = len then byteInts cs else none
 | _=>none
def cmpExt:List D→Option D
 | [x,y]=>match slb x,slb y with
  | some a,some b=>some (.int .i64 (Extern.BytealgCompare.cmp ⟨(Lib.bytesOf a).toArray⟩ ⟨(Lib.bytesOf b).toArray⟩))
  | _,_=>none
 | _=>none

theorem byteInts_get:∀ {cs:List D} {l:List Int},byteInts cs = some l→cs.length = l.length∧∀ (j:Nat) x,l[j]? = some x→cs[j]? = some (.int .u8 x)
 | [],l,h=>by simp only [byteInts,Option.some.injEq] at h;subst h;simp
 | d :: cs,l,h=>by
  cases d with
  | int k n =>
   cases k with
   | u8 =>
    simp only [byteInts] at h
    cases hb:byteInts cs with
    | none=>simp [hb] at h
    | some l' =>
     simp only [hb,Option.map_some,Option.some.injEq] at h
     subst h
     obtain ⟨h1,h2⟩:=byteInts_get hb
     refine ⟨by simp [h1],fun j x hj=>?_⟩
     cases j with
     | zero=>simpa using hj
     | succ j=>simpa using h2 j x (by simpa using hj)
   | _=>simp [byteInts] at h
  | _=>simp [byteInts] at h

theorem slb_run {P:Program} {ok:Nat→Prop} {w:World} {ι:Iota} {H:Heap} {d:D} {v:Value} {l:List Int} (h:slb d = some l) (hr:Rep ok w ι H d v) :
  (Extern.Bytes.bytesOf v).run P w = .ok ⟨(Lib.bytesOf l).toArray⟩ w:=by
 cases hr with
 | vnil=>simp only [slb,Option.some.injEq] at h;subst h;simp [Extern.Bytes.bytesOf,Lib.bytesOf];rfl
 | vsl a f ha hc hr hf hlc =>
  rename_i ds len c
  simp only [slb] at h
  split at h
  ·rename_i hlen
   obtain ⟨h1,h2⟩:=byteInts_get h
   have:=Lib.run_loadBytesX (P:=P) w l a .empty (fun j x hj=>by
    have hd:=h2 j x hj
    rw [hr j _ hd]
    have:=hf j _ hd
    generalize f j = v at this
    cases this
    rfl)
   simp only [Extern.Bytes.bytesOf]
   rw [← hlen,h1,this]
   simp
  ·cases h
 | _=>simp [slb] at h

theorem cmpExt_run {P : Program} {f : Nat} {fn : Func} (hf : P.funcs[f]? = some fn) (hn : fn.body = none) (hng : (fn.name == "runtime.NumGoroutine") = false)
  (h1:Extern.findNext fn = none) (h2:Extern.find fn = some Extern.BytealgCompare.compare) {ok:Nat→Prop} {w:World} {ι:Iota} {H:Heap} {args:List D} {d:D} {vs:List Value}
  (h:cmpExt args = some d) (hv:RepL ok w ι H args vs):∃ v,(callFunc f vs.toArray).run P w = .ok (.value v) w∧Rep ok w ι H d v∧idFree d = true:=by
 rw [run_callFunc_extern hf hng (by rw [hn];rfl) h1 h2]
 match args,h with
 | [x,y],h =>
  simp only [cmpExt] at h
  cases hx:slb x with
  | none=>simp [hx] at h
  | some a =>
   cases hy:slb y with
   | none=>simp [hx,hy] at h
   | some b =>
    simp only [hx,hy,Option.some.injEq] at h
    subst h
    obtain ⟨u,v,rfl,hu,hv⟩:∃ u v,vs = [u,v]∧Rep ok w ι H x u∧Rep ok w ι H y v:=by
     obtain ⟨hl,hh⟩:=hv
     match vs,hl with
     | [u,v],_=>exact ⟨u,v,rfl,hh 0 x rfl,hh 1 y rfl⟩
    refine ⟨_,?_,.int .i64 _,rfl⟩
    have hc:Extern.BytealgCompare.compare [u,v].toArray = (do pure (goInt (Extern.BytealgCompare.cmp (← Extern.Bytes.bytesOf u) (← Extern.Bytes.bytesOf v)))):=rfl
    rw [hc]
    simp only [Sem.run_bind,slb_run hx hu,slb_run hy hv,Result.andThen]
    rfl

def cmpB:List UInt8→List UInt8→Int
 | [],[]=>0
 | [],_ :: _=>-1
 | _ :: _,[]=>1
 | a :: x,b :: y=>if a = b then cmpB x y else if a < b then -1 else 1

theorem ba_size (l:List UInt8):(ByteArray.mk l.toArray).size = l.length:=by
 show l.toArray.size = _
 simp
theorem ba_get (l:List UInt8) (i:Nat):(ByteArray.mk l.toArray)[i]! = (l[i]?).getD 0:=by
 by_cases h:i < l.length
 ·have h':i < (ByteArray.mk l.toArray).size:=by rw [ba_size];exact h
  rw [getElem!_pos (ByteArray.mk l.toArray) i h',List.getElem?_eq_getElem h]
  rfl
 ·have h':¬ i < (ByteArray.mk l.toArray).size:=by rw [ba_size];exact h
  rw [getElem!_neg (ByteArray.mk l.toArray) i h',List.getElem?_eq_none (by omega)]
  rfl
theorem cmp_cons (a:UInt8) (x:List UInt8) (b:UInt8) (y:List UInt8) :
  Extern.BytealgCompare.cmp ⟨(a :: x).toArray⟩ ⟨(b :: y).toArray⟩ = if a = b then Extern.BytealgCompare.cmp ⟨x.toArray⟩ ⟨y.toArray⟩ else if a < b then -1 else 1:=by
 have hs:min (ByteArray.mk (a :: x).toArray).size (ByteArray.mk (b :: y).toArray).size = min x.length y.length+1:=by
  show min (a :: x).toArray.size (b :: y).toArray.size = _
  simp only [List.size_toArray,List.length_cons]
  omega
 have hs':min (ByteArray.mk x.toArray).size (ByteArray.mk y.toArray).size = min x.length y.length:=by
  show min x.toArray.size y.toArray.size = _
  simp
 have hg:∀ (c:UInt8) (z:List UInt8) (i:Nat),(ByteArray.mk (c :: z).toArray)[i+1]! = (ByteArray.mk z.toArray)[i]!:=fun c z i=>by
  rw [ba_get,ba_get];rfl
 have hg0:∀ (c:UInt8) (z:List UInt8),(ByteArray.mk (c :: z).toArray)[0]! = c:=fun c z=>by rw [ba_get];rfl
 unfold Extern.BytealgCompare.cmp
 rw [hs,hs',List.range_succ_eq_map,List.find?_cons]
 simp only [hg0]
 by_cases hab:a = b
 ·subst hab
  simp only [bne_self_eq_false,if_true,List.find?_map,Function.comp_def,hg,Nat.succ_eq_add_one]
  cases List.find? (fun i=>(ByteArray.mk x.toArray)[i]! != (ByteArray.mk y.toArray)[i]!) (List.range (min x.length y.length)) with
  | some i=>simp only [Option.map_some,hg]
  | none =>
   have e:∀ (c:UInt8) (z:List UInt8),(ByteArray.mk (c :: z).toArray).size = (ByteArray.mk z.toArray).size+1:=fun c z=>by
    show (c :: z).toArray.size = z.toArray.size+1
    simp
   simp only [Option.map_none,e,Nat.add_lt_add_iff_right,gt_iff_lt]
 ·have:(a != b) = true:=by simp [hab]
  simp only [this,hab,if_false,hg0]

theorem cmp_eq:∀ (x y:List UInt8),Extern.BytealgCompare.cmp ⟨x.toArray⟩ ⟨y.toArray⟩ = cmpB x y
 | [],[]=>rfl
 | [],b :: y=>by
  unfold Extern.BytealgCompare.cmp
  rw [ba_size,ba_size]
  simp [cmpB]
 | a :: x,[]=>by
  unfold Extern.BytealgCompare.cmp
  rw [ba_size,ba_size]
  simp [cmpB]
 | a :: x,b :: y=>by rw [cmp_cons,cmpB,cmp_eq x y]

theorem byteInts_bytes (s:List UInt8):byteInts (ofBytes s) = some (s.map fun b=>(b.toNat:Int)):=by
 induction s with
 | nil=>rfl
 | cons a s ih=>simp only [ofBytes,List.map_cons,byteInts] at ih ⊢;rw [ih];rfl
theorem bytesOf_bytes (s:List UInt8):Lib.bytesOf (s.map fun b=>(b.toNat:Int)) = s:=by
 simp [Lib.bytesOf,Function.comp_def]
theorem cmpExt_bytes (m n:Bool) (x y:List UInt8) (hm:m = true→x = []) (hn:n = true→y = []) :
  cmpExt [.vsl m (ofBytes x) x.length,.vsl n (ofBytes y) y.length] = some (.int .i64 (cmpB x y)):=by
 have h:∀ (m:Bool) (x:List UInt8),(m = true→x = [])→slb (.vsl m (ofBytes x) x.length) = some (x.map fun b=>(b.toNat:Int)):=by
  intro m x hm
  cases m with
  | true=>rw [hm rfl];rfl
  | false=>simp [slb,byteInts_bytes]
 simp only [cmpExt,h m x hm,h n y hn,bytesOf_bytes,cmp_eq]
end Go.Ev
namespace Go.Ev
section
variable {X:Cx} {f nt n0:Nat}

structure SOp where
 dst:Option Tmp
 op:Op
 g:Option (Option Tmp × Bool)

def stripO (ops:Array Oper) (o:Oper):SOp:=⟨o.dst,o.op,match o.guard with
 | none=>none
 | some (j,want)=>some ((ops[j]?).bind (·.dst),want)⟩
def strip (ops:Array Oper):List Oper→List SOp
 | []=>[]
 | o :: l=>stripO ops o :: strip ops l

def guardS (e:Env):Option (Option Tmp × Bool)→Option Bool
 | none=>some true
 | some (none,_)=>some false
 | some (some t,want)=>match look e t with
  | some (.bool b)=>some (b == want)
  | some (.tup [])=>some false
  | _=>none

theorem guard_strip (ops:Array Oper) (e:Env) (g:Option (Nat × Bool)):guardQ ops e g = guardS e (match g with
  | none=>none
  | some (j,want)=>some ((ops[j]?).bind (·.dst),want)):=by
 cases g with
 | none=>rfl
 | some q =>
  obtain ⟨j,want⟩:=q
  simp only [guardQ,guardS]
  cases (ops[j]?).bind (·.dst) <;> rfl

def evS (X:Cx) (F:CallF) (nt:Nat) (drw:Bool):List SOp→Env→Heap→Option (Env × Heap)
 | [],e,H=>some (e,H)
 | o :: l,e,H=>match dstOk nt o.dst,guardS e o.g with
  | true,some true=>match evOpW X F drw o.op e H with
   | some (d,H')=>evS X F nt drw l (putE e o.dst d) H'
   | none=>none
  | true,some false=>evS X F nt drw l (putE e o.dst (.tup [])) H
  | _,_=>none

theorem evOps_strip {F:CallF} {drw:Bool} (ops:Array Oper):∀ (l:List Oper) (e:Env) (H:Heap),evOps X F nt drw ops l e H = evS X F nt drw (strip ops l) e H
 | [],e,H=>rfl
 | o :: l,e,H=>by
  simp only [evOps,strip,evS,guard_strip ops e o.guard]
  show _ = match dstOk nt o.dst,guardS e (stripO ops o).g with
   | true,some true=>match evOpW X F drw o.op e H with
    | some (d,H')=>evS X F nt drw (strip ops l) (putE e o.dst d) H'
    | none=>none
   | true,some false=>evS X F nt drw (strip ops l) (putE e o.dst (.tup [])) H
   | _,_=>none
  simp only [evOps_strip ops l,stripO]
  rfl

variable {Q:Ex→Env→Heap→Prop} {fs:List Fr} {e:Env} {H:Heap}

def RunS (X:Cx) (f nt n0:Nat) (Q:Ex→Env→Heap→Prop) (fs:List Fr) (drw:Bool) (l:List SOp) (e:Env) (H:Heap):Prop :=
 Run X f nt n0 Q fs ((evS X (call X) nt drw l e H).map fun (e,H)=>(.normal,e,H))
def RunK (X:Cx) (f nt n0:Nat) (Q:Ex→Env→Heap→Prop) (fs:List Fr) (drw:Bool) (l:List SOp) (e:Env) (dst:Option Tmp):Option (D × Heap)→Prop
 | none=>False
 | some (d,H)=>RunS X f nt n0 Q fs drw l (putE e dst d) H
def RunG (X:Cx) (f nt n0:Nat) (Q:Ex→Env→Heap→Prop) (fs:List Fr) (drw:Bool) (dst:Option Tmp) (op:Op) (want:Bool) (l:List SOp) (e:Env) (H:Heap):Option D→Prop
 | some (.bool b)=>if b = want then RunK X f nt n0 Q fs drw l e dst (evOpW X (call X) drw op e H) else RunS X f nt n0 Q fs drw l (putE e dst (.tup [])) H
 | some (.tup [])=>RunS X f nt n0 Q fs drw l (putE e dst (.tup [])) H
 | _=>False

theorem runS_nil {drw:Bool}:RunS X f nt n0 Q fs drw [] e H = Run X f nt n0 Q fs (some (.normal,e,H)):=rfl
theorem runS_none {drw:Bool} {dst:Option Tmp} {op:Op} {l:List SOp}:RunS X f nt n0 Q fs drw (⟨dst,op,none⟩ :: l) e H =
  (dstOk nt dst = true∧RunK X f nt n0 Q fs drw l e dst (evOpW X (call X) drw op e H)):=by
 unfold RunS
 simp only [evS,guardS]
 cases dstOk nt dst with
 | false=>simp [run_none]
 | true =>
  cases evOpW X (call X) drw op e H with
  | none=>simp [RunK,run_none]
  | some q=>simp [RunK,RunS]
theorem runS_some {drw:Bool} {dst:Option Tmp} {op:Op} {l:List SOp} {t:Tmp} {want:Bool}:RunS X f nt n0 Q fs drw (⟨dst,op,some (some t,want)⟩ :: l) e H =
  (dstOk nt dst = true∧RunG X f nt n0 Q fs drw dst op want l e H (look e t)):=by
 unfold RunS
 simp only [evS,guardS]
 cases dstOk nt dst with
 | false=>simp [run_none]
 | true =>
  cases look e t with
  | none=>simp [RunG,run_none]
  | some d =>
   cases d with
   | bool b =>
    by_cases hb:b = want
    ·subst hb
     simp only [beq_self_eq_true,RunG,if_true,true_and]
     cases evOpW X (call X) drw op e H with
     | none=>simp [RunK,run_none]
     | some q=>simp [RunK,RunS]
    ·have:(b == want) = false:=by simpa using hb
     simp [RunG,hb,this,RunS]
   | tup cs =>
    cases cs with
    | nil=>simp [RunG,RunS]
    | cons=>simp [RunG,run_none]
   | _=>simp [RunG,run_none]
theorem runK_some {drw:Bool} {dst:Option Tmp} {l:List SOp} {d:D}:RunK X f nt n0 Q fs drw l e dst (some (d,H)) = RunS X f nt n0 Q fs drw l (putE e dst d) H:=rfl
theorem runK_none {drw:Bool} {dst:Option Tmp} {l:List SOp}:RunK X f nt n0 Q fs drw l e dst none = False:=rfl
theorem runG_bool {drw:Bool} {dst:Option Tmp} {op:Op} {l:List SOp} {want b:Bool}:RunG X f nt n0 Q fs drw dst op want l e H (some (.bool b)) =
  if b = want then RunK X f nt n0 Q fs drw l e dst (evOpW X (call X) drw op e H) else RunS X f nt n0 Q fs drw l (putE e dst (.tup [])) H:=rfl
theorem runG_tup {drw:Bool} {dst:Option Tmp} {op:Op} {l:List SOp} {want:Bool}:RunG X f nt n0 Q fs drw dst op want l e H (some (.tup [])) = RunS X f nt n0 Q fs drw l (putE e dst (.tup [])) H:=rfl

def RunE (X:Cx) (f nt n0:Nat) (Q:Ex→Env→Heap→Prop) (fs:List Fr) (drw:Bool) (l:List SOp):Option (Env × Heap)→Prop
 | none=>False
 | some (e,H)=>RunS X f nt n0 Q fs drw l e H
theorem runE_some {drw:Bool} {l:List SOp}:RunE X f nt n0 Q fs drw l (some (e,H)) = RunS X f nt n0 Q fs drw l e H:=rfl
theorem run_regionF {id:Nat} {ops:Array Oper}:Run X f nt n0 Q fs (code X f nt n0 (.region id ops false) e H) = RunE X f nt n0 Q fs (X.cv f id) (strip ops ops.toList) (enter X f n0 id e H):=by
 rw [code_region]
 cases enter X f n0 id e H with
 | none=>simp [run_none,RunE]
 | some q=>simp only [RunE,RunS,evR,evOps_strip,regW]

section lp
variable {L:Pairs} {ow:List Nat}
noncomputable def evSL (X:Cx) (F:CallF) (nt:Nat) (ow:List Nat) (L:Pairs):Nat→List (Nat × Heap × Heap)→List (Nat × List Nat)→List SOp→Env→Heap→Option (Env × Heap)
 | _,_,_,[],e,H=>some (e,H)
 | k,ws,rs,o :: l,e,H=>match dstOk nt o.dst,guardS e o.g with
  | true,some true=>match evOpW X F (bwD ow o.dst) o.op e H with
   | some (d,H') =>
    @ite _ ((rIn L k = true→apartR L k (idsL (o.op.operands.toList.map (opd X e))) ws)∧(wIn L k = true→H.length≤H'.length∧apartW L k H H' rs)) (Classical.propDecidable _)
     (evSL X F nt ow L (k+1) (if wIn L k then (k,H,H') :: ws else ws) (if rIn L k then (k,idsL (o.op.operands.toList.map (opd X e))) :: rs else rs) l (putE e o.dst d) H') none
   | none=>none
  | true,some false=>evSL X F nt ow L (k+1) ws rs l (putE e o.dst (.tup [])) H
  | _,_=>none
theorem evOpsL_strip {F:CallF} (ops:Array Oper):∀ (l:List Oper) (k:Nat) (ws:List (Nat × Heap × Heap)) (rs:List (Nat × List Nat)) (e:Env) (H:Heap),evOpsL X F nt ow ops L k ws rs l e H = evSL X F nt ow L k ws rs (strip ops l) e H
 | [],k,ws,rs,e,H=>by simp only [strip,evSL,evOpsL]
 | o :: l,k,ws,rs,e,H=>by
  have ih:=evOpsL_strip (F:=F) ops l
  rw [evOpsL]
  show _ = evSL X F nt ow L k ws rs (stripO ops o :: strip ops l) e H
  rw [evSL]
  show _ = match dstOk nt o.dst,guardS e (stripO ops o).g with
   | true,some true=>match evOpW X F (bwD ow o.dst) o.op e H with
    | some (d,H') =>
     @ite _ ((rIn L k = true→apartR L k (idsL (o.op.operands.toList.map (opd X e))) ws)∧(wIn L k = true→H.length≤H'.length∧apartW L k H H' rs)) (Classical.propDecidable _)
      (evSL X F nt ow L (k+1) (if wIn L k then (k,H,H') :: ws else ws) (if rIn L k then (k,idsL (o.op.operands.toList.map (opd X e))) :: rs else rs) (strip ops l) (putE e o.dst d) H') none
    | none=>none
   | true,some false=>evSL X F nt ow L (k+1) ws rs (strip ops l) (putE e o.dst (.tup [])) H
   | _,_=>none
  have h3:guardS e (stripO ops o).g = guardQ ops e o.guard:=(guard_strip ops e o.guard).symm
  rw [h3]
  cases hd:dstOk nt o.dst with
  | false=>simp only
  | true =>
   cases hg:guardQ ops e o.guard with
   | none=>simp only
   | some b =>
    cases b with
    | false=>simp only [ih]
    | true =>
     cases ho:evOpW X F (bwD ow o.dst) o.op e H with
     | none=>simp only
     | some q =>
      obtain ⟨d,H1⟩:=q
      simp only
      by_cases hc:(rIn L k = true→apartR L k (idsL (o.op.operands.toList.map (opd X e))) ws)∧(wIn L k = true→H.length≤H1.length∧apartW L k H H1 rs)
      ·rw [if_pos hc,if_pos hc]
       exact ih _ _ _ _ _
      ·rw [if_neg hc,if_neg hc]
def RunSL (X:Cx) (f nt n0:Nat) (Q:Ex→Env→Heap→Prop) (fs:List Fr) (ow:List Nat) (L:Pairs) (k:Nat) (ws:List (Nat × Heap × Heap)) (rs:List (Nat × List Nat)) (l:List SOp) (e:Env) (H:Heap):Prop :=
 Run X f nt n0 Q fs ((evSL X (call X) nt ow L k ws rs l e H).map fun (e,H)=>(.normal,e,H))
def RunKL (X:Cx) (f nt n0:Nat) (Q:Ex→Env→Heap→Prop) (fs:List Fr) (ow:List Nat) (L:Pairs) (k:Nat) (ws:List (Nat × Heap × Heap)) (rs:List (Nat × List Nat)) (bs:List Nat) (l:List SOp) (e:Env) (dst:Option Tmp) (H:Heap):Option (D × Heap)→Prop
 | none=>False
 | some (d,H')=>(rIn L k = true→apartR L k bs ws)∧(wIn L k = true→H.length≤H'.length∧apartW L k H H' rs) ∧
   RunSL X f nt n0 Q fs ow L (k+1) (if wIn L k then (k,H,H') :: ws else ws) (if rIn L k then (k,bs) :: rs else rs) l (putE e dst d) H'
def RunGL (X:Cx) (f nt n0:Nat) (Q:Ex→Env→Heap→Prop) (fs:List Fr) (ow:List Nat) (L:Pairs) (k:Nat) (ws:List (Nat × Heap × Heap)) (rs:List (Nat × List Nat)) (bs:List Nat) (dst:Option Tmp) (op:Op) (want:Bool) (l:List SOp) (e:Env) (H:Heap):Option D→Prop
 | some (.bool b)=>if b = want then RunKL X f nt n0 Q fs ow L k ws rs bs l e dst H (evOpW X (call X) (bwD ow dst) op e H) else RunSL X f nt n0 Q fs ow L (k+1) ws rs l (putE e dst (.tup [])) H
 | some (.tup [])=>RunSL X f nt n0 Q fs ow L (k+1) ws rs l (putE e dst (.tup [])) H
 | _=>False
variable {k:Nat} {ws:List (Nat × Heap × Heap)} {rs:List (Nat × List Nat)}
theorem runSL_nil:RunSL X f nt n0 Q fs ow L k ws rs [] e H = Run X f nt n0 Q fs (some (.normal,e,H)):=by unfold RunSL;simp only [evSL];rfl
theorem runKL_eq {dst:Option Tmp} {op:Op} {l:List SOp}:Run X f nt n0 Q fs (Option.map (fun (e,H)=>(Ex.normal,e,H)) (match evOpW X (call X) (bwD ow dst) op e H with
   | some (d,H') =>
    @ite _ ((rIn L k = true→apartR L k (idsL (op.operands.toList.map (opd X e))) ws)∧(wIn L k = true→H.length≤H'.length∧apartW L k H H' rs)) (Classical.propDecidable _)
     (evSL X (call X) nt ow L (k+1) (if wIn L k then (k,H,H') :: ws else ws) (if rIn L k then (k,idsL (op.operands.toList.map (opd X e))) :: rs else rs) l (putE e dst d) H') none
   | none=>none)) = RunKL X f nt n0 Q fs ow L k ws rs (idsL (op.operands.toList.map (opd X e))) l e dst H (evOpW X (call X) (bwD ow dst) op e H):=by
 cases evOpW X (call X) (bwD ow dst) op e H with
 | none=>simp [RunKL,run_none]
 | some q =>
  obtain ⟨d,H1⟩:=q
  simp only [RunKL,RunSL]
  by_cases hc:(rIn L k = true→apartR L k (idsL (op.operands.toList.map (opd X e))) ws)∧(wIn L k = true→H.length≤H1.length∧apartW L k H H1 rs)
  ·rw [if_pos hc]
   exact propext ⟨fun h=>⟨hc.1,hc.2,h⟩,fun h=>h.2.2⟩
  ·rw [if_neg hc]
   simp only [Option.map_none,run_none]
   exact propext ⟨fun h=>h.elim,fun h=>hc ⟨h.1,h.2.1⟩⟩
theorem runSL_none {dst:Option Tmp} {op:Op} {l:List SOp}:RunSL X f nt n0 Q fs ow L k ws rs (⟨dst,op,none⟩ :: l) e H =
  (dstOk nt dst = true∧RunKL X f nt n0 Q fs ow L k ws rs (idsL (op.operands.toList.map (opd X e))) l e dst H (evOpW X (call X) (bwD ow dst) op e H)):=by
 rw [← runKL_eq]
 unfold RunSL
 simp only [evSL,guardS]
 cases dstOk nt dst with
 | false=>simp [run_none]
 | true=>simp
theorem runSL_some {dst:Option Tmp} {op:Op} {l:List SOp} {t:Tmp} {want:Bool}:RunSL X f nt n0 Q fs ow L k ws rs (⟨dst,op,some (some t,want)⟩ :: l) e H =
  (dstOk nt dst = true∧RunGL X f nt n0 Q fs ow L k ws rs (idsL (op.operands.toList.map (opd X e))) dst op want l e H (look e t)):=by
 unfold RunSL
 simp only [evSL,guardS]
 cases dstOk nt dst with
 | false=>simp [run_none]
 | true =>
  cases look e t with
  | none=>simp [RunGL,run_none]
  | some d =>
   cases d with
   | bool b =>
    by_cases hb:b = want
    ·subst hb
     simp only [beq_self_eq_true,RunGL,if_true,true_and]
     rw [← runKL_eq]
    ·have:(b == want) = false:=by simpa using hb
     simp [RunGL,hb,this,RunSL]
   | tup cs =>
    cases cs with
    | nil=>simp [RunGL,RunSL]
    | cons=>simp [RunGL,run_none]
   | _=>simp [RunGL,run_none]
theorem runKL_some {dst:Option Tmp} {l:List SOp} {d:D} {bs:List Nat} {H':Heap}:RunKL X f nt n0 Q fs ow L k ws rs bs l e dst H (some (d,H')) = ((rIn L k = true→apartR L k bs ws)∧(wIn L k = true→H.length≤H'.length∧apartW L k H H' rs) ∧
   RunSL X f nt n0 Q fs ow L (k+1) (if wIn L k then (k,H,H') :: ws else ws) (if rIn L k then (k,bs) :: rs else rs) l (putE e dst d) H'):=rfl
theorem runKL_none {dst:Option Tmp} {l:List SOp} {bs:List Nat}:RunKL X f nt n0 Q fs ow L k ws rs bs l e dst H none = False:=rfl
theorem runGL_bool {dst:Option Tmp} {op:Op} {l:List SOp} {want b:Bool} {bs:List Nat}:RunGL X f nt n0 Q fs ow L k ws rs bs dst op want l e H (some (.bool b)) =
  if b = want then RunKL X f nt n0 Q fs ow L k ws rs bs l e dst H (evOpW X (call X) (bwD ow dst) op e H) else RunSL X f nt n0 Q fs ow L (k+1) ws rs l (putE e dst (.tup [])) H:=rfl
theorem runGL_tup {dst:Option Tmp} {op:Op} {l:List SOp} {want:Bool} {bs:List Nat}:RunGL X f nt n0 Q fs ow L k ws rs bs dst op want l e H (some (.tup [])) = RunSL X f nt n0 Q fs ow L (k+1) ws rs l (putE e dst (.tup [])) H:=rfl
def RunR (X:Cx) (f nt n0:Nat) (Q:Ex→Env→Heap→Prop) (fs:List Fr) (drw:Bool):Option (Pairs × List Nat)→List SOp→Option (Env × Heap)→Prop
 | none,l,o=>RunE X f nt n0 Q fs drw l o
 | some (L,ow),l,some (e,H)=>RunSL X f nt n0 Q fs ow L 0 [] [] l e H
 | _,_,none=>False
theorem runR_nil {drw:Bool} {l:List SOp} {o:Option (Env × Heap)}:RunR X f nt n0 Q fs drw none l o = RunE X f nt n0 Q fs drw l o:=rfl
theorem runR_cons {drw:Bool} {l:List SOp}:RunR X f nt n0 Q fs drw (some (L,ow)) l (some (e,H)) = RunSL X f nt n0 Q fs ow L 0 [] [] l e H:=rfl
end lp
theorem run_regionT {id:Nat} {ops:Array Oper}:Run X f nt n0 Q fs (code X f nt n0 (.region id ops true) e H) = RunR X f nt n0 Q fs (!ownL ops.toList) (X.lp f id) (strip ops ops.toList) (enter X f n0 id e H):=by
 rw [code_region]
 cases hen:enter X f n0 id e H with
 | none=>cases hlp:X.lp f id <;> simp [run_none,RunE,RunR]
 | some q=>cases hlp:X.lp f id <;> simp only [RunE,RunS,RunR,RunSL,evR,hlp,evOps_strip,evOpsL_strip,regW]
theorem strip_cons (ops:Array Oper) (dst:Option Tmp) (op:Op) (ty:TypeId) (pos:String) (af:Array Edge) (l:List Oper):strip ops ({ dst:=dst,op:=op,type:=ty,pos:=pos,after:=af,guard:=none } :: l) = ⟨dst,op,none⟩ :: strip ops l:=rfl
theorem strip_consG (ops:Array Oper) (dst:Option Tmp) (op:Op) (ty:TypeId) (pos:String) (af:Array Edge) (j:Nat) (want:Bool) (l:List Oper) :
  strip ops ({ dst:=dst,op:=op,type:=ty,pos:=pos,after:=af,guard:=some (j,want) } :: l) = ⟨dst,op,some ((ops[j]?).bind (·.dst),want)⟩ :: strip ops l:=rfl
theorem strip_nil (ops:Array Oper):strip ops [] = []:=rfl
end
attribute [simp] bwD Op.operands Call.operands idsL topId wIn rIn apartR apartW runSL_nil runSL_none runSL_some runKL_some runKL_none runGL_bool runGL_tup runR_nil runR_cons runS_nil runS_none runS_some runK_some runK_none runG_bool runG_tup runE_some run_regionF run_regionT ownL isApp strip_cons strip_consG strip_nil
end Go.Ev
namespace Go.Ev
@[simp] theorem app_get (H L:Heap) (k:Nat):(H ++ L)[H.length+k]? = L[k]?:=by rw [List.getElem?_append_right (Nat.le_add_right _ _),Nat.add_sub_cancel_left]
@[simp] theorem app_get0 (H L:Heap):(H ++ L)[H.length]? = L[0]?:=app_get H L 0
@[simp] theorem app_set (H L:Heap) (k:Nat) (x:Option (List D)):(H ++ L).set (H.length+k) x = H ++ L.set k x:=by
 rw [List.set_append_right _ _ (Nat.le_add_right _ _),Nat.add_sub_cancel_left]
@[simp] theorem app_set0 (H L:Heap) (x:Option (List D)):(H ++ L).set H.length x = H ++ L.set 0 x:=app_set H L 0 x
end Go.Ev
namespace Go.Ev
open Go Go.Proofs Go.ChangeShapes Go.WideShapes Go.ChangeAt Go.RowKit

theorem post_below {H:Type} {enc:TypeId × Value→H} {P:Program} {f:Func} {s:ChangeSpec} {apart fresh handsOn again:Bool} {W W':World} {args:Array Value} {v:Value} {ds gs:List (DataW H)} {before pa pv:List MemPlace}
  (hW:DataW.Whole enc P f.params.toList s.vars apart W args.toList ds gs before)
  (hres:∀ (b:Nat) (sp:Nat→Bool) (hd:Bool),DataW.TrodAll enc P W' b sp hd f.resultTypes.toList (v.resultList f.resultTypes.size) (s.fn H (ds ++ gs)).results [])
  (hargs:∀ sp:Nat→Bool,(∀ p∈before,sp p.block = true)→DataW.TrodAll enc P W' 0 sp true f.params.toList args.toList (s.fn H (ds ++ gs)).args pa)
  (hvars:∀ sp:Nat→Bool,(∀ p∈before,sp p.block = true)→DataW.TrodVars enc P W' sp s.vars (s.fn H (ds ++ gs)).vars pv)
  (hps:before = pa ++ pv) (hb:Below W.heap.size W W')
  (hok:∀ (j:Nat) (t:TypeId) (r:Value),f.resultTypes[j]? = some t→(v.resultList f.resultTypes.size)[j]? = some r→Value.okWide P W' .any 0 t r) :
  s.post enc P f apart fresh handsOn again W args v W':=by
 have hlt:∀ p∈before,p.block < W.heap.size:=fun p hp=>hW.lt p hp
 have hold:∀ p∈before,(fun b=>decide (b < W.heap.size)) p.block = true:=fun p hp=>by simpa using hlt p hp
 refine ⟨ds,gs,before,[],pa,pv,hW,hres _ _ _,hargs _ hold,hvars _ hold,World.keptBut_mono (fun p hp=>⟨hp,?_⟩) (hb.frame (·∈before)),fun _=>?_⟩
 ·rw [hps,List.mem_append] at hp
  exact Or.inr hp
 ·obtain ⟨_,_,_,_,_,hz,hn⟩:=hW
  refine ⟨hok,_,_,([] ++ pa) ++ pv,⟨[] ++ pa,pv,trodAll_append (hargs _ (fun _ _=>rfl)) (hres _ _ _),hvars _ (fun _ _=>rfl),rfl,?_,?_⟩,?_⟩
  ·intro b off hp
   have hin:MemPlace.cell b off∈before:=by rw [hps];simpa using hp
   rw [hb.frozen (hlt _ hin)]
   exact hz b off hin
  ·intro ha
   have:=hn ha
   rw [hps] at this
   simpa using this
  ·intro p hp _
   rw [hps]
   simpa using hp

theorem trodAll_stays {H:Type} {enc:TypeId × Value→H} {P:Program} (hl:laidOutB P = true) {W W':World} {sp:Nat→Bool} (hb:Below W.heap.size W W') :
  ∀ {ts:List TypeId} {vs:List Value} {ds:List (DataW H)} {ps:List MemPlace},(ts.all fun t=>P.readableRec t && decide (t < P.types.size)) = true →
   DataW.TrodAll enc P W 0 (fun _=>true) true ts vs ds ps→(∀ p∈ps,p.block < W.heap.size)→(∀ p∈ps,sp p.block = true)→DataW.TrodAll enc P W' 0 sp true ts vs ds ps
 | [],[],[],_,_,h,_,_=>h
 | _ :: _,_ :: _,_ :: _,_,ht,⟨p,q,h1,h2,e⟩,hlt,hs=>by
  simp only [List.all_cons,Bool.and_eq_true,decide_eq_true_eq] at ht
  subst e
  exact ⟨p,q,WideElems.Trod_stays hl ht.1.1 ht.1.2 h1 (fun x hx=>hb.same (hlt x (List.mem_append_left _ hx))) (fun x hx=>hs x (List.mem_append_left _ hx)),
   trodAll_stays hl hb (by simpa using ht.2) h2 (fun x hx=>hlt x (List.mem_append_right _ hx)) (fun x hx=>hs x (List.mem_append_right _ hx)),rfl⟩

theorem law_step {H:Type} {enc:TypeId × Value→H} {X:Cx} (hG:Good X) (hl:laidOutB X.P = true) {f:Nat} {fn:Func} {tb:TypeId} (hf:X.P.funcs[f]? = some fn) (hbd:fn.body.isSome = true)
  (hres:fn.resultTypes = #[tb]) (htb:X.P.underlying tb = some .bool) (hpar:(fn.params.toList.all fun t=>X.P.readableRec t && decide (t < X.P.types.size)) = true)
  {s:ChangeSpec} (hvr:s.vars = []) {W:World} {args:Array Value} {ds gs:List (DataW H)} {before:List MemPlace}
  (hglob:∀ g cs,X.glob g = some cs→Rep (· < W.heap.size) W iota0 [] (.vptr cs) (.pointer (some ⟨g,0,none⟩)))
  (hW:DataW.Whole enc X.P fn.params.toList s.vars false W args.toList ds gs before) (hs:(s.fn H (ds ++ gs)).results = [.lit (.bool true)]∧(s.fn H (ds ++ gs)).args = ds∧(s.fn H (ds ++ gs)).vars = [])
  {dd:List D} {L:Heap} (hr:RepL (· < W.heap.size) W iota0 [] dd args.toList) (hc:call X f dd [] = some (.bool true,L)) :
  Calls X.P f args W fun e W'=>∃ v,e = .returned v∧s.post enc X.P fn false true false false W args v W':=by
 have hsim:Sim X (· < W.heap.size) W iota0 []:=⟨fun b hb=>hb,hglob,fun i j ds es b s s' hd=>by simp [hget] at hd,fun i ds hd=>by simp [hget] at hd⟩
 have hgo:=call_sound hG f dd [] _ _ _ W iota0 args.toList hc hsim hr
 obtain ⟨c,hb⟩:=Option.isSome_iff_exists.1 hbd
 have henter:(callFunc f args.toList.toArray).run X.P W = .ok (.enter f args.toList.toArray) W:=Go.Proofs.enters_of hf (hG.ng f fn hf) (by rw [hb]) _ _
 unfold Goes at hgo
 rw [henter] at hgo
 simp only [Array.toArray_toList] at hgo
 refine hgo.mono ?_
 rintro e W' ⟨v,rfl,ι',ok',_,hrep,hev,_⟩
 refine ⟨v,rfl,?_⟩
 cases hrep
 have hbel:Below W.heap.size W W':=⟨hev.os,hev.tape,hev.output,hev.size,fun b hb=>hev.frame b hb (fun i ds s hd=>by simp [hget] at hd)⟩
 have hW':=hW
 obtain ⟨p,q,hA,hV,rfl,hfz,hnd⟩:=hW
 rw [hvr] at hV
 obtain ⟨rfl,rfl⟩:=trodVars_none hV
 refine post_below (pa:=p) (pv:=[]) hW' (fun b sp hd=>?_) (fun sp hsp=>?_) (fun sp _=>?_) rfl hbel ?_
 ·rw [hs.1,hres]
  exact trodAll_cons_mk (shut_bool htb _) trodAll_mk0
 ·rw [hs.2.1]
  exact trodAll_stays hl hbel hpar hA (fun x hx=>hW'.lt x (List.mem_append_left _ hx)) (fun x hx=>hsp x (List.mem_append_left _ hx))
 ·rw [hs.2.2,hvr]
  rfl
 ·rw [hres]
  intro j t r hj hv
  cases j with
  | zero =>
   simp only [List.size_toArray,List.length_cons,List.length_nil] at hj hv
   injection hj with hj
   subst hj
   have:r = .bool true:=by
    simp only [Value.resultList] at hv
    simpa using hv.symm
   subst this
   exact okWide_bool_mk htb _
  | succ j=>simp at hj
end Go.Ev
namespace Go.Ev
open Go Go.Proofs Go.ChangeShapes Go.WideShapes Go.ChangeAt Go.RowKit
def intsK (k:IntKind) (l:List Int):List D:=l.map (.int k ·)
theorem read_ints {H:Type} {enc:TypeId × Value→H} {P:Program} {W:World} {t e:TypeId} {k:IntKind} {v:Value} {d:DataW H} {ps:List MemPlace} {base:Nat} (ht:P.underlying t = some (.slice e)) (he:P.underlying e = some (.int k)) (hc:P.cellsOf e = 1)
  (hv:Value.okWide P W .any base t v) (h:DataW.Trod enc P W 0 (fun _=>true) true t v d ps) :
  ∃ (nil:Bool) (zs:List Int),Rep (· < W.heap.size) W iota0 [] (.vsl nil (intsK k zs) zs.length) v∧(nil = true→zs = [])∧(∀ n∈zs,(Lit.int k n).wf = true)∧zs.length < 9223372036854775808:=by
 obtain ⟨n,hn⟩:=h
 obtain ⟨a0,len0,cap0,rfl⟩:=okWide_slice ht hv
 rcases open_ints ht he hc hn with ⟨hcs,hx⟩ | ⟨a,len,cap,zs,hcs,hb,hl,hm,hz,hx,hcell,hwf⟩
 ·simp only [Value.cells,List.cons.injEq,and_true] at hcs
  rw [hcs]
  exact ⟨true,[],.vnil,fun _=>rfl,by simp,by decide⟩
 ·simp only [Value.cells,List.cons.injEq,and_true] at hcs
  rw [hcs] at hv ⊢
  simp only [if_true] at hz
  have hlen:(zs.take len).length = len:=by rw [List.length_take];omega
  have hblk:a.block < W.heap.size:=by
   simp only [Value.okWide,ht,Cell.okWide,Cell.ok] at hv
   obtain ⟨_,_,_,_,row,cells,hs,_⟩:=hv
   unfold World.shape? at hs
   rcases Nat.lt_or_ge a.block W.heap.size with h | h
   ·exact h
   ·rw [Array.getElem?_eq_none h] at hs
    simp at hs
  refine ⟨false,zs.take len,?_,by simp,fun n hn=>hwf n (List.mem_of_mem_take hn),by rw [hlen];unfold maxLen at hm;omega⟩
  rw [hlen]
  refine .vsl a (fun j=>.int k (zs.getD j 0)) (fun _ _=>hblk) (fun d hd=>?_) (fun j d hj=>?_) (fun j d hj=>?_) hl
  ·simp only [intsK,List.mem_map] at hd
   obtain ⟨n,_,rfl⟩:=hd
   rfl
  ·have hjl:j < len:=by
    have:=(List.getElem?_eq_some_iff.1 hj).1
    simp [intsK] at this
    omega
   exact hcell j (by omega)
  ·have hjl:j < len:=by
    have:=(List.getElem?_eq_some_iff.1 hj).1
    simp [intsK] at this
    omega
   have:d = .int k (zs.getD j 0):=by
    simp only [intsK,List.getElem?_map,List.getElem?_take_of_lt hjl] at hj
    have hzl:j < zs.length:=by omega
    rw [List.getElem?_eq_getElem hzl] at hj
    simp only [Option.map_some,Option.some.injEq] at hj
    rw [← hj,List.getD_eq_getElem?_getD,List.getElem?_eq_getElem hzl]
    rfl
   rw [this]
   exact .int _ _
end Go.Ev
namespace Go.Ev
open Go Go.Proofs
def okOne (X:Cx) (n:Nat):Bool:=match X.P.funcs[n]? with
 | some fn => (fn.name != "runtime.NumGoroutine") && match fn.body with
  | some c=>X.bad n || okCode X n c
  | none=>true
 | none=>true
def okRange (X:Cx) (a:Nat):Nat→Bool
 | 0=>true
 | k+1=>okRange X a k && okOne X (a+k)
theorem okRange_get {X:Cx} {a:Nat}:∀ {k:Nat},okRange X a k = true→∀ {f:Nat},a≤f→f < a+k→okOne X f = true
 | 0,_,f,h1,h2=>by omega
 | k+1,h,f,h1,h2=>by
  simp only [okRange,Bool.and_eq_true] at h
  by_cases hf:f = a+k
  ·rw [hf];exact h.2
  ·exact okRange_get h.1 h1 (by omega)
theorem okOne_get {X : Cx} {f : Nat} {fn : Func} (h : okOne X f = true) (hfn : X.P.funcs[f]? = some fn) : (fn.name == "runtime.NumGoroutine") = false ∧ ∀ c, fn.body = some c → X.bad f = false → okCode X f c = true := by
 simp only [okOne,hfn,Bool.and_eq_true,bne_iff_ne,ne_eq] at h
 refine ⟨by simpa using h.1,fun c hc hb=>?_⟩
 have h3:=h.2
 simpa [hc,hb] using h3
end Go.Ev
namespace Go.Ev
open Go Go.Proofs
class Enc (α:Type) where
 size:Nat
 cells:α→List D
 len:∀ a,(cells a).length = size
 free:∀ a,(cells a).all idFree = true
section
variable {α:Type} [Enc α]
def encs (l:List α):List D:=(l.map Enc.cells).flatten
@[simp] theorem cells_idFree (a:α):(Enc.cells a).all idFree = true:=Enc.free a
@[simp] theorem cells_idFreeL (a:α):idFree.idFreeL (Enc.cells a) = true:=by rw [idFreeL_all];exact Enc.free a
@[simp] theorem cells_closed (n:Nat) (a:α):(Enc.cells a).all (closed n) = true:=by
 rw [← closedL_all];exact closedL_free n _ (cells_idFreeL a)
@[simp] theorem cells_closedL (n:Nat) (a:α):closed.closedL n (Enc.cells a) = true:=closedL_free n _ (cells_idFreeL a)
@[simp] theorem cells_aI (a:α):(∀ x,x∈Enc.cells a→idFree x = true) = True:=eq_true (List.all_eq_true.1 (cells_idFree a))
@[simp] theorem cells_aC (n:Nat) (a:α):(∀ x,x∈Enc.cells a→closed n x = true) = True:=eq_true (List.all_eq_true.1 (cells_closed n a))
@[simp] theorem encs_nil:encs ([]:List α) = []:=rfl
theorem encs_cons (a:α) (l:List α):encs (a :: l) = Enc.cells a ++ encs l:=rfl
theorem encs_one (a:α):encs [a] = Enc.cells a:=by simp [encs]
theorem encs_append (a b:List α):encs (a ++ b) = encs a ++ encs b:=by simp [encs]
theorem encs_snoc (l:List α) (a:α):encs (l ++ [a]) = encs l ++ Enc.cells a:=by rw [encs_append,encs_one]
theorem encs_len (l:List α):(encs l).length = l.length * Enc.size α:=by
 induction l with
 | nil=>simp
 | cons a l ih=>rw [encs_cons,List.length_append,Enc.len,ih,List.length_cons,Nat.add_mul,Nat.one_mul];omega
theorem encs_len' {n:Nat} (hn:n = Enc.size α) (l:List α):(encs l).length = l.length * n:=by rw [hn,encs_len]
theorem encs_drop {n:Nat} (hn:n = Enc.size α):∀ (l:List α) (i:Nat),(encs l).drop (i * n) = encs (l.drop i)
 | [],i=>by simp
 | a :: l,0=>by simp
 | a :: l,i+1=>by
  have hd:(i+1) * n = n+i * n:=by rw [Nat.add_mul,Nat.one_mul,Nat.add_comm]
  rw [encs_cons,hd,← List.drop_drop,List.drop_left' (by rw [Enc.len,hn]),List.drop_succ_cons,encs_drop hn l i]
theorem encs_take {n:Nat} (hn:n = Enc.size α):∀ (l:List α) (i:Nat),(encs l).take (i * n) = encs (l.take i)
 | [],i=>by simp
 | a :: l,0=>by simp
 | a :: l,i+1=>by
  have hd:(i+1) * n = n+i * n:=by rw [Nat.add_mul,Nat.one_mul,Nat.add_comm]
  have hl:(Enc.cells a).length = n:=by rw [Enc.len,hn]
  rw [encs_cons,hd,← hl,List.take_append,List.take_of_length_le (Nat.le_add_right _ _),Nat.add_sub_cancel_left,hl,encs_take hn l i,List.take_succ_cons,encs_cons]
theorem encs_at {n:Nat} (hn:n = Enc.size α) {l:List α} {i:Nat} (hi:i < l.length):(encs l).drop (i * n) = Enc.cells l[i] ++ encs (l.drop (i+1)):=by
 rw [encs_drop hn,List.drop_eq_getElem_cons hi,encs_cons]
theorem encs_at0 {l:List α} (hi:0 < l.length):encs l = Enc.cells l[0] ++ encs (l.drop 1):=by
 have:=encs_at (n:=Enc.size α) rfl hi
 rwa [Nat.zero_mul,List.drop_zero] at this
theorem cells_take {n:Nat} (hn:n = Enc.size α) (a:α) (r:List D):(Enc.cells a ++ r).take n = Enc.cells a:=List.take_left' (by rw [Enc.len,hn])
theorem cells_take' {n:Nat} (hn:n = Enc.size α) (a:α):(Enc.cells a).take n = Enc.cells a:=List.take_of_length_le (by rw [Enc.len,hn];exact Nat.le_refl _)
theorem cells_drop {n:Nat} (hn:n = Enc.size α) (a:α) (r:List D):(Enc.cells a ++ r).drop n = r:=List.drop_left' (by rw [Enc.len,hn])
theorem encs_set {n:Nat} (hn:n = Enc.size α) (m:α):∀ (l:List α) {j:Nat},j < l.length→setRange (encs l) (j * n) (Enc.cells m) = encs (l.set j m)
 | [],j,hj=>by simp at hj
 | a :: l,j,hj=>by
  have ha:(Enc.cells a).length = n:=by rw [Enc.len,hn]
  have hm:(Enc.cells m).length = n:=by rw [Enc.len,hn]
  cases j with
  | zero =>
   simp only [setRange,Nat.zero_mul,List.take_zero,List.nil_append,Nat.zero_add,hm,List.set_cons_zero,encs_cons]
   rw [List.drop_left' ha]
  | succ j =>
   have ih:=encs_set hn m l (j:=j) (by simpa using hj)
   have e1:(j+1) * n = n+j * n:=by rw [Nat.add_mul,Nat.one_mul,Nat.add_comm]
   simp only [setRange,hm] at ih ⊢
   rw [List.set_cons_succ,encs_cons,encs_cons,← ih,e1,Nat.add_assoc,← List.drop_drop,List.drop_left' ha,← ha,List.take_append,List.take_of_length_le (Nat.le_add_right _ _),Nat.add_sub_cancel_left]
   simp
@[simp] theorem encs_idFree (l:List α):(encs l).all idFree = true:=by
 induction l with
 | nil=>rfl
 | cons a l ih=>rw [encs_cons,List.all_append,ih,cells_idFree];rfl
@[simp] theorem encs_idFreeL (l:List α):idFree.idFreeL (encs l) = true:=by rw [idFreeL_all];exact encs_idFree l
@[simp] theorem encs_closed (n:Nat) (l:List α):(encs l).all (closed n) = true:=by
 rw [← closedL_all];exact closedL_free n _ (encs_idFreeL l)
@[simp] theorem encs_closedL (n:Nat) (l:List α):closed.closedL n (encs l) = true:=closedL_free n _ (encs_idFreeL l)
@[simp] theorem encs_aI (l:List α):(∀ x,x∈encs l→idFree x = true) = True:=eq_true (List.all_eq_true.1 (encs_idFree l))
@[simp] theorem encs_aC (n:Nat) (l:List α):(∀ x,x∈encs l→closed n x = true) = True:=eq_true (List.all_eq_true.1 (encs_closed n l))
structure Sl (α:Type) where
 nil:Bool
 l:List α
 h:nil = true→l = []
omit [Enc α] in
theorem Sl.nn {s:Sl α} {i:Nat} (h:i < s.l.length):s.nil = false:=by
 cases hn:s.nil with
 | false=>rfl
 | true=>rw [s.h hn] at h;simp at h
end
def Sl.of {α:Type} (l:List α):Sl α:=⟨false,l,by simp⟩
def Sl.none {α:Type}:Sl α:=⟨true,[],by simp⟩
@[simp] theorem Sl.of_l {α:Type} (l:List α):(Sl.of l).l = l:=rfl
@[simp] theorem Sl.of_nil {α:Type} (l:List α):(Sl.of l).nil = false:=rfl
@[simp] theorem Sl.none_l {α:Type}:(Sl.none:Sl α).l = []:=rfl
@[simp] theorem Sl.none_nil {α:Type}:(Sl.none:Sl α).nil = true:=rfl
theorem stay_free {H:Heap} {n:Nat} {d:D} (h:idFree d = true):stay H (n+1) d = some (d,[]):=by
 unfold stay
 rw [if_pos h]
theorem stayL_free {H:Heap} {n:Nat}:∀ {l:List D},idFree.idFreeL l = true→stayL (stay H (n+1)) l = some (l,[])
 | [],_=>rfl
 | d :: l,h=>by
  simp only [idFree.idFreeL,Bool.and_eq_true] at h
  simp only [stayL,stay_free h.1,stayL_free h.2,List.append_nil]
theorem stayL_append {g:D→Option (D × List Nat)}:∀ (a b:List D),stayL g (a ++ b) = match stayL g a,stayL g b with
  | some (x,p),some (y,q)=>some (x ++ y,p ++ q)
  | _,_=>none
 | [],b=>by
  simp only [List.nil_append,stayL]
  cases stayL g b with
  | none=>rfl
  | some q=>obtain ⟨y,q⟩:=q;rfl
 | d :: a,b=>by
  simp only [List.cons_append,stayL,stayL_append a b]
  cases g d with
  | none=>rfl
  | some r =>
   obtain ⟨r,i⟩:=r
   cases stayL g a with
   | none=>rfl
   | some p =>
    obtain ⟨x,p⟩:=p
    cases stayL g b with
    | none=>rfl
    | some q=>obtain ⟨y,q⟩:=q;simp
theorem stayL_free8 {H:Heap} {l:List D} (h:idFree.idFreeL l = true):stayL (stay H 8) l = some (l,[]):=stayL_free h
theorem stayL_free7 {H:Heap} {l:List D} (h:idFree.idFreeL l = true):stayL (stay H 7) l = some (l,[]):=stayL_free h
attribute [simp] stayL_append stayL_free8 stayL_free7
theorem run_loop1 {X:Cx} {f nt n0:Nat} {Q:Ex→Env→Heap→Prop} {fs:List Fr} {e:Env} {H:Heap} {c:Code} (h:Run X f nt n0 (fun ex e H=>ex≠.normal∧Run X f nt n0 Q fs (some (ex,e,H))) [] (code X f nt n0 c e H)) :
  Run X f nt n0 Q fs (code X f nt n0 (.loop c) e H):=by
 rw [code_loop]
 cases ho:code X f nt n0 c e H with
 | none=>rw [ho,run_none] at h;exact h.elim
 | some q =>
  obtain ⟨ex,e1,H1⟩:=q
  rw [ho,run_nil] at h
  cases ex with
  | normal=>exact absurd rfl h.1
  | exit i=>exact h.2
  | ret=>exact h.2
theorem Run.loopThen {X:Cx} {f nt n0:Nat} {Q:Ex→Env→Heap→Prop} {fs:List Fr} {c:Code} {σ:Type} (I:σ→Env→Heap→Prop) (m:σ→Nat) (s:σ) {e:Env} {H:Heap} (h0:I s e H)
  (step:∀ s e H,I s e H→Run X f nt n0 (fun ex e' H'=>match ex with | .normal=>∃ s',m s' < m s∧I s' e' H' | ex=>Run X f nt n0 Q fs (some (ex,e',H'))) [] (code X f nt n0 c e H)) :
  Run X f nt n0 Q fs (code X f nt n0 (.loop c) e H):=by
 have h:=Run.loop (Q:=fun ex e H=>ex≠.normal∧Run X f nt n0 Q fs (some (ex,e,H))) I m (fun s e H hi=>by
  refine Run.mono (step s e H hi) ?_
  intro ex e' H' hq
  rw [run_nil]
  cases ex with
  | normal=>exact hq
  | exit i=>exact ⟨by simp,hq⟩
  | ret=>exact ⟨by simp,hq⟩) s e H h0
 exact Run.mono h fun ex e H hq=>hq.2
theorem run_unroll {X:Cx} {f nt n0:Nat} {Q:Ex→Env→Heap→Prop} {fs:List Fr} {c:Code} {e:Env} {H:Heap}
  (h:Run X f nt n0 (fun ex e' H'=>match ex with | .normal=>Run X f nt n0 Q fs (code X f nt n0 (.loop c) e' H') | ex=>Run X f nt n0 Q fs (some (ex,e',H'))) [] (code X f nt n0 c e H)) :
  Run X f nt n0 Q fs (code X f nt n0 (.loop c) e H):=by
 rw [code_loop]
 cases ho:code X f nt n0 c e H with
 | none=>rw [ho,run_none] at h;exact h.elim
 | some q =>
  obtain ⟨ex,e1,H1⟩:=q
  rw [ho,run_nil] at h
  cases ex with
  | normal=>exact h
  | exit i=>exact h
  | ret=>exact h
def FinE (X:Cx) (z:Bool) (rs:List ResultVar) (n0:Nat) (P:D × Heap→Prop):Ex→Env→Heap→Prop
 | .exit _,_,_=>False
 | _,e,H=>∃ r,(resD X e H rs).bind (fun ds=>packR z n0 H (oneOrTup ds)) = some r∧P r
theorem finE_ret {X:Cx} {z:Bool} {rs:List ResultVar} {n0:Nat} {P:D × Heap→Prop} {e:Env} {H:Heap}:FinE X z rs n0 P .ret e H = ∃ r,(resD X e H rs).bind (fun ds=>packR z n0 H (oneOrTup ds)) = some r∧P r:=rfl
theorem finE_normal {X:Cx} {z:Bool} {rs:List ResultVar} {n0:Nat} {P:D × Heap→Prop} {e:Env} {H:Heap}:FinE X z rs n0 P .normal e H = ∃ r,(resD X e H rs).bind (fun ds=>packR z n0 H (oneOrTup ds)) = some r∧P r:=rfl
theorem call_runE {X:Cx} {f:Nat} {H:Heap} {fn:Func} {args:List D} (P:D × Heap→Prop) (hf:X.P.funcs[f]? = some fn) (hb:fn.body.isSome = true) (hbad:X.bad f = false∧X.con f args H = none)
  (h:Run X f fn.ntmps H.length (FinE X (X.fzr f) fn.results.toList H.length P) [] (code X f fn.ntmps H.length (stripC (bodyOf fn)) (argEnv 0 args) H)):∃ r,call X f args H = some r∧P r:=by
 cases ho:code X f fn.ntmps H.length (stripC (bodyOf fn)) (argEnv 0 args) H with
 | none=>rw [ho,run_none] at h;exact h.elim
 | some q =>
  obtain ⟨ex,e1,H1⟩:=q
  rw [ho,run_nil] at h
  cases ex with
  | exit i=>exact h.elim
  | normal =>
   obtain ⟨r,h1,h2⟩:=h
   exact ⟨r,call_run hf hb hbad (by rw [ho,run_nil,fin_normal];exact h1),h2⟩
  | ret =>
   obtain ⟨r,h1,h2⟩:=h
   exact ⟨r,call_run hf hb hbad (by rw [ho,run_nil,fin_ret];exact h1),h2⟩
attribute [simp] finE_ret finE_normal
end Go.Ev
namespace Go.Ev
open Go Go.Proofs
structure ID where
 l:List UInt8
 h:l.length = 16
 deriving DecidableEq
@[simp] theorem ID.len (i:ID):i.l.length = 16:=i.h
theorem ID.ext' {a b:ID} (h:a.l = b.l):a = b:=by cases a;cases b;simp at h;subst h;rfl
instance:Enc ID:=⟨16,fun i=>ofBytes i.l,fun i=>by simp,fun i=>by simp⟩
theorem ID.cells (i:ID):Enc.cells i = ofBytes i.l:=rfl
def ID.zero:ID:=⟨List.replicate 16 0,by simp⟩
theorem cellsEq_bytes:∀ (x y:List UInt8),x.length = y.length→cellsEq (List.replicate x.length .i) (ofBytes x) (ofBytes y) = some (x == y)
 | [],[],_=>rfl
 | a :: x,b :: y,h=>by
  have ih:=cellsEq_bytes x y (by simpa using h)
  simp only [List.length_cons,List.replicate_succ,ofBytes,List.map_cons,cellsEq,cellEq]
  simp only [ofBytes] at ih
  rw [ih]
  have:((a.toNat:Int) == (b.toNat:Int)) = (a == b):=by
   rw [Bool.eq_iff_iff]
   simp only [beq_iff_eq,Int.natCast_inj]
   exact ⟨fun h=>UInt8.toNat_inj.1 h,fun h=>by rw [h]⟩
  simp [this]
 | [],_ :: _,h=>by simp at h
 | _ :: _,[],h=>by simp at h
theorem cellsEq_app:∀ (k1 k2:List CK) (a1 a2 b1 b2:List D),k1.length = a1.length→k1.length = b1.length→cellsEq (k1 ++ k2) (a1 ++ a2) (b1 ++ b2) = match cellsEq k1 a1 b1,cellsEq k2 a2 b2 with
  | some x,some y=>some (x && y)
  | _,_=>none
 | [],k2,[],a2,[],b2,_,_=>by
  simp only [List.nil_append,cellsEq]
  cases cellsEq k2 a2 b2 <;> simp
 | k :: k1,k2,a :: a1,a2,b :: b1,b2,h1,h2=>by
  simp only [List.cons_append,cellsEq,cellsEq_app k1 k2 a1 a2 b1 b2 (by simpa using h1) (by simpa using h2)]
  cases cellEq k a b <;> cases cellsEq k1 a1 b1 <;> cases cellsEq k2 a2 b2 <;> simp [Bool.and_assoc]
 | [],_,_ :: _,_,_,_,h,_=>by simp at h
 | [],_,[],_,_ :: _,_,_,h=>by simp at h
 | _ :: _,_,[],_,_,_,h,_=>by simp at h
 | _ :: _,_,_ :: _,_,[],_,_,h=>by simp at h
@[simp] theorem cellsEq16 (x y:ID):cellsEq [.i,.i,.i,.i,.i,.i,.i,.i,.i,.i,.i,.i,.i,.i,.i,.i] (ofBytes x.l) (ofBytes y.l) = some (x == y):=by
 have:=cellsEq_bytes x.l y.l (by simp)
 rw [x.h] at this
 have e:(x.l == y.l) = (x == y):=by
  rw [Bool.eq_iff_iff]
  simp only [beq_iff_eq]
  exact ⟨ID.ext',fun h=>by rw [h]⟩
 rw [e] at this
 exact this
structure Mk where
 id:ID
 seq:Int
 lost:Int
 over:Int
 deriving DecidableEq
def isU64 (n:Int):Prop:=0≤n∧n < 18446744073709551616
structure Mk.Ok (m:Mk):Prop where
 seq:isU64 m.seq
 lost:isU64 m.lost
 over:isU64 m.over
def Mk.tl (m:Mk):List D:=[.int .u64 m.seq,.int .u64 m.lost,.int .u64 m.over]
instance:Enc Mk:=⟨19,fun m=>ofBytes m.id.l ++ m.tl,fun m=>by simp [Mk.tl],fun m=>by simp [Mk.tl,idFree]⟩
theorem Mk.cells (m:Mk):Enc.cells m = ofBytes m.id.l ++ [.int .u64 m.seq,.int .u64 m.lost,.int .u64 m.over]:=rfl
@[simp] theorem Mk.size:Enc.size Mk = 19:=rfl
@[simp] theorem ID.size:Enc.size ID = 16:=rfl
@[simp] theorem Mk.cl (a:Mk):(Enc.cells a).length = 19:=Enc.len a
@[simp] theorem Mk.ct (a:Mk) (r:List D):(Enc.cells a ++ r).take 19 = Enc.cells a:=cells_take rfl a r
@[simp] theorem Mk.ct' (a:Mk):(Enc.cells a).take 19 = Enc.cells a:=cells_take' rfl a
@[simp] theorem Mk.cd (a:Mk) (r:List D):(Enc.cells a ++ r).drop 19 = r:=cells_drop rfl a r
@[simp] theorem Mk.el (l:List Mk):(encs l).length = l.length * 19:=encs_len' rfl l
@[simp] theorem Mk.ed (l:List Mk) (i:Nat):(encs l).drop (i * 19) = encs (l.drop i):=encs_drop rfl l i
@[simp] theorem Mk.et (l:List Mk) (i:Nat):(encs l).take (i * 19) = encs (l.take i):=encs_take rfl l i
@[simp high] theorem Mk.ea {l:List Mk} {i:Nat} (h:i < l.length):(encs l).drop (i * 19) = Enc.cells l[i] ++ encs (l.drop (i+1)):=encs_at rfl h
@[simp high] theorem Mk.es (m:Mk) {l:List Mk} {j:Nat} (h:j < l.length):setRange (encs l) (j * 19) (Enc.cells m) = encs (l.set j m):=encs_set rfl m l h
theorem drop_bytes {s:List UInt8} {n:Nat} (h:s.length≤n):(ofBytes s).drop n = []:=List.drop_eq_nil_of_le (by simpa using h)
@[simp] theorem Mk.t16 (m:Mk):(Enc.cells m).take 16 = ofBytes m.id.l:=by simp [Mk.cells]
@[simp] theorem Mk.t16' (m:Mk) (r:List D):(Enc.cells m ++ r).take 16 = ofBytes m.id.l:=by simp [Mk.cells]
@[simp] theorem Mk.d16 (m:Mk):(Enc.cells m).drop 16 = [.int .u64 m.seq,.int .u64 m.lost,.int .u64 m.over]:=by simp [Mk.cells]
@[simp] theorem Mk.d17 (m:Mk):(Enc.cells m).drop 17 = [.int .u64 m.lost,.int .u64 m.over]:=by simp [Mk.cells,List.drop_append,drop_bytes]
@[simp] theorem Mk.d18 (m:Mk):(Enc.cells m).drop 18 = [.int .u64 m.over]:=by simp [Mk.cells,List.drop_append,drop_bytes]
@[simp] theorem Mk.d16' (m:Mk) (r:List D):(Enc.cells m ++ r).drop 16 = [.int .u64 m.seq,.int .u64 m.lost,.int .u64 m.over] ++ r:=by simp [Mk.cells]
@[simp] theorem Mk.d17' (m:Mk) (r:List D):(Enc.cells m ++ r).drop 17 = [.int .u64 m.lost,.int .u64 m.over] ++ r:=by simp [Mk.cells,List.drop_append,drop_bytes]
@[simp] theorem Mk.d18' (m:Mk) (r:List D):(Enc.cells m ++ r).drop 18 = [.int .u64 m.over] ++ r:=by simp [Mk.cells,List.drop_append,drop_bytes]
@[simp] theorem Mk.g16 (m:Mk) (h):(Enc.cells m)[16]'h = .int .u64 m.seq:=by simp [Mk.cells]
@[simp] theorem Mk.g17 (m:Mk) (h):(Enc.cells m)[17]'h = .int .u64 m.lost:=by simp [Mk.cells]
@[simp] theorem Mk.g18 (m:Mk) (h):(Enc.cells m)[18]'h = .int .u64 m.over:=by simp [Mk.cells]
@[simp] theorem Mk.s16 (m:Mk) (x:Int):setRange (Enc.cells m) 16 [.int .u64 x] = Enc.cells { m with seq:=x }:=by simp [Mk.cells,List.drop_append,drop_bytes]
@[simp] theorem Mk.s17 (m:Mk) (x:Int):setRange (Enc.cells m) 17 [.int .u64 x] = Enc.cells { m with lost:=x }:=by simp [Mk.cells,List.take_append,List.drop_append,drop_bytes,List.take_of_length_le]
@[simp] theorem Mk.s18 (m:Mk) (x:Int):setRange (Enc.cells m) 18 [.int .u64 x] = Enc.cells { m with over:=x }:=by simp [Mk.cells,List.take_append,List.drop_append,drop_bytes,List.take_of_length_le]
theorem cellsEqMk (x y:Mk):cellsEq [.i,.i,.i,.i,.i,.i,.i,.i,.i,.i,.i,.i,.i,.i,.i,.i,.i,.i,.i] (Enc.cells x) (Enc.cells y) = some (x == y):=by
 have h:=cellsEq_app [.i,.i,.i,.i,.i,.i,.i,.i,.i,.i,.i,.i,.i,.i,.i,.i] [.i,.i,.i] (ofBytes x.id.l) x.tl (ofBytes y.id.l) y.tl (by simp) (by simp)
 rw [cellsEq16] at h
 have e:cellsEq [.i,.i,.i] x.tl y.tl = some (x.seq == y.seq && (x.lost == y.lost && x.over == y.over)):=by simp [Mk.tl,cellsEq]
 rw [e] at h
 have e2:(x == y) = (x.id == y.id && (x.seq == y.seq && (x.lost == y.lost && x.over == y.over))):=by
  rw [Bool.eq_iff_iff]
  cases x;cases y
  simp [Mk.mk.injEq,beq_iff_eq]
 rw [e2]
 exact h
end Go.Ev
namespace Go.Ev
open Go Go.Proofs
structure Pr where
 name:List UInt8
 value:List UInt8
 deriving DecidableEq
instance:Enc Pr:=⟨2,fun p=>[.str p.name,.str p.value],fun _=>rfl,fun _=>rfl⟩
theorem Pr.cells (p:Pr):Enc.cells p = [.str p.name,.str p.value]:=rfl
@[simp] theorem Pr.size:Enc.size Pr = 2:=rfl
@[simp] theorem Pr.cl (a:Pr):(Enc.cells a).length = 2:=Enc.len a
@[simp] theorem Pr.ct (a:Pr) (r:List D):(Enc.cells a ++ r).take 2 = Enc.cells a:=cells_take rfl a r
@[simp] theorem Pr.ct' (a:Pr):(Enc.cells a).take 2 = Enc.cells a:=cells_take' rfl a
@[simp] theorem Pr.cd (a:Pr) (r:List D):(Enc.cells a ++ r).drop 2 = r:=cells_drop rfl a r
@[simp] theorem Pr.el (l:List Pr):(encs l).length = l.length * 2:=encs_len' rfl l
@[simp] theorem Pr.ed (l:List Pr) (i:Nat):(encs l).drop (i * 2) = encs (l.drop i):=encs_drop rfl l i
@[simp] theorem Pr.et (l:List Pr) (i:Nat):(encs l).take (i * 2) = encs (l.take i):=encs_take rfl l i
@[simp high] theorem Pr.ea {l:List Pr} {i:Nat} (h:i < l.length):(encs l).drop (i * 2) = Enc.cells l[i] ++ encs (l.drop (i+1)):=encs_at rfl h
@[simp high] theorem Pr.es (m:Pr) {l:List Pr} {j:Nat} (h:j < l.length):setRange (encs l) (j * 2) (Enc.cells m) = encs (l.set j m):=encs_set rfl m l h
structure Rec where
 seq:Int
 real:Int
 mono:Int
 boot:ID
 fields:Sl Pr
instance:Enc Rec:=⟨20,fun r=>[.int .u64 r.seq,.int .u64 r.real,.int .u64 r.mono] ++ (ofBytes r.boot.l ++ [(.vsl r.fields.nil (encs r.fields.l) r.fields.l.length)]),fun r=>by simp,fun r=>by simp [idFree]⟩
theorem Rec.cells (r:Rec):Enc.cells r = [.int .u64 r.seq,.int .u64 r.real,.int .u64 r.mono] ++ (ofBytes r.boot.l ++ [(.vsl r.fields.nil (encs r.fields.l) r.fields.l.length)]):=rfl
@[simp] theorem Rec.size:Enc.size Rec = 20:=rfl
structure Rec.Ok (r:Rec):Prop where
 seq:isU64 r.seq
 real:isU64 r.real
 mono:isU64 r.mono
@[simp] theorem Rec.cl (a:Rec):(Enc.cells a).length = 20:=Enc.len a
@[simp] theorem Rec.ct (a:Rec) (r:List D):(Enc.cells a ++ r).take 20 = Enc.cells a:=cells_take rfl a r
@[simp] theorem Rec.ct' (a:Rec):(Enc.cells a).take 20 = Enc.cells a:=cells_take' rfl a
@[simp] theorem Rec.cd (a:Rec) (r:List D):(Enc.cells a ++ r).drop 20 = r:=cells_drop rfl a r
@[simp] theorem Rec.el (l:List Rec):(encs l).length = l.length * 20:=encs_len' rfl l
@[simp] theorem Rec.ed (l:List Rec) (i:Nat):(encs l).drop (i * 20) = encs (l.drop i):=encs_drop rfl l i
@[simp] theorem Rec.et (l:List Rec) (i:Nat):(encs l).take (i * 20) = encs (l.take i):=encs_take rfl l i
@[simp high] theorem Rec.ea {l:List Rec} {i:Nat} (h:i < l.length):(encs l).drop (i * 20) = Enc.cells l[i] ++ encs (l.drop (i+1)):=encs_at rfl h
@[simp high] theorem Rec.es (m:Rec) {l:List Rec} {j:Nat} (h:j < l.length):setRange (encs l) (j * 20) (Enc.cells m) = encs (l.set j m):=encs_set rfl m l h
structure It where
 id:ID
 gap:Bool
 fr:Int
 til:Int
 rc:Rec
instance:Enc It:=⟨39,fun i=>ofBytes i.id.l ++ ([.bool i.gap,.int .u64 i.fr,.int .u64 i.til] ++ Enc.cells i.rc),fun i=>by simp,fun i=>by simp [idFree]⟩
theorem It.cells (i:It):Enc.cells i = ofBytes i.id.l ++ ([.bool i.gap,.int .u64 i.fr,.int .u64 i.til] ++ ([.int .u64 i.rc.seq,.int .u64 i.rc.real,.int .u64 i.rc.mono] ++ (ofBytes i.rc.boot.l ++ [(.vsl i.rc.fields.nil (encs i.rc.fields.l) i.rc.fields.l.length)]))):=rfl
@[simp] theorem It.size:Enc.size It = 39:=rfl
structure It.Ok (i:It):Prop where
 fr:isU64 i.fr
 til:isU64 i.til
 rc:i.rc.Ok
@[simp] theorem It.cl (a:It):(Enc.cells a).length = 39:=Enc.len a
@[simp] theorem It.ct (a:It) (r:List D):(Enc.cells a ++ r).take 39 = Enc.cells a:=cells_take rfl a r
@[simp] theorem It.ct' (a:It):(Enc.cells a).take 39 = Enc.cells a:=cells_take' rfl a
@[simp] theorem It.cd (a:It) (r:List D):(Enc.cells a ++ r).drop 39 = r:=cells_drop rfl a r
@[simp] theorem It.el (l:List It):(encs l).length = l.length * 39:=encs_len' rfl l
@[simp] theorem It.ed (l:List It) (i:Nat):(encs l).drop (i * 39) = encs (l.drop i):=encs_drop rfl l i
@[simp] theorem It.et (l:List It) (i:Nat):(encs l).take (i * 39) = encs (l.take i):=encs_take rfl l i
@[simp high] theorem It.ea {l:List It} {i:Nat} (h:i < l.length):(encs l).drop (i * 39) = Enc.cells l[i] ++ encs (l.drop (i+1)):=encs_at rfl h
@[simp high] theorem It.es (m:It) {l:List It} {j:Nat} (h:j < l.length):setRange (encs l) (j * 39) (Enc.cells m) = encs (l.set j m):=encs_set rfl m l h
@[simp] theorem It.t16 (i:It):(Enc.cells i).take 16 = ofBytes i.id.l:=by simp [It.cells]
@[simp] theorem It.t16' (i:It) (r:List D):(Enc.cells i ++ r).take 16 = ofBytes i.id.l:=by simp [It.cells]
@[simp] theorem It.d16 (i:It):(Enc.cells i).drop 16 = .bool i.gap :: .int .u64 i.fr :: .int .u64 i.til :: .int .u64 i.rc.seq :: .int .u64 i.rc.real :: .int .u64 i.rc.mono :: (ofBytes i.rc.boot.l ++ [(.vsl i.rc.fields.nil (encs i.rc.fields.l) i.rc.fields.l.length)]):=by simp [It.cells]
@[simp] theorem It.d17 (i:It):(Enc.cells i).drop 17 = .int .u64 i.fr :: .int .u64 i.til :: .int .u64 i.rc.seq :: .int .u64 i.rc.real :: .int .u64 i.rc.mono :: (ofBytes i.rc.boot.l ++ [(.vsl i.rc.fields.nil (encs i.rc.fields.l) i.rc.fields.l.length)]):=by simp [It.cells,List.drop_append,drop_bytes]
@[simp] theorem It.d18 (i:It):(Enc.cells i).drop 18 = .int .u64 i.til :: .int .u64 i.rc.seq :: .int .u64 i.rc.real :: .int .u64 i.rc.mono :: (ofBytes i.rc.boot.l ++ [(.vsl i.rc.fields.nil (encs i.rc.fields.l) i.rc.fields.l.length)]):=by simp [It.cells,List.drop_append,drop_bytes]
@[simp] theorem It.d19 (i:It):(Enc.cells i).drop 19 = .int .u64 i.rc.seq :: .int .u64 i.rc.real :: .int .u64 i.rc.mono :: (ofBytes i.rc.boot.l ++ [(.vsl i.rc.fields.nil (encs i.rc.fields.l) i.rc.fields.l.length)]):=by simp [It.cells,List.drop_append,drop_bytes]
@[simp] theorem It.d20 (i:It):(Enc.cells i).drop 20 = .int .u64 i.rc.real :: .int .u64 i.rc.mono :: (ofBytes i.rc.boot.l ++ [(.vsl i.rc.fields.nil (encs i.rc.fields.l) i.rc.fields.l.length)]):=by simp [It.cells,List.drop_append,drop_bytes]
@[simp] theorem It.d21 (i:It):(Enc.cells i).drop 21 = .int .u64 i.rc.mono :: (ofBytes i.rc.boot.l ++ [(.vsl i.rc.fields.nil (encs i.rc.fields.l) i.rc.fields.l.length)]):=by simp [It.cells,List.drop_append,drop_bytes]
@[simp] theorem It.d22 (i:It):(Enc.cells i).drop 22 = ofBytes i.rc.boot.l ++ [(.vsl i.rc.fields.nil (encs i.rc.fields.l) i.rc.fields.l.length)]:=by simp [It.cells,List.drop_append,drop_bytes]
@[simp] theorem It.d38 (i:It):(Enc.cells i).drop 38 = [(.vsl i.rc.fields.nil (encs i.rc.fields.l) i.rc.fields.l.length)]:=by simp [It.cells,List.drop_append,drop_bytes]
end Go.Ev
namespace Go.Ev
open Go Go.Proofs
def leN:List UInt8→Nat
 | []=>0
 | b :: l=>b.toNat+256 * leN l
def leB:Nat→Nat→List UInt8
 | 0,_=>[]
 | n+1,v=>UInt8.ofNat (v % 256) :: leB n (v / 256)
@[simp] theorem leB_len:∀ (n v:Nat),(leB n v).length = n
 | 0,_=>rfl
 | n+1,v=>by simp [leB,leB_len n]
theorem leN_lt:∀ (l:List UInt8),leN l < 256 ^ l.length
 | []=>by simp [leN]
 | b :: l=>by
  have h1:=leN_lt l
  have h2:=b.toNat_lt
  simp only [leN,List.length_cons,Nat.pow_succ]
  omega
theorem leN_leB:∀ (n v:Nat),leN (leB n v) = v % 256 ^ n
 | 0,v=>by simp [leB,leN,Nat.mod_one]
 | n+1,v=>by
  simp only [leB,leN,leN_leB n]
  rw [UInt8.toNat_ofNat_of_lt' (Nat.mod_lt _ (by decide)),Nat.pow_succ,Nat.mul_comm (256 ^ n) 256,Nat.mod_mul]
theorem leB_snoc:∀ (n v:Nat),leB (n+1) v = leB n v ++ [UInt8.ofNat (v / 256 ^ n % 256)]
 | 0,v=>by simp [leB]
 | n+1,v=>by
  rw [leB,leB_snoc n (v / 256),leB,List.cons_append,Nat.div_div_eq_div_mul,Nat.pow_succ,Nat.mul_comm 256]
theorem ofBytes_append (a b:List UInt8):ofBytes (a ++ b) = ofBytes a ++ ofBytes b:=by simp [ofBytes]
theorem ofBytes_cons (a:UInt8) (b:List UInt8):ofBytes (a :: b) = .int .u8 (a.toNat:Int) :: ofBytes b:=rfl
theorem ofBytes_drop (l:List UInt8) (i:Nat):(ofBytes l).drop i = ofBytes (l.drop i):=by simp [ofBytes]
theorem ofBytes_take (l:List UInt8) (i:Nat):(ofBytes l).take i = ofBytes (l.take i):=by simp [ofBytes]
theorem ofBytes_at {l:List UInt8} {i:Nat} (h:i < l.length):(ofBytes l).drop i = .int .u8 (l[i].toNat:Int) :: ofBytes (l.drop (i+1)):=by
 rw [ofBytes_drop,List.drop_eq_getElem_cons h,ofBytes_cons]
theorem ofBytes_get {l:List UInt8} {i:Nat} (h:i < (ofBytes l).length):(ofBytes l)[i] = .int .u8 ((l[i]'(by simpa using h)).toNat:Int):=by simp [ofBytes]
@[simp] theorem bytesD_of (s:List UInt8):bytesD (ofBytes s) = some s:=by
 induction s with
 | nil=>rfl
 | cons a s ih =>
  have:bytesD (ofBytes (a :: s)) = (bytesD (ofBytes s)).map fun r=>UInt8.ofNat ((a.toNat:Int)).toNat :: r:=rfl
  rw [this,ih]
  simp
theorem or_shl (x y:Nat) (h:y < 256):(x * 256) ||| y = x * 256+y:=by
 have:=Nat.shiftLeft_add_eq_or_of_lt (b:=y) (i:=8) (by simpa using h) x
 rw [Nat.shiftLeft_eq] at this
 simpa using this.symm
def BufE {α:Type} [Enc α] (n:Nat) (d:D) (H:Heap) (l:List α):Prop:=(d = .vsl true [] 0∧l = []∧H = [])∨(d = .osl 0 (l.length * n) 0 l.length n∧H = [some (encs l)]∧l≠[])
theorem BufE.snoc {α:Type} [Enc α] {n:Nat} (l:List α) (a:α):BufE n (.osl 0 (l.length * n+n) 0 (l.length+1) n) [some (encs l ++ Enc.cells a)] (l ++ [a]) :=
 .inr ⟨by simp [Nat.add_mul],by simp [encs_snoc],by simp⟩
theorem BufE.one {α:Type} [Enc α] {n:Nat} (a:α):BufE n (.osl 0 n 0 1 n) [some (Enc.cells a)] ([] ++ [a]) :=
 .inr ⟨by simp,by simp [encs_one],by simp⟩
def Sl.grown {α:Type} (l:List α):Sl α:=⟨l.isEmpty,l,by simp⟩
@[simp] theorem Sl.grown_l {α:Type} (l:List α):(Sl.grown l).l = l:=rfl
def ID.mk' (l:List UInt8):ID:=if h:l.length = 16 then ⟨l,h⟩ else ID.zero
theorem ID.mk'_l {l:List UInt8} (h:l.length = 16):(ID.mk' l).l = l:=by unfold ID.mk';rw [dif_pos h]
def mkOf (r:List UInt8):Mk:=⟨ID.mk' (r.take 16),leN ((r.drop 16).take 8),leN ((r.drop 24).take 8),leN ((r.drop 32).take 8)⟩
def lastGe (out:List Mk) (id:List UInt8):Bool:=match out.getLast? with
 | some m=>decide (0≤cmpB m.id.l id)
 | none=>false
def readGo:Nat→List UInt8→List Mk→List Mk × Int
 | 0,_,out=>(out,0)
 | k+1,r,out=>if r.length < 16 then ([],22) else if lastGe out (r.take 16) then ([],13) else if r.length < 40 then ([],22) else readGo k (r.drop 40) (out ++ [mkOf r])
def readM:List UInt8→List Mk × Int
 | []=>([],22)
 | c :: r=>if 4 < c.toNat then ([],21) else readGo c.toNat r []
def readN (x:List Mk × Int):Int:=if x.2 = 0 then 1+40 * (x.1.length:Int) else 0
end Go.Ev
namespace Go.Ev
open Go Go.Proofs
def plainF (P:Program) (g:TypeId→Bool):List Field→Nat→Nat→Bool
 | [],off,size=>off == size
 | f :: fs,off,size=>f.offset == off && g f.type && plainF P g fs (off+P.cellsOf f.type) size
def PlainT (P:Program):Nat→TypeId→Bool
 | 0,_=>false
 | n+1,t=>match P.underlying t with
  | some .bool=>true
  | some (.int _)=>true
  | some .string=>true
  | some (.slice e)=>PlainT P n e
  | some (.array m e)=>PlainT P n e && P.cellsOf t == m * P.cellsOf e
  | some (.struct fs)=>plainF P (PlainT P n) fs.toList 0 (P.cellsOf t)
  | _=>false
def HasFs (P:Program) (g:TypeId→List D→Prop):List Field→List D→Prop
 | [],cs=>cs = []
 | f :: fs,cs=>∃ a b,cs = a ++ b∧a.length = P.cellsOf f.type∧g f.type a∧HasFs P g fs b
def HasT (P:Program):Nat→TypeId→List D→Prop
 | 0,_,_=>False
 | n+1,t,cs=>match P.underlying t with
  | some .bool=>∃ b,cs = [.bool b]
  | some (.int k)=>∃ x,cs = [.int k x]∧(Lit.int k x).wf = true
  | some .string=>∃ s,cs = [.str s]∧s.length≤maxLen
  | some (.slice e)=>cs = [.vsl true [] 0]∨∃ ls:List (List D),cs = [.vsl false ls.flatten ls.length]∧ls.length≤maxLen∧∀ l,l∈ls→l.length = P.cellsOf e∧HasT P n e l
  | some (.array m e)=>∃ ls:List (List D),cs = ls.flatten∧ls.length = m∧∀ l,l∈ls→l.length = P.cellsOf e∧HasT P n e l
  | some (.struct fs)=>HasFs P (HasT P n) fs.toList cs
  | _=>False
attribute [irreducible] HasT

theorem cell_lt {W:World} {a:Addr} {v:Value} (h:W.cell? a = some v):a.block < W.heap.size:=by
 unfold World.cell? at h
 rcases Nat.lt_or_ge a.block W.heap.size with hlt | hge
 ·exact hlt
 ·have:W.heap[a.block]? = none:=Array.getElem?_eq_none hge
  simp [this] at h
def Cor (W:World) (ds:List D) (vs:List Value):Prop:=ds.length = vs.length∧(∀ d,d∈ds→isCell d = true)∧∀ (j:Nat) d,ds[j]? = some d→Rep (· < W.heap.size) W iota0 [] d (vs.getD j undef)

theorem cor_one {W:World} {d:D} {v:Value} (hc:isCell d = true) (h:Rep (· < W.heap.size) W iota0 [] d v):Cor W [d] [v]:=by
 refine ⟨rfl,fun x hx=>by rw [List.mem_singleton.1 hx];exact hc,fun j x hj=>?_⟩
 cases j with
 | zero=>simp at hj;subst hj;exact h
 | succ j=>simp at hj

theorem cor_append {W:World} {a b:List D} {us vs:List Value} (h1:Cor W a us) (h2:Cor W b vs):Cor W (a ++ b) (us ++ vs):=by
 refine ⟨by simp [h1.1,h2.1],fun d hd=>?_,fun j d hj=>?_⟩
 ·rcases List.mem_append.1 hd with h | h
  ·exact h1.2.1 d h
  ·exact h2.2.1 d h
 ·by_cases hlt:j < a.length
  ·rw [List.getElem?_append_left hlt] at hj
   have:=h1.2.2 j d hj
   rw [List.getD_eq_getElem?_getD] at this ⊢
   rwa [List.getElem?_append_left (by rw [← h1.1];exact hlt)]
  ·rw [List.getElem?_append_right (by omega)] at hj
   have:=h2.2.2 _ d hj
   rw [List.getD_eq_getElem?_getD] at this ⊢
   rw [List.getElem?_append_right (by rw [← h1.1];omega),← h1.1]
   exact this

section
variable {H:Type} {enc:TypeId × Value→H} {P:Program} {W:World}

theorem cut_rows {sz:Nat} {Q:List D→Prop}:∀ (m off:Nat) (cs:List Value),cs.length = off+m * sz →
  (∀ i,i < m→∃ ds,Q ds∧Cor W ds ((cs.drop (off+i * sz)).take sz))→∃ ls:List (List D),ls.length = m∧(∀ l,l∈ls→l.length = sz∧Q l)∧Cor W ls.flatten (cs.drop off)
 | 0,off,cs,hl,_=>⟨[],rfl,by simp,by
   rw [List.drop_eq_nil_of_le (by omega)]
   exact ⟨rfl,by simp,by simp⟩⟩
 | m+1,off,cs,hl,h=>by
  have e1:(m+1) * sz = sz+m * sz:=by rw [Nat.add_mul,Nat.one_mul,Nat.add_comm]
  rw [e1] at hl
  obtain ⟨ds,q1,q2⟩:=h 0 (by omega)
  rw [Nat.zero_mul,Nat.add_zero] at q2
  obtain ⟨ls,l1,l2,l3⟩:=cut_rows (sz:=sz) (Q:=Q) m (off+sz) cs (by omega) (fun i hi=>by
   have:=h (i+1) (by omega)
   rw [Nat.add_mul,Nat.one_mul] at this
   rw [show off+sz+i * sz = off+(i * sz+sz) by omega]
   exact this)
  have hds:ds.length = sz:=by
   rw [q2.1,List.length_take,List.length_drop]
   omega
  refine ⟨ds :: ls,by simp [l1],fun l hl=>?_,?_⟩
  ·rcases List.mem_cons.1 hl with rfl | hl
   ·exact ⟨hds,q1⟩
   ·exact l2 l hl
  ·rw [List.flatten_cons]
   have:=cor_append q2 l3
   rw [← List.drop_drop,List.take_append_drop] at this
   exact this

theorem fs_has {g:TypeId→Bool} {Q:TypeId→List D→Prop}:∀ (fs:List Field) (off:Nat) (cs:List Value),plainF P g fs off cs.length = true →
  (∀ f,f∈fs→g f.type = true→∃ ds,Q f.type ds∧Cor W ds ((cs.drop f.offset).take (P.cellsOf f.type)))→∃ ds,HasFs P Q fs ds∧Cor W ds (cs.drop off)
 | [],off,cs,hp,_=>by
  simp only [plainF,beq_iff_eq] at hp
  exact ⟨[],rfl,by rw [List.drop_eq_nil_of_le (by omega)];exact ⟨rfl,by simp,by simp⟩⟩
 | f :: fs,off,cs,hp,h=>by
  simp only [plainF,Bool.and_eq_true,beq_iff_eq] at hp
  obtain ⟨⟨h1,h2⟩,h3⟩:=hp
  obtain ⟨a,a1,a2⟩:=h f (List.mem_cons_self ..) h2
  obtain ⟨b,b1,b2⟩:=fs_has fs (off+P.cellsOf f.type) cs h3 fun f' hf=>h f' (List.mem_cons_of_mem _ hf)
  rw [h1] at a2
  have hle:off+P.cellsOf f.type≤cs.length:=plainF_le h3
  refine ⟨a ++ b,⟨a,b,rfl,?_,a1,b1⟩,?_⟩
  ·rw [a2.1,List.length_take,List.length_drop]
   omega
  ·have:=cor_append a2 b2
   rwa [← List.drop_drop,List.take_append_drop] at this
where plainF_le {g:TypeId→Bool}:∀ {fs:List Field} {off n:Nat},plainF P g fs off n = true→off≤n
 | [],off,n,h=>by simp only [plainF,beq_iff_eq] at h;omega
 | f :: fs,off,n,h=>by
  simp only [plainF,Bool.and_eq_true] at h
  have:=plainF_le h.2
  omega

theorem trod_has:∀ (n fuel:Nat) (t:TypeId) (cs:List Value) (x:DataW H × List MemPlace),PlainT P n t = true→DataW.trod enc P W 0 (fun _=>true) true fuel t cs = some x →
  ∃ ds,HasT P n t ds∧Cor W ds cs
 | 0,_,_,_,_,h,_=>by simp [PlainT] at h
 | n+1,fuel,t,cs,x,hp,h=>by
  have ih:=trod_has n
  unfold PlainT at hp
  unfold HasT
  cases hu:P.underlying t with
  | none=>rw [hu] at hp;simp at hp
  | some u =>
  rw [hu] at hp
  cases u with
  | bool =>
   obtain ⟨b,rfl,_⟩:=DataW.trod_bool hu h
   exact ⟨_,⟨b,rfl⟩,cor_one rfl (.bool _)⟩
  | int k =>
   obtain ⟨b,rfl,_,hw⟩:=DataW.trod_int hu h
   exact ⟨_,⟨b,rfl,hw⟩,cor_one rfl (.int _ _)⟩
  | string =>
   obtain ⟨s,rfl,_,hw⟩:=DataW.trod_string hu h
   refine ⟨_,⟨s.data.toList,rfl,by simpa using hw⟩,cor_one rfl ?_⟩
   have:=Rep.str (ok:=(· < W.heap.size)) (w:=W) (ι:=iota0) (H:=[]) s.data.toList
   simpa using this
  | slice e =>
   simp only at hp ⊢
   rcases DataW.trod_slice hu h with ⟨rfl,_⟩ | ⟨a,len,cap,elems,rest,m,rfl,rfl,_,_,hlc,hcm,hel,hget,_⟩
   ·exact ⟨_,.inl rfl,cor_one rfl .vnil⟩
   ·have hrow:∀ i,i < len→∃ ds,HasT P n e ds∧ds.length = P.cellsOf e∧(∀ d,d∈ds→isCell d = true)∧∀ (j:Nat) d,ds[j]? = some d→∃ v,W.cell? (a.add (i * P.cellsOf e+j)) = some v∧Rep (· < W.heap.size) W iota0 [] d v:=by
     intro i hi
     have hg:=hget i hi
     rw [List.getElem?_eq_getElem (by omega)] at hg
     cases hcs:W.cells? 0 (a.add (i * P.cellsOf e)) (P.cellsOf e) with
     | none=>rw [hcs] at hg;simp at hg
     | some cs =>
      rw [hcs,Option.bind_some] at hg
      obtain ⟨ds,d1,d2,d3,d4⟩:=ih m e cs _ hp hg
      obtain ⟨_,c2,c3⟩:=World.cells?_some hcs
      refine ⟨ds,d1,by rw [d2,c2],d3,fun j d hj=>?_⟩
      have hjl:j < cs.length:=by rw [← d2];exact (List.getElem?_eq_some_iff.1 hj).1
      refine ⟨cs[j],?_,?_⟩
      ·rw [← Addr.add_add,c3 j (by omega),List.getElem?_eq_getElem hjl]
      ·have:=d4 j d hj
       rwa [List.getD_eq_getElem?_getD,List.getElem?_eq_getElem hjl,Option.getD_some] at this
    have hall:∀ k,k≤len→∃ ls:List (List D),ls.length = k∧(∀ l,l∈ls→l.length = P.cellsOf e∧HasT P n e l)∧(∀ d,d∈ls.flatten→isCell d = true)∧ls.flatten.length = k * P.cellsOf e ∧
      ∀ (j:Nat) d,ls.flatten[j]? = some d→∃ v,W.cell? (a.add j) = some v∧Rep (· < W.heap.size) W iota0 [] d v:=by
     intro k
     induction k with
     | zero=>intro _;exact ⟨[],rfl,by simp,by simp,by simp,by simp⟩
     | succ k ihk =>
      intro hk
      obtain ⟨ls,l1,l2,l3,l4,l5⟩:=ihk (by omega)
      obtain ⟨ds,d1,d2,d3,d4⟩:=hrow k (by omega)
      refine ⟨ls ++ [ds],by simp [l1],fun l hl=>?_,?_,?_,?_⟩
      ·rcases List.mem_append.1 hl with h | h
       ·exact l2 l h
       ·rw [List.mem_singleton.1 h];exact ⟨d2,d1⟩
      ·intro d hd
       rw [List.flatten_append] at hd
       rcases List.mem_append.1 hd with h | h
       ·exact l3 d h
       ·exact d3 d (by simpa using h)
      ·rw [List.flatten_append,List.length_append,l4,Nat.add_mul,Nat.one_mul]
       simp [d2]
      ·intro j d hj
       rw [List.flatten_append] at hj
       by_cases hlt:j < ls.flatten.length
       ·rw [List.getElem?_append_left hlt] at hj
        exact l5 j d hj
       ·rw [List.getElem?_append_right (by omega)] at hj
        rw [l4] at hj hlt
        have hj':ds[j - k * P.cellsOf e]? = some d:=by simpa using hj
        obtain ⟨v,v1,v2⟩:=d4 _ d hj'
        refine ⟨v,?_,v2⟩
        rw [← v1]
        congr 2
        omega
    obtain ⟨ls,l1,l2,l3,l4,l5⟩:=hall len (Nat.le_refl _)
    refine ⟨_,.inr ⟨ls,rfl,by rw [l1];omega,l2⟩,cor_one rfl ?_⟩
    rw [l1]
    refine .vsl a (fun j=>(W.cell? (a.add j)).getD undef) (fun d hd=>?_) l3 (fun j d hj=>?_) (fun j d hj=>?_) hlc
    ·obtain ⟨j,hj⟩:=List.mem_iff_getElem?.1 hd
     obtain ⟨v,v1,_⟩:=l5 j d hj
     have:=cell_lt v1
     rwa [add_block] at this
    ·obtain ⟨v,v1,_⟩:=l5 j d hj
     rw [v1];rfl
    ·obtain ⟨v,v1,v2⟩:=l5 j d hj
     rw [v1];exact v2
  | array m e =>
   simp only [Bool.and_eq_true,beq_iff_eq] at hp ⊢
   obtain ⟨xs,k,rfl,_,hl,hxl,hg⟩:=DataW.trod_array hu h
   have:=cut_rows (W:=W) (sz:=P.cellsOf e) (Q:=HasT P n e) m 0 cs (by rw [hl,hp.2];omega) (fun i hi=>by
    rw [Nat.zero_add]
    have hgi:=hg i hi
    rw [List.getElem?_eq_getElem (by omega)] at hgi
    exact ih k e _ _ hp.1 hgi)
   obtain ⟨ls,l1,l2,l3⟩:=this
   exact ⟨ls.flatten,⟨ls,rfl,l1,l2⟩,by simpa using l3⟩
  | struct fs =>
   simp only at hp ⊢
   obtain ⟨xs,k,rfl,_,hl,hxl,hg⟩:=DataW.trod_struct hu h
   rw [← hl] at hp
   obtain ⟨ds,d1,d2⟩:=fs_has (W:=W) (Q:=HasT P n) fs.toList 0 cs hp (fun f hf hgf=>by
    obtain ⟨i,hi⟩:=List.mem_iff_getElem?.1 hf
    have hi':fs[i]? = some f:=by simpa using hi
    have hgi:=hg i f hi'
    have hlt:i < xs.length:=by rw [hxl];exact (Array.getElem?_eq_some_iff.1 hi').1
    rw [List.getElem?_eq_getElem hlt] at hgi
    exact ih k f.type _ _ hgf hgi)
   exact ⟨ds,d1,by simpa using d2⟩
  | _=>simp at hp

theorem read_plain {n:Nat} {t:TypeId} {v:Value} {d:DataW H} {ps:List MemPlace} (hp:PlainT P n t = true) (h:DataW.Trod enc P W 0 (fun _=>true) true t v d ps) :
  ∃ ds,HasT P n t ds∧Cor W ds v.cells.toList:=by
 obtain ⟨fuel,hf⟩:=h
 exact trod_has n fuel t _ _ hp hf
end
end Go.Ev
namespace Go.Ev
open Go Go.Proofs Go.RowKit Go.ChangeShapes
theorem addr_add_zero (a:Addr):a.add 0 = a:=by
 obtain ⟨b,o,p⟩:=a
 cases p <;> simp [Addr.add]
theorem rep_tab {P:Program} {W:World} {name:String} {k:IntKind} {zs:List Int} {g:Nat} (h:Lib.TabIs P W name k zs) (hg:P.globalNamed name = some g) :
  Rep (· < W.heap.size) W iota0 [] (.vptr (zs.map (.int k))) (.pointer (some ⟨g,0,none⟩)):=by
 have hc:∀ i,i < zs.length→W.cell? ⟨g,i,none⟩ = some (.int k (zs.getD i 0)):=fun i hi=>h.cell hg i hi
 refine .vptr _ (fun j=>.int k (zs.getD j 0)) (fun d hd=>?_) (fun d hd=>?_) (fun j d hj=>?_) (fun j d hj=>?_)
 ·obtain ⟨j,hj⟩:=List.mem_iff_getElem?.1 hd
  have hlt:j < zs.length:=by
   have:=(List.getElem?_eq_some_iff.1 hj).1
   simpa using this
  have:=cell_lt (hc j hlt)
  exact this
 ·obtain ⟨z,_,rfl⟩:=List.mem_map.1 hd
  rfl
 ·have hlt:j < zs.length:=by
   have:=(List.getElem?_eq_some_iff.1 hj).1
   simpa using this
  rw [addr_add,Nat.zero_add]
  exact hc j hlt
 ·have hlt:j < zs.length:=by
   have:=(List.getElem?_eq_some_iff.1 hj).1
   simpa using this
  rw [List.getElem?_map,List.getElem?_eq_getElem hlt,Option.map_some,Option.some.injEq] at hj
  subst hj
  rw [List.getD_eq_getElem?_getD,List.getElem?_eq_getElem hlt,Option.getD_some]
  exact .int k _
theorem rep_err {P:Program} {W:World} {name:String} {g:Nat} {tp:TypeId} {text:List UInt8} (hg:P.globalNamed name = some g)
  (h:∃ (a:Addr) (s:ByteArray),W.var? P name = some #[.iface tp (.pointer (some a))]∧W.cell? a = some (.string s)∧s.data.toList = text∧s.size≤maxLen) :
  Rep (· < W.heap.size) W iota0 [] (.vptr [.iface tp (.vptr [.str text])]) (.pointer (some ⟨g,0,none⟩)):=by
 obtain ⟨a,s,hv,hc,rfl,_⟩:=h
 have hcell:W.cell? ⟨g,0,none⟩ = some (.iface tp (.pointer (some a))):=by
  have:=World.var?_cell hg hv 0
  simpa using this
 have one:∀ {d e:D} {j:Nat},[e][j]? = some d→j = 0∧d = e:=fun {d e j} hj=>by
  cases j with
  | zero=>simp at hj;exact ⟨rfl,hj.symm⟩
  | succ j=>simp at hj
 have hin:Rep (· < W.heap.size) W iota0 [] (.vptr [.str s.data.toList]) (.pointer (some a)):=by
  refine .vptr a (fun _=>.string s) (fun d hd=>cell_lt hc) (fun d hd=>by rw [List.mem_singleton.1 hd];rfl) (fun j d hj=>?_) (fun j d hj=>?_)
  ·obtain ⟨rfl,rfl⟩:=one hj
   rw [addr_add_zero]
   exact hc
  ·obtain ⟨rfl,rfl⟩:=one hj
   have:=Rep.str (ok:=(· < W.heap.size)) (w:=W) (ι:=iota0) (H:=[]) s.data.toList
   simpa using this
 refine .vptr _ (fun _=>.iface tp (.pointer (some a))) (fun d hd=>cell_lt hcell) (fun d hd=>by rw [List.mem_singleton.1 hd];rfl) (fun j d hj=>?_) (fun j d hj=>?_)
 ·obtain ⟨rfl,rfl⟩:=one hj
  rw [addr_add_zero]
  exact hcell
 ·obtain ⟨rfl,rfl⟩:=one hj
  exact .iface hin
def star:String:=String.ofList [Char.ofNat 42]
theorem err_row {P:Program} {nm base:String} {tp:TypeId} (hs:star ++ base = nm)
  (hrows:((List.range P.types.size).all fun u=>P.typeName? 3 u != some nm || u == tp) = true)
  (hnamed:((List.range P.types.size).all fun e=>P.typeName? 2 e != some base || (match (P.info? e).map (·.desc) with | some (TypeDesc.named _ _)=>true | _=>false)) = true)
  (hstar:base.toList.head?≠some (Char.ofNat 42)):∀ u,P.typeName? 3 u = some nm→u = tp:=by
 subst hs
 intro u hu
 exact typeName_ptr_named (nm:=base) hrows hnamed hstar u hu
end Go.Ev
namespace Go.Ev
open Go Go.Proofs Go.RowKit
section
variable {X:Cx} {ok:Nat→Prop} {w w':World} {ι:Iota} {H:Heap}
theorem below_evol {n:Nat} (hn:n≤H.length) (hb:Below w.heap.size w w'):Evol n ok w ι H ok w' ι H where
 os:=hb.os
 tape:=hb.tape
 output:=hb.output
 size:=hb.size
 frame b hlt _:=hb.block b hlt
 okU _ h:=h
 okN _ h _:=.inl h
 nle:=⟨hn,hn⟩
 heap _ _ ds h:=⟨ds,h,Nat.le_refl _,fun _=>rfl⟩
 own i ds _ s h1 h2 _:=⟨i,ds,s,h1,h2⟩
theorem below_sim (hs:Sim X ok w ι H) (hb:Below w.heap.size w w'):Sim X ok w' ι H:=by
 have hev:Evol H.length ok w ι H ok w' ι H:=below_evol (Nat.le_refl _) hb
 refine ⟨fun b h=>Nat.lt_of_lt_of_le (hs.okS b h) hb.size,fun g cs hg=>(((hs.glob g cs hg).lift (ι:=ι) (H:=H)).evol hs hev rfl).free rfl _ _,hs.inj,fun i ds hd=>?_⟩
 obtain ⟨b,arr,e,fr,q1,q2,q3,q4,q5,q6,q7,q8⟩:=hs.blk i ds hd
 have hlt:b < w.heap.size:=by
  rcases Nat.lt_or_ge b w.heap.size with h | h
  ·exact h
  ·rw [Array.getElem?_eq_none h] at q3;cases q3
 exact ⟨b,arr,e,fr,q1,q2,by rw [hb.block b hlt];exact q3,q4,q5,q6,q7,fun j d hj=>(q8 j d hj).evol hs hev (q8 j d hj).closed⟩
theorem con_below {f:Nat} {vs:List Value} {r:D} (hs:Sim X ok w ι H) (henter:(callFunc f vs.toArray).run X.P w = .ok (.enter f vs.toArray) w)
  (hc:Calls X.P f vs.toArray w fun e w'=>∃ v,e = .returned v∧Rep ok w' ι H r v∧Below w.heap.size w w'):Goes X.P (callFunc f vs.toArray) w (CallPost X ok w ι H r H):=by
 unfold Goes
 rw [henter]
 refine hc.mono ?_
 rintro e w' ⟨v,rfl,hr,hb⟩
 exact ⟨v,rfl,ι,ok,below_sim hs hb,hr,below_evol (Nat.le_refl _) hb,fun i ds hi hd=>by rw [hget,List.getElem?_eq_none hi] at hd;cases hd⟩
theorem glob_int {g:Nat} {k:IntKind} {m:Int} (hs:Sim X ok w ι H) (hg:X.glob g = some [.int k m]):w.cell? ⟨g,0,none⟩ = some (.int k m):=by
 have h:=hs.glob g _ hg
 cases h with
 | vptr a f ha hc hr h =>
  have h1:=hr 0 (.int k m) rfl
  have h2:=h 0 (.int k m) rfl
  rw [addr_add_zero] at h1
  generalize f 0 = v at h1 h2
  cases h2
  exact h1
theorem rep_one {W:World} {g:Nat} {k:IntKind} {m:Int} (h:W.cell? ⟨g,0,none⟩ = some (.int k m)):Rep (· < W.heap.size) W iota0 [] (.vptr [.int k m]) (.pointer (some ⟨g,0,none⟩)):=by
 refine .vptr _ (fun _=>.int k m) (fun d hd=>cell_lt h) (fun d hd=>by rw [List.mem_singleton.1 hd];rfl) (fun j d hj=>?_) (fun j d hj=>?_)
 ·cases j with
  | zero=>rw [addr_add_zero];exact h
  | succ j=>simp at hj
 ·cases j with
  | zero=>simp at hj;subst hj;exact .int k m
  | succ j=>simp at hj
end
class MaxL where
 m:Int
end Go.Ev
namespace Go.Ev
open Go Go.Proofs Go.RowKit Go.Shelf
def decF:Nat→Nat→List UInt8
 | 0,_=>[]
 | f+1,v=>if v < 10 then [UInt8.ofNat (48+v)] else decF f (v / 10) ++ [UInt8.ofNat (48+v % 10)]
def dec (v:Nat):List UInt8:=decF 20 v
theorem decF_lib:∀ {f v:Nat},v < 10 ^ f→1≤f→decF f v = Lib.decDigits v
 | f+1,v,h,_=>by
  rw [decF,Lib.decDigits]
  by_cases hv:v < 10
  ·rw [if_pos hv,dif_pos hv]
  ·have hf:1≤f:=by
    rcases f with _ | f
    ·simp at h;omega
    ·omega
   rw [if_neg hv,dif_neg hv,decF_lib (f:=f) (by rw [Nat.pow_succ] at h;omega) hf]
theorem dec_lib {v:Nat} (h:v < 18446744073709551616):dec v = Lib.decDigits v:=decF_lib (Nat.lt_trans h (by decide)) (by decide)
def conLen64:List D→Heap→Option (D × Heap)
 | [.int .u64 x],H=>if 0≤x∧x≤18446744073709551615 then some (.int .i64 (Lib.bitLen x.toNat),H) else none
 | _,_=>none
def conSmall:List D→Heap→Option (D × Heap)
 | [.int .i64 x],H=>if 0≤x∧x < 100 then some (.str (dec x.toNat),H) else none
 | _,_=>none
section
variable {X:Cx} {ρ:Ren} {ok:Nat→Prop} {w:World} {ι:Iota} {H H':Heap} {r:D} {args:List D} {vs:List Value}
theorem repL_int1 {k:IntKind} {x:Int} (hv:RepL ok w ι H [.int k x] vs):vs = [.int k x]:=by
 obtain ⟨v,us,rfl,h1,h2⟩:=repL_cons hv
 cases repL_nil h2
 cases h1
 rfl
theorem conLen64_run (L:Lays.n129 X.P ρ) (h:conLen64 args H = some (r,H')) (hs:Sim X ok w ι H) (hv:RepL ok w ι H args vs) :
  Goes X.P (callFunc (ρ.f 129) vs.toArray) w (CallPost X ok w ι H r H'):=by
 have he:∀ args w,(callFunc (ρ.f 129) args).run X.P w = .ok (.enter (ρ.f 129) args) w:=Go.Proofs.enters_of L.f129 (by kernel_rfl) rfl
 unfold conLen64 at h
 split at h
 ·rename_i x
  split at h
  ·rename_i hc
   injection h with h
   injection h with h1 h2
   subst h1;subst h2
   cases repL_int1 hv
   refine con_below hs (he _ _) ((Any.bits_Len64 L x w hc.1 hc.2).mono ?_)
   rintro e w' ⟨rfl,rfl⟩
   exact ⟨_,rfl,.int .i64 _,Below.refl _ _⟩
  ·cases h
 ·cases h
theorem conSmall_run (L:Lays.n283 X.P ρ) (h:conSmall args H = some (r,H')) (hs:Sim X ok w ι H) (hv:RepL ok w ι H args vs) :
  Goes X.P (callFunc (ρ.f 283) vs.toArray) w (CallPost X ok w ι H r H'):=by
 have he:∀ args w,(callFunc (ρ.f 283) args).run X.P w = .ok (.enter (ρ.f 283) args) w:=Go.Proofs.enters_of L.f283 (by kernel_rfl) rfl
 unfold conSmall at h
 split at h
 ·rename_i x
  split at h
  ·rename_i hc
   injection h with h
   injection h with h1 h2
   subst h1;subst h2
   cases repL_int1 hv
   have hx:x = ((x.toNat:Nat):Int):=by omega
   have:=Any.internal_strconv_small L x.toNat (by omega) w
   rw [← hx] at this
   refine con_below hs (he _ _) (this.mono ?_)
   rintro e w' ⟨rfl,rfl⟩
   rw [dec_lib (by omega)]
   exact ⟨_,rfl,.str _,Below.refl _ _⟩
  ·cases h
 ·cases h
end
end Go.Ev
namespace Go.Ev
open Go Go.Proofs Go.RowKit Go.Shelf
def idxN (sub:List UInt8):List UInt8→Nat→Int
 | [],n=>if sub.isEmpty then n else -1
 | b :: l,n=>if sub.isPrefixOf (b :: l) then n else idxN sub l (n+1)
theorem idxN_lib (sub:List UInt8):∀ (l:List UInt8) (n:Nat),idxN sub l n = if Lib.index l sub = -1 then -1 else Lib.index l sub+n
 | [],n=>by
  simp only [idxN,Lib.index]
  by_cases h:sub.isEmpty = true <;> simp [h]
 | b :: l,n=>by
  have hg:=Lib.index_ge l sub
  simp only [idxN,Lib.index,idxN_lib sub l (n+1)]
  by_cases hp:sub.isPrefixOf (b :: l) = true
  ·simp [hp]
  ·by_cases h:Lib.index l sub = -1
   ·simp [h,hp]
   ·have h2:¬ Lib.index l sub+1 = -1:=by omega
    simp only [beq_iff_eq,h,h2,hp,if_false,Bool.false_eq_true]
    omega
theorem idx_lib (sub l:List UInt8):Lib.index l sub = idxN sub l 0:=by
 rw [idxN_lib]
 split
 ·assumption
 ·simp
def conIdx:List D→Heap→Option (D × Heap)
 | [.str s,.str sub],H=>if s.length < 4294967281 then some (.int .i64 (idxN sub s 0),H) else none
 | _,_=>none
def conClone:List D→Heap→Option (D × Heap)
 | [.str s],H=>if s.length≤281474976710656 then some (.str s,H) else none
 | _,_=>none
section
variable {X:Cx} {ρ:Ren} {ok:Nat→Prop} {w:World} {ι:Iota} {H H':Heap} {r:D} {args:List D} {vs:List Value}
theorem repL_str1 {s:List UInt8} (hv:RepL ok w ι H [.str s] vs):vs = [.string ⟨s.toArray⟩]:=by
 obtain ⟨v,us,rfl,h1,h2⟩:=repL_cons hv
 cases repL_nil h2
 cases h1
 rfl
theorem repL_str2 {s t:List UInt8} (hv:RepL ok w ι H [.str s,.str t] vs):vs = [.string ⟨s.toArray⟩,.string ⟨t.toArray⟩]:=by
 obtain ⟨v,us,rfl,h1,h2⟩:=repL_cons hv
 cases repL_str1 h2
 cases h1
 rfl
theorem conIdx_run {m:Int} (L:Lays.n219 X.P ρ) (hg:X.glob (ρ.g 1) = some [.int .i64 m]) (h:conIdx args H = some (r,H')) (hs:Sim X ok w ι H) (hv:RepL ok w ι H args vs) :
  Goes X.P (callFunc (ρ.f 219) vs.toArray) w (CallPost X ok w ι H r H'):=by
 have he:∀ args w,(callFunc (ρ.f 219) args).run X.P w = .ok (.enter (ρ.f 219) args) w:=Go.Proofs.enters_of L.f219 (by kernel_rfl) rfl
 unfold conIdx at h
 split at h
 ·rename_i s sub
  split at h
  ·rename_i hlen
   injection h with h
   injection h with h1 h2
   subst h1;subst h2
   cases repL_str2 hv
   refine con_below hs (he _ _) ((Any.stringslite_Index L ⟨s.toArray⟩ ⟨sub.toArray⟩ m w (by simpa [ByteArray.size] using hlen) (glob_int hs hg)).mono ?_)
   rintro e w' ⟨rfl,rfl⟩
   refine ⟨_,rfl,?_,Below.refl _ _⟩
   rw [idx_lib]
   exact .int .i64 _
  ·cases h
 ·cases h
theorem conClone_run (L:LaysM.n316 X.P ρ) (h:conClone args H = some (r,H')) (hs:Sim X ok w ι H) (hv:RepL ok w ι H args vs) :
  Goes X.P (callFunc (ρ.f 316) vs.toArray) w (CallPost X ok w ι H r H'):=by
 have he:∀ args w,(callFunc (ρ.f 316) args).run X.P w = .ok (.enter (ρ.f 316) args) w:=Go.Proofs.enters_of L.f316 (by kernel_rfl) rfl
 unfold conClone at h
 split at h
 ·rename_i s
  split at h
  ·rename_i hlen
   injection h with h
   injection h with h1 h2
   subst h1;subst h2
   cases repL_str1 hv
   refine con_below hs (he _ _) ((Any.stringslite_Clone L ⟨s.toArray⟩ w (by simpa [ByteArray.size] using hlen)).mono ?_)
   rintro e w' ⟨rfl,hb⟩
   exact ⟨_,rfl,.str s,hb⟩
  ·cases h
 ·cases h
end
end Go.Ev
namespace Go.Ev
open Go Go.Proofs Go.RowKit Go.Shelf
def idxB (c:UInt8):List UInt8→Nat→Int
 | [],_=>-1
 | b :: l,n=>if b = c then n else idxB c l (n+1)
theorem idxB_lib (c:UInt8):∀ (l:List UInt8) (n:Nat),idxB c l n = if Lib.indexByte l c = -1 then -1 else Lib.indexByte l c+n
 | [],n=>by simp [idxB,Lib.indexByte]
 | b :: l,n=>by
  have hg:=Lib.indexByte_ge l c
  simp only [idxB,Lib.indexByte,idxB_lib c l (n+1)]
  by_cases hp:b = c
  ·simp [hp]
  ·by_cases h:Lib.indexByte l c = -1
   ·simp [h,hp]
   ·have h2:¬ Lib.indexByte l c+1 = -1:=by omega
    simp only [beq_iff_eq,h,h2,hp,if_false]
    omega
theorem idxB_lib0 (c:UInt8) (l:List UInt8):Lib.indexByte l c = idxB c l 0:=by
 rw [idxB_lib]
 split
 ·assumption
 ·simp
def idxBExt:List D→Option D
 | [.str s,.int .u8 c]=>some (.int .i64 (idxB (UInt8.ofNat c.toNat) s 0))
 | _=>none
section
variable {X:Cx} {ρ:Ren} {ok:Nat→Prop} {w:World} {ι:Iota} {H H':Heap} {r:D} {args:List D} {vs:List Value}
theorem repL_strInt {s:List UInt8} {k:IntKind} {c:Int} (hv:RepL ok w ι H [.str s,.int k c] vs):vs = [.string ⟨s.toArray⟩,.int k c]:=by
 obtain ⟨v,us,rfl,h1,h2⟩:=repL_cons hv
 obtain ⟨v2,us2,rfl,h3,h4⟩:=repL_cons h2
 cases repL_nil h4
 cases h1
 cases h3
 rfl
theorem idxBExt_run {P : Program} {f : Nat} {fn : Func} (hf : P.funcs[f]? = some fn) (hn : fn.body = none) (hng : (fn.name == "runtime.NumGoroutine") = false)
  (h1:Extern.findNext fn = none) (h2:Extern.find fn = some Extern.BytealgIndexByte.indexByte) {d:D}
  (h:idxBExt args = some d) (hv:RepL ok w ι H args vs):∃ v,(callFunc f vs.toArray).run P w = .ok (.value v) w∧Rep ok w ι H d v∧idFree d = true:=by
 unfold idxBExt at h
 split at h
 ·rename_i s c
  injection h with h
  subst h
  cases repL_strInt hv
  refine ⟨.int .i64 (idxB (UInt8.ofNat c.toNat) s 0),?_,.int _ _,rfl⟩
  rw [run_callFunc_extern hf hng (by rw [hn];rfl) h1 h2,Lib.run_indexByteString,idxB_lib0]
  rfl
 ·cases h
end
end Go.Ev
namespace Go.Ev
open Go Go.Proofs Go.RowKit
class TxtC where
 t:Nat→List D→Heap→Option (D × Heap)
def Cx.add (X:Cx) (T:Nat) (t:List D→Heap→Option (D × Heap)):Cx :=
 { X with con:=fun f=>if f = T then t else X.con f,bad:=fun f=>if f = T then true else X.bad f }
section
variable {X:Cx} {T:Nat} {t:List D→Heap→Option (D × Heap)}
end
end Go.Ev
namespace Go.Ev
open Go Go.Proofs Go.RowKit Go.Shelf
def bytesR:List D→Option (List UInt8)
 | []=>some []
 | .int .u8 n :: l=>if 0≤n∧n < 256 then (bytesR l).map fun r=>UInt8.ofNat n.toNat :: r else none
 | _=>none
@[simp] theorem bytesR_of:∀ (s:List UInt8),bytesR (ofBytes s) = some s
 | []=>rfl
 | b :: s=>by
  have h:=b.toNat_lt
  have:bytesR (ofBytes (b :: s)) = if (0:Int)≤(b.toNat:Int)∧(b.toNat:Int) < 256 then (bytesR (ofBytes s)).map fun r=>UInt8.ofNat (b.toNat:Int).toNat :: r else none:=rfl
  rw [this,bytesR_of s,if_pos (by omega)]
  simp
theorem bytesR_inv:∀ {ds:List D} {s:List UInt8},bytesR ds = some s→ds = ofBytes s
 | [],s,h=>by simp [bytesR] at h;subst h;rfl
 | d :: l,s,h=>by
  unfold bytesR at h
  split at h
  ·rename_i e;cases e
  ·rename_i n l' e
   cases e
   split at h
   ·rename_i hn
    cases hr:bytesR l with
    | none=>rw [hr] at h;simp at h
    | some r =>
     rw [hr] at h
     simp only [Option.map_some,Option.some.injEq] at h
     subst h
     rw [bytesR_inv hr]
     simp only [ofBytes,List.map_cons,List.cons.injEq,D.int.injEq,true_and,and_true]
     rw [UInt8.toNat_ofNat_of_lt' (by simp;omega)]
     omega
   ·cases h
  ·cases h
def conBIdx:List D→Heap→Option (D × Heap)
 | [.vsl _ ds l,.vsl false es k],H=>match bytesR ds,bytesR es with
  | some s,some t=>if s.length = l∧t.length = k∧1≤k∧l < 4294967281∧k < 4294967281 then some (.int .i64 (idxN t s 0),H) else none
  | _,_=>none
 | _,_=>none
section
variable {X:Cx} {ρ:Ren} {ok:Nat→Prop} {w:World} {ι:Iota} {H H':Heap} {r:D} {args:List D} {vs:List Value}
theorem bytes_ints (s:List UInt8):Lib.bytesOf (s.map fun b=>(b.toNat:Int)) = s:=by
 simp [Lib.bytesOf,List.map_map,Function.comp_def]
theorem vsl_cells {a:Addr} {s:List UInt8} {l c:Nat} (h:Rep ok w ι H (.vsl false (ofBytes s) l) (.slice (some a) l c)) :
  (∀ i,i < s.length→w.cell? (a.add i) = some (.int .u8 ((s.map fun b=>(b.toNat:Int)).getD i 0)))∧l≤c:=by
 cases h with
 | vsl a f ha hc hr h hlc =>
  refine ⟨fun i hi=>?_,hlc⟩
  have hj:(ofBytes s)[i]? = some (.int .u8 (s[i].toNat:Int)):=by simp [ofBytes,hi]
  have h1:=hr i _ hj
  have h2:=h i _ hj
  rw [h1]
  generalize f i = v at h2
  cases h2
  simp [List.getD_eq_getElem?_getD,hi]
theorem ints_rng (s:List UInt8):∀ x∈s.map (fun b=>(b.toNat:Int)),0≤x∧x < 256:=by
 intro x hx
 obtain ⟨b,_,rfl⟩:=List.mem_map.1 hx
 have:=b.toNat_lt
 omega
theorem conBIdx_run {m:Int} (L:Lays.n185 X.P ρ) (hg:X.glob (ρ.g 1) = some [.int .i64 m]) (h:conBIdx args H = some (r,H')) (hs:Sim X ok w ι H) (hv:RepL ok w ι H args vs) :
  Goes X.P (callFunc (ρ.f 185) vs.toArray) w (CallPost X ok w ι H r H'):=by
 have he:∀ args w,(callFunc (ρ.f 185) args).run X.P w = .ok (.enter (ρ.f 185) args) w:=Go.Proofs.enters_of L.f185 (by kernel_rfl) rfl
 unfold conBIdx at h
 split at h
 ·rename_i nil ds l es k
  split at h
  ·rename_i s t hs1 ht1
   split at h
   ·rename_i hc
    obtain ⟨rfl,rfl,h2,h3,h4⟩:=hc
    injection h with h
    injection h with e1 e2
    subst e1;subst e2
    obtain rfl:=bytesR_inv hs1
    obtain rfl:=bytesR_inv ht1
    obtain ⟨v1,us,rfl,r1,hv⟩:=repL_cons hv
    obtain ⟨v2,us,rfl,r2,hv⟩:=repL_cons hv
    cases repL_nil hv
    obtain ⟨a2,c2,rfl⟩:∃ a c,v2 = .slice (some a) t.length c:=by cases r2;exact ⟨_,_,rfl⟩
    obtain ⟨q2,_⟩:=vsl_cells r2
    have hrep:∀ w':World,Rep ok w' ι H (.int .i64 (idxN t s 0)) (.int .i64 (idxN t s 0)):=fun w'=>.int .i64 _
    cases nil with
    | true =>
     obtain ⟨rfl,rfl⟩:s = []∧v1 = .slice none 0 0:=by
      generalize hds:ofBytes s = ds at r1
      generalize s.length = n at r1
      cases r1
      exact ⟨by cases s <;> simp [ofBytes] at hds ⊢,rfl⟩
     refine con_below hs (he _ _) ((Any.bytes_Index_nil L (some a2) t.length c2 w (by omega) (fun h=>?_)).mono ?_)
     ·have h0:=q2 0 (by omega)
      have e2:a2 = ⟨a2.block,a2.off,none⟩:=Lib.plain_of_cell (by simpa [Addr.add] using h0)
      refine ⟨a2.block,a2.off,(t.map fun b=>(b.toNat:Int)).getD 0 0,congrArg some e2,?_⟩
      rw [addr_add_zero,e2] at h0
      exact h0
     rintro e w' ⟨rfl,rfl⟩
     refine ⟨_,rfl,?_,Below.refl _ _⟩
     have h0:¬ t.length = 0:=by omega
     have ht:t.isEmpty = false:=by cases t <;> simp at h0 ⊢
     rw [if_neg h0]
     have:=hrep w'
     simpa [idxN,ht] using this
    | false =>
     obtain ⟨a1,c1,rfl⟩:∃ a c,v1 = .slice (some a) s.length c:=by cases r1;exact ⟨_,_,rfl⟩
     obtain ⟨q1,hcap⟩:=vsl_cells r1
     refine con_below hs (he _ _) ((Any.bytes_Index_at L a1 a2 s.length c1 t.length c2 (s.map fun b=>(b.toNat:Int)) (t.map fun b=>(b.toNat:Int)) m w (by simp) (by simp) (ints_rng s) (ints_rng t) q1 q2 hcap h3 (by omega) (glob_int hs hg)).mono ?_)
     rintro e w' ⟨rfl,q,rfl⟩
     refine ⟨_,rfl,?_,below_drewN (Below.refl _ _) q⟩
     rw [bytes_ints,bytes_ints,idx_lib]
     exact hrep _
   ·cases h
  ·cases h
 ·cases h
end
end Go.Ev
namespace Go.Ev
open Go Go.Proofs Go.RowKit Go.Shelf
def u8first:List D:=(List.range 256).map fun c=>.int .u8 (Lib.firstT c)
def u8acc:List D:=(List.range 16).flatMap fun i=>[.int .u8 (Lib.accLo i),.int .u8 (Lib.accHi i)]
theorem rep_ints {W:World} {g:Nat} {ds:List D} {z:Nat→Int} (hd:∀ (j:Nat) (d:D),ds[j]? = some d→d = .int .u8 (z j)) (hc:∀ j,j < ds.length→W.cell? ⟨g,j,none⟩ = some (.int .u8 (z j))):Rep (· < W.heap.size) W iota0 [] (.vptr ds) (.pointer (some ⟨g,0,none⟩)):=by
 refine .vptr _ (fun j=>.int .u8 (z j)) (fun d hm=>?_) (fun d hm=>?_) (fun j d hj=>?_) (fun j d hj=>?_)
 ·obtain ⟨j,hj⟩:=List.mem_iff_getElem?.1 hm
  have:=cell_lt (hc j (List.getElem?_eq_some_iff.1 hj).1)
  exact this
 ·obtain ⟨j,hj⟩:=List.mem_iff_getElem?.1 hm
  rw [hd j d hj]
  rfl
 ·rw [addr_add,Nat.zero_add]
  exact hc j (List.getElem?_eq_some_iff.1 hj).1
 ·rw [hd j d hj]
  exact .int .u8 _
theorem flat2 {α:Type} (f g:Nat→α):∀ (n k:Nat) (j:Nat) (d:α),((List.range' k n).flatMap fun i=>[f i,g i])[j]? = some d→d = if j % 2 = 0 then f (k+j / 2) else g (k+j / 2)
 | 0,k,j,d,h=>by simp at h
 | n+1,k,0,d,h=>by simp [List.range'_succ] at h;simp [h]
 | n+1,k,1,d,h=>by simp [List.range'_succ] at h;simp [h]
 | n+1,k,j+2,d,h=>by
  simp only [List.range'_succ,List.flatMap_cons,List.cons_append,List.nil_append,List.getElem?_cons_succ] at h
  have:=flat2 f g n (k+1) j d h
  rw [this]
  have e1:(j+2) % 2 = j % 2:=by omega
  have e2:k+(j+2) / 2 = k+1+j / 2:=by omega
  rw [e1,e2]
theorem rep_u8 {W:World} {g3 g4:Nat} (h:Lib.Utf8Tabs g3 g4 W):Rep (· < W.heap.size) W iota0 [] (.vptr u8first) (.pointer (some ⟨g3,0,none⟩))∧Rep (· < W.heap.size) W iota0 [] (.vptr u8acc) (.pointer (some ⟨g4,0,none⟩)):=by
 obtain ⟨h1,h2⟩:=h
 constructor
 ·refine rep_ints (z:=fun j=>(Lib.firstT j:Int)) (fun j d hj=>?_) fun j hj=>h1 j (by simpa [u8first] using hj)
  simp only [u8first,List.getElem?_map,Option.map_eq_some_iff] at hj
  obtain ⟨a,ha,rfl⟩:=hj
  rw [List.getElem?_range (by have:=(List.getElem?_eq_some_iff.1 ha).1;simpa using this)] at ha
  cases ha
  rfl
 ·refine rep_ints (z:=fun j=>if j % 2 = 0 then (Lib.accLo (j / 2):Int) else Lib.accHi (j / 2)) (fun j d hj=>?_) fun j hj=>?_
  ·have:=flat2 (fun i=>D.int .u8 (Lib.accLo i)) (fun i=>D.int .u8 (Lib.accHi i)) 16 0 j d (by rw [← List.range_eq_range'];exact hj)
   rw [this,Nat.zero_add]
   split <;> rfl
  ·have hl:u8acc.length = 32:=rfl
   have hj':j < 32:=by rw [← hl];exact hj
   obtain ⟨a,b⟩:=h2 (j / 2) (by omega)
   by_cases he:j % 2 = 0
   ·have e:j = 2 * (j / 2):=by omega
    rw [if_pos he]
    rw [← e] at a
    exact a
   ·have e:j = 2 * (j / 2)+1:=by omega
    rw [if_neg he]
    rw [← e] at b
    exact b
theorem u8_tabs {X:Cx} {ok:Nat→Prop} {w:World} {ι:Iota} {H:Heap} {g3 g4:Nat} (hs:Sim X ok w ι H) (h3:X.glob g3 = some u8first) (h4:X.glob g4 = some u8acc):Lib.Utf8Tabs g3 g4 w:=by
 have get:∀ {g:Nat} {ds:List D},X.glob g = some ds→∀ (j:Nat) (z:Int),ds[j]? = some (.int .u8 z)→w.cell? ⟨g,j,none⟩ = some (.int .u8 z):=by
  intro g ds hg j z hj
  have h:=hs.glob g ds hg
  cases h with
  | vptr a f ha hc hr h =>
   have h1:=hr j _ hj
   have h2:=h j _ hj
   rw [addr_add,Nat.zero_add] at h1
   generalize f j = v at h1 h2
   cases h2
   exact h1
 refine ⟨fun c hc=>get h3 c _ (by simp [u8first,List.getElem?_map,List.getElem?_range hc]),fun i hi=>?_⟩
 have hall:∀ i:Nat,i < 16→u8acc[2 * i]? = some (.int .u8 (Lib.accLo i))∧u8acc[2 * i+1]? = some (.int .u8 (Lib.accHi i)):=by
  intro i hi
  match i,hi with
  | 0,_ | 1,_ | 2,_ | 3,_ | 4,_ | 5,_ | 6,_ | 7,_ | 8,_ | 9,_ | 10,_ | 11,_ | 12,_ | 13,_ | 14,_ | 15,_=>exact ⟨rfl,rfl⟩
  | i+16,h=>omega
 obtain ⟨a,b⟩:=hall i hi
 exact ⟨get h4 _ _ a,get h4 _ _ b⟩
def sliceB:List D→Nat→Option (List UInt8)
 | ds,n=>match bytesR ds with
  | some s=>if n≤s.length∧1≤n then some (s.take n) else none
  | none=>none
def conDec:List D→Heap→Option (D × Heap)
 | [.vsl false ds n],H=>match sliceB ds n with
  | some s=>some (.tup [.int .i32 (Lib.decodeGo ⟨s.toArray⟩).1,.int .i64 (Lib.decodeGo ⟨s.toArray⟩).2],H)
  | none=>none
 | _,_=>none
end Go.Ev
namespace Go.Ev
open Go Go.Proofs Go.RowKit Go.Shelf
section
variable {X:Cx} {ρ:Ren} {ok:Nat→Prop} {w:World} {ι:Iota} {H H':Heap} {r:D} {args:List D} {vs:List Value}
theorem sliceB_inv {ds:List D} {n:Nat} {s:List UInt8} (h:sliceB ds n = some s):∃ t:List UInt8,ds = ofBytes t∧n≤t.length∧1≤n∧s = t.take n:=by
 unfold sliceB at h
 simp only at h
 cases hr:bytesR ds with
 | none=>rw [hr] at h;cases h
 | some t =>
  rw [hr] at h
  simp only at h
  by_cases hc:n≤t.length∧1≤n
  ·rw [if_pos hc] at h
   injection h with h
   exact ⟨t,bytesR_inv hr,hc.1,hc.2,h.symm⟩
  ·rw [if_neg hc] at h
   cases h
theorem slice_cells {a:Addr} {t:List UInt8} {n c:Nat} (h:Rep ok w ι H (.vsl false (ofBytes t) n) (.slice (some a) n c)) (hn:n≤t.length) (h1:1≤n):a = ⟨a.block,a.off,none⟩∧(∀ j,j < n→w.cell? ⟨a.block,a.off+j,none⟩ = some (.int .u8 ((⟨(t.take n).toArray⟩:ByteArray).get! j).toNat))∧ok a.block:=by
 cases h with
 | vsl a f ha hc hr h hlc =>
  have hc':∀ (j:Nat) (hj:j < t.length),w.cell? (a.add j) = some (.int .u8 (t[j].toNat:Int)):=by
   intro j hj
   have hj':(ofBytes t)[j]? = some (.int .u8 (t[j].toNat:Int)):=by simp [ofBytes,hj]
   have h1:=hr j _ hj'
   have h2:=h j _ hj'
   rw [h1]
   generalize f j = v at h2
   cases h2
   rfl
  have h0:=hc' 0 (by omega)
  have e2:a = ⟨a.block,a.off,none⟩:=Lib.plain_of_cell (by simpa [Addr.add] using h0)
  refine ⟨e2,fun j hj=>?_,?_⟩
  ·have:=hc' j (by omega)
   rw [e2,addr_add] at this
   rw [this]
   have hsz:j < (⟨(t.take n).toArray⟩:ByteArray).size:=by rw [ba_size];simp;omega
   have:(⟨(t.take n).toArray⟩:ByteArray).get! j = t[j]:=by
    rw [Utf8W.get!_of_lt _ j hsz]
    show (t.take n).toArray[j] = _
    simp
   rw [this]
  ·exact ha (.int .u8 (t[0].toNat:Int)) (by
    refine List.mem_iff_getElem?.2 ⟨0,?_⟩
    have h0:0 < t.length:=by omega
    simp [ofBytes,h0])
theorem conDec_run (L:Lays7.n32 X.P ρ) (h3:X.glob (ρ.g 2) = some u8first) (h4:X.glob (ρ.g 3) = some u8acc) (h:conDec args H = some (r,H')) (hs:Sim X ok w ι H) (hv:RepL ok w ι H args vs) :
  Goes X.P (callFunc (ρ.f 32) vs.toArray) w (CallPost X ok w ι H r H'):=by
 have he:∀ args w,(callFunc (ρ.f 32) args).run X.P w = .ok (.enter (ρ.f 32) args) w:=Go.Proofs.enters_of L.f32 (by kernel_rfl) rfl
 unfold conDec at h
 split at h
 ·rename_i ds n
  split at h
  ·rename_i s hsb
   obtain ⟨t,rfl,hn,h1,rfl⟩:=sliceB_inv hsb
   injection h with h
   injection h with e1 e2
   subst e1;subst e2
   obtain ⟨v1,us,rfl,r1,hv⟩:=repL_cons hv
   cases repL_nil hv
   obtain ⟨a1,c1,rfl⟩:∃ a c,v1 = .slice (some a) n c:=by cases r1;exact ⟨_,_,rfl⟩
   obtain ⟨q1,q2,_⟩:=slice_cells r1 hn h1
   have hsz:(⟨(t.take n).toArray⟩:ByteArray).size = n:=by rw [ba_size];simp;omega
   have hc:=Any7.utf8_DecodeRune L ⟨(t.take n).toArray⟩ a1.block a1.off c1 w (u8_tabs hs h3 h4) (fun j hj=>q2 j (by rw [hsz] at hj;exact hj))
   rw [hsz,← q1] at hc
   refine con_below hs (he _ _) (hc.mono ?_)
   rintro e w' ⟨rfl,hb⟩
   refine ⟨_,rfl,?_,hb⟩
   refine .tup rfl fun j d hj=>?_
   match j,hj with
   | 0,hj=>simp at hj;subst hj;exact .int .i32 _
   | 1,hj=>simp at hj;subst hj;exact .int .i64 _
   | j+2,hj=>simp at hj
  ·cases h
 ·cases h
end
end Go.Ev
namespace Go.Ev
open Go Go.Proofs Go.RowKit Go.Shelf
def conIS (m:Int):List D→Heap→Option (D × Heap)
 | [.str s,.str sub],H=>if s.length < sub.length∧2≤sub.length∧(sub.length:Int)≤m∧s.length < 1000000 then some (.int .i64 (-1),H) else none
 | _,_=>none
section
variable {X:Cx} {ρ:Ren} {ok:Nat→Prop} {w:World} {ι:Iota} {H H':Heap} {r:D} {args:List D} {vs:List Value}
theorem idxN_long {sub:List UInt8}:∀ {s:List UInt8} {n:Nat},s.length < sub.length→idxN sub s n = -1
 | [],n,h=>by
  unfold idxN
  cases sub with
  | nil=>simp at h
  | cons=>rfl
 | b :: l,n,h=>by
  unfold idxN
  have hp:sub.isPrefixOf (b :: l) = false:=by
   cases hp:sub.isPrefixOf (b :: l) with
   | false=>rfl
   | true =>
    have:=(List.isPrefixOf_iff_prefix.1 hp).length_le
    omega
  rw [hp]
  simp only [Bool.false_eq_true,if_false]
  exact idxN_long (by simp at h;omega)
theorem conIS_run {m : Int} {f g : Nat} {fn : Func} (hf : X.P.funcs[f]? = some fn) (hn : fn.body = none) (hng : (fn.name == "runtime.NumGoroutine") = false)
  (h1 : Extern.findNext fn = none) (h2 : Extern.find fn = some Extern.BytealgIndex.index) (hgi : X.P.globals.findIdx? (·.name == "internal/bytealg.MaxLen") = some g) (hg : X.glob g = some [.int .i64 m])
  (h:conIS m args H = some (r,H')) (hs:Sim X ok w ι H) (hv:RepL ok w ι H args vs):Goes X.P (callFunc f vs.toArray) w (CallPost X ok w ι H r H'):=by
 unfold conIS at h
 split at h
 ·rename_i s sub
  split at h
  ·rename_i hc
   injection h with h
   injection h with e1 e2
   subst e1;subst e2
   cases repL_str2 hv
   have hr:=Lib.run_indexString (P:=X.P) ⟨s.toArray⟩ ⟨sub.toArray⟩ w g m hgi (glob_int hs hg) (by simpa [ByteArray.size] using hc.2.1) (by simpa [ByteArray.size] using hc.2.2.1) (by simp [ByteArray.size];omega)
   refine Goes.value (v:=.int .i64 (-1)) (w':=w) ?_ ⟨ι,ok,hs,.int _ _,.refl _ (Nat.le_refl _),fun i ds hi hd=>by rw [hget,List.getElem?_eq_none hi] at hd;cases hd⟩
   rw [run_callFunc_extern hf hng (by rw [hn];rfl) h1 h2]
   show ((Extern.BytealgIndex.index #[.string ⟨s.toArray⟩,.string ⟨sub.toArray⟩]).run X.P w).andThen _ = _
   rw [hr,idx_lib,idxN_long hc.1]
   rfl
  ·cases h
 ·cases h
end
end Go.Ev
