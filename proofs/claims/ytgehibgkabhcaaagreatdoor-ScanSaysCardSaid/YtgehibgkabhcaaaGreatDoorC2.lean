import Derived.Test.YtgehibgkabhcaaaGreatDoorC1
import Derived.Scope
import Derived.LoopN
import Derived.Shelf.Abstract
import Derived.Orders
import Derived.Lib.BytesEntry
import Derived.Laws.Externs
import Derived.ProofKit
import Derived.OpenShut
import Derived.Below
import Derived.WideKeyArgs
import Derived.Carry
import Derived.ChangeSame
import Derived.ChangeSlices
namespace Go.Ev
section
variable {X:Cx} {ok ok':Nat→Prop} {w w':World} {ι:qV} {H H':qe}
def Goes (P:Program) (s:Sem Next) (w:World) (R:Value→World→Prop):Prop :=
 match s.run P w with
 | .ok (.value v) w'=>R v w'
 | .ok .skip w'=>R undef w'
 | .ok (.enter f args) w'=>Calls P f args w' fun e w''=>∃ v,e = .returned v∧R v w''
 | _=>False
theorem Goes.value {P:Program} {s:Sem Next} {v:Value} {R:Value→World→Prop} (h:s.run P w = .ok (.value v) w') (hr:R v w'):Goes P s w R:=by
 unfold Goes;rw [h];exact hr
theorem Goes.skip {P:Program} {s:Sem Next} {R:Value→World→Prop} (h:s.run P w = .ok .skip w') (hr:R undef w'):Goes P s w R:=by
 unfold Goes;rw [h];exact hr
theorem Goes.mono {P:Program} {s:Sem Next} {R R':Value→World→Prop} (h:Goes P s w R) (hr:∀ v w',R v w'→R' v w'):Goes P s w R':=by
 unfold Goes at *;split at h
 ·exact hr _ _ h
 ·exact hr _ _ h
 ·exact h.mono fun e w'' ⟨v,h1,h2⟩=>⟨v,h1,hr _ _ h2⟩
 ·exact h.elim
theorem Goes.upon {P:Program} {o:Oper} {a:Act} {s:Sem Next} {next:Act→World→Prop} {Q:Exit→Act→World→Prop} (h:Goes P s w fun v w'=>next (a.put o.dst v) w'):o.upon P a next Q (s.run P w):=by
 unfold Goes at h;split at h
 ·rename_i v w' hr;rw [hr];exact h
 ·rename_i w' hr;rw [hr];exact h
 ·rename_i f args w' hr;rw [hr];simp only [Oper.upon];exact h.mono fun e w'' ⟨v,h1,h2⟩=>by subst h1;exact h2
 ·exact h.elim
def CallPost (X:Cx) (ok:Nat→Prop) (w:World) (ι:qV) (H:qe) (r:D) (H':qe) (v:Value) (w':World):Prop :=
 ∃ ι' ok',Sim X ok' w' ι' H'∧Rep ok' w' ι' H' r v∧Evol H.length ok w ι H ok' w' ι' H'∧∀ i ds,H.length≤i→qf H' i = some ds→ds.all idFree = true
def qhG (X:Cx) (g:Bool) (ok:Nat→Prop) (w:World) (ι:qV) (H:qe) (r:D) (H':qe) (v:Value) (w':World):Prop :=
 ∃ ι' ok',Sim X ok' w' ι' H'∧Rep ok' w' ι' H' r v∧Evol H.length ok w ι H ok' w' ι' H'∧(g = false→∀ i ds,H.length≤i→qf H' i = some ds→ds.all idFree = true)
theorem CallPost.g {ok:Nat→Prop} {w:World} {ι:qV} {H H':qe} {r:D} {v:Value} {w':World} (h:CallPost X ok w ι H r H' v w') (g:Bool):qhG X g ok w ι H r H' v w':=by
 obtain ⟨ι',ok',h1,h2,h3,h4⟩:=h;exact ⟨ι',ok',h1,h2,h3,fun _=>h4⟩
def Vw (X:Cx) (F:zt):Prop :=
 ∀ (f:Nat) (args:List D) (H:qe) (r:D) (H':qe) (ok:Nat→Prop) (w:World) (ι:qV) (vs:List Value),F f args H = some (r,H')→Sim X ok w ι H→RepL ok w ι H args vs →
  Goes X.P (callFunc f vs.toArray) w (qhG X (X.gr f && X.byRef f) ok w ι H r H')
structure Good (X:Cx):Prop where
 mixed:X.P.follows .mixedOrders = true
 okc:∀ (f:Nat) (fn:Func) (c:Code),X.P.funcs[f]? = some fn→fn.body = some c→X.bad f = false→Zn X f c = true
 ng : ∀ (f : Nat) (fn : Func), X.P.funcs[f]? = some fn → (fn.name == "runtime.NumGoroutine") = false
 ext:∀ (f:Nat) (fn:Func) (args:List D) (d:D),X.P.funcs[f]? = some fn→fn.body = none→X.ext f args = some d →
  ∀ (ok:Nat→Prop) (w:World) (ι:qV) (H:qe) (vs:List Value),Sim X ok w ι H→RepL ok w ι H args vs→∃ v,(callFunc f vs.toArray).run X.P w = .ok (.value v) w∧Rep ok w ι H d v∧idFree d = true
 con:∀ (f:Nat) (args:List D) (H:qe) (r:D) (H':qe),X.con f args H = some (r,H')→∀ (ok:Nat→Prop) (w:World) (ι:qV) (vs:List Value),Sim X ok w ι H→RepL ok w ι H args vs →
  Goes X.P (callFunc f vs.toArray) w (CallPost X ok w ι H r H')
theorem qlp (hs:Sim X ok w ι H):Sim X ok w jh [] :=
 ⟨hs.okS,hs.glob,fun i j ds es b s s' hd=>by simp [qf] at hd,fun i ds hd=>by simp [qf] at hd⟩
theorem quw (hs:Sim X ok w ι H):Sim X (qg3 ok ι H) w jh [] :=
 ⟨fun b hb=>by
   rcases hb with hb | ⟨i,ds,s,hd,hi⟩
   ·exact hs.okS b hb
   ·exact hs.lt hd hi,fun g cs hg=>(hs.glob g cs hg).okMono fun b hb=>.inl hb,fun i j ds es b s s' hd=>by simp [qf] at hd,fun i ds hd=>by simp [qf] at hd⟩
theorem Yy (p:List Nat) (n:Nat) (l:List D):mv.mvL p n l = l.map (mv p n):=by
 induction l with
 | nil=>rfl
 | cons d l ih=>simp [mv.mvL,ih]
theorem qjy (p:List Nat) (n:Nat) (d:D):jg (mv p n d) = jg d:=by cases d <;> rfl
theorem Rep.back {p:List Nat} {n:Nat} {ι1 ι2:qV} {H1 H2:qe} (hm:∀ a,a < H1.length→Z9 p n a < H2.length∧(∀ ds2,qf H2 (Z9 p n a) = some ds2→∃ ds,qf H1 a = some ds∧ds.length = ds2.length)∧ι2 (Z9 p n a) = ι1 a) {d:D} {v:Value} (h:Rep ok w ι1 H1 d v):Rep ok w ι2 H2 (mv p n d) v:=by
 induction h with
 | bool b=>exact .bool b
 | int k n=>exact .int k n
 | str s=>exact .str s
 | nilp=>exact .nilp
 | nilf=>exact .nilf
 | nili=>exact .nili
 | raw v=>exact .raw v
 | agg hl hc h ih =>
  simp only [mv,Yy];refine .agg (by simpa using hl) (fun d hd=>?_) fun j d hj=>?_
  ·obtain ⟨d',zB,rfl⟩:=List.mem_map.1 hd;rw [qjy];exact hc d' zB
  ·rw [VX,VU] at hj;obtain ⟨d',zB,rfl⟩:=hj;exact ih j d' zB hm
 | tup hl h ih =>
  simp only [mv,Yy];refine .tup (by simpa using hl) fun j d hj=>?_;rw [VX,VU] at hj;obtain ⟨d',zB,rfl⟩:=hj;exact ih j d' zB hm
 | fn hl h ih =>
  simp only [mv,Yy];refine .fn (by simpa using hl) fun j d hj=>?_;rw [VX,VU] at hj;obtain ⟨d',zB,rfl⟩:=hj;exact ih j d' zB hm
 | iface h ih=>exact .iface (ih hm)
 | optr a hi h =>
  obtain ⟨m1,m2,m3⟩:=hm _ hi;refine .optr a m1 fun ds2 jY=>?_;obtain ⟨ds,r1,r2⟩:=m2 ds2 jY;obtain ⟨k1,k2⟩:=h ds r1;rw [r2] at k1 k2;rw [m3];exact ⟨k1,k2⟩
 | osl a hi h zo =>
  obtain ⟨m1,m2,m3⟩:=hm _ hi;refine .osl a m1 (fun ds2 jY=>?_) zo;obtain ⟨ds,r1,r2⟩:=m2 ds2 jY;obtain ⟨k1,k2⟩:=h ds r1;rw [r2] at k1 k2;rw [m3];exact ⟨k1,k2⟩
 | vptr a f ha hc hr h _=>exact .vptr a f ha hc hr h
 | vnil=>exact .vnil
 | vsl a f ha hc hr h zo _=>exact .vsl a f ha hc hr h zo
theorem qlv:∀ (p:List Nat) (T H:qe),(Jv H p T).length = H.length
 | [],_,_=>by simp [Jv]
 | _ :: _,[],_=>by simp [Jv]
 | i :: p,b :: T,H=>by rw [Jv,qlv p T,ky]
theorem qiv {i:Nat}:∀ (p:List Nat) (T H:qe),i ∉ p→qf (Jv H p T) i = qf H i
 | [],_,_,_=>by simp [Jv]
 | _ :: _,[],_,_=>by simp [Jv]
 | a :: p,b :: T,H,h=>by
  rw [Jv,qiv p T _ fun hp=>h (Jr _ hp)];unfold qf;rw [List.getElem?_set_ne fun ha=>h (by rw [ha];exact VW ..)]
theorem qiw {i:Nat}:∀ (p:List Nat) (T H:qe) (a:Nat),p.Nodup→i < H.length→p[a]? = some i→a < T.length→qf (Jv H p T) i = qf T a
 | [],_,_,_,_,_,h,_=>by simp at h
 | _ :: _,[],_,_,_,_,_,h=>by simp at h
 | c :: p,b :: T,H,0,hn,hi,h,_=>by
  simp only [Z1,qw] at h;subst h;rw [Jv,qiv p T _ (List.nodup_cons.1 hn).1];unfold qf;rw [List.getElem?_set_self hi];rfl
 | c :: p,b :: T,H,a+1,hn,hi,h,ha=>by
  rw [Jv,qiw p T _ a (List.nodup_cons.1 hn).2 (by rw [ky];exact hi) (by simpa using h) (by simpa using ha)];simp [qf]
theorem qq4:∀ {p:List Nat} {a i k:Nat},p.Nodup→p[a]? = some i→J0 p i k = some (k+a)
 | [],_,_,_,_,h=>by simp at h
 | c :: p,0,i,k,_,h=>by
  simp only [Z1,qw] at h;simp [J0,h]
 | c :: p,a+1,i,k,hn,h=>by
  have hm:i∈p:=Vy (by simpa using h);have qQ:c≠i:=fun he=>(List.nodup_cons.1 hn).1 (by rw [he];exact hm);rw [J0,if_neg qQ,qq4 (List.nodup_cons.1 hn).2 (by simpa using h)];congr 1;omega
theorem qq5 {p:List Nat} {i:Nat} (h:i ∉ p):J0 p i 0 = none:=by
 cases hx:J0 p i 0 with
 | none=>rfl
 | some a=>exact absurd (Vy (qj0 hx).2) h
theorem qmc {p:List Nat}:∀ {l l':List D},Yp p l = some l'→l'.length = l.length∧∀ {j:Nat} {d':D},l'[j]? = some d'→∃ d,l[j]? = some d∧qaj p d = some d'
 | [],l',h=>by
  simp only [Yp,qw] at h;subst h;exact ⟨rfl,fun {j d'} hj=>by simp at hj⟩
 | d :: l,l',h=>by
  simp only [Yp] at h;split at h
  ·rename_i d1 l1 h1 h2;injection h with h;subst h;obtain ⟨g1,g2⟩:=qmc h2;refine ⟨by simp [g1],fun {j d'} hj=>?_⟩;cases j with
   | zero =>
    simp only [Z1,qw] at hj;subst hj;exact ⟨d,rfl,h1⟩
   | succ j=>simpa using g2 (j:=j) (d':=d') (by simpa using hj)
  ·cases h
theorem qsE {F:zt} (hF:Vw X F) {f:Nat} {args:List D} {p:List Nat} {r:D} {vs:List Value} (h:qdj F f args H p = some (r,H')) (hs:Sim X ok w ι H) (hv:RepL ok w ι H args vs) :
  Goes X.P (callFunc f vs.toArray) w (Post X H.length ok w ι H r H'):=by
 unfold qdj at h;split at h
 ·rename_i args' H0 hA hH;split at h
  ·rename_i hnd;split at h
   ·rename_i r0 T hc
    ·injection h with h;injection h with h1 h2;subst h1;subst h2;obtain ⟨hl,hg⟩:=qiF hH;obtain ⟨QC,VK⟩:=qmc hA;have hS:∀ {a j:Nat},p[a]? = some j→∃ ds ds2,qf H j = some ds∧X4 p ds = some ds2∧qf H0 a = some ds2:=fun h=>qiE hH h
     have hret:∀ {d d':D},qaj p d = some d'→Yo 0 p [(0,d)] H = some ([(0,d')],H0):=fun {d d'} hd=>by
      unfold Yo;simp [qbj,hd,hH,hnd,V1]
     have hret0:Yo 0 p [] H = some ([],H0):=by
      unfold Yo;simp [qbj,hH,hnd,V1]
     obtain ⟨QJ,-,-⟩:=qi8 (tmps:= #[]) hret0 hs (fun t d ht=>by simp [qi] at ht)
     let ι0:qV:=fun j=>ι (p.getD j 0)
     have hι0:∀ {a j:Nat},p[a]? = some j→ι0 a = ι j:=fun {a j} h=>by
      show ι (p.getD a 0) = ι j;rw [j8,h];rfl
     have hv1:RepL ok w ι0 H0 args' vs:=by
      refine ⟨by rw [QC];exact hv.1,fun j d' hj=>?_⟩;obtain ⟨d,q1,q2⟩:=VK hj;have h0:=hv.2 j d q1
      have he:EnvRep ok w ι H [(0,d)] #[vs.getD j undef]:=fun t c ht=>by
       simp only [qi] at ht;split at ht
       ·rename_i qM;injection ht with ht;subst ht;subst qM;exact ⟨by simp,h0⟩
       ·cases ht
      obtain ⟨-,he1,-⟩:=qi8 (hret q2) hs he;exact (he1 0 d' (by simp [qi])).2
     refine (hF f _ _ _ _ ok w ι0 vs hc QJ hv1).mono fun v w' hp=>?_;obtain ⟨ι',ok',k1,k2,k3,k4⟩:=hp;have hkT:p.length≤T.length:=by rw [← hl];exact k3.nle.2
     have hfr:∀ b,b < w.heap.size→(∀ a j s,p[a]? = some j→ι j≠some (b,s))→w'.heap[b]? = w.heap[b]?:=fun b hb jo=>k3.frame b hb fun a ds s ha hi=>by
      obtain ⟨j,_,q1,_⟩:=hg ha;exact jo a j s q1 (by rw [← hι0 q1];exact hi)
     have hown:∀ a es b s,qf T a = some es→ι' a = some (b,s)→b < w.heap.size→∃ c j s',p[c]? = some j∧ι j = some (b,s'):=fun a es b s hk hb qo=>by
      obtain ⟨c,es',s',hj,hi⟩:=k3.own a es b s hk hb qo;obtain ⟨j,_,q1,_⟩:=hg hj;exact ⟨c,j,s',q1,by rw [← hι0 q1];exact hi⟩
     have hokN:∀ b,ok' b→b < w.heap.size→ok b∨∃ c j s,p[c]? = some j∧ι j = some (b,s):=fun b hb qo=>by
      rcases k3.okN b hb qo with h | ⟨c,es,s,hk,hi⟩
      ·exact .inl h
      ·obtain ⟨j,_,q1,_⟩:=hg hk;exact .inr ⟨c,j,s,q1,by rw [← hι0 q1];exact hi⟩
     have hpn:∀ {a j:Nat},p[a]? = some j→j < H.length:=fun h=>by
      obtain ⟨ds,_,q,_⟩:=hS h;exact qA q
     obtain ⟨B,hB⟩:∃ B:qe,B = T.map (Kp p H.length):=⟨_,rfl⟩;have KJ:B.length = T.length:=by rw [hB,List.length_map]
     have hBH:∀ a es,qf B a = some es→∃ es1,qf T a = some es1∧es1.length = es.length∧es = mv.mvL p H.length es1:=by
      intro a es ha;rw [hB] at ha;unfold qf at ha ⊢;rw [VX] at ha;cases hT:T[a]? with
      | none=>rw [hT] at ha;simp at ha
      | some x =>
       rw [hT] at ha;cases x with
       | none=>simp [Kp] at ha
       | some ds =>
        simp only [jj,Kp,Va,qw] at ha;subst ha;exact ⟨ds,by simp,by simp [Yy],rfl⟩
     let n:=H.length
     let k:=p.length
     let H2:qe:=Jv H p B ++ B.drop k
     have hn:(Jv H p B).length = n:=qlv _ _ _
     let ι2:qV:=fun j=>match J0 p j 0 with
      | some a=>ι' a
      | none=>if j < n then ι j else ι' (j - n+k)
     have i2a:∀ {a j:Nat},p[a]? = some j→ι2 j = ι' a:=fun {a j} h=>by
      have:=qq4 (k:=0) hnd h;show (match J0 p j 0 with | some a=>ι' a | none=>_) = _;rw [this,Jo]
     have i2b:∀ {j:Nat},j ∉ p→j < n→ι2 j = ι j:=fun {j} h hj=>by
      show (match J0 p j 0 with | some a=>ι' a | none=>if j < n then ι j else ι' (j - n+k)) = _;rw [qq5 h];simp only;rw [if_pos hj]
     have i2c:∀ {j:Nat},n≤j→ι2 j = ι' (j - n+k):=fun {j} hj=>by
      have hnp:j ∉ p:=fun h=>by
       obtain ⟨a,ha⟩:=List.mem_iff_getElem?.1 h;have:=hpn ha;omega
      show (match J0 p j 0 with | some a=>ι' a | none=>if j < n then ι j else ι' (j - n+k)) = _;rw [qq5 hnp];simp only;rw [if_neg (by omega)]
     have g3:∀ {j:Nat},n≤j→qf H2 j = qf B (j - n+k):=fun {j} hj=>by
      obtain ⟨m,rfl⟩:∃ m,j = n+m:=⟨j - n,by omega⟩;have e1:qf H2 ((Jv H p B).length+m) = qf (B.drop k) m:=qf0;rw [hn] at e1;rw [e1];have e2:n+m - n+k = k+m:=(by omega);rw [e2];simp [qf,Qv]
     have hH:∀ j es,qf H2 j = some es→(∃ a,p[a]? = some j∧qf B a = some es∧ι2 j = ι' a)∨(j ∉ p∧j < n∧qf H j = some es∧ι2 j = ι j)∨(n≤j∧qf B (j - n+k) = some es∧ι2 j = ι' (j - n+k)):=by
      intro j es hj;by_cases hjn:j < n
      ·rw [qdL (by rw [hn];exact hjn)] at hj;by_cases hjp:j∈p
       ·obtain ⟨a,ha⟩:=List.mem_iff_getElem?.1 hjp
        have QC:a < B.length:=by
         have:=(List.getElem?_eq_some_iff.1 ha).1;omega
        rw [qiw p B H a hnd hjn ha QC] at hj;exact .inl ⟨a,ha,hj,i2a ha⟩
       ·rw [qiv p B H hjp] at hj;exact .inr (.inl ⟨hjp,hjn,hj,i2b hjp hjn⟩)
      ·have hjn':n≤j:=(by omega);rw [g3 hjn'] at hj;exact .inr (.inr ⟨hjn',hj,i2c hjn'⟩)
     have hev:Evol n ok w ι H ok' w' ι2 H2:=by
      refine ⟨k3.os,k3.tape,k3.output,k3.size,fun b hb jo=>hfr b hb fun a j s ha=>?_,k3.okU,fun b hb qo=>?_,⟨qE _,by rw [zz,hn];omega⟩,?_,?_⟩
      ·obtain ⟨ds,_,q,_⟩:=hS ha;exact jo j ds s q
      ·rcases hokN b hb qo with h | ⟨c,j,s,hc,hi⟩
       ·exact .inl h
       ·obtain ⟨ds,_,q,_⟩:=hS hc;exact .inr ⟨j,ds,s,q,hi⟩
      ·intro j hjn es hj;rcases hH j es hj with ⟨a,ha,q,e⟩ | ⟨_,_,q,e⟩ | ⟨q,_,_⟩
       ·obtain ⟨es1,q1,q2,-⟩:=hBH a es q;obtain ⟨ds,ds2,d1,d2,d3⟩:=hS ha;obtain ⟨ds3,d4,jx,VH⟩:=k3.heap a (by rw [hl];exact (List.getElem?_eq_some_iff.1 ha).1) es1 q1;rw [d3] at d4;injection d4 with d4;subst d4;have hlen:=qgr d2;exact ⟨ds,d1,by omega,fun hl'=>by rw [e,VH (by omega)];exact hι0 ha⟩
       ·exact ⟨es,q,qE _,fun _=>e⟩
       ·omega
      ·intro j es b s hj hb qo;rcases hH j es hj with ⟨a,ha,q,e⟩ | ⟨_,_,q,e⟩ | ⟨q,hk,e⟩
       ·rw [e] at hb;obtain ⟨es1,q1,-⟩:=hBH a es q;obtain ⟨c,j',s',hc,hi⟩:=hown a es1 b s q1 hb qo;obtain ⟨ds,_,d1,_⟩:=hS hc;exact ⟨j',ds,s',d1,hi⟩
       ·rw [e] at hb;exact ⟨j,es,s,q,hb⟩
       ·rw [e] at hb;obtain ⟨es1,hk1,-⟩:=hBH _ es hk;obtain ⟨c,j',s',hc,hi⟩:=hown _ es1 b s hk1 hb qo;obtain ⟨ds,_,d1,_⟩:=hS hc;exact ⟨j',ds,s',d1,hi⟩
     have hsep:∀ j es b s,j ∉ p→qf H j = some es→ι j = some (b,s)→b < w.heap.size∧∀ a j' s',p[a]? = some j'→ι j'≠some (b,s'):=fun j es b s hjp hj hb=>⟨hs.lt hj hb,fun a j' s' ha hi=>by
      obtain ⟨ds,_,d1,_⟩:=hS ha;have:=hs.inj j j' es ds b s s' hj d1 hb hi;exact hjp (by rw [this];exact Vy ha)⟩
     have hback:∀ {d:D} {v:Value},Rep ok' w' ι' T d v→Rep ok' w' ι2 H2 (mv p n d) v:=fun h=>by
      refine h.back fun a ha=>?_;cases vy:p[a]? with
      | some j =>
       have e1:Z9 p n a = j:=(by unfold Z9;rw [vy]);rw [e1];have hj:=hpn vy;refine ⟨by rw [zz,hn];omega,fun ds2 jY=>?_,i2a vy⟩;rw [qdL (by rw [hn];exact hj),qiw p B H a hnd hj vy (by rw [KJ];exact ha)] at jY;obtain ⟨es1,q1,q2,-⟩:=hBH a ds2 jY;exact ⟨es1,q1,q2⟩
      | none =>
       have hak:k≤a:=List.getElem?_eq_none_iff.1 vy;have e1:Z9 p n a = n+(a - k):=(by unfold Z9;rw [vy]);have e2:n+(a - k) - n+k = a:=(by omega);rw [e1];refine ⟨?_,fun ds2 jY=>?_,?_⟩
       ·rw [zz,hn,vQ,KJ];omega
       ·rw [g3 (by omega),e2] at jY;obtain ⟨es1,q1,q2,-⟩:=hBH a ds2 jY;exact ⟨es1,q1,q2⟩
       ·rw [i2c (by omega),e2]
     have kN:Sim X ok' w' ι2 H2:=by
      refine ⟨k1.okS,k1.glob,?_,?_⟩
      ·intro a c es es' b s s' ha hc hb zC
       have cross:∀ {j es b s a es' s'},j ∉ p→qf H j = some es→ι j = some (b,s)→qf T a = some es'→ι' a = some (b,s')→False:=by
        intro j es b s a es' s' hjp hj hb hk zC;obtain ⟨q1,q2⟩:=hsep j es b s hjp hj hb;obtain ⟨c,j',s2,hc,hi⟩:=hown a es' b s' hk zC q1;exact q2 c j' s2 hc hi
       have old:∀ j es,((∃ a,p[a]? = some j∧qf B a = some es∧ι2 j = ι' a)∨(n≤j∧qf B (j - n+k) = some es∧ι2 j = ι' (j - n+k)))→∃ a es1,qf T a = some es1∧ι2 j = ι' a∧Z9 p n a = j:=by
        rintro j es (⟨a,q1,q2,q3⟩ | ⟨q1,q2,q3⟩)
        ·obtain ⟨es1,q4,-⟩:=hBH a es q2;exact ⟨a,es1,q4,q3,by unfold Z9;rw [q1]⟩
        ·obtain ⟨es1,q4,-⟩:=hBH _ es q2;refine ⟨_,es1,q4,q3,?_⟩;unfold Z9;rw [List.getElem?_eq_none_iff.2 (show p.length≤j - n+k by omega)];show n+(j - n+k - k) = j;omega
       have split2:∀ j es,qf H2 j = some es→(∃ a es1,qf T a = some es1∧ι2 j = ι' a∧Z9 p n a = j)∨(j ∉ p∧qf H j = some es∧ι2 j = ι j):=fun j es hj=>by
        rcases hH j es hj with h | ⟨h1,_,h2,h3⟩ | h
        ·exact .inl (old j es (.inl h))
        ·exact .inr ⟨h1,h2,h3⟩
        ·exact .inl (old j es (.inr h))
       rcases split2 a es ha with ⟨a1,e1,qa,ea,ma⟩ | ⟨a1,qa,ea⟩ <;> rcases split2 c es' hc with ⟨c1,e2,qc,ec,mc⟩ | ⟨c1,qc,ec⟩ <;> rw [ea] at hb <;> rw [ec] at zC
       ·have:=k1.inj a1 c1 _ _ b s s' qa qc hb zC;rw [← ma,← mc,this]
       ·exact (cross c1 qc zC qa hb).elim
       ·exact (cross a1 qa hb qc zC).elim
       ·exact hs.inj a c es es' b s s' qa qc hb zC
      ·intro j es hj;rcases hH j es hj with ⟨a,ha,q,e⟩ | ⟨j1,j2,qj,e⟩ | ⟨j1,qj,e⟩
       ·obtain ⟨es1,q1,q2,q3⟩:=hBH a es q;obtain ⟨b,arr,ty,fr,u1,u2,u3,u4,u5,u6,u7,u8⟩:=k1.blk a es1 q1;refine ⟨b,arr,ty,fr,by rw [e];exact u1,u2,u3,by omega,u5,u6,?_,?_⟩
        ·subst q3;intro d hd;rw [Yy] at hd;obtain ⟨d',zB,rfl⟩:=List.mem_map.1 hd;rw [qjy];exact u7 d' zB
        ·subst q3;intro m d hm;rw [Yy,VX,VU] at hm;obtain ⟨d',zB,rfl⟩:=hm;exact hback (u8 m d' zB)
       ·obtain ⟨b,arr,e1,fr,q1,q2,q3,q4,q5,q6,q7,q8⟩:=hs.blk j es qj;obtain ⟨p1,p2⟩:=hsep j es b _ j1 qj q1;refine ⟨b,arr,e1,fr,by rw [e];exact q1,fun hb=>?_,by rw [hfr b p1 p2];exact q3,q4,q5,q6,q7,fun m d hm=>(q8 m d hm).evol hs hev (q8 m d hm).closed⟩;rcases hokN b hb p1 with h | ⟨c,j',s,hc,hi⟩
        ·exact q2 h
        ·exact p2 c j' s hc hi
       ·obtain ⟨es1,q1,q2,q3⟩:=hBH _ es qj;obtain ⟨b,arr,ty,fr,u1,u2,u3,u4,u5,u6,u7,u8⟩:=k1.blk _ es1 q1;refine ⟨b,arr,ty,fr,by rw [e];exact u1,u2,u3,by omega,u5,u6,?_,?_⟩
        ·subst q3;intro d hd;rw [Yy] at hd;obtain ⟨d',zB,rfl⟩:=List.mem_map.1 hd;rw [qjy];exact u7 d' zB
        ·subst q3;intro m d hm;rw [Yy,VX,VU] at hm;obtain ⟨d',zB,rfl⟩:=hm;exact hback (u8 m d' zB)
     rw [← hB];exact ⟨ι2,ok',kN,hback k2,hev⟩
   ·cases h
  ·cases h
 ·cases h
theorem q2m {F:zt} (hF:Vw X F) {f:Nat} (_:(X.gr f && X.byRef f) = false) {args:List D} {r:D} {vs:List Value} (h:qe8 F f args H = some (r,H')) (_:Sim X ok w ι H) (_:RepL ok w ι H args vs) :
  Goes X.P (callFunc f vs.toArray) w (Post X H.length ok w ι H r H'):=by
 cases h
theorem qj1:∀ cs:List D,idFree.idFreeL cs = cs.all idFree
 | []=>rfl
 | d :: l=>by rw [idFree.idFreeL,VY,qj1 l]
mutual
theorem qmW (p:List Nat) (n:Nat):∀ d:D,idFree d = true→mv p n d = d
 | .agg cs,h=>by rw [mv,qfs p n cs (by simpa [idFree] using h)]
 | .tup cs,h=>by rw [mv,qfs p n cs (by simpa [idFree] using h)]
 | .fn f cs,h=>by rw [mv,qfs p n cs (by simpa [idFree] using h)]
 | .iface t d,h=>by rw [mv,qmW p n d (by simpa [idFree] using h)]
 | .optr _ _ _,h=>by simp [idFree] at h
 | .osl _ _ _ _ _,h=>by simp [idFree] at h
 | .bool _,_ | .int _ _,_ | .str _,_ | .nilp,_ | .nilf,_ | .nili,_ | .vptr _,_ | .vsl _ _ _,_ | .raw _,_=>rfl
theorem qfs (p:List Nat) (n:Nat):∀ l:List D,idFree.idFreeL l = true→mv.mvL p n l = l
 | [],_=>rfl
 | d :: l,h=>by
  simp only [idFree.idFreeL,jk] at h;rw [mv.mvL,qmW p n d h.1,qfs p n l h.2]
end
mutual
theorem qjg (i n:Nat) (hn:1≤n):∀ d:D,noZ d = true→mv [i] n d = shift (n - 1) d
 | .agg cs,h=>by rw [mv,shift,qg9 i n hn cs (by simpa [noZ] using h)]
 | .tup cs,h=>by rw [mv,shift,qg9 i n hn cs (by simpa [noZ] using h)]
 | .fn f cs,h=>by rw [mv,shift,qg9 i n hn cs (by simpa [noZ] using h)]
 | .iface t d,h=>by rw [mv,shift,qjg i n hn d (by simpa [noZ] using h)]
 | .optr j st off,h=>by
  have hj:1≤j:=by simpa [noZ] using h
  have:Z9 [i] n j = n - 1+j:=by
   obtain ⟨k,rfl⟩:∃ k,j = k+1:=⟨j - 1,by omega⟩;simp [Z9];omega
  rw [mv,shift,this]
 | .osl j st off len k,h=>by
  have hj:1≤j:=by simpa [noZ] using h
  have:Z9 [i] n j = n - 1+j:=by
   obtain ⟨k,rfl⟩:∃ k,j = k+1:=⟨j - 1,by omega⟩;simp [Z9];omega
  rw [mv,shift,this]
 | .bool _,_ | .int _ _,_ | .str _,_ | .nilp,_ | .nilf,_ | .nili,_ | .vptr _,_ | .vsl _ _ _,_ | .raw _,_=>rfl
theorem qg9 (i n:Nat) (hn:1≤n):∀ l:List D,noZ.noZL l = true→mv.mvL [i] n l = shift.shiftL (n - 1) l
 | [],_=>rfl
 | d :: l,h=>by
  simp only [noZ.noZL,jk] at h;rw [mv.mvL,shift.shiftL,qjg i n hn d h.1,qg9 i n hn l h.2]
end
theorem qmX (p:List Nat) (n:Nat):∀ T:qe,T.all qeA = true→T.map (Kp p n) = T
 | [],_=>rfl
 | b :: T,h=>by
  simp only [VY,jk] at h;rw [List.map_cons,qmX p n T h.2];congr 1;cases b with
  | none=>rfl
  | some ds=>simp only [Kp,jj];rw [qfs p n ds (by rw [qj1];simpa [qeA] using h.1)]
theorem qmd (p:List Nat):∀ l:List D,l.all idFree = true→Yp p l = some l
 | [],_=>rfl
 | d :: l,h=>by
  simp only [VY,jk] at h;rw [Yp,qmd p l h.2];unfold qaj;rw [if_pos h.1]
theorem q2s {F:zt} {f:Nat} {args:List D} {H:qe} {r:D × qe} (h:VS F f args H = some r):∃ p,qdj F f args H p = some r:=by
 unfold VS at h;split at h
 ·rename_i i st off rest;split at h
  ·rename_i ds hd;split at h
   ·rename_i hf;simp only [jk] at hf;split at h
    ·rename_i r0 ds' L hF;split at h
     ·rename_i hz;simp only [jk] at hz;injection h with h;subst h;have qg:i < H.length:=qA hd
      have e1:Yp [i] (.optr i st off :: rest) = some (.optr 0 st off :: rest):=by
       rw [Yp,qmd _ _ hf.1];simp [qaj,idFree,renD,J0]
      have e2:X3 [i] H [i] = some [some ds]:=by
       simp only [X3,hd,X4,qj1,hf.2,if_true]
      refine ⟨[i],?_⟩;unfold qdj;rw [e1,e2];simp only [List.nodup_cons,List.not_mem_nil,not_false_eq_true,List.nodup_nil,and_self,if_true,hF];rw [qjg i H.length (by omega) r0 hz.1.1,qmX _ _ (some ds' :: L) (by simp [qeA,hz.1.2,hz.2])];simp [Jv,qn]
     ·cases h
    ·cases h
   ·cases h
  ·cases h
 ·cases h
theorem q2p {F:zt} (hF:Vw X F) {f:Nat} (_:(X.gr f && X.byRef f) = false) {args:List D} {r:D} {vs:List Value} (h:VS F f args H = some (r,H')) (hs:Sim X ok w ι H) (hv:RepL ok w ι H args vs) :
  Goes X.P (callFunc f vs.toArray) w (Post X H.length ok w ι H r H'):=by
 obtain ⟨p,hp⟩:=q2s h;exact qsE hF hp hs hv
theorem q2t {F:zt} (hF:Vw X F) {f:Nat} (hgr:(X.gr f && X.byRef f) = false) {args:List D} {r:D} {vs:List Value} (h:qaT X F f args H = some (r,H')) (hs:Sim X ok w ι H) (hv:RepL ok w ι H args vs) :
  Goes X.P (callFunc f vs.toArray) w (Post X H.length ok w ι H r H'):=by
 unfold qaT at h;split at h
 ·exact q2m hF hgr h hs hv
 ·exact q2p hF hgr h hs hv
theorem qku {F:zt} (hF:Vw X F) {f:Nat} {args:List D} {r:D} {vs:List Value} (h:Xu X F f args H = some (r,H')) (hs:Sim X ok w ι H) (hv:RepL ok w ι H args vs) :
  Goes X.P (callFunc f vs.toArray) w (Post X H.length ok w ι H r H'):=by
 unfold Xu at h;split at h
 ·split at h
  ·split at h
   ·exact qsE hF h hs hv
   ·rename_i hgr0;exact q2t hF (by simp [hgr0]) h hs hv
  refine (hF f args H r H' ok w ι vs h hs hv).mono fun v w' hp=>?_;obtain ⟨ι',ok',h1,h2,h3,_⟩:=hp;exact ⟨ι',ok',h1,h2,h3⟩
 ·rename_i hbr;have hgr:(X.gr f && X.byRef f) = false:=by simp [hbr]
  split at h
  ·rename_i kj;split at h
   ·cases h
   ·rename_i r0 L hc;injection h with h;injection h with h1 h2;subst h1;subst h2;refine (hF f args [] r0 L ok w jh vs hc (qlp hs) ⟨hv.1,fun j d hj=>(hv.2 j d hj).free (qdp kj d (mem_of_get? hj)) _ _⟩).mono fun v w' hp=>?_;obtain ⟨ι1,ok1,k1,k2,k3,k4⟩:=hp;replace k4:=k4 hgr;have hfr:∀ b,b < w.heap.size→w'.heap[b]? = w.heap[b]?:=fun b hb=>k3.frame b hb (fun i ds s hd=>by simp [qf] at hd)
    obtain ⟨j1,j2⟩:=qsD (L:=L) (ι1:=ι1) (ok2:=ok1) hs ⟨k3.os,k3.tape,k3.output⟩ k3.size hfr k3.okU (fun b hb qg=>(k3.okN b hb qg).resolve_right fun ⟨i,ds,s,hd,_⟩=>by simp [qf] at hd) k1.okS k1.inj (fun i ds hd=>by
     obtain ⟨b,arr,e,fr,q1,q2,q3,q4,q5,q6,q7,q8⟩:=k1.blk i ds hd;refine ⟨b,arr,e,fr,q1,?_,q2,q3,q4,q5,q6,q7,fun j d hj=>(q8 j d hj).free (qdp (k4 i ds (vV _) hd) d (mem_of_get? hj)) _ _⟩;rcases qaa b w.heap.size with qg | vN
     ·obtain ⟨j,es,s',hj,_⟩:=k3.own i ds b _ hd q1 qg;simp [qf] at hj
     ·exact vN)
    exact ⟨_,ok1,j1,k2.shift ι H,j2⟩
  ·split at h
   ·cases h
   ·rename_i args' QA;split at h
    ·cases h
    ·rename_i r0 L hc;split at h
     ·rename_i hvf;rw [jk] at hvf;injection h with h;injection h with h1 h2;subst h1;subst h2;obtain ⟨l1,l2⟩:=freeze_rep.freezeL_rep hs args (vs:=fun j=>vs.getD j undef) hv.2 QA;refine (hF f args' [] r0 L (qg3 ok ι H) w jh vs hc (quw hs) ⟨by rw [hv.1,l1],l2⟩).mono fun v w' hp=>?_;obtain ⟨ι1,ok1,k1,k2,k3,k4⟩:=hp;replace k4:=k4 hgr;have hfr:∀ b,b < w.heap.size→w'.heap[b]? = w.heap[b]?:=fun b hb=>k3.frame b hb (fun i ds s hd=>by simp [qf] at hd)
      obtain ⟨j1,j2⟩:=qsD (L:=L) (ι1:=ι1) (ok2:=ok) hs ⟨k3.os,k3.tape,k3.output⟩ k3.size hfr (fun _ h=>h) (fun _ h _=>h) (fun b hb=>jZ (hs.okS b hb) k3.size) k1.inj (fun i ds hd=>by
       obtain ⟨b,arr,e,fr,q1,q2,q3,q4,q5,q6,q7,q8⟩:=k1.blk i ds hd
       have vN:w.heap.size≤b:=by
        rcases qaa b w.heap.size with qg | vN
        ·obtain ⟨j,es,s',hj,_⟩:=k3.own i ds b _ hd q1 qg;simp [qf] at hj
        ·exact vN
       refine ⟨b,arr,e,fr,q1,vN,fun hb=>by have:=hs.okS b hb;omega,q3,q4,q5,q6,q7,fun j d hj=>?_⟩
       have Vk:vFree d = true:=by
        have hl:=qA hd
        have JO:some ds∈L:=by
         unfold qf at hd;rw [zn hl] at hd;simp only [Va] at hd;rw [← hd];exact v6 hl
        have:=List.all_eq_true.1 hvf.2 _ JO;simp only [qkw] at this;exact List.all_eq_true.1 this d (mem_of_get? hj)
       exact ((q8 j d hj).free (qdp (k4 i ds (vV _) hd) d (mem_of_get? hj)) _ _).vfree Vk ok)
      exact ⟨_,ok,j1,(k2.vfree hvf.1 ok).shift ι H,j2⟩
     ·cases h
mutual
theorem qgi (n:Nat):∀ (d:D),idFree d = true→shift n d = d
 | .agg cs,h=>by simp only [idFree] at h;simp only [shift,qgj n cs h]
 | .tup cs,h=>by simp only [idFree] at h;simp only [shift,qgj n cs h]
 | .fn f cs,h=>by simp only [idFree] at h;simp only [shift,qgj n cs h]
 | .iface t d,h=>by simp only [idFree] at h;simp only [shift,qgi n d h]
 | .optr ..,h=>by simp [idFree] at h
 | .osl ..,h=>by simp [idFree] at h
 | .bool _,_=>rfl
 | .int _ _,_=>rfl
 | .str _,_=>rfl
 | .nilp,_=>rfl
 | .nilf,_=>rfl
 | .nili,_=>rfl
 | .raw _,_=>rfl
 | .vptr _,_=>rfl
 | .vsl ..,_=>rfl
theorem qgj (n:Nat):∀ (cs:List D),idFree.idFreeL cs = true→shift.shiftL n cs = cs
 | [],_=>rfl
 | d :: l,h=>by
  simp only [idFree.idFreeL,jk] at h;simp only [shift.shiftL,qgi n d h.1,qgj n l h.2]
end
theorem qfM {F:zt} {f:Nat} {args:List D} {r:D × qe} (hp:(X.pureF f && !X.byRef f) = true) (h:Zy X F f args H = some r):r.2 = H∧idFree r.1 = true ∧
  ((args.all idFree = true∧F f args [] = some (r.1,[])) ∨
   (¬ args.all idFree = true∧X.perm f = true∧args.all (qaL H) = true∧vFree r.1 = true∧∃ args',qbL H args = some args'∧F f args' [] = some (r.1,[]))):=by
 unfold Zy at h;rw [if_pos hp] at h;split at h
 ·rename_i ha;split at h
  ·rename_i r0 hc;split at h
   ·rename_i hi;injection h with h;subst h;exact ⟨rfl,hi,.inl ⟨ha,hc⟩⟩
   ·cases h
  ·cases h
 ·rename_i ha;split at h
  ·rename_i hpf;rw [jk] at hpf;split at h
   ·rename_i args' QA;split at h
    ·rename_i r0 hc;split at h
     ·rename_i hi;rw [jk] at hi;injection h with h;subst h;exact ⟨rfl,hi.1,.inr ⟨ha,hpf.1,hpf.2,hi.2,args',QA,hc⟩⟩
     ·cases h
    ·cases h
   ·cases h
  ·cases h
theorem qhz {F:zt} {f:Nat} {args:List D} {r:D × qe} (h:Zy X F f args H = some r):Xu X F f args H = some r:=by
 by_cases hp:(X.pureF f && !X.byRef f) = true
 ·obtain ⟨h4,h3,h1⟩:=qfM hp h
  have hb:¬ X.byRef f = true:=by
   rw [jk] at hp;simpa using hp.2
  obtain ⟨r,H'⟩:=r;simp only at h3 h4 h1;subst h4;unfold Xu;rcases h1 with ⟨h1,h2⟩ | ⟨h1,_,_,hv,args',QA,h2⟩
  ·rw [if_neg hb,if_pos h1,h2];simp only [qgi _ _ h3,KO]
  ·rw [if_neg hb,if_neg h1,QA];simp only [h2,hv,List.all_nil,Bool.and_self,if_true,qgi _ _ h3,KO]
 ·unfold Zy at h
  rwa [if_neg hp] at h
theorem quu {i:Nat} {ds ds':List D} (hs:Sim X ok w ι H) (hd:qf H i = some ds) (hl:ds.length = ds'.length) (hr:∀ b arr e fr,ι i = some (b,arr.size)→w.heap[b]? = some (.cells arr e fr)→∀ (j:Nat) d,ds'[j]? = some d→Rep ok w jh [] d (arr.getD j undef)) :
  Sim X ok w ι (qn H i ds')∧Evol H.length ok w ι H ok w ι (qn H i ds'):=by
 have qg:i < H.length:=qA hd
 have hg:∀ j es,qf (qn H i ds') j = some es→(j = i∧es = ds')∨(j≠i∧qf H j = some es):=by
  intro j es hj;by_cases hji:j = i
  ·subst hji;simp only [qf,qn] at hj;rw [List.getElem?_set_self qg] at hj;exact .inl ⟨rfl,by simpa using hj.symm⟩
  ·refine .inr ⟨hji,?_⟩;simp only [qf,qn] at hj ⊢
   rwa [List.getElem?_set_ne (Ne.symm hji)] at hj
 have hg2:∀ j es,qf (qn H i ds') j = some es→∃ es0,qf H j = some es0:=by
  intro j es hj;rcases hg j es hj with ⟨rfl,_⟩ | ⟨_,h⟩
  ·exact ⟨ds,hd⟩
  ·exact ⟨es,h⟩
 have hev:Evol H.length ok w ι H ok w ι (qn H i ds'):=by
  refine ⟨rfl,rfl,rfl,qE _,fun _ _ _=>rfl,fun _ h=>h,fun b h _=>.inl h,⟨qE _,by simp [qn]⟩,?_,?_⟩
  ·intro j _ es hj;rcases hg j es hj with ⟨rfl,rfl⟩ | ⟨_,h⟩
   ·exact ⟨ds,hd,by rw [hl];exact qE _,fun _=>rfl⟩
   ·exact ⟨es,h,qE _,fun _=>rfl⟩
  ·intro j es b s hj hb _;obtain ⟨es0,h0⟩:=hg2 j es hj;exact ⟨j,es0,s,h0,hb⟩
 refine ⟨⟨hs.okS,hs.glob,?_,?_⟩,hev⟩
 ·intro a c es es' b s s' ha hc hb zC;obtain ⟨e1,h1⟩:=hg2 a es ha;obtain ⟨e2,h2⟩:=hg2 c es' hc;exact hs.inj a c e1 e2 b s s' h1 h2 hb zC
 ·intro j es hj;rcases hg j es hj with ⟨rfl,rfl⟩ | ⟨_,h⟩
  ·obtain ⟨b,arr,e,fr,k1,k2,k3,k4,k5,k6,k7,k8⟩:=hs.blk j ds hd;have XJ:=hr b arr e fr k1 k3;refine ⟨b,arr,e,fr,k1,k2,k3,by rw [← hl];exact k4,k5,k6,fun d hm=>?_,fun m d hm=>(XJ m d hm).lift⟩;obtain ⟨m,kb,zJ⟩:=List.mem_iff_getElem.1 hm;have hm3:es[m]? = some d:=(by rw [zn kb,zJ]);exact qgO (XJ m d hm3) (k6 m (by omega))
  ·obtain ⟨b,arr,e,fr,k1,k2,k3,k4,k5,k6,k7,k8⟩:=hs.blk j es h;exact ⟨b,arr,e,fr,k1,k2,k3,k4,k5,k6,k7,fun m d hm=>(k8 m d hm).evol hs hev (k8 m d hm).closed⟩
theorem qsx:Evol H.length ok w ι H ok w ι H :=
 ⟨rfl,rfl,rfl,qE _,fun _ _ _=>rfl,fun _ h=>h,fun _ h _=>.inl h,⟨qE _,qE _⟩,fun _ _ ds hd=>⟨ds,hd,qE _,fun _=>rfl⟩,fun i ds _ s hd hi _=>⟨i,ds,s,hd,hi⟩⟩
theorem qld {i:Nat} (h:QZ H i = some H') (hs:Sim X ok w ι H):∃ ok',Sim X ok' w ι H'∧Evol H.length ok w ι H ok' w ι H'∧H'.length = H.length:=by
 unfold QZ at h;split at h
 ·rename_i ds hd;split at h
  ·injection h with h;subst h;exact ⟨ok,hs,qsx,rfl⟩
  split at h
  ·rename_i ds' l kA;split at h
   ·cases h
   ·rename_i J8;injection h with h;subst h
    have QN:qf (jO H l) i = some ds:=by
     have:∀ (l:List Nat) (H:qe),qf H i = some ds→i ∉ l→qf (jO H l) i = some ds:=by
      intro l
      induction l with
      | nil=>intro H h _;exact h
      | cons a l ih =>
       intro H h hn;simp only [jT,not_or] at hn;refine ih _ ?_ hn.2;unfold qf at h ⊢
       rwa [List.getElem?_set_ne (Ne.symm hn.1)]
     exact this l H hd J8
    have hsc:=qfJ hs l
    have hst2:∀ b arr e fr,ι i = some (b,arr.size)→w.heap[b]? = some (.cells arr e fr)→ds.length = ds'.length∧∀ (j:Nat) d,ds'[j]? = some d→Rep (X7 ok ι H l) w jh [] d (arr.getD j undef):=by
     intro b arr e fr q1 q2;obtain ⟨b',arr',e',fr',k1,k2,k3,k4,k5,k6,k7,k8⟩:=hs.blk i ds hd;rw [q1] at k1;injection k1 with k1;injection k1 with k1a k1b;subst k1a;rw [q2] at k3;injection k3 with k3;injection k3 with k3a k3b k3c;subst k3a
     exact qcf (cond:=fun i=>∀ ds b s,qf H i = some ds→ι i = some (b,s)→X7 ok ι H l b) (fun d d' l' v hr hd hc=>qee hs (okF:=X7 ok ι H l) (fun b hb=>.inl hb) 9 d d' l' v hr hd hc) ds (vs:=fun j=>arr.getD j undef) k8 kA
      (fun i hi ds b s hd hb=>.inr ⟨i,ds,s,hi,hd,hb⟩)
    obtain ⟨b,arr,e,fr,k1,k2,k3,-⟩:=hs.blk i ds hd;obtain ⟨s1,s2⟩:=quu hsc QN (hst2 b arr e fr k1 k3).1 (fun b arr e fr q1 q2=>(hst2 b arr e fr q1 q2).2);have hlen:(qn (jO H l) i ds').length = H.length:=(by rw [qn,ky,Zp]);rw [Zp] at s2;exact ⟨X7 ok ι H l,s1,(qdT (ok:=ok) (w:=w) (ι:=ι) (H:=H) l).trans s2,hlen⟩
  ·cases h
 ·cases h
theorem qim {e:qr}:∀ {ss:List Nat} {H H':qe} {ok:Nat→Prop},qcg e ss H = some H'→Sim X ok w ι H→∃ ok',Sim X ok' w ι H'∧Evol H.length ok w ι H ok' w ι H'∧H'.length = H.length
 | [],H,H',ok,h,hs=>by
  injection h with h;subst h;exact ⟨ok,hs,qsx,rfl⟩
 | s :: ss,H,H',ok,h,hs=>by
  have go:∀ {i:Nat},(match QZ H i with
   | some H'=>qcg e ss H'
   | none=>none) = some H'→∃ ok',Sim X ok' w ι H'∧Evol H.length ok w ι H ok' w ι H'∧H'.length = H.length:=by
   intro i h;split at h
   ·rename_i H1 h1;obtain ⟨ok1,k1,k2,k3⟩:=qld h1 hs;obtain ⟨ok2,j1,j2,j3⟩:=qim h k1;rw [k3] at j2 j3;exact ⟨ok2,j1,k2.trans j2,j3⟩
   ·cases h
  unfold qcg at h;split at h
  ·exact go h
  ·exact go h
  ·exact qim h hs
theorem q22 {F:zt} (hF:Vw X F) {f:Nat} {args:List D} {r:D} {vs:List Value} (h:Xv X F f args H = some (r,H')) (hs:Sim X ok w ι H) (hv:RepL ok w ι H args vs) :
  Goes X.P (callFunc f vs.toArray) w (Post X H.length ok w ι H r H'):=by
 unfold Xv at h;split at h
 ·exact qku hF (qhz h) hs hv
 ·split at h
  ·rename_i H1 hst;unfold qin at hst;split at hst
   ·obtain ⟨ok1,s1,hev,hlen⟩:=qld hst hs;refine (qku hF (qhz h) s1 ⟨hv.1,fun j d hj=>(hv.2 j d hj).evol hs hev (hv.2 j d hj).closed⟩).mono ?_;rintro v w' ⟨ι',ok',h1,h2,h3⟩;rw [hlen] at h3;exact ⟨ι',ok',h1,h2,hev.trans h3⟩
   ·cases hst
  ·cases h
theorem q2z {F:zt} (hF:Vw X F) {f:Nat} {args:List D} {r:D} {vs:List Value} (h:Vt X F f args H = some (r,H')) (hs:Sim X ok w ι H) (hv:RepL ok w ι H args vs) :
  Goes X.P (callFunc f vs.toArray) w (Post X H.length ok w ι H r H'):=by
 unfold Vt at h;split at h
 ·exact q22 hF h hs hv
 ·split at h
  ·rename_i args' l hst
   obtain ⟨s1,s2⟩:=qcf (cond:=fun i=>∀ ds b s,qf H i = some ds→ι i = some (b,s)→X7 ok ι H l b) (fun d d' l' v hr hd hc=>qee hs (okF:=X7 ok ι H l) (fun b hb=>.inl hb) 9 d d' l' v hr hd hc) args (vs:=fun j=>vs.getD j undef) hv.2 hst
    (fun i hi ds b s hd hb=>.inr ⟨i,ds,s,hi,hd,hb⟩)
   refine (qku hF (qhz h) (qfJ hs l) ⟨by rw [hv.1,s1],fun j d hj=>(s2 j d hj).lift⟩).mono ?_;rintro v w' ⟨ι',ok',h1,h2,h3⟩;rw [Zp] at h3;exact ⟨ι',ok',h1,h2,(qdT l).trans h3⟩
  ·cases h
theorem qh0 {F:zt} {f:Nat} {args:List D} {H:qe} (hp:(X.perm f && !X.pureF f && !X.byRef f) = false) (hb:(X.perm f && X.byRef f) = false):Vt X F f args H = Zy X F f args H:=by
 unfold Vt Xv;rw [hp,hb]
theorem RepL.append {xs ys:List D} {vs us:List Value} (h1:RepL ok w ι H xs vs) (h2:RepL ok w ι H ys us):RepL ok w ι H (xs ++ ys) (vs ++ us):=by
 refine ⟨by simp [h1.1,h2.1],fun j d hj=>?_⟩;rw [j8];by_cases qg:j < xs.length
 ·rw [kg qg] at hj;rw [kg (by rw [h1.1];exact qg)];have:=h1.2 j d hj
  rwa [j8] at this
 ·rw [kU (by omega)] at hj;rw [kU (by rw [h1.1];omega),h1.1];have:=h2.2 _ d hj
  rwa [j8] at this
theorem qlY {ds:List D} {vs:Array Value} (hl:vs.size = ds.length) (h:∀ (j:Nat) d,ds[j]? = some d→Rep ok w ι H d (vs.getD j undef)):RepL ok w ι H ds vs.toList :=
 ⟨by simpa using hl,fun j d hj=>by
  have:=h j d hj;simpa [jl,j8] using this⟩
theorem Jw {d:D} {ds:List D} {vs:List Value} (h:RepL ok w ι H (d :: ds) vs):∃ v us,vs = v :: us∧Rep ok w ι H d v∧RepL ok w ι H ds us:=by
 cases vs with
 | nil=>have:=h.1;simp at this
 | cons v us=>exact ⟨v,us,rfl,h.2 0 d rfl,by have:=h.1;simpa using this,fun j x hj=>h.2 (j+1) x (by simpa using hj)⟩
theorem qcl {vs:List Value} (h:RepL ok w ι H [] vs):vs = []:=qdw (by simpa using h.1)
theorem Zd {α:Type} {x:Option α} {H H':qe} {d:α} (h:x.map (·,H) = some (d,H')):x = some d∧H = H':=by
 cases x with
 | none=>simp at h
 | some y=>simp only [jj,qw,zm] at h;exact ⟨by rw [h.1],h.2⟩
theorem qna {mx:Bool} {args:List D} {d:D} {vs:List Value} (hv:RepL ok w ι H args vs) (h:qft mx args = some d) {P:Program} {ts:Array TypeId} {t:TypeId} :
  ∃ v,((if mx then Builtin.max_ else Builtin.min_) ts t vs.toArray).run P w = .ok v w∧Rep ok w ι H d v:=by
 unfold qft at h;split at h
 ·split at h
  ·rename_i k a k' b hk;subst hk;injection h with h;subst h;obtain ⟨v1,us,rfl,r1,h2⟩:=Jw hv;obtain ⟨v2,us,rfl,r2,h3⟩:=Jw h2;obtain rfl:=qcl h3;cases r1;cases r2;cases mx
   ·exact ⟨_,by simp [Builtin.min_,Builtin.min2],.int _ _⟩
   ·exact ⟨_,by simp [Builtin.max_,Builtin.max2],.int _ _⟩
  ·cases h
 ·cases h
theorem q27 {b:Builtin} {ts:Array TypeId} {t:TypeId} {cst:Array Bool} {args:List D} {d:D} {vs:List Value} (hs:Sim X ok w ι H) (hv:RepL ok w ι H args vs) (h:qdl X b ts.toList args H = some (d,H')) :
  Goes X.P (builtin b ts t cst vs.toArray) w (Post X H.length ok w ι H d H'):=by
 unfold qdl at h;split at h
 ·rename_i t0 tr x xr hts;cases hl:zf X.P t0 x with
  | none=>simp [hl] at h
  | some r =>
   simp only [hl,jj,qw,zm] at h;obtain ⟨rfl,rfl⟩:=h;obtain ⟨v,us,rfl,r1,_⟩:=Jw hv;obtain ⟨rv,q1,q2⟩:=qx7 (P:=X.P) (ty:=t) (ts:=ts) (vs:=(v :: us).toArray) (by rw [← Array.getElem?_toList,hts];rfl) (by simp) r1 hl;exact Goes.value (by simp [builtin,q1]) (Post.same hs q2)
 ·rename_i t0 u tr s x xr hts;obtain ⟨v1,us,rfl,r1,h2⟩:=Jw hv;obtain ⟨v2,us,rfl,r2,h3⟩:=Jw h2;obtain ⟨rv,w1,q1,q2⟩:=q2S (P:=X.P) (ty:=t) hs r1 r2 h;refine Goes.value (w':=w1) (v:=rv) ?_ q2;have e1:ts[0]? = some t0:=by rw [← Array.getElem?_toList,hts];rfl
  have e2:ts[1]? = some u:=by rw [← Array.getElem?_toList,hts];rfl
  have e3:Builtin.append_ ts t (v1 :: v2 :: us).toArray = Builtin.append_ #[t0,u] t #[v1,v2]:=by
   simp only [Builtin.append_,e1,e2];rfl
  simp [builtin,e3,q1]
 ·rename_i t0 u tr s x xr hts;obtain ⟨v1,us,rfl,r1,h2⟩:=Jw hv;obtain ⟨v2,us,rfl,r2,h3⟩:=Jw h2;obtain ⟨rv,w1,q1,q2⟩:=q13 (P:=X.P) (ty:=t) hs r1 r2 h;refine Goes.value (w':=w1) (v:=rv) ?_ q2;have e1:ts[0]? = some t0:=by rw [← Array.getElem?_toList,hts];rfl
  have e3:Builtin.copy_ ts t (v1 :: v2 :: us).toArray = Builtin.copy_ #[t0,u] t #[v1,v2]:=by
   simp only [Builtin.copy_,e1];rfl
  simp [builtin,e3,q1]
 ·obtain ⟨hm,rfl⟩:=Zd h;obtain ⟨v,q1,q2⟩:=qna (P:=X.P) (ts:=ts) (t:=t) hv hm;simp only [QE,if_false] at q1;exact Goes.value (by simp [builtin,q1]) (Post.same hs q2)
 ·obtain ⟨hm,rfl⟩:=Zd h;obtain ⟨v,q1,q2⟩:=qna (P:=X.P) (ts:=ts) (t:=t) hv hm;simp only [if_true] at q1;exact Goes.value (by simp [builtin,q1]) (Post.same hs q2)
 ·rename_i t0 tr x xr hts;obtain ⟨v,us,rfl,r1,_⟩:=Jw hv;obtain ⟨rv,w1,q1,q2⟩:=q2c (P:=X.P) (ty:=t) (ts:=ts) (us:=(v :: us).toArray) (by rw [← Array.getElem?_toList,hts];rfl) (by simp) hs r1 h;exact Goes.value (w':=w1) (v:=rv) (by simp [builtin,q1]) q2
 ·cases h
theorem qti {t:TypeId} {cs:List D} (hs:Sim X ok w ι H) (h:(KQ X.P t).bind cellsOf = some cs):∃ v w',(Instr.alloc t true (.tuple #[])).run X.P w = .ok v w'∧Post X H.length ok w ι H (.optr H.length cs.length 0) (qs H cs) v w':=by
 cases hz:KQ X.P t with
 | none=>simp [hz] at h
 | some z =>
  simp only [hz,qaW] at h;obtain ⟨zv,z1,z2⟩:=qeK hz;obtain ⟨c1,c2,c3⟩:=qaS (z2 ok w ι H) h
  obtain ⟨ι',n1,n2,n3⟩:=qeq (e:=t) (arr:=zv.cells) (ds:=cs) hs w ⟨rfl,rfl,rfl⟩ rfl (by omega)
   (fun j hj=>by
    have QM:cs[j]? = some (cs[j]'(by omega)):=zn (by omega);exact (c3 j _ QM).oneCell (c2 _ (mem_of_get? QM)))
   c2 c3
  refine ⟨.pointer (some ⟨w.heap.size,0,none⟩),w.alloc (.cells zv.cells t),by simp [Instr.alloc,z1,newVar,newRow],ι',ok,n1,?_,n2⟩;refine .optr _ (by rw [zW];omega) fun ds hd=>?_;rw [zA] at hd;injection hd with hd;subst hd;exact ⟨qE _,fun _=>⟨_,_,n3,rfl⟩⟩
theorem q2C {t:TypeId} {d:D} {v:Value} {cs:List D} (hs:Sim X ok w ι H) (hd:Rep ok w ι H d v) (h:cellsOf d = some cs):∃ v' w',(Instr.box t v).run X.P w = .ok v' w'∧Post X H.length ok w ι H (.optr H.length cs.length 0) (qs H cs) v' w':=by
 obtain ⟨c1,c2,c3⟩:=qaS hd h
 obtain ⟨ι',n1,n2,n3⟩:=qeq (e:=t) (arr:=v.cells) (ds:=cs) hs w ⟨rfl,rfl,rfl⟩ rfl (by omega)
  (fun j hj=>by
   have QM:cs[j]? = some (cs[j]'(by omega)):=zn (by omega);exact (c3 j _ QM).oneCell (c2 _ (mem_of_get? QM)))
  c2 c3
 refine ⟨.pointer (some ⟨w.heap.size,0,none⟩),w.alloc (.cells v.cells t),by simp [Instr.box,newVar,newRow],ι',ok,n1,?_,n2⟩;refine .optr _ (by rw [zW];omega) fun ds hd=>?_;rw [zA] at hd;injection hd with hd;subst hd;exact ⟨qE _,fun _=>⟨_,_,n3,rfl⟩⟩
theorem qg1 (hs:Sim X ok w ι H) {e:qr} {a:Act} (he:EnvRep ok w ι H e a.tmps) {x:Operand} {d:D} (h:qW X e x = some d):∀ y,some d = some y→∃ v,(some x:Option Operand).map a.eval = some v∧Rep ok w ι H y v:=by
 intro y hy;injection hy with hy;subst hy;exact ⟨_,rfl,vi hs he h⟩
theorem qm9 {F:zt} (hF:Vw X F) {o:Oper} {e:qr} {a:Act} {d:D} (hs:Sim X ok w ι H) (he:EnvRep ok w ι H e a.tmps) (h:zw X F o.op e H = some (d,H')) :
  Goes X.P (execOp a.eval o) w (Post X H.length ok w ι H d H'):=by
 have pure_:∀ {v:Value} {d:D},Rep ok w ι H d v→∀ {s:Sem Next},s.run X.P w = .ok (.value v) w→Goes X.P s w (Post X H.length ok w ι H d H):=fun hr _ h=>Goes.value h (Post.same hs hr);unfold zw at h;split at h
 ·rename_i x ho;obtain ⟨h1,rfl⟩:=Zd h;exact pure_ (vi hs he h1) (by simp [execOp,ho])
 ·rename_i x ho;obtain ⟨h1,rfl⟩:=Zd h;exact pure_ (vi hs he h1) (by simp [execOp,ho])
 ·rename_i c x y ho;split at h
  ·rename_i t hc;obtain ⟨h1,rfl⟩:=Zd h;have hb:=vi hs he hc;generalize Jf:a.eval c = cv at hb;cases hb;refine pure_ (v:=a.eval (if t then x else y)) (vi hs he h1) ?_;cases t <;> simp [execOp,ho,Jf,asBool]
  ·cases h
 ·rename_i t ho;split at h
  ·rename_i cs hz;injection h with h;injection h with h1 h2;subst h1;subst h2;obtain ⟨v,w1,q1,q2⟩:=qti hs hz;exact Goes.value (by simp [execOp,ho,q1]) q2
  ·cases h
 ·rename_i t x ho;split at h
  ·rename_i cs hz;split at h
   ·injection h with h;injection h with h1 h2;subst h1;subst h2;cases hx:qW X e x with
    | none=>simp [hx] at hz
    | some dx =>
     simp only [hx,qaW] at hz;obtain ⟨v,w1,q1,q2⟩:=q2C (t:=t) hs (vi hs he hx) hz;exact Goes.value (by simp [execOp,ho,q1]) q2
   ·cases h
  ·cases h
 ·rename_i t parts ho;split at h
  ·rename_i ps hps;obtain ⟨h1,rfl⟩:=Zd h;obtain ⟨v,q1,q2⟩:=q29 (P:=X.P) (vps:=parts.map fun (i,x)=>(i,a.eval x)) (by simpa using qgx hs he hps) h1;exact pure_ q2 (by simp [execOp,ho,q1])
  ·cases h
 ·rename_i t len parts ho;split at h
  ·rename_i ps hps;obtain ⟨v,w1,q1,q2⟩:=q2A (P:=X.P) (vps:=parts.map fun (i,x)=>(i,a.eval x)) hs (by simpa using qgx hs he hps) h;exact Goes.value (by simp [execOp,ho,q1]) q2
  ·cases h
 ·rename_i t p ho;split at h
  ·rename_i pd hp;obtain ⟨h1,rfl⟩:=Zd h;obtain ⟨v,q1,q2⟩:=qno hs (vi hs he hp) h1;exact pure_ q2 (by simp [execOp,ho,q1])
  ·cases h
 ·rename_i t p x ho;split at h
  ·rename_i pd xd hp hx;cases hst:stD X.P H t pd xd with
   | none=>simp [hst] at h
   | some H1 =>
    simp only [hst,jj,qw,zm] at h;obtain ⟨rfl,rfl⟩:=h;obtain ⟨w1,ι',q1,q2,q3⟩:=qtZ hs (vi hs he hp) (vi hs he hx) hst;exact Goes.skip (by simp [execOp,ho,q1]) ⟨ι',ok,q2,.tup rfl (by simp),q3⟩
  ·cases h
 ·rename_i x ho;split at h
  ·rename_i cs hx;injection h with h;injection h with h1 h2;subst h1;subst h2;have hb:=vi hs he hx;generalize Jf:a.eval x = cv at hb;refine pure_ hb ?_;cases hb;simp [execOp,ho,Jf]
  ·rename_i i st off hx;injection h with h;injection h with h1 h2;subst h1;subst h2;have hb:=vi hs he hx;generalize Jf:a.eval x = cv at hb;refine pure_ hb ?_;cases hb;simp [execOp,ho,Jf]
  ·rename_i f caps hx;injection h with h;injection h with h1 h2;subst h1;subst h2;have hb:=vi hs he hx;generalize Jf:a.eval x = cv at hb;refine pure_ hb ?_;cases hb;simp [execOp,ho,Jf]
  ·rename_i t d hx;injection h with h;injection h with h1 h2;subst h1;subst h2;have hb:=vi hs he hx;generalize Jf:a.eval x = cv at hb;refine pure_ hb ?_;cases hb;simp [execOp,ho,Jf]
  ·cases h
 ·rename_i op t x y yt ho;split at h
  ·rename_i p q hx hy;obtain ⟨h1,rfl⟩:=Zd h;obtain ⟨v,q1,q2⟩:=q2G (P:=X.P) (x:=x) (y:=y) (vi hs he hx) (vi hs he hy) h1;have e:execOp a.eval o = (do let r ← (do eqGuard op t x y (a.eval x) (a.eval y);binOp op t (a.eval x) (a.eval y):Sem Value);pure (.value r)):=(by simp only [execOp,ho]);exact pure_ q2 (by rw [e,Sem.run_bind,q1];rfl)
  ·cases h
 ·rename_i op t x ho;split at h
  ·rename_i p hx;obtain ⟨h1,rfl⟩:=Zd h;obtain ⟨v,q1,q2⟩:=qt8 (P:=X.P) (vi hs he hx) h1;exact pure_ q2 (by simp [execOp,ho,q1])
  ·cases h
 ·rename_i s t x ho;split at h
  ·rename_i p hx;obtain ⟨v,w1,q1,q2⟩:=qsk (P:=X.P) hs (vi hs he hx) h;exact Goes.value (by simp [execOp,ho,q1]) q2
  ·cases h
 ·rename_i t x ho;split at h
  ·cases h
  ·rename_i p u hu hx hni;injection h with h;injection h with h1 h2;subst h1;subst h2;refine pure_ (.iface (vi hs he hx)) ?_;simp only [execOp,ho,Instr.makeInterface,Sem.run_bind,run_underlying hni,Result.andThen_ok];cases u <;> first | rfl | exact absurd rfl (hu _)
  ·cases h
 ·rename_i f first caps ho
  split at h
  ·rename_i hfe;cases hcs:vL X e caps.toList with
   | none=>simp [hcs] at h
   | some cs =>
    simp only [hcs,jj,qw,zm] at h;obtain ⟨rfl,rfl⟩:=h;obtain ⟨l1,l2⟩:=qfo hs he hcs;have hf0:first = #[]:=by simpa using hfe
    subst hf0;refine pure_ (v:=.func (.func f) #[] (caps.map a.eval)) (.fn (by simpa using l1) fun j d hj=>?_) (by simp [execOp,ho,Instr.makeFunc]);have:=l2 j d hj;simpa [jl,j8] using this
  ·cases h
 ·rename_i t l c ho;split at h
  ·rename_i ld cd hl hc;obtain ⟨v,w1,q1,q2⟩:=qxx (P:=X.P) hs (vi hs he hl) (vi hs he hc) h;exact Goes.value (by simp [execOp,ho,q1]) q2
  ·cases h
 ·rename_i t x lo hi ho;split at h
  ·rename_i p hx Zu YE;obtain ⟨h1,rfl⟩:=Zd h;have e1:lo = none:=(by cases lo <;> simp_all);have e2:hi = none:=(by cases hi <;> simp_all);subst e1;subst e2;obtain ⟨v,q1,q2⟩:=qgh (P:=X.P) (lov:=none) (hiv:=none) hs (vi hs he hx) (fun _ h=>by cases h) (fun _=>rfl) (fun _ h=>by cases h) (fun _=>rfl) h1;exact pure_ q2 (by simp [execOp,ho,q1])
  ·rename_i p l hx Zu YE;obtain ⟨h1,rfl⟩:=Zd h;have e2:hi = none:=(by cases hi <;> simp_all);subst e2;cases lo with
   | none=>simp at Zu
   | some lo =>
    simp only [jj,qw] at Zu;obtain ⟨v,q1,q2⟩:=qgh (P:=X.P) (lov:=some (a.eval lo)) (hiv:=none) hs (vi hs he hx) (qg1 hs he Zu) (fun h=>by cases h) (fun _ h=>by cases h) (fun _=>rfl) h1;exact pure_ q2 (by simp [execOp,ho,q1])
  ·rename_i p l hx Zu YE;obtain ⟨h1,rfl⟩:=Zd h;have e1:lo = none:=(by cases lo <;> simp_all);subst e1;cases hi with
   | none=>simp at YE
   | some hi =>
    simp only [jj,qw] at YE;obtain ⟨v,q1,q2⟩:=qgh (P:=X.P) (lov:=none) (hiv:=some (a.eval hi)) hs (vi hs he hx) (fun _ h=>by cases h) (fun _=>rfl) (qg1 hs he YE) (fun h=>by cases h) h1;exact pure_ q2 (by simp [execOp,ho,q1])
  ·rename_i p l l' hx Zu YE;obtain ⟨h1,rfl⟩:=Zd h;cases lo with
   | none=>simp at Zu
   | some lo =>
    cases hi with
    | none=>simp at YE
    | some hi =>
     simp only [jj,qw] at Zu YE;obtain ⟨v,q1,q2⟩:=qgh (P:=X.P) (lov:=some (a.eval lo)) (hiv:=some (a.eval hi)) hs (vi hs he hx) (qg1 hs he Zu) (fun h=>by cases h) (qg1 hs he YE) (fun h=>by cases h) h1;exact pure_ q2 (by simp [execOp,ho,q1])
  ·cases h
 ·rename_i s x f ho;split at h
  ·rename_i p hx;obtain ⟨h1,rfl⟩:=Zd h;obtain ⟨v,q1,q2⟩:=q0J (P:=X.P) (vi hs he hx) h1;exact pure_ q2 (by simp [execOp,ho,q1])
  ·cases h
 ·rename_i s x f ho;split at h
  ·rename_i p hx;obtain ⟨h1,rfl⟩:=Zd h;obtain ⟨v,q1,q2⟩:=q0I (P:=X.P) (vi hs he hx) h1;exact pure_ q2 (by simp [execOp,ho,q1])
  ·cases h
 ·rename_i t x i ho;split at h
  ·rename_i p q hx hy;obtain ⟨h1,rfl⟩:=Zd h;obtain ⟨v,q1,q2⟩:=qzu (P:=X.P) (vi hs he hx) (vi hs he hy) h1;exact pure_ q2 (by simp [execOp,ho,q1])
  ·cases h
 ·rename_i t x i ho;split at h
  ·rename_i p q hx hy;obtain ⟨h1,rfl⟩:=Zd h;obtain ⟨v,q1,q2⟩:=qzs (P:=X.P) (vi hs he hx) (vi hs he hy) h1;exact pure_ q2 (by simp [execOp,ho,q1])
  ·cases h
 ·rename_i x i ho;split at h
  ·rename_i cs hx;obtain ⟨h1,rfl⟩:=Zd h;have hb:=vi hs he hx;generalize Jf:a.eval x = cv at hb;cases hb with
   | @tup _ _ _ vs hl hh =>
    have qg:i < vs.size:=(by rw [hl];exact (List.getElem?_eq_some_iff.1 h1).1);have hr:=hh i d h1;rw [jl,Z2 qg] at hr;exact pure_ (v:=vs[i]) hr (by simp [execOp,ho,Jf,Instr.extract,qg])
  ·cases h
 ·rename_i c ho;split at h
  ·rename_i b args hcal qbD;have hv:=qfo hs he qbD;have:=q27 (t:=o.type) (cst:=c.args.map fun | .const _=>true | _=>false) hs hv h
   have e:execOp a.eval o = builtin b c.argTypes o.type (c.args.map fun | .const _=>true | _=>false) (c.args.toList.map a.eval).toArray:=by
    simp only [execOp,ho,resolve,hcal];simp only [pure_bind,invoke];congr 1;apply Array.ext';simp
   rw [e];exact this
  ·rename_i g args hcal qbD;split at h
   ·rename_i f caps hg;have hv:=qfo hs he qbD;have hb:=vi hs he hg;generalize Jf:a.eval g = cv at hb;cases hb with
    | @fn _ _ _ _ vs hl hh =>
     have:=q2z hF h hs (RepL.append hv (qlY hl hh))
     have e:execOp a.eval o = callFunc f ((c.args.toList.map a.eval) ++ vs.toList).toArray:=by
      simp only [execOp,ho,resolve,hcal,Jf,Deferred.ofValue];simp only [pure_bind,invoke];congr 1;apply Array.ext';simp
     rw [e];exact this
   ·cases h
  ·cases h
 ·cases h
end
end Go.Ev
namespace Go.Ev
section
variable {X:Cx} {P:Program} {ok ok':Nat→Prop} {w w':World} {ι:qV} {H H':qe}
theorem qlb {ds:List D} {b len c:Nat} {arr:Array Value} {e:TypeId} {fr:Nat × Nat} (hs:Sim X ok w ι H) (hw:YX w w') (jn:w.heap.size≤w'.heap.size) (hfr:∀ c,c < w.heap.size→w'.heap[c]? = w.heap[c]?)
  (hb:w'.heap[b]? = some (.cells arr e fr)) (qa4:w.heap.size≤b) (YG:ds.length≤arr.size) (Zx:∀ d,d∈ds→jg d = true) (kj:ds.all idFree = true) (zo:len≤c)
  (hrep:∀ (j:Nat) d,ds[j]? = some d→Rep ok w ι H d (arr.getD j undef)) :
  Post X H.length ok w ι H (.vsl false ds len) H (.slice (some ⟨b,0,none⟩) len c) w':=by
 have hblt:b < w'.heap.size:=(Array.getElem?_eq_some_iff.1 hb).1
 have hev:Evol H.length ok w ι H (fun x=>ok x∨x = b) w' ι H :=
  ⟨hw.1,hw.2.1,hw.2.2,jn,fun c hc _=>hfr c hc,fun _ h=>.inl h,fun x hx qg=>by
   rcases hx with hx | hx
   ·exact .inl hx
   ·omega,⟨qE _,qE _⟩,fun _ _ ds hd=>⟨ds,hd,qE _,fun _=>rfl⟩,fun i ds _ s hd hi _=>⟨i,ds,s,hd,hi⟩⟩
 have hsim:Sim X (fun x=>ok x∨x = b) w' ι H:=by
  refine ⟨fun x hx=>?_,fun g cs hg=>(((hs.glob g cs hg).lift (ι:=ι) (H:=H)).evol hs hev rfl).free rfl _ _,hs.inj,fun i es hd=>?_⟩
  ·rcases hx with hx | hx
   ·exact jZ (hs.okS x hx) jn
   ·omega
  ·obtain ⟨b',arr',e',fr',q1,q2,q3,q4,q5,q6,q7,q8⟩:=hs.blk i es hd;have qg:=hs.lt hd q1;refine ⟨b',arr',e',fr',q1,fun h=>?_,by rw [hfr b' qg];exact q3,q4,q5,q6,q7,fun j d hj=>(q8 j d hj).evol hs hev (q8 j d hj).closed⟩;rcases h with h | h
   ·exact q2 h
   ·omega
 refine ⟨ι,_,hsim,.vsl _ (fun j=>arr.getD j undef) (fun _ _=>.inr rfl) Zx (fun j d hj=>?_) (fun j d hj=>?_) zo,hev⟩
 ·have qg:j < arr.size:=jZ (List.getElem?_eq_some_iff.1 hj).1 YG;rw [JZ,Jo,Ye hb];simp [qg]
 ·exact ((hrep j d hj).evol hs hev (hrep j d hj).closed).free (qdp kj d (mem_of_get? hj)) _ _
theorem qx4 {t:TypeId} {len:Nat} {parts:List (Nat × D)} {vps:Array (Nat × Value)} {i st o n k:Nat} {ds:List D} (hs:Sim X ok w ι H) (hp:qdt ok w ι H parts vps.toList) (h:qbQ X.P [] t len parts = some (.osl i st o n k,[some ds])) :
  ∃ v w',(Instr.buildSlice t len vps).run X.P w = .ok v w'∧Post X H.length ok w ι H (.vsl false ds len) H v w':=by
 unfold qbQ at h;split at h
 ·rename_i e hu;split at h
  ·rename_i z hz;split at h
   ·rename_i hsmall;cases hf:XX (fun i=>some (i * qv X.P e,qv X.P e)) z parts with
    | none=>simp [hf] at h
    | some cs =>
     simp only [hf,qaW] at h;split at h
     ·rename_i hcs0;have hcs:cs.all idFree = true∧cs.length = len * qv X.P e:=⟨hcs0.1.resolve_left (by simp),hcs0.2⟩;clear hcs0;simp only [qs,Qu,qw,zm,List.cons.injEq,and_true] at h;obtain ⟨_,h2⟩:=h;subst h2;obtain ⟨zv,z1,z2,z3,z4,z5,z6,z7⟩:=qaY hz
      obtain ⟨zc,hzc1,hzc2,hzget⟩:∃ zc:Array Value,(len * qv X.P e = 0→zc = #[])∧(¬ len * qv X.P e = 0→zc = zv.cells) ∧
        ∀ j,j < len * qv X.P e→((Array.range (len * qv X.P e)).map (zc[· % zc.size]!)).getD j undef = zv.cells.getD (j % qv X.P e) undef:=by
       by_cases h0:len * qv X.P e = 0
       ·exact ⟨#[],fun _=>rfl,fun h=>absurd h0 h,fun j hj=>by omega⟩
       ·refine ⟨zv.cells,fun h=>absurd h h0,fun _=>rfl,fun j hj=>?_⟩;rw [qhM (by omega) hj,z2]
      obtain ⟨arr,q1,q2,q3,q4,q5⟩:=qf6 (place:=fun i=>some (i * qv X.P e,qv X.P e)) (arr:=(Array.range (len * qv X.P e)).map (zc[· % zc.size]!)) hp (by simp [z4]) z5
       (fun j d hj=>by
        rw [hzget j (by have:=(List.getElem?_eq_some_iff.1 hj).1;omega)];exact z7 ok w ι H j d hj) hf
      refine ⟨.slice (some ⟨w.heap.size,0,none⟩) len len,w.alloc (.cells arr e),?_,qlb hs ⟨rfl,rfl,rfl⟩ (by simp) (fun c hc=>heap_alloc_old w _ hc) (heap_alloc_new w _) (qE _) (by omega) q3 hcs.1 (qE _) q4⟩;simp only [Instr.buildSlice,Sem.run_bind,run_underlying hu,Result.andThen_ok,Qy z3];rw [if_neg (by simpa using hsmall)];by_cases h0:len * qv X.P e = 0
      ·rw [hzc1 h0] at q1;rw [if_pos h0];simp only [Sem.run_bind,Sem.run_pure,Result.andThen_ok,q1];simp [newRow]
      ·rw [hzc2 h0] at q1;rw [if_neg h0];simp only [Sem.run_bind,Sem.run_pure,Result.andThen_ok,z1,q1];simp [newRow]
     ·cases h
   ·cases h
  ·cases h
 ·cases h
theorem qx5 {src dst e:TypeId} {u:TypeDesc} {s:List UInt8} (hs:Sim X ok w ι H) (h1:X.P.underlying src = some u) (h2:X.P.underlying dst = some (.slice e)) (he:X.P.underlying e = some (.int .u8)) :
  ∃ v w',(convert src dst (.string ⟨s.toArray⟩)).run X.P w = .ok v w'∧Post X H.length ok w ι H (.vsl false (qd s) s.length) H v w':=by
 have jn:(⟨s.toArray⟩:ByteArray).size = s.length:=by simp [ByteArray.size]
 have vN:=grownCap_ge w s.length 0 e
 have hbs:(Lib.bytesCells w e ⟨s.toArray⟩).size = grownCap w s.length 0 e:=by
  unfold Lib.bytesCells;simp only [Array.size_append,Array.size_map,Array.size_replicate,jn];simp;omega
 have hbg:∀ j,j < s.length→(Lib.bytesCells w e ⟨s.toArray⟩).getD j undef = (Yx s).getD j undef:=by
  intro j hj;unfold Lib.bytesCells Yx;rw [jl,qfX (by simpa using hj),j8];simp
 have hrun:=Lib.run_convert_string_bytes w src dst e ⟨s.toArray⟩ h1 h2 he;rw [jn] at hrun
 refine ⟨_,_,hrun,qlb (w':=Lib.bytesWorld w e ⟨s.toArray⟩) (b:=w.heap.size) (arr:=Lib.bytesCells w e ⟨s.toArray⟩) (ds:=qd s) hs
  (by
   refine ⟨?_,?_,?_⟩ <;> (unfold Lib.bytesWorld World.freeze;split <;> rfl))
  (by rw [Lib.bytesWorld_size];omega) (fun c hc=>Lib.bytesWorld_at_old w e _ c hc) (Lib.bytesWorld_at_new w e _) (qE _) (by rw [hbs];simpa [qd] using vN)
  (fun d hd=>by
   simp only [qd,ZM] at hd;obtain ⟨_,_,rfl⟩:=hd;rfl)
  (by
   rw [qeH];intro d hd;simp only [qd,ZM] at hd;obtain ⟨_,_,rfl⟩:=hd;rfl) vN
  (fun j d hj=>by
   have KB:j < s.length:=by
    have:=(List.getElem?_eq_some_iff.1 hj).1;simpa [qd] using this
   rw [hbg j KB];exact qiZ s j d hj)⟩
theorem qiW {F:zt} (hF:Vw X F) {drw:Bool} {o:Oper} {e:qr} {a:Act} {d:D} (hs:Sim X ok w ι H) (he:EnvRep ok w ι H e a.tmps) (h:qX X F drw o.op e H = some (d,H')) :
  Goes X.P (execOp a.eval o) w (Post X H.length ok w ι H d H'):=by
 unfold qX at h;split at h
 ·rename_i t len parts ho;split at h
  ·rename_i ps hps;split at h
   ·rename_i ds hb;injection h with h;injection h with h1 h2;subst h1;subst h2;obtain ⟨v,w1,q1,q2⟩:=qx4 (vps:=parts.map fun (i,x)=>(i,a.eval x)) hs (by simpa using qgx hs he hps) hb;exact Goes.value (by simp [execOp,ho,q1]) q2
   ·cases h
  ·cases h
 ·rename_i s t x ho;split at h
  ·rename_i b u hx hu;split at h
   ·rename_i us hus hu8;injection h with h;injection h with h1 h2;subst h1;subst h2;have hb:=vi hs he hx;generalize Jf:a.eval x = cv at hb;cases hb;obtain ⟨v,w1,q1,q2⟩:=qx5 (s:=b) hs hus hu hu8;exact Goes.value (by simp [execOp,ho,Jf,q1]) q2
   ·cases h
  ·rename_i p _ hx;obtain ⟨v,w1,q1,q2⟩:=qsk (P:=X.P) hs (vi hs he (by assumption)) h;exact Goes.value (by simp [execOp,ho,q1]) q2
  ·cases h
 ·rename_i c ho
  have hh:zw X F (.call c) e H = some (d,H'):=by
   split at h
   ·cases h
   ·exact h
  rw [← ho] at hh;exact qm9 hF hs he hh
 ·exact qm9 hF hs he h
end
end Go.Ev
namespace Go.Ev
section
variable {X:Cx} {ok ok':Nat→Prop} {w w':World} {ι:qV} {H H':qe}
def qe3 (S:Nat→Prop) (o:Oper):Prop:= ∀ e,e∈o.after.toList→Region.binds .any e = true→S e.on
theorem qky {ops:Array Oper} {S:Nat→Prop} (zq:∀ (i:Nat) (o:Oper),ops[i]? = some o→S i→qe3 S o) {j i:Nat} {o:Oper} (hj:ops[j]? = some o)
  (hready:qe3 S o) (hb:((Region.before ops).getD j 0).testBit i = true):S i:=by
 have gen:∀ (l pre:List Oper) (acc:Array Nat),ops.toList = pre ++ l→acc.size = pre.length→(∀ j i,(acc.getD j 0).testBit i = true→∀ o,ops[j]? = some o→qe3 S o→S i) →
   ∀ j i,((l.foldl (fun acc o=>acc.push (o.after.foldl (fun s e=>if Region.binds .any e then s ||| 2 ^ e.on ||| acc.getD e.on 0 else s) 0)) acc).getD j 0).testBit i = true→∀ o,ops[j]? = some o→qe3 S o→S i:=by
  intro l
  induction l with
  | nil=>intro pre acc _ _ h;exact h
  | cons o l ih =>
   intro pre acc he jn hacc;simp only [List.foldl_cons];refine ih (pre ++ [o]) _ (by rw [he];simp) (by simp [jn]) ?_;intro j i hi o' ho' hed;by_cases qg:j < acc.size
   ·have:(acc.push (o.after.foldl (fun s e=>if Region.binds .any e then s ||| 2 ^ e.on ||| acc.getD e.on 0 else s) 0)).getD j 0 = acc.getD j 0:=by
     simp only [jl];rw [Array.getElem?_push,if_neg (by omega)]
    rw [this] at hi;exact hacc j i hi o' ho' hed
   ·by_cases hje:j = acc.size
    ·subst hje
     have:(acc.push (o.after.foldl (fun s e=>if Region.binds .any e then s ||| 2 ^ e.on ||| acc.getD e.on 0 else s) 0)).getD acc.size 0 = o.after.foldl (fun s e=>if Region.binds .any e then s ||| 2 ^ e.on ||| acc.getD e.on 0 else s) 0:=by
      simp only [jl];rw [Array.getElem?_push,if_pos rfl];rfl
     rw [this] at hi
     have hoo:o' = o:=by
      have h1:ops.toList[acc.size]? = some o:=(by rw [he,jn];simp);rw [Array.getElem?_toList,ho'] at h1;injection h1
     subst hoo;rw [← Array.foldl_toList] at hi
     have inner:∀ (es:List Edge) (s:Nat),(∀ e,e∈es→e∈o'.after.toList)→(∀ i,s.testBit i = true→S i) →
       ∀ i,(es.foldl (fun s e=>if Region.binds .any e then s ||| 2 ^ e.on ||| acc.getD e.on 0 else s) s).testBit i = true→S i:=by
      intro es
      induction es with
      | nil=>intro s _ hs i hi;exact hs i hi
      | cons e es ih2 =>
       intro s hes hs i hi;simp only [List.foldl_cons] at hi;refine ih2 _ (fun x hx=>hes x (Jr _ hx)) ?_ i hi;intro i hi;split at hi
       ·rename_i hbe;rw [Nat.testBit_or,Nat.testBit_or] at hi;simp only [qdY] at hi;have hse:=hed e (hes e (VW ..)) hbe;rcases hi with (hi | hi) | hi
        ·exact hs i hi
        ·rw [Nat.testBit_two_pow] at hi;have:e.on = i:=(by simpa using hi);rw [← this];exact hse
        ·by_cases Vg:e.on < acc.size
         ·have Zu:e.on < ops.size:=by
           have:ops.toList.length = pre.length+(o' :: l).length:=(by rw [he];simp);simp at this;omega
          have ho:=Z2 Zu;exact hacc e.on i hi _ ho (zq e.on _ ho hse)
         ·simp only [jl,qfW (show acc.size≤e.on by omega)] at hi;simp at hi
       ·exact hs i hi
     exact inner _ 0 (fun _ h=>h) (fun i hi=>by simp at hi) i hi
    ·simp only [jl] at hi;rw [qfW (by simp;omega)] at hi;simp at hi
 have:=gen ops.toList [] #[] rfl rfl (fun j i hi=>by simp at hi) j i;unfold Region.before at hb;rw [← Array.foldl_toList] at hb;exact this hb o hj hready
def qbT (X:Cx) (F:zt) (nt:Nat) (bw:Option Tmp→Bool) (ops:Array Oper) (o:Oper) (e:qr) (H:qe) (e1:qr) (H1:qe):Prop :=
 ke nt o.dst = true∧((vH ops e o.guard = some true∧∃ d,qX X F (bw o.dst) o.op e H = some (d,H1)∧e1 = jK e o.dst d)∨(vH ops e o.guard = some false∧H1 = H∧e1 = jK e o.dst (.tup [])))
theorem qkS {F:zt} {nt:Nat} {drw:Bool} {ops:Array Oper}:∀ {l:List Oper} {e e':qr} {H H':qe},vP X F nt drw ops l e H = some (e',H') →
  ∃ (E:Nat→qr) (T:Nat→qe),E 0 = e∧T 0 = H∧E l.length = e'∧T l.length = H'∧∀ k o,l[k]? = some o→qbT X F nt (fun _=>drw) ops o (E k) (T k) (E (k+1)) (T (k+1))
 | [],e,e',H,H',h=>by
  simp only [vP,qw,zm] at h;obtain ⟨rfl,rfl⟩:=h;exact ⟨fun _=>e,fun _=>H,rfl,rfl,rfl,rfl,fun k o hk=>by simp at hk⟩
 | o :: l,e,e',H,H',h=>by
  simp only [vP] at h
  have key:∀ e1 H1,qbT X F nt (fun _=>drw) ops o e H e1 H1→vP X F nt drw ops l e1 H1 = some (e',H')→∃ (E:Nat→qr) (T:Nat→qe),E 0 = e∧T 0 = H∧E (o :: l).length = e'∧T (o :: l).length = H' ∧
    ∀ k x,(o :: l)[k]? = some x→qbT X F nt (fun _=>drw) ops x (E k) (T k) (E (k+1)) (T (k+1)):=by
   intro e1 H1 hst hl;obtain ⟨E,T,k1,k2,k3,k4,k5⟩:=qkS hl;refine ⟨fun k=>match k with | 0=>e | k+1=>E k,fun k=>match k with | 0=>H | k+1=>T k,rfl,rfl,k3,k4,fun k x hx=>?_⟩;cases k with
   | zero =>
    simp only [Z1,qw] at hx;subst hx;simp only [k1,k2];exact hst
   | succ k=>exact k5 k x (by simpa using hx)
  split at h
  ·rename_i hd hg;split at h
   ·rename_i d H1 ho;exact key _ H1 ⟨hd,.inl ⟨hg,d,ho,rfl⟩⟩ h
   ·cases h
  ·rename_i hd hg;exact key _ H ⟨hd,.inr ⟨hg,rfl,rfl⟩⟩ h
  ·cases h
def q3r (X:Cx) (ops:Array Oper) (L:QP) (E:Nat→qr) (T:Nat→qe):Prop :=
 ∀ i j x y,ops[i]? = some x→ops[j]? = some y→L.contains (i,j) = true→i≠j→vH ops (E i) x.guard = some true→vH ops (E j) y.guard = some true →
  (T i).length≤(T (i+1)).length∧∀ b,b∈Q1 (y.op.operands.toList.map (qW X (E j)))→qf (T (i+1)) b = qf (T i) b
theorem qkR {F:zt} {nt:Nat} {ow:List Nat} {ops:Array Oper} {L:QP}:∀ {l:List Oper} {k:Nat} {ws:List (Nat × qe × qe)} {rs:List (Nat × List Nat)} {e e':qr} {H H':qe},Qi X F nt ow ops L k ws rs l e H = some (e',H') →
  ∃ (E:Nat→qr) (T:Nat→qe),E 0 = e∧T 0 = H∧E l.length = e'∧T l.length = H'∧∀ k o,l[k]? = some o→qbT X F nt (ZI ow) ops o (E k) (T k) (E (k+1)) (T (k+1))
 | [],k,ws,rs,e,e',H,H',h=>by
  simp only [Qi,qw,zm] at h;obtain ⟨rfl,rfl⟩:=h;exact ⟨fun _=>e,fun _=>H,rfl,rfl,rfl,rfl,fun k o hk=>by simp at hk⟩
 | o :: l,k,ws,rs,e,e',H,H',h=>by
  simp only [Qi] at h
  have key:∀ e1 H1 k ws rs,qbT X F nt (ZI ow) ops o e H e1 H1→Qi X F nt ow ops L k ws rs l e1 H1 = some (e',H')→∃ (E:Nat→qr) (T:Nat→qe),E 0 = e∧T 0 = H∧E (o :: l).length = e'∧T (o :: l).length = H' ∧
    ∀ k x,(o :: l)[k]? = some x→qbT X F nt (ZI ow) ops x (E k) (T k) (E (k+1)) (T (k+1)):=by
   intro e1 H1 k ws rs hst hl;obtain ⟨E,T,k1,k2,k3,k4,k5⟩:=qkR hl;refine ⟨fun k=>match k with | 0=>e | k+1=>E k,fun k=>match k with | 0=>H | k+1=>T k,rfl,rfl,k3,k4,fun k x hx=>?_⟩;cases k with
   | zero =>
    simp only [Z1,qw] at hx;subst hx;simp only [k1,k2];exact hst
   | succ k=>exact k5 k x (by simpa using hx)
  cases hd:ke nt o.dst with
  | false=>simp [hd] at h
  | true =>
   cases hg:vH ops e o.guard with
   | none=>simp [hd,hg] at h
   | some b =>
    cases b with
    | false =>
     simp only [hd,hg] at h;exact key _ H _ _ _ ⟨hd,.inr ⟨hg,rfl,rfl⟩⟩ h
    | true =>
     simp only [hd,hg] at h;cases ho:qX X F (ZI ow o.dst) o.op e H with
     | none=>simp [ho] at h
     | some q =>
      obtain ⟨d,H1⟩:=q;simp only [ho] at h;split at h
      ·exact key _ H1 _ _ _ ⟨hd,.inl ⟨hg,d,ho,rfl⟩⟩ h
      ·cases h
theorem qsP {L:QP} {k:Nat} {bs:List Nat}:∀ {ws:List (Nat × qe × qe)},YW L k bs ws→∀ {i:Nat} {A B:qe},(i,A,B)∈ws→L.contains (i,k) = true→∀ b,b∈bs→qf B b = qf A b
 | [],_,i,A,B,hm,_=>by cases hm
 | (i',A',B') :: ws,h,i,A,B,hm,hc=>by
  rcases List.mem_cons.1 hm with hm | hm
  ·injection hm with h1 h2;injection h2 with h2 h3;subst h1;subst h2;subst h3;exact h.1 hc
  ·exact qsP h.2 hm hc
theorem qsO {L:QP} {k:Nat} {A B:qe}:∀ {rs:List (Nat × List Nat)},YV L k A B rs→∀ {j:Nat} {bs:List Nat},(j,bs)∈rs→L.contains (k,j) = true→∀ b,b∈bs→qf B b = qf A b
 | [],_,j,bs,hm,_=>by cases hm
 | (j',bs') :: rs,h,j,bs,hm,hc=>by
  rcases List.mem_cons.1 hm with hm | hm
  ·injection hm with h1 h2;subst h1;subst h2;exact h.1 hc
  ·exact qsO h.2 hm hc
theorem qts {L:QP} {i j:Nat} (h:L.contains (i,j) = true):ZN L i = true∧ZS L j = true:=by
 rw [List.contains_iff_mem] at h;exact ⟨List.any_eq_true.2 ⟨_,h,by simp⟩,List.any_eq_true.2 ⟨_,h,by simp⟩⟩
theorem qib {F:zt} {nt:Nat} {ow:List Nat} {ops:Array Oper} {L:QP} {E:Nat→qr} {T:Nat→qe} (hst:∀ k o,ops[k]? = some o→qbT X F nt (ZI ow) ops o (E k) (T k) (E (k+1)) (T (k+1))) :
  ∀ (l:List Oper) (k:Nat) (ws:List (Nat × qe × qe)) (rs:List (Nat × List Nat)) (r:qr × qe),(∀ m,l[m]? = ops[k+m]?)→Qi X F nt ow ops L k ws rs l (E k) (T k) = some r →
   (∀ i x,i < k→ops[i]? = some x→ZN L i = true→vH ops (E i) x.guard = some true→(i,T i,T (i+1))∈ws∧(T i).length≤(T (i+1)).length) →
   (∀ j y,j < k→ops[j]? = some y→ZS L j = true→vH ops (E j) y.guard = some true→(j,Q1 (y.op.operands.toList.map (qW X (E j))))∈rs) →
   ∀ i j x y,ops[i]? = some x→ops[j]? = some y→L.contains (i,j) = true→i≠j→vH ops (E i) x.guard = some true→vH ops (E j) y.guard = some true→k≤max i j →
    (T i).length≤(T (i+1)).length∧∀ b,b∈Q1 (y.op.operands.toList.map (qW X (E j)))→qf (T (i+1)) b = qf (T i) b
 | [],k,ws,rs,r,hl,h,hws,hrs,i,j,x,y,hi,hj,hc,qQ,gi,gj,hm=>by
  exfalso;have Qa:=(Array.getElem?_eq_some_iff.1 hi).1;have QM:=(Array.getElem?_eq_some_iff.1 hj).1;have:=hl (max i j - k);rw [show k+(max i j - k) = max i j by omega,Z2 (by omega)] at this;simp at this
 | o :: l,k,ws,rs,r,hl,h,hws,hrs,i,j,x,y,hi,hj,hc,qQ,gi,gj,hm=>by
  have ho:ops[k]? = some o:=by have:=hl 0;simpa using this.symm
  have hl':∀ m,l[m]? = ops[k+1+m]?:=by
   intro m;have:=hl (m+1);rw [show k+1+m = k+(m+1) by omega,← this];simp
  obtain ⟨hd,hcase⟩:=hst k o ho;obtain ⟨w1,w2⟩:=qts hc;simp only [Qi,hd] at h;rcases hcase with ⟨hg,d,QL,hE⟩ | ⟨hg,hT,hE⟩
  ·simp only [hg,QL] at h;split at h
   ·rename_i hchk;rw [← hE] at h
    have hws':∀ i x,i < k+1→ops[i]? = some x→ZN L i = true→vH ops (E i) x.guard = some true→(i,T i,T (i+1))∈(if ZN L k then (k,T k,T (k+1)) :: ws else ws)∧(T i).length≤(T (i+1)).length:=by
     intro i x hik hi hwi Qb;by_cases hik':i = k
     ·subst hik';rw [if_pos hwi];exact ⟨VW ..,(hchk.2 hwi).1⟩
     ·obtain ⟨q1,q2⟩:=hws i x (by omega) hi hwi Qb;refine ⟨?_,q2⟩;split
      ·exact Jr _ q1
      ·exact q1
    have hrs':∀ j y,j < k+1→ops[j]? = some y→ZS L j = true→vH ops (E j) y.guard = some true→(j,Q1 (y.op.operands.toList.map (qW X (E j))))∈(if ZS L k then (k,Q1 (o.op.operands.toList.map (qW X (E k)))) :: rs else rs):=by
     intro j y hjk hj hrj hgj;by_cases hjk':j = k
     ·subst hjk';rw [ho] at hj;injection hj with hj;subst hj;rw [if_pos hrj];exact VW ..
     ·have q1:=hrs j y (by omega) hj hrj hgj;split
      ·exact Jr _ q1
      ·exact q1
    by_cases hmk:k+1≤max i j
    ·exact qib hst l (k+1) _ _ r hl' h hws' hrs' i j x y hi hj hc qQ gi gj hmk
    ·obtain ⟨q1,q2⟩:=hws' i x (by omega) hi w1 gi;refine ⟨q2,?_⟩;by_cases hik:i = k
     ·subst hik;rw [ho] at hi;injection hi with hi;subst hi;exact qsO (hchk.2 w1).2 (hrs j y (by omega) hj w2 gj) hc
     ·have hjk:j = k:=(by omega);subst hjk;rw [ho] at hj;injection hj with hj;subst hj;exact qsP (hchk.1 w2) (hws i x (by omega) hi w1 gi).1 hc
   ·cases h
  ·simp only [hg] at h;rw [← hE,← hT] at h
   have jo:∀ {q:Nat} {z:Oper},ops[q]? = some z→vH ops (E q) z.guard = some true→q≠k:=by
    rintro q z hq gq rfl;rw [ho] at hq;injection hq with hq;subst hq;rw [hg] at gq;cases gq
   have n1:=jo hi gi;have n2:=jo hj gj;exact qib hst l (k+1) ws rs r hl' h (fun i x hik hi hwi Qb=>hws i x (by have:=jo hi Qb;omega) hi hwi Qb) (fun j y hjk hj hrj hgj=>hrs j y (by have:=jo hj hgj;omega) hj hrj hgj) i j x y hi hj hc qQ gi gj (by omega)
theorem qwD {e1 e2:qr} {x:Operand} (h:∀ t,t∈qic x→qi e1 t = qi e2 t):qW X e1 x = qW X e2 x:=by
 cases x with
 | tmp t=>exact h t (by simp [qic])
 | _=>rfl
theorem qiV {e1 e2:qr}:∀ {l:List Operand},(∀ x,x∈l→qW X e1 x = qW X e2 x)→vL X e1 l = vL X e2 l
 | [],_=>rfl
 | x :: l,h=>by
  simp only [vL,h x (VW ..),qiV (fun y hy=>h y (Jr _ hy))]
theorem qgy {e1 e2:qr}:∀ {l:List (Nat × Operand)},(∀ x,x∈l.map (·.2)→qW X e1 x = qW X e2 x)→Ys X e1 l = Ys X e2 l
 | [],_=>rfl
 | (i,x) :: l,h=>by
  simp only [Ys,h x (by simp),qgy (l:=l) (fun y hy=>h y (by simp only [List.map_cons,jT];exact .inr hy))]
theorem qrH {F:zt} {o:Op} {e1 e2:qr} (h:∀ x,x∈o.operands.toList→qW X e1 x = qW X e2 x):zw X F o e1 H = zw X F o e2 H:=by
 cases o with
 | build t parts =>
  simp only [zw];rw [qgy (e2:=e2) (fun x hx=>h x (by simpa [Op.operands] using hx))]
 | buildSlice t n parts =>
  simp only [zw];rw [qgy (e2:=e2) (fun x hx=>h x (by simpa [Op.operands] using hx))]
 | makeFunc fn first caps =>
  cases fn with
  | func f =>
   simp only [zw]
   rw [qiV (e2:=e2) (fun x hx=>h x (by
    simp only [Op.operands,Array.toList_append,vW];exact .inr hx))]
  | _=>rfl
 | slice t x lo hi mx =>
  cases mx with
  | none =>
   have hx:=h x (by simp [Op.operands])
   have Zu:lo.map (qW X e1) = lo.map (qW X e2):=by
    cases lo with
    | none=>rfl
    | some l=>simp [h l (by simp [Op.operands])]
   have YE:hi.map (qW X e1) = hi.map (qW X e2):=by
    cases hi with
    | none=>rfl
    | some l=>simp [h l (by simp [Op.operands])]
   simp only [zw,hx,Zu,YE]
  | some m=>rfl
 | call c =>
  simp only [zw]
  have ha:vL X e1 c.args.toList = vL X e2 c.args.toList:=qiV fun x hx=>h x (by
   simp only [Op.operands,Call.operands,Array.toList_append,vW];exact .inr hx)
  rw [ha];cases hc:c.callee with
  | builtin b=>cases vL X e2 c.args.toList <;> rfl
  | value g =>
   have hg:=h g (by simp [Op.operands,Call.operands,hc]);cases vL X e2 c.args.toList with
   | none=>rfl
   | some args=>simp only [hg]
  | invoke r m=>cases vL X e2 c.args.toList <;> rfl
 | pick c a b =>
  simp only [zw];rw [h c (by simp [Op.operands])];split
  ·rename_i t _;cases t
   ·simp only [QE,if_false];rw [h b (by simp [Op.operands])]
   ·simp only [if_true];rw [h a (by simp [Op.operands])]
  ·rfl
 | move x=>simp only [zw,h x (by simp [Op.operands])]
 | assign x=>simp only [zw,h x (by simp [Op.operands])]
 | box t x=>simp only [zw,h x (by simp [Op.operands])]
 | load t x=>simp only [zw,h x (by simp [Op.operands])]
 | store t x y=>simp only [zw,h x (by simp [Op.operands]),h y (by simp [Op.operands])]
 | nilCheck x=>simp only [zw,h x (by simp [Op.operands])]
 | binOp op t x y u=>simp only [zw,h x (by simp [Op.operands]),h y (by simp [Op.operands])]
 | unOp op t x=>simp only [zw,h x (by simp [Op.operands])]
 | convert s d x=>simp only [zw,h x (by simp [Op.operands])]
 | makeInterface t x=>simp only [zw,h x (by simp [Op.operands])]
 | makeSlice t x y=>simp only [zw,h x (by simp [Op.operands]),h y (by simp [Op.operands])]
 | fieldAddr s x f=>simp only [zw,h x (by simp [Op.operands])]
 | field s x f=>simp only [zw,h x (by simp [Op.operands])]
 | indexAddr t x y=>simp only [zw,h x (by simp [Op.operands]),h y (by simp [Op.operands])]
 | index t x y=>simp only [zw,h x (by simp [Op.operands]),h y (by simp [Op.operands])]
 | extract x i=>simp only [zw,h x (by simp [Op.operands])]
 | _=>rfl
theorem q0W {F:zt} {drw:Bool} {o:Op} {e1 e2:qr} (h:∀ x,x∈o.operands.toList→qW X e1 x = qW X e2 x):qX X F drw o e1 H = qX X F drw o e2 H:=by
 unfold qX;split
 ·rw [qgy (e2:=e2) (fun x hx=>h x (by simpa [Op.operands] using hx))]
 ·rw [h _ (by simp [Op.operands])]
 ·rename_i c;rw [qrH (o:=.call c) h]
  have hd:KL X c e1 = KL X c e2:=by
   unfold KL;cases X.dynV with
   | false=>rfl
   | true =>
    cases hc:c.callee with
    | value g =>
     cases g with
     | tmp t =>
      have hg:qi e1 t = qi e2 t:=h (.tmp t) (by simp [Op.operands,Call.operands,hc]);simp only [hg]
     | _=>rfl
    | _=>rfl
  rw [hd]
 ·exact qrH h
theorem qjk {x:Option D} {d:D} (h:x.map (·,H) = some (d,H')):H' = H∧∀ H2:qe,x.map (·,H2) = some (d,H2):=by
 obtain ⟨rfl,rfl⟩:=Zd h;exact ⟨rfl,fun _=>rfl⟩
theorem q28 {b:Builtin} {ts:List TypeId} {args:List D} {d:D} (hb:b = .len∨b = .min∨b = .max) (h:qdl X b ts args H = some (d,H')):H' = H∧∀ H2,qdl X b ts args H2 = some (d,H2):=by
 rcases hb with rfl | rfl | rfl
 ·rcases ts with _ | ⟨t,ts⟩
  ·simp [qdl] at h
  ·rcases args with _ | ⟨x,args⟩
   ·simp [qdl] at h
   ·exact qjk h
 ·exact qjk h
 ·exact qjk h
theorem qxF {F:zt} {o:Op} {e:qr} {d:D} (hk:JL X o = .v) (h:qX X F true o e H = some (d,H')):H' = H∧∀ H2,qX X F true o e H2 = some (d,H2):=by
 have mp:∀ {x:Option D},x.map (·,H) = some (d,H')→H' = H∧∀ H2:qe,x.map (·,H2) = some (d,H2):=by
  intro x hx;obtain ⟨rfl,rfl⟩:=Zd hx;exact ⟨rfl,fun _=>rfl⟩
 cases o with
 | buildSlice t n parts =>
  simp only [qX] at h ⊢;split at h
  ·rename_i ps hp;split at h
   ·rename_i ds hb;injection h with h;injection h with h1 h2;subst h1;subst h2;exact ⟨rfl,fun H2=>rfl⟩
   ·cases h
  ·cases h
 | move x=>exact mp h
 | assign x=>exact mp h
 | pick c a b =>
  simp only [qX,zw] at h ⊢;split at h
  ·exact mp h
  ·cases h
 | build t parts =>
  simp only [qX,zw] at h ⊢;split at h
  ·exact mp h
  ·cases h
 | nilCheck x =>
  simp only [qX,zw] at h ⊢;split at h <;> first | (cases h;done) | skip
  all_goals
   injection h with h;injection h with h1 h2;subst h1;subst h2;exact ⟨rfl,fun _=>rfl⟩
 | binOp op t x y u =>
  simp only [qX,zw] at h ⊢;split at h
  ·exact mp h
  ·cases h
 | unOp op t x =>
  simp only [qX,zw] at h ⊢;split at h
  ·exact mp h
  ·cases h
 | makeInterface t x =>
  simp only [qX,zw] at h ⊢;split at h
  ·cases h
  ·injection h with h;injection h with h1 h2;subst h1;subst h2;exact ⟨rfl,fun _=>rfl⟩
  ·cases h
 | makeFunc fn first caps =>
  cases fn with
  | func f =>
   simp only [qX,zw] at h ⊢;split at h
   ·rename_i hf;cases hc:vL X e caps.toList with
    | none=>simp [hc] at h
    | some cs =>
     simp only [hc,jj,qw,zm] at h;obtain ⟨rfl,rfl⟩:=h;exact ⟨rfl,fun _=>by simp [hf]⟩
   ·cases h
  | _=>simp [qX,zw] at h
 | slice t x lo hi mx =>
  cases mx with
  | none =>
   simp only [qX,zw] at h ⊢;split at h <;> first | (cases h;done) | exact mp h
  | some m=>simp [qX,zw] at h
 | fieldAddr s x f =>
  simp only [qX,zw] at h ⊢;split at h
  ·exact mp h
  ·cases h
 | field s x f =>
  simp only [qX,zw] at h ⊢;split at h
  ·exact mp h
  ·cases h
 | indexAddr t x y =>
  simp only [qX,zw] at h ⊢;split at h
  ·exact mp h
  ·cases h
 | index t x y =>
  simp only [qX,zw] at h ⊢;split at h
  ·exact mp h
  ·cases h
 | extract x i =>
  simp only [qX,zw] at h ⊢;split at h
  ·exact mp h
  ·cases h
 | call c =>
  have hc:(c.callee = .builtin .len∨c.callee = .builtin .min∨c.callee = .builtin .max)∨(∃ f,c.callee = .value (.func f)∧(X.pureF f && !X.byRef f && !X.perm f) = true)∨(∃ t,c.callee = .value (.tmp t)∧X.dynV = true):=by
   simp only [JL] at hk;split at hk
   ·rename_i hc;exact .inl (.inl hc)
   ·rename_i hc;exact .inl (.inr (.inl hc))
   ·rename_i hc;exact .inl (.inr (.inr hc))
   ·rename_i f hc;refine .inr (.inl ⟨f,hc,?_⟩);split at hk
    ·cases hk
    ·rename_i hb;split at hk
     ·rename_i hp;split at hk
      ·cases hk
      ·rename_i Zg;rw [hp];simp [hb,Zg]
     ·split at hk <;> cases hk
   ·rename_i t hc;refine .inr (.inr ⟨t,hc,?_⟩);split at hk
    ·assumption
    ·cases hk
   ·cases hk
  have pureGo:∀ {f:Nat} {args:List D},(X.pureF f && !X.byRef f && !X.perm f) = true→Vt X F f args H = some (d,H')→H' = H∧∀ H2,Vt X F f args H2 = some (d,H2):=by
   intro f args hp0 h;rw [jk] at hp0;have hp:=hp0.1;have hpn:X.perm f = false:=by simpa using hp0.2
   have Zg:(X.perm f && !X.pureF f && !X.byRef f) = false:=by
    simp [hpn]
   have hpb:(X.perm f && X.byRef f) = false:=(by simp [hpn]);rw [qh0 Zg hpb] at h;obtain ⟨h4,h3,h1⟩:=qfM hp h;rcases h1 with ⟨h1,h2⟩ | ⟨_,h1,_⟩
   ·refine ⟨h4,fun H2=>?_⟩;rw [qh0 Zg hpb];unfold Zy;rw [if_pos hp,if_pos h1,h2];simp only at h3;simp only [h3,if_true]
   ·rw [hpn] at h1;cases h1
  rcases hc with hc | ⟨f,hc,hp⟩ | ⟨t,hc,hdy⟩
  rotate_left
  ·have hw:∀ H2,qX X F true (.call c) e H2 = zw X F (.call c) e H2:=fun H2=>by
    simp only [qX,KL,hc];cases X.dynV <;> rfl
   rw [hw] at h;simp only [hw];simp only [zw] at h ⊢;simp only [hc] at h ⊢;cases ha:vL X e c.args.toList with
   | none=>simp [ha] at h
   | some args =>
    simp only [ha,qW] at h ⊢;exact pureGo hp h
  ·simp only [qX] at h ⊢;split at h
   ·cases h
   ·rename_i hb;have zC:KL X c e = false:=(by simpa using hb);simp only [zC,QE,if_false];unfold KL at zC;simp only [hc,hdy] at zC;split at zC
    ·rename_i f caps hl;have hp:(X.pureF f && !X.byRef f && !X.perm f) = true:=(by simpa using zC);simp only [zw,hc] at h ⊢;cases ha:vL X e c.args.toList with
     | none=>simp [ha] at h
     | some args =>
      simp only [ha,qW,hl] at h ⊢;exact pureGo hp h
    ·cases zC
  have hw:∀ H2,qX X F true (.call c) e H2 = zw X F (.call c) e H2:=fun H2=>by
   simp only [qX,KL];rcases hc with hc | hc | hc <;> (simp only [hc];cases X.dynV <;> rfl)
  rw [hw] at h;simp only [hw];simp only [zw] at h ⊢;cases ha:vL X e c.args.toList with
  | none=>rcases hc with hc | hc | hc <;> simp [hc,ha] at h
  | some args=>rcases hc with hc | hc | hc <;> (simp only [hc,ha] at h ⊢;exact q28 (by simp) h)
 | load _ _=>simp [JL] at hk
 | convert _ _ _=>simp [JL] at hk
 | alloc _=>simp [JL] at hk
 | box _ _=>simp [JL] at hk
 | makeSlice _ _ _=>simp [JL] at hk
 | store _ _ _=>simp [JL] at hk
 | _=>simp [qX,zw] at h
theorem qnd {T1 T2:qe} {p:D} {cs:List D} (hg:∀ i,Yk p = some i→qf T1 i≠none→qf T2 i = qf T1 i) (h:Yz T1 p = some cs):Yz T2 p = some cs:=by
 cases p <;> simp only [Yz,reduceCtorEq] at h ⊢
 ·exact h
 ·rename_i i st off;split at h
  ·rename_i ds hd;have:=hg i rfl (by rw [hd];simp);rw [this,hd];exact h
  ·cases h
theorem qul {T1 T2:qe} {p:D} {k:Nat} {r:List D × Nat} (hg:∀ i,Yk p = some i→qf T1 i≠none→qf T2 i = qf T1 i) (h:Yn T1 k p = some r):Yn T2 k p = some r:=by
 cases p <;> simp only [Yn,reduceCtorEq] at h ⊢
 ·exact h
 ·rename_i i st off len k';split at h
  ·rename_i ds hd;have:=hg i rfl (by rw [hd];simp);rw [this,hd];exact h
  ·cases h
theorem qm8 {e:qr}:∀ {l:List Operand} {ds:List D},vL X e l = some ds→∀ d,d∈ds→∃ x,x∈l∧qW X e x = some d
 | [],ds,h,d,hd=>by
  simp only [vL,qw] at h;subst h;cases hd
 | x :: l,ds,h,d,hd=>by
  simp only [vL] at h;split at h
  ·rename_i d0 ds0 h1 h2;injection h with h;subst h;rcases List.mem_cons.1 hd with rfl | hd
   ·exact ⟨x,VW ..,h1⟩
   ·obtain ⟨y,hy,hyd⟩:=qm8 h2 d hd;exact ⟨y,Jr _ hy,hyd⟩
  ·cases h
mutual
theorem qrz (T1 T2:qe):∀ (d:D),idFree d = true→freeze T2 d = freeze T1 d
 | .agg cs,h=>by simp only [idFree] at h;simp only [freeze,qjD T1 T2 cs h]
 | .fn f cs,h=>by simp only [idFree] at h;simp only [freeze,qjD T1 T2 cs h]
 | .tup _,_=>rfl
 | .iface _ _,_=>rfl
 | .optr ..,h=>by simp [idFree] at h
 | .osl ..,h=>by simp [idFree] at h
 | .bool _,_=>rfl
 | .int _ _,_=>rfl
 | .str _,_=>rfl
 | .nilp,_=>rfl
 | .nilf,_=>rfl
 | .nili,_=>rfl
 | .raw _,_=>rfl
 | .vptr _,_=>rfl
 | .vsl ..,_=>rfl
theorem qjD (T1 T2:qe):∀ (cs:List D),idFree.idFreeL cs = true→freeze.freezeL T2 cs = freeze.freezeL T1 cs
 | [],_=>rfl
 | d :: l,h=>by
  simp only [idFree.idFreeL,jk] at h;simp only [freeze.freezeL,qrz T1 T2 d h.1,qjD T1 T2 l h.2]
end
theorem q0A {T1 T2:qe} {p:D} (hg:∀ i,Yk p = some i→qf T1 i≠none→qf T2 i = qf T1 i) (h:qaL T1 p = true):qaL T2 p = true∧freeze T2 p = freeze T1 p:=by
 cases p with
 | osl i st off len k =>
  simp only [qaL] at h;split at h
  ·rename_i ds hd;have e1:=hg i rfl (by rw [hd];simp);constructor
   ·simp only [qaL,e1,hd];exact h
   ·simp only [freeze,e1]
  ·cases h
 | optr i st off=>simp [qaL,idFree] at h
 | _=>exact ⟨h,qrz T1 T2 _ h⟩
theorem qr3 {T1 T2:qe}:∀ (args:List D),(∀ p,p∈args→∀ i,Yk p = some i→qf T1 i≠none→qf T2 i = qf T1 i)→args.all (qaL T1) = true→args.all (qaL T2) = true∧qbL T2 args = qbL T1 args
 | [],_,_=>⟨rfl,rfl⟩
 | p :: l,hg,h=>by
  simp only [VY,jk] at h;obtain ⟨a1,a2⟩:=q0A (hg p (VW ..)) h.1;obtain ⟨b1,b2⟩:=qr3 l (fun q hq=>hg q (Jr _ hq)) h.2;unfold qbL at b2 ⊢;exact ⟨by simp [a1,b1],by simp only [freeze.freezeL,a2,b2]⟩
theorem qxG {F:zt} {o:Op} {e:qr} {d:D} {T1 T2:qe} (hk:JL X o = .r) (h:qX X F true o e T1 = some (d,H'))
  (hg:∀ x,x∈o.operands.toList→∀ p i,qW X e x = some p→Yk p = some i→qf T1 i≠none→qf T2 i = qf T1 i):H' = T1∧qX X F true o e T2 = some (d,T2):=by
 cases o with
 | load t x =>
  simp only [qX,zw] at h ⊢;split at h
  ·rename_i p hp;obtain ⟨h1,rfl⟩:=Zd h;refine ⟨rfl,?_⟩
   have hl:ldD X.P T2 t p = some d:=by
    unfold ldD at h1 ⊢;split at h1
    ·rename_i cs hq hm;rw [qnd (hg x (by simp [Op.operands]) p · hp) hm];simp only [hq];exact h1
    ·rename_i x' l hq hm;rw [qnd (hg x (by simp [Op.operands]) p · hp) hm];simp only [hq];exact h1
    ·cases h1
   rw [hl];rfl
  ·cases h
 | convert s t x =>
  simp only [qX] at h ⊢;split at h
  ·rename_i b u hx hu;split at h
   ·injection h with h;injection h with h1 h2;subst h1;subst h2;exact ⟨rfl,rfl⟩
   ·cases h
  ·rename_i a hx _;have hgx:∀ i,Yk a = some i→qf T1 i≠none→qf T2 i = qf T1 i:=fun i=>hg x (by simp [Op.operands]) a i hx;unfold qde at h ⊢;split at h
   ·rename_i k k' n h1 h2;injection h with h;injection h with h3 h4;subst h3;subst h4;exact ⟨rfl,rfl⟩
   ·rename_i b h1 h2;injection h with h;injection h with h3 h4;subst h3;subst h4;exact ⟨rfl,rfl⟩
   ·injection h with h;injection h with h3 h4;subst h3;subst h4;exact ⟨rfl,rfl⟩
   ·exfalso
    simp_all
   ·rename_i e' _ h1 h2;split at h
    ·rename_i cs n he kA
     obtain ⟨h3,rfl⟩:((Vu cs).map fun s=>D.str s) = some d∧T1 = H':=by
      cases hb:Vu cs with
      | none=>simp [hb] at h
      | some s =>
       simp only [hb,jj,qw,zm] at h;exact ⟨by simp [h.1],h.2⟩
     refine ⟨rfl,?_⟩;rw [qul hgx kA];simp only [he];cases hb:Vu cs with
     | none=>simp [hb] at h3
     | some s=>simpa [hb] using h3
    ·cases h
   ·rename_i i st off len k h1 _ h2;split at h
    ·rename_i ds he hd;have e1:=hgx i rfl (by rw [hd];simp);split at h
     ·rename_i hc;injection h with h;injection h with h3 h4;subst h3;subst h4;refine ⟨rfl,?_⟩;rw [e1,hd];simp only [he,hc,and_self,if_true]
     ·cases h
    ·cases h
   ·cases h
  ·cases h
 | call c =>
  simp only [JL] at hk;split at hk <;> first | (cases hk;done) | skip
  ·rename_i f hc;split at hk
   ·cases hk
   ·rename_i hb;split at hk
    ·rename_i Q5;split at hk
     ·rename_i Xf;have hp:(X.pureF f && !X.byRef f) = true:=(by simp [Q5,hb]);have Zg:(X.perm f && !X.pureF f && !X.byRef f) = false:=by simp [Q5]
      have hw:∀ T,qX X F true (.call c) e T = zw X F (.call c) e T:=fun T=>by
       simp only [qX,KL,hc];cases X.dynV <;> rfl
      rw [hw] at h;rw [hw];simp only [zw,hc] at h ⊢;cases ha:vL X e c.args.toList with
      | none=>simp [ha] at h
      | some args =>
       simp only [ha,qW,KO] at h ⊢;rw [qh0 Zg (by simp [hb])] at h ⊢;obtain ⟨h4,h3,h1⟩:=qfM hp h;simp only at h3 h4 h1;refine ⟨h4,?_⟩;unfold Zy;rw [if_pos hp];rcases h1 with ⟨h1,h2⟩ | ⟨h1,hpe2,Jd,hv,args',QA,h2⟩
       ·rw [if_pos h1,h2];simp only [h3,if_true]
       ·obtain ⟨g1,g2⟩:=qr3 args (fun p Zg i hi qQ=>by
         obtain ⟨x,hx,hxp⟩:=qm8 ha p Zg
         exact hg x (by
          simp only [Op.operands,Call.operands,Array.toList_append,vW];exact .inr hx) p i hxp hi qQ) Jd
        rw [if_neg h1];simp only [hpe2,g1,Bool.and_self,if_true,g2,QA,h2,h3,hv]
     ·cases hk
    ·split at hk <;> cases hk
  ·split at hk <;> cases hk
 | _=>simp [JL] at hk
theorem qxI {F:zt} {o:Op} {e:qr} {d:D} (hk:JL X o = .e) (h:qX X F true o e H = some (d,H')):∃ N,H' = H ++ N:=by
 cases o with
 | alloc t =>
  simp only [qX,zw] at h;split at h
  ·injection h with h;injection h with h1 h2;exact ⟨_,h2.symm⟩
  ·cases h
 | box t x =>
  simp only [qX,zw] at h;split at h
  ·split at h
   ·injection h with h;injection h with h1 h2;exact ⟨_,h2.symm⟩
   ·cases h
  ·cases h
 | makeSlice t x y =>
  simp only [qX,zw] at h;split at h
  ·unfold qfu at h;split at h
   ·split at h
    ·simp only [Option.bind_eq_some_iff] at h;obtain ⟨z,_,h⟩:=h;split at h
     ·injection h with h;injection h with h1 h2;exact ⟨_,h2.symm⟩
     ·cases h
    ·cases h
   ·cases h
  ·cases h
 | call c =>
  simp only [JL] at hk;split at hk <;> first | (cases hk;done) | skip
  rotate_left
  ·split at hk <;> cases hk
  rename_i f hc;split at hk
  ·cases hk
  ·rename_i hnr
   have Zg:(X.perm f && !X.pureF f && !X.byRef f) = false:=by
    split at hk
    ·split at hk <;> cases hk
    ·split at hk
     ·cases hk
     ·rename_i hpp;simp [hpp]
   have hw:qX X F true (.call c) e H = zw X F (.call c) e H:=by
    simp only [qX,KL,hc];cases X.dynV <;> rfl
   rw [hw] at h;simp only [zw,hc] at h;cases ha:vL X e c.args.toList with
   | none=>simp [ha] at h
   | some args =>
    simp only [ha,qW] at h;rw [qh0 Zg (by simp [hnr])] at h;replace h:=qhz h;unfold Xu at h;rw [if_neg hnr] at h;split at h
    ·split at h
     ·cases h
     ·injection h with h;injection h with h1 h2;exact ⟨_,h2.symm⟩
    ·split at h
     ·cases h
     ·split at h
      ·cases h
      ·split at h
       ·injection h with h;injection h with h1 h2;exact ⟨_,h2.symm⟩
       ·cases h
 | _=>simp [JL] at hk
theorem qrI {F:zt} {o:Op} {e:qr}:qX X F false o e H = zw X F o e H:=by cases o <;> rfl
theorem qjq {bw:Bool} {F:zt} {o:Op}:(Zc X bw o = JL X o∧(∀ (e:qr) (H:qe),qX X F bw o e H = qX X F true o e H))∨(bw = false∧(Zc X bw o = .e∧((∃ t n ps,o = .buildSlice t n ps)∨∃ s d x,o = .convert s d x))∨(Zc X bw o = .m)):=by
 cases bw with
 | true=>exact .inl ⟨rfl,fun _ _=>rfl⟩
 | false =>
  cases o with
  | buildSlice t n ps=>exact .inr (.inl ⟨rfl,rfl,.inl ⟨t,n,ps,rfl⟩⟩)
  | convert s d x=>exact .inr (.inl ⟨rfl,rfl,.inr ⟨s,d,x,rfl⟩⟩)
  | call c =>
   cases hc:c.callee with
   | value g =>
    cases g with
    | tmp t=>exact .inr (.inr (by simp only [Zc,hc]))
    | _=>exact .inl ⟨by simp only [Zc,hc],fun e H=>by simp only [qX,KL,hc];cases X.dynV <;> rfl⟩
   | builtin b=>exact .inl ⟨by simp only [Zc,hc],fun e H=>by simp only [qX,KL,hc];cases X.dynV <;> rfl⟩
   | invoke r m=>exact .inl ⟨by simp only [Zc,hc],fun e H=>by simp only [qX,KL,hc];cases X.dynV <;> rfl⟩
  | _=>exact .inl ⟨rfl,fun _ _=>rfl⟩
theorem qqm {bw:Bool} {F:zt} {o:Op} {e:qr} {d:D} (hk:Zc X bw o = .v) (h:qX X F bw o e H = some (d,H')):H' = H∧∀ H2,qX X F bw o e H2 = some (d,H2):=by
 rcases qjq (X:=X) (bw:=bw) (F:=F) (o:=o) with ⟨h1,h2⟩ | ⟨_,h1,_⟩ | h1
 ·rw [h1] at hk;rw [h2] at h;simp only [h2];exact qxF hk h
 ·rw [h1] at hk;cases hk
 ·rw [h1] at hk;cases hk
theorem qqn {bw:Bool} {F:zt} {o:Op} {e:qr} {d:D} {T1 T2:qe} (hk:Zc X bw o = .r) (h:qX X F bw o e T1 = some (d,H'))
  (hg:∀ x,x∈o.operands.toList→∀ p i,qW X e x = some p→Yk p = some i→qf T1 i≠none→qf T2 i = qf T1 i):H' = T1∧qX X F bw o e T2 = some (d,T2):=by
 rcases qjq (X:=X) (bw:=bw) (F:=F) (o:=o) with ⟨h1,h2⟩ | ⟨_,h1,_⟩ | h1
 ·rw [h1] at hk;rw [h2] at h;rw [h2];exact qxG hk h hg
 ·rw [h1] at hk;cases hk
 ·rw [h1] at hk;cases hk
theorem q14 {P:Program} {s t:TypeId} {x d:D} (h:qde P H s t x = some (d,H')):∃ N,H' = H ++ N:=by
 unfold qde at h;split at h
 ·injection h with h;injection h with h1 h2;exact ⟨[],by simp [h2]⟩
 ·injection h with h;injection h with h1 h2;exact ⟨[],by simp [h2]⟩
 ·injection h with h;injection h with h1 h2;exact ⟨[],by simp [h2]⟩
 ·split at h
  ·injection h with h;injection h with h1 h2;exact ⟨_,h2.symm⟩
  ·cases h
 ·split at h
  ·rename_i cs n he kA;cases hb:Vu cs with
   | none=>simp [hb] at h
   | some s =>
    simp only [hb,jj,qw,zm] at h;exact ⟨[],by simp [h.2]⟩
  ·cases h
 ·split at h
  ·split at h
   ·injection h with h;injection h with h1 h2;exact ⟨[],by simp [h2]⟩
   ·cases h
  ·cases h
 ·cases h
theorem qx3 {P:Program} {t:TypeId} {n:Nat} {ps:List (Nat × D)} {d:D} (h:qbQ P H t n ps = some (d,H')):∃ N,H' = H ++ N:=by
 unfold qbQ at h;split at h
 ·split at h
  ·split at h
   ·simp only [Option.bind_eq_some_iff] at h;obtain ⟨cs,_,h⟩:=h;split at h
    ·injection h with h;injection h with h1 h2;exact ⟨_,h2.symm⟩
    ·cases h
   ·cases h
  ·cases h
 ·cases h
theorem qxH {bw:Bool} {F:zt} {o:Op} {e:qr} {d:D} (hk:Zc X bw o = .e) (h:qX X F bw o e H = some (d,H')):∃ N,H' = H ++ N:=by
 rcases qjq (X:=X) (bw:=bw) (F:=F) (o:=o) with ⟨h1,h2⟩ | ⟨rfl,h1,⟨t,n,ps,rfl⟩ | ⟨s,t,x,rfl⟩⟩ | h1
 ·rw [h1] at hk;rw [h2] at h;exact qxI hk h
 ·rw [qrI] at h;simp only [zw] at h;split at h
  ·exact qx3 h
  ·cases h
 ·rw [qrI] at h;simp only [zw] at h;split at h
  ·exact q14 h
  ·cases h
 ·rw [h1] at hk;cases hk
end
end Go.Ev
namespace Go.Ev
section
variable {X:Cx} {bw:Option Tmp→Bool} {L:QP} {al:Option Nat} {ok ok':Nat→Prop} {w w':World} {ι:qV} {H H':qe}
theorem qkA {ops:Array Oper} {e:qr} {a:Act} {o:Oper} {b:Bool} (he:∀ k want t,o.guard = some (k,want)→(ops[k]?).bind (·.dst) = some t→∀ d,qi e t = some d→t < a.tmps.size∧Rep ok w ι H d (a.tmps.getD t undef))
  (h:vH ops e o.guard = some b):Region.wanted o (yielded ops a.tmps) = b:=by
 unfold vH at h;unfold Region.wanted;split at h
 ·rename_i hg;injection h with h;rw [hg];exact h
 ·rename_i j want hg;rw [hg];simp only;unfold yielded;cases hd:(ops[j]?).bind (·.dst) with
  | none =>
   simp only [hd,qw] at h;subst h;simp
  | some t =>
   simp only [hd] at h;simp only [qaW];split at h
   ·rename_i v hl;injection h with h;obtain ⟨qg,hr⟩:=he j want t hg hd _ hl;rw [jl,Z2 qg] at hr;rw [Z2 qg];generalize a.tmps[t] = x at hr;cases hr;simp only;rw [← h];cases v <;> cases want <;> rfl
   ·rename_i hl;injection h with h;subst h;obtain ⟨qg,hr⟩:=he j want t hg hd _ hl;rw [jl,Z2 qg] at hr;rw [Z2 qg];generalize a.tmps[t] = x at hr;cases hr;simp
   ·cases h
theorem qd5 (a:Act) (dst:Option Tmp) (v:Value):(a.put dst v).tmps.size = a.tmps.size∧(a.put dst v).defers = a.defers:=by
 cases dst <;> simp [Act.put]
def Out (X:Cx) (n:Nat) (ok:Nat→Prop) (w:World) (ι:qV) (H:qe) (a:Act) (e':qr) (H':qe) (a':Act) (w':World):Prop :=
 a'.tmps.size = a.tmps.size∧a'.defers = a.defers∧∃ ι' ok',Sim X ok' w' ι' H'∧EnvRep ok' w' ι' H' e' a'.tmps∧Evol n ok w ι H ok' w' ι' H'
theorem qgb:Rep ok w ι H (.tup []) undef:=.tup rfl (by simp)
theorem qgF {e:qr} {dst:Option Tmp} {d:D} {t:Nat}:qi (jK e dst d) t = if dst = some t then some d else qi e t:=by
 cases dst with
 | none=>simp [jK]
 | some s =>
  simp only [jK,qi,qw]
def qbi (l:List Nat) (e:qr):qr:=kX l e
theorem qgE:∀ {l:List Nat} {e:qr} {t:Nat},t∈l→qi (qbi l e) t = qi e t
 | k :: l,e,t,h=>by
  simp only [qbi,kX];by_cases XQ:k = t
  ·subst XQ;cases hk:qi e k with
   | some d=>simp [qi]
   | none =>
    simp only;by_cases hm:k∈l
    ·exact (qgE hm).trans hk
    ·have:∀ {l:List Nat} {t:Nat},t ∉ l→qi (kX l e) t = none:=by
      intro l
      induction l with
      | nil=>intro t _;rfl
      | cons x l ih =>
       intro t ht;simp only [jT,not_or] at ht;simp only [kX];split
       ·simp only [qi,Ne.symm ht.1,if_false];exact ih ht.2
       ·exact ih ht.2
     exact this hm
  ·have hm:t∈l:=by
    rcases List.mem_cons.1 h with h | h
    ·exact absurd h.symm XQ
    ·exact h
   split
   ·simp only [qi,XQ,if_false];exact qgE hm
   ·exact qgE hm
theorem qgD:∀ {l:List Nat} {e:qr} {t:Nat} {d:D},qi (qbi l e) t = some d→t∈l∧qi e t = some d
 | [],e,t,d,h=>by simp [qbi,kX,qi] at h
 | k :: l,e,t,d,h=>by
  simp only [qbi,kX] at h;split at h
  ·rename_i x hk;simp only [qi] at h;split at h
   ·rename_i XQ;subst XQ;exact ⟨VW ..,by rw [hk];exact h⟩
   ·obtain ⟨h1,h2⟩:=qgD h;exact ⟨Jr _ h1,h2⟩
  ·obtain ⟨h1,h2⟩:=qgD h;exact ⟨Jr _ h1,h2⟩
structure DrawFacts (X:Cx) (bw:Option Tmp→Bool) (L:QP) (al:Option Nat) (ops:Array Oper):Prop where
 edge:∀ (j:Nat) (o:Oper),ops[j]? = some o→∀ e,e∈o.after.toList→Region.binds .any e = true→e.on < j
 ord:∀ (i j:Nat) (x y:Oper),ops[i]? = some x→ops[j]? = some y→i < j→Vs X bw L al ops i x j y = true→((Region.before ops).getD j 0).testBit i = true
 alo:∀ j,al = some j→∃ o ty t,ops[j]? = some o∧o.op = .alloc ty∧o.dst = some t∧o.guard = none ∧
  ∀ (k:Nat) (y:Oper),ops[k]? = some y→k≠j→t∈Jx ops y→j < k∧∀ (i:Nat) (x:Oper),ops[i]? = some x→i < j→zZ X (bw x.dst) x.op = true→((Region.before ops).getD k 0).testBit i = true
theorem qse {ops:Array Oper} (h:qhp X bw L al ops = true):DrawFacts X bw L al ops:=by
 unfold qhp at h;simp only [jk] at h;obtain ⟨QC,h⟩:=h;have jB:=List.all_eq_true.1 h
 have JO:∀ (j:Nat) (o:Oper),ops[j]? = some o→(o,j)∈ops.toList.zipIdx:=by
  intro j o hj;rw [List.mem_zipIdx_iff_getElem?];simpa using hj
 constructor
 ·intro j o hj e he hb;have:=jB _ (JO j o hj);simp only [jk] at this;have h1:=Array.all_eq_true'.1 this.1 e (by simpa using he);simpa [hb] using h1
 ·intro i j x y hi hj zu hc;have:=jB _ (JO j y hj);simp only [jk] at this;have h1:=List.all_eq_true.1 this.2 _ (JO i x hi);simpa [zu,hc] using h1
 ·intro j hj;subst hj;simp only [qsW] at QC;cases ho:ops[j]? with
  | none=>simp [ho] at QC
  | some o =>
   simp only [ho] at QC;split at QC
   ·rename_i ty t h1 h2 h3;refine ⟨o,ty,t,rfl,h1,h2,h3,fun k y hk hkj ht=>?_⟩;have:=List.all_eq_true.1 QC _ (JO k y hk);have hc:(Jx ops y).contains t = true:=(by simpa using ht);simp only [hc,beq_iff_eq,hkj,Bool.not_true,Bool.or_false,jk,decide_eq_true_eq,qdY,false_or] at this;refine ⟨this.1,fun i x hi zu hk=>?_⟩;have h4:=List.all_eq_true.1 this.2 _ (JO i x hi);simpa [zu,hk] using h4
   ·cases QC
theorem q2d {ops:Array Oper} {i j:Nat} {x y:Oper} (h:Vs X bw L al ops i x j y = true):Vs X bw L al ops j y i x = true:=by
 unfold Vs at *;rw [Nat.max_comm j i];simp only [qdY,jk] at *;rcases h with (((h | h) | h) | h) | h
 ·exact .inl (.inl (.inl (.inr h)))
 ·exact .inl (.inl (.inl (.inl h)))
 ·exact .inl (.inl (.inr ⟨⟨h.1.2,h.1.1⟩,h.2⟩))
 ·exact .inr ⟨⟨h.1.2,h.1.1⟩,h.2⟩
 ·exact .inl (.inr ⟨⟨h.1.2,h.1.1⟩,h.2⟩)
theorem qhx {ops:Array Oper} {i j:Nat} {x y:Oper} (hx:zZ X (bw x.dst) x.op = true) (hy:zZ X (bw y.dst) y.op = true) (QC:al≠some (max i j)):Vs X bw L al ops i x j y = true:=by
 unfold Vs;have:(al == some (max i j)) = false:=by simpa using QC
 simp only [hx,hy,this,Bool.not_false,Bool.and_true,Bool.or_true,Bool.true_or]
theorem quv (hs:Sim X ok w ι H) (hw:YX w w') (jn:w.heap.size≤w'.heap.size) (hfr:∀ c,c < w.heap.size→w'.heap[c]? = w.heap[c]?):Sim X ok w' ι H∧Evol H.length ok w ι H ok w' ι H:=by
 have hev:Evol H.length ok w ι H ok w' ι H :=
  ⟨hw.1,hw.2.1,hw.2.2,jn,fun c hc _=>hfr c hc,fun _ h=>h,fun _ h _=>.inl h,⟨qE _,qE _⟩,fun _ _ ds hd=>⟨ds,hd,qE _,fun _=>rfl⟩,
   fun i ds _ s hd hi _=>⟨i,ds,s,hd,hi⟩⟩
 refine ⟨⟨fun c hc=>jZ (hs.okS c hc) jn,fun g cs hg=>?_,hs.inj,fun k es he=>?_⟩,hev⟩
 ·have h:=(hs.glob g cs hg).lift (ι:=ι) (H:=H);exact (h.evol hs hev rfl).free rfl _ _
 ·obtain ⟨c,arr2,e2,fr2,h1,h2,h3,h4,h5,h6,h7,h8⟩:=hs.blk k es he;exact ⟨c,arr2,e2,fr2,h1,h2,by rw [hfr c (hs.lt he h1)];exact h3,h4,h5,h6,h7,fun j d hj=>(h8 j d hj).evol hs hev (h8 j d hj).closed⟩
theorem qiC {ds:List D} {ι2:qV} (hι:∀ k,k < H.length→ι2 k = ι k) {ι1:qV} {H1:qe} {d:D} {v:Value} (h:Rep ok w ι1 H1 d v):ι1 = ι→H1 = H→Rep ok w ι2 (qs H ds) d v:=by
 induction h with
 | bool b=>intros;exact .bool b
 | int k n=>intros;exact .int k n
 | str s=>intros;exact .str s
 | nilp=>intros;exact .nilp
 | nilf=>intros;exact .nilf
 | nili=>intros;exact .nili
 | raw v=>intros;exact .raw v
 | agg hl hc h ih=>intro h1 h2;exact .agg hl hc fun j d hj=>ih j d hj h1 h2
 | tup hl h ih=>intro h1 h2;exact .tup hl fun j d hj=>ih j d hj h1 h2
 | fn hl h ih=>intro h1 h2;exact .fn hl fun j d hj=>ih j d hj h1 h2
 | iface h ih=>intro h1 h2;exact .iface (ih h1 h2)
 | optr a hi hk =>
  intro h1 h2;subst h1;subst h2;refine .optr a (by rw [zW];omega) fun ds' zB=>?_;rw [vk hi] at zB;obtain ⟨k1,k2⟩:=hk ds' zB;exact ⟨k1,fun e=>by obtain ⟨b,s,q1,q2⟩:=k2 e;exact ⟨b,s,by rw [hι _ hi];exact q1,q2⟩⟩
 | osl a hi hk zo =>
  intro h1 h2;subst h1;subst h2;refine .osl a (by rw [zW];omega) (fun ds' zB=>?_) zo;rw [vk hi] at zB;obtain ⟨k1,k2⟩:=hk ds' zB;exact ⟨k1,fun e=>by obtain ⟨b,s,q1,q2⟩:=k2 e;exact ⟨b,s,by rw [hι _ hi];exact q1,q2⟩⟩
 | vptr a f ha hc hr h ih=>intros;exact .vptr a f ha hc hr h
 | vnil=>intros;exact .vnil
 | vsl a f ha hc hr h zo ih=>intros;exact .vsl a f ha hc hr h zo
theorem qub {ds:List D} {b:Nat} {arr:Array Value} {e:TypeId} {fr:Nat × Nat} (hs:Sim X ok w ι H) (hb:w.heap[b]? = some (.cells arr e fr)) (jo:¬ ok b) (kj:∀ q es s,qf H q = some es→ι q≠some (b,s))
  (YG:ds.length≤arr.size) (QA:fr.1 = fr.2∨arr.size≤fr.1) (Q6:∀ j,j < arr.size→(arr.getD j undef).oneCell' = true) (Zx:∀ d,d∈ds→jg d = true) (hrep:∀ (j:Nat) d,ds[j]? = some d→Rep ok w ι H d (arr.getD j undef)) :
  ∃ ι',Sim X ok w ι' (qs H ds)∧ι' H.length = some (b,arr.size)∧(∀ d v,Rep ok w ι H d v→Rep ok w ι' (qs H ds) d v) ∧
   ∀ (n:Nat) (ok0:Nat→Prop) (w0:World) (ι0:qV) (H0:qe),Evol n ok0 w0 ι0 H0 ok w ι H→w0.heap.size≤b→Evol n ok0 w0 ι0 H0 ok w ι' (qs H ds):=by
 have hι:∀ k,k < H.length→(fun k=>if k = H.length then some (b,arr.size) else ι k) k = ι k:=fun k hk=>by simp [ZJ hk]
 have split:∀ k es,qf (qs H ds) k = some es→(k = H.length∧es = ds)∨(k < H.length∧qf H k = some es):=by
  intro k es he;by_cases vT:k = H.length
  ·subst vT;rw [zA] at he;injection he with he;exact .inl ⟨rfl,he.symm⟩
  ·have qg:k < H.length:=by
    have:=qA he;rw [zW] at this;omega
   rw [vk qg] at he;exact .inr ⟨qg,he⟩
 refine ⟨fun k=>if k = H.length then some (b,arr.size) else ι k,⟨hs.okS,hs.glob,?_,?_⟩,by simp,fun d v h=>qiC hι h rfl rfl,fun n ok0 w0 ι0 H0 he XT=>⟨he.os,he.tape,he.output,he.size,he.frame,he.okU,he.okN,⟨he.nle.1,by have:=he.nle.2;rw [zW];omega⟩,fun i hi ds' zB=>?_,fun i ds' c s hd hi hc=>?_⟩⟩
 ·intro p q es fs c s s' hp hq hιp hιq;rcases split p es hp with ⟨rfl,_⟩ | ⟨ku,ZB⟩ <;> rcases split q fs hq with ⟨rfl,_⟩ | ⟨kO,jL⟩
  ·rfl
  ·simp only [if_true,ZJ kO,if_false,qw,zm] at hιp hιq;rw [← hιp.1] at hιq;exact absurd hιq (kj q fs s' jL)
  ·simp only [if_true,ZJ ku,if_false,qw,zm] at hιp hιq;rw [← hιq.1] at hιp;exact absurd hιp (kj p es s ZB)
  ·simp only [ZJ ku,ZJ kO,if_false] at hιp hιq;exact hs.inj p q es fs c s s' ZB jL hιp hιq
 ·intro k es he;rcases split k es he with ⟨rfl,rfl⟩ | ⟨hk,he⟩
  ·exact ⟨b,arr,e,fr,by simp,jo,hb,YG,QA,Q6,Zx,fun j d hj=>qiC hι (hrep j d hj) rfl rfl⟩
  ·obtain ⟨c,arr2,e2,fr2,h1,h2,h3,h4,h5,h6,h7,h8⟩:=hs.blk k es he;exact ⟨c,arr2,e2,fr2,by simp [ZJ hk,h1],h2,h3,h4,h5,h6,h7,fun j d hj=>qiC hι (h8 j d hj) rfl rfl⟩
 ·have qg:i < H.length:=jZ hi he.nle.2;rw [vk qg] at zB;obtain ⟨es,k1,k2,k3⟩:=he.heap i hi ds' zB;exact ⟨es,k1,k2,fun e=>by simp only [ZJ qg,if_false];exact k3 e⟩
 ·rcases split i ds' hd with ⟨rfl,_⟩ | ⟨h1,h2⟩
  ·simp only [if_true,qw,zm] at hi;omega
  ·simp only [ZJ h1,if_false] at hi;exact he.own i ds' c s h2 hi hc
theorem q3g {t:TypeId} {cs:List D} (h:(KQ X.P t).bind cellsOf = some cs) (w:World):∃ (arr:Array Value),(Instr.alloc t true (.tuple #[])).run X.P w = .ok (.pointer (some ⟨w.heap.size,0,none⟩)) (w.alloc (.cells arr t)) ∧
  cs.length≤arr.size∧(∀ j,j < arr.size→(arr.getD j undef).oneCell' = true)∧(∀ d,d∈cs→jg d = true)∧∀ (ok:Nat→Prop) (w:World) (ι:qV) (H:qe) (j:Nat) d,cs[j]? = some d→Rep ok w ι H d (arr.getD j undef):=by
 cases hz:KQ X.P t with
 | none=>simp [hz] at h
 | some z =>
  simp only [hz,qaW] at h;obtain ⟨zv,z1,z2⟩:=qeK hz;have c0:=fun ok w ι H=>qaS (z2 ok w ι H) h;obtain ⟨c1,c2,c3⟩:=c0 (fun _=>True) w jh [];refine ⟨zv.cells,by simp [Instr.alloc,z1,newVar,newRow],by omega,fun j hj=>?_,c2,fun ok w ι H=>(c0 ok w ι H).2.2⟩;have QM:cs[j]? = some (cs[j]'(by omega)):=zn (by omega);exact (c3 j _ QM).oneCell (c2 _ (mem_of_get? QM))
theorem qjj {p:D} {b:Nat} (hb:Yk p = some b):∀ {l:List (Option D)},some p∈l→b∈Q1 l
 | [],h=>by cases h
 | some d :: l,h=>by
  simp only [Q1,vW];rcases List.mem_cons.1 h with h | h
  ·injection h with h;subst h;exact .inl (by simp [hb])
  ·exact .inr (qjj hb h)
 | none :: l,h=>by
  rcases List.mem_cons.1 h with h | h
  ·cases h
  ·simp only [Q1];exact qjj hb h
theorem qsd {F:zt} (hF:Vw X F) {nt:Nat} {ops:Array Oper} {Q:Exit→Act→World→Prop} (hD:DrawFacts X bw L al ops) {e e':qr} {a:Act} {E:Nat→qr} {T:Nat→qe} (hE0:E 0 = e) (hT0:T 0 = H) (hEn:E ops.toList.length = e') (hTn:T ops.toList.length = H')
  (Kv:∀ k o,ops.toList[k]? = some o→qbT X F nt bw ops o (E k) (T k) (E (k+1)) (T (k+1))) (hTr:q3r X ops L E T)
  (hs:Sim X ok w ι H) (he:EnvRep ok w ι H e a.tmps) (Qq:nt≤a.tmps.size) (hQ:∀ a' w',Out X H.length ok w ι H a e' H' a' w'→Q .normal a' w') :
  wpAny X.P .any ops Q ops.size (Array.replicate ops.size false) a w:=by
 have hstep':∀ (k:Nat) (o:Oper),ops[k]? = some o→qbT X F nt bw ops o (E k) (T k) (E (k+1)) (T (k+1)):=fun k o hk=>Kv k o (by simpa using hk);have hEn':E ops.size = e':=by simpa using hEn
 have hTn':T ops.size = H':=by simpa using hTn
 have hslot:∀ (t a b:Nat),a≤b→b≤ops.size→(∀ i o,ops[i]? = some o→o.dst = some t→¬ (a≤i∧i < b))→qi (E b) t = qi (E a) t:=by
  intro t a b hab
  induction b with
  | zero=>intro _ _;have:a = 0:=by omega
          subst this;rfl
  | succ b ih =>
   intro hb jo;by_cases hab':a = b+1
   ·rw [hab']
   ·have qg:b < ops.size:=(by omega);have ho:=Z2 qg;have hih:=ih (by omega) (by omega) (fun i o hi hd h=>jo i o hi hd ⟨h.1,by omega⟩);rw [← hih];obtain ⟨_,h | h⟩:=hstep' b _ ho
    ·obtain ⟨_,d,_,h3⟩:=h;rw [h3,qgF,if_neg (fun hd=>jo b _ ho hd ⟨by omega,by omega⟩)]
    ·obtain ⟨_,_,h3⟩:=h;rw [h3,qgF,if_neg (fun hd=>jo b _ ho hd ⟨by omega,by omega⟩)]
 have hnoK:∀ (k:Nat) (o:Oper),ops[k]? = some o→zZ X (bw o.dst) o.op = false→T (k+1) = T k:=by
  intro k o ho hk;obtain ⟨_,h | h⟩:=hstep' k o ho
  ·obtain ⟨_,d,h2,_⟩:=h;unfold zZ at hk;cases Zv:Zc X (bw o.dst) o.op with
   | v=>exact (qqm Zv h2).1
   | r=>exact (qqn (T2:=T k) Zv h2 (fun _ _ _ _ _ _ _=>rfl)).1
   | e=>simp [Zv] at hk
   | m=>simp [Zv] at hk
  ·exact h.2.1
 have JO:∀ (a b:Nat),a≤b→b≤ops.size→(∀ i o,ops[i]? = some o→zZ X (bw o.dst) o.op = true→¬ (a≤i∧i < b))→T b = T a:=by
  intro a b hab
  induction b with
  | zero=>intro _ _;have:a = 0:=by omega
          subst this;rfl
  | succ b ih =>
   intro hb jo;by_cases hab':a = b+1
   ·rw [hab']
   ·have qg:b < ops.size:=(by omega);have ho:=Z2 qg;rw [← ih (by omega) (by omega) (fun i o hi hd h=>jo i o hi hd ⟨h.1,by omega⟩)];refine hnoK b _ ho ?_;cases hk:zZ X (bw ops[b].dst) ops[b].op with
    | false=>rfl
    | true=>exact absurd ⟨by omega,by omega⟩ (jo b _ ho hk)
 have hread:∀ (q a b:Nat),a≤b→b≤ops.size→q < (T a).length →
   (∀ i o,ops[i]? = some o→Zc X (bw o.dst) o.op = .m→vH ops (E i) o.guard = some true→a≤i→i < b→(T i).length≤(T (i+1)).length∧qf (T (i+1)) q = qf (T i) q)→qf (T b) q = qf (T a) q∧q < (T b).length:=by
  intro q a b hab
  induction b with
  | zero=>intro _ hq _;have:a = 0:=by omega
          subst this;exact ⟨rfl,hq⟩
  | succ b ih =>
   intro hb hq jo;by_cases hab':a = b+1
   ·subst hab';exact ⟨rfl,hq⟩
   ·have qg:b < ops.size:=(by omega);have ho:=Z2 qg;obtain ⟨h1,h2⟩:=ih (by omega) (by omega) hq (fun i o hi hd hg h3 h4=>jo i o hi hd hg h3 (by omega));cases Zv:Zc X (bw ops[b].dst) ops[b].op with
    | v=>rw [hnoK b _ ho (by simp only [zZ,Zv])];exact ⟨h1,h2⟩
    | r=>rw [hnoK b _ ho (by simp only [zZ,Zv])];exact ⟨h1,h2⟩
    | m =>
     obtain ⟨_,h | h⟩:=hstep' b _ ho
     ·obtain ⟨k1,k2⟩:=jo b _ ho Zv h.1 (by omega) (by omega);exact ⟨k2.trans h1,by omega⟩
     ·rw [h.2.1];exact ⟨h1,h2⟩
    | e =>
     obtain ⟨_,h | h⟩:=hstep' b _ ho
     ·obtain ⟨_,d,h3,_⟩:=h;obtain ⟨M,hM⟩:=qxH Zv h3;rw [hM,qdL h2];exact ⟨h1,by simp;omega⟩
     ·rw [h.2.1];exact ⟨h1,h2⟩
 have halK:∀ i,al = some i→∃ o,ops[i]? = some o∧Zc X (bw o.dst) o.op = .e:=by
  intro i zQ;obtain ⟨o,ty,t,g1,g2,-,-,-⟩:=hD.alo i zQ;refine ⟨o,g1,?_⟩;rw [g2];cases bw o.dst <;> rfl
 let Pend:Array Bool→Act→World→Nat→qV→(Nat→Prop)→Prop:=fun listed a1 w1 m ι1 ok1=>∃ (i:Nat) (o:Oper) (t:Nat) (b:Nat) (arr:Array Value) (ty:TypeId) (fr:Nat × Nat) (cs:List D),al = some i∧ops[i]? = some o∧o.dst = some t∧m≤i ∧
  T (i+1) = qs (T i) cs∧E (i+1) = jK (E i) (some t) (.optr (T i).length cs.length 0)∧t < a1.tmps.size∧a1.tmps.getD t undef = .pointer (some ⟨b,0,none⟩)∧w1.heap[b]? = some (.cells arr ty fr)∧¬ ok1 b∧(∀ q es s,qf (T m) q = some es→ι1 q≠some (b,s))∧w.heap.size≤b ∧
  cs.length≤arr.size∧(fr.1 = fr.2∨arr.size≤fr.1)∧(∀ j,j < arr.size→(arr.getD j undef).oneCell' = true)∧(∀ d,d∈cs→jg d = true)∧(∀ (ok:Nat→Prop) (w:World) (ι:qV) (H:qe) (j:Nat) d,cs[j]? = some d→Rep ok w ι H d (arr.getD j undef)) ∧
  ∀ k y,ops[k]? = some y→k≠i→t∈Jx ops y→listed.getD k false = false
 have main:∀ (fuel:Nat) (listed:Array Bool) (a1:Act) (w1:World) (m:Nat) (ι1:qV) (ok1:Nat→Prop) (pend:Bool),listed.size = ops.size →
   ((List.range ops.size).filter fun i=>!listed.getD i false).length≤fuel →
   (∀ i o,ops[i]? = some o→listed.getD i false = true→qe3 (fun k=>listed.getD k false = true) o) →
   m≤ops.size→(∀ i o,ops[i]? = some o→zZ X (bw o.dst) o.op = true→al≠some i→(listed.getD i false = true↔i < m))→(∀ i,al = some i→(listed.getD i false = true↔(i < m∨pend = true)))→(pend = true→Pend listed a1 w1 m ι1 ok1) →
   Sim X ok1 w1 ι1 (T m)→Evol H.length ok w ι H ok1 w1 ι1 (T m)→a1.tmps.size = a.tmps.size→a1.defers = a.defers →
   (∀ t k,k≤ops.size→(∀ i o,ops[i]? = some o→o.dst = some t→(listed.getD i false = true↔i < k))→(pend = true→∀ i o,al = some i→ops[i]? = some o→o.dst≠some t)→∀ d,qi (E k) t = some d→t < a1.tmps.size∧Rep ok1 w1 ι1 (T m) d (a1.tmps.getD t undef)) →
   wpAny X.P .any ops Q fuel listed a1 w1:=by
  have absorb:∀ (listed:Array Bool) (a1:Act) (w1:World) (m:Nat) (ι1:qV) (ok1:Nat→Prop) (pend:Bool),
   m≤ops.size→(∀ i o,ops[i]? = some o→zZ X (bw o.dst) o.op = true→al≠some i→(listed.getD i false = true↔i < m))→(∀ i,al = some i→(listed.getD i false = true↔(i < m∨pend = true)))→(pend = true→Pend listed a1 w1 m ι1 ok1) →
   Sim X ok1 w1 ι1 (T m)→Evol H.length ok w ι H ok1 w1 ι1 (T m)→a1.tmps.size = a.tmps.size→a1.defers = a.defers →
   (∀ t k,k≤ops.size→(∀ i o,ops[i]? = some o→o.dst = some t→(listed.getD i false = true↔i < k))→(pend = true→∀ i o,al = some i→ops[i]? = some o→o.dst≠some t)→∀ d,qi (E k) t = some d→t < a1.tmps.size∧Rep ok1 w1 ι1 (T m) d (a1.tmps.getD t undef)) →
   (∀ i o k,al = some k→ops[i]? = some o→zZ X (bw o.dst) o.op = true→i < k→listed.getD i false = true) →
   ∃ (m2:Nat) (ι2:qV),m2≤ops.size∧(∀ i o,ops[i]? = some o→zZ X (bw o.dst) o.op = true→(listed.getD i false = true↔i < m2))∧Sim X ok1 w1 ι2 (T m2)∧Evol H.length ok w ι H ok1 w1 ι2 (T m2) ∧
    (∀ t k,k≤ops.size→(∀ i o,ops[i]? = some o→o.dst = some t→(listed.getD i false = true↔i < k))→∀ d,qi (E k) t = some d→t < a1.tmps.size∧Rep ok1 w1 ι2 (T m2) d (a1.tmps.getD t undef)):=by
   intro listed a1 w1 m ι1 ok1 pend hm hK hJ hP hsim hevol h1 h2 Xe jB;cases pend with
   | false =>
    refine ⟨m,ι1,hm,fun i o ho hk=>?_,hsim,hevol,fun t k hk VK d hd=>Xe t k hk VK (fun h=>by cases h) d hd⟩;by_cases zQ:al = some i
    ·have:=hJ i zQ;simpa using this
    ·exact hK i o ho hk zQ
   | true =>
    obtain ⟨j0,o,t0,b,arr,ty,fr,cs,p1,p2,p3,p4,p5,p6,p7,p8,p9,p10,p11,p12,p13,p14,p15,p16,p17,p18⟩:=hP rfl;have hj0:=(Array.getElem?_eq_some_iff.1 p2).1
    have hTm:T j0 = T m:=JO m j0 p4 (by omega) fun i x hx hk hi=>by
     have qQ:al≠some i:=(by rw [p1];intro h;injection h with h;omega);have:=(hK i x hx hk qQ).1 (jB i x j0 p1 hx hk hi.2);omega
    obtain ⟨ι2,s1,s2,s3,s4⟩:=qub (ds:=cs) hsim p9 p10 p11 p13 p14 p15 p16 (fun j d hj=>p17 _ _ _ _ j d hj);have JV:T (j0+1) = qs (T m) cs:=(by rw [p5,hTm]);rw [hTm] at p6;refine ⟨j0+1,ι2,by omega,fun i x hx hk=>?_,by rw [JV];exact s1,by rw [JV];exact s4 _ _ _ _ _ hevol p12,fun t k hk VK d hd=>?_⟩
    ·by_cases zQ:al = some i
     ·have:i = j0:=(by rw [p1] at zQ;injection zQ with h;exact h.symm);subst this;exact ⟨fun _=>Nat.lt_succ_self _,fun _=>(hJ i zQ).2 (.inr rfl)⟩
     ·have qQ:i≠j0:=fun h=>zQ (by rw [h];exact p1);have h3:=hK i x hx hk zQ;exact ⟨fun hl=>by have:=h3.1 hl;omega,fun qg=>jB i x j0 p1 hx hk (by omega)⟩
    ·rw [JV];by_cases ht:t0 = t
     ·subst ht;have hjk:j0 < k:=(VK j0 o p2 p3).1 ((hJ j0 p1).2 (.inr rfl))
      have hl:=hslot t0 (j0+1) k (by omega) hk fun i x hx kG hik=>by
       have:=p18 i x hx (by omega) (by simp [Jx,kG]);rw [(VK i x hx kG).2 hik.2] at this;cases this
      rw [hl,p6,qgF,if_pos rfl] at hd;injection hd with hd;subst hd;refine ⟨p7,?_⟩;rw [p8];refine .optr _ (by rw [zW];omega) fun ds KD=>?_;rw [zA] at KD;injection KD with KD;subst KD;exact ⟨qE _,fun _=>⟨_,_,s2,rfl⟩⟩
     ·obtain ⟨q1,q2⟩:=Xe t k hk VK (fun _ i x zQ hx=>by
       have:i = j0:=(by rw [p1] at zQ;injection zQ with h;exact h.symm);subst this;rw [p2] at hx;injection hx with hx;subst hx;rw [p3];intro h;injection h with h;exact ht h) d hd
      exact ⟨q1,s3 _ _ q2⟩
  have fin:∀ (listed:Array Bool) (a1:Act) (w1:World) (m:Nat) (ι1:qV) (ok1:Nat→Prop),(∀ i,i < ops.size→listed.getD i false = true)→m≤ops.size →
    (∀ i o,ops[i]? = some o→zZ X (bw o.dst) o.op = true→(listed.getD i false = true↔i < m)) →
    Sim X ok1 w1 ι1 (T m)→Evol H.length ok w ι H ok1 w1 ι1 (T m)→a1.tmps.size = a.tmps.size→a1.defers = a.defers →
    (∀ t k,k≤ops.size→(∀ i o,ops[i]? = some o→o.dst = some t→(listed.getD i false = true↔i < k))→∀ d,qi (E k) t = some d→t < a1.tmps.size∧Rep ok1 w1 ι1 (T m) d (a1.tmps.getD t undef))→Q .normal a1 w1:=by
   intro listed a1 w1 m ι1 ok1 jB hm hK hsim hevol h1 h2 Xe
   have hT:T ops.size = T m:=JO m ops.size hm (qE _) (fun i o ho hk h=>by
    have:=(hK i o ho hk).1 (jB i h.2);omega)
   rw [hTn'] at hT;rw [← hT] at hsim hevol Xe;refine hQ a1 w1 ⟨h1,h2,ι1,ok1,hsim,fun t d ht=>?_,hevol⟩;rw [← hEn'] at ht;exact Xe t ops.size (qE _) (fun i o ho _=>⟨fun _=>(Array.getElem?_eq_some_iff.1 ho).1,fun h=>jB i h⟩) d ht
  have finA:∀ (listed:Array Bool) (a1:Act) (w1:World) (m:Nat) (ι1:qV) (ok1:Nat→Prop) (pend:Bool),(∀ i,i < ops.size→listed.getD i false = true) →
   m≤ops.size→(∀ i o,ops[i]? = some o→zZ X (bw o.dst) o.op = true→al≠some i→(listed.getD i false = true↔i < m))→(∀ i,al = some i→(listed.getD i false = true↔(i < m∨pend = true)))→(pend = true→Pend listed a1 w1 m ι1 ok1) →
   Sim X ok1 w1 ι1 (T m)→Evol H.length ok w ι H ok1 w1 ι1 (T m)→a1.tmps.size = a.tmps.size→a1.defers = a.defers →
   (∀ t k,k≤ops.size→(∀ i o,ops[i]? = some o→o.dst = some t→(listed.getD i false = true↔i < k))→(pend = true→∀ i o,al = some i→ops[i]? = some o→o.dst≠some t)→∀ d,qi (E k) t = some d→t < a1.tmps.size∧Rep ok1 w1 ι1 (T m) d (a1.tmps.getD t undef)) →
   Q .normal a1 w1:=by
   intro listed a1 w1 m ι1 ok1 pend jB hm hK hJ hP hsim hevol h1 h2 Xe;obtain ⟨m2,ι2,q1,q2,q3,q4,q5⟩:=absorb listed a1 w1 m ι1 ok1 pend hm hK hJ hP hsim hevol h1 h2 Xe (fun i o k _ ho _ _=>jB i (Array.getElem?_eq_some_iff.1 ho).1);exact fin listed a1 w1 m2 ι2 ok1 jB q1 q2 q3 q4 h1 h2 q5
  intro fuel
  induction fuel with
  | zero =>
   intro listed a1 w1 m ι1 ok1 pend jn hcnt zq hm hK hJ hP hsim hevol h1 h2 Xe
   have jB:∀ i,i < ops.size→listed.getD i false = true:=by
    intro i hi;cases hl:listed.getD i false with
    | true=>rfl
    | false =>
     have:i∈(List.range ops.size).filter fun i=>!listed.getD i false:=by
      rw [List.mem_filter];exact ⟨List.mem_range.2 hi,by simp only [hl];rfl⟩
     have qQ:=List.length_pos_of_mem this;omega
   refine ⟨?_,finA listed a1 w1 m ι1 ok1 pend jB hm hK hJ hP hsim hevol h1 h2 Xe⟩;unfold Region.ready;rw [List.filter_eq_nil_iff];intro i hi;have qg:=List.mem_range.1 hi;have:=jB i qg
   have h3:listed.getD i true = true:=by
    rw [jl,Z2 (by omega)] at this ⊢;exact this
   simp [h3]
  | succ fuel ih =>
   intro listed a1 w1 m0 ι0 ok1 pend0 jn hcnt zq VD kI hJ0 hP0 hsim0 hevol0 h1 h2 hslots0
   obtain ⟨m,ι1,pend,hm,hK,hJ,hP,hsim,hevol,Xe,hwait⟩:∃ (m:Nat) (ι1:qV) (pend:Bool),m≤ops.size∧(∀ i o,ops[i]? = some o→zZ X (bw o.dst) o.op = true→al≠some i→(listed.getD i false = true↔i < m))∧(∀ i,al = some i→(listed.getD i false = true↔(i < m∨pend = true)))∧(pend = true→Pend listed a1 w1 m ι1 ok1) ∧
     Sim X ok1 w1 ι1 (T m)∧Evol H.length ok w ι H ok1 w1 ι1 (T m) ∧
     (∀ t k,k≤ops.size→(∀ i o,ops[i]? = some o→o.dst = some t→(listed.getD i false = true↔i < k))→(pend = true→∀ i o,al = some i→ops[i]? = some o→o.dst≠some t)→∀ d,qi (E k) t = some d→t < a1.tmps.size∧Rep ok1 w1 ι1 (T m) d (a1.tmps.getD t undef)) ∧
     (pend = true→∃ i o k,al = some k∧ops[i]? = some o∧zZ X (bw o.dst) o.op = true∧i < k∧listed.getD i false = false):=by
    by_cases jB:∀ i o k,al = some k→ops[i]? = some o→zZ X (bw o.dst) o.op = true→i < k→listed.getD i false = true
    ·obtain ⟨m2,ι2,q1,q2,q3,q4,q5⟩:=absorb listed a1 w1 m0 ι0 ok1 pend0 VD kI hJ0 hP0 hsim0 hevol0 h1 h2 hslots0 jB;refine ⟨m2,ι2,false,q1,fun i o ho hk _=>q2 i o ho hk,fun i zQ=>?_,(fun h=>by cases h),q3,q4,fun t k hk VK _ d hd=>q5 t k hk VK d hd,(fun h=>by cases h)⟩;obtain ⟨o,g1,g2⟩:=halK i zQ;simpa using q2 i o g1 (by simp only [zZ,g2])
    ·refine ⟨m0,ι0,pend0,VD,kI,hJ0,hP0,hsim0,hevol0,hslots0,fun _=>?_⟩;simp only [Classical.not_forall] at jB;obtain ⟨i,o,k,g1,g2,g3,g4,g5⟩:=jB;exact ⟨i,o,k,g1,g2,g3,g4,by simpa using g5⟩
   have hready:∀ j,j∈Region.ready .any ops listed↔∃ o,ops[j]? = some o∧listed.getD j false = false∧qe3 (fun k=>listed.getD k false = true) o:=by
    intro j;unfold Region.ready;rw [List.mem_filter];constructor
    ·rintro ⟨hj,hc⟩;have qg:=List.mem_range.1 hj;simp only [Z2 qg,jj,Va,jk,Bool.not_eq_true'] at hc;refine ⟨_,Z2 qg,?_,?_⟩
     ·rw [jl,Z2 (by omega)] at hc ⊢;exact hc.1
     ·intro e he hb;have:=Array.all_eq_true'.1 hc.2 e (by simpa using he);simpa [hb] using this
    ·rintro ⟨o,ho,hl,hed⟩;have qg:=(Array.getElem?_eq_some_iff.1 ho).1;refine ⟨List.mem_range.2 qg,?_⟩;simp only [ho,jj,Va,jk,Bool.not_eq_true'];refine ⟨?_,?_⟩
     ·rw [jl,Z2 (by omega)] at hl ⊢;exact hl
     ·rw [Array.all_eq_true'];intro e he;cases hb:Region.binds .any e with
      | false=>simp
      | true=>simpa [hb] using hed e (by simpa using he) hb
   refine ⟨fun qU=>?_,fun j hj=>?_⟩
   ·refine finA listed a1 w1 m ι1 ok1 pend ?_ hm hK hJ hP hsim hevol h1 h2 Xe;intro i
    induction i using Nat.strongRecOn with
    | _ i ihi =>
     intro hi;cases hl:listed.getD i false with
     | true=>rfl
     | false =>
      have ho:=Z2 hi
      have:i∈Region.ready .any ops listed:=(hready i).2 ⟨_,ho,hl,fun e he hb=>by
       have qg:=hD.edge i _ ho e he hb;exact ihi e.on qg (by omega)⟩
      rw [qU] at this;simp at this
   ·obtain ⟨o,ho,hunl,hed⟩:=(hready j).1 hj;have hjn:=(Array.getElem?_eq_some_iff.1 ho).1
    have hbef:∀ i x,ops[i]? = some x→i < j→Vs X bw L al ops i x j o = true→listed.getD i false = true:=fun i x hx zu hc =>
     qky (S:=fun k=>listed.getD k false = true) zq ho hed (hD.ord i j x o hx ho zu hc)
    have qcQ:∀ i x,ops[i]? = some x→j < i→Vs X bw L al ops j o i x = true→listed.getD i false = false:=by
     intro i x hx zu hc;cases hl:listed.getD i false with
     | false=>rfl
     | true =>
      have:=qky (S:=fun k=>listed.getD k false = true) zq hx (zq i x hx hl) (hD.ord j i o x ho hx zu hc);rw [hunl] at this;cases this
    have hagree:∀ i x,ops[i]? = some x→(i≠j→Vs X bw L al ops i x j o = true)→(listed.getD i false = true↔i < j):=by
     intro i x hx hc;rcases Nat.lt_trichotomy i j with h | h | h
     ·exact ⟨fun _=>h,fun _=>hbef i x hx h (hc (by omega))⟩
     ·subst h;exact ⟨fun h=>(by rw [hunl] at h;cases h),fun h=>(by omega)⟩
     ·exact ⟨fun hl=>(by rw [qcQ i x hx h (q2d (hc (by omega)))] at hl;cases hl),fun h=>(by omega)⟩
    have hnp:pend = true→al≠some j:=by
     intro hp hj;have:=(hJ j hj).2 (.inr hp);rw [hunl] at this;cases this
    have hnt0:pend = true→∀ i y,al = some i→ops[i]? = some y→∀ t,y.dst = some t→t ∉ Jx ops o:=by
     intro hp i y zQ hy t hyt ht;obtain ⟨y',ty,t',g1,g2,g3,g4,g5⟩:=hD.alo i zQ;rw [hy] at g1;injection g1 with g1;subst g1;rw [hyt] at g3;injection g3 with g3;subst g3;have qQ:j≠i:=fun h=>hnp hp (by rw [h];exact zQ);obtain ⟨q,x,k,u1,u2,u3,u4,u5⟩:=hwait hp;have vT:k = i:=(by rw [zQ] at u1;injection u1 with u1;exact u1.symm);subst vT;have:=qky (S:=fun k=>listed.getD k false = true) zq ho hed ((g5 j o ho qQ ht).2 q x u2 u4 u3);rw [u5] at this;cases this
    have qcB:∀ t,t∈Jx ops o→∀ d,qi (E j) t = some d→t < a1.tmps.size∧Rep ok1 w1 ι1 (T m) d (a1.tmps.getD t undef):=by
     intro t ht d hd;refine Xe t j (by omega) (fun i x hx kG=>hagree i x hx (fun _=>?_)) (fun hp i y zQ hy hyt=>hnt0 hp i y zQ hy t hyt ht) d hd;unfold Vs;simp only [kG,Option.any_some,qdY];exact .inl (.inl (.inl (.inl (by simpa using ht))))
    have qn:∀ i,(listed.setIfInBounds j true).getD i false = if i = j then true else listed.getD i false:=by
     intro i;rw [jl,jl];by_cases zu:i = j
     ·subst zu;simp [show i < listed.size by omega]
     ·rw [qeI (Ne.symm zu),if_neg zu]
    have htmp:∀ (v:Value) t,o.dst≠some t→(a1.put o.dst v).tmps.getD t undef = a1.tmps.getD t undef:=by
     intro v t ht;cases hod:o.dst with
     | none=>rfl
     | some s =>
      have:s≠t:=fun e=>ht (by rw [hod,e]);simp only [Act.put,jl];rw [qeI this]
    have hPk:∀ (v:Value) (w2:World) (ι2:qV) (ok2:Nat→Prop) (m':Nat),Evol (T m).length ok1 w1 ι1 (T m) ok2 w2 ι2 (T m')→(∀ i,al = some i→pend = true→m'≤i)→pend = true→Pend (listed.setIfInBounds j true) (a1.put o.dst v) w2 m' ι2 ok2:=by
     intro v w2 ι2 ok2 m' hev2 hmi hp;obtain ⟨j0,y,t0,b,arr,ty,fr,cs,p1,p2,p3,p4,p5,p6,p7,p8,p9,p10,p11,p12,p13,p14,p15,p16,p17,p18⟩:=hP hp;have jo:=hnt0 hp j0 y p1 p2 t0 p3;have hdn:o.dst≠some t0:=fun h=>jo (by simp [Jx,h]);have hblt:b < w1.heap.size:=(Array.getElem?_eq_some_iff.1 p9).1;refine ⟨j0,y,t0,b,arr,ty,fr,cs,p1,p2,p3,hmi j0 p1 hp,p5,p6,by rw [(qd5 a1 o.dst v).1];exact p7,by rw [htmp v t0 hdn];exact p8,by rw [hev2.frame b hblt p11];exact p9,fun h=>?_,fun q es s hq h=>?_,p12,p13,p14,p15,p16,p17,fun k z hz hk hn=>?_⟩
     ·rcases hev2.okN b h hblt with h | ⟨i,ds,s,g1,g2⟩
      ·exact p10 h
      ·exact p11 i ds s g1 g2
     ·obtain ⟨q',ds,s',g1,g2⟩:=hev2.own q es b s hq h hblt;exact p11 _ _ _ g1 g2
     ·rw [qn]
      have hkj:k≠j:=by
       rintro rfl;rw [ho] at hz;injection hz with hz;subst hz;exact jo hn
      rw [if_neg hkj];exact p18 k z hz hk hn
    have finish:∀ (d:D) (v:Value) (w2:World) (ι2:qV) (ok2:Nat→Prop) (m':Nat) (pend':Bool),(pend = true→pend' = true)→E (j+1) = jK (E j) o.dst d→ke nt o.dst = true→Sim X ok2 w2 ι2 (T m')→((al = some j→pend' = false)→Rep ok2 w2 ι2 (T m') d v) →
      Evol (T m).length ok1 w1 ι1 (T m) ok2 w2 ι2 (T m')→m'≤ops.size→(∀ i x,ops[i]? = some x→zZ X (bw x.dst) x.op = true→al≠some i→((listed.setIfInBounds j true).getD i false = true↔i < m')) →
      (∀ i,al = some i→((listed.setIfInBounds j true).getD i false = true↔(i < m'∨pend' = true)))→(pend' = true→Pend (listed.setIfInBounds j true) (a1.put o.dst v) w2 m' ι2 ok2) →
      wpAny X.P .any ops Q fuel (listed.setIfInBounds j true) (a1.put o.dst v) w2:=by
     intro d v w2 ι2 ok2 m' pend' Zg hE kG hsim2 hrep hev2 hm' hK' hJ' hP'
     have hset':∀ i,(listed.setIfInBounds j true).getD i false = if i = j then true else listed.getD i false:=by
      intro i;rw [jl,jl];by_cases zu:i = j
      ·subst zu;simp [show i < listed.size by omega]
      ·rw [qeI (Ne.symm zu),if_neg zu]
     obtain ⟨p1,p2⟩:=qd5 a1 o.dst v;refine ih _ _ w2 m' ι2 ok2 pend' (by simpa using jn) ?_ ?_ hm' hK' hJ' hP' hsim2 (hevol.trans (hev2.mono hevol.nle.2)) (by omega) (by rw [p2,h2]) ?_
     ·have qg:((List.range ops.size).filter fun i=>!(listed.setIfInBounds j true).getD i false).length < ((List.range ops.size).filter fun i=>!listed.getD i false).length:=by
       have hcong:((List.range ops.size).filter fun i=>!(listed.setIfInBounds j true).getD i false) = (((List.range ops.size).filter fun i=>!listed.getD i false).filter fun i=>decide (i≠j)):=by
        rw [List.filter_filter];apply List.filter_congr;intro i _;rw [qn i];by_cases zu:i = j <;> simp [zu]
       rw [hcong];refine List.length_filter_lt_length_iff_exists.2 ⟨j,?_,by simp⟩;rw [List.mem_filter];exact ⟨List.mem_range.2 hjn,by simp only [hunl];rfl⟩
      omega
     ·intro i x hx hl e he hb;show (listed.setIfInBounds j true).getD e.on false = true;rw [qn] at hl ⊢;by_cases heo:e.on = j
      ·rw [if_pos heo]
      ·rw [if_neg heo];by_cases zu:i = j
       ·subst zu;rw [ho] at hx;injection hx with hx;subst hx;exact hed e he hb
       ·rw [if_neg zu] at hl;exact zq i x hx hl e he hb
     ·intro t k hk VK hex d' zB;by_cases ht:o.dst = some t
      ·have hjk:j < k:=(VK j o ho ht).1 (by rw [qn,if_pos rfl])
       have hl:=hslot t (j+1) k (by omega) hk (fun i x hx kG hik=>by
        have h3:=(VK i x hx kG).2 hik.2;rw [qn,if_neg (by omega)] at h3
        have h4:=qcQ i x hx (by omega) (by
         unfold Vs;simp only [ht,Option.any_some,qdY];exact .inl (.inl (.inl (.inl (by simp [Jx,kG])))))
        rw [h4] at h3;cases h3)
       rw [hl,hE,qgF,if_pos ht] at zB;injection zB with zB;subst zB;rw [ht] at kG ⊢;have qg:t < nt:=(by simpa [ke] using kG);have Vg:t < a1.tmps.size:=jZ qg (by omega);refine ⟨by simpa [Act.put] using Vg,?_⟩
       have hrep:=hrep fun hj=>by
        cases XM:pend' with
        | false=>rfl
        | true=>exact absurd ht (hex XM j o hj ho)
       simpa [Act.put,Vg,jl] using hrep
      ·have hold:=Xe t k hk (fun i x hx kG=>by
        have h3:=VK i x hx kG
        have zu:i≠j:=by
         rintro rfl;rw [ho] at hx;injection hx with hx;subst hx;exact ht kG
        rwa [qn,if_neg zu] at h3) (fun hp=>hex (Zg hp)) d' zB
       refine ⟨by have h:=hold.1;rw [p1];exact h,?_⟩
       have htm:(a1.put o.dst v).tmps.getD t undef = a1.tmps.getD t undef:=by
        cases hod:o.dst with
        | none=>rfl
        | some s =>
         have:s≠t:=fun e=>ht (by rw [hod,e]);simp only [Act.put,jl];rw [qeI this]
       rw [htm];exact hold.2.evol hsim hev2 hold.2.closed
    have jS:zZ X (bw o.dst) o.op = false→∀ i x,ops[i]? = some x→zZ X (bw x.dst) x.op = true→al≠some i→((listed.setIfInBounds j true).getD i false = true↔i < m):=by
     intro hk i x hx QU zQ
     have zu:i≠j:=by
      rintro rfl;rw [ho] at hx;injection hx with hx;subst hx;rw [hk] at QU;cases QU
     rw [qn,if_neg zu];exact hK i x hx QU zQ
    have hJ1:zZ X (bw o.dst) o.op = false→∀ i,al = some i→((listed.setIfInBounds j true).getD i false = true↔(i < m∨pend = true)):=by
     intro hk i zQ
     have zu:i≠j:=by
      rintro rfl;obtain ⟨x,g1,g2⟩:=halK i zQ;rw [ho] at g1;injection g1 with g1;subst g1;simp only [zZ,g2] at hk;cases hk
     rw [qn,if_neg zu];exact hJ i zQ
    have kb:∀ i,al = some i→pend = true→m≤i:=by
     intro i zQ hp;obtain ⟨j0,y,t0,b,arr,ty,fr,cs,p1,p2,p3,p4,-⟩:=hP hp;rw [zQ] at p1;injection p1 with p1;omega
    have hKj:zZ X (bw o.dst) o.op = true→(al = some j→∀ i x,ops[i]? = some x→zZ X (bw x.dst) x.op = true→i < j→listed.getD i false = true) →
      ∀ i x,ops[i]? = some x→zZ X (bw x.dst) x.op = true→(i < m↔i < j)∧(al≠some i→(listed.getD i false = true↔i < j)):=by
     intro hk ZD i x hx QU
     have hord:al≠some i→(listed.getD i false = true↔i < j):=by
      intro zQ;by_cases JA:al = some j
      ·rcases Nat.lt_trichotomy i j with h | h | h
       ·exact ⟨fun _=>h,fun _=>ZD JA i x hx QU h⟩
       ·subst h;exact absurd JA zQ
       ·have hc:Vs X bw L al ops j o i x = true:=qhx hk QU (by rw [Nat.max_eq_right (by omega)];exact zQ);exact ⟨fun hl=>(by rw [qcQ i x hx h hc] at hl;cases hl),fun h=>(by omega)⟩
      ·refine hagree i x hx fun _=>qhx QU hk ?_;rcases Nat.le_total i j with h | h
       ·rw [Nat.max_eq_right h];exact JA
       ·rw [Nat.max_eq_left h];exact zQ
     refine ⟨?_,hord⟩;by_cases zQ:al = some i
     ·by_cases zu:i = j
      ·subst zu
       have:¬ i < m:=fun h=>by
        have:=(hJ i zQ).2 (.inl h);rw [hunl] at this;cases this
       exact ⟨fun h=>absurd h this,fun h=>absurd h (Nat.lt_irrefl _)⟩
      ·have JA:al≠some j:=fun h=>by rw [zQ] at h;injection h with h;exact zu h
       have hjm:¬ j < m:=fun h=>by
        have:=(hK j o ho hk JA).2 h;rw [hunl] at this;cases this
       have qg:i < j→listed.getD i false = true:=fun h=>hbef i x hx h (qhx QU hk (by rw [Nat.max_eq_right (by omega)];exact JA));cases hp:pend with
       | false =>
        have h3:=hJ i zQ;rw [hp] at h3;simp only [QE,or_false] at h3;refine ⟨fun h=>by omega,fun h=>h3.1 (qg h)⟩
       | true =>
        have h4:=kb i zQ hp;obtain ⟨q,z,k,u1,u2,u3,u4,u5⟩:=hwait hp;have vT:k = i:=(by rw [zQ] at u1;injection u1 with u1;exact u1.symm);subst vT;refine ⟨fun h=>by omega,fun h=>?_⟩;have hc:Vs X bw L al ops q z j o = true:=qhx u3 hk (by rw [Nat.max_eq_right (by omega)];exact JA);have:=hbef q z u2 (by omega) hc;rw [u5] at this;cases this
     ·exact (hK i x hx QU zQ).symm.trans (hord zQ)
    have kl:zZ X (bw o.dst) o.op = true→(al = some j→∀ i x,ops[i]? = some x→zZ X (bw x.dst) x.op = true→i < j→listed.getD i false = true)→∀ i x,ops[i]? = some x→zZ X (bw x.dst) x.op = true→al≠some i→((listed.setIfInBounds j true).getD i false = true↔i < j+1):=by
     intro hk ZD i x hx QU zQ;rw [qn];by_cases zu:i = j
     ·subst zu;simp
     ·rw [if_neg zu,(hKj hk ZD i x hx QU).2 zQ];omega
    have hJ2:zZ X (bw o.dst) o.op = true→(al = some j→∀ i x,ops[i]? = some x→zZ X (bw x.dst) x.op = true→i < j→listed.getD i false = true)→∀ i,al = some i→((listed.setIfInBounds j true).getD i false = true↔(i < j+1∨pend = true)):=by
     intro hk ZD i zQ;rw [qn];by_cases zu:i = j
     ·subst zu;simp
     ·obtain ⟨x,g1,g2⟩:=halK i zQ;have h3:=(hKj hk ZD i x g1 (by simp only [zZ,g2])).1;rw [if_neg zu,hJ i zQ];constructor
      ·rintro (h | h)
       ·exact .inl (by omega)
       ·exact .inr h
      ·rintro (h | h)
       ·exact .inl (by omega)
       ·exact .inr h
    have zJ:zZ X (bw o.dst) o.op = true→∀ i,al = some i→pend = true→j+1≤i:=by
     intro hk i zQ hp;have JA:=hnp hp;have zu:i≠j:=fun h=>JA (by rw [← h];exact zQ);obtain ⟨x,g1,g2⟩:=halK i zQ;have h3:=(hKj hk (fun h=>absurd h JA) i x g1 (by simp only [zZ,g2])).1;have:=kb i zQ hp;omega
    have hTK:zZ X (bw o.dst) o.op = true→(al = some j→∀ i x,ops[i]? = some x→zZ X (bw x.dst) x.op = true→i < j→listed.getD i false = true)→T m = T j:=by
     intro hk ZD;have hmj:∀ i x,ops[i]? = some x→zZ X (bw x.dst) x.op = true→(i < m↔i < j):=fun i x hx QU=>(hKj hk ZD i x hx QU).1;rcases Nat.le_total m j with h | h
     ·exact (JO m j h (by omega) (fun i x hx QU hi=>by have:=(hmj i x hx QU).2 hi.2;omega)).symm
     ·exact JO j m h hm (fun i x hx QU hi=>by have:=(hmj i x hx QU).1 hi.2;omega)
    unfold wpOp;simp only [ho];obtain ⟨kG,hcase⟩:=hstep' j o ho
    have YF:∀ k want t,∀ o':Oper,o'.guard = some (k,want)→o' = o→(ops[k]?).bind (·.dst) = some t→t∈Jx ops o:=by
     intro k want t o' hg he' hd;subst he';simp [Jx,hg,hd]
    have hw:∀ b,vH ops (E j) o.guard = some b→Region.wanted o (yielded ops a1.tmps) = b:=by
     intro b hb;exact qkA (fun k want t hg hd d hl=>qcB t (YF k want t o hg rfl hd) d hl) hb
    rcases hcase with ⟨hg,d,QL,hE⟩ | ⟨hg,hTj,hE⟩
    ·rw [if_pos (hw true hg)];refine .inl ?_;unfold Oper.wp
     have hopn:∀ x,x∈o.op.operands.toList→qW X (E j) x = qW X (qbi (Jx ops o) (E j)) x:=fun x hx=>qwD fun t ht=>(qgE (by
      simp only [Jx,vW,List.mem_flatMap];exact .inl (.inr ⟨x,hx,ht⟩))).symm
     rw [q0W hopn] at QL;have henv:EnvRep ok1 w1 ι1 (T m) (qbi (Jx ops o) (E j)) a1.tmps:=fun t d ht=>qcB t (qgD ht).1 d (qgD ht).2
     have go:∀ m',qX X F (bw o.dst) o.op (qbi (Jx ops o) (E j)) (T m) = some (d,T m')→m'≤ops.size→(∀ i x,ops[i]? = some x→zZ X (bw x.dst) x.op = true→al≠some i→((listed.setIfInBounds j true).getD i false = true↔i < m')) →
       (∀ i,al = some i→((listed.setIfInBounds j true).getD i false = true↔(i < m'∨pend = true)))→(∀ i,al = some i→pend = true→m'≤i) →
       o.upon X.P a1 (wpAny X.P .any ops Q fuel (listed.setIfInBounds j true)) Q ((execOp a1.eval o).run X.P w1):=by
      intro m' hop' hm' hK' hJ' hmi;refine Goes.upon ((qiW hF hsim henv hop').mono fun v w2 hp=>?_);obtain ⟨ι2,ok2,q1,q2,q3⟩:=hp;exact finish d v w2 ι2 ok2 m' pend (fun h=>h) hE kG q1 (fun _=>q2) q3 hm' hK' hJ' (hPk v w2 ι2 ok2 m' q3 hmi)
     cases Zv:Zc X (bw o.dst) o.op with
     | v=>exact go m ((qqm Zv QL).2 (T m)) hm (jS (by simp only [zZ,Zv])) (hJ1 (by simp only [zZ,Zv])) kb
     | r =>
      refine go m (qqn Zv QL fun x hx p i hp hi qQ=>?_).2 hm (jS (by simp only [zZ,Zv])) (hJ1 (by simp only [zZ,Zv])) kb
      have hMag:∀ i x,ops[i]? = some x→Zc X (bw x.dst) x.op = .m→L.contains (i,j) = true∨(i < m↔i < j):=by
       intro i x hx QU;cases hc:L.contains (i,j) with
       | true=>exact .inl rfl
       | false =>
        have zQ:al≠some i:=fun h=>by
         obtain ⟨z,g1,g2⟩:=halK i h;rw [hx] at g1;injection g1 with g1;subst g1;rw [QU] at g2;cases g2
        refine .inr ((hK i x hx (by simp only [zZ,QU]) zQ).symm.trans (hagree i x hx fun _=>?_));unfold Vs;simp only [QU,Zv,hc];simp
      have qg:i < (T m).length:=by
       have:=(vi hsim henv hp).closed;cases p <;> simp only [Yk,reduceCtorEq,qw] at hi
       ·subst hi;simpa [closed] using this
       ·subst hi;simpa [closed] using this
      have zP:i∈Q1 (o.op.operands.toList.map (qW X (E j))):=qjj hi (by
       rw [← hp,← hopn x hx];exact List.mem_map_of_mem hx)
      have Ku:∀ i' x',ops[i']? = some x'→Zc X (bw x'.dst) x'.op = .m→vH ops (E i') x'.guard = some true→L.contains (i',j) = true→(T i').length≤(T (i'+1)).length∧qf (T (i'+1)) i = qf (T i') i:=by
       intro i' x' hx' qcF hgx' hc
       have hne':i'≠j:=by
        rintro rfl;rw [ho] at hx';injection hx' with hx';subst hx';rw [Zv] at qcF;cases qcF
       obtain ⟨u1,u2⟩:=hTr i' j x' o hx' ho hc hne' hgx' hg;exact ⟨u1,u2 i zP⟩
      rcases Nat.le_total m j with h | h
      ·exact (hread i m j h (by omega) qg (fun i' x' hx' qcF hgx' h1 h2=>by
        rcases hMag i' x' hx' qcF with hc | hc
        ·exact Ku i' x' hx' qcF hgx' hc
        ·omega)).1.symm
      ·have hltj:i < (T j).length:=by
        cases Qb:qf (T j) i with
        | none=>exact absurd Qb qQ
        | some ds=>exact qA Qb
       exact (hread i j m h hm hltj (fun i' x' hx' qcF hgx' h1 h2=>by
        rcases hMag i' x' hx' qcF with hc | hc
        ·exact Ku i' x' hx' qcF hgx' hc
        ·omega)).1
     | e =>
      have hk:zZ X (bw o.dst) o.op = true:=(by simp only [zZ,Zv]);by_cases ZD:al = some j→∀ i x,ops[i]? = some x→zZ X (bw x.dst) x.op = true→i < j→listed.getD i false = true
      ·rw [← hTK hk ZD] at QL;exact go (j+1) QL (by omega) (kl hk ZD) (hJ2 hk ZD) (zJ hk)
      ·have JA:al = some j:=Classical.byContradiction fun h=>ZD fun h2=>absurd h2 h
       have hpf:pend = false:=by
        cases hp:pend with
        | false=>rfl
        | true=>exact absurd JA (hnp hp)
       obtain ⟨o',ty,t0,g1,g2,g3,g4,g5⟩:=hD.alo j JA;rw [ho] at g1;injection g1 with g1;subst g1
       have hjm:¬ j < m:=fun h=>by
        have:=(hJ j JA).2 (.inl h);rw [hunl] at this;cases this
       have hev0:qX X F (bw o.dst) o.op (qbi (Jx ops o) (E j)) (T j) = match (KQ X.P ty).bind cellsOf with
         | some cs=>some (.optr (T j).length cs.length 0,qs (T j) cs)
         | none=>none:=by
        rw [g2];cases bw o.dst <;> rfl
       rw [hev0] at QL;cases hz:(KQ X.P ty).bind cellsOf with
       | none=>rw [hz] at QL;cases QL
       | some cs =>
        rw [hz] at QL;injection QL with QL;injection QL with hd hT1;obtain ⟨arr,r1,r2,r3,r4,r5⟩:=q3g hz w1;have hgr:=quv (w':=w1.alloc (.cells arr ty)) hsim ⟨rfl,rfl,rfl⟩ (by simp) (fun c hc=>heap_alloc_old w1 _ hc);have qg:t0 < nt:=(by simpa [ke,g3] using kG);have hrun:Goes X.P (execOp a1.eval o) w1 (fun v w2=>v = .pointer (some ⟨w1.heap.size,0,none⟩)∧w2 = w1.alloc (.cells arr ty)):=Goes.value (by simp [execOp,g2,r1]) ⟨rfl,rfl⟩;refine Goes.upon (hrun.mono fun v w2 hp=>?_);obtain ⟨rfl,rfl⟩:=hp;refine finish d _ _ ι1 ok1 m true (fun _=>rfl) hE kG hgr.1 (fun h=>by cases h JA) hgr.2 hm (fun i x hx QU zQ=>?_) (fun i zQ=>?_) (fun _=>?_)
        ·have zu:i≠j:=fun h=>zQ (by rw [h];exact JA);rw [qn,if_neg zu];exact hK i x hx QU zQ
        ·have zu:i = j:=(by rw [JA] at zQ;injection zQ with h;exact h.symm);rw [qn,if_pos zu];simp
        ·refine ⟨j,o,t0,w1.heap.size,arr,ty,(0,0),cs,JA,ho,g3,by omega,hT1.symm,by rw [hE,← hd,g3],by rw [(qd5 a1 o.dst _).1];exact jZ qg (by rw [h1];exact Qq),?_,heap_alloc_new w1 _,fun h=>?_,fun q es s hq h=>?_,hevol.size,r2,.inl rfl,r3,r4,r5,fun k y hy Ja hn=>?_⟩
         ·rw [g3];have:t0 < a1.tmps.size:=jZ qg (by rw [h1];exact Qq);simp [Act.put,this,jl]
         ·exact absurd (hsim.okS _ h) (Nat.lt_irrefl _)
         ·exact absurd (hsim.lt hq h) (Nat.lt_irrefl _)
         ·rw [qn,if_neg Ja];refine qcQ k y hy (g5 k y hy Ja hn).1 ?_;unfold Vs;simp only [g3,Option.any_some,qdY];exact .inl (.inl (.inl (.inl (by simpa using hn))))
     | m =>
      have hk:zZ X (bw o.dst) o.op = true:=by simp only [zZ,Zv]
      have ZD:al = some j→∀ i x,ops[i]? = some x→zZ X (bw x.dst) x.op = true→i < j→listed.getD i false = true:=fun h=>by
       obtain ⟨z,g1,g2⟩:=halK j h;rw [ho] at g1;injection g1 with g1;subst g1;rw [Zv] at g2;cases g2
      rw [← hTK hk ZD] at QL;exact go (j+1) QL (by omega) (kl hk ZD) (hJ2 hk ZD) (zJ hk)
    ·rw [if_neg (by rw [hw false hg];simp)];cases hk:zZ X (bw o.dst) o.op with
     | false=>exact finish (.tup []) undef w1 ι1 ok1 m pend (fun h=>h) hE kG hsim (fun _=>qgb) (.refl _ (qE _)) hm (jS hk) (hJ1 hk) (hPk _ _ _ _ _ (.refl _ (qE _)) kb)
     | true =>
      have ZD:al = some j→∀ i x,ops[i]? = some x→zZ X (bw x.dst) x.op = true→i < j→listed.getD i false = true:=fun h=>by
       obtain ⟨o',ty,t0,g1,g2,g3,g4,g5⟩:=hD.alo j h;rw [ho] at g1;injection g1 with g1;subst g1;rw [g4] at hg;simp [vH] at hg
      have JV:T (j+1) = T m:=(by rw [hTj,hTK hk ZD]);have hev2:Evol (T m).length ok1 w1 ι1 (T m) ok1 w1 ι1 (T (j+1)):=(by rw [JV];exact .refl _ (qE _));exact finish (.tup []) undef w1 ι1 ok1 (j+1) pend (fun h=>h) hE kG (by rw [JV];exact hsim) (fun _=>qgb) hev2 (by omega) (kl hk ZD) (hJ2 hk ZD) (hPk _ _ _ _ _ hev2 (zJ hk))
 refine main ops.size (Array.replicate ops.size false) a w 0 ι ok false (by simp) ?_ ?_ (vV _) ?_ ?_ (fun h=>by cases h) (by rw [hT0];exact hs) (by rw [hT0];exact .refl _ (qE _)) rfl rfl ?_
 ·exact zT (List.length_filter_le _ _) (by simp)
 ·intro i o hi hl
  have:(Array.replicate ops.size false).getD i false = false:=by
   rw [jl,qhL];split <;> rfl
  rw [this] at hl;cases hl
 ·intro i o hi hk _
  have:(Array.replicate ops.size false).getD i false = false:=by
   rw [jl,qhL];split <;> rfl
  rw [this];simp
 ·intro i _
  have:(Array.replicate ops.size false).getD i false = false:=by
   rw [jl,qhL];split <;> rfl
  rw [this];simp
 ·intro t k hk VK _ d hd;rw [hT0]
  have hl:=hslot t 0 k (vV _) hk (fun i o hi kG hik=>by
   have h3:=(VK i o hi kG).2 hik.2
   have:(Array.replicate ops.size false).getD i false = false:=by
    rw [jl,qhL];split <;> rfl
   rw [this] at h3;cases h3)
  rw [hl,hE0] at hd;exact he t d hd
theorem q1w {F:zt} (hF:Vw X F) {nt:Nat} {ops:Array Oper} {drw:Bool} {Q:Exit→Act→World→Prop} (hD:DrawFacts X (fun _=>drw) [] al ops) {e e':qr} {a:Act} (hev:vP X F nt drw ops ops.toList e H = some (e',H'))
  (hs:Sim X ok w ι H) (he:EnvRep ok w ι H e a.tmps) (Qq:nt≤a.tmps.size) (hQ:∀ a' w',Out X H.length ok w ι H a e' H' a' w'→Q .normal a' w') :
  wpAny X.P .any ops Q ops.size (Array.replicate ops.size false) a w:=by
 obtain ⟨E,T,hE0,hT0,hEn,hTn,Kv⟩:=qkS hev;exact qsd hF hD hE0 hT0 hEn hTn Kv (fun i j x y _ _ hc=>by simp at hc) hs he Qq hQ
theorem q1v {F:zt} (hF:Vw X F) {nt:Nat} {ops:Array Oper} {ow:List Nat} {Q:Exit→Act→World→Prop} (hD:DrawFacts X (ZI ow) L al ops) {e e':qr} {a:Act} (hev:Qi X F nt ow ops L 0 [] [] ops.toList e H = some (e',H'))
  (hs:Sim X ok w ι H) (he:EnvRep ok w ι H e a.tmps) (Qq:nt≤a.tmps.size) (hQ:∀ a' w',Out X H.length ok w ι H a e' H' a' w'→Q .normal a' w') :
  wpAny X.P .any ops Q ops.size (Array.replicate ops.size false) a w:=by
 obtain ⟨E,T,hE0,hT0,hEn,hTn,Kv⟩:=qkR hev;refine qsd hF hD hE0 hT0 hEn hTn Kv ?_ hs he Qq hQ;rw [← hE0,← hT0] at hev;intro i j x y hi hj hc qQ gi gj;exact qib (fun k o hk=>Kv k o (by simpa using hk)) ops.toList 0 [] [] _ (fun m=>by simp) hev (fun i x hik=>by omega) (fun j y hjk=>by omega) i j x y hi hj hc qQ gi gj (vV _)
end
end Go.Ev
namespace Go.Ev
section
variable {X:Cx} {ok ok':Nat→Prop} {w w':World} {ι:qV} {H H':qe}
theorem qeO {ops:Array Oper} {e:qr} {a:Act} (he:EnvRep ok w ι H e a.tmps) {o:Oper} {b:Bool} (h:vH ops e o.guard = some b):Region.wanted o (yielded ops a.tmps) = b :=
 qkA (fun _ _ t _ _ d hd=>he t d hd) h
theorem qgu {e:qr} {a:Act} {dst:Option Tmp} {d:D} {v:Value} {nt:Nat} (he:EnvRep ok w ι H e a.tmps) (hd:Rep ok w ι H d v) (hn:nt≤a.tmps.size) (ht:ke nt dst = true):EnvRep ok w ι H (jK e dst d) (a.put dst v).tmps:=by
 cases dst with
 | none=>exact he
 | some t =>
  have ht':t < nt:=by simpa [ke] using ht
  exact he.put hd (jZ ht' hn)
theorem qjL {F:zt} (hF:Vw X F) {nt:Nat} {drw:Bool} {ops:Array Oper} {Q:Exit→Act→World→Prop}:∀ {l:List Oper} {e e':qr} {H H':qe} {ok:Nat→Prop} {w:World} {ι:qV} {a:Act},vP X F nt drw ops l e H = some (e',H') →
  Sim X ok w ι H→EnvRep ok w ι H e a.tmps→nt≤a.tmps.size→(∀ a' w',Out X H.length ok w ι H a e' H' a' w'→Q .normal a' w')→wpList X.P ops Q l a w
 | [],e,e',H,H',ok,w,ι,a,h,hs,he,hn,hQ=>by
  simp only [vP,qw,zm] at h;obtain ⟨rfl,rfl⟩:=h;exact hQ a w ⟨rfl,rfl,ι,ok,hs,he,.refl _ (qE _)⟩
 | o :: l,e,e',H,H',ok,w,ι,a,h,hs,he,hn,hQ=>by
  simp only [vP] at h;split at h
  ·rename_i kG hg;split at h
   ·rename_i d H1 ho;have hw:=qeO he hg;simp only [wpList,hw,if_true];refine .inl ?_;unfold Oper.wp;refine Goes.upon ((qiW hF hs he ho).mono fun v w1 hp=>?_);obtain ⟨ι1,ok1,k1,k2,k3⟩:=hp;obtain ⟨s1,s2⟩:=qd5 a o.dst v;refine qjL hF h k1 (qgu (he.evol' hs k3) k2 hn kG) (by omega) fun a2 w2 vr=>hQ a2 w2 ?_;obtain ⟨t1,t2,ι2,ok2,u1,u2,u3⟩:=vr;exact ⟨by omega,by rw [t2,s2],ι2,ok2,u1,u2,k3.trans (u3.mono k3.nle.2)⟩
   ·cases h
  ·rename_i kG hg;have hw:=qeO he hg;simp only [wpList,hw,QE,if_false];obtain ⟨s1,s2⟩:=qd5 a o.dst undef;refine qjL hF h hs (qgu he qgb hn kG) (by omega) fun a2 w2 vr=>hQ a2 w2 ?_;obtain ⟨t1,t2,rest⟩:=vr;exact ⟨by omega,by rw [t2,s2],rest⟩
  ·cases h
theorem qgH:∀ {ks:List Nat} {e:qr} {t:Nat} {d:D},qi (kX ks e) t = some d→qi e t = some d
 | [],e,t,d,h=>by simp [kX,qi] at h
 | k :: ks,e,t,d,h=>by
  simp only [kX] at h;split at h
  ·rename_i x hk;simp only [qi] at h;split at h
   ·rename_i XQ;subst XQ;rw [hk];exact h
   ·exact qgH h
  ·exact qgH h
theorem qnm {n:Nat}:∀ {e:qr} {t:Nat} {d:D},qbO n e = true→qi e t = some d→closed n d = true
 | [],t,d,_,h=>by simp [qi] at h
 | (s,x) :: e,t,d,hc,h=>by
  simp only [qbO,jk] at hc;simp only [qi] at h;split at h
  ·injection h with h;subst h;exact hc.1
  ·exact qnm hc.2 h
theorem q1n {f n0 id:Nat} {e e':qr} {tmps:Array Value} (h:qjR X f n0 id e H = some (e',H')) (hn:n0≤H.length) (hs:Sim X ok w ι H) (he:EnvRep ok w ι H e tmps) :
  Sim X ok w ι H'∧EnvRep ok w ι H' e' tmps∧Evol n0 ok w ι H ok w ι H':=by
 unfold qjR at h;split at h
 ·simp only [qw,zm] at h;obtain ⟨rfl,rfl⟩:=h;exact ⟨hs,he,.refl _ hn⟩
 ·simp only [qw,zm] at h;obtain ⟨rfl,rfl⟩:=h;exact ⟨hs,fun t d ht=>he t d (qgH ht),.refl _ hn⟩
 ·rename_i ks k hk;have hkeep:EnvRep ok w ι H (kX ks e) tmps:=fun t d ht=>he t d (qgH ht);split at h
  ·simp only [qw,zm] at h;obtain ⟨rfl,rfl⟩:=h;exact ⟨hs,hkeep,.refl _ hn⟩
  ·rename_i hlen;split at h
   ·rename_i hc;rw [jk] at hc;simp only [qw,zm] at h;obtain ⟨rfl,rfl⟩:=h;have hm:n0+k≤H.length:=(by omega);exact ⟨q10 hm hs hc.2,hkeep.evol hs (qka hm) (fun t d ht=>qnm hc.1 ht),(qka hm).mono (by omega)⟩
   ·cases h
theorem qrV {f n0 id:Nat} {e e':qr} {tmps:Array Value} (h:qhk X f n0 id e H = some (e',H')) (hn:n0≤H.length) (hs:Sim X ok w ι H) (he:EnvRep ok w ι H e tmps) :
  ∃ ok' ι',Sim X ok' w ι' H'∧EnvRep ok' w ι' H' e' tmps∧Evol n0 ok w ι H ok' w ι' H':=by
 have stepC:∀ {e e':qr} {ok:Nat→Prop} {H H':qe},qhl X f n0 id e H = some (e',H')→n0≤H.length→Sim X ok w ι H→EnvRep ok w ι H e tmps →
   ∃ ι',Sim X ok w ι' H'∧EnvRep ok w ι' H' e' tmps∧Evol n0 ok w ι H ok w ι' H':=by
  intro e e' ok H H' h hn hs he;unfold qhl at h;split at h
  ·obtain ⟨h1,h2,h3⟩:=q1n h hn hs he;exact ⟨ι,h1,h2,h3⟩
  ·exact qvC h hn hs he
 unfold qhk at h;split at h
 ·obtain ⟨ι',h1,h2,h3⟩:=stepC h hn hs he;exact ⟨ok,ι',h1,h2,h3⟩
 ·split at h
  ·rename_i e1 H1 QA;obtain ⟨ok',k1,k2,k3⟩:=q04 QA hs he;obtain ⟨ι',h1,h2,h3⟩:=stepC h (zT hn k3.nle.2) k1 k2;exact ⟨ok',ι',h1,h2,(k3.mono hn).trans h3⟩
  ·cases h
theorem qrU {f n0 id:Nat} {e e':qr} {tmps:Array Value} (h:enter X f n0 id e H = some (e',H')) (hn:n0≤H.length) (hs:Sim X ok w ι H) (he:EnvRep ok w ι H e tmps) :
  ∃ ok' ι',Sim X ok' w ι' H'∧EnvRep ok' w ι' H' e' tmps∧Evol n0 ok w ι H ok' w ι' H':=by
 unfold enter at h;split at h
 ·exact qrV h hn hs he
 ·split at h
  ·rename_i H1 hst;obtain ⟨ok1,k1,k2,k3⟩:=qim hst hs;obtain ⟨ok2,ι',h1,h2,h3⟩:=qrV h (by rw [k3];exact hn) k1 (fun t d ht=>⟨(he t d ht).1,(he t d ht).2.evol hs k2 (he t d ht).2.closed⟩);exact ⟨ok2,ι',h1,h2,(k2.mono hn).trans h3⟩
  ·cases h
def qjJ:Ex→Exit
 | .normal=>.normal
 | .exit id=>.exit id
 | .ret=>.ret
def CQ (X:Cx) (n:Nat) (ok:Nat→Prop) (w:World) (ι:qV) (H:qe) (a:Act) (ex:Ex) (e':qr) (H':qe) (x:Exit) (a':Act) (w':World):Prop :=
 x = qjJ ex∧Out X n ok w ι H a e' H' a' w'
def q3s (X:Cx) (n:Nat):Prop :=
 ∀ (f nt n0:Nat) (c:Code) (e e':qr) (H H':qe) (ex:Ex) (ok:Nat→Prop) (w:World) (ι:qV) (a:Act),zl X n f nt n0 c e H = some (ex,e',H')→Zn X f c = true→n0≤H.length→Sim X ok w ι H→EnvRep ok w ι H e a.tmps→nt≤a.tmps.size →
  c.wp X.P (CQ X n0 ok w ι H a ex e' H') a w
theorem Out.trans {n:Nat} {a a1 a2:Act} {w1 w2:World} {H1 H2:qe} {ok1:Nat→Prop} {ι1:qV} {e2:qr} (h1:a1.tmps.size = a.tmps.size) (h2:a1.defers = a.defers) (h3:Evol n ok w ι H ok1 w1 ι1 H1)
  (h:Out X n ok1 w1 ι1 H1 a1 e2 H2 a2 w2):Out X n ok w ι H a e2 H2 a2 w2:=by
 obtain ⟨t1,t2,ι2,ok2,u1,u2,u3⟩:=h;exact ⟨by omega,by rw [t2,h2],ι2,ok2,u1,u2,h3.trans u3⟩
theorem qmG {t:Bool} {c:Operand} {e:qr} {a:Act} (hs:Sim X ok w ι H) (he:EnvRep ok w ι H e a.tmps) (h:qW X e c = some (.bool t)):a.eval c = .bool t:=by
 have:=vi hs he h;generalize a.eval c = v at this ⊢;cases this;rfl
theorem qh6:∀ (l:List D) (i t:Nat) (d:D),qi (kf i l) t = some d→i≤t∧l[t - i]? = some d
 | [],i,t,d,h=>by simp [kf,qi] at h
 | x :: l,i,t,d,h=>by
  simp only [kf,qi] at h;split at h
  ·rename_i hit;subst hit;injection h with h;subst h;exact ⟨qE _,by simp⟩
  ·obtain ⟨h1,h2⟩:=qh6 l (i+1) t d h;refine ⟨by omega,?_⟩;rw [show t - i = (t - (i+1))+1 by omega,qdv];exact h2
def qgq (tmps:Array Value):ResultVar→Sem Value
 | .tmp t=>pure (tmps.getD t undef)
 | .cell a t=>do loadVar t (← asAddr (tmps.getD a undef))
theorem qiA {e:qr} {tmps:Array Value} (hs:Sim X ok w ι H) (he:EnvRep ok w ι H e tmps):∀ {l:List ResultVar} {ds:List D},QF X e H l = some ds →
  ∃ vs:List Value,(l.mapM (qgq tmps)).run X.P w = .ok vs w∧RepL ok w ι H ds vs
 | [],ds,h=>by
  simp only [QF,qw] at h;subst h;exact ⟨[],by simp,rfl,by simp⟩
 | .tmp t :: l,ds,h=>by
  simp only [QF] at h;split at h
  ·rename_i d ds' h1 h2;injection h with h;subst h;obtain ⟨vs,q1,q2⟩:=qiA hs he h2;refine ⟨tmps.getD t undef :: vs,?_,by simp [q2.1],fun j x hx=>?_⟩
   ·rw [List.mapM_cons];simp only [qgq,Sem.run_bind,Sem.run_pure,Result.andThen_ok,q1]
   ·cases j with
    | zero =>
     simp only [Z1,qw] at hx;subst hx;exact (he t d h1).2
    | succ j=>exact q2.2 j x (by simpa using hx)
  ·cases h
 | .cell a t :: l,ds,h=>by
  simp only [QF] at h;split at h
  ·rename_i d ds' h1 h2;injection h with h;subst h;obtain ⟨vs,q1,q2⟩:=qiA hs he h2;cases hl:qi e a with
   | none=>simp [hl] at h1
   | some p =>
    simp only [hl,qaW] at h1;obtain ⟨_,hr⟩:=he a p hl;obtain ⟨v,r1,r2⟩:=qno hs hr h1
    have hptr:∃ ad,tmps.getD a undef = .pointer (some ad):=by
     unfold ldD at h1;split at h1
     ·rename_i hm;exact hr.ptr hm
     ·rename_i hm;exact hr.ptr hm
     ·cases h1
    obtain ⟨ad,had⟩:=hptr;rw [had] at r1;simp only [Instr.loadAt,Instr.sureAddr,Sem.run_bind,Sem.run_pure,Result.andThen_ok] at r1;refine ⟨v :: vs,?_,by simp [q2.1],fun j x hx=>?_⟩
    ·rw [List.mapM_cons];simp only [qgq,had,asAddr,Sem.run_bind,Sem.run_pure,Result.andThen_ok,r1,q1]
    ·cases j with
     | zero =>
      simp only [Z1,qw] at hx;subst hx;exact r2
     | succ j=>exact q2.2 j x (by simpa using hx)
  ·cases h
theorem qwF {ds:List D} {vs:List Value} (h:RepL ok w ι H ds vs):Rep ok w ι H (Vc ds) (if hh:vs.toArray.size = 1 then vs.toArray[0] else .tuple vs.toArray):=by
 unfold Vc;split
 ·rename_i d;obtain ⟨v,us,rfl,r1,h2⟩:=Jw h;obtain rfl:=qcl h2;simpa using r1
 ·rename_i qQ
  have hl:vs.toArray.size≠1:=by
   intro e;have:ds.length = 1:=by rw [← h.1];simpa using e
   match ds,this with
   | [d],_=>exact qQ d rfl
  rw [dif_neg hl]
  exact .tup (by simpa using h.1) fun j d hj=>by
   have:=h.2 j d hj;simpa [jl,j8] using this
theorem qvD {fn:Func} {e:qr} {tmps:Array Value} {ds:List D} (hs:Sim X ok w ι H) (he:EnvRep ok w ι H e tmps) (h:QF X e H fn.results.toList = some ds) :
  ∃ v,(results fn tmps).run X.P w = .ok v w∧Rep ok w ι H (Vc ds) v:=by
 obtain ⟨vs,q1,q2⟩:=qiA hs he h;refine ⟨_,?_,qwF q2⟩
 have hfun:results fn tmps = (do let vs ← fn.results.mapM (qgq tmps);pure (if h:vs.size = 1 then vs[0] else .tuple vs)):=by
  unfold results;congr 1
 rw [hfun,Sem.run_bind,Array.mapM_eq_mapM_toList,Sem.run_map,q1];rfl
theorem qi0 {P:Program} {c:Code} {Q Q':Exit→Act→World→Prop} (hq:∀ x a w,Q x a w→Q' x a w):∀ (n:Nat) (a:Act) (w:World),Code.rounds P c Q n a w→Code.rounds P c Q' n a w
 | 0,_,_,h=>h
 | n+1,a,w,h=>by
  rw [rounds_succ] at h ⊢;refine wp_mono h fun x a w hx=>?_;cases x <;> first | exact hq _ _ _ hx | exact qi0 hq n a w hx
theorem qlj (hG:Good X):∀ n,Vw X (vC X n)∧q3s X n:=by
 intro n
 induction n using Nat.strongRecOn with
 | _ n ih =>
  cases n with
  | zero =>
   refine ⟨fun f args H r H' ok w ι vs h=>by simp [vC] at h,fun f nt n0 c e e' H H' ex ok w ι a h=>by simp [zl] at h⟩
  | succ n =>
   have ihF:=(ih n (by omega)).1;have ihC:=(ih n (by omega)).2;constructor
   ·-- a function
    intro f args H r H' ok w ι vs h hs hv;simp only [vC] at h;split at h
    ·rename_i r0 Jh;injection h with h;subst h;exact (hG.con f args H r H' Jh ok w ι vs hs hv).mono fun v w' hp=>hp.g _
    split at h
    ·cases h
    ·rename_i fn hf;split at h
     ·rename_i hb;obtain ⟨h1,rfl⟩:=Zd h;obtain ⟨v,q1,q2,q3⟩:=hG.ext f fn args r hf hb h1 ok w ι H vs hs hv;exact Goes.value q1 ⟨ι,ok,hs,q2,.refl _ (qE _),fun _ i ds hi hd=>by have:=qA hd;omega⟩
     ·rename_i c hb;cases hbad:X.bad f with
      | true=>simp [hbad] at h
      | false =>
      simp only [hbad,QE,if_false] at h;have hokc:=hG.okc f fn c hf hb hbad;have KC:(callFunc f vs.toArray).run X.P w = .ok (.enter f vs.toArray) w:=Go.Proofs.enters_of hf (hG.ng f fn hf) hb _ _
      have key:∀ ex e H1 ds,(ex = .normal∨ex = .ret)→zl X n f fn.ntmps H.length c (kf 0 args) H = some (ex,e,H1)→QF X e H1 fn.results.toList = some ds→qbm (X.gr f && X.byRef f) (X.fzr f) H.length H1 (Vc ds) = some (r,H') →
        Goes X.P (callFunc f vs.toArray) w (qhG X (X.gr f && X.byRef f) ok w ι H r H'):=by
       intro ex e H1 ds hex hc hr hp;unfold Goes;rw [KC];simp only;refine calls_of_wp hf hb (wp_mono (ihC f fn.ntmps H.length c (kf 0 args) e H H1 ex ok w ι ⟨vs.toArray ++ Array.replicate (fn.ntmps - vs.toArray.size) undef,[]⟩ hc hokc (qE _) hs ?_ ?_) ?_)
       ·intro t d ht;obtain ⟨_,h2⟩:=qh6 args 0 t d ht;rw [Nat.sub_zero] at h2;have qg:t < vs.length:=(by rw [hv.1];exact (List.getElem?_eq_some_iff.1 h2).1);refine ⟨by simp;omega,?_⟩;have:=hv.2 t d h2;rw [jl,qfX (by simpa using qg)];simpa [j8] using this
       ·simp;omega
       ·rintro x a' w' ⟨rfl,k1,k2,ι1,ok1,k3,k4,k5⟩;obtain ⟨v,q1,q2⟩:=qvD (fn:=fn) k3 k4 hr
        have hpost:qhG X (X.gr f && X.byRef f) ok w ι H r H' v w':=by
         cases hgr:(X.gr f && X.byRef f) with
         | true =>
          rw [hgr] at hp;cases hz:X.fzr f with
          | false =>
           rw [hz] at hp;simp only [qbm,qd6,qw,zm] at hp;obtain ⟨rfl,rfl⟩:=hp;exact ⟨ι1,ok1,k3,q2,k5,fun h=>by cases h⟩
          | true =>
           rw [hz] at hp;simp only [qbm,qd6] at hp;split at hp
           ·rename_i r1 l hst;have h1:=qee k3 (okF:=X7 ok1 ι1 H1 l) (fun b hb=>.inl hb) _ _ _ _ _ q2 hst (fun i hi ds b s hd hb=>.inr ⟨i,ds,s,hi,hd,hb⟩);simp only [qw,zm] at hp;obtain ⟨rfl,rfl⟩:=hp;exact ⟨ι1,_,qfJ k3 l,h1.lift (ι:=ι1) (H:=jO H1 l),k5.trans ((qdT l).mono k5.nle.2),fun h=>by cases h⟩
           ·cases hp
         | false =>
          rw [hgr] at hp;obtain ⟨ok2,ι2,p1,p2,p3,p4⟩:=qmy k5.nle.2 k3 q2 hp;exact ⟨ι2,ok2,p1,p2,k5.trans p3,fun _=>p4⟩
        rcases hex with rfl | rfl
        ·exact ⟨k2,v,q1,v,rfl,hpost⟩
        ·exact ⟨k2,v,q1,v,rfl,hpost⟩
      split at h
      ·rename_i e H1 hc;split at h
       ·rename_i ds hr;exact key _ e H1 ds (.inl rfl) hc hr h
       ·cases h
      ·rename_i e H1 hc;split at h
       ·rename_i ds hr;exact key _ e H1 ds (.inr rfl) hc hr h
       ·cases h
      ·cases h
   ·-- zk
    intro f nt n0 c e e' H H' ex ok w ι a h hoc hn hs he Qq
    have again:∀ (ex1:Ex) (e1:qr) (H1:qe) (Q:Exit→Act→World→Prop) (c1:Code),zl X n f nt n0 c1 e H = some (ex1,e1,H1)→Zn X f c1 = true→(∀ a' w',Out X n0 ok w ι H a e1 H1 a' w'→Q (qjJ ex1) a' w')→c1.wp X.P Q a w:=by
     intro ex1 e1 H1 Q c1 h1 hoc1 hQ;refine wp_mono (ihC f nt n0 c1 e e1 H H1 ex1 ok w ι a h1 hoc1 hn hs he Qq) ?_;rintro x a' w' ⟨rfl,vr⟩;exact hQ a' w' vr
    have here:Out X n0 ok w ι H a e H a w:=⟨rfl,rfl,ι,ok,hs,he,.refl _ hn⟩;cases c with
    | skip =>
     simp only [zl,qw,zm] at h;obtain ⟨rfl,rfl,rfl⟩:=h;exact wp_skip ⟨rfl,here⟩
    | label l =>
     simp only [zl,qw,zm] at h;obtain ⟨rfl,rfl,rfl⟩:=h;exact wp_label ⟨rfl,here⟩
    | exit id =>
     simp only [zl,qw,zm] at h;obtain ⟨rfl,rfl,rfl⟩:=h;exact wp_exit ⟨rfl,here⟩
    | ret =>
     simp only [zl,qw,zm] at h;obtain ⟨rfl,rfl,rfl⟩:=h;exact wp_ret ⟨rfl,here⟩
    | region id ops draw =>
     simp only [zl] at h;split at h
     ·cases h
     ·rename_i e1 H1 zR;obtain ⟨ok1,ι1,s1,s2,s3⟩:=qrU zR hn hs he;cases ho:Jk X (vC X n) f nt id draw ops e1 H1 with
      | none=>simp [ho] at h
      | some r =>
       obtain ⟨e2,H2⟩:=r;simp only [ho,jj,qw,zm] at h;obtain ⟨rfl,rfl,rfl⟩:=h;cases draw with
       | false =>
        simp only [Jk] at ho;refine wp_region_list (qjL ihF ho s1 s2 Qq fun a' w' vr=>⟨rfl,?_⟩);obtain ⟨t1,t2,ι2,ok2,u1,u2,u3⟩:=vr;exact ⟨t1,t2,ι2,ok2,u1,u2,s3.trans (u3.mono s3.nle.2)⟩
       | true =>
        simp only [Zn,Bool.not_true,Bool.false_or] at hoc;simp only [Jk] at ho;obtain ⟨d1,d2⟩:=qua (w':={ w with drawn:=w.drawn+1 }) s1 ⟨rfl,rfl,rfl⟩ rfl;cases hlp:X.lp f id with
        | none =>
         rw [hlp] at ho hoc;simp only [Yq] at ho;refine wp_region_any hG.mixed (q1w ihF (qse hoc) ho d1 (s2.evol' s1 d2) Qq fun a' w' vr=>⟨rfl,?_⟩);obtain ⟨t1,t2,ι2,ok2,u1,u2,u3⟩:=vr;exact ⟨t1,t2,ι2,ok2,u1,u2,s3.trans ((d2.mono s3.nle.2).trans (u3.mono s3.nle.2))⟩
        | some q =>
         obtain ⟨L,ow⟩:=q;rw [hlp] at ho hoc;refine wp_region_any hG.mixed (q1v ihF (qse hoc) ho d1 (s2.evol' s1 d2) Qq fun a' w' vr=>⟨rfl,?_⟩);obtain ⟨t1,t2,ι2,ok2,u1,u2,u3⟩:=vr;exact ⟨t1,t2,ι2,ok2,u1,u2,s3.trans ((d2.mono s3.nle.2).trans (u3.mono s3.nle.2))⟩
    | seq x y =>
     simp only [Zn,jk] at hoc;simp only [zl] at h;refine wp_seq ?_;split at h
     ·rename_i e1 H1 hx;refine again _ e1 H1 _ x hx hoc.1 fun a1 w1 vr=>?_;obtain ⟨t1,t2,ι1,ok1,u1,u2,u3⟩:=vr;refine wp_mono (ihC f nt n0 y e1 e' H1 H' ex ok1 w1 ι1 a1 h hoc.2 u3.nle.2 u1 u2 (by omega)) ?_;rintro z a2 w2 ⟨rfl,hout2⟩;exact ⟨rfl,Out.trans t1 t2 u3 hout2⟩
     ·rename_i qQ;refine again ex e' H' _ x h hoc.1 fun a1 w1 vr=>?_;cases ex with
      | normal=>exact absurd h (qQ _ _)
      | exit id=>exact ⟨rfl,vr⟩
      | ret=>exact ⟨rfl,vr⟩
    | cond c x y =>
     simp only [Zn,jk] at hoc;simp only [zl] at h;split at h
     ·rename_i t hc;refine wp_cond (qmG hs he hc) (again ex e' H' _ _ h (by cases t;exact hoc.2;exact hoc.1) fun a1 w1 vr=>⟨rfl,vr⟩)
     ·cases h
    | block id c =>
     simp only [Zn] at hoc;simp only [zl] at h;refine wp_block ?_;split at h
     ·rename_i i e1 H1 hc;refine again _ e1 H1 _ c hc hoc fun a1 w1 vr=>?_;simp only [qjJ,Exit.inBlock];split at h
      ·rename_i hi;simp only [qw,zm] at h;obtain ⟨rfl,rfl,rfl⟩:=h;rw [if_pos hi];exact ⟨rfl,vr⟩
      ·rename_i hi;simp only [qw,zm] at h;obtain ⟨rfl,rfl,rfl⟩:=h;rw [if_neg hi];exact ⟨rfl,vr⟩
     ·rename_i qQ;refine again ex e' H' _ c h hoc fun a1 w1 vr=>?_;cases ex with
      | normal=>exact ⟨rfl,vr⟩
      | exit i=>exact absurd h (qQ _ _ _)
      | ret=>exact ⟨rfl,vr⟩
    | scope c =>
     simp only [Zn] at hoc;simp only [zl] at h;refine wp_scope_straight (again ex e' H' _ c h hoc fun a1 w1 vr=>?_);cases ex <;> exact ⟨rfl,vr⟩
    | loop c =>
     simp only [Zn] at hoc
     have key:∀ m,m≤n→∀ (e e':qr) (H H':qe) (ex:Ex) (ok:Nat→Prop) (w:World) (ι:qV) (a:Act),zl X (m+1) f nt n0 (.loop c) e H = some (ex,e',H')→n0≤H.length→Sim X ok w ι H→EnvRep ok w ι H e a.tmps→nt≤a.tmps.size →
       Code.rounds X.P c (CQ X n0 ok w ι H a ex e' H') (m+1) a w:=by
      intro m
      induction m with
      | zero =>
       intro _ e e' H H' ex ok w ι a h;simp only [zl] at h;simp at h
      | succ m ihm =>
       intro hm e e' H H' ex ok w ι a h hn hs he Qq;rw [rounds_succ];rw [zl] at h;split at h
       ·rename_i e1 H1 hc;refine wp_mono ((ih (m+1) (by omega)).2 f nt n0 c e e1 H H1 .normal ok w ι a hc hoc hn hs he Qq) ?_;rintro x a1 w1 ⟨rfl,t1,t2,ι1,ok1,u1,u2,u3⟩;have VB:=ihm (by omega) e1 e' H1 H' ex ok1 w1 ι1 a1 h u3.nle.2 u1 u2 (by omega);refine qi0 ?_ _ _ _ VB;rintro x a2 w2 ⟨hx,vr⟩;exact ⟨hx,Out.trans t1 t2 u3 vr⟩
       ·rename_i qQ;refine wp_mono ((ih (m+1) (by omega)).2 f nt n0 c e e' H H' ex ok w ι a h hoc hn hs he Qq) ?_;rintro x a1 w1 ⟨rfl,vr⟩;cases ex with
        | normal=>exact absurd h (qQ _ _)
        | exit id=>exact ⟨rfl,vr⟩
        | ret=>exact ⟨rfl,vr⟩
     exact wp_loop_rounds _ (key n (qE _) e e' H H' ex ok w ι a h hn hs he Qq)
    | goto l=>simp [zl] at h
    | rangeFunc _ _ _ _=>simp [zl] at h
    | refuse _=>simp [zl] at h
end
end Go.Ev
namespace Go.Ev
section
variable {X:Cx}
def Vz (F G:zt):Prop:= ∀ f args H r,F f args H = some r→G f args H = some r
theorem q2q {F G:zt} (h:Vz F G) {f:Nat} {args:List D} {H:qe} {r:D × qe} (hc:VS F f args H = some r):VS G f args H = some r:=by
 cases args with
 | nil=>simp [VS] at hc
 | cons a rest =>
  cases a with
  | optr i st off =>
   simp only [VS] at hc ⊢;cases hd:qf H i with
   | none=>simp [hd] at hc
   | some ds =>
    simp only [hd] at hc ⊢;split at hc
    ·rename_i hf;rw [if_pos hf];cases hF:F f (.optr 0 st off :: rest) [some ds] with
     | none=>simp [hF] at hc
     | some q=>rw [h _ _ _ _ hF];rw [hF] at hc;exact hc
    ·cases hc
  | _=>simp [VS] at hc
theorem q2n {F G:zt} (_:Vz F G) {f:Nat} {args:List D} {H:qe} {r:D × qe} (hc:qe8 F f args H = some r):qe8 G f args H = some r:=by
 cases hc
theorem q2u {F G:zt} (h:Vz F G) {f:Nat} {args:List D} {H:qe} {r:D × qe} (hc:qaT X F f args H = some r):qaT X G f args H = some r:=by
 unfold qaT at hc ⊢;split
 ·rename_i hl;rw [if_pos hl] at hc;exact q2n h hc
 ·rename_i hl;rw [if_neg hl] at hc;exact q2q h hc
theorem q2x {F G:zt} (h:Vz F G) {f:Nat} {args:List D} {H:qe} {r:D × qe} (hc:qaU F f args H = some r):qaU G f args H = some r:=by
 unfold qaU qdj at hc ⊢;split at hc
 ·split at hc
  ·rename_i hf;rw [if_pos hf];split at hc
   ·rename_i hF;rw [h _ _ _ _ hF];exact hc
   ·cases hc
  ·cases hc
 ·cases hc
theorem q2k {F G:zt} (h:Vz F G) {f:Nat} {args:List D} {H:qe} {r:D × qe} (hc:Xu X F f args H = some r):Xu X G f args H = some r:=by
 unfold Xu at hc ⊢;split
 ·rename_i hb;rw [if_pos hb] at hc;split
  ·rename_i hl;rw [if_pos hl] at hc;split
   ·rename_i hg;rw [if_pos hg] at hc;exact q2x h hc
   ·rename_i hg;rw [if_neg hg] at hc;exact q2u h hc
  ·rename_i hl;rw [if_neg hl] at hc;exact h _ _ _ _ hc
 ·rename_i hb;rw [if_neg hb] at hc;split
  ·rename_i ha;rw [if_pos ha] at hc;cases hF:F f args [] with
   | none=>simp [hF] at hc
   | some q=>rw [h _ _ _ _ hF];rw [hF] at hc;exact hc
  ·rename_i ha;rw [if_neg ha] at hc;cases hz:qbL H args with
   | none=>simp [hz] at hc
   | some args' =>
    simp only [hz] at hc ⊢;cases hF:F f args' [] with
    | none=>simp [hF] at hc
    | some q=>rw [h _ _ _ _ hF];rw [hF] at hc;exact hc
theorem qks {F G:zt} (h:Vz F G) {f:Nat} {args:List D} {H:qe} {r:D × qe} (hc:Zy X F f args H = some r):Zy X G f args H = some r:=by
 by_cases hp:(X.pureF f && !X.byRef f) = true
 ·obtain ⟨h4,h3,h1⟩:=qfM hp hc;unfold Zy;rw [if_pos hp];rcases h1 with ⟨h1,h2⟩ | ⟨h1,Xf,Jd,hv,args',QA,h2⟩
  ·rw [if_pos h1,h _ _ _ _ h2];simp only [h3,if_true,← h4]
  ·rw [if_neg h1];subst h4;simp only [Xf,Jd,Bool.and_self,if_true,QA,h _ _ _ _ h2,h3,hv]
 ·unfold Zy at hc ⊢;rw [if_neg hp] at hc ⊢;exact q2k h hc
theorem q23 {F G:zt} (h:Vz F G) {f:Nat} {args:List D} {H:qe} {r:D × qe} (hc:Xv X F f args H = some r):Xv X G f args H = some r:=by
 unfold Xv at hc ⊢;split at hc
 ·exact qks h hc
 ·split at hc
  ·exact qks h hc
  ·cases hc
theorem q20 {F G:zt} (h:Vz F G) {f:Nat} {args:List D} {H:qe} {r:D × qe} (hc:Vt X F f args H = some r):Vt X G f args H = some r:=by
 unfold Vt at hc ⊢;split at hc
 ·exact q23 h hc
 ·split at hc
  ·exact qks h hc
  ·cases hc
theorem qrF {F G:zt} (h:Vz F G) {o:Op} {e:qr} {H:qe} {r:D × qe} (ho:zw X F o e H = some r):zw X G o e H = some r:=by
 cases o with
 | call c =>
  simp only [zw] at ho ⊢;cases hc:c.callee with
  | builtin b=>cases ha:vL X e c.args.toList <;> simp only [hc,ha] at ho ⊢ <;> first | exact ho | cases ho
  | invoke r m=>cases ha:vL X e c.args.toList <;> simp only [hc,ha] at ho ⊢ <;> cases ho
  | value g =>
   simp only [hc] at ho ⊢;cases ha:vL X e c.args.toList with
   | none=>simp [ha] at ho
   | some args =>
    simp only [ha] at ho ⊢;split at ho
    ·exact q20 h ho
    ·cases ho
 | makeFunc g _ _=>cases g <;> exact ho
 | slice _ _ _ _ m=>cases m <;> exact ho
 | _=>exact ho
theorem qhj {F G:zt} (h:Vz F G) {drw:Bool} {o:Op} {e:qr} {H:qe} {r:D × qe} (ho:qX X F drw o e H = some r):qX X G drw o e H = some r:=by
 unfold qX at ho ⊢;split at ho
 ·exact ho
 ·exact ho
 ·split at ho
  ·cases ho
  ·rename_i hb;rw [if_neg hb];exact qrF h ho
 ·exact qrF h ho
theorem qf8 {F G:zt} (h:Vz F G) {nt:Nat} {drw:Bool} {ops:Array Oper}:∀ {l:List Oper} {e:qr} {H:qe} {r:qr × qe},vP X F nt drw ops l e H = some r→vP X G nt drw ops l e H = some r
 | [],_,_,_,ho=>ho
 | o :: l,e,H,r,ho=>by
  simp only [vP] at ho ⊢;cases hd:ke nt o.dst <;> simp only [hd] at ho ⊢
  ·cases ho
  ·cases hg:vH ops e o.guard with
   | none=>simp [hg] at ho
   | some b =>
    cases b <;> simp only [hg] at ho ⊢
    ·exact qf8 h ho
    ·cases hx:qX X F drw o.op e H with
     | none=>simp [hx] at ho
     | some q =>
      rw [qhj h hx];rw [hx] at ho;exact qf8 h ho
theorem qf9 {F G:zt} (h:Vz F G) {nt:Nat} {ow:List Nat} {ops:Array Oper} {L:QP}:∀ {l:List Oper} {k:Nat} {ws:List (Nat × qe × qe)} {rs:List (Nat × List Nat)} {e:qr} {H:qe} {r:qr × qe},Qi X F nt ow ops L k ws rs l e H = some r→Qi X G nt ow ops L k ws rs l e H = some r
 | [],_,_,_,_,_,_,ho=>by simpa [Qi] using ho
 | o :: l,k,ws,rs,e,H,r,ho=>by
  simp only [Qi] at ho ⊢;cases hd:ke nt o.dst <;> simp only [hd] at ho ⊢
  ·cases ho
  ·cases hg:vH ops e o.guard with
   | none=>simp [hg] at ho
   | some b =>
    cases b <;> simp only [hg] at ho ⊢
    ·exact qf9 h ho
    ·cases hx:qX X F (ZI ow o.dst) o.op e H with
     | none=>simp [hx] at ho
     | some q =>
      rw [qhj h hx];rw [hx] at ho;simp only at ho ⊢;split at ho
      ·rename_i hc;rw [if_pos hc];exact qf9 h ho
      ·cases ho
theorem q0O {F G:zt} (h:Vz F G) {f nt id:Nat} {draw:Bool} {ops:Array Oper} {e:qr} {H:qe} {r:qr × qe} (ho:Jk X F f nt id draw ops e H = some r):Jk X G f nt id draw ops e H = some r:=by
 unfold Jk at ho ⊢;split at ho
 ·exact qf9 h ho
 ·exact qf8 h ho
theorem qjK:∀ n,Vz (vC X n) (vC X (n+1))∧∀ f nt n0 c e H r,zl X n f nt n0 c e H = some r→zl X (n+1) f nt n0 c e H = some r
 | 0=>⟨fun f args H r h=>by simp [vC] at h,fun f nt n0 c e H r h=>by simp [zl] at h⟩
 | n+1=>by
  obtain ⟨ihF,ihC⟩:=qjK n;constructor
  ·intro f args H r h;simp only [vC] at h ⊢;cases Jh:X.con f args H with
   | some q=>simp only [Jh] at h ⊢;exact h
   | none =>
   simp only [Jh] at h ⊢;cases hf:X.P.funcs[f]? with
   | none=>simp [hf] at h
   | some fn =>
    simp only [hf] at h ⊢;cases hb:fn.body with
    | none=>simp only [hb] at h ⊢;exact h
    | some c =>
     simp only [hb] at h ⊢;cases hbad:X.bad f <;> simp only [hbad,QE,if_false,if_true] at h ⊢
     ·cases hc:zl X n f fn.ntmps H.length c (kf 0 args) H with
      | none=>simp [hc] at h
      | some q =>
       rw [ihC _ _ _ _ _ _ _ hc];rw [hc] at h;exact h
     ·cases h
  ·intro f nt n0 c e H r h;cases c with
   | region id ops draw =>
    rw [zl] at h ⊢;cases zR:enter X f n0 id e H with
    | none=>simp [zR] at h
    | some q =>
     obtain ⟨e1,H1⟩:=q;simp only [zR] at h ⊢;cases ho:Jk X (vC X n) f nt id draw ops e1 H1 with
     | none=>simp [ho] at h
     | some q =>
      rw [q0O ihF ho];rw [ho] at h;exact h
   | seq a b =>
    rw [zl] at h ⊢;cases ha:zl X n f nt n0 a e H with
    | none=>simp [ha] at h
    | some q =>
     obtain ⟨ex,e1,H1⟩:=q;rw [ihC _ _ _ _ _ _ _ ha];rw [ha] at h;cases ex with
     | normal=>exact ihC _ _ _ _ _ _ _ h
     | exit i=>exact h
     | ret=>exact h
   | cond x a b =>
    rw [zl] at h ⊢;split at h
    ·exact ihC _ _ _ _ _ _ _ h
    ·cases h
   | block id c =>
    rw [zl] at h ⊢;cases ha:zl X n f nt n0 c e H with
    | none=>simp [ha] at h
    | some q =>
     rw [ihC _ _ _ _ _ _ _ ha];rw [ha] at h;exact h
   | scope c =>
    rw [zl] at h ⊢;exact ihC _ _ _ _ _ _ _ h
   | loop c =>
    rw [zl] at h ⊢;cases ha:zl X n f nt n0 c e H with
    | none=>simp [ha] at h
    | some q =>
     obtain ⟨ex,e1,H1⟩:=q;rw [ihC _ _ _ _ _ _ _ ha];rw [ha] at h;cases ex with
     | normal=>exact ihC _ _ _ _ _ _ _ h
     | exit i=>exact h
     | ret=>exact h
   | skip=>exact h
   | label l=>exact h
   | exit id=>exact h
   | ret=>exact h
   | goto l=>simp [zl] at h
   | rangeFunc a b c d=>simp [zl] at h
   | refuse w=>simp [zl] at h
theorem qfA {n m:Nat} (Q7:n≤m):Vz (vC X n) (vC X m):=by
 induction m with
 | zero=>have:n = 0:=by omega
         subst this;exact fun _ _ _ _ h=>h
 | succ m ih =>
  by_cases h:n = m+1
  ·subst h;exact fun _ _ _ _ h=>h
  ·exact fun f args H r hr=>(qjK m).1 _ _ _ _ (ih (by omega) f args H r hr)
theorem qfB {n m:Nat} (Q7:n≤m) {f nt n0:Nat} {c:Code} {e:qr} {H:qe} {r:Ex × qr × qe} (h:zl X n f nt n0 c e H = some r):zl X m f nt n0 c e H = some r:=by
 induction m with
 | zero=>have:n = 0:=by omega
         subst this;exact h
 | succ m ih =>
  by_cases hn:n = m+1
  ·subst hn;exact h
  ·exact (qjK m).2 _ _ _ _ _ _ _ (ih (by omega))
open Classical in
noncomputable def lim {α:Type} (g:Nat→Option α):Option α:=if h:∃ r,∃ n,g n = some r then some h.choose else none
theorem qjo {α:Type} {g:Nat→Option α} (hm:∀ n m r,n≤m→g n = some r→g m = some r) {r:α}:lim g = some r↔∃ n,g n = some r:=by
 unfold lim;constructor
 ·intro h;split at h
  ·rename_i hex;injection h with h;subst h;exact hex.choose_spec
  ·cases h
 ·rintro ⟨n,hn⟩;have hex:∃ r,∃ n,g n = some r:=⟨r,n,hn⟩;rw [dif_pos hex];obtain ⟨k,hk⟩:=hex.choose_spec;have h1:=hm n (max n k) _ (Nat.le_max_left _ _) hn;have h2:=hm k (max n k) _ (Nat.le_max_right _ _) hk;rw [h1] at h2;injection h2 with h2;rw [← h2]
noncomputable def call (X:Cx):zt:=fun f args H=>lim fun n=>vC X n f args H
noncomputable def zk (X:Cx) (f nt n0:Nat) (c:Code) (e:qr) (H:qe):Option (Ex × qr × qe):=lim fun n=>zl X n f nt n0 c e H
theorem call_some {f:Nat} {args:List D} {H:qe} {r:D × qe}:call X f args H = some r↔∃ n,vC X n f args H = some r:=qjo fun _ _ _ Q7 h=>qfA Q7 _ _ _ _ h
theorem code_some {f nt n0:Nat} {c:Code} {e:qr} {H:qe} {r:Ex × qr × qe}:zk X f nt n0 c e H = some r↔∃ n,zl X n f nt n0 c e H = some r:=qjo fun _ _ _ Q7 h=>qfB Q7 h
theorem qrK (n:Nat):Vz (vC X n) (call X):=fun _ _ _ _ h=>call_some.2 ⟨n,h⟩
theorem q2r {f:Nat} {args:List D} {H:qe} {r:D × qe} (hc:VS (call X) f args H = some r):∃ n,VS (vC X n) f args H = some r:=by
 cases args with
 | nil=>simp [VS] at hc
 | cons a rest =>
  cases a with
  | optr i st off =>
   simp only [VS] at hc ⊢;cases hd:qf H i with
   | none=>simp [hd] at hc
   | some ds =>
    simp only [hd] at hc ⊢;split at hc
    ·rename_i hf;cases hF:call X f (.optr 0 st off :: rest) [some ds] with
     | none=>simp [hF] at hc
     | some q =>
      obtain ⟨n,hn⟩:=call_some.1 hF;refine ⟨n,?_⟩;rw [if_pos hf,hn];rw [hF] at hc;exact hc
    ·cases hc
  | _=>simp [VS] at hc
theorem q2o {f:Nat} {args:List D} {H:qe} {r:D × qe} (hc:qe8 (call X) f args H = some r):∃ n,qe8 (vC X n) f args H = some r:=by
 cases hc
theorem q2v {f:Nat} {args:List D} {H:qe} {r:D × qe} (hc:qaT X (call X) f args H = some r):∃ n,qaT X (vC X n) f args H = some r:=by
 unfold qaT at hc ⊢;split at hc
 ·rename_i hl;obtain ⟨n,hn⟩:=q2o hc;exact ⟨n,by rw [if_pos hl];exact hn⟩
 ·rename_i hl;obtain ⟨n,hn⟩:=q2r hc;exact ⟨n,by rw [if_neg hl];exact hn⟩
theorem q2y {f:Nat} {args:List D} {H:qe} {r:D × qe} (hc:qaU (call X) f args H = some r):∃ n,qaU (vC X n) f args H = some r:=by
 unfold qaU qdj at hc ⊢;split at hc
 ·split at hc
  ·rename_i hf;split at hc
   ·rename_i hF;obtain ⟨n,hn⟩:=call_some.1 hF;exact ⟨n,by rw [if_pos hf,hn];exact hc⟩
   ·cases hc
  ·cases hc
 ·cases hc
theorem q2l {f:Nat} {args:List D} {H:qe} {r:D × qe} (hc:Xu X (call X) f args H = some r):∃ n,Xu X (vC X n) f args H = some r:=by
 unfold Xu at hc ⊢;split at hc
 ·rename_i hb;split at hc
  ·rename_i hl;split at hc
   ·rename_i hg;obtain ⟨n,hn⟩:=q2y hc;exact ⟨n,by rw [if_pos hb,if_pos hl,if_pos hg];exact hn⟩
   ·rename_i hg;obtain ⟨n,hn⟩:=q2v hc;exact ⟨n,by rw [if_pos hb,if_pos hl,if_neg hg];exact hn⟩
  ·rename_i hl;obtain ⟨n,hn⟩:=call_some.1 hc;exact ⟨n,by rw [if_pos hb,if_neg hl];exact hn⟩
 ·rename_i hb;split at hc
  ·rename_i ha;cases hF:call X f args [] with
   | none=>simp [hF] at hc
   | some q =>
    obtain ⟨n,hn⟩:=call_some.1 hF;exact ⟨n,by rw [if_neg hb,if_pos ha,hn];rw [hF] at hc;exact hc⟩
  ·rename_i ha;cases hz:qbL H args with
   | none=>simp [hz] at hc
   | some args' =>
    simp only [hz] at hc;cases hF:call X f args' [] with
    | none=>simp [hF] at hc
    | some q =>
     obtain ⟨n,hn⟩:=call_some.1 hF;exact ⟨n,by rw [if_neg hb,if_neg ha];simp only [hn];rw [hF] at hc;exact hc⟩
theorem qkt {f:Nat} {args:List D} {H:qe} {r:D × qe} (hc:Zy X (call X) f args H = some r):∃ n,Zy X (vC X n) f args H = some r:=by
 by_cases hp:(X.pureF f && !X.byRef f) = true
 ·obtain ⟨h4,h3,h1⟩:=qfM hp hc;rcases h1 with ⟨h1,h2⟩ | ⟨h1,Xf,Jd,hv,args',QA,h2⟩
  ·obtain ⟨n,hn⟩:=call_some.1 h2;refine ⟨n,?_⟩;unfold Zy;rw [if_pos hp,if_pos h1,hn];simp only [h3,if_true,← h4]
  ·obtain ⟨n,hn⟩:=call_some.1 h2;refine ⟨n,?_⟩;unfold Zy;rw [if_pos hp,if_neg h1];subst h4;simp only [Xf,Jd,Bool.and_self,if_true,QA,hn,h3,hv]
 ·unfold Zy at hc;rw [if_neg hp] at hc;obtain ⟨n,hn⟩:=q2l hc;exact ⟨n,by unfold Zy;rw [if_neg hp];exact hn⟩
theorem q24 {f:Nat} {args:List D} {H:qe} {r:D × qe} (hc:Xv X (call X) f args H = some r):∃ n,Xv X (vC X n) f args H = some r:=by
 unfold Xv at hc;split at hc
 ·rename_i hp;obtain ⟨n,hn⟩:=qkt hc;exact ⟨n,by unfold Xv;rw [hp];exact hn⟩
 ·rename_i hp;split at hc
  ·rename_i H1 hst;obtain ⟨n,hn⟩:=qkt hc;exact ⟨n,by unfold Xv;rw [hp];simp only [hst];exact hn⟩
  ·cases hc
theorem q21 {f:Nat} {args:List D} {H:qe} {r:D × qe} (hc:Vt X (call X) f args H = some r):∃ n,Vt X (vC X n) f args H = some r:=by
 unfold Vt at hc;split at hc
 ·rename_i hp;obtain ⟨n,hn⟩:=q24 hc;exact ⟨n,by unfold Vt;rw [hp];exact hn⟩
 ·rename_i hp;split at hc
  ·rename_i args' l hst;obtain ⟨n,hn⟩:=qkt hc;exact ⟨n,by unfold Vt;rw [hp];simp only [hst];exact hn⟩
  ·cases hc
theorem qrG {o:Op} {e:qr} {H:qe} {r:D × qe} (ho:zw X (call X) o e H = some r):∃ n,zw X (vC X n) o e H = some r:=by
 cases o with
 | call c =>
  simp only [zw] at ho ⊢;cases hc:c.callee with
  | builtin b=>cases ha:vL X e c.args.toList <;> simp only [hc,ha] at ho ⊢ <;> first | exact ⟨0,ho⟩ | cases ho
  | invoke r m=>cases ha:vL X e c.args.toList <;> simp only [hc,ha] at ho <;> cases ho
  | value g =>
   simp only [hc] at ho ⊢;cases ha:vL X e c.args.toList with
   | none=>simp [ha] at ho
   | some args =>
    simp only [ha] at ho ⊢;split at ho
    ·rename_i f caps hg;obtain ⟨n,hn⟩:=q21 ho;exact ⟨n,hn⟩
    ·cases ho
 | makeFunc g _ _=>cases g <;> exact ⟨0,ho⟩
 | slice _ _ _ _ m=>cases m <;> exact ⟨0,ho⟩
 | _=>exact ⟨0,ho⟩
theorem qrJ {drw:Bool} {o:Op} {e:qr} {H:qe} {r:D × qe} (ho:qX X (call X) drw o e H = some r):∃ n,qX X (vC X n) drw o e H = some r:=by
 unfold qX at ho ⊢;split at ho
 ·exact ⟨0,ho⟩
 ·exact ⟨0,ho⟩
 ·split at ho
  ·cases ho
  ·rename_i hb;obtain ⟨n,hn⟩:=qrG ho;exact ⟨n,by simp only [hb];exact hn⟩
 ·exact qrG ho
theorem qjM {nt:Nat} {drw:Bool} {ops:Array Oper}:∀ {l:List Oper} {e:qr} {H:qe} {r:qr × qe},vP X (call X) nt drw ops l e H = some r→∃ n,vP X (vC X n) nt drw ops l e H = some r
 | [],_,_,_,ho=>⟨0,ho⟩
 | o :: l,e,H,r,ho=>by
  simp only [vP] at ho;cases hd:ke nt o.dst <;> simp only [hd] at ho
  ·cases ho
  ·cases hg:vH ops e o.guard with
   | none=>simp [hg] at ho
   | some b =>
    cases b <;> simp only [hg] at ho
    ·obtain ⟨n,hn⟩:=qjM ho;exact ⟨n,by simp only [vP,hd,hg];exact hn⟩
    ·cases hx:qX X (call X) drw o.op e H with
     | none=>simp [hx] at ho
     | some q =>
      rw [hx] at ho;obtain ⟨n,hn⟩:=qrJ hx;obtain ⟨m,hm⟩:=qjM ho;refine ⟨max n m,?_⟩;simp only [vP,hd,hg];rw [qhj (qfA (Nat.le_max_left n m)) hn];exact qf8 (qfA (Nat.le_max_right n m)) hm
theorem q0U {nt:Nat} {drw:Bool} {ops:Array Oper} {l:List Oper} {e:qr} {H:qe} {r:qr × qe}:vP X (call X) nt drw ops l e H = some r↔∃ n,vP X (vC X n) nt drw ops l e H = some r :=
 ⟨qjM,fun ⟨n,hn⟩=>qf8 (qrK n) hn⟩
theorem qjO {nt:Nat} {ow:List Nat} {ops:Array Oper} {L:QP}:∀ {l:List Oper} {k:Nat} {ws:List (Nat × qe × qe)} {rs:List (Nat × List Nat)} {e:qr} {H:qe} {r:qr × qe},Qi X (call X) nt ow ops L k ws rs l e H = some r→∃ n,Qi X (vC X n) nt ow ops L k ws rs l e H = some r
 | [],_,_,_,_,_,_,ho=>⟨0,by simpa [Qi] using ho⟩
 | o :: l,k,ws,rs,e,H,r,ho=>by
  simp only [Qi] at ho;cases hd:ke nt o.dst <;> simp only [hd] at ho
  ·cases ho
  ·cases hg:vH ops e o.guard with
   | none=>simp [hg] at ho
   | some b =>
    cases b <;> simp only [hg] at ho
    ·obtain ⟨n,hn⟩:=qjO ho;exact ⟨n,by simp only [Qi,hd,hg];exact hn⟩
    ·cases hx:qX X (call X) (ZI ow o.dst) o.op e H with
     | none=>simp [hx] at ho
     | some q =>
      rw [hx] at ho;simp only at ho;split at ho
      ·rename_i hc;obtain ⟨n,hn⟩:=qrJ hx;obtain ⟨m,hm⟩:=qjO ho;refine ⟨max n m,?_⟩;simp only [Qi,hd,hg];rw [qhj (qfA (Nat.le_max_left n m)) hn];simp only;rw [if_pos hc];exact qf9 (qfA (Nat.le_max_right n m)) hm
      ·cases ho
theorem evR_lim {f nt id:Nat} {draw:Bool} {ops:Array Oper} {e:qr} {H:qe} {r:qr × qe}:Jk X (call X) f nt id draw ops e H = some r↔∃ n,Jk X (vC X n) f nt id draw ops e H = some r:=by
 unfold Jk;split
 ·exact ⟨qjO,fun ⟨n,hn⟩=>qf9 (qrK n) hn⟩
 ·exact q0U
theorem qcs {α:Type} {x y:Option α} (h:∀ r,x = some r↔y = some r):x = y:=by
 cases x with
 | none =>
  cases y with
  | none=>rfl
  | some b=>exact absurd ((h b).2 rfl) (by simp)
 | some a=>exact ((h a).1 rfl).symm
section eqs
variable {f nt n0:Nat} {e:qr} {H:qe}
theorem qso:zk X f nt n0 .skip e H = some (.normal,e,H):=code_some.2 ⟨1,rfl⟩
theorem qsq {l:Nat}:zk X f nt n0 (.label l) e H = some (.normal,e,H):=code_some.2 ⟨1,rfl⟩
theorem qsr {i:Nat}:zk X f nt n0 (.exit i) e H = some (.exit i,e,H):=code_some.2 ⟨1,rfl⟩
theorem qsp:zk X f nt n0 .ret e H = some (.ret,e,H):=code_some.2 ⟨1,rfl⟩
theorem qht {id:Nat} {ops:Array Oper} {draw:Bool}:zk X f nt n0 (.region id ops draw) e H = match enter X f n0 id e H with
  | none=>none
  | some (e,H)=>(Jk X (call X) f nt id draw ops e H).map fun (e,H)=>(.normal,e,H):=by
 refine qcs fun r=>?_;rw [code_some];cases zR:enter X f n0 id e H with
 | none =>
  simp only [reduceCtorEq,iff_false,not_exists];intro n h;cases n <;> simp [zl,zR] at h
 | some q =>
  obtain ⟨e1,H1⟩:=q;constructor
  ·rintro ⟨n,hn⟩;cases n with
   | zero=>simp [zl] at hn
   | succ n =>
    simp only [zl,zR] at hn;cases ho:Jk X (vC X n) f nt id draw ops e1 H1 with
    | none=>simp [ho] at hn
    | some q =>
     simp only [evR_lim.2 ⟨n,ho⟩];rw [ho] at hn;exact hn
  ·intro h;simp only at h;cases ho:Jk X (call X) f nt id draw ops e1 H1 with
   | none=>simp [ho] at h
   | some q =>
    obtain ⟨n,hn⟩:=evR_lim.1 ho;refine ⟨n+1,?_⟩;simp only [zl,zR,hn];rw [ho] at h;exact h
theorem qkd {a b:Code}:zk X f nt n0 (.seq a b) e H = match zk X f nt n0 a e H with
  | some (.normal,e,H)=>zk X f nt n0 b e H
  | r=>r:=by
 refine qcs fun r=>?_;rw [code_some];constructor
 ·rintro ⟨n,hn⟩;cases n with
  | zero=>simp [zl] at hn
  | succ n =>
   simp only [zl] at hn;cases ha:zl X n f nt n0 a e H with
   | none=>simp [ha] at hn
   | some q =>
    obtain ⟨ex,e1,H1⟩:=q;rw [code_some.2 ⟨n,ha⟩];rw [ha] at hn;cases ex with
    | normal=>exact code_some.2 ⟨n,hn⟩
    | exit i=>exact hn
    | ret=>exact hn
 ·intro h;cases ha:zk X f nt n0 a e H with
  | none=>simp [ha] at h
  | some q =>
   obtain ⟨n,hn⟩:=code_some.1 ha;obtain ⟨ex,e1,H1⟩:=q;rw [ha] at h;cases ex with
   | normal =>
    obtain ⟨m,hm⟩:=code_some.1 h;refine ⟨max n m+1,?_⟩;simp only [zl,qfB (Nat.le_max_left n m) hn];exact qfB (Nat.le_max_right n m) hm
   | exit i=>exact ⟨n+1,by simp only [zl,hn];exact h⟩
   | ret=>exact ⟨n+1,by simp only [zl,hn];exact h⟩
theorem qkf {c:Operand} {a b:Code}:zk X f nt n0 (.cond c a b) e H = match qW X e c with
  | some (.bool t)=>zk X f nt n0 (if t then a else b) e H
  | _=>none:=by
 refine qcs fun r=>?_;rw [code_some];constructor
 ·rintro ⟨n,hn⟩;cases n with
  | zero=>simp [zl] at hn
  | succ n =>
   simp only [zl] at hn;split at hn
   ·rename_i hc;rw [hc];exact code_some.2 ⟨n,hn⟩
   ·cases hn
 ·intro h;split at h
  ·rename_i t hc;obtain ⟨n,hn⟩:=code_some.1 h;exact ⟨n+1,by simp only [zl,hc];exact hn⟩
  ·cases h
theorem qkg {id:Nat} {c:Code}:zk X f nt n0 (.block id c) e H = match zk X f nt n0 c e H with
  | some (.exit i,e,H)=>if i = id then some (.normal,e,H) else some (.exit i,e,H)
  | r=>r:=by
 refine qcs fun r=>?_;rw [code_some];constructor
 ·rintro ⟨n,hn⟩;cases n with
  | zero=>simp [zl] at hn
  | succ n =>
   simp only [zl] at hn;cases ha:zl X n f nt n0 c e H with
   | none=>simp [ha] at hn
   | some q=>rw [code_some.2 ⟨n,ha⟩];rw [ha] at hn;exact hn
 ·intro h;cases ha:zk X f nt n0 c e H with
  | none=>simp [ha] at h
  | some q =>
   obtain ⟨n,hn⟩:=code_some.1 ha;exact ⟨n+1,by simp only [zl,hn];rw [ha] at h;exact h⟩
theorem qke {c:Code}:zk X f nt n0 (.scope c) e H = zk X f nt n0 c e H:=by
 refine qcs fun r=>?_;rw [code_some,code_some];constructor
 ·rintro ⟨n,hn⟩;cases n with
  | zero=>simp [zl] at hn
  | succ n=>exact ⟨n,hn⟩
 ·rintro ⟨n,hn⟩;exact ⟨n+1,hn⟩
theorem qfH {c:Code}:zk X f nt n0 (.loop c) e H = match zk X f nt n0 c e H with
  | some (.normal,e,H)=>zk X f nt n0 (.loop c) e H
  | r=>r:=by
 refine qcs fun r=>?_;rw [code_some];constructor
 ·rintro ⟨n,hn⟩;cases n with
  | zero=>simp [zl] at hn
  | succ n =>
   rw [zl] at hn;cases ha:zl X n f nt n0 c e H with
   | none=>simp [ha] at hn
   | some q =>
    obtain ⟨ex,e1,H1⟩:=q;rw [code_some.2 ⟨n,ha⟩];rw [ha] at hn;cases ex with
    | normal=>exact code_some.2 ⟨n,hn⟩
    | exit i=>exact hn
    | ret=>exact hn
 ·intro h;cases ha:zk X f nt n0 c e H with
  | none=>simp [ha] at h
  | some q =>
   obtain ⟨n,hn⟩:=code_some.1 ha;obtain ⟨ex,e1,H1⟩:=q;rw [ha] at h;cases ex with
   | normal =>
    obtain ⟨m,hm⟩:=code_some.1 h;refine ⟨max n m+1,?_⟩;rw [zl];simp only [qfB (Nat.le_max_left n m) hn];exact qfB (Nat.le_max_right n m) hm
   | exit i=>exact ⟨n+1,by rw [zl];simp only [hn];exact h⟩
   | ret=>exact ⟨n+1,by rw [zl];simp only [hn];exact h⟩
def qd0 (o : Oper) : Oper := { dst := o.dst, op := o.op, type := 0, pos := "", after := #[], guard := o.guard }
def Ql:List Oper→List Oper
 | []=>[]
 | o :: l=>qd0 o :: Ql l
def vh:Code→Code
 | .region id ops draw=>.region id (Ql ops.toList).toArray draw
 | .seq a b=>.seq (vh a) (vh b)
 | .cond x a b=>.cond x (vh a) (vh b)
 | .block id c=>.block id (vh c)
 | .loop c=>.loop (vh c)
 | .scope c=>.scope (vh c)
 | c=>c
theorem qkX:∀ (l:List Oper) (j:Nat),((Ql l)[j]?).bind (·.dst) = (l[j]?).bind (·.dst)
 | [],j=>by simp [Ql]
 | o :: l,0=>by simp [Ql,qd0]
 | o :: l,j+1=>by simp [Ql,qkX l j]
theorem qj6 (ops:Array Oper) (e:qr) (g:Option (Nat × Bool)):vH (Ql ops.toList).toArray e g = vH ops e g:=by
 cases g with
 | none=>rfl
 | some q =>
  obtain ⟨j,want⟩:=q;have h:=qkX ops.toList j;simp only [vH];have e1:((Ql ops.toList).toArray[j]?) = (Ql ops.toList)[j]?:=by simp
  have e2:ops[j]? = ops.toList[j]?:=by simp
  rw [e1,e2,h]
theorem qrC {F:zt} {drw:Bool} (ops:Array Oper):∀ (l:List Oper) (e:qr) (H:qe),vP X F nt drw (Ql ops.toList).toArray (Ql l) e H = vP X F nt drw ops l e H
 | [],e,H=>rfl
 | o :: l,e,H=>by
  simp only [Ql,vP,qd0,qj6,qrC ops l]
theorem qrD {F:zt} {ow:List Nat} (ops:Array Oper) {L:QP}:∀ (l:List Oper) (k:Nat) (ws:List (Nat × qe × qe)) (rs:List (Nat × List Nat)) (e:qr) (H:qe),Qi X F nt ow (Ql ops.toList).toArray L k ws rs (Ql l) e H = Qi X F nt ow ops L k ws rs l e H
 | [],k,ws,rs,e,H=>by simp only [Ql,Qi]
 | o :: l,k,ws,rs,e,H=>by
  simp only [Ql,Qi,qd0,qj6,qrD ops l]
theorem qm3:∀ (l:List Oper),qcr (Ql l) = qcr l
 | []=>rfl
 | o :: l=>by simp only [Ql,qcr,qd0,qm3 l]
theorem q0X:∀ (n:Nat) (c:Code) (e:qr) (H:qe),zl X n f nt n0 (vh c) e H = zl X n f nt n0 c e H:=by
 intro n
 induction n with
 | zero=>intro c e H;simp [zl]
 | succ n ih =>
  intro c e H;cases c with
  | region id ops draw =>
   simp only [vh,zl];cases enter X f n0 id e H with
   | none=>rfl
   | some q =>
    obtain ⟨e1,H1⟩:=q;have:(Ql ops.toList).toArray.toList = Ql ops.toList:=(by simp);cases draw <;> cases hlp:X.lp f id <;> simp only [Jk,hlp,qrC,qrD,qm3,Yq]
  | seq a b=>simp only [vh,zl,ih]
  | cond x a b =>
   simp only [vh,zl];split
   ·rename_i t _;cases t <;> simp only [ih,if_true,if_false,QE]
   ·rfl
  | block id c=>simp only [vh,zl,ih]
  | loop c =>
   have:=ih (.loop c);simp only [vh] at this;simp only [vh,zl,ih,this]
  | scope c=>simp only [vh,zl,ih]
  | _=>rfl
theorem qhs {c:Code}:zk X f nt n0 (vh c) e H = zk X f nt n0 c e H:=by
 unfold zk;congr 1;funext n;exact q0X n c e H
theorem qdU {args:List D} {r:D × qe} (Jh:X.con f args H = some r):call X f args H = some r:=call_some.2 ⟨1,by simp only [vC,Jh]⟩
theorem qhy {fn:Func} {c:Code} {args:List D} (Jh:X.con f args H = none) (hf:X.P.funcs[f]? = some fn) (hb:fn.body = some c) (hbad:X.bad f = false) :
  call X f args H = match zk X f fn.ntmps H.length c (kf 0 args) H with
   | some (.normal,e,H') | some (.ret,e,H')=>match QF X e H' fn.results.toList with
    | some ds=>qbm (X.gr f && X.byRef f) (X.fzr f) H.length H' (Vc ds)
    | none=>none
   | _=>none:=by
 refine qcs fun r=>?_;rw [call_some];constructor
 ·rintro ⟨n,hn⟩;cases n with
  | zero=>simp [vC] at hn
  | succ n =>
   simp only [vC,Jh,hf,hb,hbad,QE,if_false] at hn;cases hc:zl X n f fn.ntmps H.length c (kf 0 args) H with
   | none=>simp [hc] at hn
   | some q=>rw [code_some.2 ⟨n,hc⟩];rw [hc] at hn;exact hn
 ·intro h;cases hc:zk X f fn.ntmps H.length c (kf 0 args) H with
  | none=>simp [hc] at h
  | some q =>
   obtain ⟨n,hn⟩:=code_some.1 hc;refine ⟨n+1,?_⟩;simp only [vC,Jh,hf,hb,hbad,QE,if_false,hn];rw [hc] at h;exact h
theorem qkr {fn:Func} {args:List D} (Jh:X.con f args H = none) (hf:X.P.funcs[f]? = some fn) (hb:fn.body = none):call X f args H = (X.ext f args).map (·,H):=by
 refine qcs fun r=>?_;rw [call_some];constructor
 ·rintro ⟨n,hn⟩;cases n with
  | zero=>simp [vC] at hn
  | succ n =>
   simp only [vC,Jh,hf,hb] at hn;exact hn
 ·intro h;exact ⟨1,by simp only [vC,Jh,hf,hb];exact h⟩
end eqs
theorem qkp (hG:Good X):Vw X (call X):=by
 intro f args H r H' ok w ι vs h hs hv;obtain ⟨n,hn⟩:=call_some.1 h;exact (qlj hG n).1 f args H r H' ok w ι vs hn hs hv
end
end Go.Ev
namespace Go.Ev
def qdQ (ks:List Nat):Nat→Nat→qr→qe→Option (qr × qe)
 | 0,_,e,H=>some (kX ks e,H)
 | k+1,n0,e,H=>if H.length≤n0+k then some (kX ks e,H)
  else if qbO (n0+k) (kX ks e) && (H.take (n0+k)).all (qdV (n0+k)) then some (kX ks e,H.take (n0+k)) else none
def qe1 (zs ks:List Nat) (k n0:Nat) (e:qr) (H:qe):Option (qr × qe) :=
 match qe0 zs e H with
 | some (e,H)=>qdQ ks k n0 e H
 | none=>none
def Jl (zs S ks:List Nat) (n0:Nat) (e:qr) (H:qe):Option (qr × qe) :=
 match zs with
 | []=>qei n0 S ks e H
 | zs=>match qe0 zs e H with
  | some (e,H)=>qei n0 S ks e H
  | none=>none
def qjQ (ss:List Nat) (g:qe→Option (qr × qe)) (e:qr) (H:qe):Option (qr × qe) :=
 match qcg e ss H with
 | some H=>g H
 | none=>none
def cAt:List Nat→Code→Code
 | [],c=>c
 | 0 :: p,.seq a _=>cAt p a
 | _ :: p,.seq _ b=>cAt p b
 | 0 :: p,.cond _ a _=>cAt p a
 | _ :: p,.cond _ _ b=>cAt p b
 | _ :: p,.block _ c=>cAt p c
 | _ :: p,.scope c=>cAt p c
 | _ :: p,.loop c=>cAt p c
 | _,c=>c
def Zi (f:Func):Code:=f.body.getD .skip
attribute [simp] qso qsq qsr qsp qkf
attribute [simp] qd0 Ql vh ke zw qX KL qW vL Ys qfq qdB qdA qi jK kX qdQ qe1 Jl qjQ qcg QZ kf QF Vc qh3 unD jQ qdl qhw Vt Xv qin Zy qaL Xu ldD stD Yz qf qn J9 cellsOf qhh qhg qf7 qal qfl qgT qgS qag qdm zf qft qde qaT VS noZ noZ.noZL qh2 qbQ qfu qed XX V0 qeS qch qT qbP eqD qdi ko qeV qs Ks Yn Vu idFree idFree.idFreeL vFree vFree.vFreeL closed closed.closedL qdV qkw qbO qd7 pack1 pack1.packs jE KX V1 jf vY jO qd1 qe0 qae KP qei qgp qi9 Yo qbj X3 qaj X4 renD renD.renL XB qfr Yg J0 shift shift.shiftL freeze freeze.freezeL qbL qzo cAt Zi strD
@[simp low] theorem qcj (ds:List D) (off:Nat) (xs:List D):zM ds off xs = ds.take off ++ xs ++ ds.drop (off+xs.length):=rfl
section
variable {X:Cx} {f nt n0:Nat}
inductive Fr where
 | seq (b:Code)
 | block (id:Nat)
def Run (X:Cx) (f nt n0:Nat) (Q:Ex→qr→qe→Prop):List Fr→Option (Ex × qr × qe)→Prop
 | _,none=>False
 | [],some (ex,e,H)=>Q ex e H
 | .seq b :: fs,some (.normal,e,H)=>Run X f nt n0 Q fs (zk X f nt n0 b e H)
 | .seq _ :: fs,some (ex,e,H)=>Run X f nt n0 Q fs (some (ex,e,H))
 | .block id :: fs,some (.exit i,e,H)=>if i = id then Run X f nt n0 Q fs (some (.normal,e,H)) else Run X f nt n0 Q fs (some (.exit i,e,H))
 | .block _ :: fs,some (ex,e,H)=>Run X f nt n0 Q fs (some (ex,e,H))
variable {Q:Ex→qr→qe→Prop} {fs:List Fr} {e:qr} {H:qe} {a b c:Code}
theorem Qm:Run X f nt n0 Q fs none = False:=by unfold Run;rfl
theorem Ki {ex:Ex}:Run X f nt n0 Q [] (some (ex,e,H)) = Q ex e H:=by unfold Run;rfl
theorem qlz:Run X f nt n0 Q (.seq b :: fs) (some (.normal,e,H)) = Run X f nt n0 Q fs (zk X f nt n0 b e H):=by rw [Run]
theorem ql0 {i:Nat}:Run X f nt n0 Q (.seq b :: fs) (some (.exit i,e,H)) = Run X f nt n0 Q fs (some (.exit i,e,H)):=by rw [Run];intro h;cases h
theorem qly:Run X f nt n0 Q (.seq b :: fs) (some (.ret,e,H)) = Run X f nt n0 Q fs (some (.ret,e,H)):=by rw [Run];intro h;cases h
theorem ql2 {id:Nat}:Run X f nt n0 Q (.block id :: fs) (some (.normal,e,H)) = Run X f nt n0 Q fs (some (.normal,e,H)):=by rw [Run];intro i h;cases h
theorem ql1 {id:Nat}:Run X f nt n0 Q (.block id :: fs) (some (.ret,e,H)) = Run X f nt n0 Q fs (some (.ret,e,H)):=by rw [Run];intro i h;cases h
theorem ql3 {id i:Nat}:Run X f nt n0 Q (.block id :: fs) (some (.exit i,e,H)) = if i = id then Run X f nt n0 Q fs (some (.normal,e,H)) else Run X f nt n0 Q fs (some (.exit i,e,H)):=by rw [Run]
theorem quD:Run X f nt n0 Q fs (zk X f nt n0 (.seq a b) e H) = Run X f nt n0 Q (.seq b :: fs) (zk X f nt n0 a e H):=by
 rw [qkd];cases h:zk X f nt n0 a e H with
 | none=>simp [Qm]
 | some q =>
  obtain ⟨ex,e1,H1⟩:=q;cases ex with
  | normal=>rw [qlz]
  | exit i=>rw [ql0]
  | ret=>rw [qly]
theorem quH {id:Nat}:Run X f nt n0 Q fs (zk X f nt n0 (.block id c) e H) = Run X f nt n0 Q (.block id :: fs) (zk X f nt n0 c e H):=by
 rw [qkg];cases h:zk X f nt n0 c e H with
 | none=>simp [Qm]
 | some q =>
  obtain ⟨ex,e1,H1⟩:=q;cases ex with
  | normal=>rw [ql2]
  | exit i=>rw [ql3];by_cases hi:i = id <;> simp [hi]
  | ret=>rw [ql1]
theorem quE:Run X f nt n0 Q fs (zk X f nt n0 (.scope c) e H) = Run X f nt n0 Q fs (zk X f nt n0 c e H):=by rw [qke]
theorem Run.mono {o:Option (Ex × qr × qe)} {R:Ex→qr→qe→Prop} (h:Run X f nt n0 R [] o) (hq:∀ ex e H,R ex e H→Run X f nt n0 Q fs (some (ex,e,H))):Run X f nt n0 Q fs o:=by
 cases o with
 | none=>rw [Qm] at h;exact h.elim
 | some q =>
  obtain ⟨ex,e1,H1⟩:=q;rw [Ki] at h;exact hq _ _ _ h
theorem Run.loop {σ:Type} (I:σ→qr→qe→Prop) (m:σ→Nat)
  (step:∀ s e H,I s e H→Run X f nt n0 (fun ex e' H'=>match ex with | .normal=>∃ s',m s' < m s∧I s' e' H' | ex=>Q ex e' H') [] (zk X f nt n0 c e H)) :
  ∀ s e H,I s e H→Run X f nt n0 Q [] (zk X f nt n0 (.loop c) e H):=by
 suffices h:∀ k s e H,m s < k→I s e H→Run X f nt n0 Q [] (zk X f nt n0 (.loop c) e H) from
  fun s e H hi=>h (m s+1) s e H (Nat.lt_succ_self _) hi
 intro k
 induction k with
 | zero=>intro s e H h;omega
 | succ k ih =>
  intro s e H hk hi;have hs:=step s e H hi;rw [qfH];cases ho:zk X f nt n0 c e H with
  | none=>rw [ho,Qm] at hs;exact hs.elim
  | some q =>
   obtain ⟨ex,e1,H1⟩:=q;rw [ho,Ki] at hs;cases ex with
   | normal =>
    obtain ⟨s',qg,Qa⟩:=hs;exact ih s' e1 H1 (by omega) Qa
   | exit i=>exact hs
   | ret=>exact hs
def Fin (X:Cx) (z:Bool) (rs:List ResultVar) (n0:Nat) (r:D × qe):Ex→qr→qe→Prop
 | .exit _,_,_=>False
 | _,e,H=>(QF X e H rs).bind (fun ds=>jE z n0 H (Vc ds)) = some r
theorem qjG {z:Bool} {rs:List ResultVar} {r:D × qe}:Fin X z rs n0 r .ret e H = ((QF X e H rs).bind (fun ds=>jE z n0 H (Vc ds)) = some r):=rfl
theorem qjH {z:Bool} {rs:List ResultVar} {r:D × qe}:Fin X z rs n0 r .normal e H = ((QF X e H rs).bind (fun ds=>jE z n0 H (Vc ds)) = some r):=rfl
theorem qy {fn:Func} {args:List D} {r:D × qe} (hf:X.P.funcs[f]? = some fn) (hb:fn.body.isSome = true) (hbad:X.bad f = false∧X.con f args H = none)
  (h:Run X f fn.ntmps H.length (Fin X (X.fzr f) fn.results.toList H.length r) [] (zk X f fn.ntmps H.length (vh (Zi fn)) (kf 0 args) H)) (hg:(X.gr f && X.byRef f) = false:=by rfl):call X f args H = some r:=by
 rw [qhs] at h;cases jy:fn.body with
 | none=>rw [jy] at hb;cases hb
 | some c =>
  have hc:Zi fn = c:=by simp only [Zi,jy,Va]
  rw [hc] at h;rw [qhy hbad.2 hf jy hbad.1,hg];cases ho:zk X f fn.ntmps H.length c (kf 0 args) H with
  | none=>rw [ho,Qm] at h;exact h.elim
  | some q =>
   obtain ⟨ex,e1,H1⟩:=q;rw [ho,Ki] at h;cases ex with
   | exit i=>exact h.elim
   | normal =>
    rw [qjH] at h;cases hr:QF X e1 H1 fn.results.toList with
    | none=>rw [hr] at h;cases h
    | some ds=>rw [hr] at h;simpa [hr,qbm] using h
   | ret =>
    rw [qjG] at h;cases hr:QF X e1 H1 fn.results.toList with
    | none=>rw [hr] at h;cases h
    | some ds=>rw [hr] at h;simpa [hr,qbm] using h
end
attribute [simp] Qm Ki qlz ql0 qly ql2 ql1 ql3 quD quH quE qjG qjH
end Go.Ev
namespace Go.Ev
mutual
theorem qw6 (n0:Nat) (H:qe) (seen:List Nat) (acc:qe):∀ (d:D),idFree d = true→pack1 n0 H seen acc d = some (d,seen,acc)
 | .agg cs,h=>by simp only [idFree] at h;simp only [pack1,qgz n0 H seen acc cs h,jj]
 | .tup cs,h=>by simp only [idFree] at h;simp only [pack1,qgz n0 H seen acc cs h,jj]
 | .fn f cs,h=>by simp only [pack1,h,if_true]
 | .iface t d,h=>by simp only [pack1,h,if_true]
 | .optr ..,h=>by simp [idFree] at h
 | .osl ..,h=>by simp [idFree] at h
 | .bool _,_=>rfl
 | .int _ _,_=>rfl
 | .str _,_=>rfl
 | .nilp,_=>rfl
 | .nilf,_=>rfl
 | .nili,_=>rfl
 | .raw _,_=>rfl
 | .vptr _,_=>rfl
 | .vsl ..,_=>rfl
theorem qgz (n0:Nat) (H:qe) (seen:List Nat) (acc:qe):∀ (cs:List D),idFree.idFreeL cs = true→pack1.packs n0 H seen acc cs = some (cs,seen,acc)
 | [],_=>rfl
 | d :: l,h=>by
  simp only [idFree.idFreeL,jk] at h;simp only [pack1.packs,qw6 n0 H seen acc d h.1,qgz n0 H seen acc l h.2]
end
mutual
theorem qlr (n:Nat):∀ (d:D),idFree d = true→shift n d = d
 | .agg cs,h=>by simp only [idFree] at h;simp only [shift,qci n cs h]
 | .tup cs,h=>by simp only [idFree] at h;simp only [shift,qci n cs h]
 | .fn f cs,h=>by simp only [idFree] at h;simp only [shift,qci n cs h]
 | .iface t d,h=>by simp only [idFree] at h;simp only [shift,qlr n d h]
 | .optr ..,h=>by simp [idFree] at h
 | .osl ..,h=>by simp [idFree] at h
 | .bool _,_=>rfl
 | .int _ _,_=>rfl
 | .str _,_=>rfl
 | .nilp,_=>rfl
 | .nilf,_=>rfl
 | .nili,_=>rfl
 | .raw _,_=>rfl
 | .vptr _,_=>rfl
 | .vsl ..,_=>rfl
theorem qci (n:Nat):∀ (cs:List D),idFree.idFreeL cs = true→shift.shiftL n cs = cs
 | [],_=>rfl
 | d :: l,h=>by
  simp only [idFree.idFreeL,jk] at h;simp only [shift.shiftL,qlr n d h.1,qci n l h.2]
end
mutual
theorem qhv (n:Nat):∀ (d:D),idFree d = true→closed n d = true
 | .agg cs,h=>by simp only [idFree] at h;simp only [closed,YT n cs h]
 | .tup cs,h=>by simp only [idFree] at h;simp only [closed,YT n cs h]
 | .fn f cs,h=>by simp only [idFree] at h;simp only [closed,YT n cs h]
 | .iface t d,h=>by simp only [idFree] at h;simp only [closed,qhv n d h]
 | .optr ..,h=>by simp [idFree] at h
 | .osl ..,h=>by simp [idFree] at h
 | .bool _,_=>rfl
 | .int _ _,_=>rfl
 | .str _,_=>rfl
 | .nilp,_=>rfl
 | .nilf,_=>rfl
 | .nili,_=>rfl
 | .raw _,_=>rfl
 | .vptr _,_=>rfl
 | .vsl ..,_=>rfl
theorem YT (n:Nat):∀ (cs:List D),idFree.idFreeL cs = true→closed.closedL n cs = true
 | [],_=>rfl
 | d :: l,h=>by
  simp only [idFree.idFreeL,jk] at h;simp only [closed.closedL,qhv n d h.1,YT n l h.2,Bool.and_self]
end
theorem qhd (H:qe):∀ (cs:List D),idFree.idFreeL cs = true→freeze.freezeL H cs = some cs
 | [],_=>rfl
 | d :: l,h=>by
  simp only [idFree.idFreeL,jk] at h
  have hd:freeze H d = some d:=by
   cases d with
   | agg cs=>have h1:=h.1;simp only [idFree] at h1;simp only [freeze,qhd H cs h1,jj]
   | fn f cs=>have h1:=h.1;simp only [idFree] at h1;simp only [freeze,qhd H cs h1,jj]
   | osl _ _ _ _ _=>simp [idFree] at h
   | optr _ _ _=>simp [idFree] at h
   | _=>simp only [freeze,h.1,if_true]
  simp only [freeze.freezeL,hd,qhd H l h.2]
theorem kY:∀ (cs:List D),idFree.idFreeL cs = cs.all idFree
 | []=>rfl
 | d :: l=>by simp only [idFree.idFreeL,VY,kY l]
theorem qki (n:Nat):∀ (cs:List D),closed.closedL n cs = cs.all (closed n)
 | []=>rfl
 | d :: l=>by simp only [closed.closedL,VY,qki n l]
theorem qqI:∀ (a b:List D),idFree.idFreeL (a ++ b) = (idFree.idFreeL a && idFree.idFreeL b)
 | [],b=>by simp [idFree.idFreeL]
 | x :: a,b=>by simp [idFree.idFreeL,qqI a b,Bool.and_assoc]
theorem qsy (n:Nat):∀ (a b:List D),closed.closedL n (a ++ b) = (closed.closedL n a && closed.closedL n b)
 | [],b=>by simp [closed.closedL]
 | x :: a,b=>by simp [closed.closedL,qsy n a b,Bool.and_assoc]
theorem qkE:∀ (a b:List D),vFree.vFreeL (a ++ b) = (vFree.vFreeL a && vFree.vFreeL b)
 | [],b=>by simp [vFree.vFreeL]
 | x :: a,b=>by simp [vFree.vFreeL,qkE a b,Bool.and_assoc]
@[simp] theorem qam (s:List UInt8):(qd s).length = s.length:=by simp [qd]
@[simp] theorem qz6 (s:List UInt8):idFree.idFreeL (qd s) = true:=by
 induction s with
 | nil=>rfl
 | cons a s ih=>simpa [qd,idFree.idFreeL,idFree] using ih
@[simp] theorem q30 (s:List UInt8):vFree.vFreeL (qd s) = true:=by
 induction s with
 | nil=>rfl
 | cons a s ih=>simpa [qd,vFree.vFreeL,vFree] using ih
@[simp] theorem q7c (n:Nat) (s:List UInt8):closed.closedL n (qd s) = true:=YT n _ (qz6 s)
@[simp] theorem q3j (s:List UInt8):(qd s).all idFree = true:=by simp [qd,idFree]
@[simp] theorem q3l (n:Nat) (s:List UInt8):(qd s).all (closed n) = true:=by simp [qd,closed]
@[simp] theorem q3h (s:List UInt8):(qd s).all vFree = true:=by simp [qd,vFree]
@[simp] theorem q32 {s:List UInt8} {n:Nat} (h:s.length≤n):(qd s).take n = qd s:=qP (by simpa using h)
@[simp] theorem q7h (s:List UInt8):(∀ x,x∈qd s→idFree x = true) = True:=eq_true (List.all_eq_true.1 (q3j s))
@[simp] theorem q7i (s:List UInt8) (n:Nat):(∀ x,x∈qd s→closed n x = true) = True:=eq_true (List.all_eq_true.1 (q3l n s))
@[simp] theorem q7g (s:List UInt8):(∀ x,x∈qd s→vFree x = true) = True:=eq_true (List.all_eq_true.1 (q3h s))
attribute [simp] qgz qci YT qhd qqI qsy qkE
theorem wrap_i64 {n:Int} (h:-9223372036854775808≤n∧n < 9223372036854775808):IntKind.i64.wrap n = n:=by
 simp only [IntKind.wrap,IntKind.signed,IntKind.bits];simp;omega
theorem qca {n:Int} (h:0≤n∧n < 18446744073709551616):IntKind.u64.wrap n = n:=by
 simp only [IntKind.wrap,IntKind.signed,IntKind.bits];simp;omega
theorem qdx {n:Int} (h:0≤n∧n < 256):IntKind.u8.wrap n = n:=by
 simp only [IntKind.wrap,IntKind.signed,IntKind.bits];simp;omega
theorem qhR {n:Int} (h:0≤n∧n < 4294967296):IntKind.u32.wrap n = n:=by
 simp only [IntKind.wrap,IntKind.signed,IntKind.bits];simp;omega
theorem qtm {n:Int} (h:0≤n∧n < 65536):IntKind.u16.wrap n = n:=by
 simp only [IntKind.wrap,IntKind.signed,IntKind.bits];simp;omega
theorem qtn {n:Int} (h:-2147483648≤n∧n < 2147483648):IntKind.i32.wrap n = n:=by
 simp only [IntKind.wrap,IntKind.signed,IntKind.bits];simp;omega
theorem qh1 {n x:Nat} (h:x < 2 ^ n):(BitVec.ofInt n (x:Int)).toNat = x:=by
 rw [qhK,qhJ,qeF h]
theorem qk6 {k:IntKind} (hk:k.signed = false) {x:Nat} (h:x < 2 ^ k.bits):k.wrap (x:Int) = (x:Int):=by
 have:((x:Int) % (2 ^ k.bits:Int)) = x:=Int.emod_eq_of_lt (by omega) (by exact_mod_cast h);simp only [IntKind.wrap,hk];simpa using this
theorem qg0 {k:IntKind} (hk:k.signed = false) {x y:Nat} (hx:x < 2 ^ k.bits) (hy:y < 2 ^ k.bits):JK k x y = ((x ||| y:Nat):Int):=by
 unfold JK;rw [BitVec.toNat_or,qh1 hx,qh1 hy,qk6 hk (Nat.or_lt_two_pow hx hy)]
theorem q2Y {k:IntKind} (hk:k.signed = false) {x y:Nat} (hx:x < 2 ^ k.bits) (hy:y < 2 ^ k.bits):Yf k x y = ((x &&& y:Nat):Int):=by
 unfold Yf;rw [BitVec.toNat_and,qh1 hx,qh1 hy,qk6 hk (Nat.and_lt_two_pow _ hy)]
attribute [simp] wrap_i64 qca qdx qhR qtm qtn
end Go.Ev
namespace Go.Ev
open Go Go.Proofs
def qaV:List D→Option (List Int)
 | []=>some []
 | .int .u8 n :: l=>(qaV l).map (n :: ·)
 | _=>none
def slb:D→Option (List Int)
 | .vsl true [] 0=>some []
 | .vsl false cs len=>if cs.length = len then qaV cs else none
 | _=>none
theorem qsG:∀ {cs:List D} {l:List Int},qaV cs = some l→cs.length = l.length∧∀ (j:Nat) x,l[j]? = some x→cs[j]? = some (.int .u8 x)
 | [],l,h=>by simp only [qaV,qw] at h;subst h;simp
 | d :: cs,l,h=>by
  cases d with
  | int k n =>
   cases k with
   | u8 =>
    simp only [qaV] at h;cases hb:qaV cs with
    | none=>simp [hb] at h
    | some l' =>
     simp only [hb,jj,qw] at h;subst h;obtain ⟨h1,h2⟩:=qsG hb;refine ⟨by simp [h1],fun j x hj=>?_⟩;cases j with
     | zero=>simpa using hj
     | succ j=>simpa using h2 j x (by simpa using hj)
   | _=>simp [qaV] at h
  | _=>simp [qaV] at h
theorem qum {P:Program} {ok:Nat→Prop} {w:World} {ι:qV} {H:qe} {d:D} {v:Value} {l:List Int} (h:slb d = some l) (hr:Rep ok w ι H d v) :
  (Extern.Bytes.bytesOf v).run P w = .ok ⟨(Lib.bytesOf l).toArray⟩ w:=by
 cases hr with
 | vnil=>simp only [slb,qw] at h;subst h;simp [Extern.Bytes.bytesOf,Lib.bytesOf];rfl
 | vsl a f ha hc hr hf zo =>
  rename_i ds len c;simp only [slb] at h;split at h
  ·rename_i hlen;obtain ⟨h1,h2⟩:=qsG h
   have:=Lib.run_loadBytesX (P:=P) w l a .empty (fun j x hj=>by
    have hd:=h2 j x hj;rw [hr j _ hd];have:=hf j _ hd;generalize f j = v at this;cases this;rfl)
   simp only [Extern.Bytes.bytesOf];rw [← hlen,h1,this];simp
  ·cases h
 | _=>simp [slb] at h
theorem q25 (s:List UInt8):qaV (qd s) = some (s.map fun b=>(b.toNat:Int)):=by
 induction s with
 | nil=>rfl
 | cons a s ih=>simp only [qd,List.map_cons,qaV] at ih ⊢;rw [ih];rfl
end Go.Ev
namespace Go.Ev
section
variable {X:Cx} {f nt n0:Nat}
structure SOp where
 dst:Option Tmp
 op:Op
 g:Option (Option Tmp × Bool)
def qce (ops:Array Oper) (o:Oper):SOp:=⟨o.dst,o.op,match o.guard with
 | none=>none
 | some (j,want)=>some ((ops[j]?).bind (·.dst),want)⟩
def QY (ops:Array Oper):List Oper→List SOp
 | []=>[]
 | o :: l=>qce ops o :: QY ops l
def VO (e:qr):Option (Option Tmp × Bool)→Option Bool
 | none=>some true
 | some (none,_)=>some false
 | some (some t,want)=>match qi e t with
  | some (.bool b)=>some (b == want)
  | some (.tup [])=>some false
  | _=>none
theorem qj5 (ops:Array Oper) (e:qr) (g:Option (Nat × Bool)):vH ops e g = VO e (match g with
  | none=>none
  | some (j,want)=>some ((ops[j]?).bind (·.dst),want)):=by
 cases g with
 | none=>rfl
 | some q =>
  obtain ⟨j,want⟩:=q;simp only [vH,VO];cases (ops[j]?).bind (·.dst) <;> rfl
def Xr (X:Cx) (F:zt) (nt:Nat) (drw:Bool):List SOp→qr→qe→Option (qr × qe)
 | [],e,H=>some (e,H)
 | o :: l,e,H=>match ke nt o.dst,VO e o.g with
  | true,some true=>match qX X F drw o.op e H with
   | some (d,H')=>Xr X F nt drw l (jK e o.dst d) H'
   | none=>none
  | true,some false=>Xr X F nt drw l (jK e o.dst (.tup [])) H
  | _,_=>none
theorem qhi {F:zt} {drw:Bool} (ops:Array Oper):∀ (l:List Oper) (e:qr) (H:qe),vP X F nt drw ops l e H = Xr X F nt drw (QY ops l) e H
 | [],e,H=>rfl
 | o :: l,e,H=>by
  simp only [vP,QY,Xr,qj5 ops e o.guard]
  show _ = match ke nt o.dst,VO e (qce ops o).g with
   | true,some true=>match qX X F drw o.op e H with
    | some (d,H')=>Xr X F nt drw (QY ops l) (jK e o.dst d) H'
    | none=>none
   | true,some false=>Xr X F nt drw (QY ops l) (jK e o.dst (.tup [])) H
   | _,_=>none
  simp only [qhi ops l,qce];rfl
variable {Q:Ex→qr→qe→Prop} {fs:List Fr} {e:qr} {H:qe}
def Jn (X:Cx) (f nt n0:Nat) (Q:Ex→qr→qe→Prop) (fs:List Fr) (drw:Bool) (l:List SOp) (e:qr) (H:qe):Prop :=
 Run X f nt n0 Q fs ((Xr X (call X) nt drw l e H).map fun (e,H)=>(.normal,e,H))
def qbW (X:Cx) (f nt n0:Nat) (Q:Ex→qr→qe→Prop) (fs:List Fr) (drw:Bool) (l:List SOp) (e:qr) (dst:Option Tmp):Option (D × qe)→Prop
 | none=>False
 | some (d,H)=>Jn X f nt n0 Q fs drw l (jK e dst d) H
def qbY (X:Cx) (f nt n0:Nat) (Q:Ex→qr→qe→Prop) (fs:List Fr) (drw:Bool) (dst:Option Tmp) (op:Op) (want:Bool) (l:List SOp) (e:qr) (H:qe):Option D→Prop
 | some (.bool b)=>if b = want then qbW X f nt n0 Q fs drw l e dst (qX X (call X) drw op e H) else Jn X f nt n0 Q fs drw l (jK e dst (.tup [])) H
 | some (.tup [])=>Jn X f nt n0 Q fs drw l (jK e dst (.tup [])) H
 | _=>False
theorem quM {drw:Bool}:Jn X f nt n0 Q fs drw [] e H = Run X f nt n0 Q fs (some (.normal,e,H)):=rfl
theorem quL {drw:Bool} {dst:Option Tmp} {op:Op} {l:List SOp}:Jn X f nt n0 Q fs drw (⟨dst,op,none⟩ :: l) e H =
  (ke nt dst = true∧qbW X f nt n0 Q fs drw l e dst (qX X (call X) drw op e H)):=by
 unfold Jn;simp only [Xr,VO];cases ke nt dst with
 | false=>simp [Qm]
 | true =>
  cases qX X (call X) drw op e H with
  | none=>simp [qbW,Qm]
  | some q=>simp [qbW,Jn]
theorem quK {drw:Bool} {dst:Option Tmp} {op:Op} {l:List SOp} {t:Tmp} {want:Bool}:Jn X f nt n0 Q fs drw (⟨dst,op,some (some t,want)⟩ :: l) e H =
  (ke nt dst = true∧qbY X f nt n0 Q fs drw dst op want l e H (qi e t)):=by
 unfold Jn;simp only [Xr,VO];cases ke nt dst with
 | false=>simp [Qm]
 | true =>
  cases qi e t with
  | none=>simp [qbY,Qm]
  | some d =>
   cases d with
   | bool b =>
    by_cases hb:b = want
    ·subst hb;simp only [beq_self_eq_true,qbY,if_true,true_and];cases qX X (call X) drw op e H with
     | none=>simp [qbW,Qm]
     | some q=>simp [qbW,Jn]
    ·have:(b == want) = false:=(by simpa using hb);simp [qbY,hb,this,Jn]
   | tup cs =>
    cases cs with
    | nil=>simp [qbY,Jn]
    | cons=>simp [qbY,Qm]
   | _=>simp [qbY,Qm]
theorem qvf {drw:Bool} {dst:Option Tmp} {l:List SOp} {d:D}:qbW X f nt n0 Q fs drw l e dst (some (d,H)) = Jn X f nt n0 Q fs drw l (jK e dst d) H:=rfl
theorem qvg {drw:Bool} {dst:Option Tmp} {l:List SOp}:qbW X f nt n0 Q fs drw l e dst none = False:=rfl
theorem qvk {drw:Bool} {dst:Option Tmp} {op:Op} {l:List SOp} {want b:Bool}:qbY X f nt n0 Q fs drw dst op want l e H (some (.bool b)) =
  if b = want then qbW X f nt n0 Q fs drw l e dst (qX X (call X) drw op e H) else Jn X f nt n0 Q fs drw l (jK e dst (.tup [])) H:=rfl
theorem qvj {drw:Bool} {dst:Option Tmp} {op:Op} {l:List SOp} {want:Bool}:qbY X f nt n0 Q fs drw dst op want l e H (some (.tup [])) = Jn X f nt n0 Q fs drw l (jK e dst (.tup [])) H:=rfl
def qds (X:Cx) (f nt n0:Nat) (Q:Ex→qr→qe→Prop) (fs:List Fr) (drw:Bool) (l:List SOp):Option (qr × qe)→Prop
 | none=>False
 | some (e,H)=>Jn X f nt n0 Q fs drw l e H
theorem qvn {drw:Bool} {l:List SOp}:qds X f nt n0 Q fs drw l (some (e,H)) = Jn X f nt n0 Q fs drw l e H:=rfl
theorem quG {id:Nat} {ops:Array Oper}:Run X f nt n0 Q fs (zk X f nt n0 (.region id ops false) e H) = qds X f nt n0 Q fs (X.cv f id) (QY ops ops.toList) (enter X f n0 id e H):=by
 rw [qht];cases enter X f n0 id e H with
 | none=>simp [Qm,qds]
 | some q=>simp only [qds,Jn,Jk,qhi,Yq]
section lp
variable {L:QP} {ow:List Nat}
noncomputable def Xq (X:Cx) (F:zt) (nt:Nat) (ow:List Nat) (L:QP):Nat→List (Nat × qe × qe)→List (Nat × List Nat)→List SOp→qr→qe→Option (qr × qe)
 | _,_,_,[],e,H=>some (e,H)
 | k,ws,rs,o :: l,e,H=>match ke nt o.dst,VO e o.g with
  | true,some true=>match qX X F (ZI ow o.dst) o.op e H with
   | some (d,H') =>
    @ite _ ((ZS L k = true→YW L k (Q1 (o.op.operands.toList.map (qW X e))) ws)∧(ZN L k = true→H.length≤H'.length∧YV L k H H' rs)) (Classical.propDecidable _)
     (Xq X F nt ow L (k+1) (if ZN L k then (k,H,H') :: ws else ws) (if ZS L k then (k,Q1 (o.op.operands.toList.map (qW X e))) :: rs else rs) l (jK e o.dst d) H') none
   | none=>none
  | true,some false=>Xq X F nt ow L (k+1) ws rs l (jK e o.dst (.tup [])) H
  | _,_=>none
theorem qrE {F:zt} (ops:Array Oper):∀ (l:List Oper) (k:Nat) (ws:List (Nat × qe × qe)) (rs:List (Nat × List Nat)) (e:qr) (H:qe),Qi X F nt ow ops L k ws rs l e H = Xq X F nt ow L k ws rs (QY ops l) e H
 | [],k,ws,rs,e,H=>by simp only [QY,Xq,Qi]
 | o :: l,k,ws,rs,e,H=>by
  have ih:=qrE (F:=F) ops l;rw [Qi];show _ = Xq X F nt ow L k ws rs (qce ops o :: QY ops l) e H;rw [Xq]
  show _ = match ke nt o.dst,VO e (qce ops o).g with
   | true,some true=>match qX X F (ZI ow o.dst) o.op e H with
    | some (d,H') =>
     @ite _ ((ZS L k = true→YW L k (Q1 (o.op.operands.toList.map (qW X e))) ws)∧(ZN L k = true→H.length≤H'.length∧YV L k H H' rs)) (Classical.propDecidable _)
      (Xq X F nt ow L (k+1) (if ZN L k then (k,H,H') :: ws else ws) (if ZS L k then (k,Q1 (o.op.operands.toList.map (qW X e))) :: rs else rs) (QY ops l) (jK e o.dst d) H') none
    | none=>none
   | true,some false=>Xq X F nt ow L (k+1) ws rs (QY ops l) (jK e o.dst (.tup [])) H
   | _,_=>none
  have h3:VO e (qce ops o).g = vH ops e o.guard:=(qj5 ops e o.guard).symm;rw [h3];cases hd:ke nt o.dst with
  | false=>simp only
  | true =>
   cases hg:vH ops e o.guard with
   | none=>simp only
   | some b =>
    cases b with
    | false=>simp only [ih]
    | true =>
     cases ho:qX X F (ZI ow o.dst) o.op e H with
     | none=>simp only
     | some q =>
      obtain ⟨d,H1⟩:=q;simp only;by_cases hc:(ZS L k = true→YW L k (Q1 (o.op.operands.toList.map (qW X e))) ws)∧(ZN L k = true→H.length≤H1.length∧YV L k H H1 rs)
      ·rw [if_pos hc,if_pos hc];exact ih _ _ _ _ _
      ·rw [if_neg hc,if_neg hc]
def JH (X:Cx) (f nt n0:Nat) (Q:Ex→qr→qe→Prop) (fs:List Fr) (ow:List Nat) (L:QP) (k:Nat) (ws:List (Nat × qe × qe)) (rs:List (Nat × List Nat)) (l:List SOp) (e:qr) (H:qe):Prop :=
 Run X f nt n0 Q fs ((Xq X (call X) nt ow L k ws rs l e H).map fun (e,H)=>(.normal,e,H))
def qdr (X:Cx) (f nt n0:Nat) (Q:Ex→qr→qe→Prop) (fs:List Fr) (ow:List Nat) (L:QP) (k:Nat) (ws:List (Nat × qe × qe)) (rs:List (Nat × List Nat)) (bs:List Nat) (l:List SOp) (e:qr) (dst:Option Tmp) (H:qe):Option (D × qe)→Prop
 | none=>False
 | some (d,H')=>(ZS L k = true→YW L k bs ws)∧(ZN L k = true→H.length≤H'.length∧YV L k H H' rs) ∧
   JH X f nt n0 Q fs ow L (k+1) (if ZN L k then (k,H,H') :: ws else ws) (if ZS L k then (k,bs) :: rs else rs) l (jK e dst d) H'
def qbX (X:Cx) (f nt n0:Nat) (Q:Ex→qr→qe→Prop) (fs:List Fr) (ow:List Nat) (L:QP) (k:Nat) (ws:List (Nat × qe × qe)) (rs:List (Nat × List Nat)) (bs:List Nat) (dst:Option Tmp) (op:Op) (want:Bool) (l:List SOp) (e:qr) (H:qe):Option D→Prop
 | some (.bool b)=>if b = want then qdr X f nt n0 Q fs ow L k ws rs bs l e dst H (qX X (call X) (ZI ow dst) op e H) else JH X f nt n0 Q fs ow L (k+1) ws rs l (jK e dst (.tup [])) H
 | some (.tup [])=>JH X f nt n0 Q fs ow L (k+1) ws rs l (jK e dst (.tup [])) H
 | _=>False
variable {k:Nat} {ws:List (Nat × qe × qe)} {rs:List (Nat × List Nat)}
theorem quP:JH X f nt n0 Q fs ow L k ws rs [] e H = Run X f nt n0 Q fs (some (.normal,e,H)):=by unfold JH;simp only [Xq];rfl
theorem qlA {dst:Option Tmp} {op:Op} {l:List SOp}:Run X f nt n0 Q fs (Option.map (fun (e,H)=>(Ex.normal,e,H)) (match qX X (call X) (ZI ow dst) op e H with
   | some (d,H') =>
    @ite _ ((ZS L k = true→YW L k (Q1 (op.operands.toList.map (qW X e))) ws)∧(ZN L k = true→H.length≤H'.length∧YV L k H H' rs)) (Classical.propDecidable _)
     (Xq X (call X) nt ow L (k+1) (if ZN L k then (k,H,H') :: ws else ws) (if ZS L k then (k,Q1 (op.operands.toList.map (qW X e))) :: rs else rs) l (jK e dst d) H') none
   | none=>none)) = qdr X f nt n0 Q fs ow L k ws rs (Q1 (op.operands.toList.map (qW X e))) l e dst H (qX X (call X) (ZI ow dst) op e H):=by
 cases qX X (call X) (ZI ow dst) op e H with
 | none=>simp [qdr,Qm]
 | some q =>
  obtain ⟨d,H1⟩:=q;simp only [qdr,JH];by_cases hc:(ZS L k = true→YW L k (Q1 (op.operands.toList.map (qW X e))) ws)∧(ZN L k = true→H.length≤H1.length∧YV L k H H1 rs)
  ·rw [if_pos hc];exact propext ⟨fun h=>⟨hc.1,hc.2,h⟩,fun h=>h.2.2⟩
  ·rw [if_neg hc];simp only [Option.map_none,Qm];exact propext ⟨fun h=>h.elim,fun h=>hc ⟨h.1,h.2.1⟩⟩
theorem quO {dst:Option Tmp} {op:Op} {l:List SOp}:JH X f nt n0 Q fs ow L k ws rs (⟨dst,op,none⟩ :: l) e H =
  (ke nt dst = true∧qdr X f nt n0 Q fs ow L k ws rs (Q1 (op.operands.toList.map (qW X e))) l e dst H (qX X (call X) (ZI ow dst) op e H)):=by
 rw [← qlA];unfold JH;simp only [Xq,VO];cases ke nt dst with
 | false=>simp [Qm]
 | true=>simp
theorem quN {dst:Option Tmp} {op:Op} {l:List SOp} {t:Tmp} {want:Bool}:JH X f nt n0 Q fs ow L k ws rs (⟨dst,op,some (some t,want)⟩ :: l) e H =
  (ke nt dst = true∧qbX X f nt n0 Q fs ow L k ws rs (Q1 (op.operands.toList.map (qW X e))) dst op want l e H (qi e t)):=by
 unfold JH;simp only [Xq,VO];cases ke nt dst with
 | false=>simp [Qm]
 | true =>
  cases qi e t with
  | none=>simp [qbX,Qm]
  | some d =>
   cases d with
   | bool b =>
    by_cases hb:b = want
    ·subst hb;simp only [beq_self_eq_true,qbX,if_true,true_and];rw [← qlA]
    ·have:(b == want) = false:=(by simpa using hb);simp [qbX,hb,this,JH]
   | tup cs =>
    cases cs with
    | nil=>simp [qbX,JH]
    | cons=>simp [qbX,Qm]
   | _=>simp [qbX,Qm]
theorem qvh {dst:Option Tmp} {l:List SOp} {d:D} {bs:List Nat} {H':qe}:qdr X f nt n0 Q fs ow L k ws rs bs l e dst H (some (d,H')) = ((ZS L k = true→YW L k bs ws)∧(ZN L k = true→H.length≤H'.length∧YV L k H H' rs) ∧
   JH X f nt n0 Q fs ow L (k+1) (if ZN L k then (k,H,H') :: ws else ws) (if ZS L k then (k,bs) :: rs else rs) l (jK e dst d) H'):=rfl
theorem qvi {dst:Option Tmp} {l:List SOp} {bs:List Nat}:qdr X f nt n0 Q fs ow L k ws rs bs l e dst H none = False:=rfl
theorem qvm {dst:Option Tmp} {op:Op} {l:List SOp} {want b:Bool} {bs:List Nat}:qbX X f nt n0 Q fs ow L k ws rs bs dst op want l e H (some (.bool b)) =
  if b = want then qdr X f nt n0 Q fs ow L k ws rs bs l e dst H (qX X (call X) (ZI ow dst) op e H) else JH X f nt n0 Q fs ow L (k+1) ws rs l (jK e dst (.tup [])) H:=rfl
theorem qvl {dst:Option Tmp} {op:Op} {l:List SOp} {want:Bool} {bs:List Nat}:qbX X f nt n0 Q fs ow L k ws rs bs dst op want l e H (some (.tup [])) = JH X f nt n0 Q fs ow L (k+1) ws rs l (jK e dst (.tup [])) H:=rfl
def qfP (X:Cx) (f nt n0:Nat) (Q:Ex→qr→qe→Prop) (fs:List Fr) (drw:Bool):Option (QP × List Nat)→List SOp→Option (qr × qe)→Prop
 | none,l,o=>qds X f nt n0 Q fs drw l o
 | some (L,ow),l,some (e,H)=>JH X f nt n0 Q fs ow L 0 [] [] l e H
 | _,_,none=>False
theorem quQ {drw:Bool} {l:List SOp} {o:Option (qr × qe)}:qfP X f nt n0 Q fs drw none l o = qds X f nt n0 Q fs drw l o:=rfl
theorem quR {drw:Bool} {l:List SOp}:qfP X f nt n0 Q fs drw (some (L,ow)) l (some (e,H)) = JH X f nt n0 Q fs ow L 0 [] [] l e H:=rfl
end lp
theorem quF {id:Nat} {ops:Array Oper}:Run X f nt n0 Q fs (zk X f nt n0 (.region id ops true) e H) = qfP X f nt n0 Q fs (!qcr ops.toList) (X.lp f id) (QY ops ops.toList) (enter X f n0 id e H):=by
 rw [qht];cases zR:enter X f n0 id e H with
 | none=>cases hlp:X.lp f id <;> simp [Qm,qds,qfP]
 | some q=>cases hlp:X.lp f id <;> simp only [qds,Jn,qfP,JH,Jk,hlp,qhi,qrE,Yq]
theorem qtX (ops:Array Oper) (dst:Option Tmp) (op:Op) (ty:TypeId) (pos:String) (af:Array Edge) (l:List Oper):QY ops ({ dst:=dst,op:=op,type:=ty,pos:=pos,after:=af,guard:=none } :: l) = ⟨dst,op,none⟩ :: QY ops l:=rfl
theorem qtW (ops:Array Oper) (dst:Option Tmp) (op:Op) (ty:TypeId) (pos:String) (af:Array Edge) (j:Nat) (want:Bool) (l:List Oper) :
  QY ops ({ dst:=dst,op:=op,type:=ty,pos:=pos,after:=af,guard:=some (j,want) } :: l) = ⟨dst,op,some ((ops[j]?).bind (·.dst),want)⟩ :: QY ops l:=rfl
theorem qtV (ops:Array Oper):QY ops [] = []:=rfl
end
attribute [simp] ZI Op.operands Call.operands Q1 Yk ZN ZS YW YV quP quO quN qvh qvi qvm qvl quQ quR quM quL quK qvf qvg qvk qvj qvn quG quF qcr qqv qtX qtW qtV
end Go.Ev
namespace Go.Ev
@[simp] theorem q2W (H L:qe) (k:Nat):(H ++ L)[H.length+k]? = L[k]?:=by rw [kU (Nat.le_add_right _ _),Nat.add_sub_cancel_left]
@[simp] theorem q7l (H L:qe):(H ++ L)[H.length]? = L[0]?:=q2W H L 0
@[simp] theorem q2T (H L:qe) (k:Nat) (x:Option (List D)):(H ++ L).set (H.length+k) x = H ++ L.set k x:=by
 rw [List.set_append_right _ _ (Nat.le_add_right _ _),Nat.add_sub_cancel_left]
@[simp] theorem q7k (H L:qe) (x:Option (List D)):(H ++ L).set H.length x = H ++ L.set 0 x:=q2T H L 0 x
end Go.Ev
namespace Go.Ev
open Go Go.Proofs Go.ChangeShapes Go.WideShapes Go.ChangeAt Go.RowKit
theorem qwa {H:Type} {enc:TypeId × Value→H} {P:Program} {f:Func} {s:ChangeSpec} {apart fresh handsOn again:Bool} {W W':World} {args:Array Value} {v:Value} {ds gs:List (DataW H)} {before pa pv:List MemPlace}
  (hW:DataW.Whole enc P f.params.toList s.vars apart W args.toList ds gs before)
  (hres:∀ (b:Nat) (sp:Nat→Bool) (hd:Bool),DataW.TrodAll enc P W' b sp hd f.resultTypes.toList (v.resultList f.resultTypes.size) (s.fn H (ds ++ gs)).results [])
  (qbD:∀ sp:Nat→Bool,(∀ p∈before,sp p.block = true)→DataW.TrodAll enc P W' 0 sp true f.params.toList args.toList (s.fn H (ds ++ gs)).args pa)
  (hvars:∀ sp:Nat→Bool,(∀ p∈before,sp p.block = true)→DataW.TrodVars enc P W' sp s.vars (s.fn H (ds ++ gs)).vars pv)
  (hps:before = pa ++ pv) (hb:Below W.heap.size W W')
  (J5:∀ (j:Nat) (t:TypeId) (r:Value),f.resultTypes[j]? = some t→(v.resultList f.resultTypes.size)[j]? = some r→Value.okWide P W' .any 0 t r) :
  s.post enc P f apart fresh handsOn again W args v W':=by
 have qg:∀ p∈before,p.block < W.heap.size:=fun p hp=>hW.lt p hp;have hold:∀ p∈before,(fun b=>decide (b < W.heap.size)) p.block = true:=fun p hp=>by simpa using qg p hp
 refine ⟨ds,gs,before,[],pa,pv,hW,hres _ _ _,qbD _ hold,hvars _ hold,World.keptBut_mono (fun p hp=>⟨hp,?_⟩) (hb.frame (·∈before)),fun _=>?_⟩
 ·rw [hps,vW] at hp;exact Or.inr hp
 ·obtain ⟨_,_,_,_,_,hz,hn⟩:=hW;refine ⟨J5,_,_,([] ++ pa) ++ pv,⟨[] ++ pa,pv,trodAll_append (qbD _ (fun _ _=>rfl)) (hres _ _ _),hvars _ (fun _ _=>rfl),rfl,?_,?_⟩,?_⟩
  ·intro b off hp;have zP:MemPlace.cell b off∈before:=(by rw [hps];simpa using hp);rw [hb.frozen (qg _ zP)];exact hz b off zP
  ·intro ha;have:=hn ha;rw [hps] at this;simpa using this
  ·intro p hp _;rw [hps];simpa using hp
theorem qkO {H:Type} {enc:TypeId × Value→H} {P:Program} (hl:laidOutB P = true) {W W':World} {sp:Nat→Bool} (hb:Below W.heap.size W W') :
  ∀ {ts:List TypeId} {vs:List Value} {ds:List (DataW H)} {ps:List MemPlace},(ts.all fun t=>P.readableRec t && decide (t < P.types.size)) = true →
   DataW.TrodAll enc P W 0 (fun _=>true) true ts vs ds ps→(∀ p∈ps,p.block < W.heap.size)→(∀ p∈ps,sp p.block = true)→DataW.TrodAll enc P W' 0 sp true ts vs ds ps
 | [],[],[],_,_,h,_,_=>h
 | _ :: _,_ :: _,_ :: _,_,ht,⟨p,q,h1,h2,e⟩,qg,hs=>by
  simp only [VY,jk,decide_eq_true_eq] at ht;subst e
  exact ⟨p,q,WideElems.Trod_stays hl ht.1.1 ht.1.2 h1 (fun x hx=>hb.same (qg x (qbZ _ hx))) (fun x hx=>hs x (qbZ _ hx)),
   qkO hl hb (by simpa using ht.2) h2 (fun x hx=>qg x (List.mem_append_right _ hx)) (fun x hx=>hs x (List.mem_append_right _ hx)),rfl⟩
theorem qxB {H:Type} {enc:TypeId × Value→H} {X:Cx} (hG:Good X) (hl:laidOutB X.P = true) {f:Nat} {fn:Func} {tb:TypeId} (hf:X.P.funcs[f]? = some fn) (jy:fn.body.isSome = true)
  (hres:fn.resultTypes = #[tb]) (htb:X.P.underlying tb = some .bool) (hpar:(fn.params.toList.all fun t=>X.P.readableRec t && decide (t < X.P.types.size)) = true)
  {s:ChangeSpec} (hvr:s.vars = []) {W:World} {args:Array Value} {ds gs:List (DataW H)} {before:List MemPlace}
  (hglob:∀ g cs,X.glob g = some cs→Rep (· < W.heap.size) W jh [] (.vptr cs) (.pointer (some ⟨g,0,none⟩)))
  (hW:DataW.Whole enc X.P fn.params.toList s.vars false W args.toList ds gs before) (hs:(s.fn H (ds ++ gs)).results = [.lit (.bool true)]∧(s.fn H (ds ++ gs)).args = ds∧(s.fn H (ds ++ gs)).vars = [])
  {dd:List D} {L:qe} (hr:RepL (· < W.heap.size) W jh [] dd args.toList) (hc:call X f dd [] = some (.bool true,L)) :
  Calls X.P f args W fun e W'=>∃ v,e = .returned v∧s.post enc X.P fn false true false false W args v W':=by
 have hsim:Sim X (· < W.heap.size) W jh []:=⟨fun b hb=>hb,hglob,fun i j ds es b s s' hd=>by simp [qf] at hd,fun i ds hd=>by simp [qf] at hd⟩;have hgo:=qkp hG f dd [] _ _ _ W jh args.toList hc hsim hr;obtain ⟨c,hb⟩:=Option.isSome_iff_exists.1 jy;have KC:(callFunc f args.toList.toArray).run X.P W = .ok (.enter f args.toList.toArray) W:=Go.Proofs.enters_of hf (hG.ng f fn hf) (by rw [hb]) _ _;unfold Goes at hgo;rw [KC] at hgo;simp only [Array.toArray_toList] at hgo;refine hgo.mono ?_;rintro e W' ⟨v,rfl,ι',ok',_,hrep,hev,_⟩;refine ⟨v,rfl,?_⟩;cases hrep;have hbel:Below W.heap.size W W':=⟨hev.os,hev.tape,hev.output,hev.size,fun b hb=>hev.frame b hb (fun i ds s hd=>by simp [qf] at hd)⟩;have hW':=hW;obtain ⟨p,q,hA,hV,rfl,QA,hnd⟩:=hW;rw [hvr] at hV;obtain ⟨rfl,rfl⟩:=trodVars_none hV;refine qwa (pa:=p) (pv:=[]) hW' (fun b sp hd=>?_) (fun sp vx=>?_) (fun sp _=>?_) rfl hbel ?_
 ·rw [hs.1,hres];exact trodAll_cons_mk (shut_bool htb _) trodAll_mk0
 ·rw [hs.2.1];exact qkO hl hbel hpar hA (fun x hx=>hW'.lt x (qbZ _ hx)) (fun x hx=>vx x (qbZ _ hx))
 ·rw [hs.2.2,hvr];rfl
 ·rw [hres];intro j t r hj hv;cases j with
  | zero =>
   simp only [List.size_toArray,vn,kp] at hj hv;injection hj with hj;subst hj
   have:r = .bool true:=by
    simp only [Value.resultList] at hv;simpa using hv.symm
   subst this;exact okWide_bool_mk htb _
  | succ j=>simp at hj
def Xc (k:IntKind) (l:List Int):List D:=l.map (.int k ·)
end Go.Ev
namespace Go.Ev
open Go Go.Proofs
def qfp (X:Cx) (n:Nat):Bool:=match X.P.funcs[n]? with
 | some fn => (fn.name != "runtime.NumGoroutine") && match fn.body with
  | some c=>X.bad n || Zn X n c
  | none=>true
 | none=>true
def Yu (X:Cx) (a:Nat):Nat→Bool
 | 0=>true
 | k+1=>Yu X a k && qfp X (a+k)
theorem qbp {X:Cx} {a:Nat}:∀ {k:Nat},Yu X a k = true→∀ {f:Nat},a≤f→f < a+k→qfp X f = true
 | 0,_,f,h1,h2=>by omega
 | k+1,h,f,h1,h2=>by
  simp only [Yu,jk] at h;by_cases hf:f = a+k
  ·rw [hf];exact h.2
  ·exact qbp h.1 h1 (by omega)
theorem qmB {X : Cx} {f : Nat} {fn : Func} (h : qfp X f = true) (hfn : X.P.funcs[f]? = some fn) : (fn.name == "runtime.NumGoroutine") = false ∧ ∀ c, fn.body = some c → X.bad f = false → Zn X f c = true := by
 simp only [qfp,hfn,jk,bne_iff_ne,ne_eq] at h;refine ⟨by simpa using h.1,fun c hc hb=>?_⟩;have h3:=h.2;simpa [hc,hb] using h3
class Enc (α:Type) where
 size:Nat
 cells:α→List D
 len:∀ a,(cells a).length = size
 free:∀ a,(cells a).all idFree = true
section
variable {α:Type} [Enc α]
def qu (l:List α):List D:=(l.map Enc.cells).flatten
@[simp] theorem qs0 (a:α):(Enc.cells a).all idFree = true:=Enc.free a
@[simp] theorem qkm (a:α):idFree.idFreeL (Enc.cells a) = true:=by rw [kY];exact Enc.free a
@[simp] theorem q2e (n:Nat) (a:α):(Enc.cells a).all (closed n) = true:=by
 rw [← qki];exact YT n _ (qkm a)
@[simp] theorem q7d (n:Nat) (a:α):closed.closedL n (Enc.cells a) = true:=YT n _ (qkm a)
@[simp] theorem q7e (a:α):(∀ x,x∈Enc.cells a→idFree x = true) = True:=eq_true (List.all_eq_true.1 (qs0 a))
@[simp] theorem q7f (n:Nat) (a:α):(∀ x,x∈Enc.cells a→closed n x = true) = True:=eq_true (List.all_eq_true.1 (q2e n a))
@[simp] theorem q65:qu ([]:List α) = []:=rfl
theorem Yb (a:α) (l:List α):qu (a :: l) = Enc.cells a ++ qu l:=rfl
theorem q1p (a:α):qu [a] = Enc.cells a:=by simp [qu]
theorem q1r (a b:List α):qu (a ++ b) = qu a ++ qu b:=by simp [qu]
theorem qhm (l:List α) (a:α):qu (l ++ [a]) = qu l ++ Enc.cells a:=by rw [q1r,q1p]
theorem ZH (l:List α):(qu l).length = l.length * Enc.size α:=by
 induction l with
 | nil=>simp
 | cons a l ih=>rw [Yb,zz,Enc.len,ih,vn,Jp,Nat.one_mul];omega
theorem qaP {n:Nat} (hn:n = Enc.size α) (l:List α):(qu l).length = l.length * n:=by rw [hn,ZH]
theorem qaQ {n:Nat} (hn:n = Enc.size α):∀ (l:List α) (i:Nat),(qu l).drop (i * n) = qu (l.drop i)
 | [],i=>by simp
 | a :: l,0=>by simp
 | a :: l,i+1=>by
  have hd:(i+1) * n = n+i * n:=by rw [Jp,Nat.one_mul,Nat.add_comm]
  rw [Yb,hd,← jV,kE (by rw [Enc.len,hn]),List.drop_succ_cons,qaQ hn l i]
theorem qaO {n:Nat} (hn:n = Enc.size α):∀ (l:List α) (i:Nat),(qu l).take (i * n) = qu (l.take i)
 | [],i=>by simp
 | a :: l,0=>by simp
 | a :: l,i+1=>by
  have hd:(i+1) * n = n+i * n:=by rw [Jp,Nat.one_mul,Nat.add_comm]
  have hl:(Enc.cells a).length = n:=by rw [Enc.len,hn]
  rw [Yb,hd,← hl,ZK,qP (Nat.le_add_right _ _),Nat.add_sub_cancel_left,hl,qaO hn l i,qhC,Yb]
theorem YS {n:Nat} (hn:n = Enc.size α) {l:List α} {i:Nat} (hi:i < l.length):(qu l).drop (i * n) = Enc.cells l[i] ++ qu (l.drop (i+1)):=by
 rw [qaQ hn,zU hi,Yb]
theorem qdg {n:Nat} (hn:n = Enc.size α) (a:α) (r:List D):(Enc.cells a ++ r).take n = Enc.cells a:=List.take_left' (by rw [Enc.len,hn])
theorem qdf {n:Nat} (hn:n = Enc.size α) (a:α):(Enc.cells a).take n = Enc.cells a:=qP (by rw [Enc.len,hn];exact qE _)
theorem qdh {n:Nat} (hn:n = Enc.size α) (a:α) (r:List D):(Enc.cells a ++ r).drop n = r:=kE (by rw [Enc.len,hn])
theorem Ya {n:Nat} (hn:n = Enc.size α) (m:α):∀ (l:List α) {j:Nat},j < l.length→zM (qu l) (j * n) (Enc.cells m) = qu (l.set j m)
 | [],j,hj=>by simp at hj
 | a :: l,j,hj=>by
  have ha:(Enc.cells a).length = n:=by rw [Enc.len,hn]
  have hm:(Enc.cells m).length = n:=by rw [Enc.len,hn]
  cases j with
  | zero =>
   simp only [zM,Nat.zero_mul,List.take_zero,Qu,Jo,hm,List.set_cons_zero,Yb];rw [kE ha]
  | succ j =>
   have ih:=Ya hn m l (j:=j) (by simpa using hj);have e1:(j+1) * n = n+j * n:=(by rw [Jp,Nat.one_mul,Nat.add_comm]);simp only [zM,hm] at ih ⊢;rw [List.set_cons_succ,Yb,Yb,← ih,e1,qhB,← jV,kE ha,← ha,ZK,qP (Nat.le_add_right _ _),Nat.add_sub_cancel_left];simp
@[simp] theorem qrY (l:List α):(qu l).all idFree = true:=by
 induction l with
 | nil=>rfl
 | cons a l ih=>rw [Yb,List.all_append,ih,qs0];rfl
@[simp] theorem qjT (l:List α):idFree.idFreeL (qu l) = true:=by rw [kY];exact qrY l
@[simp] theorem q1q (n:Nat) (l:List α):(qu l).all (closed n) = true:=by
 rw [← qki];exact YT n _ (qjT l)
@[simp] theorem q66 (n:Nat) (l:List α):closed.closedL n (qu l) = true:=YT n _ (qjT l)
@[simp] theorem q67 (l:List α):(∀ x,x∈qu l→idFree x = true) = True:=eq_true (List.all_eq_true.1 (qrY l))
@[simp] theorem q68 (n:Nat) (l:List α):(∀ x,x∈qu l→closed n x = true) = True:=eq_true (List.all_eq_true.1 (q1q n l))
structure Sl (α:Type) where
 nil:Bool
 l:List α
 h:nil = true→l = []
omit [Enc α] in
theorem Sl.nn {s:Sl α} {i:Nat} (h:i < s.l.length):s.nil = false:=by
 cases hn:s.nil with
 | false=>rfl
 | true=>rw [s.h hn] at h;simp at h
end
def Sl.of {α:Type} (l:List α):Sl α:=⟨false,l,by simp⟩
def Sl.none {α:Type}:Sl α:=⟨true,[],by simp⟩
@[simp] theorem Sl.of_l {α:Type} (l:List α):(Sl.of l).l = l:=rfl
@[simp] theorem Sl.of_nil {α:Type} (l:List α):(Sl.of l).nil = false:=rfl
@[simp] theorem Sl.none_l {α:Type}:(Sl.none:Sl α).l = []:=rfl
@[simp] theorem Sl.none_nil {α:Type}:(Sl.none:Sl α).nil = true:=rfl
theorem qud {H:qe} {n:Nat} {d:D} (h:idFree d = true):jf H (n+1) d = some (d,[]):=by
 unfold jf;rw [if_pos h]
theorem qik {H:qe} {n:Nat}:∀ {l:List D},idFree.idFreeL l = true→vY (jf H (n+1)) l = some (l,[])
 | [],_=>rfl
 | d :: l,h=>by
  simp only [idFree.idFreeL,jk] at h;simp only [vY,qud h.1,qik h.2,KO]
theorem qil {g:D→Option (D × List Nat)}:∀ (a b:List D),vY g (a ++ b) = match vY g a,vY g b with
  | some (x,p),some (y,q)=>some (x ++ y,p ++ q)
  | _,_=>none
 | [],b=>by
  simp only [Qu,vY];cases vY g b with
  | none=>rfl
  | some q=>obtain ⟨y,q⟩:=q;rfl
 | d :: a,b=>by
  simp only [Qw,vY,qil a b];cases g d with
  | none=>rfl
  | some r =>
   obtain ⟨r,i⟩:=r;cases vY g a with
   | none=>rfl
   | some p =>
    obtain ⟨x,p⟩:=p;cases vY g b with
    | none=>rfl
    | some q=>obtain ⟨y,q⟩:=q;simp
theorem que {H:qe} {l:List D} (h:idFree.idFreeL l = true):vY (jf H 8) l = some (l,[]):=qik h
theorem quf {H:qe} {l:List D} (h:idFree.idFreeL l = true):vY (jf H 7) l = some (l,[]):=qik h
attribute [simp] qil que quf
theorem qgl {X:Cx} {f nt n0:Nat} {Q:Ex→qr→qe→Prop} {fs:List Fr} {e:qr} {H:qe} {c:Code} (h:Run X f nt n0 (fun ex e H=>ex≠.normal∧Run X f nt n0 Q fs (some (ex,e,H))) [] (zk X f nt n0 c e H)) :
  Run X f nt n0 Q fs (zk X f nt n0 (.loop c) e H):=by
 rw [qfH];cases ho:zk X f nt n0 c e H with
 | none=>rw [ho,Qm] at h;exact h.elim
 | some q =>
  obtain ⟨ex,e1,H1⟩:=q;rw [ho,Ki] at h;cases ex with
  | normal=>exact absurd rfl h.1
  | exit i=>exact h.2
  | ret=>exact h.2
theorem Run.loopThen {X:Cx} {f nt n0:Nat} {Q:Ex→qr→qe→Prop} {fs:List Fr} {c:Code} {σ:Type} (I:σ→qr→qe→Prop) (m:σ→Nat) (s:σ) {e:qr} {H:qe} (h0:I s e H)
  (step:∀ s e H,I s e H→Run X f nt n0 (fun ex e' H'=>match ex with | .normal=>∃ s',m s' < m s∧I s' e' H' | ex=>Run X f nt n0 Q fs (some (ex,e',H'))) [] (zk X f nt n0 c e H)) :
  Run X f nt n0 Q fs (zk X f nt n0 (.loop c) e H):=by
 have h:=Run.loop (Q:=fun ex e H=>ex≠.normal∧Run X f nt n0 Q fs (some (ex,e,H))) I m (fun s e H hi=>by
  refine Run.mono (step s e H hi) ?_;intro ex e' H' hq;rw [Ki];cases ex with
  | normal=>exact hq
  | exit i=>exact ⟨by simp,hq⟩
  | ret=>exact ⟨by simp,hq⟩) s e H h0
 exact Run.mono h fun ex e H hq=>hq.2
theorem qiy {X:Cx} {f nt n0:Nat} {Q:Ex→qr→qe→Prop} {fs:List Fr} {c:Code} {e:qr} {H:qe}
  (h:Run X f nt n0 (fun ex e' H'=>match ex with | .normal=>Run X f nt n0 Q fs (zk X f nt n0 (.loop c) e' H') | ex=>Run X f nt n0 Q fs (some (ex,e',H'))) [] (zk X f nt n0 c e H)) :
  Run X f nt n0 Q fs (zk X f nt n0 (.loop c) e H):=by
 rw [qfH];cases ho:zk X f nt n0 c e H with
 | none=>rw [ho,Qm] at h;exact h.elim
 | some q =>
  obtain ⟨ex,e1,H1⟩:=q;rw [ho,Ki] at h;cases ex with
  | normal=>exact h
  | exit i=>exact h
  | ret=>exact h
def qk2 (X:Cx) (z:Bool) (rs:List ResultVar) (n0:Nat) (P:D × qe→Prop):Ex→qr→qe→Prop
 | .exit _,_,_=>False
 | _,e,H=>∃ r,(QF X e H rs).bind (fun ds=>jE z n0 H (Vc ds)) = some r∧P r
theorem q0E {X:Cx} {z:Bool} {rs:List ResultVar} {n0:Nat} {P:D × qe→Prop} {e:qr} {H:qe}:qk2 X z rs n0 P .ret e H = ∃ r,(QF X e H rs).bind (fun ds=>jE z n0 H (Vc ds)) = some r∧P r:=rfl
theorem q0F {X:Cx} {z:Bool} {rs:List ResultVar} {n0:Nat} {P:D × qe→Prop} {e:qr} {H:qe}:qk2 X z rs n0 P .normal e H = ∃ r,(QF X e H rs).bind (fun ds=>jE z n0 H (Vc ds)) = some r∧P r:=rfl
theorem VR {X:Cx} {f:Nat} {H:qe} {fn:Func} {args:List D} (P:D × qe→Prop) (hf:X.P.funcs[f]? = some fn) (hb:fn.body.isSome = true) (hbad:X.bad f = false∧X.con f args H = none)
  (h:Run X f fn.ntmps H.length (qk2 X (X.fzr f) fn.results.toList H.length P) [] (zk X f fn.ntmps H.length (vh (Zi fn)) (kf 0 args) H)) (hg:(X.gr f && X.byRef f) = false:=by rfl):∃ r,call X f args H = some r∧P r:=by
 cases ho:zk X f fn.ntmps H.length (vh (Zi fn)) (kf 0 args) H with
 | none=>rw [ho,Qm] at h;exact h.elim
 | some q =>
  obtain ⟨ex,e1,H1⟩:=q;rw [ho,Ki] at h;cases ex with
  | exit i=>exact h.elim
  | normal =>
   obtain ⟨r,h1,h2⟩:=h;exact ⟨r,qy hf hb hbad (by rw [ho,Ki,qjH];exact h1) hg,h2⟩
  | ret =>
   obtain ⟨r,h1,h2⟩:=h;exact ⟨r,qy hf hb hbad (by rw [ho,Ki,qjG];exact h1) hg,h2⟩
attribute [simp] q0E q0F
def qhF (X:Cx) (z:Bool) (rs:List ResultVar) (P:D × qe→Prop):Ex→qr→qe→Prop
 | .exit _,_,_=>False
 | _,e,H=>∃ r,(QF X e H rs).bind (fun ds=>qd6 z H (Vc ds)) = some r∧P r
theorem q0C {X:Cx} {z:Bool} {rs:List ResultVar} {P:D × qe→Prop} {e:qr} {H:qe}:qhF X z rs P .ret e H = ∃ r,(QF X e H rs).bind (fun ds=>qd6 z H (Vc ds)) = some r∧P r:=rfl
theorem q0D {X:Cx} {z:Bool} {rs:List ResultVar} {P:D × qe→Prop} {e:qr} {H:qe}:qhF X z rs P .normal e H = ∃ r,(QF X e H rs).bind (fun ds=>qd6 z H (Vc ds)) = some r∧P r:=rfl
theorem Zh {X:Cx} {f:Nat} {H:qe} {fn:Func} {args:List D} (P:D × qe→Prop) (hf:X.P.funcs[f]? = some fn) (hb:fn.body.isSome = true) (hbad:X.bad f = false∧X.con f args H = none)
  (h:Run X f fn.ntmps H.length (qhF X (X.fzr f) fn.results.toList P) [] (zk X f fn.ntmps H.length (vh (Zi fn)) (kf 0 args) H)) (hg:(X.gr f && X.byRef f) = true:=by rfl):∃ r,call X f args H = some r∧P r:=by
 rw [qhs] at h;cases jy:fn.body with
 | none=>rw [jy] at hb;cases hb
 | some c =>
  have hc:Zi fn = c:=by simp only [Zi,jy,Va]
  rw [hc] at h;rw [qhy hbad.2 hf jy hbad.1,hg];cases ho:zk X f fn.ntmps H.length c (kf 0 args) H with
  | none=>rw [ho,Qm] at h;exact h.elim
  | some q =>
   obtain ⟨ex,e1,H1⟩:=q;rw [ho,Ki] at h;cases ex with
   | exit i=>exact h.elim
   | normal =>
    obtain ⟨r,h1,h2⟩:=h;cases hr:QF X e1 H1 fn.results.toList with
    | none=>rw [hr] at h1;cases h1
    | some ds=>rw [hr] at h1;exact ⟨r,by simpa [hr,qbm] using h1,h2⟩
   | ret =>
    obtain ⟨r,h1,h2⟩:=h;cases hr:QF X e1 H1 fn.results.toList with
    | none=>rw [hr] at h1;cases h1
    | some ds=>rw [hr] at h1;exact ⟨r,by simpa [hr,qbm] using h1,h2⟩
attribute [simp] q0C q0D qd6
end Go.Ev
