import Derived.Test.YtkfojmihnjnhfaaGreatDoorC1
import Derived.Scope
import Derived.LoopN
import Derived.Shelf.Abstract
import Derived.Orders
import Derived.Lib.BytesEntry
import Derived.Laws.Externs
import Derived.ProofKit
import Derived.OpenShut
import Derived.Below
import Derived.WideKeyArgs
import Derived.Carry
import Derived.ChangeSame
import Derived.ChangeSlices
namespace Go.Ev
section
variable {X:Cx} {ok ok':Nat→Prop} {w w':World} {ι:qB} {H H':qi}
def Goes (P:Program) (s:Sem Next) (w:World) (R:Value→World→Prop):Prop :=
 match s.run P w with
 | .ok (.value v) w'=>R v w'
 | .ok .skip w'=>R undef w'
 | .ok (.enter f args) w'=>Calls P f args w' fun e w''=>∃ v,e = .returned v∧R v w''
 | _=>False
theorem Goes.value {P:Program} {s:Sem Next} {v:Value} {R:Value→World→Prop} (h:s.run P w = .ok (.value v) w') (hr:R v w'):Goes P s w R:=by
 unfold Goes;rw [h];exact hr
theorem Goes.skip {P:Program} {s:Sem Next} {R:Value→World→Prop} (h:s.run P w = .ok .skip w') (hr:R undef w'):Goes P s w R:=by
 unfold Goes;rw [h];exact hr
theorem Goes.mono {P:Program} {s:Sem Next} {R R':Value→World→Prop} (h:Goes P s w R) (hr:∀ v w',R v w'→R' v w'):Goes P s w R':=by
 unfold Goes at *;split at h
 ·exact hr _ _ h
 ·exact hr _ _ h
 ·exact h.mono fun e w'' ⟨v,h1,h2⟩=>⟨v,h1,hr _ _ h2⟩
 ·exact h.elim
theorem Goes.upon {P:Program} {o:Oper} {a:Act} {s:Sem Next} {next:Act→World→Prop} {Q:Exit→Act→World→Prop} (h:Goes P s w fun v w'=>next (a.put o.dst v) w'):o.upon P a next Q (s.run P w):=by
 unfold Goes at h;split at h
 ·rename_i v w' hr;rw [hr];exact h
 ·rename_i w' hr;rw [hr];exact h
 ·rename_i f args w' hr;rw [hr];simp only [Oper.upon];exact h.mono fun e w'' ⟨v,h1,h2⟩=>by subst h1;exact h2
 ·exact h.elim
def Jx (X:Cx) (ok:Nat→Prop) (w:World) (ι:qB) (H:qi) (r:D) (H':qi) (v:Value) (w':World):Prop :=
 ∃ ι' ok',Sim X ok' w' ι' H'∧Rep ok' w' ι' H' r v∧Evol H.length ok w ι H ok' w' ι' H'∧∀ i ds,H.length≤i→qo H' i = some ds→ds.all idFree = true
def JT (X:Cx) (F:zk):Prop :=
 ∀ (f:Nat) (args:List D) (H:qi) (r:D) (H':qi) (ok:Nat→Prop) (w:World) (ι:qB) (vs:List Value),F f args H = some (r,H')→Sim X ok w ι H→RepL ok w ι H args vs →
  Goes X.P (callFunc f vs.toArray) w (Jx X ok w ι H r H')
structure Good (X:Cx):Prop where
 mixed:X.P.follows .mixedOrders = true
 okc:∀ (f:Nat) (fn:Func) (c:Code),X.P.funcs[f]? = some fn→fn.body = some c→X.bad f = false→QL X f c = true
 ng : ∀ (f : Nat) (fn : Func), X.P.funcs[f]? = some fn → (fn.name == "runtime.NumGoroutine") = false
 ext:∀ (f:Nat) (fn:Func) (args:List D) (d:D),X.P.funcs[f]? = some fn→fn.body = none→X.ext f args = some d →
  ∀ (ok:Nat→Prop) (w:World) (ι:qB) (H:qi) (vs:List Value),Sim X ok w ι H→RepL ok w ι H args vs→∃ v,(callFunc f vs.toArray).run X.P w = .ok (.value v) w∧Rep ok w ι H d v∧idFree d = true
 con:∀ (f:Nat) (args:List D) (H:qi) (r:D) (H':qi),X.con f args H = some (r,H')→∀ (ok:Nat→Prop) (w:World) (ι:qB) (vs:List Value),Sim X ok w ι H→RepL ok w ι H args vs →
  Goes X.P (callFunc f vs.toArray) w (Jx X ok w ι H r H')
theorem qql (hs:Sim X ok w ι H):Sim X ok w ze [] :=
 ⟨hs.okS,hs.glob,fun i j ds es b s s' hd=>by simp [qo] at hd,fun i ds hd=>by simp [qo] at hd⟩
theorem qqm (hs:Sim X ok w ι H):Sim X (qfu ok ι H) w ze [] :=
 ⟨fun b hb=>by
   rcases hb with hb | ⟨i,ds,s,hd,hi⟩
   ·exact hs.okS b hb
   ·exact hs.lt hd hi,fun g cs hg=>(hs.glob g cs hg).okMono fun b hb=>.inl hb,fun i j ds es b s s' hd=>by simp [qo] at hd,fun i ds hd=>by simp [qo] at hd⟩
theorem qh7 (l:List D):noZ.noZL l = true↔∀ d,d∈l→noZ d = true:=by
 induction l with
 | nil=>simp [noZ.noZL]
 | cons d l ih=>simp [noZ.noZL,ih]
theorem qgQ (n:Nat) (l:List D):shift.shiftL n l = l.map (shift n):=by
 induction l with
 | nil=>rfl
 | cons d l ih=>simp [shift.shiftL,ih]
theorem qxp (n:Nat) (d:D):zP (shift n d) = zP d:=by cases d <;> rfl
theorem Rep.moved {m:Nat} {ι1 ι2:qB} {H1 H2:qi} (hm:∀ k,1≤k→k < H1.length→m+k < H2.length∧qo H2 (m+k) = qo H1 k∧ι2 (m+k) = ι1 k) {d:D} {v:Value} (h:Rep ok w ι1 H1 d v) (hz:noZ d = true):Rep ok w ι2 H2 (Ev.shift m d) v:=by
 induction h with
 | bool b=>exact .bool b
 | int k n=>exact .int k n
 | str s=>exact .str s
 | nilp=>exact .nilp
 | nilf=>exact .nilf
 | nili=>exact .nili
 | raw v=>exact .raw v
 | agg hl hc h ih =>
  simp only [noZ,qh7] at hz;simp only [Ev.shift,qgQ];refine .agg (by simpa using hl) (fun d hd=>?_) fun j d hj=>?_
  ·obtain ⟨d',zm,rfl⟩:=List.mem_map.1 hd;rw [qxp];exact hc d' zm
  ·rw [XL,ZR] at hj;obtain ⟨d',zm,rfl⟩:=hj;exact ih j d' zm hm (hz d' (mem_of_get? zm))
 | tup hl h ih =>
  simp only [noZ,qh7] at hz;simp only [Ev.shift,qgQ];refine .tup (by simpa using hl) fun j d hj=>?_;rw [XL,ZR] at hj;obtain ⟨d',zm,rfl⟩:=hj;exact ih j d' zm hm (hz d' (mem_of_get? zm))
 | fn hl h ih =>
  simp only [noZ,qh7] at hz;simp only [Ev.shift,qgQ];refine .fn (by simpa using hl) fun j d hj=>?_;rw [XL,ZR] at hj;obtain ⟨d',zm,rfl⟩:=hj;exact ih j d' zm hm (hz d' (mem_of_get? zm))
 | iface h ih=>exact .iface (ih hm (by simpa [noZ] using hz))
 | optr a hi h =>
  simp only [noZ,decide_eq_true_eq] at hz;obtain ⟨m1,m2,m3⟩:=hm _ hz hi;refine .optr a m1 fun ds hd=>?_;rw [m2] at hd;rw [m3];exact h ds hd
 | osl a hi h qO =>
  simp only [noZ,decide_eq_true_eq] at hz;obtain ⟨m1,m2,m3⟩:=hm _ hz hi;refine .osl a m1 (fun ds hd=>?_) qO;rw [m2] at hd;rw [m3];exact h ds hd
 | vptr a f ha hc hr h _=>exact .vptr a f ha hc hr h
 | vnil=>exact .vnil
 | vsl a f ha hc hr h qO _=>exact .vsl a f ha hc hr h qO
theorem qzZ {F:zk} (hF:JT X F) {f:Nat} {args:List D} {r:D} {vs:List Value} (h:VQ F f args H = some (r,H')) (hs:Sim X ok w ι H) (hv:RepL ok w ι H args vs) :
  Goes X.P (callFunc f vs.toArray) w (Post X H.length ok w ι H r H'):=by
 unfold VQ at h;split at h
 ·rename_i i st off rest;split at h
  ·rename_i ds hd;split at h
   ·rename_i hfree;rw [qR] at hfree;split at h
    ·rename_i r0 ds' L hc;split at h
     ·rename_i hok;rw [qR] at hok;injection h with h;injection h with h1 h2;subst h1;subst h2;have qh:i < H.length:=ZE hd
      let ι1:qB:=fun k=>if k = 0 then ι i else none
      have Vn:∀ k es,qo [some ds] k = some es→k = 0∧es = ds:=by
       intro k es hk;cases k with
       | zero=>simp [qo] at hk;exact ⟨rfl,hk.symm⟩
       | succ k=>simp [qo] at hk
      have Kp:Sim X ok w ι1 [some ds]:=by
       refine ⟨hs.okS,hs.glob,fun a b es es' c s s' ha hb _ _=>by rw [(Vn a es ha).1,(Vn b es' hb).1],fun k es hk=>?_⟩;obtain ⟨rfl,rfl⟩:=Vn k es hk;obtain ⟨b,arr,e,fr,q1,q2,q3,q4,q5,q6,q7,q8⟩:=hs.blk i es hd;exact ⟨b,arr,e,fr,q1,q2,q3,q4,q5,q6,q7,fun j d hj=>(q8 j d hj).free (KE hfree.2 d (mem_of_get? hj)) _ _⟩
      have YH:RepL ok w ι1 [some ds] (.optr 0 st off :: rest) vs:=by
       refine ⟨by simpa using hv.1,fun j d hj=>?_⟩;cases j with
       | zero =>
        simp only [ZV,qs] at hj;subst hj;have h0:=hv.2 0 (.optr i st off) rfl;generalize vs.getD 0 undef = v0 at h0 ⊢;cases h0 with
        | optr a hi hk =>
         refine .optr a (by simp) fun es he=>?_;obtain ⟨_,rfl⟩:=Vn 0 es he;exact hk es hd
       | succ j =>
        have:=hv.2 (j+1) d (by simpa using hj);exact this.free (KE hfree.1 d (mem_of_get? (by simpa using hj))) _ _
      refine (hF f _ _ _ _ ok w ι1 vs hc Kp YH).mono fun v w' hp=>?_;obtain ⟨ι',ok',k1,k2,k3,k4⟩:=hp
      have za:∀ b,b < w.heap.size→(∀ s,ι i≠some (b,s))→w'.heap[b]? = w.heap[b]?:=fun b hb zR=>k3.frame b hb fun k es s hk hi=>by
       obtain ⟨rfl,_⟩:=Vn k es hk;exact zR s hi
      have hown:∀ k es b s,qo (some ds' :: L) k = some es→ι' k = some (b,s)→b < w.heap.size→∃ s',ι i = some (b,s'):=fun k es b s hk hb qk=>by
       obtain ⟨j,es',s',hj,hi⟩:=k3.own k es b s hk hb qk;obtain ⟨rfl,_⟩:=Vn j es' hj;exact ⟨s',hi⟩
      have hokN:∀ b,ok' b→b < w.heap.size→ok b∨∃ s,ι i = some (b,s):=fun b hb qk=>by
       rcases k3.okN b hb qk with h | ⟨k,es,s,hk,hi⟩
       ·exact .inl h
       ·obtain ⟨rfl,_⟩:=Vn k es hk;exact .inr ⟨s,hi⟩
      let n:=H.length
      let ι2:qB:=fun j=>if j = i then ι' 0 else if j < n then ι j else ι' (j - n+1)
      have hn:(hset H i ds').length = n:=by simp [hset,n]
      have hH:∀ j es,qo (hset H i ds' ++ L) j = some es→(j = i∧es = ds'∧ι2 j = ι' 0)∨(j≠i∧j < n∧qo H j = some es∧ι2 j = ι j)∨(n≤j∧qo (some ds' :: L) (j - n+1) = some es∧ι2 j = ι' (j - n+1)):=by
       intro j es hj;by_cases JK:j < n
       ·rw [qcf (by rw [hn];exact JK)] at hj;by_cases Q9:j = i
        ·subst Q9;refine .inl ⟨rfl,?_,by simp [ι2]⟩;simp only [qo,hset] at hj;rw [List.getElem?_set_self qh] at hj;simpa using hj.symm
        ·refine .inr (.inl ⟨Q9,JK,?_,by simp [ι2,Q9,JK]⟩);simp only [qo,hset] at hj ⊢
         rwa [List.getElem?_set_ne (Ne.symm Q9)] at hj
       ·obtain ⟨k,rfl⟩:∃ k,j = n+k:=⟨j - n,by omega⟩;have kG:qo (hset H i ds' ++ L) ((hset H i ds').length+k) = some es:=(by rw [hn];exact hj);rw [qcg] at kG;have qr:n+k≠i:=(by omega);have e1:n+k - n+1 = k+1:=(by omega);refine .inr (.inr ⟨by omega,?_,?_⟩)
        ·rw [e1];simpa [qo] using kG
        ·show (if n+k = i then ι' 0 else if n+k < n then ι (n+k) else ι' (n+k - n+1)) = _;rw [if_neg qr,if_neg JK]
      have hev:Evol n ok w ι H ok' w' ι2 (hset H i ds' ++ L):=by
       refine ⟨k3.os,k3.tape,k3.output,k3.size,fun b hb zR=>za b hb fun s=>zR i ds s hd,k3.okU,fun b hb qk=>?_,⟨qz _,by rw [qC,hn];omega⟩,?_,?_⟩
       ·rcases hokN b hb qk with h | ⟨s,hi⟩
        ·exact .inl h
        ·exact .inr ⟨i,ds,s,hd,hi⟩
       ·intro j JK es hj;rcases hH j es hj with ⟨rfl,rfl,e⟩ | ⟨_,_,q,e⟩ | ⟨q,_,_⟩
        ·obtain ⟨ds2,vS,hle,hi2⟩:=k3.heap 0 (by simp) es rfl;obtain ⟨_,rfl⟩:=Vn 0 ds2 vS;exact ⟨ds2,hd,hle,fun hl=>by rw [e,hi2 hl];rfl⟩
        ·exact ⟨es,q,qz _,fun _=>e⟩
        ·omega
       ·intro j es b s hj hb qk;rcases hH j es hj with ⟨rfl,rfl,e⟩ | ⟨_,_,q,e⟩ | ⟨q,hk,e⟩
        ·rw [e] at hb;obtain ⟨s',hi⟩:=hown 0 es b s rfl hb qk;exact ⟨j,ds,s',hd,hi⟩
        ·rw [e] at hb;exact ⟨j,es,s,q,hb⟩
        ·rw [e] at hb;obtain ⟨s',hi⟩:=hown _ es b s hk hb qk;exact ⟨i,ds,s',hd,hi⟩
      have hsep:∀ j es b s,j≠i→qo H j = some es→ι j = some (b,s)→b < w.heap.size∧∀ s',ι i≠some (b,s'):=fun j es b s Q9 hj hb=>⟨hs.lt hj hb,fun s' hi=>Q9 (hs.inj j i es ds b s s' hj hd hb hi)⟩
      have VC:Sim X ok' w' ι2 (hset H i ds' ++ L):=by
       refine ⟨k1.okS,k1.glob,?_,?_⟩
       ·intro a c es es' b s s' ha hc hb zn
        have cross:∀ {j es b s k es' s'},j≠i→j < n→qo H j = some es→ι j = some (b,s)→qo (some ds' :: L) k = some es'→ι' k = some (b,s')→False:=by
         intro j es b s k es' s' Q9 _ hj hb hk zn;obtain ⟨q1,q2⟩:=hsep j es b s Q9 hj hb;obtain ⟨s2,hi⟩:=hown k es' b s' hk zn q1;exact q2 s2 hi
        rcases hH a es ha with ⟨a1,rfl,ea⟩ | ⟨a1,a2,qa,ea⟩ | ⟨a1,qa,ea⟩ <;> rcases hH c es' hc with ⟨c1,rfl,ec⟩ | ⟨c1,c2,qc,ec⟩ | ⟨c1,qc,ec⟩ <;> rw [ea] at hb <;> rw [ec] at zn
        ·rw [a1,c1]
        ·exact (cross c1 c2 qc zn (k:=0) rfl hb).elim
        ·have:=k1.inj 0 _ _ _ b s s' rfl qc hb zn;omega
        ·exact (cross a1 a2 qa hb (k:=0) rfl zn).elim
        ·exact hs.inj a c es es' b s s' qa qc hb zn
        ·exact (cross a1 a2 qa hb qc zn).elim
        ·have:=k1.inj _ 0 _ _ b s s' qa rfl hb zn;omega
        ·exact (cross c1 c2 qc zn qa hb).elim
        ·have:=k1.inj _ _ _ _ b s s' qa qc hb zn;omega
       ·intro j es hj;rcases hH j es hj with ⟨rfl,rfl,e⟩ | ⟨j1,j2,qj,e⟩ | ⟨j1,qj,e⟩
        ·obtain ⟨b,arr,e1,fr,q1,q2,q3,q4,q5,q6,q7,q8⟩:=k1.blk 0 es rfl;exact ⟨b,arr,e1,fr,by rw [e];exact q1,q2,q3,q4,q5,q6,q7,fun m d hm=>(q8 m d hm).free (KE hok.2 d (mem_of_get? hm)) _ _⟩
        ·obtain ⟨b,arr,e1,fr,q1,q2,q3,q4,q5,q6,q7,q8⟩:=hs.blk j es qj;obtain ⟨p1,p2⟩:=hsep j es b _ j1 qj q1;refine ⟨b,arr,e1,fr,by rw [e];exact q1,fun hb=>?_,by rw [za b p1 p2];exact q3,q4,q5,q6,q7,fun m d hm=>(q8 m d hm).evol hs hev (q8 m d hm).closed⟩;rcases hokN b hb p1 with h | ⟨s,hi⟩
         ·exact q2 h
         ·exact p2 s hi
        ·obtain ⟨b,arr,e1,fr,q1,q2,q3,q4,q5,q6,q7,q8⟩:=k1.blk _ es qj;have hfr4:=k4 _ es (by simp) qj;exact ⟨b,arr,e1,fr,by rw [e];exact q1,q2,q3,q4,q5,q6,q7,fun m d hm=>(q8 m d hm).free (KE hfr4 d (mem_of_get? hm)) _ _⟩
      refine ⟨ι2,ok',VC,?_,hev⟩;refine k2.moved (m:=H.length - 1) (fun k hk1 hk2=>?_) hok.1;have e1:H.length - 1+k = n+(k - 1):=(by show H.length - 1+k = H.length+(k - 1);omega);have e2:k = k - 1+1:=(by omega);refine ⟨?_,?_,?_⟩
      ·rw [e1,qC,hn];simp at hk2;omega
      ·rw [e1];have:qo (hset H i ds' ++ L) ((hset H i ds').length+(k - 1)) = qo L (k - 1):=qcg;rw [hn] at this;rw [this]
       conv=>rhs;rw [e2]
       simp [qo]
      ·rw [e1];have qr:¬ n+(k - 1) = i:=(by omega);have qY:¬ n+(k - 1) < n:=(by omega);simp only [ι2,qr,qY,if_false];congr 1;omega
     ·cases h
    ·cases h
   ·cases h
  ·cases h
 ·cases h
theorem qcG (p:List Nat) (n:Nat) (l:List D):mv.mvL p n l = l.map (mv p n):=by
 induction l with
 | nil=>rfl
 | cons d l ih=>simp [mv.mvL,ih]
theorem qme (p:List Nat) (n:Nat) (d:D):zP (mv p n d) = zP d:=by cases d <;> rfl
theorem Rep.back {p:List Nat} {n:Nat} {ι1 ι2:qB} {H1 H2:qi} (hm:∀ a,a < H1.length→V8 p n a < H2.length∧(∀ ds2,qo H2 (V8 p n a) = some ds2→∃ ds,qo H1 a = some ds∧ds.length = ds2.length)∧ι2 (V8 p n a) = ι1 a) {d:D} {v:Value} (h:Rep ok w ι1 H1 d v):Rep ok w ι2 H2 (mv p n d) v:=by
 induction h with
 | bool b=>exact .bool b
 | int k n=>exact .int k n
 | str s=>exact .str s
 | nilp=>exact .nilp
 | nilf=>exact .nilf
 | nili=>exact .nili
 | raw v=>exact .raw v
 | agg hl hc h ih =>
  simp only [mv,qcG];refine .agg (by simpa using hl) (fun d hd=>?_) fun j d hj=>?_
  ·obtain ⟨d',zm,rfl⟩:=List.mem_map.1 hd;rw [qme];exact hc d' zm
  ·rw [XL,ZR] at hj;obtain ⟨d',zm,rfl⟩:=hj;exact ih j d' zm hm
 | tup hl h ih =>
  simp only [mv,qcG];refine .tup (by simpa using hl) fun j d hj=>?_;rw [XL,ZR] at hj;obtain ⟨d',zm,rfl⟩:=hj;exact ih j d' zm hm
 | fn hl h ih =>
  simp only [mv,qcG];refine .fn (by simpa using hl) fun j d hj=>?_;rw [XL,ZR] at hj;obtain ⟨d',zm,rfl⟩:=hj;exact ih j d' zm hm
 | iface h ih=>exact .iface (ih hm)
 | optr a hi h =>
  obtain ⟨m1,m2,m3⟩:=hm _ hi;refine .optr a m1 fun ds2 vS=>?_;obtain ⟨ds,r1,r2⟩:=m2 ds2 vS;obtain ⟨k1,k2⟩:=h ds r1;rw [r2] at k1 k2;rw [m3];exact ⟨k1,k2⟩
 | osl a hi h qO =>
  obtain ⟨m1,m2,m3⟩:=hm _ hi;refine .osl a m1 (fun ds2 vS=>?_) qO;obtain ⟨ds,r1,r2⟩:=m2 ds2 vS;obtain ⟨k1,k2⟩:=h ds r1;rw [r2] at k1 k2;rw [m3];exact ⟨k1,k2⟩
 | vptr a f ha hc hr h _=>exact .vptr a f ha hc hr h
 | vnil=>exact .vnil
 | vsl a f ha hc hr h qO _=>exact .vsl a f ha hc hr h qO
theorem qjR:∀ (p:List Nat) (T H:qi),(Jb H p T).length = H.length
 | [],_,_=>by simp [Jb]
 | _ :: _,[],_=>by simp [Jb]
 | i :: p,b :: T,H=>by rw [Jb,qjR p T,qcv]
theorem qgR {i:Nat}:∀ (p:List Nat) (T H:qi),i ∉ p→qo (Jb H p T) i = qo H i
 | [],_,_,_=>by simp [Jb]
 | _ :: _,[],_,_=>by simp [Jb]
 | a :: p,b :: T,H,h=>by
  rw [Jb,qgR p T _ fun hp=>h (vu _ hp)];unfold qo;rw [List.getElem?_set_ne fun ha=>h (by rw [ha];exact kA ..)]
theorem qgS {i:Nat}:∀ (p:List Nat) (T H:qi) (a:Nat),p.Nodup→i < H.length→p[a]? = some i→a < T.length→qo (Jb H p T) i = qo T a
 | [],_,_,_,_,_,h,_=>by simp at h
 | _ :: _,[],_,_,_,_,_,h=>by simp at h
 | c :: p,b :: T,H,0,hn,hi,h,_=>by
  simp only [ZV,qs] at h;subst h;rw [Jb,qgR p T _ (List.nodup_cons.1 hn).1];unfold qo;rw [List.getElem?_set_self hi];rfl
 | c :: p,b :: T,H,a+1,hn,hi,h,ha=>by
  rw [Jb,qgS p T _ a (List.nodup_cons.1 hn).2 (by rw [qcv];exact hi) (by simpa using h) (by simpa using ha)];simp [qo]
theorem qmn:∀ {p:List Nat} {a i k:Nat},p.Nodup→p[a]? = some i→Jh p i k = some (k+a)
 | [],_,_,_,_,h=>by simp at h
 | c :: p,0,i,k,_,h=>by
  simp only [ZV,qs] at h;simp [Jh,h]
 | c :: p,a+1,i,k,hn,h=>by
  have hm:i∈p:=qct (by simpa using h);have qr:c≠i:=fun he=>(List.nodup_cons.1 hn).1 (by rw [he];exact hm);rw [Jh,if_neg qr,qmn (List.nodup_cons.1 hn).2 (by simpa using h)];congr 1;omega
theorem qmo {p:List Nat} {i:Nat} (h:i ∉ p):Jh p i 0 = none:=by
 cases hx:Jh p i 0 with
 | none=>rfl
 | some a=>exact absurd (qct (qib hx).2) h
theorem qkG {p:List Nat}:∀ {l l':List D},qc9 p l = some l'→l'.length = l.length∧∀ {j:Nat} {d':D},l'[j]? = some d'→∃ d,l[j]? = some d∧qbQ p d = some d'
 | [],l',h=>by
  simp only [qc9,qs] at h;subst h;exact ⟨rfl,fun {j d'} hj=>by simp at hj⟩
 | d :: l,l',h=>by
  simp only [qc9] at h;split at h
  ·rename_i d1 l1 h1 h2;injection h with h;subst h;obtain ⟨g1,g2⟩:=qkG h2;refine ⟨by simp [g1],fun {j d'} hj=>?_⟩;cases j with
   | zero =>
    simp only [ZV,qs] at hj;subst hj;exact ⟨d,rfl,h1⟩
   | succ j=>simpa using g2 (j:=j) (d':=d') (by simpa using hj)
  ·cases h
theorem qzV {F:zk} (hF:JT X F) {f i:Nat} {args:List D} {p:List Nat} (hp0:p[0]? = some i) {r:D} {vs:List Value} (h:qcZ F f args H p = some (r,H')) (hs:Sim X ok w ι H) (hv:RepL ok w ι H args vs) :
  Goes X.P (callFunc f vs.toArray) w (Post X H.length ok w ι H r H'):=by
 unfold qcZ at h;split at h
 ·rename_i args' H0 hA hH;split at h
  ·rename_i hfree;rw [qR,decide_eq_true_eq] at hfree;obtain ⟨YP,hfr2⟩:=hfree;split at h
   ·rename_i r0 A T hc;split at h
    ·rename_i hT;injection h with h;injection h with h1 h2;subst h1;subst h2;obtain ⟨hl,hg⟩:=qhl hH;obtain ⟨kx,Vq⟩:=qkG hA;have hS:∀ {a j:Nat},p[a]? = some j→∃ ds ds2,qo H j = some ds∧Xp p ds = some ds2∧qo H0 a = some ds2:=fun h=>qhk hH h
     have hret:∀ {d d':D},qbQ p d = some d'→Xo 0 p [(0,d)] H = some ([(0,d')],H0):=fun {d d'} hd=>by
      unfold Xo;simp [YA,hd,hH,YP,JV]
     have hret0:Xo 0 p [] H = some ([],H0):=by
      unfold Xo;simp [YA,hH,YP,JV]
     obtain ⟨Kp,-,-⟩:=qhe (tmps:= #[]) hret0 hs (fun t d ht=>by simp [qf] at ht)
     let ι0:qB:=fun j=>ι (p.getD j 0)
     have hι0:∀ {a j:Nat},p[a]? = some j→ι0 a = ι j:=fun {a j} h=>by
      show ι (p.getD a 0) = ι j;rw [jR,h];rfl
     have YH:RepL ok w ι0 H0 args' vs:=by
      refine ⟨by rw [kx];exact hv.1,fun j d' hj=>?_⟩;obtain ⟨d,q1,q2⟩:=Vq hj;have h0:=hv.2 j d q1
      have he:EnvRep ok w ι H [(0,d)] #[vs.getD j undef]:=fun t c ht=>by
       simp only [qf] at ht;split at ht
       ·rename_i Qg;injection ht with ht;subst ht;subst Qg;exact ⟨by simp,h0⟩
       ·cases ht
      obtain ⟨-,he1,-⟩:=qhe (hret q2) hs he;exact (he1 0 d' (by simp [qf])).2
     refine (hF f _ _ _ _ ok w ι0 vs hc Kp YH).mono fun v w' hp=>?_;obtain ⟨ι',ok',k1,k2,k3,k4⟩:=hp;have hkT:p.length≤(some A :: T).length:=(by rw [← hl];exact k3.nle.2);have kc:0 < p.length:=(List.getElem?_eq_some_iff.1 hp0).1
     have za:∀ b,b < w.heap.size→(∀ a j s,p[a]? = some j→ι j≠some (b,s))→w'.heap[b]? = w.heap[b]?:=fun b hb zR=>k3.frame b hb fun a ds s ha hi=>by
      obtain ⟨j,_,q1,_⟩:=hg ha;exact zR a j s q1 (by rw [← hι0 q1];exact hi)
     have hown:∀ a es b s,qo (some A :: T) a = some es→ι' a = some (b,s)→b < w.heap.size→∃ c j s',p[c]? = some j∧ι j = some (b,s'):=fun a es b s hk hb qk=>by
      obtain ⟨c,es',s',hj,hi⟩:=k3.own a es b s hk hb qk;obtain ⟨j,_,q1,_⟩:=hg hj;exact ⟨c,j,s',q1,by rw [← hι0 q1];exact hi⟩
     have hokN:∀ b,ok' b→b < w.heap.size→ok b∨∃ c j s,p[c]? = some j∧ι j = some (b,s):=fun b hb qk=>by
      rcases k3.okN b hb qk with h | ⟨c,es,s,hk,hi⟩
      ·exact .inl h
      ·obtain ⟨j,_,q1,_⟩:=hg hk;exact .inr ⟨c,j,s,q1,by rw [← hι0 q1];exact hi⟩
     have hpn:∀ {a j:Nat},p[a]? = some j→j < H.length:=fun h=>by
      obtain ⟨ds,_,q,_⟩:=hS h;exact ZE q
     obtain ⟨B,hB⟩:∃ B:qi,B = some (mv.mvL p H.length A) :: T:=⟨_,rfl⟩;have hBl:B.length = (some A :: T).length:=by rw [hB];rfl
     have hBH:∀ a es,qo B a = some es→∃ es1,qo (some A :: T) a = some es1∧es1.length = es.length∧((a = 0∧es = mv.mvL p H.length es1)∨(es = es1∧es.all idFree = true)):=by
      intro a es ha;rw [hB] at ha;cases a with
      | zero =>
       simp only [qo,ZV,Ju,qs] at ha;subst ha;exact ⟨A,rfl,by simp [qcG],.inl ⟨rfl,rfl⟩⟩
      | succ a =>
       have VK:qo T a = some es:=(by simpa [qo] using ha);refine ⟨es,by simpa [qo] using ha,rfl,.inr ⟨rfl,?_⟩⟩;have qh:=ZE VK
       have hm:some es∈T:=by
        unfold qo at VK;rw [zg qh] at VK;rw [← show T[a] = some es by simpa using VK];exact vk qh
       simpa [qdb] using List.all_eq_true.1 hT _ hm
     let n:=H.length
     let k:=p.length
     let H2:qi:=Jb H p B ++ T.drop (k - 1)
     have hn:(Jb H p B).length = n:=qjR _ _ _
     let ι2:qB:=fun j=>match Jh p j 0 with
      | some a=>ι' a
      | none=>if j < n then ι j else ι' (j - n+k)
     have i2a:∀ {a j:Nat},p[a]? = some j→ι2 j = ι' a:=fun {a j} h=>by
      have:=qmn (k:=0) YP h;show (match Jh p j 0 with | some a=>ι' a | none=>_) = _;rw [this,vT]
     have i2b:∀ {j:Nat},j ∉ p→j < n→ι2 j = ι j:=fun {j} h hj=>by
      show (match Jh p j 0 with | some a=>ι' a | none=>if j < n then ι j else ι' (j - n+k)) = _;rw [qmo h];simp only;rw [if_pos hj]
     have i2c:∀ {j:Nat},n≤j→ι2 j = ι' (j - n+k):=fun {j} hj=>by
      have hnp:j ∉ p:=fun h=>by
       obtain ⟨a,ha⟩:=List.mem_iff_getElem?.1 h;have:=hpn ha;omega
      show (match Jh p j 0 with | some a=>ι' a | none=>if j < n then ι j else ι' (j - n+k)) = _;rw [qmo hnp];simp only;rw [if_neg (by omega)]
     have g3:∀ {j:Nat},n≤j→qo H2 j = qo (some A :: T) (j - n+k):=fun {j} hj=>by
      obtain ⟨m,rfl⟩:∃ m,j = n+m:=⟨j - n,by omega⟩;have e1:qo H2 ((Jb H p B).length+m) = qo (T.drop (k - 1)) m:=qcg;rw [hn] at e1;rw [e1];have e2:n+m - n+k = (k - 1+m)+1:=(by omega);rw [e2];simp [qo,QC]
     have hH:∀ j es,qo H2 j = some es→(∃ a,p[a]? = some j∧qo B a = some es∧ι2 j = ι' a)∨(j ∉ p∧j < n∧qo H j = some es∧ι2 j = ι j)∨(n≤j∧qo (some A :: T) (j - n+k) = some es∧ι2 j = ι' (j - n+k)):=by
      intro j es hj;by_cases JK:j < n
      ·rw [qcf (by rw [hn];exact JK)] at hj;by_cases hjp:j∈p
       ·obtain ⟨a,ha⟩:=List.mem_iff_getElem?.1 hjp
        have kx:a < B.length:=by
         have:=(List.getElem?_eq_some_iff.1 ha).1;omega
        rw [qgS p B H a YP JK ha kx] at hj;exact .inl ⟨a,ha,hj,i2a ha⟩
       ·rw [qgR p B H hjp] at hj;exact .inr (.inl ⟨hjp,JK,hj,i2b hjp JK⟩)
      ·have hjn':n≤j:=(by omega);rw [g3 hjn'] at hj;exact .inr (.inr ⟨hjn',hj,i2c hjn'⟩)
     have hev:Evol n ok w ι H ok' w' ι2 H2:=by
      refine ⟨k3.os,k3.tape,k3.output,k3.size,fun b hb zR=>za b hb fun a j s ha=>?_,k3.okU,fun b hb qk=>?_,⟨qz _,by rw [qC,hn];omega⟩,?_,?_⟩
      ·obtain ⟨ds,_,q,_⟩:=hS ha;exact zR j ds s q
      ·rcases hokN b hb qk with h | ⟨c,j,s,hc,hi⟩
       ·exact .inl h
       ·obtain ⟨ds,_,q,_⟩:=hS hc;exact .inr ⟨j,ds,s,q,hi⟩
      ·intro j JK es hj;rcases hH j es hj with ⟨a,ha,q,e⟩ | ⟨_,_,q,e⟩ | ⟨q,_,_⟩
       ·obtain ⟨es1,q1,q2,-⟩:=hBH a es q;obtain ⟨ds,ds2,d1,d2,d3⟩:=hS ha;obtain ⟨ds3,d4,hle,hi2⟩:=k3.heap a (by rw [hl];exact (List.getElem?_eq_some_iff.1 ha).1) es1 q1;rw [d3] at d4;injection d4 with d4;subst d4;have zl:=qfm d2;exact ⟨ds,d1,by omega,fun kZ=>by rw [e,hi2 (by omega)];exact hι0 ha⟩
       ·exact ⟨es,q,qz _,fun _=>e⟩
       ·omega
      ·intro j es b s hj hb qk;rcases hH j es hj with ⟨a,ha,q,e⟩ | ⟨_,_,q,e⟩ | ⟨q,hk,e⟩
       ·rw [e] at hb;obtain ⟨es1,q1,-⟩:=hBH a es q;obtain ⟨c,j',s',hc,hi⟩:=hown a es1 b s q1 hb qk;obtain ⟨ds,_,d1,_⟩:=hS hc;exact ⟨j',ds,s',d1,hi⟩
       ·rw [e] at hb;exact ⟨j,es,s,q,hb⟩
       ·rw [e] at hb;obtain ⟨c,j',s',hc,hi⟩:=hown _ es b s hk hb qk;obtain ⟨ds,_,d1,_⟩:=hS hc;exact ⟨j',ds,s',d1,hi⟩
     have hsep:∀ j es b s,j ∉ p→qo H j = some es→ι j = some (b,s)→b < w.heap.size∧∀ a j' s',p[a]? = some j'→ι j'≠some (b,s'):=fun j es b s hjp hj hb=>⟨hs.lt hj hb,fun a j' s' ha hi=>by
      obtain ⟨ds,_,d1,_⟩:=hS ha;have:=hs.inj j j' es ds b s s' hj d1 hb hi;exact hjp (by rw [this];exact qct ha)⟩
     have hback:∀ {d:D} {v:Value},Rep ok' w' ι' (some A :: T) d v→Rep ok' w' ι2 H2 (mv p n d) v:=fun h=>by
      refine h.back fun a ha=>?_;cases hpa:p[a]? with
      | some j =>
       have e1:V8 p n a = j:=(by unfold V8;rw [hpa]);rw [e1];have hj:=hpn hpa;refine ⟨by rw [qC,hn];omega,fun ds2 vS=>?_,i2a hpa⟩;rw [qcf (by rw [hn];exact hj),qgS p B H a YP hj hpa (by rw [hBl];exact ha)] at vS;obtain ⟨es1,q1,q2,-⟩:=hBH a ds2 vS;exact ⟨es1,q1,q2⟩
      | none =>
       have hak:k≤a:=List.getElem?_eq_none_iff.1 hpa;have e1:V8 p n a = n+(a - k):=(by unfold V8;rw [hpa]);have e2:n+(a - k) - n+k = a:=(by omega);rw [e1];refine ⟨?_,fun ds2 vS=>?_,?_⟩
       ·rw [qC,hn,jQ];simp only [qH] at ha hkT;omega
       ·rw [g3 (by omega),e2] at vS;exact ⟨ds2,vS,rfl⟩
       ·rw [i2c (by omega),e2]
     have VC:Sim X ok' w' ι2 H2:=by
      refine ⟨k1.okS,k1.glob,?_,?_⟩
      ·intro a c es es' b s s' ha hc hb zn
       have cross:∀ {j es b s a es' s'},j ∉ p→qo H j = some es→ι j = some (b,s)→qo (some A :: T) a = some es'→ι' a = some (b,s')→False:=by
        intro j es b s a es' s' hjp hj hb hk zn;obtain ⟨q1,q2⟩:=hsep j es b s hjp hj hb;obtain ⟨c,j',s2,hc,hi⟩:=hown a es' b s' hk zn q1;exact q2 c j' s2 hc hi
       have old:∀ j es,((∃ a,p[a]? = some j∧qo B a = some es∧ι2 j = ι' a)∨(n≤j∧qo (some A :: T) (j - n+k) = some es∧ι2 j = ι' (j - n+k)))→∃ a es1,qo (some A :: T) a = some es1∧ι2 j = ι' a∧V8 p n a = j:=by
        rintro j es (⟨a,q1,q2,q3⟩ | ⟨q1,q2,q3⟩)
        ·obtain ⟨es1,q4,-⟩:=hBH a es q2;exact ⟨a,es1,q4,q3,by unfold V8;rw [q1]⟩
        ·refine ⟨_,es,q2,q3,?_⟩;unfold V8;rw [List.getElem?_eq_none_iff.2 (show p.length≤j - n+k by omega)];show n+(j - n+k - k) = j;omega
       have split2:∀ j es,qo H2 j = some es→(∃ a es1,qo (some A :: T) a = some es1∧ι2 j = ι' a∧V8 p n a = j)∨(j ∉ p∧qo H j = some es∧ι2 j = ι j):=fun j es hj=>by
        rcases hH j es hj with h | ⟨h1,_,h2,h3⟩ | h
        ·exact .inl (old j es (.inl h))
        ·exact .inr ⟨h1,h2,h3⟩
        ·exact .inl (old j es (.inr h))
       rcases split2 a es ha with ⟨a1,e1,qa,ea,ma⟩ | ⟨a1,qa,ea⟩ <;> rcases split2 c es' hc with ⟨c1,e2,qc,ec,mc⟩ | ⟨c1,qc,ec⟩ <;> rw [ea] at hb <;> rw [ec] at zn
       ·have:=k1.inj a1 c1 _ _ b s s' qa qc hb zn;rw [← ma,← mc,this]
       ·exact (cross c1 qc zn qa hb).elim
       ·exact (cross a1 qa hb qc zn).elim
       ·exact hs.inj a c es es' b s s' qa qc hb zn
      ·intro j es hj;rcases hH j es hj with ⟨a,ha,q,e⟩ | ⟨j1,j2,qj,e⟩ | ⟨j1,qj,e⟩
       ·obtain ⟨es1,q1,q2,q3⟩:=hBH a es q;obtain ⟨b,arr,ty,fr,u1,u2,u3,u4,u5,u6,u7,u8⟩:=k1.blk a es1 q1;refine ⟨b,arr,ty,fr,by rw [e];exact u1,u2,u3,by omega,u5,u6,?_,?_⟩
        ·rcases q3 with ⟨-,rfl⟩ | ⟨rfl,-⟩
         ·intro d hd;rw [qcG] at hd;obtain ⟨d',zm,rfl⟩:=List.mem_map.1 hd;rw [qme];exact u7 d' zm
         ·exact u7
        ·rcases q3 with ⟨-,rfl⟩ | ⟨rfl,hf⟩
         ·intro m d hm;rw [qcG,XL,ZR] at hm;obtain ⟨d',zm,rfl⟩:=hm;exact hback (u8 m d' zm)
         ·exact fun m d hm=>(u8 m d hm).free (KE hf d (mem_of_get? hm)) _ _
       ·obtain ⟨b,arr,e1,fr,q1,q2,q3,q4,q5,q6,q7,q8⟩:=hs.blk j es qj;obtain ⟨p1,p2⟩:=hsep j es b _ j1 qj q1;refine ⟨b,arr,e1,fr,by rw [e];exact q1,fun hb=>?_,by rw [za b p1 p2];exact q3,q4,q5,q6,q7,fun m d hm=>(q8 m d hm).evol hs hev (q8 m d hm).closed⟩;rcases hokN b hb p1 with h | ⟨c,j',s,hc,hi⟩
        ·exact q2 h
        ·exact p2 c j' s hc hi
       ·obtain ⟨b,arr,e1,fr,q1,q2,q3,q4,q5,q6,q7,q8⟩:=k1.blk _ es qj;have hf:es.all idFree = true:=k4 _ es (by rw [hl];show k≤_;omega) qj;exact ⟨b,arr,e1,fr,by rw [e];exact q1,q2,q3,q4,q5,q6,q7,fun m d hm=>(q8 m d hm).free (KE hf d (mem_of_get? hm)) _ _⟩
     rw [← hB];exact ⟨ι2,ok',VC,hback k2,hev⟩
    ·cases h
   ·cases h
  ·cases h
 ·cases h
theorem qzW {F:zk} (hF:JT X F) {f:Nat} {args:List D} {r:D} {vs:List Value} (h:Yv F f args H = some (r,H')) (hs:Sim X ok w ι H) (hv:RepL ok w ι H args vs) :
  Goes X.P (callFunc f vs.toArray) w (Post X H.length ok w ι H r H'):=by
 unfold Yv at h;split at h
 ·cases h
 ·exact qzV hF rfl h hs hv
theorem q0c {F:zk} (hF:JT X F) {f:Nat} {args:List D} {r:D} {vs:List Value} (h:Yw X F f args H = some (r,H')) (hs:Sim X ok w ι H) (hv:RepL ok w ι H args vs) :
  Goes X.P (callFunc f vs.toArray) w (Post X H.length ok w ι H r H'):=by
 unfold Yw at h;split at h
 ·exact qzW hF h hs hv
 ·exact qzZ hF h hs hv
theorem qiP {F:zk} (hF:JT X F) {f:Nat} {args:List D} {r:D} {vs:List Value} (h:KB X F f args H = some (r,H')) (hs:Sim X ok w ι H) (hv:RepL ok w ι H args vs) :
  Goes X.P (callFunc f vs.toArray) w (Post X H.length ok w ι H r H'):=by
 unfold KB at h;split at h
 ·split at h
  ·exact q0c hF h hs hv
  refine (hF f args H r H' ok w ι vs h hs hv).mono fun v w' hp=>?_;obtain ⟨ι',ok',h1,h2,h3,_⟩:=hp;exact ⟨ι',ok',h1,h2,h3⟩
 ·split at h
  ·rename_i hfree;split at h
   ·cases h
   ·rename_i r0 L hc;injection h with h;injection h with h1 h2;subst h1;subst h2;refine (hF f args [] r0 L ok w ze vs hc (qql hs) ⟨hv.1,fun j d hj=>(hv.2 j d hj).free (KE hfree d (mem_of_get? hj)) _ _⟩).mono fun v w' hp=>?_;obtain ⟨ι1,ok1,k1,k2,k3,k4⟩:=hp;have za:∀ b,b < w.heap.size→w'.heap[b]? = w.heap[b]?:=fun b hb=>k3.frame b hb (fun i ds s hd=>by simp [qo] at hd)
    obtain ⟨j1,j2⟩:=qor (L:=L) (ι1:=ι1) (ok2:=ok1) hs ⟨k3.os,k3.tape,k3.output⟩ k3.size za k3.okU (fun b hb qh=>(k3.okN b hb qh).resolve_right fun ⟨i,ds,s,hd,_⟩=>by simp [qo] at hd) k1.okS k1.inj (fun i ds hd=>by
     obtain ⟨b,arr,e,fr,q1,q2,q3,q4,q5,q6,q7,q8⟩:=k1.blk i ds hd;refine ⟨b,arr,e,fr,q1,?_,q2,q3,q4,q5,q6,q7,fun j d hj=>(q8 j d hj).free (KE (k4 i ds (jg _) hd) d (mem_of_get? hj)) _ _⟩;rcases ZS b w.heap.size with qh | hge
     ·obtain ⟨j,es,s',hj,_⟩:=k3.own i ds b _ hd q1 qh;simp [qo] at hj
     ·exact hge)
    exact ⟨_,ok1,j1,k2.shift ι H,j2⟩
  ·split at h
   ·cases h
   ·rename_i args' kw;split at h
    ·cases h
    ·rename_i r0 L hc;split at h
     ·rename_i hvf;rw [qR] at hvf;injection h with h;injection h with h1 h2;subst h1;subst h2;obtain ⟨l1,l2⟩:=freeze_rep.freezeL_rep hs args (vs:=fun j=>vs.getD j undef) hv.2 kw;refine (hF f args' [] r0 L (qfu ok ι H) w ze vs hc (qqm hs) ⟨by rw [hv.1,l1],l2⟩).mono fun v w' hp=>?_;obtain ⟨ι1,ok1,k1,k2,k3,k4⟩:=hp;have za:∀ b,b < w.heap.size→w'.heap[b]? = w.heap[b]?:=fun b hb=>k3.frame b hb (fun i ds s hd=>by simp [qo] at hd)
      obtain ⟨j1,j2⟩:=qor (L:=L) (ι1:=ι1) (ok2:=ok) hs ⟨k3.os,k3.tape,k3.output⟩ k3.size za (fun _ h=>h) (fun _ h _=>h) (fun b hb=>jM (hs.okS b hb) k3.size) k1.inj (fun i ds hd=>by
       obtain ⟨b,arr,e,fr,q1,q2,q3,q4,q5,q6,q7,q8⟩:=k1.blk i ds hd
       have hge:w.heap.size≤b:=by
        rcases ZS b w.heap.size with qh | hge
        ·obtain ⟨j,es,s',hj,_⟩:=k3.own i ds b _ hd q1 qh;simp [qo] at hj
        ·exact hge
       refine ⟨b,arr,e,fr,q1,hge,fun hb=>by have:=hs.okS b hb;omega,q3,q4,q5,q6,q7,fun j d hj=>?_⟩
       have hdv:vFree d = true:=by
        have hl:=ZE hd
        have JJ:some ds∈L:=by
         unfold qo at hd;rw [zg hl] at hd;simp only [Ju] at hd;rw [← hd];exact vk hl
        have:=List.all_eq_true.1 hvf.2 _ JJ;simp only [qiR] at this;exact List.all_eq_true.1 this d (mem_of_get? hj)
       exact ((q8 j d hj).free (KE (k4 i ds (jg _) hd) d (mem_of_get? hj)) _ _).vfree hdv ok)
      exact ⟨_,ok,j1,(k2.vfree hvf.1 ok).shift ι H,j2⟩
     ·cases h
mutual
theorem qeY (n:Nat):∀ (d:D),idFree d = true→shift n d = d
 | .agg cs,h=>by simp only [idFree] at h;simp only [shift,qdr n cs h]
 | .tup cs,h=>by simp only [idFree] at h;simp only [shift,qdr n cs h]
 | .fn f cs,h=>by simp only [idFree] at h;simp only [shift,qdr n cs h]
 | .iface t d,h=>by simp only [idFree] at h;simp only [shift,qeY n d h]
 | .optr ..,h=>by simp [idFree] at h
 | .osl ..,h=>by simp [idFree] at h
 | .bool _,_=>rfl
 | .int _ _,_=>rfl
 | .str _,_=>rfl
 | .nilp,_=>rfl
 | .nilf,_=>rfl
 | .nili,_=>rfl
 | .raw _,_=>rfl
 | .vptr _,_=>rfl
 | .vsl ..,_=>rfl
theorem qdr (n:Nat):∀ (cs:List D),idFree.idFreeL cs = true→shift.shiftL n cs = cs
 | [],_=>rfl
 | d :: l,h=>by
  simp only [idFree.idFreeL,qR] at h;simp only [shift.shiftL,qeY n d h.1,qdr n l h.2]
end
theorem qez {F:zk} {f:Nat} {args:List D} {r:D × qi} (hp:(X.pureF f && !X.byRef f) = true) (h:QV X F f args H = some r):r.2 = H∧idFree r.1 = true ∧
  ((args.all idFree = true∧F f args [] = some (r.1,[])) ∨
   (¬ args.all idFree = true∧X.perm f = true∧args.all (Yr H) = true∧vFree r.1 = true∧∃ args',qal H args = some args'∧F f args' [] = some (r.1,[]))):=by
 unfold QV at h;rw [if_pos hp] at h;split at h
 ·rename_i ha;split at h
  ·rename_i r0 hc;split at h
   ·rename_i hi;injection h with h;subst h;exact ⟨rfl,hi,.inl ⟨ha,hc⟩⟩
   ·cases h
  ·cases h
 ·rename_i ha;split at h
  ·rename_i hpf;rw [qR] at hpf;split at h
   ·rename_i args' kw;split at h
    ·rename_i r0 hc;split at h
     ·rename_i hi;rw [qR] at hi;injection h with h;subst h;exact ⟨rfl,hi.1,.inr ⟨ha,hpf.1,hpf.2,hi.2,args',kw,hc⟩⟩
     ·cases h
    ·cases h
   ·cases h
  ·cases h
theorem qgp {F:zk} {f:Nat} {args:List D} {r:D × qi} (h:QV X F f args H = some r):KB X F f args H = some r:=by
 by_cases hp:(X.pureF f && !X.byRef f) = true
 ·obtain ⟨h4,h3,h1⟩:=qez hp h
  have hb:¬ X.byRef f = true:=by
   rw [qR] at hp;simpa using hp.2
  obtain ⟨r,H'⟩:=r;simp only at h3 h4 h1;subst h4;unfold KB;rcases h1 with ⟨h1,h2⟩ | ⟨h1,_,_,hv,args',kw,h2⟩
  ·rw [if_neg hb,if_pos h1,h2];simp only [qeY _ _ h3,Z2]
  ·rw [if_neg hb,if_neg h1,kw];simp only [h2,hv,List.all_nil,Bool.and_self,if_true,qeY _ _ h3,Z2]
 ·unfold QV at h
  rwa [if_neg hp] at h
theorem qqj {i:Nat} {ds ds':List D} (hs:Sim X ok w ι H) (hd:qo H i = some ds) (hl:ds.length = ds'.length) (hr:∀ b arr e fr,ι i = some (b,arr.size)→w.heap[b]? = some (.cells arr e fr)→∀ (j:Nat) d,ds'[j]? = some d→Rep ok w ze [] d (arr.getD j undef)) :
  Sim X ok w ι (hset H i ds')∧Evol H.length ok w ι H ok w ι (hset H i ds'):=by
 have qh:i < H.length:=ZE hd
 have hg:∀ j es,qo (hset H i ds') j = some es→(j = i∧es = ds')∨(j≠i∧qo H j = some es):=by
  intro j es hj;by_cases Q9:j = i
  ·subst Q9;simp only [qo,hset] at hj;rw [List.getElem?_set_self qh] at hj;exact .inl ⟨rfl,by simpa using hj.symm⟩
  ·refine .inr ⟨Q9,?_⟩;simp only [qo,hset] at hj ⊢
   rwa [List.getElem?_set_ne (Ne.symm Q9)] at hj
 have YX:∀ j es,qo (hset H i ds') j = some es→∃ es0,qo H j = some es0:=by
  intro j es hj;rcases hg j es hj with ⟨rfl,_⟩ | ⟨_,h⟩
  ·exact ⟨ds,hd⟩
  ·exact ⟨es,h⟩
 have hev:Evol H.length ok w ι H ok w ι (hset H i ds'):=by
  refine ⟨rfl,rfl,rfl,qz _,fun _ _ _=>rfl,fun _ h=>h,fun b h _=>.inl h,⟨qz _,by simp [hset]⟩,?_,?_⟩
  ·intro j _ es hj;rcases hg j es hj with ⟨rfl,rfl⟩ | ⟨_,h⟩
   ·exact ⟨ds,hd,by rw [hl];exact qz _,fun _=>rfl⟩
   ·exact ⟨es,h,qz _,fun _=>rfl⟩
  ·intro j es b s hj hb _;obtain ⟨es0,h0⟩:=YX j es hj;exact ⟨j,es0,s,h0,hb⟩
 refine ⟨⟨hs.okS,hs.glob,?_,?_⟩,hev⟩
 ·intro a c es es' b s s' ha hc hb zn;obtain ⟨e1,h1⟩:=YX a es ha;obtain ⟨e2,h2⟩:=YX c es' hc;exact hs.inj a c e1 e2 b s s' h1 h2 hb zn
 ·intro j es hj;rcases hg j es hj with ⟨rfl,rfl⟩ | ⟨_,h⟩
  ·obtain ⟨b,arr,e,fr,k1,k2,k3,k4,k5,k6,k7,k8⟩:=hs.blk j ds hd;have hrr:=hr b arr e fr k1 k3;refine ⟨b,arr,e,fr,k1,k2,k3,by rw [← hl];exact k4,k5,k6,fun d hm=>?_,fun m d hm=>(hrr m d hm).lift⟩;obtain ⟨m,zX,zx⟩:=List.mem_iff_getElem.1 hm;have Jm:es[m]? = some d:=(by rw [zg zX,zx]);exact qfE (hrr m d Jm) (k6 m (by omega))
  ·obtain ⟨b,arr,e,fr,k1,k2,k3,k4,k5,k6,k7,k8⟩:=hs.blk j es h;exact ⟨b,arr,e,fr,k1,k2,k3,k4,k5,k6,k7,fun m d hm=>(k8 m d hm).evol hs hev (k8 m d hm).closed⟩
theorem qoi:Evol H.length ok w ι H ok w ι H :=
 ⟨rfl,rfl,rfl,qz _,fun _ _ _=>rfl,fun _ h=>h,fun _ h _=>.inl h,⟨qz _,qz _⟩,fun _ _ ds hd=>⟨ds,hd,qz _,fun _=>rfl⟩,fun i ds _ s hd hi _=>⟨i,ds,s,hd,hi⟩⟩
theorem qjF {i:Nat} (h:qc5 H i = some H') (hs:Sim X ok w ι H):∃ ok',Sim X ok' w ι H'∧Evol H.length ok w ι H ok' w ι H'∧H'.length = H.length:=by
 unfold qc5 at h;split at h
 ·rename_i ds hd;split at h
  ·injection h with h;subst h;exact ⟨ok,hs,qoi,rfl⟩
  split at h
  ·rename_i ds' l hsl;split at h
   ·cases h
   ·rename_i YS;injection h with h;subst h
    have Yn:qo (Vw H l) i = some ds:=by
     have:∀ (l:List Nat) (H:qi),qo H i = some ds→i ∉ l→qo (Vw H l) i = some ds:=by
      intro l
      induction l with
      | nil=>intro H h _;exact h
      | cons a l ih =>
       intro H h hn;simp only [qa1,not_or] at hn;refine ih _ ?_ hn.2;unfold qo at h ⊢
       rwa [List.getElem?_set_ne (Ne.symm hn.1)]
     exact this l H hd YS
    have hsc:=qgl hs l
    have hst2:∀ b arr e fr,ι i = some (b,arr.size)→w.heap[b]? = some (.cells arr e fr)→ds.length = ds'.length∧∀ (j:Nat) d,ds'[j]? = some d→Rep (Xt ok ι H l) w ze [] d (arr.getD j undef):=by
     intro b arr e fr q1 q2;obtain ⟨b',arr',e',fr',k1,k2,k3,k4,k5,k6,k7,k8⟩:=hs.blk i ds hd;rw [q1] at k1;injection k1 with k1;injection k1 with k1a k1b;subst k1a;rw [q2] at k3;injection k3 with k3;injection k3 with k3a k3b k3c;subst k3a
     exact qa6 (cond:=fun i=>∀ ds b s,qo H i = some ds→ι i = some (b,s)→Xt ok ι H l b) (fun d d' l' v hr hd hc=>qdo hs (okF:=Xt ok ι H l) (fun b hb=>.inl hb) 9 d d' l' v hr hd hc) ds (vs:=fun j=>arr.getD j undef) k8 hsl
      (fun i hi ds b s hd hb=>.inr ⟨i,ds,s,hi,hd,hb⟩)
    obtain ⟨b,arr,e,fr,k1,k2,k3,-⟩:=hs.blk i ds hd;obtain ⟨s1,s2⟩:=qqj hsc Yn (hst2 b arr e fr k1 k3).1 (fun b arr e fr q1 q2=>(hst2 b arr e fr q1 q2).2);have zl:(hset (Vw H l) i ds').length = H.length:=(by rw [hset,qcv,qcH]);rw [qcH] at s2;exact ⟨Xt ok ι H l,s1,(qcX (ok:=ok) (w:=w) (ι:=ι) (H:=H) l).trans s2,zl⟩
  ·cases h
 ·cases h
theorem qgK {e:qp}:∀ {ss:List Nat} {H H':qi} {ok:Nat→Prop},qa7 e ss H = some H'→Sim X ok w ι H→∃ ok',Sim X ok' w ι H'∧Evol H.length ok w ι H ok' w ι H'∧H'.length = H.length
 | [],H,H',ok,h,hs=>by
  injection h with h;subst h;exact ⟨ok,hs,qoi,rfl⟩
 | s :: ss,H,H',ok,h,hs=>by
  have go:∀ {i:Nat},(match qc5 H i with
   | some H'=>qa7 e ss H'
   | none=>none) = some H'→∃ ok',Sim X ok' w ι H'∧Evol H.length ok w ι H ok' w ι H'∧H'.length = H.length:=by
   intro i h;split at h
   ·rename_i H1 h1;obtain ⟨ok1,k1,k2,k3⟩:=qjF h1 hs;obtain ⟨ok2,j1,j2,j3⟩:=qgK h k1;rw [k3] at j2 j3;exact ⟨ok2,j1,k2.trans j2,j3⟩
   ·cases h
  unfold qa7 at h;split at h
  ·exact go h
  ·exact go h
  ·exact qgK h hs
theorem q0i {F:zk} (hF:JT X F) {f:Nat} {args:List D} {r:D} {vs:List Value} (h:KC X F f args H = some (r,H')) (hs:Sim X ok w ι H) (hv:RepL ok w ι H args vs) :
  Goes X.P (callFunc f vs.toArray) w (Post X H.length ok w ι H r H'):=by
 unfold KC at h;split at h
 ·exact qiP hF (qgp h) hs hv
 ·split at h
  ·rename_i H1 hst;unfold qgL at hst;split at hst
   ·obtain ⟨ok1,s1,hev,zl⟩:=qjF hst hs;refine (qiP hF (qgp h) s1 ⟨hv.1,fun j d hj=>(hv.2 j d hj).evol hs hev (hv.2 j d hj).closed⟩).mono ?_;rintro v w' ⟨ι',ok',h1,h2,h3⟩;rw [zl] at h3;exact ⟨ι',ok',h1,h2,hev.trans h3⟩
   ·cases hst
  ·cases h
theorem q0f {F:zk} (hF:JT X F) {f:Nat} {args:List D} {r:D} {vs:List Value} (h:JP X F f args H = some (r,H')) (hs:Sim X ok w ι H) (hv:RepL ok w ι H args vs) :
  Goes X.P (callFunc f vs.toArray) w (Post X H.length ok w ι H r H'):=by
 unfold JP at h;split at h
 ·exact q0i hF h hs hv
 ·split at h
  ·rename_i args' l hst
   obtain ⟨s1,s2⟩:=qa6 (cond:=fun i=>∀ ds b s,qo H i = some ds→ι i = some (b,s)→Xt ok ι H l b) (fun d d' l' v hr hd hc=>qdo hs (okF:=Xt ok ι H l) (fun b hb=>.inl hb) 9 d d' l' v hr hd hc) args (vs:=fun j=>vs.getD j undef) hv.2 hst
    (fun i hi ds b s hd hb=>.inr ⟨i,ds,s,hi,hd,hb⟩)
   refine (qiP hF (qgp h) (qgl hs l) ⟨by rw [hv.1,s1],fun j d hj=>(s2 j d hj).lift⟩).mono ?_;rintro v w' ⟨ι',ok',h1,h2,h3⟩;rw [qcH] at h3;exact ⟨ι',ok',h1,h2,(qcX l).trans h3⟩
  ·cases h
theorem qgq {F:zk} {f:Nat} {args:List D} {H:qi} (hp:(X.perm f && !X.pureF f && !X.byRef f) = false) (hb:(X.perm f && X.byRef f) = false):JP X F f args H = QV X F f args H:=by
 unfold JP KC;rw [hp,hb]
theorem RepL.append {xs ys:List D} {vs us:List Value} (h1:RepL ok w ι H xs vs) (h2:RepL ok w ι H ys us):RepL ok w ι H (xs ++ ys) (vs ++ us):=by
 refine ⟨by simp [h1.1,h2.1],fun j d hj=>?_⟩;rw [jR];by_cases qh:j < xs.length
 ·rw [ZW qh] at hj;rw [ZW (by rw [h1.1];exact qh)];have:=h1.2 j d hj
  rwa [jR] at this
 ·rw [VU (by omega)] at hj;rw [VU (by rw [h1.1];omega),h1.1];have:=h2.2 _ d hj
  rwa [jR] at this
theorem qrM {ds:List D} {vs:Array Value} (hl:vs.size = ds.length) (h:∀ (j:Nat) d,ds[j]? = some d→Rep ok w ι H d (vs.getD j undef)):RepL ok w ι H ds vs.toList :=
 ⟨by simpa using hl,fun j d hj=>by
  have:=h j d hj;simpa [jm,jR] using this⟩
theorem J5 {d:D} {ds:List D} {vs:List Value} (h:RepL ok w ι H (d :: ds) vs):∃ v us,vs = v :: us∧Rep ok w ι H d v∧RepL ok w ι H ds us:=by
 cases vs with
 | nil=>have:=h.1;simp at this
 | cons v us=>exact ⟨v,us,rfl,h.2 0 d rfl,by have:=h.1;simpa using this,fun j x hj=>h.2 (j+1) x (by simpa using hj)⟩
theorem qbP {vs:List Value} (h:RepL ok w ι H [] vs):vs = []:=VV (by simpa using h.1)
theorem Q4 {α:Type} {x:Option α} {H H':qi} {d:α} (h:x.map (·,H) = some (d,H')):x = some d∧H = H':=by
 cases x with
 | none=>simp at h
 | some y=>simp only [jC,qs,qM] at h;exact ⟨by rw [h.1],h.2⟩
theorem qlA {mx:Bool} {args:List D} {d:D} {vs:List Value} (hv:RepL ok w ι H args vs) (h:qdP mx args = some d) {P:Program} {ts:Array TypeId} {t:TypeId} :
  ∃ v,((if mx then Builtin.max_ else Builtin.min_) ts t vs.toArray).run P w = .ok v w∧Rep ok w ι H d v:=by
 unfold qdP at h;split at h
 ·split at h
  ·rename_i k a k' b hk;subst hk;injection h with h;subst h;obtain ⟨v1,us,rfl,r1,h2⟩:=J5 hv;obtain ⟨v2,us,rfl,r2,h3⟩:=J5 h2;obtain rfl:=qbP h3;cases r1;cases r2;cases mx
   ·exact ⟨_,by simp [Builtin.min_,Builtin.min2],.int _ _⟩
   ·exact ⟨_,by simp [Builtin.max_,Builtin.max2],.int _ _⟩
  ·cases h
 ·cases h
theorem q0p {b:Builtin} {ts:Array TypeId} {t:TypeId} {cst:Array Bool} {args:List D} {d:D} {vs:List Value} (hs:Sim X ok w ι H) (hv:RepL ok w ι H args vs) (h:qb4 X b ts.toList args H = some (d,H')) :
  Goes X.P (builtin b ts t cst vs.toArray) w (Post X H.length ok w ι H d H'):=by
 unfold qb4 at h;split at h
 ·rename_i t0 tr x xr hts;cases hl:qdU X.P t0 x with
  | none=>simp [hl] at h
  | some r =>
   simp only [hl,jC,qs,qM] at h;obtain ⟨rfl,rfl⟩:=h;obtain ⟨v,us,rfl,r1,_⟩:=J5 hv;obtain ⟨rv,q1,q2⟩:=qub (P:=X.P) (ty:=t) (ts:=ts) (vs:=(v :: us).toArray) (by rw [← Array.getElem?_toList,hts];rfl) (by simp) r1 hl;exact Goes.value (by simp [builtin,q1]) (Post.same hs q2)
 ·rename_i t0 u tr s x xr hts;obtain ⟨v1,us,rfl,r1,h2⟩:=J5 hv;obtain ⟨v2,us,rfl,r2,h3⟩:=J5 h2;obtain ⟨rv,w1,q1,q2⟩:=q0J (P:=X.P) (ty:=t) hs r1 r2 h;refine Goes.value (w':=w1) (v:=rv) ?_ q2;have e1:ts[0]? = some t0:=by rw [← Array.getElem?_toList,hts];rfl
  have e2:ts[1]? = some u:=by rw [← Array.getElem?_toList,hts];rfl
  have e3:Builtin.append_ ts t (v1 :: v2 :: us).toArray = Builtin.append_ #[t0,u] t #[v1,v2]:=by
   simp only [Builtin.append_,e1,e2];rfl
  simp [builtin,e3,q1]
 ·rename_i t0 u tr s x xr hts;obtain ⟨v1,us,rfl,r1,h2⟩:=J5 hv;obtain ⟨v2,us,rfl,r2,h3⟩:=J5 h2;obtain ⟨rv,w1,q1,q2⟩:=qzq (P:=X.P) (ty:=t) hs r1 r2 h;refine Goes.value (w':=w1) (v:=rv) ?_ q2;have e1:ts[0]? = some t0:=by rw [← Array.getElem?_toList,hts];rfl
  have e3:Builtin.copy_ ts t (v1 :: v2 :: us).toArray = Builtin.copy_ #[t0,u] t #[v1,v2]:=by
   simp only [Builtin.copy_,e1];rfl
  simp [builtin,e3,q1]
 ·obtain ⟨hm,rfl⟩:=Q4 h;obtain ⟨v,q1,q2⟩:=qlA (P:=X.P) (ts:=ts) (t:=t) hv hm;simp only [vC,if_false] at q1;exact Goes.value (by simp [builtin,q1]) (Post.same hs q2)
 ·obtain ⟨hm,rfl⟩:=Q4 h;obtain ⟨v,q1,q2⟩:=qlA (P:=X.P) (ts:=ts) (t:=t) hv hm;simp only [if_true] at q1;exact Goes.value (by simp [builtin,q1]) (Post.same hs q2)
 ·cases h
theorem qoW {t:TypeId} {cs:List D} (hs:Sim X ok w ι H) (h:(VX X.P t).bind cellsOf = some cs):∃ v w',(Instr.alloc t true (.tuple #[])).run X.P w = .ok v w'∧Post X H.length ok w ι H (.optr H.length cs.length 0) (vw H cs) v w':=by
 cases hz:VX X.P t with
 | none=>simp [hz] at h
 | some z =>
  simp only [hz,Y1] at h;obtain ⟨zv,z1,z2⟩:=qdh hz;obtain ⟨c1,c2,c3⟩:=Yt (z2 ok w ι H) h
  obtain ⟨ι',n1,n2,n3⟩:=qcF (e:=t) (arr:=zv.cells) (ds:=cs) hs w ⟨rfl,rfl,rfl⟩ rfl (by omega)
   (fun j hj=>by
    have kG:cs[j]? = some (cs[j]'(by omega)):=zg (by omega);exact (c3 j _ kG).oneCell (c2 _ (mem_of_get? kG)))
   c2 c3
  refine ⟨.pointer (some ⟨w.heap.size,0,none⟩),w.alloc (.cells zv.cells t),by simp [Instr.alloc,z1,newVar,newRow],ι',ok,n1,?_,n2⟩;refine .optr _ (by rw [Vd];omega) fun ds hd=>?_;rw [Yk] at hd;injection hd with hd;subst hd;exact ⟨qz _,fun _=>⟨_,_,n3,rfl⟩⟩
theorem q0u {t:TypeId} {d:D} {v:Value} {cs:List D} (hs:Sim X ok w ι H) (hd:Rep ok w ι H d v) (h:cellsOf d = some cs):∃ v' w',(Instr.box t v).run X.P w = .ok v' w'∧Post X H.length ok w ι H (.optr H.length cs.length 0) (vw H cs) v' w':=by
 obtain ⟨c1,c2,c3⟩:=Yt hd h
 obtain ⟨ι',n1,n2,n3⟩:=qcF (e:=t) (arr:=v.cells) (ds:=cs) hs w ⟨rfl,rfl,rfl⟩ rfl (by omega)
  (fun j hj=>by
   have kG:cs[j]? = some (cs[j]'(by omega)):=zg (by omega);exact (c3 j _ kG).oneCell (c2 _ (mem_of_get? kG)))
  c2 c3
 refine ⟨.pointer (some ⟨w.heap.size,0,none⟩),w.alloc (.cells v.cells t),by simp [Instr.box,newVar,newRow],ι',ok,n1,?_,n2⟩;refine .optr _ (by rw [Vd];omega) fun ds hd=>?_;rw [Yk] at hd;injection hd with hd;subst hd;exact ⟨qz _,fun _=>⟨_,_,n3,rfl⟩⟩
theorem qfs (hs:Sim X ok w ι H) {e:qp} {a:Act} (he:EnvRep ok w ι H e a.tmps) {x:Operand} {d:D} (h:qN X e x = some d):∀ y,some d = some y→∃ v,(some x:Option Operand).map a.eval = some v∧Rep ok w ι H y v:=by
 intro y hy;injection hy with hy;subst hy;exact ⟨_,rfl,jF hs he h⟩
theorem qlq {F:zk} (hF:JT X F) {o:Oper} {e:qp} {a:Act} {d:D} (hs:Sim X ok w ι H) (he:EnvRep ok w ι H e a.tmps) (h:zi X F o.op e H = some (d,H')) :
  Goes X.P (execOp a.eval o) w (Post X H.length ok w ι H d H'):=by
 have pure_:∀ {v:Value} {d:D},Rep ok w ι H d v→∀ {s:Sem Next},s.run X.P w = .ok (.value v) w→Goes X.P s w (Post X H.length ok w ι H d H):=fun hr _ h=>Goes.value h (Post.same hs hr);unfold zi at h;split at h
 ·rename_i x ho;obtain ⟨h1,rfl⟩:=Q4 h;exact pure_ (jF hs he h1) (by simp [execOp,ho])
 ·rename_i x ho;obtain ⟨h1,rfl⟩:=Q4 h;exact pure_ (jF hs he h1) (by simp [execOp,ho])
 ·rename_i c x y ho;split at h
  ·rename_i t hc;obtain ⟨h1,rfl⟩:=Q4 h;have hb:=jF hs he hc;generalize Vo:a.eval c = cv at hb;cases hb;refine pure_ (v:=a.eval (if t then x else y)) (jF hs he h1) ?_;cases t <;> simp [execOp,ho,Vo,asBool]
  ·cases h
 ·rename_i t ho;split at h
  ·rename_i cs hz;injection h with h;injection h with h1 h2;subst h1;subst h2;obtain ⟨v,w1,q1,q2⟩:=qoW hs hz;exact Goes.value (by simp [execOp,ho,q1]) q2
  ·cases h
 ·rename_i t x ho;split at h
  ·rename_i cs hz;split at h
   ·injection h with h;injection h with h1 h2;subst h1;subst h2;cases hx:qN X e x with
    | none=>simp [hx] at hz
    | some dx =>
     simp only [hx,Y1] at hz;obtain ⟨v,w1,q1,q2⟩:=q0u (t:=t) hs (jF hs he hx) hz;exact Goes.value (by simp [execOp,ho,q1]) q2
   ·cases h
  ·cases h
 ·rename_i t parts ho;split at h
  ·rename_i ps Zf;obtain ⟨h1,rfl⟩:=Q4 h;obtain ⟨v,q1,q2⟩:=q0r (P:=X.P) (vps:=parts.map fun (i,x)=>(i,a.eval x)) (by simpa using qfp hs he Zf) h1;exact pure_ q2 (by simp [execOp,ho,q1])
  ·cases h
 ·rename_i t len parts ho;split at h
  ·rename_i ps Zf;obtain ⟨v,w1,q1,q2⟩:=q0s (P:=X.P) (vps:=parts.map fun (i,x)=>(i,a.eval x)) hs (by simpa using qfp hs he Zf) h;exact Goes.value (by simp [execOp,ho,q1]) q2
  ·cases h
 ·rename_i t p ho;split at h
  ·rename_i pd hp;obtain ⟨h1,rfl⟩:=Q4 h;obtain ⟨v,q1,q2⟩:=qlQ hs (jF hs he hp) h1;exact pure_ q2 (by simp [execOp,ho,q1])
  ·cases h
 ·rename_i t p x ho;split at h
  ·rename_i pd xd hp hx;cases hst:stD X.P H t pd xd with
   | none=>simp [hst] at h
   | some H1 =>
    simp only [hst,jC,qs,qM] at h;obtain ⟨rfl,rfl⟩:=h;obtain ⟨w1,ι',q1,q2,q3⟩:=qpN hs (jF hs he hp) (jF hs he hx) hst;exact Goes.skip (by simp [execOp,ho,q1]) ⟨ι',ok,q2,.tup rfl (by simp),q3⟩
  ·cases h
 ·rename_i x ho;split at h
  ·rename_i cs hx;injection h with h;injection h with h1 h2;subst h1;subst h2;have hb:=jF hs he hx;generalize Vo:a.eval x = cv at hb;refine pure_ hb ?_;cases hb;simp [execOp,ho,Vo]
  ·rename_i i st off hx;injection h with h;injection h with h1 h2;subst h1;subst h2;have hb:=jF hs he hx;generalize Vo:a.eval x = cv at hb;refine pure_ hb ?_;cases hb;simp [execOp,ho,Vo]
  ·rename_i f caps hx;injection h with h;injection h with h1 h2;subst h1;subst h2;have hb:=jF hs he hx;generalize Vo:a.eval x = cv at hb;refine pure_ hb ?_;cases hb;simp [execOp,ho,Vo]
  ·rename_i t d hx;injection h with h;injection h with h1 h2;subst h1;subst h2;have hb:=jF hs he hx;generalize Vo:a.eval x = cv at hb;refine pure_ hb ?_;cases hb;simp [execOp,ho,Vo]
  ·cases h
 ·rename_i op t x y yt ho;split at h
  ·rename_i p q hx hy;obtain ⟨h1,rfl⟩:=Q4 h;obtain ⟨v,q1,q2⟩:=q0y (P:=X.P) (x:=x) (y:=y) (jF hs he hx) (jF hs he hy) h1;have e:execOp a.eval o = (do let r ← (do eqGuard op t x y (a.eval x) (a.eval y);binOp op t (a.eval x) (a.eval y):Sem Value);pure (.value r)):=(by simp only [execOp,ho]);exact pure_ q2 (by rw [e,Sem.run_bind,q1];rfl)
  ·cases h
 ·rename_i op t x ho;split at h
  ·rename_i p hx;obtain ⟨h1,rfl⟩:=Q4 h;obtain ⟨v,q1,q2⟩:=qpo (P:=X.P) (jF hs he hx) h1;exact pure_ q2 (by simp [execOp,ho,q1])
  ·cases h
 ·rename_i s t x ho;split at h
  ·rename_i p hx;obtain ⟨v,w1,q1,q2⟩:=qnW (P:=X.P) hs (jF hs he hx) h;exact Goes.value (by simp [execOp,ho,q1]) q2
  ·cases h
 ·rename_i t x ho;split at h
  ·cases h
  ·rename_i p u hu hx hni;injection h with h;injection h with h1 h2;subst h1;subst h2;refine pure_ (.iface (jF hs he hx)) ?_;simp only [execOp,ho,Instr.makeInterface,Sem.run_bind,run_underlying hni,Result.andThen_ok];cases u <;> first | rfl | exact absurd rfl (hu _)
  ·cases h
 ·rename_i f first caps ho
  split at h
  ·rename_i hfe;cases hcs:vr X e caps.toList with
   | none=>simp [hcs] at h
   | some cs =>
    simp only [hcs,jC,qs,qM] at h;obtain ⟨rfl,rfl⟩:=h;obtain ⟨l1,l2⟩:=qft hs he hcs;have hf0:first = #[]:=by simpa using hfe
    subst hf0;refine pure_ (v:=.func (.func f) #[] (caps.map a.eval)) (.fn (by simpa using l1) fun j d hj=>?_) (by simp [execOp,ho,Instr.makeFunc]);have:=l2 j d hj;simpa [jm,jR] using this
  ·cases h
 ·rename_i t l c ho;split at h
  ·rename_i ld cd hl hc;obtain ⟨v,w1,q1,q2⟩:=qtN (P:=X.P) hs (jF hs he hl) (jF hs he hc) h;exact Goes.value (by simp [execOp,ho,q1]) q2
  ·cases h
 ·rename_i t x lo hi ho;split at h
  ·rename_i p hx kt XB;obtain ⟨h1,rfl⟩:=Q4 h;have e1:lo = none:=(by cases lo <;> simp_all);have e2:hi = none:=(by cases hi <;> simp_all);subst e1;subst e2;obtain ⟨v,q1,q2⟩:=qeU (P:=X.P) (lov:=none) (hiv:=none) hs (jF hs he hx) (fun _ h=>by cases h) (fun _=>rfl) (fun _ h=>by cases h) (fun _=>rfl) h1;exact pure_ q2 (by simp [execOp,ho,q1])
  ·rename_i p l hx kt XB;obtain ⟨h1,rfl⟩:=Q4 h;have e2:hi = none:=(by cases hi <;> simp_all);subst e2;cases lo with
   | none=>simp at kt
   | some lo =>
    simp only [jC,qs] at kt;obtain ⟨v,q1,q2⟩:=qeU (P:=X.P) (lov:=some (a.eval lo)) (hiv:=none) hs (jF hs he hx) (qfs hs he kt) (fun h=>by cases h) (fun _ h=>by cases h) (fun _=>rfl) h1;exact pure_ q2 (by simp [execOp,ho,q1])
  ·rename_i p l hx kt XB;obtain ⟨h1,rfl⟩:=Q4 h;have e1:lo = none:=(by cases lo <;> simp_all);subst e1;cases hi with
   | none=>simp at XB
   | some hi =>
    simp only [jC,qs] at XB;obtain ⟨v,q1,q2⟩:=qeU (P:=X.P) (lov:=none) (hiv:=some (a.eval hi)) hs (jF hs he hx) (fun _ h=>by cases h) (fun _=>rfl) (qfs hs he XB) (fun h=>by cases h) h1;exact pure_ q2 (by simp [execOp,ho,q1])
  ·rename_i p l l' hx kt XB;obtain ⟨h1,rfl⟩:=Q4 h;cases lo with
   | none=>simp at kt
   | some lo =>
    cases hi with
    | none=>simp at XB
    | some hi =>
     simp only [jC,qs] at kt XB;obtain ⟨v,q1,q2⟩:=qeU (P:=X.P) (lov:=some (a.eval lo)) (hiv:=some (a.eval hi)) hs (jF hs he hx) (qfs hs he kt) (fun h=>by cases h) (qfs hs he XB) (fun h=>by cases h) h1;exact pure_ q2 (by simp [execOp,ho,q1])
  ·cases h
 ·rename_i s x f ho;split at h
  ·rename_i p hx;obtain ⟨h1,rfl⟩:=Q4 h;obtain ⟨v,q1,q2⟩:=qy4 (P:=X.P) (jF hs he hx) h1;exact pure_ q2 (by simp [execOp,ho,q1])
  ·cases h
 ·rename_i s x f ho;split at h
  ·rename_i p hx;obtain ⟨h1,rfl⟩:=Q4 h;obtain ⟨v,q1,q2⟩:=qy3 (P:=X.P) (jF hs he hx) h1;exact pure_ q2 (by simp [execOp,ho,q1])
  ·cases h
 ·rename_i t x i ho;split at h
  ·rename_i p q hx hy;obtain ⟨h1,rfl⟩:=Q4 h;obtain ⟨v,q1,q2⟩:=qxv (P:=X.P) (jF hs he hx) (jF hs he hy) h1;exact pure_ q2 (by simp [execOp,ho,q1])
  ·cases h
 ·rename_i t x i ho;split at h
  ·rename_i p q hx hy;obtain ⟨h1,rfl⟩:=Q4 h;obtain ⟨v,q1,q2⟩:=qxt (P:=X.P) (jF hs he hx) (jF hs he hy) h1;exact pure_ q2 (by simp [execOp,ho,q1])
  ·cases h
 ·rename_i x i ho;split at h
  ·rename_i cs hx;obtain ⟨h1,rfl⟩:=Q4 h;have hb:=jF hs he hx;generalize Vo:a.eval x = cv at hb;cases hb with
   | @tup _ _ _ vs hl hh =>
    have qh:i < vs.size:=(by rw [hl];exact (List.getElem?_eq_some_iff.1 h1).1);have hr:=hh i d h1;rw [jm,Jy qh] at hr;exact pure_ (v:=vs[i]) hr (by simp [execOp,ho,Vo,Instr.extract,qh])
  ·cases h
 ·rename_i c ho;split at h
  ·rename_i b args hcal hargs;have hv:=qft hs he hargs;have:=q0p (t:=o.type) (cst:=c.args.map fun | .const _=>true | _=>false) hs hv h
   have e:execOp a.eval o = builtin b c.argTypes o.type (c.args.map fun | .const _=>true | _=>false) (c.args.toList.map a.eval).toArray:=by
    simp only [execOp,ho,resolve,hcal];simp only [pure_bind,invoke];congr 1;apply Array.ext';simp
   rw [e];exact this
  ·rename_i g args hcal hargs;split at h
   ·rename_i f caps hg;have hv:=qft hs he hargs;have hb:=jF hs he hg;generalize Vo:a.eval g = cv at hb;cases hb with
    | @fn _ _ _ _ vs hl hh =>
     have:=q0f hF h hs (RepL.append hv (qrM hl hh))
     have e:execOp a.eval o = callFunc f ((c.args.toList.map a.eval) ++ vs.toList).toArray:=by
      simp only [execOp,ho,resolve,hcal,Vo,Deferred.ofValue];simp only [pure_bind,invoke];congr 1;apply Array.ext';simp
     rw [e];exact this
   ·cases h
  ·cases h
 ·cases h
end
end Go.Ev
namespace Go.Ev
section
variable {X:Cx} {P:Program} {ok ok':Nat→Prop} {w w':World} {ι:qB} {H H':qi}
theorem qjC {ds:List D} {b len c:Nat} {arr:Array Value} {e:TypeId} {fr:Nat × Nat} (hs:Sim X ok w ι H) (hw:qaw w w') (zf:w.heap.size≤w'.heap.size) (za:∀ c,c < w.heap.size→w'.heap[c]? = w.heap[c]?)
  (hb:w'.heap[b]? = some (.cells arr e fr)) (hloc:w.heap.size≤b) (YZ:ds.length≤arr.size) (Jp:∀ d,d∈ds→zP d = true) (hfree:ds.all idFree = true) (qO:len≤c)
  (hrep:∀ (j:Nat) d,ds[j]? = some d→Rep ok w ι H d (arr.getD j undef)) :
  Post X H.length ok w ι H (.vsl false ds len) H (.slice (some ⟨b,0,none⟩) len c) w':=by
 have hblt:b < w'.heap.size:=(Array.getElem?_eq_some_iff.1 hb).1
 have hev:Evol H.length ok w ι H (fun x=>ok x∨x = b) w' ι H :=
  ⟨hw.1,hw.2.1,hw.2.2,zf,fun c hc _=>za c hc,fun _ h=>.inl h,fun x hx qh=>by
   rcases hx with hx | hx
   ·exact .inl hx
   ·omega,⟨qz _,qz _⟩,fun _ _ ds hd=>⟨ds,hd,qz _,fun _=>rfl⟩,fun i ds _ s hd hi _=>⟨i,ds,s,hd,hi⟩⟩
 have hsim:Sim X (fun x=>ok x∨x = b) w' ι H:=by
  refine ⟨fun x hx=>?_,fun g cs hg=>(((hs.glob g cs hg).lift (ι:=ι) (H:=H)).evol hs hev rfl).free rfl _ _,hs.inj,fun i es hd=>?_⟩
  ·rcases hx with hx | hx
   ·exact jM (hs.okS x hx) zf
   ·omega
  ·obtain ⟨b',arr',e',fr',q1,q2,q3,q4,q5,q6,q7,q8⟩:=hs.blk i es hd;have qh:=hs.lt hd q1;refine ⟨b',arr',e',fr',q1,fun h=>?_,by rw [za b' qh];exact q3,q4,q5,q6,q7,fun j d hj=>(q8 j d hj).evol hs hev (q8 j d hj).closed⟩;rcases h with h | h
   ·exact q2 h
   ·omega
 refine ⟨ι,_,hsim,.vsl _ (fun j=>arr.getD j undef) (fun _ _=>.inr rfl) Jp (fun j d hj=>?_) (fun j d hj=>?_) qO,hev⟩
 ·have qh:j < arr.size:=jM (List.getElem?_eq_some_iff.1 hj).1 YZ;rw [ZP,vT,cell_of_heap hb];simp [qh]
 ·exact ((hrep j d hj).evol hs hev (hrep j d hj).closed).free (KE hfree d (mem_of_get? hj)) _ _
theorem qtY {t:TypeId} {len:Nat} {parts:List (Nat × D)} {vps:Array (Nat × Value)} {i st o n k:Nat} {ds:List D} (hs:Sim X ok w ι H) (hp:qb8 ok w ι H parts vps.toList) (h:qat X.P [] t len parts = some (.osl i st o n k,[some ds])) :
  ∃ v w',(Instr.buildSlice t len vps).run X.P w = .ok v w'∧Post X H.length ok w ι H (.vsl false ds len) H v w':=by
 unfold qat at h;split at h
 ·rename_i e hu;split at h
  ·rename_i z hz;split at h
   ·rename_i hsmall;cases hf:KZ (fun i=>some (i * qt X.P e,qt X.P e)) z parts with
    | none=>simp [hf] at h
    | some cs =>
     simp only [hf,Y1] at h;split at h
     ·rename_i hcs0;have hcs:cs.all idFree = true∧cs.length = len * qt X.P e:=⟨hcs0.1.resolve_left (by simp),hcs0.2⟩;clear hcs0;simp only [vw,ZU,qs,qM,qbE,and_true] at h;obtain ⟨_,h2⟩:=h;subst h2;obtain ⟨zv,z1,z2,z3,z4,z5,z6,z7⟩:=qdi hz
      obtain ⟨zc,hzc1,hzc2,hzget⟩:∃ zc:Array Value,(len * qt X.P e = 0→zc = #[])∧(¬ len * qt X.P e = 0→zc = zv.cells) ∧
        ∀ j,j < len * qt X.P e→((Array.range (len * qt X.P e)).map (zc[· % zc.size]!)).getD j undef = zv.cells.getD (j % qt X.P e) undef:=by
       by_cases h0:len * qt X.P e = 0
       ·exact ⟨#[],fun _=>rfl,fun h=>absurd h0 h,fun j hj=>by omega⟩
       ·refine ⟨zv.cells,fun h=>absurd h h0,fun _=>rfl,fun j hj=>?_⟩;rw [qg3 (by omega) hj,z2]
      obtain ⟨arr,q1,q2,q3,q4,q5⟩:=qed (place:=fun i=>some (i * qt X.P e,qt X.P e)) (arr:=(Array.range (len * qt X.P e)).map (zc[· % zc.size]!)) hp (by simp [z4]) z5
       (fun j d hj=>by
        rw [hzget j (by have:=(List.getElem?_eq_some_iff.1 hj).1;omega)];exact z7 ok w ι H j d hj) hf
      refine ⟨.slice (some ⟨w.heap.size,0,none⟩) len len,w.alloc (.cells arr e),?_,qjC hs ⟨rfl,rfl,rfl⟩ (by simp) (fun c hc=>heap_alloc_old w _ hc) (heap_alloc_new w _) (qz _) (by omega) q3 hcs.1 (qz _) q4⟩;simp only [Instr.buildSlice,Sem.run_bind,run_underlying hu,Result.andThen_ok,QY z3];rw [if_neg (by simpa using hsmall)];by_cases h0:len * qt X.P e = 0
      ·rw [hzc1 h0] at q1;rw [if_pos h0];simp only [Sem.run_bind,Sem.run_pure,Result.andThen_ok,q1];simp [newRow]
      ·rw [hzc2 h0] at q1;rw [if_neg h0];simp only [Sem.run_bind,Sem.run_pure,Result.andThen_ok,z1,q1];simp [newRow]
     ·cases h
   ·cases h
  ·cases h
 ·cases h
theorem qtZ {src dst e:TypeId} {u:TypeDesc} {s:List UInt8} (hs:Sim X ok w ι H) (h1:X.P.underlying src = some u) (h2:X.P.underlying dst = some (.slice e)) (he:X.P.underlying e = some (.int .u8)) :
  ∃ v w',(convert src dst (.string ⟨s.toArray⟩)).run X.P w = .ok v w'∧Post X H.length ok w ι H (.vsl false (qd s) s.length) H v w':=by
 have zf:(⟨s.toArray⟩:ByteArray).size = s.length:=by simp [ByteArray.size]
 have hge:=grownCap_ge w s.length 0 e
 have ZG:(Lib.bytesCells w e ⟨s.toArray⟩).size = grownCap w s.length 0 e:=by
  unfold Lib.bytesCells;simp only [Array.size_append,Array.size_map,Array.size_replicate,zf];simp;omega
 have Yq:∀ j,j < s.length→(Lib.bytesCells w e ⟨s.toArray⟩).getD j undef = (Xv s).getD j undef:=by
  intro j hj;unfold Lib.bytesCells Xv;rw [jm,qg2 (by simpa using hj),jR];simp
 have hrun:=Lib.run_convert_string_bytes w src dst e ⟨s.toArray⟩ h1 h2 he;rw [zf] at hrun
 refine ⟨_,_,hrun,qjC (w':=Lib.bytesWorld w e ⟨s.toArray⟩) (b:=w.heap.size) (arr:=Lib.bytesCells w e ⟨s.toArray⟩) (ds:=qd s) hs
  (by
   refine ⟨?_,?_,?_⟩ <;> (unfold Lib.bytesWorld World.freeze;split <;> rfl))
  (by rw [Lib.bytesWorld_size];omega) (fun c hc=>Lib.bytesWorld_at_old w e _ c hc) (Lib.bytesWorld_at_new w e _) (qz _) (by rw [ZG];simpa [qd] using hge)
  (fun d hd=>by
   simp only [qd,List.mem_map] at hd;obtain ⟨_,_,rfl⟩:=hd;rfl)
  (by
   rw [Y3];intro d hd;simp only [qd,List.mem_map] at hd;obtain ⟨_,_,rfl⟩:=hd;rfl) hge
  (fun j d hj=>by
   have VI:j < s.length:=by
    have:=(List.getElem?_eq_some_iff.1 hj).1;simpa [qd] using this
   rw [Yq j VI];exact qh6 s j d hj)⟩
theorem qh4 {F:zk} (hF:JT X F) {drw:Bool} {o:Oper} {e:qp} {a:Act} {d:D} (hs:Sim X ok w ι H) (he:EnvRep ok w ι H e a.tmps) (h:qJ X F drw o.op e H = some (d,H')) :
  Goes X.P (execOp a.eval o) w (Post X H.length ok w ι H d H'):=by
 unfold qJ at h;split at h
 ·rename_i t len parts ho;split at h
  ·rename_i ps Zf;split at h
   ·rename_i ds hb;injection h with h;injection h with h1 h2;subst h1;subst h2;obtain ⟨v,w1,q1,q2⟩:=qtY (vps:=parts.map fun (i,x)=>(i,a.eval x)) hs (by simpa using qfp hs he Zf) hb;exact Goes.value (by simp [execOp,ho,q1]) q2
   ·cases h
  ·cases h
 ·rename_i s t x ho;split at h
  ·rename_i b u hx hu;split at h
   ·rename_i us YI hu8;injection h with h;injection h with h1 h2;subst h1;subst h2;have hb:=jF hs he hx;generalize Vo:a.eval x = cv at hb;cases hb;obtain ⟨v,w1,q1,q2⟩:=qtZ (s:=b) hs YI hu hu8;exact Goes.value (by simp [execOp,ho,Vo,q1]) q2
   ·cases h
  ·rename_i p _ hx;obtain ⟨v,w1,q1,q2⟩:=qnW (P:=X.P) hs (jF hs he (by assumption)) h;exact Goes.value (by simp [execOp,ho,q1]) q2
  ·cases h
 ·rename_i c ho
  have hh:zi X F (.call c) e H = some (d,H'):=by
   split at h
   ·cases h
   ·exact h
  rw [← ho] at hh;exact qlq hF hs he hh
 ·exact qlq hF hs he h
end
end Go.Ev
namespace Go.Ev
section
variable {X:Cx} {ok ok':Nat→Prop} {w w':World} {ι:qB} {H H':qi}
def qcS (S:Nat→Prop) (o:Oper):Prop:= ∀ e,e∈o.after.toList→Region.binds .any e = true→S e.on
theorem qiT {ops:Array Oper} {S:Nat→Prop} (j9:∀ (i:Nat) (o:Oper),ops[i]? = some o→S i→qcS S o) {j i:Nat} {o:Oper} (hj:ops[j]? = some o)
  (hready:qcS S o) (hb:((Region.before ops).getD j 0).testBit i = true):S i:=by
 have gen:∀ (l pre:List Oper) (acc:Array Nat),ops.toList = pre ++ l→acc.size = pre.length→(∀ j i,(acc.getD j 0).testBit i = true→∀ o,ops[j]? = some o→qcS S o→S i) →
   ∀ j i,((l.foldl (fun acc o=>acc.push (o.after.foldl (fun s e=>if Region.binds .any e then s ||| 2 ^ e.on ||| acc.getD e.on 0 else s) 0)) acc).getD j 0).testBit i = true→∀ o,ops[j]? = some o→qcS S o→S i:=by
  intro l
  induction l with
  | nil=>intro pre acc _ _ h;exact h
  | cons o l ih =>
   intro pre acc he zf hacc;simp only [List.foldl_cons];refine ih (pre ++ [o]) _ (by rw [he];simp) (by simp [zf]) ?_;intro j i hi o' ho' hed;by_cases qh:j < acc.size
   ·have:(acc.push (o.after.foldl (fun s e=>if Region.binds .any e then s ||| 2 ^ e.on ||| acc.getD e.on 0 else s) 0)).getD j 0 = acc.getD j 0:=by
     simp only [jm];rw [Array.getElem?_push,if_neg (by omega)]
    rw [this] at hi;exact hacc j i hi o' ho' hed
   ·by_cases hje:j = acc.size
    ·subst hje
     have:(acc.push (o.after.foldl (fun s e=>if Region.binds .any e then s ||| 2 ^ e.on ||| acc.getD e.on 0 else s) 0)).getD acc.size 0 = o.after.foldl (fun s e=>if Region.binds .any e then s ||| 2 ^ e.on ||| acc.getD e.on 0 else s) 0:=by
      simp only [jm];rw [Array.getElem?_push,if_pos rfl];rfl
     rw [this] at hi
     have hoo:o' = o:=by
      have h1:ops.toList[acc.size]? = some o:=(by rw [he,zf];simp);rw [Array.getElem?_toList,ho'] at h1;injection h1
     subst hoo;rw [← Array.foldl_toList] at hi
     have inner:∀ (es:List Edge) (s:Nat),(∀ e,e∈es→e∈o'.after.toList)→(∀ i,s.testBit i = true→S i) →
       ∀ i,(es.foldl (fun s e=>if Region.binds .any e then s ||| 2 ^ e.on ||| acc.getD e.on 0 else s) s).testBit i = true→S i:=by
      intro es
      induction es with
      | nil=>intro s _ hs i hi;exact hs i hi
      | cons e es ih2 =>
       intro s hes hs i hi;simp only [List.foldl_cons] at hi;refine ih2 _ (fun x hx=>hes x (vu _ hx)) ?_ i hi;intro i hi;split at hi
       ·rename_i jK;rw [Nat.testBit_or,Nat.testBit_or] at hi;simp only [qbG] at hi;have Jj:=hed e (hes e (kA ..)) jK;rcases hi with (hi | hi) | hi
        ·exact hs i hi
        ·rw [Nat.testBit_two_pow] at hi;have:e.on = i:=(by simpa using hi);rw [← this];exact Jj
        ·by_cases vE:e.on < acc.size
         ·have kt:e.on < ops.size:=by
           have:ops.toList.length = pre.length+(o' :: l).length:=(by rw [he];simp);simp at this;omega
          have ho:=Jy kt;exact hacc e.on i hi _ ho (j9 e.on _ ho Jj)
         ·simp only [jm,qc0 (show acc.size≤e.on by omega)] at hi;simp at hi
       ·exact hs i hi
     exact inner _ 0 (fun _ h=>h) (fun i hi=>by simp at hi) i hi
    ·simp only [jm] at hi;rw [qc0 (by simp;omega)] at hi;simp at hi
 have:=gen ops.toList [] #[] rfl rfl (fun j i hi=>by simp at hi) j i;unfold Region.before at hb;rw [← Array.foldl_toList] at hb;exact this hb o hj hready
def qav (X:Cx) (F:zk) (nt:Nat) (bw:Option Tmp→Bool) (ops:Array Oper) (o:Oper) (e:qp) (H:qi) (e1:qp) (H1:qi):Prop :=
 vo nt o.dst = true∧((jw ops e o.guard = some true∧∃ d,qJ X F (bw o.dst) o.op e H = some (d,H1)∧e1 = vg e o.dst d)∨(jw ops e o.guard = some false∧H1 = H∧e1 = vg e o.dst (.tup [])))
theorem qjz {F:zk} {nt:Nat} {drw:Bool} {ops:Array Oper}:∀ {l:List Oper} {e e':qp} {H H':qi},jx X F nt drw ops l e H = some (e',H') →
  ∃ (E:Nat→qp) (T:Nat→qi),E 0 = e∧T 0 = H∧E l.length = e'∧T l.length = H'∧∀ k o,l[k]? = some o→qav X F nt (fun _=>drw) ops o (E k) (T k) (E (k+1)) (T (k+1))
 | [],e,e',H,H',h=>by
  simp only [jx,qs,qM] at h;obtain ⟨rfl,rfl⟩:=h;exact ⟨fun _=>e,fun _=>H,rfl,rfl,rfl,rfl,fun k o hk=>by simp at hk⟩
 | o :: l,e,e',H,H',h=>by
  simp only [jx] at h
  have key:∀ e1 H1,qav X F nt (fun _=>drw) ops o e H e1 H1→jx X F nt drw ops l e1 H1 = some (e',H')→∃ (E:Nat→qp) (T:Nat→qi),E 0 = e∧T 0 = H∧E (o :: l).length = e'∧T (o :: l).length = H' ∧
    ∀ k x,(o :: l)[k]? = some x→qav X F nt (fun _=>drw) ops x (E k) (T k) (E (k+1)) (T (k+1)):=by
   intro e1 H1 hst hl;obtain ⟨E,T,k1,k2,k3,k4,k5⟩:=qjz hl;refine ⟨fun k=>match k with | 0=>e | k+1=>E k,fun k=>match k with | 0=>H | k+1=>T k,rfl,rfl,k3,k4,fun k x hx=>?_⟩;cases k with
   | zero =>
    simp only [ZV,qs] at hx;subst hx;simp only [k1,k2];exact hst
   | succ k=>exact k5 k x (by simpa using hx)
  split at h
  ·rename_i hd hg;split at h
   ·rename_i d H1 ho;exact key _ H1 ⟨hd,.inl ⟨hg,d,ho,rfl⟩⟩ h
   ·cases h
  ·rename_i hd hg;exact key _ H ⟨hd,.inr ⟨hg,rfl,rfl⟩⟩ h
  ·cases h
def q1g (X:Cx) (ops:Array Oper) (L:Qj) (E:Nat→qp) (T:Nat→qi):Prop :=
 ∀ i j x y,ops[i]? = some x→ops[j]? = some y→L.contains (i,j) = true→i≠j→jw ops (E i) x.guard = some true→jw ops (E j) y.guard = some true →
  (T i).length≤(T (i+1)).length∧∀ b,b∈kE (y.op.operands.toList.map (qN X (E j)))→qo (T (i+1)) b = qo (T i) b
theorem qjy {F:zk} {nt:Nat} {ow:List Nat} {ops:Array Oper} {L:Qj}:∀ {l:List Oper} {k:Nat} {ws:List (Nat × qi × qi)} {rs:List (Nat × List Nat)} {e e':qp} {H H':qi},kl X F nt ow ops L k ws rs l e H = some (e',H') →
  ∃ (E:Nat→qp) (T:Nat→qi),E 0 = e∧T 0 = H∧E l.length = e'∧T l.length = H'∧∀ k o,l[k]? = some o→qav X F nt (Zl ow) ops o (E k) (T k) (E (k+1)) (T (k+1))
 | [],k,ws,rs,e,e',H,H',h=>by
  simp only [kl,qs,qM] at h;obtain ⟨rfl,rfl⟩:=h;exact ⟨fun _=>e,fun _=>H,rfl,rfl,rfl,rfl,fun k o hk=>by simp at hk⟩
 | o :: l,k,ws,rs,e,e',H,H',h=>by
  simp only [kl] at h
  have key:∀ e1 H1 k ws rs,qav X F nt (Zl ow) ops o e H e1 H1→kl X F nt ow ops L k ws rs l e1 H1 = some (e',H')→∃ (E:Nat→qp) (T:Nat→qi),E 0 = e∧T 0 = H∧E (o :: l).length = e'∧T (o :: l).length = H' ∧
    ∀ k x,(o :: l)[k]? = some x→qav X F nt (Zl ow) ops x (E k) (T k) (E (k+1)) (T (k+1)):=by
   intro e1 H1 k ws rs hst hl;obtain ⟨E,T,k1,k2,k3,k4,k5⟩:=qjy hl;refine ⟨fun k=>match k with | 0=>e | k+1=>E k,fun k=>match k with | 0=>H | k+1=>T k,rfl,rfl,k3,k4,fun k x hx=>?_⟩;cases k with
   | zero =>
    simp only [ZV,qs] at hx;subst hx;simp only [k1,k2];exact hst
   | succ k=>exact k5 k x (by simpa using hx)
  cases hd:vo nt o.dst with
  | false=>simp [hd] at h
  | true =>
   cases hg:jw ops e o.guard with
   | none=>simp [hd,hg] at h
   | some b =>
    cases b with
    | false =>
     simp only [hd,hg] at h;exact key _ H _ _ _ ⟨hd,.inr ⟨hg,rfl,rfl⟩⟩ h
    | true =>
     simp only [hd,hg] at h;cases ho:qJ X F (Zl ow o.dst) o.op e H with
     | none=>simp [ho] at h
     | some q =>
      obtain ⟨d,H1⟩:=q;simp only [ho] at h;split at h
      ·exact key _ H1 _ _ _ ⟨hd,.inl ⟨hg,d,ho,rfl⟩⟩ h
      ·cases h
theorem qoB {L:Qj} {k:Nat} {bs:List Nat}:∀ {ws:List (Nat × qi × qi)},XH L k bs ws→∀ {i:Nat} {A B:qi},(i,A,B)∈ws→L.contains (i,k) = true→∀ b,b∈bs→qo B b = qo A b
 | [],_,i,A,B,hm,_=>by cases hm
 | (i',A',B') :: ws,h,i,A,B,hm,hc=>by
  rcases List.mem_cons.1 hm with hm | hm
  ·injection hm with h1 h2;injection h2 with h2 h3;subst h1;subst h2;subst h3;exact h.1 hc
  ·exact qoB h.2 hm hc
theorem qoA {L:Qj} {k:Nat} {A B:qi}:∀ {rs:List (Nat × List Nat)},XG L k A B rs→∀ {j:Nat} {bs:List Nat},(j,bs)∈rs→L.contains (k,j) = true→∀ b,b∈bs→qo B b = qo A b
 | [],_,j,bs,hm,_=>by cases hm
 | (j',bs') :: rs,h,j,bs,hm,hc=>by
  rcases List.mem_cons.1 hm with hm | hm
  ·injection hm with h1 h2;subst h1;subst h2;exact h.1 hc
  ·exact qoA h.2 hm hc
theorem qpm {L:Qj} {i j:Nat} (h:L.contains (i,j) = true):Zm L i = true∧Zr L j = true:=by
 rw [List.contains_iff_mem] at h;exact ⟨List.any_eq_true.2 ⟨_,h,by simp⟩,List.any_eq_true.2 ⟨_,h,by simp⟩⟩
theorem qgA {F:zk} {nt:Nat} {ow:List Nat} {ops:Array Oper} {L:Qj} {E:Nat→qp} {T:Nat→qi} (hst:∀ k o,ops[k]? = some o→qav X F nt (Zl ow) ops o (E k) (T k) (E (k+1)) (T (k+1))) :
  ∀ (l:List Oper) (k:Nat) (ws:List (Nat × qi × qi)) (rs:List (Nat × List Nat)) (r:qp × qi),(∀ m,l[m]? = ops[k+m]?)→kl X F nt ow ops L k ws rs l (E k) (T k) = some r →
   (∀ i x,i < k→ops[i]? = some x→Zm L i = true→jw ops (E i) x.guard = some true→(i,T i,T (i+1))∈ws∧(T i).length≤(T (i+1)).length) →
   (∀ j y,j < k→ops[j]? = some y→Zr L j = true→jw ops (E j) y.guard = some true→(j,kE (y.op.operands.toList.map (qN X (E j))))∈rs) →
   ∀ i j x y,ops[i]? = some x→ops[j]? = some y→L.contains (i,j) = true→i≠j→jw ops (E i) x.guard = some true→jw ops (E j) y.guard = some true→k≤max i j →
    (T i).length≤(T (i+1)).length∧∀ b,b∈kE (y.op.operands.toList.map (qN X (E j)))→qo (T (i+1)) b = qo (T i) b
 | [],k,ws,rs,r,hl,h,Q7,hrs,i,j,x,y,hi,hj,hc,qr,gi,gj,hm=>by
  exfalso;have ZD:=(Array.getElem?_eq_some_iff.1 hi).1;have kG:=(Array.getElem?_eq_some_iff.1 hj).1;have:=hl (max i j - k);rw [show k+(max i j - k) = max i j by omega,Jy (by omega)] at this;simp at this
 | o :: l,k,ws,rs,r,hl,h,Q7,hrs,i,j,x,y,hi,hj,hc,qr,gi,gj,hm=>by
  have ho:ops[k]? = some o:=by have:=hl 0;simpa using this.symm
  have kZ:∀ m,l[m]? = ops[k+1+m]?:=by
   intro m;have:=hl (m+1);rw [show k+1+m = k+(m+1) by omega,← this];simp
  obtain ⟨hd,hcase⟩:=hst k o ho;obtain ⟨w1,w2⟩:=qpm hc;simp only [kl,hd] at h;rcases hcase with ⟨hg,d,je,hE⟩ | ⟨hg,hT,hE⟩
  ·simp only [hg,je] at h;split at h
   ·rename_i hchk;rw [← hE] at h
    have hws':∀ i x,i < k+1→ops[i]? = some x→Zm L i = true→jw ops (E i) x.guard = some true→(i,T i,T (i+1))∈(if Zm L k then (k,T k,T (k+1)) :: ws else ws)∧(T i).length≤(T (i+1)).length:=by
     intro i x hik hi hwi Vm;by_cases hik':i = k
     ·subst hik';rw [if_pos hwi];exact ⟨kA ..,(hchk.2 hwi).1⟩
     ·obtain ⟨q1,q2⟩:=Q7 i x (by omega) hi hwi Vm;refine ⟨?_,q2⟩;split
      ·exact vu _ q1
      ·exact q1
    have hrs':∀ j y,j < k+1→ops[j]? = some y→Zr L j = true→jw ops (E j) y.guard = some true→(j,kE (y.op.operands.toList.map (qN X (E j))))∈(if Zr L k then (k,kE (o.op.operands.toList.map (qN X (E k)))) :: rs else rs):=by
     intro j y X9 hj hrj hgj;by_cases hjk':j = k
     ·subst hjk';rw [ho] at hj;injection hj with hj;subst hj;rw [if_pos hrj];exact kA ..
     ·have q1:=hrs j y (by omega) hj hrj hgj;split
      ·exact vu _ q1
      ·exact q1
    by_cases hmk:k+1≤max i j
    ·exact qgA hst l (k+1) _ _ r kZ h hws' hrs' i j x y hi hj hc qr gi gj hmk
    ·obtain ⟨q1,q2⟩:=hws' i x (by omega) hi w1 gi;refine ⟨q2,?_⟩;by_cases hik:i = k
     ·subst hik;rw [ho] at hi;injection hi with hi;subst hi;exact qoA (hchk.2 w1).2 (hrs j y (by omega) hj w2 gj) hc
     ·have X9:j = k:=(by omega);subst X9;rw [ho] at hj;injection hj with hj;subst hj;exact qoB (hchk.1 w2) (Q7 i x (by omega) hi w1 gi).1 hc
   ·cases h
  ·simp only [hg] at h;rw [← hE,← hT] at h
   have zR:∀ {q:Nat} {z:Oper},ops[q]? = some z→jw ops (E q) z.guard = some true→q≠k:=by
    rintro q z hq gq rfl;rw [ho] at hq;injection hq with hq;subst hq;rw [hg] at gq;cases gq
   have n1:=zR hi gi;have n2:=zR hj gj;exact qgA hst l (k+1) ws rs r kZ h (fun i x hik hi hwi Vm=>Q7 i x (by have:=zR hi Vm;omega) hi hwi Vm) (fun j y X9 hj hrj hgj=>hrs j y (by have:=zR hj hgj;omega) hj hrj hgj) i j x y hi hj hc qr gi gj (by omega)
theorem qsU {e1 e2:qp} {x:Operand} (h:∀ t,t∈qgB x→qf e1 t = qf e2 t):qN X e1 x = qN X e2 x:=by
 cases x with
 | tmp t=>exact h t (by simp [qgB])
 | _=>rfl
theorem qh3 {e1 e2:qp}:∀ {l:List Operand},(∀ x,x∈l→qN X e1 x = qN X e2 x)→vr X e1 l = vr X e2 l
 | [],_=>rfl
 | x :: l,h=>by
  simp only [vr,h x (kA ..),qh3 (fun y hy=>h y (vu _ hy))]
theorem qfq {e1 e2:qp}:∀ {l:List (Nat × Operand)},(∀ x,x∈l.map (·.2)→qN X e1 x = qN X e2 x)→Xs X e1 l = Xs X e2 l
 | [],_=>rfl
 | (i,x) :: l,h=>by
  simp only [Xs,h x (by simp),qfq (l:=l) (fun y hy=>h y (by simp only [XK,qa1];exact .inr hy))]
theorem qnt {F:zk} {o:Op} {e1 e2:qp} (h:∀ x,x∈o.operands.toList→qN X e1 x = qN X e2 x):zi X F o e1 H = zi X F o e2 H:=by
 cases o with
 | build t parts =>
  simp only [zi];rw [qfq (e2:=e2) (fun x hx=>h x (by simpa [Op.operands] using hx))]
 | buildSlice t n parts =>
  simp only [zi];rw [qfq (e2:=e2) (fun x hx=>h x (by simpa [Op.operands] using hx))]
 | makeFunc fn first caps =>
  cases fn with
  | func f =>
   simp only [zi]
   rw [qh3 (e2:=e2) (fun x hx=>h x (by
    simp only [Op.operands,Array.toList_append,qbD];exact .inr hx))]
  | _=>rfl
 | slice t x lo hi mx =>
  cases mx with
  | none =>
   have hx:=h x (by simp [Op.operands])
   have kt:lo.map (qN X e1) = lo.map (qN X e2):=by
    cases lo with
    | none=>rfl
    | some l=>simp [h l (by simp [Op.operands])]
   have XB:hi.map (qN X e1) = hi.map (qN X e2):=by
    cases hi with
    | none=>rfl
    | some l=>simp [h l (by simp [Op.operands])]
   simp only [zi,hx,kt,XB]
  | some m=>rfl
 | call c =>
  simp only [zi]
  have ha:vr X e1 c.args.toList = vr X e2 c.args.toList:=qh3 fun x hx=>h x (by
   simp only [Op.operands,Call.operands,Array.toList_append,qbD];exact .inr hx)
  rw [ha];cases hc:c.callee with
  | builtin b=>cases vr X e2 c.args.toList <;> rfl
  | value g =>
   have hg:=h g (by simp [Op.operands,Call.operands,hc]);cases vr X e2 c.args.toList with
   | none=>rfl
   | some args=>simp only [hg]
  | invoke r m=>cases vr X e2 c.args.toList <;> rfl
 | pick c a b =>
  simp only [zi];rw [h c (by simp [Op.operands])];split
  ·rename_i t _;cases t
   ·simp only [vC,if_false];rw [h b (by simp [Op.operands])]
   ·simp only [if_true];rw [h a (by simp [Op.operands])]
  ·rfl
 | move x=>simp only [zi,h x (by simp [Op.operands])]
 | assign x=>simp only [zi,h x (by simp [Op.operands])]
 | box t x=>simp only [zi,h x (by simp [Op.operands])]
 | load t x=>simp only [zi,h x (by simp [Op.operands])]
 | store t x y=>simp only [zi,h x (by simp [Op.operands]),h y (by simp [Op.operands])]
 | nilCheck x=>simp only [zi,h x (by simp [Op.operands])]
 | binOp op t x y u=>simp only [zi,h x (by simp [Op.operands]),h y (by simp [Op.operands])]
 | unOp op t x=>simp only [zi,h x (by simp [Op.operands])]
 | convert s d x=>simp only [zi,h x (by simp [Op.operands])]
 | makeInterface t x=>simp only [zi,h x (by simp [Op.operands])]
 | makeSlice t x y=>simp only [zi,h x (by simp [Op.operands]),h y (by simp [Op.operands])]
 | fieldAddr s x f=>simp only [zi,h x (by simp [Op.operands])]
 | field s x f=>simp only [zi,h x (by simp [Op.operands])]
 | indexAddr t x y=>simp only [zi,h x (by simp [Op.operands]),h y (by simp [Op.operands])]
 | index t x y=>simp only [zi,h x (by simp [Op.operands]),h y (by simp [Op.operands])]
 | extract x i=>simp only [zi,h x (by simp [Op.operands])]
 | _=>rfl
theorem qyB {F:zk} {drw:Bool} {o:Op} {e1 e2:qp} (h:∀ x,x∈o.operands.toList→qN X e1 x = qN X e2 x):qJ X F drw o e1 H = qJ X F drw o e2 H:=by
 unfold qJ;split
 ·rw [qfq (e2:=e2) (fun x hx=>h x (by simpa [Op.operands] using hx))]
 ·rw [h _ (by simp [Op.operands])]
 ·rename_i c;rw [qnt (o:=.call c) h]
  have hd:VP X c e1 = VP X c e2:=by
   unfold VP;cases X.dynV with
   | false=>rfl
   | true =>
    cases hc:c.callee with
    | value g =>
     cases g with
     | tmp t =>
      have hg:qf e1 t = qf e2 t:=h (.tmp t) (by simp [Op.operands,Call.operands,hc]);simp only [hg]
     | _=>rfl
    | _=>rfl
  rw [hd]
 ·exact qnt h
theorem qhG {x:Option D} {d:D} (h:x.map (·,H) = some (d,H')):H' = H∧∀ H2:qi,x.map (·,H2) = some (d,H2):=by
 obtain ⟨rfl,rfl⟩:=Q4 h;exact ⟨rfl,fun _=>rfl⟩
theorem q0q {b:Builtin} {ts:List TypeId} {args:List D} {d:D} (hb:b = .len∨b = .min∨b = .max) (h:qb4 X b ts args H = some (d,H')):H' = H∧∀ H2,qb4 X b ts args H2 = some (d,H2):=by
 rcases hb with rfl | rfl | rfl
 ·rcases ts with _ | ⟨t,ts⟩
  ·simp [qb4] at h
  ·rcases args with _ | ⟨x,args⟩
   ·simp [qb4] at h
   ·exact qhG h
 ·exact qhG h
 ·exact qhG h
theorem quq {F:zk} {o:Op} {e:qp} {d:D} (hk:Jf X o = .v) (h:qJ X F true o e H = some (d,H')):H' = H∧∀ H2,qJ X F true o e H2 = some (d,H2):=by
 have mp:∀ {x:Option D},x.map (·,H) = some (d,H')→H' = H∧∀ H2:qi,x.map (·,H2) = some (d,H2):=by
  intro x hx;obtain ⟨rfl,rfl⟩:=Q4 hx;exact ⟨rfl,fun _=>rfl⟩
 cases o with
 | buildSlice t n parts =>
  simp only [qJ] at h ⊢;split at h
  ·rename_i ps hp;split at h
   ·rename_i ds hb;injection h with h;injection h with h1 h2;subst h1;subst h2;exact ⟨rfl,fun H2=>rfl⟩
   ·cases h
  ·cases h
 | move x=>exact mp h
 | assign x=>exact mp h
 | pick c a b =>
  simp only [qJ,zi] at h ⊢;split at h
  ·exact mp h
  ·cases h
 | build t parts =>
  simp only [qJ,zi] at h ⊢;split at h
  ·exact mp h
  ·cases h
 | nilCheck x =>
  simp only [qJ,zi] at h ⊢;split at h <;> first | (cases h;done) | skip
  all_goals
   injection h with h;injection h with h1 h2;subst h1;subst h2;exact ⟨rfl,fun _=>rfl⟩
 | binOp op t x y u =>
  simp only [qJ,zi] at h ⊢;split at h
  ·exact mp h
  ·cases h
 | unOp op t x =>
  simp only [qJ,zi] at h ⊢;split at h
  ·exact mp h
  ·cases h
 | makeInterface t x =>
  simp only [qJ,zi] at h ⊢;split at h
  ·cases h
  ·injection h with h;injection h with h1 h2;subst h1;subst h2;exact ⟨rfl,fun _=>rfl⟩
  ·cases h
 | makeFunc fn first caps =>
  cases fn with
  | func f =>
   simp only [qJ,zi] at h ⊢;split at h
   ·rename_i hf;cases hc:vr X e caps.toList with
    | none=>simp [hc] at h
    | some cs =>
     simp only [hc,jC,qs,qM] at h;obtain ⟨rfl,rfl⟩:=h;exact ⟨rfl,fun _=>by simp [hf]⟩
   ·cases h
  | _=>simp [qJ,zi] at h
 | slice t x lo hi mx =>
  cases mx with
  | none =>
   simp only [qJ,zi] at h ⊢;split at h <;> first | (cases h;done) | exact mp h
  | some m=>simp [qJ,zi] at h
 | fieldAddr s x f =>
  simp only [qJ,zi] at h ⊢;split at h
  ·exact mp h
  ·cases h
 | field s x f =>
  simp only [qJ,zi] at h ⊢;split at h
  ·exact mp h
  ·cases h
 | indexAddr t x y =>
  simp only [qJ,zi] at h ⊢;split at h
  ·exact mp h
  ·cases h
 | index t x y =>
  simp only [qJ,zi] at h ⊢;split at h
  ·exact mp h
  ·cases h
 | extract x i =>
  simp only [qJ,zi] at h ⊢;split at h
  ·exact mp h
  ·cases h
 | call c =>
  have hc:(c.callee = .builtin .len∨c.callee = .builtin .min∨c.callee = .builtin .max)∨(∃ f,c.callee = .value (.func f)∧(X.pureF f && !X.byRef f && !X.perm f) = true)∨(∃ t,c.callee = .value (.tmp t)∧X.dynV = true):=by
   simp only [Jf] at hk;split at hk
   ·rename_i hc;exact .inl (.inl hc)
   ·rename_i hc;exact .inl (.inr (.inl hc))
   ·rename_i hc;exact .inl (.inr (.inr hc))
   ·rename_i f hc;refine .inr (.inl ⟨f,hc,?_⟩);split at hk
    ·cases hk
    ·rename_i hb;split at hk
     ·rename_i hp;split at hk
      ·cases hk
      ·rename_i JG;rw [hp];simp [hb,JG]
     ·split at hk <;> cases hk
   ·rename_i t hc;refine .inr (.inr ⟨t,hc,?_⟩);split at hk
    ·assumption
    ·cases hk
   ·cases hk
  have pureGo:∀ {f:Nat} {args:List D},(X.pureF f && !X.byRef f && !X.perm f) = true→JP X F f args H = some (d,H')→H' = H∧∀ H2,JP X F f args H2 = some (d,H2):=by
   intro f args hp0 h;rw [qR] at hp0;have hp:=hp0.1;have hpn:X.perm f = false:=by simpa using hp0.2
   have JG:(X.perm f && !X.pureF f && !X.byRef f) = false:=by
    simp [hpn]
   have hpb:(X.perm f && X.byRef f) = false:=(by simp [hpn]);rw [qgq JG hpb] at h;obtain ⟨h4,h3,h1⟩:=qez hp h;rcases h1 with ⟨h1,h2⟩ | ⟨_,h1,_⟩
   ·refine ⟨h4,fun H2=>?_⟩;rw [qgq JG hpb];unfold QV;rw [if_pos hp,if_pos h1,h2];simp only at h3;simp only [h3,if_true]
   ·rw [hpn] at h1;cases h1
  rcases hc with hc | ⟨f,hc,hp⟩ | ⟨t,hc,hdy⟩
  rotate_left
  ·have hw:∀ H2,qJ X F true (.call c) e H2 = zi X F (.call c) e H2:=fun H2=>by
    simp only [qJ,VP,hc];cases X.dynV <;> rfl
   rw [hw] at h;simp only [hw];simp only [zi] at h ⊢;simp only [hc] at h ⊢;cases ha:vr X e c.args.toList with
   | none=>simp [ha] at h
   | some args =>
    simp only [ha,qN] at h ⊢;exact pureGo hp h
  ·simp only [qJ] at h ⊢;split at h
   ·cases h
   ·rename_i hb;have zn:VP X c e = false:=(by simpa using hb);simp only [zn,vC,if_false];unfold VP at zn;simp only [hc,hdy] at zn;split at zn
    ·rename_i f caps hl;have hp:(X.pureF f && !X.byRef f && !X.perm f) = true:=(by simpa using zn);simp only [zi,hc] at h ⊢;cases ha:vr X e c.args.toList with
     | none=>simp [ha] at h
     | some args =>
      simp only [ha,qN,hl] at h ⊢;exact pureGo hp h
    ·cases zn
  have hw:∀ H2,qJ X F true (.call c) e H2 = zi X F (.call c) e H2:=fun H2=>by
   simp only [qJ,VP];rcases hc with hc | hc | hc <;> (simp only [hc];cases X.dynV <;> rfl)
  rw [hw] at h;simp only [hw];simp only [zi] at h ⊢;cases ha:vr X e c.args.toList with
  | none=>rcases hc with hc | hc | hc <;> simp [hc,ha] at h
  | some args=>rcases hc with hc | hc | hc <;> (simp only [hc,ha] at h ⊢;exact q0q (by simp) h)
 | load _ _=>simp [Jf] at hk
 | convert _ _ _=>simp [Jf] at hk
 | alloc _=>simp [Jf] at hk
 | box _ _=>simp [Jf] at hk
 | makeSlice _ _ _=>simp [Jf] at hk
 | store _ _ _=>simp [Jf] at hk
 | _=>simp [qJ,zi] at h
theorem qlD {T1 T2:qi} {p:D} {cs:List D} (hg:∀ i,Xk p = some i→qo T1 i≠none→qo T2 i = qo T1 i) (h:Xx T1 p = some cs):Xx T2 p = some cs:=by
 cases p <;> simp only [Xx,reduceCtorEq] at h ⊢
 ·exact h
 ·rename_i i st off;split at h
  ·rename_i ds hd;have:=hg i rfl (by rw [hd];simp);rw [this,hd];exact h
  ·cases h
theorem qqg {T1 T2:qi} {p:D} {k:Nat} {r:List D × Nat} (hg:∀ i,Xk p = some i→qo T1 i≠none→qo T2 i = qo T1 i) (h:Xl T1 k p = some r):Xl T2 k p = some r:=by
 cases p <;> simp only [Xl,reduceCtorEq] at h ⊢
 ·exact h
 ·rename_i i st off len k';split at h
  ·rename_i ds hd;have:=hg i rfl (by rw [hd];simp);rw [this,hd];exact h
  ·cases h
theorem qlp {e:qp}:∀ {l:List Operand} {ds:List D},vr X e l = some ds→∀ d,d∈ds→∃ x,x∈l∧qN X e x = some d
 | [],ds,h,d,hd=>by
  simp only [vr,qs] at h;subst h;cases hd
 | x :: l,ds,h,d,hd=>by
  simp only [vr] at h;split at h
  ·rename_i d0 ds0 h1 h2;injection h with h;subst h;rcases List.mem_cons.1 hd with rfl | hd
   ·exact ⟨x,kA ..,h1⟩
   ·obtain ⟨y,hy,hyd⟩:=qlp h2 d hd;exact ⟨y,vu _ hy,hyd⟩
  ·cases h
mutual
theorem qmY (T1 T2:qi):∀ (d:D),idFree d = true→freeze T2 d = freeze T1 d
 | .agg cs,h=>by simp only [idFree] at h;simp only [freeze,qfW T1 T2 cs h]
 | .fn f cs,h=>by simp only [idFree] at h;simp only [freeze,qfW T1 T2 cs h]
 | .tup _,_=>rfl
 | .iface _ _,_=>rfl
 | .optr ..,h=>by simp [idFree] at h
 | .osl ..,h=>by simp [idFree] at h
 | .bool _,_=>rfl
 | .int _ _,_=>rfl
 | .str _,_=>rfl
 | .nilp,_=>rfl
 | .nilf,_=>rfl
 | .nili,_=>rfl
 | .raw _,_=>rfl
 | .vptr _,_=>rfl
 | .vsl ..,_=>rfl
theorem qfW (T1 T2:qi):∀ (cs:List D),idFree.idFreeL cs = true→freeze.freezeL T2 cs = freeze.freezeL T1 cs
 | [],_=>rfl
 | d :: l,h=>by
  simp only [idFree.idFreeL,qR] at h;simp only [freeze.freezeL,qmY T1 T2 d h.1,qfW T1 T2 l h.2]
end
theorem qyw {T1 T2:qi} {p:D} (hg:∀ i,Xk p = some i→qo T1 i≠none→qo T2 i = qo T1 i) (h:Yr T1 p = true):Yr T2 p = true∧freeze T2 p = freeze T1 p:=by
 cases p with
 | osl i st off len k =>
  simp only [Yr] at h;split at h
  ·rename_i ds hd;have e1:=hg i rfl (by rw [hd];simp);constructor
   ·simp only [Yr,e1,hd];exact h
   ·simp only [freeze,e1]
  ·cases h
 | optr i st off=>simp [Yr,idFree] at h
 | _=>exact ⟨h,qmY T1 T2 _ h⟩
theorem qnf {T1 T2:qi}:∀ (args:List D),(∀ p,p∈args→∀ i,Xk p = some i→qo T1 i≠none→qo T2 i = qo T1 i)→args.all (Yr T1) = true→args.all (Yr T2) = true∧qal T2 args = qal T1 args
 | [],_,_=>⟨rfl,rfl⟩
 | p :: l,hg,h=>by
  simp only [XM,qR] at h;obtain ⟨a1,a2⟩:=qyw (hg p (kA ..)) h.1;obtain ⟨b1,b2⟩:=qnf l (fun q hq=>hg q (vu _ hq)) h.2;unfold qal at b2 ⊢;exact ⟨by simp [a1,b1],by simp only [freeze.freezeL,a2,b2]⟩
theorem qur {F:zk} {o:Op} {e:qp} {d:D} {T1 T2:qi} (hk:Jf X o = .r) (h:qJ X F true o e T1 = some (d,H'))
  (hg:∀ x,x∈o.operands.toList→∀ p i,qN X e x = some p→Xk p = some i→qo T1 i≠none→qo T2 i = qo T1 i):H' = T1∧qJ X F true o e T2 = some (d,T2):=by
 cases o with
 | load t x =>
  simp only [qJ,zi] at h ⊢;split at h
  ·rename_i p hp;obtain ⟨h1,rfl⟩:=Q4 h;refine ⟨rfl,?_⟩
   have hl:ldD X.P T2 t p = some d:=by
    unfold ldD at h1 ⊢;split at h1
    ·rename_i cs hq hm;rw [qlD (hg x (by simp [Op.operands]) p · hp) hm];simp only [hq];exact h1
    ·rename_i x' l hq hm;rw [qlD (hg x (by simp [Op.operands]) p · hp) hm];simp only [hq];exact h1
    ·cases h1
   rw [hl];rfl
  ·cases h
 | convert s t x =>
  simp only [qJ] at h ⊢;split at h
  ·rename_i b u hx hu;split at h
   ·injection h with h;injection h with h1 h2;subst h1;subst h2;exact ⟨rfl,rfl⟩
   ·cases h
  ·rename_i a hx _;have hgx:∀ i,Xk a = some i→qo T1 i≠none→qo T2 i = qo T1 i:=fun i=>hg x (by simp [Op.operands]) a i hx;unfold qb1 at h ⊢;split at h
   ·rename_i k k' n h1 h2;injection h with h;injection h with h3 h4;subst h3;subst h4;exact ⟨rfl,rfl⟩
   ·rename_i b h1 h2;injection h with h;injection h with h3 h4;subst h3;subst h4;exact ⟨rfl,rfl⟩
   ·injection h with h;injection h with h3 h4;subst h3;subst h4;exact ⟨rfl,rfl⟩
   ·exfalso
    simp_all
   ·rename_i e' _ h1 h2;split at h
    ·rename_i cs n he hsl
     obtain ⟨h3,rfl⟩:((ky cs).map fun s=>D.str s) = some d∧T1 = H':=by
      cases hb:ky cs with
      | none=>simp [hb] at h
      | some s =>
       simp only [hb,jC,qs,qM] at h;exact ⟨by simp [h.1],h.2⟩
     refine ⟨rfl,?_⟩;rw [qqg hgx hsl];simp only [he];cases hb:ky cs with
     | none=>simp [hb] at h3
     | some s=>simpa [hb] using h3
    ·cases h
   ·rename_i i st off len k h1 _ h2;split at h
    ·rename_i ds he hd;have e1:=hgx i rfl (by rw [hd];simp);split at h
     ·rename_i hc;injection h with h;injection h with h3 h4;subst h3;subst h4;refine ⟨rfl,?_⟩;rw [e1,hd];simp only [he,hc,and_self,if_true]
     ·cases h
    ·cases h
   ·cases h
  ·cases h
 | call c =>
  simp only [Jf] at hk;split at hk <;> first | (cases hk;done) | skip
  ·rename_i f hc;split at hk
   ·cases hk
   ·rename_i hb;split at hk
    ·rename_i kF;split at hk
     ·rename_i Yh;have hp:(X.pureF f && !X.byRef f) = true:=(by simp [kF,hb]);have JG:(X.perm f && !X.pureF f && !X.byRef f) = false:=by simp [kF]
      have hw:∀ T,qJ X F true (.call c) e T = zi X F (.call c) e T:=fun T=>by
       simp only [qJ,VP,hc];cases X.dynV <;> rfl
      rw [hw] at h;rw [hw];simp only [zi,hc] at h ⊢;cases ha:vr X e c.args.toList with
      | none=>simp [ha] at h
      | some args =>
       simp only [ha,qN,Z2] at h ⊢;rw [qgq JG (by simp [hb])] at h ⊢;obtain ⟨h4,h3,h1⟩:=qez hp h;simp only at h3 h4 h1;refine ⟨h4,?_⟩;unfold QV;rw [if_pos hp];rcases h1 with ⟨h1,h2⟩ | ⟨h1,hpe2,hfl,hv,args',kw,h2⟩
       ·rw [if_pos h1,h2];simp only [h3,if_true]
       ·obtain ⟨g1,g2⟩:=qnf args (fun p JG i hi qr=>by
         obtain ⟨x,hx,hxp⟩:=qlp ha p JG
         exact hg x (by
          simp only [Op.operands,Call.operands,Array.toList_append,qbD];exact .inr hx) p i hxp hi qr) hfl
        rw [if_neg h1];simp only [hpe2,g1,Bool.and_self,if_true,g2,kw,h2,h3,hv]
     ·cases hk
    ·split at hk <;> cases hk
  ·split at hk <;> cases hk
 | _=>simp [Jf] at hk
theorem qut {F:zk} {o:Op} {e:qp} {d:D} (hk:Jf X o = .e) (h:qJ X F true o e H = some (d,H')):∃ N,H' = H ++ N:=by
 cases o with
 | alloc t =>
  simp only [qJ,zi] at h;split at h
  ·injection h with h;injection h with h1 h2;exact ⟨_,h2.symm⟩
  ·cases h
 | box t x =>
  simp only [qJ,zi] at h;split at h
  ·split at h
   ·injection h with h;injection h with h1 h2;exact ⟨_,h2.symm⟩
   ·cases h
  ·cases h
 | makeSlice t x y =>
  simp only [qJ,zi] at h;split at h
  ·unfold qdQ at h;split at h
   ·split at h
    ·simp only [Option.bind_eq_some_iff] at h;obtain ⟨z,_,h⟩:=h;split at h
     ·injection h with h;injection h with h1 h2;exact ⟨_,h2.symm⟩
     ·cases h
    ·cases h
   ·cases h
  ·cases h
 | call c =>
  simp only [Jf] at hk;split at hk <;> first | (cases hk;done) | skip
  rotate_left
  ·split at hk <;> cases hk
  rename_i f hc;split at hk
  ·cases hk
  ·rename_i hnr
   have JG:(X.perm f && !X.pureF f && !X.byRef f) = false:=by
    split at hk
    ·split at hk <;> cases hk
    ·split at hk
     ·cases hk
     ·rename_i X5;simp [X5]
   have hw:qJ X F true (.call c) e H = zi X F (.call c) e H:=by
    simp only [qJ,VP,hc];cases X.dynV <;> rfl
   rw [hw] at h;simp only [zi,hc] at h;cases ha:vr X e c.args.toList with
   | none=>simp [ha] at h
   | some args =>
    simp only [ha,qN] at h;rw [qgq JG (by simp [hnr])] at h;replace h:=qgp h;unfold KB at h;rw [if_neg hnr] at h;split at h
    ·split at h
     ·cases h
     ·injection h with h;injection h with h1 h2;exact ⟨_,h2.symm⟩
    ·split at h
     ·cases h
     ·split at h
      ·cases h
      ·split at h
       ·injection h with h;injection h with h1 h2;exact ⟨_,h2.symm⟩
       ·cases h
 | _=>simp [Jf] at hk
theorem qnu {F:zk} {o:Op} {e:qp}:qJ X F false o e H = zi X F o e H:=by cases o <;> rfl
theorem qhT {bw:Bool} {F:zk} {o:Op}:(Q1 X bw o = Jf X o∧(∀ (e:qp) (H:qi),qJ X F bw o e H = qJ X F true o e H))∨(bw = false∧(Q1 X bw o = .e∧((∃ t n ps,o = .buildSlice t n ps)∨∃ s d x,o = .convert s d x))∨(Q1 X bw o = .m)):=by
 cases bw with
 | true=>exact .inl ⟨rfl,fun _ _=>rfl⟩
 | false =>
  cases o with
  | buildSlice t n ps=>exact .inr (.inl ⟨rfl,rfl,.inl ⟨t,n,ps,rfl⟩⟩)
  | convert s d x=>exact .inr (.inl ⟨rfl,rfl,.inr ⟨s,d,x,rfl⟩⟩)
  | call c =>
   cases hc:c.callee with
   | value g =>
    cases g with
    | tmp t=>exact .inr (.inr (by simp only [Q1,hc]))
    | _=>exact .inl ⟨by simp only [Q1,hc],fun e H=>by simp only [qJ,VP,hc];cases X.dynV <;> rfl⟩
   | builtin b=>exact .inl ⟨by simp only [Q1,hc],fun e H=>by simp only [qJ,VP,hc];cases X.dynV <;> rfl⟩
   | invoke r m=>exact .inl ⟨by simp only [Q1,hc],fun e H=>by simp only [qJ,VP,hc];cases X.dynV <;> rfl⟩
  | _=>exact .inl ⟨rfl,fun _ _=>rfl⟩
theorem qlZ {bw:Bool} {F:zk} {o:Op} {e:qp} {d:D} (hk:Q1 X bw o = .v) (h:qJ X F bw o e H = some (d,H')):H' = H∧∀ H2,qJ X F bw o e H2 = some (d,H2):=by
 rcases qhT (X:=X) (bw:=bw) (F:=F) (o:=o) with ⟨h1,h2⟩ | ⟨_,h1,_⟩ | h1
 ·rw [h1] at hk;rw [h2] at h;simp only [h2];exact quq hk h
 ·rw [h1] at hk;cases hk
 ·rw [h1] at hk;cases hk
theorem qma {bw:Bool} {F:zk} {o:Op} {e:qp} {d:D} {T1 T2:qi} (hk:Q1 X bw o = .r) (h:qJ X F bw o e T1 = some (d,H'))
  (hg:∀ x,x∈o.operands.toList→∀ p i,qN X e x = some p→Xk p = some i→qo T1 i≠none→qo T2 i = qo T1 i):H' = T1∧qJ X F bw o e T2 = some (d,T2):=by
 rcases qhT (X:=X) (bw:=bw) (F:=F) (o:=o) with ⟨h1,h2⟩ | ⟨_,h1,_⟩ | h1
 ·rw [h1] at hk;rw [h2] at h;rw [h2];exact qur hk h hg
 ·rw [h1] at hk;cases hk
 ·rw [h1] at hk;cases hk
theorem qzt {P:Program} {s t:TypeId} {x d:D} (h:qb1 P H s t x = some (d,H')):∃ N,H' = H ++ N:=by
 unfold qb1 at h;split at h
 ·injection h with h;injection h with h1 h2;exact ⟨[],by simp [h2]⟩
 ·injection h with h;injection h with h1 h2;exact ⟨[],by simp [h2]⟩
 ·injection h with h;injection h with h1 h2;exact ⟨[],by simp [h2]⟩
 ·split at h
  ·injection h with h;injection h with h1 h2;exact ⟨_,h2.symm⟩
  ·cases h
 ·split at h
  ·rename_i cs n he hsl;cases hb:ky cs with
   | none=>simp [hb] at h
   | some s =>
    simp only [hb,jC,qs,qM] at h;exact ⟨[],by simp [h.2]⟩
  ·cases h
 ·split at h
  ·split at h
   ·injection h with h;injection h with h1 h2;exact ⟨[],by simp [h2]⟩
   ·cases h
  ·cases h
 ·cases h
theorem qtX {P:Program} {t:TypeId} {n:Nat} {ps:List (Nat × D)} {d:D} (h:qat P H t n ps = some (d,H')):∃ N,H' = H ++ N:=by
 unfold qat at h;split at h
 ·split at h
  ·split at h
   ·simp only [Option.bind_eq_some_iff] at h;obtain ⟨cs,_,h⟩:=h;split at h
    ·injection h with h;injection h with h1 h2;exact ⟨_,h2.symm⟩
    ·cases h
   ·cases h
  ·cases h
 ·cases h
theorem qus {bw:Bool} {F:zk} {o:Op} {e:qp} {d:D} (hk:Q1 X bw o = .e) (h:qJ X F bw o e H = some (d,H')):∃ N,H' = H ++ N:=by
 rcases qhT (X:=X) (bw:=bw) (F:=F) (o:=o) with ⟨h1,h2⟩ | ⟨rfl,h1,⟨t,n,ps,rfl⟩ | ⟨s,t,x,rfl⟩⟩ | h1
 ·rw [h1] at hk;rw [h2] at h;exact qut hk h
 ·rw [qnu] at h;simp only [zi] at h;split at h
  ·exact qtX h
  ·cases h
 ·rw [qnu] at h;simp only [zi] at h;split at h
  ·exact qzt h
  ·cases h
 ·rw [h1] at hk;cases hk
end
end Go.Ev
namespace Go.Ev
section
variable {X:Cx} {bw:Option Tmp→Bool} {L:Qj} {al:Option Nat} {ok ok':Nat→Prop} {w w':World} {ι:qB} {H H':qi}
theorem qjm {ops:Array Oper} {e:qp} {a:Act} {o:Oper} {b:Bool} (he:∀ k want t,o.guard = some (k,want)→(ops[k]?).bind (·.dst) = some t→∀ d,qf e t = some d→t < a.tmps.size∧Rep ok w ι H d (a.tmps.getD t undef))
  (h:jw ops e o.guard = some b):Region.wanted o (yielded ops a.tmps) = b:=by
 unfold jw at h;unfold Region.wanted;split at h
 ·rename_i hg;injection h with h;rw [hg];exact h
 ·rename_i j want hg;rw [hg];simp only;unfold yielded;cases hd:(ops[j]?).bind (·.dst) with
  | none =>
   simp only [hd,qs] at h;subst h;simp
  | some t =>
   simp only [hd] at h;simp only [Y1];split at h
   ·rename_i v hl;injection h with h;obtain ⟨qh,hr⟩:=he j want t hg hd _ hl;rw [jm,Jy qh] at hr;rw [Jy qh];generalize a.tmps[t] = x at hr;cases hr;simp only;rw [← h];cases v <;> cases want <;> rfl
   ·rename_i hl;injection h with h;subst h;obtain ⟨qh,hr⟩:=he j want t hg hd _ hl;rw [jm,Jy qh] at hr;rw [Jy qh];generalize a.tmps[t] = x at hr;cases hr;simp
   ·cases h
theorem qbS (a:Act) (dst:Option Tmp) (v:Value):(a.put dst v).tmps.size = a.tmps.size∧(a.put dst v).defers = a.defers:=by
 cases dst <;> simp [Act.put]
def Out (X:Cx) (n:Nat) (ok:Nat→Prop) (w:World) (ι:qB) (H:qi) (a:Act) (e':qp) (H':qi) (a':Act) (w':World):Prop :=
 a'.tmps.size = a.tmps.size∧a'.defers = a.defers∧∃ ι' ok',Sim X ok' w' ι' H'∧EnvRep ok' w' ι' H' e' a'.tmps∧Evol n ok w ι H ok' w' ι' H'
theorem qeI:Rep ok w ι H (.tup []) undef:=.tup rfl (by simp)
theorem qf7 {e:qp} {dst:Option Tmp} {d:D} {t:Nat}:qf (vg e dst d) t = if dst = some t then some d else qf e t:=by
 cases dst with
 | none=>simp [vg]
 | some s =>
  simp only [vg,qf,qs]
def Y7 (l:List Nat) (e:qp):qp:=ka l e
theorem qf6:∀ {l:List Nat} {e:qp} {t:Nat},t∈l→qf (Y7 l e) t = qf e t
 | k :: l,e,t,h=>by
  simp only [Y7,ka];by_cases YR:k = t
  ·subst YR;cases hk:qf e k with
   | some d=>simp [qf]
   | none =>
    simp only;by_cases hm:k∈l
    ·exact (qf6 hm).trans hk
    ·have:∀ {l:List Nat} {t:Nat},t ∉ l→qf (ka l e) t = none:=by
      intro l
      induction l with
      | nil=>intro t _;rfl
      | cons x l ih =>
       intro t ht;simp only [qa1,not_or] at ht;simp only [ka];split
       ·simp only [qf,Ne.symm ht.1,if_false];exact ih ht.2
       ·exact ih ht.2
     exact this hm
  ·have hm:t∈l:=by
    rcases List.mem_cons.1 h with h | h
    ·exact absurd h.symm YR
    ·exact h
   split
   ·simp only [qf,YR,if_false];exact qf6 hm
   ·exact qf6 hm
theorem qf5:∀ {l:List Nat} {e:qp} {t:Nat} {d:D},qf (Y7 l e) t = some d→t∈l∧qf e t = some d
 | [],e,t,d,h=>by simp [Y7,ka,qf] at h
 | k :: l,e,t,d,h=>by
  simp only [Y7,ka] at h;split at h
  ·rename_i x hk;simp only [qf] at h;split at h
   ·rename_i YR;subst YR;exact ⟨kA ..,by rw [hk];exact h⟩
   ·obtain ⟨h1,h2⟩:=qf5 h;exact ⟨vu _ h1,h2⟩
  ·obtain ⟨h1,h2⟩:=qf5 h;exact ⟨vu _ h1,h2⟩
structure DrawFacts (X:Cx) (bw:Option Tmp→Bool) (L:Qj) (al:Option Nat) (ops:Array Oper):Prop where
 edge:∀ (j:Nat) (o:Oper),ops[j]? = some o→∀ e,e∈o.after.toList→Region.binds .any e = true→e.on < j
 ord:∀ (i j:Nat) (x y:Oper),ops[i]? = some x→ops[j]? = some y→i < j→JO X bw L al ops i x j y = true→((Region.before ops).getD j 0).testBit i = true
 alo:∀ j,al = some j→∃ o ty t,ops[j]? = some o∧o.op = .alloc ty∧o.dst = some t∧o.guard = none ∧
  ∀ (k:Nat) (y:Oper),ops[k]? = some y→k≠j→t∈Z6 ops y→j < k∧∀ (i:Nat) (x:Oper),ops[i]? = some x→i < j→zI X (bw x.dst) x.op = true→((Region.before ops).getD k 0).testBit i = true
theorem qnF {ops:Array Oper} (h:qgh X bw L al ops = true):DrawFacts X bw L al ops:=by
 unfold qgh at h;simp only [qR] at h;obtain ⟨kx,h⟩:=h;have vc:=List.all_eq_true.1 h
 have JJ:∀ (j:Nat) (o:Oper),ops[j]? = some o→(o,j)∈ops.toList.zipIdx:=by
  intro j o hj;rw [List.mem_zipIdx_iff_getElem?];simpa using hj
 constructor
 ·intro j o hj e he hb;have:=vc _ (JJ j o hj);simp only [qR] at this;have h1:=Array.all_eq_true'.1 this.1 e (by simpa using he);simpa [hb] using h1
 ·intro i j x y hi hj jf hc;have:=vc _ (JJ j y hj);simp only [qR] at this;have h1:=List.all_eq_true.1 this.2 _ (JJ i x hi);simpa [jf,hc] using h1
 ·intro j hj;subst hj;simp only [qoI] at kx;cases ho:ops[j]? with
  | none=>simp [ho] at kx
  | some o =>
   simp only [ho] at kx;split at kx
   ·rename_i ty t h1 h2 h3;refine ⟨o,ty,t,rfl,h1,h2,h3,fun k y hk hkj ht=>?_⟩;have:=List.all_eq_true.1 kx _ (JJ k y hk);have hc:(Z6 ops y).contains t = true:=(by simpa using ht);simp only [hc,beq_iff_eq,hkj,Bool.not_true,Bool.or_false,qR,decide_eq_true_eq,qbG,false_or] at this;refine ⟨this.1,fun i x hi jf hk=>?_⟩;have h4:=List.all_eq_true.1 this.2 _ (JJ i x hi);simpa [jf,hk] using h4
   ·cases kx
theorem qzP {ops:Array Oper} {i j:Nat} {x y:Oper} (h:JO X bw L al ops i x j y = true):JO X bw L al ops j y i x = true:=by
 unfold JO at *;rw [Nat.max_comm j i];simp only [qbG,qR] at *;rcases h with (((h | h) | h) | h) | h
 ·exact .inl (.inl (.inl (.inr h)))
 ·exact .inl (.inl (.inl (.inl h)))
 ·exact .inl (.inl (.inr ⟨⟨h.1.2,h.1.1⟩,h.2⟩))
 ·exact .inr ⟨⟨h.1.2,h.1.1⟩,h.2⟩
 ·exact .inl (.inr ⟨⟨h.1.2,h.1.1⟩,h.2⟩)
theorem qgm {ops:Array Oper} {i j:Nat} {x y:Oper} (hx:zI X (bw x.dst) x.op = true) (hy:zI X (bw y.dst) y.op = true) (kx:al≠some (max i j)):JO X bw L al ops i x j y = true:=by
 unfold JO;have:(al == some (max i j)) = false:=by simpa using kx
 simp only [hx,hy,this,Bool.not_false,Bool.and_true,Bool.or_true,Bool.true_or]
theorem qqk (hs:Sim X ok w ι H) (hw:qaw w w') (zf:w.heap.size≤w'.heap.size) (za:∀ c,c < w.heap.size→w'.heap[c]? = w.heap[c]?):Sim X ok w' ι H∧Evol H.length ok w ι H ok w' ι H:=by
 have hev:Evol H.length ok w ι H ok w' ι H :=
  ⟨hw.1,hw.2.1,hw.2.2,zf,fun c hc _=>za c hc,fun _ h=>h,fun _ h _=>.inl h,⟨qz _,qz _⟩,fun _ _ ds hd=>⟨ds,hd,qz _,fun _=>rfl⟩,
   fun i ds _ s hd hi _=>⟨i,ds,s,hd,hi⟩⟩
 refine ⟨⟨fun c hc=>jM (hs.okS c hc) zf,fun g cs hg=>?_,hs.inj,fun k es he=>?_⟩,hev⟩
 ·have h:=(hs.glob g cs hg).lift (ι:=ι) (H:=H);exact (h.evol hs hev rfl).free rfl _ _
 ·obtain ⟨c,arr2,e2,fr2,h1,h2,h3,h4,h5,h6,h7,h8⟩:=hs.blk k es he;exact ⟨c,arr2,e2,fr2,h1,h2,by rw [za c (hs.lt he h1)];exact h3,h4,h5,h6,h7,fun j d hj=>(h8 j d hj).evol hs hev (h8 j d hj).closed⟩
theorem qhi {ds:List D} {ι2:qB} (hι:∀ k,k < H.length→ι2 k = ι k) {ι1:qB} {H1:qi} {d:D} {v:Value} (h:Rep ok w ι1 H1 d v):ι1 = ι→H1 = H→Rep ok w ι2 (vw H ds) d v:=by
 induction h with
 | bool b=>intros;exact .bool b
 | int k n=>intros;exact .int k n
 | str s=>intros;exact .str s
 | nilp=>intros;exact .nilp
 | nilf=>intros;exact .nilf
 | nili=>intros;exact .nili
 | raw v=>intros;exact .raw v
 | agg hl hc h ih=>intro h1 h2;exact .agg hl hc fun j d hj=>ih j d hj h1 h2
 | tup hl h ih=>intro h1 h2;exact .tup hl fun j d hj=>ih j d hj h1 h2
 | fn hl h ih=>intro h1 h2;exact .fn hl fun j d hj=>ih j d hj h1 h2
 | iface h ih=>intro h1 h2;exact .iface (ih h1 h2)
 | optr a hi hk =>
  intro h1 h2;subst h1;subst h2;refine .optr a (by rw [Vd];omega) fun ds' zm=>?_;rw [qce hi] at zm;obtain ⟨k1,k2⟩:=hk ds' zm;exact ⟨k1,fun e=>by obtain ⟨b,s,q1,q2⟩:=k2 e;exact ⟨b,s,by rw [hι _ hi];exact q1,q2⟩⟩
 | osl a hi hk qO =>
  intro h1 h2;subst h1;subst h2;refine .osl a (by rw [Vd];omega) (fun ds' zm=>?_) qO;rw [qce hi] at zm;obtain ⟨k1,k2⟩:=hk ds' zm;exact ⟨k1,fun e=>by obtain ⟨b,s,q1,q2⟩:=k2 e;exact ⟨b,s,by rw [hι _ hi];exact q1,q2⟩⟩
 | vptr a f ha hc hr h ih=>intros;exact .vptr a f ha hc hr h
 | vnil=>intros;exact .vnil
 | vsl a f ha hc hr h qO ih=>intros;exact .vsl a f ha hc hr h qO
theorem qpR {ds:List D} {b:Nat} {arr:Array Value} {e:TypeId} {fr:Nat × Nat} (hs:Sim X ok w ι H) (hb:w.heap[b]? = some (.cells arr e fr)) (zR:¬ ok b) (hfree:∀ q es s,qo H q = some es→ι q≠some (b,s))
  (YZ:ds.length≤arr.size) (kw:fr.1 = fr.2∨arr.size≤fr.1) (Zg:∀ j,j < arr.size→(arr.getD j undef).oneCell' = true) (Jp:∀ d,d∈ds→zP d = true) (hrep:∀ (j:Nat) d,ds[j]? = some d→Rep ok w ι H d (arr.getD j undef)) :
  ∃ ι',Sim X ok w ι' (vw H ds)∧ι' H.length = some (b,arr.size)∧(∀ d v,Rep ok w ι H d v→Rep ok w ι' (vw H ds) d v) ∧
   ∀ (n:Nat) (ok0:Nat→Prop) (w0:World) (ι0:qB) (H0:qi),Evol n ok0 w0 ι0 H0 ok w ι H→w0.heap.size≤b→Evol n ok0 w0 ι0 H0 ok w ι' (vw H ds):=by
 have hι:∀ k,k < H.length→(fun k=>if k = H.length then some (b,arr.size) else ι k) k = ι k:=fun k hk=>by simp [KG hk]
 have split:∀ k es,qo (vw H ds) k = some es→(k = H.length∧es = ds)∨(k < H.length∧qo H k = some es):=by
  intro k es he;by_cases vF:k = H.length
  ·subst vF;rw [Yk] at he;injection he with he;exact .inl ⟨rfl,he.symm⟩
  ·have qh:k < H.length:=by
    have:=ZE he;rw [Vd] at this;omega
   rw [qce qh] at he;exact .inr ⟨qh,he⟩
 refine ⟨fun k=>if k = H.length then some (b,arr.size) else ι k,⟨hs.okS,hs.glob,?_,?_⟩,by simp,fun d v h=>qhi hι h rfl rfl,fun n ok0 w0 ι0 H0 he Kv=>⟨he.os,he.tape,he.output,he.size,he.frame,he.okU,he.okN,⟨he.nle.1,by have:=he.nle.2;rw [Vd];omega⟩,fun i hi ds' zm=>?_,fun i ds' c s hd hi hc=>?_⟩⟩
 ·intro p q es fs c s s' hp hq hιp hιq;rcases split p es hp with ⟨rfl,_⟩ | ⟨Kr,hp2⟩ <;> rcases split q fs hq with ⟨rfl,_⟩ | ⟨hq1,ZA⟩
  ·rfl
  ·simp only [if_true,KG hq1,if_false,qs,qM] at hιp hιq;rw [← hιp.1] at hιq;exact absurd hιq (hfree q fs s' ZA)
  ·simp only [if_true,KG Kr,if_false,qs,qM] at hιp hιq;rw [← hιq.1] at hιp;exact absurd hιp (hfree p es s hp2)
  ·simp only [KG Kr,KG hq1,if_false] at hιp hιq;exact hs.inj p q es fs c s s' hp2 ZA hιp hιq
 ·intro k es he;rcases split k es he with ⟨rfl,rfl⟩ | ⟨hk,he⟩
  ·exact ⟨b,arr,e,fr,by simp,zR,hb,YZ,kw,Zg,Jp,fun j d hj=>qhi hι (hrep j d hj) rfl rfl⟩
  ·obtain ⟨c,arr2,e2,fr2,h1,h2,h3,h4,h5,h6,h7,h8⟩:=hs.blk k es he;exact ⟨c,arr2,e2,fr2,by simp [KG hk,h1],h2,h3,h4,h5,h6,h7,fun j d hj=>qhi hι (h8 j d hj) rfl rfl⟩
 ·have qh:i < H.length:=jM hi he.nle.2;rw [qce qh] at zm;obtain ⟨es,k1,k2,k3⟩:=he.heap i hi ds' zm;exact ⟨es,k1,k2,fun e=>by simp only [KG qh,if_false];exact k3 e⟩
 ·rcases split i ds' hd with ⟨rfl,_⟩ | ⟨h1,h2⟩
  ·simp only [if_true,qs,qM] at hi;omega
  ·simp only [KG h1,if_false] at hi;exact he.own i ds' c s h2 hi hc
theorem q0X {t:TypeId} {cs:List D} (h:(VX X.P t).bind cellsOf = some cs) (w:World):∃ (arr:Array Value),(Instr.alloc t true (.tuple #[])).run X.P w = .ok (.pointer (some ⟨w.heap.size,0,none⟩)) (w.alloc (.cells arr t)) ∧
  cs.length≤arr.size∧(∀ j,j < arr.size→(arr.getD j undef).oneCell' = true)∧(∀ d,d∈cs→zP d = true)∧∀ (ok:Nat→Prop) (w:World) (ι:qB) (H:qi) (j:Nat) d,cs[j]? = some d→Rep ok w ι H d (arr.getD j undef):=by
 cases hz:VX X.P t with
 | none=>simp [hz] at h
 | some z =>
  simp only [hz,Y1] at h;obtain ⟨zv,z1,z2⟩:=qdh hz;have c0:=fun ok w ι H=>Yt (z2 ok w ι H) h;obtain ⟨c1,c2,c3⟩:=c0 (fun _=>True) w ze [];refine ⟨zv.cells,by simp [Instr.alloc,z1,newVar,newRow],by omega,fun j hj=>?_,c2,fun ok w ι H=>(c0 ok w ι H).2.2⟩;have kG:cs[j]? = some (cs[j]'(by omega)):=zg (by omega);exact (c3 j _ kG).oneCell (c2 _ (mem_of_get? kG))
theorem qhE {p:D} {b:Nat} (hb:Xk p = some b):∀ {l:List (Option D)},some p∈l→b∈kE l
 | [],h=>by cases h
 | some d :: l,h=>by
  simp only [kE,qbD];rcases List.mem_cons.1 h with h | h
  ·injection h with h;subst h;exact .inl (by simp [hb])
  ·exact .inr (qhE hb h)
 | none :: l,h=>by
  rcases List.mem_cons.1 h with h | h
  ·cases h
  ·simp only [kE];exact qhE hb h
theorem qnE {F:zk} (hF:JT X F) {nt:Nat} {ops:Array Oper} {Q:Exit→Act→World→Prop} (hD:DrawFacts X bw L al ops) {e e':qp} {a:Act} {E:Nat→qp} {T:Nat→qi} (hE0:E 0 = e) (hT0:T 0 = H) (VL:E ops.toList.length = e') (hTn:T ops.toList.length = H')
  (hstep:∀ k o,ops.toList[k]? = some o→qav X F nt bw ops o (E k) (T k) (E (k+1)) (T (k+1))) (hTr:q1g X ops L E T)
  (hs:Sim X ok w ι H) (he:EnvRep ok w ι H e a.tmps) (Vg:nt≤a.tmps.size) (hQ:∀ a' w',Out X H.length ok w ι H a e' H' a' w'→Q .normal a' w') :
  wpAny X.P .any ops Q ops.size (Array.replicate ops.size false) a w:=by
 have hstep':∀ (k:Nat) (o:Oper),ops[k]? = some o→qav X F nt bw ops o (E k) (T k) (E (k+1)) (T (k+1)):=fun k o hk=>hstep k o (by simpa using hk);have hEn':E ops.size = e':=by simpa using VL
 have hTn':T ops.size = H':=by simpa using hTn
 have hslot:∀ (t a b:Nat),a≤b→b≤ops.size→(∀ i o,ops[i]? = some o→o.dst = some t→¬ (a≤i∧i < b))→qf (E b) t = qf (E a) t:=by
  intro t a b hab
  induction b with
  | zero=>intro _ _;have:a = 0:=by omega
          subst this;rfl
  | succ b ih =>
   intro hb zR;by_cases hab':a = b+1
   ·rw [hab']
   ·have qh:b < ops.size:=(by omega);have ho:=Jy qh;have hih:=ih (by omega) (by omega) (fun i o hi hd h=>zR i o hi hd ⟨h.1,by omega⟩);rw [← hih];obtain ⟨_,h | h⟩:=hstep' b _ ho
    ·obtain ⟨_,d,_,h3⟩:=h;rw [h3,qf7,if_neg (fun hd=>zR b _ ho hd ⟨by omega,by omega⟩)]
    ·obtain ⟨_,_,h3⟩:=h;rw [h3,qf7,if_neg (fun hd=>zR b _ ho hd ⟨by omega,by omega⟩)]
 have hnoK:∀ (k:Nat) (o:Oper),ops[k]? = some o→zI X (bw o.dst) o.op = false→T (k+1) = T k:=by
  intro k o ho hk;obtain ⟨_,h | h⟩:=hstep' k o ho
  ·obtain ⟨_,d,h2,_⟩:=h;unfold zI at hk;cases QO:Q1 X (bw o.dst) o.op with
   | v=>exact (qlZ QO h2).1
   | r=>exact (qma (T2:=T k) QO h2 (fun _ _ _ _ _ _ _=>rfl)).1
   | e=>simp [QO] at hk
   | m=>simp [QO] at hk
  ·exact h.2.1
 have JJ:∀ (a b:Nat),a≤b→b≤ops.size→(∀ i o,ops[i]? = some o→zI X (bw o.dst) o.op = true→¬ (a≤i∧i < b))→T b = T a:=by
  intro a b hab
  induction b with
  | zero=>intro _ _;have:a = 0:=by omega
          subst this;rfl
  | succ b ih =>
   intro hb zR;by_cases hab':a = b+1
   ·rw [hab']
   ·have qh:b < ops.size:=(by omega);have ho:=Jy qh;rw [← ih (by omega) (by omega) (fun i o hi hd h=>zR i o hi hd ⟨h.1,by omega⟩)];refine hnoK b _ ho ?_;cases hk:zI X (bw ops[b].dst) ops[b].op with
    | false=>rfl
    | true=>exact absurd ⟨by omega,by omega⟩ (zR b _ ho hk)
 have hread:∀ (q a b:Nat),a≤b→b≤ops.size→q < (T a).length →
   (∀ i o,ops[i]? = some o→Q1 X (bw o.dst) o.op = .m→jw ops (E i) o.guard = some true→a≤i→i < b→(T i).length≤(T (i+1)).length∧qo (T (i+1)) q = qo (T i) q)→qo (T b) q = qo (T a) q∧q < (T b).length:=by
  intro q a b hab
  induction b with
  | zero=>intro _ hq _;have:a = 0:=by omega
          subst this;exact ⟨rfl,hq⟩
  | succ b ih =>
   intro hb hq zR;by_cases hab':a = b+1
   ·subst hab';exact ⟨rfl,hq⟩
   ·have qh:b < ops.size:=(by omega);have ho:=Jy qh;obtain ⟨h1,h2⟩:=ih (by omega) (by omega) hq (fun i o hi hd hg h3 h4=>zR i o hi hd hg h3 (by omega));cases QO:Q1 X (bw ops[b].dst) ops[b].op with
    | v=>rw [hnoK b _ ho (by simp only [zI,QO])];exact ⟨h1,h2⟩
    | r=>rw [hnoK b _ ho (by simp only [zI,QO])];exact ⟨h1,h2⟩
    | m =>
     obtain ⟨_,h | h⟩:=hstep' b _ ho
     ·obtain ⟨k1,k2⟩:=zR b _ ho QO h.1 (by omega) (by omega);exact ⟨k2.trans h1,by omega⟩
     ·rw [h.2.1];exact ⟨h1,h2⟩
    | e =>
     obtain ⟨_,h | h⟩:=hstep' b _ ho
     ·obtain ⟨_,d,h3,_⟩:=h;obtain ⟨M,hM⟩:=qus QO h3;rw [hM,qcf h2];exact ⟨h1,by simp;omega⟩
     ·rw [h.2.1];exact ⟨h1,h2⟩
 have halK:∀ i,al = some i→∃ o,ops[i]? = some o∧Q1 X (bw o.dst) o.op = .e:=by
  intro i zD;obtain ⟨o,ty,t,g1,g2,-,-,-⟩:=hD.alo i zD;refine ⟨o,g1,?_⟩;rw [g2];cases bw o.dst <;> rfl
 let Pend:Array Bool→Act→World→Nat→qB→(Nat→Prop)→Prop:=fun listed a1 w1 m ι1 ok1=>∃ (i:Nat) (o:Oper) (t:Nat) (b:Nat) (arr:Array Value) (ty:TypeId) (fr:Nat × Nat) (cs:List D),al = some i∧ops[i]? = some o∧o.dst = some t∧m≤i ∧
  T (i+1) = vw (T i) cs∧E (i+1) = vg (E i) (some t) (.optr (T i).length cs.length 0)∧t < a1.tmps.size∧a1.tmps.getD t undef = .pointer (some ⟨b,0,none⟩)∧w1.heap[b]? = some (.cells arr ty fr)∧¬ ok1 b∧(∀ q es s,qo (T m) q = some es→ι1 q≠some (b,s))∧w.heap.size≤b ∧
  cs.length≤arr.size∧(fr.1 = fr.2∨arr.size≤fr.1)∧(∀ j,j < arr.size→(arr.getD j undef).oneCell' = true)∧(∀ d,d∈cs→zP d = true)∧(∀ (ok:Nat→Prop) (w:World) (ι:qB) (H:qi) (j:Nat) d,cs[j]? = some d→Rep ok w ι H d (arr.getD j undef)) ∧
  ∀ k y,ops[k]? = some y→k≠i→t∈Z6 ops y→listed.getD k false = false
 have main:∀ (fuel:Nat) (listed:Array Bool) (a1:Act) (w1:World) (m:Nat) (ι1:qB) (ok1:Nat→Prop) (pend:Bool),listed.size = ops.size →
   ((List.range ops.size).filter fun i=>!listed.getD i false).length≤fuel →
   (∀ i o,ops[i]? = some o→listed.getD i false = true→qcS (fun k=>listed.getD k false = true) o) →
   m≤ops.size→(∀ i o,ops[i]? = some o→zI X (bw o.dst) o.op = true→al≠some i→(listed.getD i false = true↔i < m))→(∀ i,al = some i→(listed.getD i false = true↔(i < m∨pend = true)))→(pend = true→Pend listed a1 w1 m ι1 ok1) →
   Sim X ok1 w1 ι1 (T m)→Evol H.length ok w ι H ok1 w1 ι1 (T m)→a1.tmps.size = a.tmps.size→a1.defers = a.defers →
   (∀ t k,k≤ops.size→(∀ i o,ops[i]? = some o→o.dst = some t→(listed.getD i false = true↔i < k))→(pend = true→∀ i o,al = some i→ops[i]? = some o→o.dst≠some t)→∀ d,qf (E k) t = some d→t < a1.tmps.size∧Rep ok1 w1 ι1 (T m) d (a1.tmps.getD t undef)) →
   wpAny X.P .any ops Q fuel listed a1 w1:=by
  have absorb:∀ (listed:Array Bool) (a1:Act) (w1:World) (m:Nat) (ι1:qB) (ok1:Nat→Prop) (pend:Bool),
   m≤ops.size→(∀ i o,ops[i]? = some o→zI X (bw o.dst) o.op = true→al≠some i→(listed.getD i false = true↔i < m))→(∀ i,al = some i→(listed.getD i false = true↔(i < m∨pend = true)))→(pend = true→Pend listed a1 w1 m ι1 ok1) →
   Sim X ok1 w1 ι1 (T m)→Evol H.length ok w ι H ok1 w1 ι1 (T m)→a1.tmps.size = a.tmps.size→a1.defers = a.defers →
   (∀ t k,k≤ops.size→(∀ i o,ops[i]? = some o→o.dst = some t→(listed.getD i false = true↔i < k))→(pend = true→∀ i o,al = some i→ops[i]? = some o→o.dst≠some t)→∀ d,qf (E k) t = some d→t < a1.tmps.size∧Rep ok1 w1 ι1 (T m) d (a1.tmps.getD t undef)) →
   (∀ i o k,al = some k→ops[i]? = some o→zI X (bw o.dst) o.op = true→i < k→listed.getD i false = true) →
   ∃ (m2:Nat) (ι2:qB),m2≤ops.size∧(∀ i o,ops[i]? = some o→zI X (bw o.dst) o.op = true→(listed.getD i false = true↔i < m2))∧Sim X ok1 w1 ι2 (T m2)∧Evol H.length ok w ι H ok1 w1 ι2 (T m2) ∧
    (∀ t k,k≤ops.size→(∀ i o,ops[i]? = some o→o.dst = some t→(listed.getD i false = true↔i < k))→∀ d,qf (E k) t = some d→t < a1.tmps.size∧Rep ok1 w1 ι2 (T m2) d (a1.tmps.getD t undef)):=by
   intro listed a1 w1 m ι1 ok1 pend hm hK hJ hP hsim hevol h1 h2 Ko vc;cases pend with
   | false =>
    refine ⟨m,ι1,hm,fun i o ho hk=>?_,hsim,hevol,fun t k hk Vq d hd=>Ko t k hk Vq (fun h=>by cases h) d hd⟩;by_cases zD:al = some i
    ·have:=hJ i zD;simpa using this
    ·exact hK i o ho hk zD
   | true =>
    obtain ⟨j0,o,t0,b,arr,ty,fr,cs,p1,p2,p3,p4,p5,p6,p7,p8,p9,p10,p11,p12,p13,p14,p15,p16,p17,p18⟩:=hP rfl;have hj0:=(Array.getElem?_eq_some_iff.1 p2).1
    have hTm:T j0 = T m:=JJ m j0 p4 (by omega) fun i x hx hk hi=>by
     have qr:al≠some i:=(by rw [p1];intro h;injection h with h;omega);have:=(hK i x hx hk qr).1 (vc i x j0 p1 hx hk hi.2);omega
    obtain ⟨ι2,s1,s2,s3,s4⟩:=qpR (ds:=cs) hsim p9 p10 p11 p13 p14 p15 p16 (fun j d hj=>p17 _ _ _ _ j d hj);have Vr:T (j0+1) = vw (T m) cs:=(by rw [p5,hTm]);rw [hTm] at p6;refine ⟨j0+1,ι2,by omega,fun i x hx hk=>?_,by rw [Vr];exact s1,by rw [Vr];exact s4 _ _ _ _ _ hevol p12,fun t k hk Vq d hd=>?_⟩
    ·by_cases zD:al = some i
     ·have:i = j0:=(by rw [p1] at zD;injection zD with h;exact h.symm);subst this;exact ⟨fun _=>Nat.lt_succ_self _,fun _=>(hJ i zD).2 (.inr rfl)⟩
     ·have qr:i≠j0:=fun h=>zD (by rw [h];exact p1);have h3:=hK i x hx hk zD;exact ⟨fun hl=>by have:=h3.1 hl;omega,fun qh=>vc i x j0 p1 hx hk (by omega)⟩
    ·rw [Vr];by_cases ht:t0 = t
     ·subst ht;have X9:j0 < k:=(Vq j0 o p2 p3).1 ((hJ j0 p1).2 (.inr rfl))
      have hl:=hslot t0 (j0+1) k (by omega) hk fun i x hx vH hik=>by
       have:=p18 i x hx (by omega) (by simp [Z6,vH]);rw [(Vq i x hx vH).2 hik.2] at this;cases this
      rw [hl,p6,qf7,if_pos rfl] at hd;injection hd with hd;subst hd;refine ⟨p7,?_⟩;rw [p8];refine .optr _ (by rw [Vd];omega) fun ds Ym=>?_;rw [Yk] at Ym;injection Ym with Ym;subst Ym;exact ⟨qz _,fun _=>⟨_,_,s2,rfl⟩⟩
     ·obtain ⟨q1,q2⟩:=Ko t k hk Vq (fun _ i x zD hx=>by
       have:i = j0:=(by rw [p1] at zD;injection zD with h;exact h.symm);subst this;rw [p2] at hx;injection hx with hx;subst hx;rw [p3];intro h;injection h with h;exact ht h) d hd
      exact ⟨q1,s3 _ _ q2⟩
  have fin:∀ (listed:Array Bool) (a1:Act) (w1:World) (m:Nat) (ι1:qB) (ok1:Nat→Prop),(∀ i,i < ops.size→listed.getD i false = true)→m≤ops.size →
    (∀ i o,ops[i]? = some o→zI X (bw o.dst) o.op = true→(listed.getD i false = true↔i < m)) →
    Sim X ok1 w1 ι1 (T m)→Evol H.length ok w ι H ok1 w1 ι1 (T m)→a1.tmps.size = a.tmps.size→a1.defers = a.defers →
    (∀ t k,k≤ops.size→(∀ i o,ops[i]? = some o→o.dst = some t→(listed.getD i false = true↔i < k))→∀ d,qf (E k) t = some d→t < a1.tmps.size∧Rep ok1 w1 ι1 (T m) d (a1.tmps.getD t undef))→Q .normal a1 w1:=by
   intro listed a1 w1 m ι1 ok1 vc hm hK hsim hevol h1 h2 Ko
   have hT:T ops.size = T m:=JJ m ops.size hm (qz _) (fun i o ho hk h=>by
    have:=(hK i o ho hk).1 (vc i h.2);omega)
   rw [hTn'] at hT;rw [← hT] at hsim hevol Ko;refine hQ a1 w1 ⟨h1,h2,ι1,ok1,hsim,fun t d ht=>?_,hevol⟩;rw [← hEn'] at ht;exact Ko t ops.size (qz _) (fun i o ho _=>⟨fun _=>(Array.getElem?_eq_some_iff.1 ho).1,fun h=>vc i h⟩) d ht
  have finA:∀ (listed:Array Bool) (a1:Act) (w1:World) (m:Nat) (ι1:qB) (ok1:Nat→Prop) (pend:Bool),(∀ i,i < ops.size→listed.getD i false = true) →
   m≤ops.size→(∀ i o,ops[i]? = some o→zI X (bw o.dst) o.op = true→al≠some i→(listed.getD i false = true↔i < m))→(∀ i,al = some i→(listed.getD i false = true↔(i < m∨pend = true)))→(pend = true→Pend listed a1 w1 m ι1 ok1) →
   Sim X ok1 w1 ι1 (T m)→Evol H.length ok w ι H ok1 w1 ι1 (T m)→a1.tmps.size = a.tmps.size→a1.defers = a.defers →
   (∀ t k,k≤ops.size→(∀ i o,ops[i]? = some o→o.dst = some t→(listed.getD i false = true↔i < k))→(pend = true→∀ i o,al = some i→ops[i]? = some o→o.dst≠some t)→∀ d,qf (E k) t = some d→t < a1.tmps.size∧Rep ok1 w1 ι1 (T m) d (a1.tmps.getD t undef)) →
   Q .normal a1 w1:=by
   intro listed a1 w1 m ι1 ok1 pend vc hm hK hJ hP hsim hevol h1 h2 Ko;obtain ⟨m2,ι2,q1,q2,q3,q4,q5⟩:=absorb listed a1 w1 m ι1 ok1 pend hm hK hJ hP hsim hevol h1 h2 Ko (fun i o k _ ho _ _=>vc i (Array.getElem?_eq_some_iff.1 ho).1);exact fin listed a1 w1 m2 ι2 ok1 vc q1 q2 q3 q4 h1 h2 q5
  intro fuel
  induction fuel with
  | zero =>
   intro listed a1 w1 m ι1 ok1 pend zf hcnt j9 hm hK hJ hP hsim hevol h1 h2 Ko
   have vc:∀ i,i < ops.size→listed.getD i false = true:=by
    intro i hi;cases hl:listed.getD i false with
    | true=>rfl
    | false =>
     have:i∈(List.range ops.size).filter fun i=>!listed.getD i false:=by
      rw [List.mem_filter];exact ⟨List.mem_range.2 hi,by simp only [hl];rfl⟩
     have qr:=List.length_pos_of_mem this;omega
   refine ⟨?_,finA listed a1 w1 m ι1 ok1 pend vc hm hK hJ hP hsim hevol h1 h2 Ko⟩;unfold Region.ready;rw [List.filter_eq_nil_iff];intro i hi;have qh:=List.mem_range.1 hi;have:=vc i qh
   have h3:listed.getD i true = true:=by
    rw [jm,Jy (by omega)] at this ⊢;exact this
   simp [h3]
  | succ fuel ih =>
   intro listed a1 w1 m0 ι0 ok1 pend0 zf hcnt j9 hm0 hK0 hJ0 hP0 hsim0 hevol0 h1 h2 hslots0
   obtain ⟨m,ι1,pend,hm,hK,hJ,hP,hsim,hevol,Ko,hwait⟩:∃ (m:Nat) (ι1:qB) (pend:Bool),m≤ops.size∧(∀ i o,ops[i]? = some o→zI X (bw o.dst) o.op = true→al≠some i→(listed.getD i false = true↔i < m))∧(∀ i,al = some i→(listed.getD i false = true↔(i < m∨pend = true)))∧(pend = true→Pend listed a1 w1 m ι1 ok1) ∧
     Sim X ok1 w1 ι1 (T m)∧Evol H.length ok w ι H ok1 w1 ι1 (T m) ∧
     (∀ t k,k≤ops.size→(∀ i o,ops[i]? = some o→o.dst = some t→(listed.getD i false = true↔i < k))→(pend = true→∀ i o,al = some i→ops[i]? = some o→o.dst≠some t)→∀ d,qf (E k) t = some d→t < a1.tmps.size∧Rep ok1 w1 ι1 (T m) d (a1.tmps.getD t undef)) ∧
     (pend = true→∃ i o k,al = some k∧ops[i]? = some o∧zI X (bw o.dst) o.op = true∧i < k∧listed.getD i false = false):=by
    by_cases vc:∀ i o k,al = some k→ops[i]? = some o→zI X (bw o.dst) o.op = true→i < k→listed.getD i false = true
    ·obtain ⟨m2,ι2,q1,q2,q3,q4,q5⟩:=absorb listed a1 w1 m0 ι0 ok1 pend0 hm0 hK0 hJ0 hP0 hsim0 hevol0 h1 h2 hslots0 vc;refine ⟨m2,ι2,false,q1,fun i o ho hk _=>q2 i o ho hk,fun i zD=>?_,(fun h=>by cases h),q3,q4,fun t k hk Vq _ d hd=>q5 t k hk Vq d hd,(fun h=>by cases h)⟩;obtain ⟨o,g1,g2⟩:=halK i zD;simpa using q2 i o g1 (by simp only [zI,g2])
    ·refine ⟨m0,ι0,pend0,hm0,hK0,hJ0,hP0,hsim0,hevol0,hslots0,fun _=>?_⟩;simp only [Classical.not_forall] at vc;obtain ⟨i,o,k,g1,g2,g3,g4,g5⟩:=vc;exact ⟨i,o,k,g1,g2,g3,g4,by simpa using g5⟩
   have hready:∀ j,j∈Region.ready .any ops listed↔∃ o,ops[j]? = some o∧listed.getD j false = false∧qcS (fun k=>listed.getD k false = true) o:=by
    intro j;unfold Region.ready;rw [List.mem_filter];constructor
    ·rintro ⟨hj,hc⟩;have qh:=List.mem_range.1 hj;simp only [Jy qh,jC,Ju,qR,Bool.not_eq_true'] at hc;refine ⟨_,Jy qh,?_,?_⟩
     ·rw [jm,Jy (by omega)] at hc ⊢;exact hc.1
     ·intro e he hb;have:=Array.all_eq_true'.1 hc.2 e (by simpa using he);simpa [hb] using this
    ·rintro ⟨o,ho,hl,hed⟩;have qh:=(Array.getElem?_eq_some_iff.1 ho).1;refine ⟨List.mem_range.2 qh,?_⟩;simp only [ho,jC,Ju,qR,Bool.not_eq_true'];refine ⟨?_,?_⟩
     ·rw [jm,Jy (by omega)] at hl ⊢;exact hl
     ·rw [Array.all_eq_true'];intro e he;cases hb:Region.binds .any e with
      | false=>simp
      | true=>simpa [hb] using hed e (by simpa using he) hb
   refine ⟨fun qQ=>?_,fun j hj=>?_⟩
   ·refine finA listed a1 w1 m ι1 ok1 pend ?_ hm hK hJ hP hsim hevol h1 h2 Ko;intro i
    induction i using Nat.strongRecOn with
    | _ i ihi =>
     intro hi;cases hl:listed.getD i false with
     | true=>rfl
     | false =>
      have ho:=Jy hi
      have:i∈Region.ready .any ops listed:=(hready i).2 ⟨_,ho,hl,fun e he hb=>by
       have qh:=hD.edge i _ ho e he hb;exact ihi e.on qh (by omega)⟩
      rw [qQ] at this;simp at this
   ·obtain ⟨o,ho,hunl,hed⟩:=(hready j).1 hj;have JK:=(Array.getElem?_eq_some_iff.1 ho).1
    have hbef:∀ i x,ops[i]? = some x→i < j→JO X bw L al ops i x j o = true→listed.getD i false = true:=fun i x hx jf hc =>
     qiT (S:=fun k=>listed.getD k false = true) j9 ho hed (hD.ord i j x o hx ho jf hc)
    have haft:∀ i x,ops[i]? = some x→j < i→JO X bw L al ops j o i x = true→listed.getD i false = false:=by
     intro i x hx jf hc;cases hl:listed.getD i false with
     | false=>rfl
     | true =>
      have:=qiT (S:=fun k=>listed.getD k false = true) j9 hx (j9 i x hx hl) (hD.ord j i o x ho hx jf hc);rw [hunl] at this;cases this
    have hagree:∀ i x,ops[i]? = some x→(i≠j→JO X bw L al ops i x j o = true)→(listed.getD i false = true↔i < j):=by
     intro i x hx hc;rcases Nat.lt_trichotomy i j with h | h | h
     ·exact ⟨fun _=>h,fun _=>hbef i x hx h (hc (by omega))⟩
     ·subst h;exact ⟨fun h=>(by rw [hunl] at h;cases h),fun h=>(by omega)⟩
     ·exact ⟨fun hl=>(by rw [haft i x hx h (qzP (hc (by omega)))] at hl;cases hl),fun h=>(by omega)⟩
    have hnp:pend = true→al≠some j:=by
     intro hp hj;have:=(hJ j hj).2 (.inr hp);rw [hunl] at this;cases this
    have hnt0:pend = true→∀ i y,al = some i→ops[i]? = some y→∀ t,y.dst = some t→t ∉ Z6 ops o:=by
     intro hp i y zD hy t hyt ht;obtain ⟨y',ty,t',g1,g2,g3,g4,g5⟩:=hD.alo i zD;rw [hy] at g1;injection g1 with g1;subst g1;rw [hyt] at g3;injection g3 with g3;subst g3;have qr:j≠i:=fun h=>hnp hp (by rw [h];exact zD);obtain ⟨q,x,k,u1,u2,u3,u4,u5⟩:=hwait hp;have vF:k = i:=(by rw [zD] at u1;injection u1 with u1;exact u1.symm);subst vF;have:=qiT (S:=fun k=>listed.getD k false = true) j9 ho hed ((g5 j o ho qr ht).2 q x u2 u4 u3);rw [u5] at this;cases this
    have hnames:∀ t,t∈Z6 ops o→∀ d,qf (E j) t = some d→t < a1.tmps.size∧Rep ok1 w1 ι1 (T m) d (a1.tmps.getD t undef):=by
     intro t ht d hd;refine Ko t j (by omega) (fun i x hx vH=>hagree i x hx (fun _=>?_)) (fun hp i y zD hy hyt=>hnt0 hp i y zD hy t hyt ht) d hd;unfold JO;simp only [vH,Option.any_some,qbG];exact .inl (.inl (.inl (.inl (by simpa using ht))))
    have hset:∀ i,(listed.setIfInBounds j true).getD i false = if i = j then true else listed.getD i false:=by
     intro i;rw [jm,jm];by_cases jf:i = j
     ·subst jf;simp [show i < listed.size by omega]
     ·rw [qcz (Ne.symm jf),if_neg jf]
    have htmp:∀ (v:Value) t,o.dst≠some t→(a1.put o.dst v).tmps.getD t undef = a1.tmps.getD t undef:=by
     intro v t ht;cases hod:o.dst with
     | none=>rfl
     | some s =>
      have:s≠t:=fun e=>ht (by rw [hod,e]);simp only [Act.put,jm];rw [qcz this]
    have hPk:∀ (v:Value) (w2:World) (ι2:qB) (ok2:Nat→Prop) (m':Nat),Evol (T m).length ok1 w1 ι1 (T m) ok2 w2 ι2 (T m')→(∀ i,al = some i→pend = true→m'≤i)→pend = true→Pend (listed.setIfInBounds j true) (a1.put o.dst v) w2 m' ι2 ok2:=by
     intro v w2 ι2 ok2 m' hev2 hmi hp;obtain ⟨j0,y,t0,b,arr,ty,fr,cs,p1,p2,p3,p4,p5,p6,p7,p8,p9,p10,p11,p12,p13,p14,p15,p16,p17,p18⟩:=hP hp;have zR:=hnt0 hp j0 y p1 p2 t0 p3;have hdn:o.dst≠some t0:=fun h=>zR (by simp [Z6,h]);have hblt:b < w1.heap.size:=(Array.getElem?_eq_some_iff.1 p9).1;refine ⟨j0,y,t0,b,arr,ty,fr,cs,p1,p2,p3,hmi j0 p1 hp,p5,p6,by rw [(qbS a1 o.dst v).1];exact p7,by rw [htmp v t0 hdn];exact p8,by rw [hev2.frame b hblt p11];exact p9,fun h=>?_,fun q es s hq h=>?_,p12,p13,p14,p15,p16,p17,fun k z hz hk hn=>?_⟩
     ·rcases hev2.okN b h hblt with h | ⟨i,ds,s,g1,g2⟩
      ·exact p10 h
      ·exact p11 i ds s g1 g2
     ·obtain ⟨q',ds,s',g1,g2⟩:=hev2.own q es b s hq h hblt;exact p11 _ _ _ g1 g2
     ·rw [hset]
      have hkj:k≠j:=by
       rintro rfl;rw [ho] at hz;injection hz with hz;subst hz;exact zR hn
      rw [if_neg hkj];exact p18 k z hz hk hn
    have finish:∀ (d:D) (v:Value) (w2:World) (ι2:qB) (ok2:Nat→Prop) (m':Nat) (pend':Bool),(pend = true→pend' = true)→E (j+1) = vg (E j) o.dst d→vo nt o.dst = true→Sim X ok2 w2 ι2 (T m')→((al = some j→pend' = false)→Rep ok2 w2 ι2 (T m') d v) →
      Evol (T m).length ok1 w1 ι1 (T m) ok2 w2 ι2 (T m')→m'≤ops.size→(∀ i x,ops[i]? = some x→zI X (bw x.dst) x.op = true→al≠some i→((listed.setIfInBounds j true).getD i false = true↔i < m')) →
      (∀ i,al = some i→((listed.setIfInBounds j true).getD i false = true↔(i < m'∨pend' = true)))→(pend' = true→Pend (listed.setIfInBounds j true) (a1.put o.dst v) w2 m' ι2 ok2) →
      wpAny X.P .any ops Q fuel (listed.setIfInBounds j true) (a1.put o.dst v) w2:=by
     intro d v w2 ι2 ok2 m' pend' JG hE vH hsim2 hrep hev2 YQ hK' hJ' hP'
     have hset':∀ i,(listed.setIfInBounds j true).getD i false = if i = j then true else listed.getD i false:=by
      intro i;rw [jm,jm];by_cases jf:i = j
      ·subst jf;simp [show i < listed.size by omega]
      ·rw [qcz (Ne.symm jf),if_neg jf]
     obtain ⟨p1,p2⟩:=qbS a1 o.dst v;refine ih _ _ w2 m' ι2 ok2 pend' (by simpa using zf) ?_ ?_ YQ hK' hJ' hP' hsim2 (hevol.trans (hev2.mono hevol.nle.2)) (by omega) (by rw [p2,h2]) ?_
     ·have qh:((List.range ops.size).filter fun i=>!(listed.setIfInBounds j true).getD i false).length < ((List.range ops.size).filter fun i=>!listed.getD i false).length:=by
       have hcong:((List.range ops.size).filter fun i=>!(listed.setIfInBounds j true).getD i false) = (((List.range ops.size).filter fun i=>!listed.getD i false).filter fun i=>decide (i≠j)):=by
        rw [List.filter_filter];apply List.filter_congr;intro i _;rw [hset i];by_cases jf:i = j <;> simp [jf]
       rw [hcong];refine List.length_filter_lt_length_iff_exists.2 ⟨j,?_,by simp⟩;rw [List.mem_filter];exact ⟨List.mem_range.2 JK,by simp only [hunl];rfl⟩
      omega
     ·intro i x hx hl e he hb;show (listed.setIfInBounds j true).getD e.on false = true;rw [hset] at hl ⊢;by_cases heo:e.on = j
      ·rw [if_pos heo]
      ·rw [if_neg heo];by_cases jf:i = j
       ·subst jf;rw [ho] at hx;injection hx with hx;subst hx;exact hed e he hb
       ·rw [if_neg jf] at hl;exact j9 i x hx hl e he hb
     ·intro t k hk Vq hex d' zm;by_cases ht:o.dst = some t
      ·have X9:j < k:=(Vq j o ho ht).1 (by rw [hset,if_pos rfl])
       have hl:=hslot t (j+1) k (by omega) hk (fun i x hx vH hik=>by
        have h3:=(Vq i x hx vH).2 hik.2;rw [hset,if_neg (by omega)] at h3
        have h4:=haft i x hx (by omega) (by
         unfold JO;simp only [ht,Option.any_some,qbG];exact .inl (.inl (.inl (.inl (by simp [Z6,vH])))))
        rw [h4] at h3;cases h3)
       rw [hl,hE,qf7,if_pos ht] at zm;injection zm with zm;subst zm;rw [ht] at vH ⊢;have qh:t < nt:=(by simpa [vo] using vH);have vE:t < a1.tmps.size:=jM qh (by omega);refine ⟨by simpa [Act.put] using vE,?_⟩
       have hrep:=hrep fun hj=>by
        cases hp':pend' with
        | false=>rfl
        | true=>exact absurd ht (hex hp' j o hj ho)
       simpa [Act.put,vE,jm] using hrep
      ·have hold:=Ko t k hk (fun i x hx vH=>by
        have h3:=Vq i x hx vH
        have jf:i≠j:=by
         rintro rfl;rw [ho] at hx;injection hx with hx;subst hx;exact ht vH
        rwa [hset,if_neg jf] at h3) (fun hp=>hex (JG hp)) d' zm
       refine ⟨by have h:=hold.1;rw [p1];exact h,?_⟩
       have htm:(a1.put o.dst v).tmps.getD t undef = a1.tmps.getD t undef:=by
        cases hod:o.dst with
        | none=>rfl
        | some s =>
         have:s≠t:=fun e=>ht (by rw [hod,e]);simp only [Act.put,jm];rw [qcz this]
       rw [htm];exact hold.2.evol hsim hev2 hold.2.closed
    have hK1:zI X (bw o.dst) o.op = false→∀ i x,ops[i]? = some x→zI X (bw x.dst) x.op = true→al≠some i→((listed.setIfInBounds j true).getD i false = true↔i < m):=by
     intro hk i x hx Qq zD
     have jf:i≠j:=by
      rintro rfl;rw [ho] at hx;injection hx with hx;subst hx;rw [hk] at Qq;cases Qq
     rw [hset,if_neg jf];exact hK i x hx Qq zD
    have hJ1:zI X (bw o.dst) o.op = false→∀ i,al = some i→((listed.setIfInBounds j true).getD i false = true↔(i < m∨pend = true)):=by
     intro hk i zD
     have jf:i≠j:=by
      rintro rfl;obtain ⟨x,g1,g2⟩:=halK i zD;rw [ho] at g1;injection g1 with g1;subst g1;simp only [zI,g2] at hk;cases hk
     rw [hset,if_neg jf];exact hJ i zD
    have zX:∀ i,al = some i→pend = true→m≤i:=by
     intro i zD hp;obtain ⟨j0,y,t0,b,arr,ty,fr,cs,p1,p2,p3,p4,-⟩:=hP hp;rw [zD] at p1;injection p1 with p1;omega
    have hKj:zI X (bw o.dst) o.op = true→(al = some j→∀ i x,ops[i]? = some x→zI X (bw x.dst) x.op = true→i < j→listed.getD i false = true) →
      ∀ i x,ops[i]? = some x→zI X (bw x.dst) x.op = true→(i < m↔i < j)∧(al≠some i→(listed.getD i false = true↔i < j)):=by
     intro hk Qb i x hx Qq
     have hord:al≠some i→(listed.getD i false = true↔i < j):=by
      intro zD;by_cases ZI:al = some j
      ·rcases Nat.lt_trichotomy i j with h | h | h
       ·exact ⟨fun _=>h,fun _=>Qb ZI i x hx Qq h⟩
       ·subst h;exact absurd ZI zD
       ·have hc:JO X bw L al ops j o i x = true:=qgm hk Qq (by rw [Nat.max_eq_right (by omega)];exact zD);exact ⟨fun hl=>(by rw [haft i x hx h hc] at hl;cases hl),fun h=>(by omega)⟩
      ·refine hagree i x hx fun _=>qgm Qq hk ?_;rcases Nat.le_total i j with h | h
       ·rw [Nat.max_eq_right h];exact ZI
       ·rw [Nat.max_eq_left h];exact zD
     refine ⟨?_,hord⟩;by_cases zD:al = some i
     ·by_cases jf:i = j
      ·subst jf
       have:¬ i < m:=fun h=>by
        have:=(hJ i zD).2 (.inl h);rw [hunl] at this;cases this
       exact ⟨fun h=>absurd h this,fun h=>absurd h (Nat.lt_irrefl _)⟩
      ·have ZI:al≠some j:=fun h=>by rw [zD] at h;injection h with h;exact jf h
       have hjm:¬ j < m:=fun h=>by
        have:=(hK j o ho hk ZI).2 h;rw [hunl] at this;cases this
       have qh:i < j→listed.getD i false = true:=fun h=>hbef i x hx h (qgm Qq hk (by rw [Nat.max_eq_right (by omega)];exact ZI));cases hp:pend with
       | false =>
        have h3:=hJ i zD;rw [hp] at h3;simp only [vC,or_false] at h3;refine ⟨fun h=>by omega,fun h=>h3.1 (qh h)⟩
       | true =>
        have h4:=zX i zD hp;obtain ⟨q,z,k,u1,u2,u3,u4,u5⟩:=hwait hp;have vF:k = i:=(by rw [zD] at u1;injection u1 with u1;exact u1.symm);subst vF;refine ⟨fun h=>by omega,fun h=>?_⟩;have hc:JO X bw L al ops q z j o = true:=qgm u3 hk (by rw [Nat.max_eq_right (by omega)];exact ZI);have:=hbef q z u2 (by omega) hc;rw [u5] at this;cases this
     ·exact (hK i x hx Qq zD).symm.trans (hord zD)
    have hK2:zI X (bw o.dst) o.op = true→(al = some j→∀ i x,ops[i]? = some x→zI X (bw x.dst) x.op = true→i < j→listed.getD i false = true)→∀ i x,ops[i]? = some x→zI X (bw x.dst) x.op = true→al≠some i→((listed.setIfInBounds j true).getD i false = true↔i < j+1):=by
     intro hk Qb i x hx Qq zD;rw [hset];by_cases jf:i = j
     ·subst jf;simp
     ·rw [if_neg jf,(hKj hk Qb i x hx Qq).2 zD];omega
    have hJ2:zI X (bw o.dst) o.op = true→(al = some j→∀ i x,ops[i]? = some x→zI X (bw x.dst) x.op = true→i < j→listed.getD i false = true)→∀ i,al = some i→((listed.setIfInBounds j true).getD i false = true↔(i < j+1∨pend = true)):=by
     intro hk Qb i zD;rw [hset];by_cases jf:i = j
     ·subst jf;simp
     ·obtain ⟨x,g1,g2⟩:=halK i zD;have h3:=(hKj hk Qb i x g1 (by simp only [zI,g2])).1;rw [if_neg jf,hJ i zD];constructor
      ·rintro (h | h)
       ·exact .inl (by omega)
       ·exact .inr h
      ·rintro (h | h)
       ·exact .inl (by omega)
       ·exact .inr h
    have zx:zI X (bw o.dst) o.op = true→∀ i,al = some i→pend = true→j+1≤i:=by
     intro hk i zD hp;have ZI:=hnp hp;have jf:i≠j:=fun h=>ZI (by rw [← h];exact zD);obtain ⟨x,g1,g2⟩:=halK i zD;have h3:=(hKj hk (fun h=>absurd h ZI) i x g1 (by simp only [zI,g2])).1;have:=zX i zD hp;omega
    have hTK:zI X (bw o.dst) o.op = true→(al = some j→∀ i x,ops[i]? = some x→zI X (bw x.dst) x.op = true→i < j→listed.getD i false = true)→T m = T j:=by
     intro hk Qb;have hmj:∀ i x,ops[i]? = some x→zI X (bw x.dst) x.op = true→(i < m↔i < j):=fun i x hx Qq=>(hKj hk Qb i x hx Qq).1;rcases Nat.le_total m j with h | h
     ·exact (JJ m j h (by omega) (fun i x hx Qq hi=>by have:=(hmj i x hx Qq).2 hi.2;omega)).symm
     ·exact JJ j m h hm (fun i x hx Qq hi=>by have:=(hmj i x hx Qq).1 hi.2;omega)
    unfold wpOp;simp only [ho];obtain ⟨vH,hcase⟩:=hstep' j o ho
    have hgn:∀ k want t,∀ o':Oper,o'.guard = some (k,want)→o' = o→(ops[k]?).bind (·.dst) = some t→t∈Z6 ops o:=by
     intro k want t o' hg XC hd;subst XC;simp [Z6,hg,hd]
    have hw:∀ b,jw ops (E j) o.guard = some b→Region.wanted o (yielded ops a1.tmps) = b:=by
     intro b hb;exact qjm (fun k want t hg hd d hl=>hnames t (hgn k want t o hg rfl hd) d hl) hb
    rcases hcase with ⟨hg,d,je,hE⟩ | ⟨hg,hTj,hE⟩
    ·rw [if_pos (hw true hg)];refine .inl ?_;unfold Oper.wp
     have hopn:∀ x,x∈o.op.operands.toList→qN X (E j) x = qN X (Y7 (Z6 ops o) (E j)) x:=fun x hx=>qsU fun t ht=>(qf6 (by
      simp only [Z6,qbD,List.mem_flatMap];exact .inl (.inr ⟨x,hx,ht⟩))).symm
     rw [qyB hopn] at je;have henv:EnvRep ok1 w1 ι1 (T m) (Y7 (Z6 ops o) (E j)) a1.tmps:=fun t d ht=>hnames t (qf5 ht).1 d (qf5 ht).2
     have go:∀ m',qJ X F (bw o.dst) o.op (Y7 (Z6 ops o) (E j)) (T m) = some (d,T m')→m'≤ops.size→(∀ i x,ops[i]? = some x→zI X (bw x.dst) x.op = true→al≠some i→((listed.setIfInBounds j true).getD i false = true↔i < m')) →
       (∀ i,al = some i→((listed.setIfInBounds j true).getD i false = true↔(i < m'∨pend = true)))→(∀ i,al = some i→pend = true→m'≤i) →
       o.upon X.P a1 (wpAny X.P .any ops Q fuel (listed.setIfInBounds j true)) Q ((execOp a1.eval o).run X.P w1):=by
      intro m' hop' YQ hK' hJ' hmi;refine Goes.upon ((qh4 hF hsim henv hop').mono fun v w2 hp=>?_);obtain ⟨ι2,ok2,q1,q2,q3⟩:=hp;exact finish d v w2 ι2 ok2 m' pend (fun h=>h) hE vH q1 (fun _=>q2) q3 YQ hK' hJ' (hPk v w2 ι2 ok2 m' q3 hmi)
     cases QO:Q1 X (bw o.dst) o.op with
     | v=>exact go m ((qlZ QO je).2 (T m)) hm (hK1 (by simp only [zI,QO])) (hJ1 (by simp only [zI,QO])) zX
     | r =>
      refine go m (qma QO je fun x hx p i hp hi qr=>?_).2 hm (hK1 (by simp only [zI,QO])) (hJ1 (by simp only [zI,QO])) zX
      have hMag:∀ i x,ops[i]? = some x→Q1 X (bw x.dst) x.op = .m→L.contains (i,j) = true∨(i < m↔i < j):=by
       intro i x hx Qq;cases hc:L.contains (i,j) with
       | true=>exact .inl rfl
       | false =>
        have zD:al≠some i:=fun h=>by
         obtain ⟨z,g1,g2⟩:=halK i h;rw [hx] at g1;injection g1 with g1;subst g1;rw [Qq] at g2;cases g2
        refine .inr ((hK i x hx (by simp only [zI,Qq]) zD).symm.trans (hagree i x hx fun _=>?_));unfold JO;simp only [Qq,QO,hc];simp
      have qh:i < (T m).length:=by
       have:=(jF hsim henv hp).closed;cases p <;> simp only [Xk,reduceCtorEq,qs] at hi
       ·subst hi;simpa [closed] using this
       ·subst hi;simpa [closed] using this
      have Vk:i∈kE (o.op.operands.toList.map (qN X (E j))):=qhE hi (by
       rw [← hp,← hopn x hx];exact List.mem_map_of_mem hx)
      have hwr:∀ i' x',ops[i']? = some x'→Q1 X (bw x'.dst) x'.op = .m→jw ops (E i') x'.guard = some true→L.contains (i',j) = true→(T i').length≤(T (i'+1)).length∧qo (T (i'+1)) i = qo (T i') i:=by
       intro i' x' Z8 qbi hgx' hc
       have hne':i'≠j:=by
        rintro rfl;rw [ho] at Z8;injection Z8 with Z8;subst Z8;rw [QO] at qbi;cases qbi
       obtain ⟨u1,u2⟩:=hTr i' j x' o Z8 ho hc hne' hgx' hg;exact ⟨u1,u2 i Vk⟩
      rcases Nat.le_total m j with h | h
      ·exact (hread i m j h (by omega) qh (fun i' x' Z8 qbi hgx' h1 h2=>by
        rcases hMag i' x' Z8 qbi with hc | hc
        ·exact hwr i' x' Z8 qbi hgx' hc
        ·omega)).1.symm
      ·have hltj:i < (T j).length:=by
        cases Vm:qo (T j) i with
        | none=>exact absurd Vm qr
        | some ds=>exact ZE Vm
       exact (hread i j m h hm hltj (fun i' x' Z8 qbi hgx' h1 h2=>by
        rcases hMag i' x' Z8 qbi with hc | hc
        ·exact hwr i' x' Z8 qbi hgx' hc
        ·omega)).1
     | e =>
      have hk:zI X (bw o.dst) o.op = true:=(by simp only [zI,QO]);by_cases Qb:al = some j→∀ i x,ops[i]? = some x→zI X (bw x.dst) x.op = true→i < j→listed.getD i false = true
      ·rw [← hTK hk Qb] at je;exact go (j+1) je (by omega) (hK2 hk Qb) (hJ2 hk Qb) (zx hk)
      ·have ZI:al = some j:=qdf fun h=>Qb fun h2=>absurd h2 h
       have hpf:pend = false:=by
        cases hp:pend with
        | false=>rfl
        | true=>exact absurd ZI (hnp hp)
       obtain ⟨o',ty,t0,g1,g2,g3,g4,g5⟩:=hD.alo j ZI;rw [ho] at g1;injection g1 with g1;subst g1
       have hjm:¬ j < m:=fun h=>by
        have:=(hJ j ZI).2 (.inl h);rw [hunl] at this;cases this
       have hev0:qJ X F (bw o.dst) o.op (Y7 (Z6 ops o) (E j)) (T j) = match (VX X.P ty).bind cellsOf with
         | some cs=>some (.optr (T j).length cs.length 0,vw (T j) cs)
         | none=>none:=by
        rw [g2];cases bw o.dst <;> rfl
       rw [hev0] at je;cases hz:(VX X.P ty).bind cellsOf with
       | none=>rw [hz] at je;cases je
       | some cs =>
        rw [hz] at je;injection je with je;injection je with hd hT1;obtain ⟨arr,r1,r2,r3,r4,r5⟩:=q0X hz w1;have hgr:=qqk (w':=w1.alloc (.cells arr ty)) hsim ⟨rfl,rfl,rfl⟩ (by simp) (fun c hc=>heap_alloc_old w1 _ hc);have qh:t0 < nt:=(by simpa [vo,g3] using vH);have hrun:Goes X.P (execOp a1.eval o) w1 (fun v w2=>v = .pointer (some ⟨w1.heap.size,0,none⟩)∧w2 = w1.alloc (.cells arr ty)):=Goes.value (by simp [execOp,g2,r1]) ⟨rfl,rfl⟩;refine Goes.upon (hrun.mono fun v w2 hp=>?_);obtain ⟨rfl,rfl⟩:=hp;refine finish d _ _ ι1 ok1 m true (fun _=>rfl) hE vH hgr.1 (fun h=>by cases h ZI) hgr.2 hm (fun i x hx Qq zD=>?_) (fun i zD=>?_) (fun _=>?_)
        ·have jf:i≠j:=fun h=>zD (by rw [h];exact ZI);rw [hset,if_neg jf];exact hK i x hx Qq zD
        ·have jf:i = j:=(by rw [ZI] at zD;injection zD with h;exact h.symm);rw [hset,if_pos jf];simp
        ·refine ⟨j,o,t0,w1.heap.size,arr,ty,(0,0),cs,ZI,ho,g3,by omega,hT1.symm,by rw [hE,← hd,g3],by rw [(qbS a1 o.dst _).1];exact jM qh (by rw [h1];exact Vg),?_,heap_alloc_new w1 _,fun h=>?_,fun q es s hq h=>?_,hevol.size,r2,.inl rfl,r3,r4,r5,fun k y hy hk2 hn=>?_⟩
         ·rw [g3];have:t0 < a1.tmps.size:=jM qh (by rw [h1];exact Vg);simp [Act.put,this,jm]
         ·exact absurd (hsim.okS _ h) (Nat.lt_irrefl _)
         ·exact absurd (hsim.lt hq h) (Nat.lt_irrefl _)
         ·rw [hset,if_neg hk2];refine haft k y hy (g5 k y hy hk2 hn).1 ?_;unfold JO;simp only [g3,Option.any_some,qbG];exact .inl (.inl (.inl (.inl (by simpa using hn))))
     | m =>
      have hk:zI X (bw o.dst) o.op = true:=by simp only [zI,QO]
      have Qb:al = some j→∀ i x,ops[i]? = some x→zI X (bw x.dst) x.op = true→i < j→listed.getD i false = true:=fun h=>by
       obtain ⟨z,g1,g2⟩:=halK j h;rw [ho] at g1;injection g1 with g1;subst g1;rw [QO] at g2;cases g2
      rw [← hTK hk Qb] at je;exact go (j+1) je (by omega) (hK2 hk Qb) (hJ2 hk Qb) (zx hk)
    ·rw [if_neg (by rw [hw false hg];simp)];cases hk:zI X (bw o.dst) o.op with
     | false=>exact finish (.tup []) undef w1 ι1 ok1 m pend (fun h=>h) hE vH hsim (fun _=>qeI) (.refl _ (qz _)) hm (hK1 hk) (hJ1 hk) (hPk _ _ _ _ _ (.refl _ (qz _)) zX)
     | true =>
      have Qb:al = some j→∀ i x,ops[i]? = some x→zI X (bw x.dst) x.op = true→i < j→listed.getD i false = true:=fun h=>by
       obtain ⟨o',ty,t0,g1,g2,g3,g4,g5⟩:=hD.alo j h;rw [ho] at g1;injection g1 with g1;subst g1;rw [g4] at hg;simp [jw] at hg
      have Vr:T (j+1) = T m:=(by rw [hTj,hTK hk Qb]);have hev2:Evol (T m).length ok1 w1 ι1 (T m) ok1 w1 ι1 (T (j+1)):=(by rw [Vr];exact .refl _ (qz _));exact finish (.tup []) undef w1 ι1 ok1 (j+1) pend (fun h=>h) hE vH (by rw [Vr];exact hsim) (fun _=>qeI) hev2 (by omega) (hK2 hk Qb) (hJ2 hk Qb) (hPk _ _ _ _ _ hev2 (zx hk))
 refine main ops.size (Array.replicate ops.size false) a w 0 ι ok false (by simp) ?_ ?_ (jg _) ?_ ?_ (fun h=>by cases h) (by rw [hT0];exact hs) (by rw [hT0];exact .refl _ (qz _)) rfl rfl ?_
 ·exact kn (List.length_filter_le _ _) (by simp)
 ·intro i o hi hl
  have:(Array.replicate ops.size false).getD i false = false:=by
   rw [jm,qg1];split <;> rfl
  rw [this] at hl;cases hl
 ·intro i o hi hk _
  have:(Array.replicate ops.size false).getD i false = false:=by
   rw [jm,qg1];split <;> rfl
  rw [this];simp
 ·intro i _
  have:(Array.replicate ops.size false).getD i false = false:=by
   rw [jm,qg1];split <;> rfl
  rw [this];simp
 ·intro t k hk Vq _ d hd;rw [hT0]
  have hl:=hslot t 0 k (jg _) hk (fun i o hi vH hik=>by
   have h3:=(Vq i o hi vH).2 hik.2
   have:(Array.replicate ops.size false).getD i false = false:=by
    rw [jm,qg1];split <;> rfl
   rw [this] at h3;cases h3)
  rw [hl,hE0] at hd;exact he t d hd
theorem qzb {F:zk} (hF:JT X F) {nt:Nat} {ops:Array Oper} {drw:Bool} {Q:Exit→Act→World→Prop} (hD:DrawFacts X (fun _=>drw) [] al ops) {e e':qp} {a:Act} (hev:jx X F nt drw ops ops.toList e H = some (e',H'))
  (hs:Sim X ok w ι H) (he:EnvRep ok w ι H e a.tmps) (Vg:nt≤a.tmps.size) (hQ:∀ a' w',Out X H.length ok w ι H a e' H' a' w'→Q .normal a' w') :
  wpAny X.P .any ops Q ops.size (Array.replicate ops.size false) a w:=by
 obtain ⟨E,T,hE0,hT0,VL,hTn,hstep⟩:=qjz hev;exact qnE hF hD hE0 hT0 VL hTn hstep (fun i j x y _ _ hc=>by simp at hc) hs he Vg hQ
theorem qza {F:zk} (hF:JT X F) {nt:Nat} {ops:Array Oper} {ow:List Nat} {Q:Exit→Act→World→Prop} (hD:DrawFacts X (Zl ow) L al ops) {e e':qp} {a:Act} (hev:kl X F nt ow ops L 0 [] [] ops.toList e H = some (e',H'))
  (hs:Sim X ok w ι H) (he:EnvRep ok w ι H e a.tmps) (Vg:nt≤a.tmps.size) (hQ:∀ a' w',Out X H.length ok w ι H a e' H' a' w'→Q .normal a' w') :
  wpAny X.P .any ops Q ops.size (Array.replicate ops.size false) a w:=by
 obtain ⟨E,T,hE0,hT0,VL,hTn,hstep⟩:=qjy hev;refine qnE hF hD hE0 hT0 VL hTn hstep ?_ hs he Vg hQ;rw [← hE0,← hT0] at hev;intro i j x y hi hj hc qr gi gj;exact qgA (fun k o hk=>hstep k o (by simpa using hk)) ops.toList 0 [] [] _ (fun m=>by simp) hev (fun i x hik=>by omega) (fun j y X9=>by omega) i j x y hi hj hc qr gi gj (jg _)
end
end Go.Ev
namespace Go.Ev
section
variable {X:Cx} {ok ok':Nat→Prop} {w w':World} {ι:qB} {H H':qi}
theorem qeE {ops:Array Oper} {e:qp} {a:Act} (he:EnvRep ok w ι H e a.tmps) {o:Oper} {b:Bool} (h:jw ops e o.guard = some b):Region.wanted o (yielded ops a.tmps) = b :=
 qjm (fun _ _ t _ _ d hd=>he t d hd) h
theorem YB {e:qp} {a:Act} {dst:Option Tmp} {d:D} {v:Value} {nt:Nat} (he:EnvRep ok w ι H e a.tmps) (hd:Rep ok w ι H d v) (hn:nt≤a.tmps.size) (ht:vo nt dst = true):EnvRep ok w ι H (vg e dst d) (a.put dst v).tmps:=by
 cases dst with
 | none=>exact he
 | some t =>
  have ht':t < nt:=by simpa [vo] using ht
  exact he.put hd (jM ht' hn)
theorem qi0 {F:zk} (hF:JT X F) {nt:Nat} {drw:Bool} {ops:Array Oper} {Q:Exit→Act→World→Prop}:∀ {l:List Oper} {e e':qp} {H H':qi} {ok:Nat→Prop} {w:World} {ι:qB} {a:Act},jx X F nt drw ops l e H = some (e',H') →
  Sim X ok w ι H→EnvRep ok w ι H e a.tmps→nt≤a.tmps.size→(∀ a' w',Out X H.length ok w ι H a e' H' a' w'→Q .normal a' w')→wpList X.P ops Q l a w
 | [],e,e',H,H',ok,w,ι,a,h,hs,he,hn,hQ=>by
  simp only [jx,qs,qM] at h;obtain ⟨rfl,rfl⟩:=h;exact hQ a w ⟨rfl,rfl,ι,ok,hs,he,.refl _ (qz _)⟩
 | o :: l,e,e',H,H',ok,w,ι,a,h,hs,he,hn,hQ=>by
  simp only [jx] at h;split at h
  ·rename_i vH hg;split at h
   ·rename_i d H1 ho;have hw:=qeE he hg;simp only [wpList,hw,if_true];refine .inl ?_;unfold Oper.wp;refine Goes.upon ((qh4 hF hs he ho).mono fun v w1 hp=>?_);obtain ⟨ι1,ok1,k1,k2,k3⟩:=hp;obtain ⟨s1,s2⟩:=qbS a o.dst v;refine qi0 hF h k1 (YB (he.evol' hs k3) k2 hn vH) (by omega) fun a2 w2 hout=>hQ a2 w2 ?_;obtain ⟨t1,t2,ι2,ok2,u1,u2,u3⟩:=hout;exact ⟨by omega,by rw [t2,s2],ι2,ok2,u1,u2,k3.trans (u3.mono k3.nle.2)⟩
   ·cases h
  ·rename_i vH hg;have hw:=qeE he hg;simp only [wpList,hw,vC,if_false];obtain ⟨s1,s2⟩:=qbS a o.dst undef;refine qi0 hF h hs (YB he qeI hn vH) (by omega) fun a2 w2 hout=>hQ a2 w2 ?_;obtain ⟨t1,t2,rest⟩:=hout;exact ⟨by omega,by rw [t2,s2],rest⟩
  ·cases h
theorem qf9:∀ {ks:List Nat} {e:qp} {t:Nat} {d:D},qf (ka ks e) t = some d→qf e t = some d
 | [],e,t,d,h=>by simp [ka,qf] at h
 | k :: ks,e,t,d,h=>by
  simp only [ka] at h;split at h
  ·rename_i x hk;simp only [qf] at h;split at h
   ·rename_i YR;subst YR;rw [hk];exact h
   ·exact qf9 h
  ·exact qf9 h
theorem qlM {n:Nat}:∀ {e:qp} {t:Nat} {d:D},qao n e = true→qf e t = some d→closed n d = true
 | [],t,d,_,h=>by simp [qf] at h
 | (s,x) :: e,t,d,hc,h=>by
  simp only [qao,qR] at hc;simp only [qf] at h;split at h
  ·injection h with h;subst h;exact hc.1
  ·exact qlM hc.2 h
theorem qyS {f n0 id:Nat} {e e':qp} {tmps:Array Value} (h:qi5 X f n0 id e H = some (e',H')) (hn:n0≤H.length) (hs:Sim X ok w ι H) (he:EnvRep ok w ι H e tmps) :
  Sim X ok w ι H'∧EnvRep ok w ι H' e' tmps∧Evol n0 ok w ι H ok w ι H':=by
 unfold qi5 at h;split at h
 ·simp only [qs,qM] at h;obtain ⟨rfl,rfl⟩:=h;exact ⟨hs,he,.refl _ hn⟩
 ·simp only [qs,qM] at h;obtain ⟨rfl,rfl⟩:=h;exact ⟨hs,fun t d ht=>he t d (qf9 ht),.refl _ hn⟩
 ·rename_i ks k hk;have hkeep:EnvRep ok w ι H (ka ks e) tmps:=fun t d ht=>he t d (qf9 ht);split at h
  ·simp only [qs,qM] at h;obtain ⟨rfl,rfl⟩:=h;exact ⟨hs,hkeep,.refl _ hn⟩
  ·rename_i zl;split at h
   ·rename_i hc;rw [qR] at hc;simp only [qs,qM] at h;obtain ⟨rfl,rfl⟩:=h;have hm:n0+k≤H.length:=(by omega);exact ⟨qzk hm hs hc.2,hkeep.evol hs (qiA hm) (fun t d ht=>qlM hc.1 ht),(qiA hm).mono (by omega)⟩
   ·cases h
theorem qn4 {f n0 id:Nat} {e e':qp} {tmps:Array Value} (h:qgd X f n0 id e H = some (e',H')) (hn:n0≤H.length) (hs:Sim X ok w ι H) (he:EnvRep ok w ι H e tmps) :
  ∃ ok' ι',Sim X ok' w ι' H'∧EnvRep ok' w ι' H' e' tmps∧Evol n0 ok w ι H ok' w ι' H':=by
 have stepC:∀ {e e':qp} {ok:Nat→Prop} {H H':qi},qge X f n0 id e H = some (e',H')→n0≤H.length→Sim X ok w ι H→EnvRep ok w ι H e tmps →
   ∃ ι',Sim X ok w ι' H'∧EnvRep ok w ι' H' e' tmps∧Evol n0 ok w ι H ok w ι' H':=by
  intro e e' ok H H' h hn hs he;unfold qge at h;split at h
  ·obtain ⟨h1,h2,h3⟩:=qyS h hn hs he;exact ⟨ι,h1,h2,h3⟩
  ·exact qrH h hn hs he
 unfold qgd at h;split at h
 ·obtain ⟨ι',h1,h2,h3⟩:=stepC h hn hs he;exact ⟨ok,ι',h1,h2,h3⟩
 ·split at h
  ·rename_i e1 H1 kw;obtain ⟨ok',k1,k2,k3⟩:=qyo kw hs he;obtain ⟨ι',h1,h2,h3⟩:=stepC h (kn hn k3.nle.2) k1 k2;exact ⟨ok',ι',h1,h2,(k3.mono hn).trans h3⟩
  ·cases h
theorem qyR {f n0 id:Nat} {e e':qp} {tmps:Array Value} (h:enter X f n0 id e H = some (e',H')) (hn:n0≤H.length) (hs:Sim X ok w ι H) (he:EnvRep ok w ι H e tmps) :
  ∃ ok' ι',Sim X ok' w ι' H'∧EnvRep ok' w ι' H' e' tmps∧Evol n0 ok w ι H ok' w ι' H':=by
 unfold enter at h;split at h
 ·exact qn4 h hn hs he
 ·split at h
  ·rename_i H1 hst;obtain ⟨ok1,k1,k2,k3⟩:=qgK hst hs;obtain ⟨ok2,ι',h1,h2,h3⟩:=qn4 h (by rw [k3];exact hn) k1 (fun t d ht=>⟨(he t d ht).1,(he t d ht).2.evol hs k2 (he t d ht).2.closed⟩);exact ⟨ok2,ι',h1,h2,(k2.mono hn).trans h3⟩
  ·cases h
def qcl:Ex→Exit
 | .normal=>.normal
 | .exit id=>.exit id
 | .ret=>.ret
def CQ (X:Cx) (n:Nat) (ok:Nat→Prop) (w:World) (ι:qB) (H:qi) (a:Act) (ex:Ex) (e':qp) (H':qi) (x:Exit) (a':Act) (w':World):Prop :=
 x = qcl ex∧Out X n ok w ι H a e' H' a' w'
def q1h (X:Cx) (n:Nat):Prop :=
 ∀ (f nt n0:Nat) (c:Code) (e e':qp) (H H':qi) (ex:Ex) (ok:Nat→Prop) (w:World) (ι:qB) (a:Act),qL X n f nt n0 c e H = some (ex,e',H')→QL X f c = true→n0≤H.length→Sim X ok w ι H→EnvRep ok w ι H e a.tmps→nt≤a.tmps.size →
  c.wp X.P (CQ X n0 ok w ι H a ex e' H') a w
theorem Out.trans {n:Nat} {a a1 a2:Act} {w1 w2:World} {H1 H2:qi} {ok1:Nat→Prop} {ι1:qB} {e2:qp} (h1:a1.tmps.size = a.tmps.size) (h2:a1.defers = a.defers) (h3:Evol n ok w ι H ok1 w1 ι1 H1)
  (h:Out X n ok1 w1 ι1 H1 a1 e2 H2 a2 w2):Out X n ok w ι H a e2 H2 a2 w2:=by
 obtain ⟨t1,t2,ι2,ok2,u1,u2,u3⟩:=h;exact ⟨by omega,by rw [t2,h2],ι2,ok2,u1,u2,h3.trans u3⟩
theorem qti {t:Bool} {c:Operand} {e:qp} {a:Act} (hs:Sim X ok w ι H) (he:EnvRep ok w ι H e a.tmps) (h:qN X e c = some (.bool t)):a.eval c = .bool t:=by
 have:=jF hs he h;generalize a.eval c = v at this ⊢;cases this;rfl
theorem qiX:∀ (l:List D) (i t:Nat) (d:D),qf (Qu i l) t = some d→i≤t∧l[t - i]? = some d
 | [],i,t,d,h=>by simp [Qu,qf] at h
 | x :: l,i,t,d,h=>by
  simp only [Qu,qf] at h;split at h
  ·rename_i vG;subst vG;injection h with h;subst h;exact ⟨qz _,by simp⟩
  ·obtain ⟨h1,h2⟩:=qiX l (i+1) t d h;refine ⟨by omega,?_⟩;rw [show t - i = (t - (i+1))+1 by omega,List.getElem?_cons_succ];exact h2
def qfl (tmps:Array Value):ResultVar→Sem Value
 | .tmp t=>pure (tmps.getD t undef)
 | .cell a t=>do loadVar t (← asAddr (tmps.getD a undef))
theorem qhg {e:qp} {tmps:Array Value} (hs:Sim X ok w ι H) (he:EnvRep ok w ι H e tmps):∀ {l:List ResultVar} {ds:List D},Qy X e H l = some ds →
  ∃ vs:List Value,(l.mapM (qfl tmps)).run X.P w = .ok vs w∧RepL ok w ι H ds vs
 | [],ds,h=>by
  simp only [Qy,qs] at h;subst h;exact ⟨[],by simp,rfl,by simp⟩
 | .tmp t :: l,ds,h=>by
  simp only [Qy] at h;split at h
  ·rename_i d ds' h1 h2;injection h with h;subst h;obtain ⟨vs,q1,q2⟩:=qhg hs he h2;refine ⟨tmps.getD t undef :: vs,?_,by simp [q2.1],fun j x hx=>?_⟩
   ·rw [List.mapM_cons];simp only [qfl,Sem.run_bind,Sem.run_pure,Result.andThen_ok,q1]
   ·cases j with
    | zero =>
     simp only [ZV,qs] at hx;subst hx;exact (he t d h1).2
    | succ j=>exact q2.2 j x (by simpa using hx)
  ·cases h
 | .cell a t :: l,ds,h=>by
  simp only [Qy] at h;split at h
  ·rename_i d ds' h1 h2;injection h with h;subst h;obtain ⟨vs,q1,q2⟩:=qhg hs he h2;cases hl:qf e a with
   | none=>simp [hl] at h1
   | some p =>
    simp only [hl,Y1] at h1;obtain ⟨_,hr⟩:=he a p hl;obtain ⟨v,r1,r2⟩:=qlQ hs hr h1
    have hptr:∃ ad,tmps.getD a undef = .pointer (some ad):=by
     unfold ldD at h1;split at h1
     ·rename_i hm;exact hr.ptr hm
     ·rename_i hm;exact hr.ptr hm
     ·cases h1
    obtain ⟨ad,had⟩:=hptr;rw [had] at r1;simp only [Instr.loadAt,Instr.sureAddr,Sem.run_bind,Sem.run_pure,Result.andThen_ok] at r1;refine ⟨v :: vs,?_,by simp [q2.1],fun j x hx=>?_⟩
    ·rw [List.mapM_cons];simp only [qfl,had,asAddr,Sem.run_bind,Sem.run_pure,Result.andThen_ok,r1,q1]
    ·cases j with
     | zero =>
      simp only [ZV,qs] at hx;subst hx;exact r2
     | succ j=>exact q2.2 j x (by simpa using hx)
  ·cases h
theorem qsW {ds:List D} {vs:List Value} (h:RepL ok w ι H ds vs):Rep ok w ι H (JA ds) (if hh:vs.toArray.size = 1 then vs.toArray[0] else .tuple vs.toArray):=by
 unfold JA;split
 ·rename_i d;obtain ⟨v,us,rfl,r1,h2⟩:=J5 h;obtain rfl:=qbP h2;simpa using r1
 ·rename_i qr
  have hl:vs.toArray.size≠1:=by
   intro e;have:ds.length = 1:=by rw [← h.1];simpa using e
   match ds,this with
   | [d],_=>exact qr d rfl
  rw [dif_neg hl]
  exact .tup (by simpa using h.1) fun j d hj=>by
   have:=h.2 j d hj;simpa [jm,jR] using this
theorem qk7 {fn:Func} {e:qp} {tmps:Array Value} {ds:List D} (hs:Sim X ok w ι H) (he:EnvRep ok w ι H e tmps) (h:Qy X e H fn.results.toList = some ds) :
  ∃ v,(results fn tmps).run X.P w = .ok v w∧Rep ok w ι H (JA ds) v:=by
 obtain ⟨vs,q1,q2⟩:=qhg hs he h;refine ⟨_,?_,qsW q2⟩
 have hfun:results fn tmps = (do let vs ← fn.results.mapM (qfl tmps);pure (if h:vs.size = 1 then vs[0] else .tuple vs)):=by
  unfold results;congr 1
 rw [hfun,Sem.run_bind,Array.mapM_eq_mapM_toList,Sem.run_map,q1];rfl
theorem qkn {P:Program} {c:Code} {Q Q':Exit→Act→World→Prop} (hq:∀ x a w,Q x a w→Q' x a w):∀ (n:Nat) (a:Act) (w:World),Code.rounds P c Q n a w→Code.rounds P c Q' n a w
 | 0,_,_,h=>h
 | n+1,a,w,h=>by
  rw [rounds_succ] at h ⊢;refine wp_mono h fun x a w hx=>?_;cases x <;> first | exact hq _ _ _ hx | exact qkn hq n a w hx
theorem qjH (hG:Good X):∀ n,JT X (jT X n)∧q1h X n:=by
 intro n
 induction n using Nat.strongRecOn with
 | _ n ih =>
  cases n with
  | zero =>
   refine ⟨fun f args H r H' ok w ι vs h=>by simp [jT] at h,fun f nt n0 c e e' H H' ex ok w ι a h=>by simp [qL] at h⟩
  | succ n =>
   have ihF:=(ih n (by omega)).1;have ihC:=(ih n (by omega)).2;constructor
   ·-- a function
    intro f args H r H' ok w ι vs h hs hv;simp only [jT] at h;split at h
    ·rename_i r0 Zj;injection h with h;subst h;exact hG.con f args H r H' Zj ok w ι vs hs hv
    split at h
    ·cases h
    ·rename_i fn hf;split at h
     ·rename_i hb;obtain ⟨h1,rfl⟩:=Q4 h;obtain ⟨v,q1,q2,q3⟩:=hG.ext f fn args r hf hb h1 ok w ι H vs hs hv;exact Goes.value q1 ⟨ι,ok,hs,q2,.refl _ (qz _),fun i ds hi hd=>by have:=ZE hd;omega⟩
     ·rename_i c hb;cases hbad:X.bad f with
      | true=>simp [hbad] at h
      | false =>
      simp only [hbad,vC,if_false] at h;have hokc:=hG.okc f fn c hf hb hbad;have henter:(callFunc f vs.toArray).run X.P w = .ok (.enter f vs.toArray) w:=Go.Proofs.enters_of hf (hG.ng f fn hf) hb _ _
      have key:∀ ex e H1 ds,(ex = .normal∨ex = .ret)→qL X n f fn.ntmps H.length c (Qu 0 args) H = some (ex,e,H1)→Qy X e H1 fn.results.toList = some ds→J9 (X.fzr f) H.length H1 (JA ds) = some (r,H') →
        Goes X.P (callFunc f vs.toArray) w (Jx X ok w ι H r H'):=by
       intro ex e H1 ds hex hc hr hp;unfold Goes;rw [henter];simp only;refine calls_of_wp hf hb (wp_mono (ihC f fn.ntmps H.length c (Qu 0 args) e H H1 ex ok w ι ⟨vs.toArray ++ Array.replicate (fn.ntmps - vs.toArray.size) undef,[]⟩ hc hokc (qz _) hs ?_ ?_) ?_)
       ·intro t d ht;obtain ⟨_,h2⟩:=qiX args 0 t d ht;rw [Nat.sub_zero] at h2;have qh:t < vs.length:=(by rw [hv.1];exact (List.getElem?_eq_some_iff.1 h2).1);refine ⟨by simp;omega,?_⟩;have:=hv.2 t d h2;rw [jm,qg2 (by simpa using qh)];simpa [jR] using this
       ·simp;omega
       ·rintro x a' w' ⟨rfl,k1,k2,ι1,ok1,k3,k4,k5⟩;obtain ⟨v,q1,q2⟩:=qk7 (fn:=fn) k3 k4 hr;obtain ⟨ok2,ι2,p1,p2,p3,p4⟩:=qlg k5.nle.2 k3 q2 hp;have hpost:Jx X ok w ι H r H' v w':=⟨ι2,ok2,p1,p2,k5.trans p3,p4⟩;rcases hex with rfl | rfl
        ·exact ⟨k2,v,q1,v,rfl,hpost⟩
        ·exact ⟨k2,v,q1,v,rfl,hpost⟩
      split at h
      ·rename_i e H1 hc;split at h
       ·rename_i ds hr;exact key _ e H1 ds (.inl rfl) hc hr h
       ·cases h
      ·rename_i e H1 hc;split at h
       ·rename_i ds hr;exact key _ e H1 ds (.inr rfl) hc hr h
       ·cases h
      ·cases h
   ·-- code
    intro f nt n0 c e e' H H' ex ok w ι a h hoc hn hs he Vg
    have again:∀ (ex1:Ex) (e1:qp) (H1:qi) (Q:Exit→Act→World→Prop) (c1:Code),qL X n f nt n0 c1 e H = some (ex1,e1,H1)→QL X f c1 = true→(∀ a' w',Out X n0 ok w ι H a e1 H1 a' w'→Q (qcl ex1) a' w')→c1.wp X.P Q a w:=by
     intro ex1 e1 H1 Q c1 h1 hoc1 hQ;refine wp_mono (ihC f nt n0 c1 e e1 H H1 ex1 ok w ι a h1 hoc1 hn hs he Vg) ?_;rintro x a' w' ⟨rfl,hout⟩;exact hQ a' w' hout
    have here:Out X n0 ok w ι H a e H a w:=⟨rfl,rfl,ι,ok,hs,he,.refl _ hn⟩;cases c with
    | skip =>
     simp only [qL,qs,qM] at h;obtain ⟨rfl,rfl,rfl⟩:=h;exact wp_skip ⟨rfl,here⟩
    | label l =>
     simp only [qL,qs,qM] at h;obtain ⟨rfl,rfl,rfl⟩:=h;exact wp_label ⟨rfl,here⟩
    | exit id =>
     simp only [qL,qs,qM] at h;obtain ⟨rfl,rfl,rfl⟩:=h;exact wp_exit ⟨rfl,here⟩
    | ret =>
     simp only [qL,qs,qM] at h;obtain ⟨rfl,rfl,rfl⟩:=h;exact wp_ret ⟨rfl,here⟩
    | region id ops draw =>
     simp only [qL] at h;split at h
     ·cases h
     ·rename_i e1 H1 Qc;obtain ⟨ok1,ι1,s1,s2,s3⟩:=qyR Qc hn hs he;cases ho:Jr X (jT X n) f nt id draw ops e1 H1 with
      | none=>simp [ho] at h
      | some r =>
       obtain ⟨e2,H2⟩:=r;simp only [ho,jC,qs,qM] at h;obtain ⟨rfl,rfl,rfl⟩:=h;cases draw with
       | false =>
        simp only [Jr] at ho;refine wp_region_list (qi0 ihF ho s1 s2 Vg fun a' w' hout=>⟨rfl,?_⟩);obtain ⟨t1,t2,ι2,ok2,u1,u2,u3⟩:=hout;exact ⟨t1,t2,ι2,ok2,u1,u2,s3.trans (u3.mono s3.nle.2)⟩
       | true =>
        simp only [QL,Bool.not_true,Bool.false_or] at hoc;simp only [Jr] at ho;obtain ⟨d1,d2⟩:=qpP (w':={ w with drawn:=w.drawn+1 }) s1 ⟨rfl,rfl,rfl⟩ rfl;cases X7:X.lp f id with
        | none =>
         rw [X7] at ho hoc;simp only [qd8] at ho;refine wp_region_any hG.mixed (qzb ihF (qnF hoc) ho d1 (s2.evol' s1 d2) Vg fun a' w' hout=>⟨rfl,?_⟩);obtain ⟨t1,t2,ι2,ok2,u1,u2,u3⟩:=hout;exact ⟨t1,t2,ι2,ok2,u1,u2,s3.trans ((d2.mono s3.nle.2).trans (u3.mono s3.nle.2))⟩
        | some q =>
         obtain ⟨L,ow⟩:=q;rw [X7] at ho hoc;refine wp_region_any hG.mixed (qza ihF (qnF hoc) ho d1 (s2.evol' s1 d2) Vg fun a' w' hout=>⟨rfl,?_⟩);obtain ⟨t1,t2,ι2,ok2,u1,u2,u3⟩:=hout;exact ⟨t1,t2,ι2,ok2,u1,u2,s3.trans ((d2.mono s3.nle.2).trans (u3.mono s3.nle.2))⟩
    | seq x y =>
     simp only [QL,qR] at hoc;simp only [qL] at h;refine wp_seq ?_;split at h
     ·rename_i e1 H1 hx;refine again _ e1 H1 _ x hx hoc.1 fun a1 w1 hout=>?_;obtain ⟨t1,t2,ι1,ok1,u1,u2,u3⟩:=hout;refine wp_mono (ihC f nt n0 y e1 e' H1 H' ex ok1 w1 ι1 a1 h hoc.2 u3.nle.2 u1 u2 (by omega)) ?_;rintro z a2 w2 ⟨rfl,hout2⟩;exact ⟨rfl,Out.trans t1 t2 u3 hout2⟩
     ·rename_i qr;refine again ex e' H' _ x h hoc.1 fun a1 w1 hout=>?_;cases ex with
      | normal=>exact absurd h (qr _ _)
      | exit id=>exact ⟨rfl,hout⟩
      | ret=>exact ⟨rfl,hout⟩
    | cond c x y =>
     simp only [QL,qR] at hoc;simp only [qL] at h;split at h
     ·rename_i t hc;refine wp_cond (qti hs he hc) (again ex e' H' _ _ h (by cases t;exact hoc.2;exact hoc.1) fun a1 w1 hout=>⟨rfl,hout⟩)
     ·cases h
    | block id c =>
     simp only [QL] at hoc;simp only [qL] at h;refine wp_block ?_;split at h
     ·rename_i i e1 H1 hc;refine again _ e1 H1 _ c hc hoc fun a1 w1 hout=>?_;simp only [qcl,Exit.inBlock];split at h
      ·rename_i hi;simp only [qs,qM] at h;obtain ⟨rfl,rfl,rfl⟩:=h;rw [if_pos hi];exact ⟨rfl,hout⟩
      ·rename_i hi;simp only [qs,qM] at h;obtain ⟨rfl,rfl,rfl⟩:=h;rw [if_neg hi];exact ⟨rfl,hout⟩
     ·rename_i qr;refine again ex e' H' _ c h hoc fun a1 w1 hout=>?_;cases ex with
      | normal=>exact ⟨rfl,hout⟩
      | exit i=>exact absurd h (qr _ _ _)
      | ret=>exact ⟨rfl,hout⟩
    | scope c =>
     simp only [QL] at hoc;simp only [qL] at h;refine wp_scope_straight (again ex e' H' _ c h hoc fun a1 w1 hout=>?_);cases ex <;> exact ⟨rfl,hout⟩
    | loop c =>
     simp only [QL] at hoc
     have key:∀ m,m≤n→∀ (e e':qp) (H H':qi) (ex:Ex) (ok:Nat→Prop) (w:World) (ι:qB) (a:Act),qL X (m+1) f nt n0 (.loop c) e H = some (ex,e',H')→n0≤H.length→Sim X ok w ι H→EnvRep ok w ι H e a.tmps→nt≤a.tmps.size →
       Code.rounds X.P c (CQ X n0 ok w ι H a ex e' H') (m+1) a w:=by
      intro m
      induction m with
      | zero =>
       intro _ e e' H H' ex ok w ι a h;simp only [qL] at h;simp at h
      | succ m ihm =>
       intro hm e e' H H' ex ok w ι a h hn hs he Vg;rw [rounds_succ];rw [qL] at h;split at h
       ·rename_i e1 H1 hc;refine wp_mono ((ih (m+1) (by omega)).2 f nt n0 c e e1 H H1 .normal ok w ι a hc hoc hn hs he Vg) ?_;rintro x a1 w1 ⟨rfl,t1,t2,ι1,ok1,u1,u2,u3⟩;have hrec:=ihm (by omega) e1 e' H1 H' ex ok1 w1 ι1 a1 h u3.nle.2 u1 u2 (by omega);refine qkn ?_ _ _ _ hrec;rintro x a2 w2 ⟨hx,hout⟩;exact ⟨hx,Out.trans t1 t2 u3 hout⟩
       ·rename_i qr;refine wp_mono ((ih (m+1) (by omega)).2 f nt n0 c e e' H H' ex ok w ι a h hoc hn hs he Vg) ?_;rintro x a1 w1 ⟨rfl,hout⟩;cases ex with
        | normal=>exact absurd h (qr _ _)
        | exit id=>exact ⟨rfl,hout⟩
        | ret=>exact ⟨rfl,hout⟩
     exact wp_loop_rounds _ (key n (qz _) e e' H H' ex ok w ι a h hn hs he Vg)
    | goto l=>simp [qL] at h
    | rangeFunc _ _ _ _=>simp [qL] at h
    | refuse _=>simp [qL] at h
end
end Go.Ev
namespace Go.Ev
section
variable {X:Cx}
def V3 (F G:zk):Prop:= ∀ f args H r,F f args H = some r→G f args H = some r
theorem q0a {F G:zk} (h:V3 F G) {f:Nat} {args:List D} {H:qi} {r:D × qi} (hc:VQ F f args H = some r):VQ G f args H = some r:=by
 cases args with
 | nil=>simp [VQ] at hc
 | cons a rest =>
  cases a with
  | optr i st off =>
   simp only [VQ] at hc ⊢;cases hd:qo H i with
   | none=>simp [hd] at hc
   | some ds =>
    simp only [hd] at hc ⊢;split at hc
    ·rename_i hf;rw [if_pos hf];cases hF:F f (.optr 0 st off :: rest) [some ds] with
     | none=>simp [hF] at hc
     | some q=>rw [h _ _ _ _ hF];rw [hF] at hc;exact hc
    ·cases hc
  | _=>simp [VQ] at hc
theorem qzX {F G:zk} (h:V3 F G) {f:Nat} {args:List D} {H:qi} {r:D × qi} (hc:Yv F f args H = some r):Yv G f args H = some r:=by
 unfold Yv at hc ⊢;split at hc
 ·cases hc
 ·unfold qcZ at hc ⊢;split at hc
  ·split at hc
   ·rename_i hf;rw [if_pos hf];split at hc
    ·rename_i hF;rw [h _ _ _ _ hF];exact hc
    ·cases hc
   ·cases hc
  ·cases hc
theorem q0d {F G:zk} (h:V3 F G) {f:Nat} {args:List D} {H:qi} {r:D × qi} (hc:Yw X F f args H = some r):Yw X G f args H = some r:=by
 unfold Yw at hc ⊢;split
 ·rename_i hl;rw [if_pos hl] at hc;exact qzX h hc
 ·rename_i hl;rw [if_neg hl] at hc;exact q0a h hc
theorem qzT {F G:zk} (h:V3 F G) {f:Nat} {args:List D} {H:qi} {r:D × qi} (hc:KB X F f args H = some r):KB X G f args H = some r:=by
 unfold KB at hc ⊢;split
 ·rename_i hb;rw [if_pos hb] at hc;split
  ·rename_i hl;rw [if_pos hl] at hc;exact q0d h hc
  ·rename_i hl;rw [if_neg hl] at hc;exact h _ _ _ _ hc
 ·rename_i hb;rw [if_neg hb] at hc;split
  ·rename_i ha;rw [if_pos ha] at hc;cases hF:F f args [] with
   | none=>simp [hF] at hc
   | some q=>rw [h _ _ _ _ hF];rw [hF] at hc;exact hc
  ·rename_i ha;rw [if_neg ha] at hc;cases hz:qal H args with
   | none=>simp [hz] at hc
   | some args' =>
    simp only [hz] at hc ⊢;cases hF:F f args' [] with
    | none=>simp [hF] at hc
    | some q=>rw [h _ _ _ _ hF];rw [hF] at hc;exact hc
theorem qiN {F G:zk} (h:V3 F G) {f:Nat} {args:List D} {H:qi} {r:D × qi} (hc:QV X F f args H = some r):QV X G f args H = some r:=by
 by_cases hp:(X.pureF f && !X.byRef f) = true
 ·obtain ⟨h4,h3,h1⟩:=qez hp hc;unfold QV;rw [if_pos hp];rcases h1 with ⟨h1,h2⟩ | ⟨h1,Yh,hfl,hv,args',kw,h2⟩
  ·rw [if_pos h1,h _ _ _ _ h2];simp only [h3,if_true,← h4]
  ·rw [if_neg h1];subst h4;simp only [Yh,hfl,Bool.and_self,if_true,kw,h _ _ _ _ h2,h3,hv]
 ·unfold QV at hc ⊢;rw [if_neg hp] at hc ⊢;exact qzT h hc
theorem q0j {F G:zk} (h:V3 F G) {f:Nat} {args:List D} {H:qi} {r:D × qi} (hc:KC X F f args H = some r):KC X G f args H = some r:=by
 unfold KC at hc ⊢;split at hc
 ·exact qiN h hc
 ·split at hc
  ·exact qiN h hc
  ·cases hc
theorem q0g {F G:zk} (h:V3 F G) {f:Nat} {args:List D} {H:qi} {r:D × qi} (hc:JP X F f args H = some r):JP X G f args H = some r:=by
 unfold JP at hc ⊢;split at hc
 ·exact q0j h hc
 ·split at hc
  ·exact qiN h hc
  ·cases hc
theorem qnr {F G:zk} (h:V3 F G) {o:Op} {e:qp} {H:qi} {r:D × qi} (ho:zi X F o e H = some r):zi X G o e H = some r:=by
 cases o with
 | call c =>
  simp only [zi] at ho ⊢;cases hc:c.callee with
  | builtin b=>cases ha:vr X e c.args.toList <;> simp only [hc,ha] at ho ⊢ <;> first | exact ho | cases ho
  | invoke r m=>cases ha:vr X e c.args.toList <;> simp only [hc,ha] at ho ⊢ <;> cases ho
  | value g =>
   simp only [hc] at ho ⊢;cases ha:vr X e c.args.toList with
   | none=>simp [ha] at ho
   | some args =>
    simp only [ha] at ho ⊢;split at ho
    ·exact q0g h ho
    ·cases ho
 | makeFunc g _ _=>cases g <;> exact ho
 | slice _ _ _ _ m=>cases m <;> exact ho
 | _=>exact ho
theorem qgb {F G:zk} (h:V3 F G) {drw:Bool} {o:Op} {e:qp} {H:qi} {r:D × qi} (ho:qJ X F drw o e H = some r):qJ X G drw o e H = some r:=by
 unfold qJ at ho ⊢;split at ho
 ·exact ho
 ·exact ho
 ·split at ho
  ·cases ho
  ·rename_i hb;rw [if_neg hb];exact qnr h ho
 ·exact qnr h ho
theorem qef {F G:zk} (h:V3 F G) {nt:Nat} {drw:Bool} {ops:Array Oper}:∀ {l:List Oper} {e:qp} {H:qi} {r:qp × qi},jx X F nt drw ops l e H = some r→jx X G nt drw ops l e H = some r
 | [],_,_,_,ho=>ho
 | o :: l,e,H,r,ho=>by
  simp only [jx] at ho ⊢;cases hd:vo nt o.dst <;> simp only [hd] at ho ⊢
  ·cases ho
  ·cases hg:jw ops e o.guard with
   | none=>simp [hg] at ho
   | some b =>
    cases b <;> simp only [hg] at ho ⊢
    ·exact qef h ho
    ·cases hx:qJ X F drw o.op e H with
     | none=>simp [hx] at ho
     | some q =>
      rw [qgb h hx];rw [hx] at ho;exact qef h ho
theorem qeh {F G:zk} (h:V3 F G) {nt:Nat} {ow:List Nat} {ops:Array Oper} {L:Qj}:∀ {l:List Oper} {k:Nat} {ws:List (Nat × qi × qi)} {rs:List (Nat × List Nat)} {e:qp} {H:qi} {r:qp × qi},kl X F nt ow ops L k ws rs l e H = some r→kl X G nt ow ops L k ws rs l e H = some r
 | [],_,_,_,_,_,_,ho=>by simpa [kl] using ho
 | o :: l,k,ws,rs,e,H,r,ho=>by
  simp only [kl] at ho ⊢;cases hd:vo nt o.dst <;> simp only [hd] at ho ⊢
  ·cases ho
  ·cases hg:jw ops e o.guard with
   | none=>simp [hg] at ho
   | some b =>
    cases b <;> simp only [hg] at ho ⊢
    ·exact qeh h ho
    ·cases hx:qJ X F (Zl ow o.dst) o.op e H with
     | none=>simp [hx] at ho
     | some q =>
      rw [qgb h hx];rw [hx] at ho;simp only at ho ⊢;split at ho
      ·rename_i hc;rw [if_pos hc];exact qeh h ho
      ·cases ho
theorem qy9 {F G:zk} (h:V3 F G) {f nt id:Nat} {draw:Bool} {ops:Array Oper} {e:qp} {H:qi} {r:qp × qi} (ho:Jr X F f nt id draw ops e H = some r):Jr X G f nt id draw ops e H = some r:=by
 unfold Jr at ho ⊢;split at ho
 ·exact qeh h ho
 ·exact qef h ho
theorem qiy:∀ n,V3 (jT X n) (jT X (n+1))∧∀ f nt n0 c e H r,qL X n f nt n0 c e H = some r→qL X (n+1) f nt n0 c e H = some r
 | 0=>⟨fun f args H r h=>by simp [jT] at h,fun f nt n0 c e H r h=>by simp [qL] at h⟩
 | n+1=>by
  obtain ⟨ihF,ihC⟩:=qiy n;constructor
  ·intro f args H r h;simp only [jT] at h ⊢;cases Zj:X.con f args H with
   | some q=>simp only [Zj] at h ⊢;exact h
   | none =>
   simp only [Zj] at h ⊢;cases hf:X.P.funcs[f]? with
   | none=>simp [hf] at h
   | some fn =>
    simp only [hf] at h ⊢;cases hb:fn.body with
    | none=>simp only [hb] at h ⊢;exact h
    | some c =>
     simp only [hb] at h ⊢;cases hbad:X.bad f <;> simp only [hbad,vC,if_false,if_true] at h ⊢
     ·cases hc:qL X n f fn.ntmps H.length c (Qu 0 args) H with
      | none=>simp [hc] at h
      | some q =>
       rw [ihC _ _ _ _ _ _ _ hc];rw [hc] at h;exact h
     ·cases h
  ·intro f nt n0 c e H r h;cases c with
   | region id ops draw =>
    rw [qL] at h ⊢;cases Qc:enter X f n0 id e H with
    | none=>simp [Qc] at h
    | some q =>
     obtain ⟨e1,H1⟩:=q;simp only [Qc] at h ⊢;cases ho:Jr X (jT X n) f nt id draw ops e1 H1 with
     | none=>simp [ho] at h
     | some q =>
      rw [qy9 ihF ho];rw [ho] at h;exact h
   | seq a b =>
    rw [qL] at h ⊢;cases ha:qL X n f nt n0 a e H with
    | none=>simp [ha] at h
    | some q =>
     obtain ⟨ex,e1,H1⟩:=q;rw [ihC _ _ _ _ _ _ _ ha];rw [ha] at h;cases ex with
     | normal=>exact ihC _ _ _ _ _ _ _ h
     | exit i=>exact h
     | ret=>exact h
   | cond x a b =>
    rw [qL] at h ⊢;split at h
    ·exact ihC _ _ _ _ _ _ _ h
    ·cases h
   | block id c =>
    rw [qL] at h ⊢;cases ha:qL X n f nt n0 c e H with
    | none=>simp [ha] at h
    | some q =>
     rw [ihC _ _ _ _ _ _ _ ha];rw [ha] at h;exact h
   | scope c =>
    rw [qL] at h ⊢;exact ihC _ _ _ _ _ _ _ h
   | loop c =>
    rw [qL] at h ⊢;cases ha:qL X n f nt n0 c e H with
    | none=>simp [ha] at h
    | some q =>
     obtain ⟨ex,e1,H1⟩:=q;rw [ihC _ _ _ _ _ _ _ ha];rw [ha] at h;cases ex with
     | normal=>exact ihC _ _ _ _ _ _ _ h
     | exit i=>exact h
     | ret=>exact h
   | skip=>exact h
   | label l=>exact h
   | exit id=>exact h
   | ret=>exact h
   | goto l=>simp [qL] at h
   | rangeFunc a b c d=>simp [qL] at h
   | refuse w=>simp [qL] at h
theorem qei {n m:Nat} (ZB:n≤m):V3 (jT X n) (jT X m):=by
 induction m with
 | zero=>have:n = 0:=by omega
         subst this;exact fun _ _ _ _ h=>h
 | succ m ih =>
  by_cases h:n = m+1
  ·subst h;exact fun _ _ _ _ h=>h
  ·exact fun f args H r hr=>(qiy m).1 _ _ _ _ (ih (by omega) f args H r hr)
theorem qej {n m:Nat} (ZB:n≤m) {f nt n0:Nat} {c:Code} {e:qp} {H:qi} {r:Ex × qp × qi} (h:qL X n f nt n0 c e H = some r):qL X m f nt n0 c e H = some r:=by
 induction m with
 | zero=>have:n = 0:=by omega
         subst this;exact h
 | succ m ih =>
  by_cases hn:n = m+1
  ·subst hn;exact h
  ·exact (qiy m).2 _ _ _ _ _ _ _ (ih (by omega))
open Classical in
noncomputable def lim {α:Type} (g:Nat→Option α):Option α:=if h:∃ r,∃ n,g n = some r then some h.choose else none
theorem qlT {α:Type} {g:Nat→Option α} (hm:∀ n m r,n≤m→g n = some r→g m = some r) {r:α}:lim g = some r↔∃ n,g n = some r:=by
 unfold lim;constructor
 ·intro h;split at h
  ·rename_i hex;injection h with h;subst h;exact hex.choose_spec
  ·cases h
 ·rintro ⟨n,hn⟩;have hex:∃ r,∃ n,g n = some r:=⟨r,n,hn⟩;rw [dif_pos hex];obtain ⟨k,hk⟩:=hex.choose_spec;have h1:=hm n (max n k) _ (Nat.le_max_left _ _) hn;have h2:=hm k (max n k) _ (Nat.le_max_right _ _) hk;rw [h1] at h2;injection h2 with h2;rw [← h2]
noncomputable def call (X:Cx):zk:=fun f args H=>lim fun n=>jT X n f args H
noncomputable def code (X:Cx) (f nt n0:Nat) (c:Code) (e:qp) (H:qi):Option (Ex × qp × qi):=lim fun n=>qL X n f nt n0 c e H
theorem call_some {f:Nat} {args:List D} {H:qi} {r:D × qi}:call X f args H = some r↔∃ n,jT X n f args H = some r:=qlT fun _ _ _ ZB h=>qei ZB _ _ _ _ h
theorem code_some {f nt n0:Nat} {c:Code} {e:qp} {H:qi} {r:Ex × qp × qi}:code X f nt n0 c e H = some r↔∃ n,qL X n f nt n0 c e H = some r:=qlT fun _ _ _ ZB h=>qej ZB h
theorem qnw (n:Nat):V3 (jT X n) (call X):=fun _ _ _ _ h=>call_some.2 ⟨n,h⟩
theorem q0b {f:Nat} {args:List D} {H:qi} {r:D × qi} (hc:VQ (call X) f args H = some r):∃ n,VQ (jT X n) f args H = some r:=by
 cases args with
 | nil=>simp [VQ] at hc
 | cons a rest =>
  cases a with
  | optr i st off =>
   simp only [VQ] at hc ⊢;cases hd:qo H i with
   | none=>simp [hd] at hc
   | some ds =>
    simp only [hd] at hc ⊢;split at hc
    ·rename_i hf;cases hF:call X f (.optr 0 st off :: rest) [some ds] with
     | none=>simp [hF] at hc
     | some q =>
      obtain ⟨n,hn⟩:=call_some.1 hF;refine ⟨n,?_⟩;rw [if_pos hf,hn];rw [hF] at hc;exact hc
    ·cases hc
  | _=>simp [VQ] at hc
theorem qzY {f:Nat} {args:List D} {H:qi} {r:D × qi} (hc:Yv (call X) f args H = some r):∃ n,Yv (jT X n) f args H = some r:=by
 unfold Yv at hc ⊢;split at hc
 ·cases hc
 ·unfold qcZ at hc ⊢;split at hc
  ·split at hc
   ·rename_i hf;split at hc
    ·rename_i hF;obtain ⟨n,hn⟩:=call_some.1 hF;exact ⟨n,by rw [if_pos hf,hn];exact hc⟩
    ·cases hc
   ·cases hc
  ·cases hc
theorem q0e {f:Nat} {args:List D} {H:qi} {r:D × qi} (hc:Yw X (call X) f args H = some r):∃ n,Yw X (jT X n) f args H = some r:=by
 unfold Yw at hc ⊢;split at hc
 ·rename_i hl;obtain ⟨n,hn⟩:=qzY hc;exact ⟨n,by rw [if_pos hl];exact hn⟩
 ·rename_i hl;obtain ⟨n,hn⟩:=q0b hc;exact ⟨n,by rw [if_neg hl];exact hn⟩
theorem qzU {f:Nat} {args:List D} {H:qi} {r:D × qi} (hc:KB X (call X) f args H = some r):∃ n,KB X (jT X n) f args H = some r:=by
 unfold KB at hc ⊢;split at hc
 ·rename_i hb;split at hc
  ·rename_i hl;obtain ⟨n,hn⟩:=q0e hc;exact ⟨n,by rw [if_pos hb,if_pos hl];exact hn⟩
  ·rename_i hl;obtain ⟨n,hn⟩:=call_some.1 hc;exact ⟨n,by rw [if_pos hb,if_neg hl];exact hn⟩
 ·rename_i hb;split at hc
  ·rename_i ha;cases hF:call X f args [] with
   | none=>simp [hF] at hc
   | some q =>
    obtain ⟨n,hn⟩:=call_some.1 hF;exact ⟨n,by rw [if_neg hb,if_pos ha,hn];rw [hF] at hc;exact hc⟩
  ·rename_i ha;cases hz:qal H args with
   | none=>simp [hz] at hc
   | some args' =>
    simp only [hz] at hc;cases hF:call X f args' [] with
    | none=>simp [hF] at hc
    | some q =>
     obtain ⟨n,hn⟩:=call_some.1 hF;exact ⟨n,by rw [if_neg hb,if_neg ha];simp only [hn];rw [hF] at hc;exact hc⟩
theorem qiO {f:Nat} {args:List D} {H:qi} {r:D × qi} (hc:QV X (call X) f args H = some r):∃ n,QV X (jT X n) f args H = some r:=by
 by_cases hp:(X.pureF f && !X.byRef f) = true
 ·obtain ⟨h4,h3,h1⟩:=qez hp hc;rcases h1 with ⟨h1,h2⟩ | ⟨h1,Yh,hfl,hv,args',kw,h2⟩
  ·obtain ⟨n,hn⟩:=call_some.1 h2;refine ⟨n,?_⟩;unfold QV;rw [if_pos hp,if_pos h1,hn];simp only [h3,if_true,← h4]
  ·obtain ⟨n,hn⟩:=call_some.1 h2;refine ⟨n,?_⟩;unfold QV;rw [if_pos hp,if_neg h1];subst h4;simp only [Yh,hfl,Bool.and_self,if_true,kw,hn,h3,hv]
 ·unfold QV at hc;rw [if_neg hp] at hc;obtain ⟨n,hn⟩:=qzU hc;exact ⟨n,by unfold QV;rw [if_neg hp];exact hn⟩
theorem q0k {f:Nat} {args:List D} {H:qi} {r:D × qi} (hc:KC X (call X) f args H = some r):∃ n,KC X (jT X n) f args H = some r:=by
 unfold KC at hc;split at hc
 ·rename_i hp;obtain ⟨n,hn⟩:=qiO hc;exact ⟨n,by unfold KC;rw [hp];exact hn⟩
 ·rename_i hp;split at hc
  ·rename_i H1 hst;obtain ⟨n,hn⟩:=qiO hc;exact ⟨n,by unfold KC;rw [hp];simp only [hst];exact hn⟩
  ·cases hc
theorem q0h {f:Nat} {args:List D} {H:qi} {r:D × qi} (hc:JP X (call X) f args H = some r):∃ n,JP X (jT X n) f args H = some r:=by
 unfold JP at hc;split at hc
 ·rename_i hp;obtain ⟨n,hn⟩:=q0k hc;exact ⟨n,by unfold JP;rw [hp];exact hn⟩
 ·rename_i hp;split at hc
  ·rename_i args' l hst;obtain ⟨n,hn⟩:=qiO hc;exact ⟨n,by unfold JP;rw [hp];simp only [hst];exact hn⟩
  ·cases hc
theorem qns {o:Op} {e:qp} {H:qi} {r:D × qi} (ho:zi X (call X) o e H = some r):∃ n,zi X (jT X n) o e H = some r:=by
 cases o with
 | call c =>
  simp only [zi] at ho ⊢;cases hc:c.callee with
  | builtin b=>cases ha:vr X e c.args.toList <;> simp only [hc,ha] at ho ⊢ <;> first | exact ⟨0,ho⟩ | cases ho
  | invoke r m=>cases ha:vr X e c.args.toList <;> simp only [hc,ha] at ho <;> cases ho
  | value g =>
   simp only [hc] at ho ⊢;cases ha:vr X e c.args.toList with
   | none=>simp [ha] at ho
   | some args =>
    simp only [ha] at ho ⊢;split at ho
    ·rename_i f caps hg;obtain ⟨n,hn⟩:=q0h ho;exact ⟨n,hn⟩
    ·cases ho
 | makeFunc g _ _=>cases g <;> exact ⟨0,ho⟩
 | slice _ _ _ _ m=>cases m <;> exact ⟨0,ho⟩
 | _=>exact ⟨0,ho⟩
theorem qnv {drw:Bool} {o:Op} {e:qp} {H:qi} {r:D × qi} (ho:qJ X (call X) drw o e H = some r):∃ n,qJ X (jT X n) drw o e H = some r:=by
 unfold qJ at ho ⊢;split at ho
 ·exact ⟨0,ho⟩
 ·exact ⟨0,ho⟩
 ·split at ho
  ·cases ho
  ·rename_i hb;obtain ⟨n,hn⟩:=qns ho;exact ⟨n,by simp only [hb];exact hn⟩
 ·exact qns ho
theorem qi1 {nt:Nat} {drw:Bool} {ops:Array Oper}:∀ {l:List Oper} {e:qp} {H:qi} {r:qp × qi},jx X (call X) nt drw ops l e H = some r→∃ n,jx X (jT X n) nt drw ops l e H = some r
 | [],_,_,_,ho=>⟨0,ho⟩
 | o :: l,e,H,r,ho=>by
  simp only [jx] at ho;cases hd:vo nt o.dst <;> simp only [hd] at ho
  ·cases ho
  ·cases hg:jw ops e o.guard with
   | none=>simp [hg] at ho
   | some b =>
    cases b <;> simp only [hg] at ho
    ·obtain ⟨n,hn⟩:=qi1 ho;exact ⟨n,by simp only [jx,hd,hg];exact hn⟩
    ·cases hx:qJ X (call X) drw o.op e H with
     | none=>simp [hx] at ho
     | some q =>
      rw [hx] at ho;obtain ⟨n,hn⟩:=qnv hx;obtain ⟨m,hm⟩:=qi1 ho;refine ⟨max n m,?_⟩;simp only [jx,hd,hg];rw [qgb (qei (Nat.le_max_left n m)) hn];exact qef (qei (Nat.le_max_right n m)) hm
theorem qyA {nt:Nat} {drw:Bool} {ops:Array Oper} {l:List Oper} {e:qp} {H:qi} {r:qp × qi}:jx X (call X) nt drw ops l e H = some r↔∃ n,jx X (jT X n) nt drw ops l e H = some r :=
 ⟨qi1,fun ⟨n,hn⟩=>qef (qnw n) hn⟩
theorem qi2 {nt:Nat} {ow:List Nat} {ops:Array Oper} {L:Qj}:∀ {l:List Oper} {k:Nat} {ws:List (Nat × qi × qi)} {rs:List (Nat × List Nat)} {e:qp} {H:qi} {r:qp × qi},kl X (call X) nt ow ops L k ws rs l e H = some r→∃ n,kl X (jT X n) nt ow ops L k ws rs l e H = some r
 | [],_,_,_,_,_,_,ho=>⟨0,by simpa [kl] using ho⟩
 | o :: l,k,ws,rs,e,H,r,ho=>by
  simp only [kl] at ho;cases hd:vo nt o.dst <;> simp only [hd] at ho
  ·cases ho
  ·cases hg:jw ops e o.guard with
   | none=>simp [hg] at ho
   | some b =>
    cases b <;> simp only [hg] at ho
    ·obtain ⟨n,hn⟩:=qi2 ho;exact ⟨n,by simp only [kl,hd,hg];exact hn⟩
    ·cases hx:qJ X (call X) (Zl ow o.dst) o.op e H with
     | none=>simp [hx] at ho
     | some q =>
      rw [hx] at ho;simp only at ho;split at ho
      ·rename_i hc;obtain ⟨n,hn⟩:=qnv hx;obtain ⟨m,hm⟩:=qi2 ho;refine ⟨max n m,?_⟩;simp only [kl,hd,hg];rw [qgb (qei (Nat.le_max_left n m)) hn];simp only;rw [if_pos hc];exact qeh (qei (Nat.le_max_right n m)) hm
      ·cases ho
theorem evR_lim {f nt id:Nat} {draw:Bool} {ops:Array Oper} {e:qp} {H:qi} {r:qp × qi}:Jr X (call X) f nt id draw ops e H = some r↔∃ n,Jr X (jT X n) f nt id draw ops e H = some r:=by
 unfold Jr;split
 ·exact ⟨qi2,fun ⟨n,hn⟩=>qeh (qnw n) hn⟩
 ·exact qyA
theorem qaM {α:Type} {x y:Option α} (h:∀ r,x = some r↔y = some r):x = y:=by
 cases x with
 | none =>
  cases y with
  | none=>rfl
  | some b=>exact absurd ((h b).2 rfl) (by simp)
 | some a=>exact ((h a).1 rfl).symm
section eqs
variable {f nt n0:Nat} {e:qp} {H:qi}
theorem qz9:code X f nt n0 .skip e H = some (.normal,e,H):=code_some.2 ⟨1,rfl⟩
theorem qzD {l:Nat}:code X f nt n0 (.label l) e H = some (.normal,e,H):=code_some.2 ⟨1,rfl⟩
theorem qzE {i:Nat}:code X f nt n0 (.exit i) e H = some (.exit i,e,H):=code_some.2 ⟨1,rfl⟩
theorem qzC:code X f nt n0 .ret e H = some (.ret,e,H):=code_some.2 ⟨1,rfl⟩
theorem qnZ {id:Nat} {ops:Array Oper} {draw:Bool}:code X f nt n0 (.region id ops draw) e H = match enter X f n0 id e H with
  | none=>none
  | some (e,H)=>(Jr X (call X) f nt id draw ops e H).map fun (e,H)=>(.normal,e,H):=by
 refine qaM fun r=>?_;rw [code_some];cases Qc:enter X f n0 id e H with
 | none =>
  simp only [reduceCtorEq,iff_false,not_exists];intro n h;cases n <;> simp [qL,Qc] at h
 | some q =>
  obtain ⟨e1,H1⟩:=q;constructor
  ·rintro ⟨n,hn⟩;cases n with
   | zero=>simp [qL] at hn
   | succ n =>
    simp only [qL,Qc] at hn;cases ho:Jr X (jT X n) f nt id draw ops e1 H1 with
    | none=>simp [ho] at hn
    | some q =>
     simp only [evR_lim.2 ⟨n,ho⟩];rw [ho] at hn;exact hn
  ·intro h;simp only at h;cases ho:Jr X (call X) f nt id draw ops e1 H1 with
   | none=>simp [ho] at h
   | some q =>
    obtain ⟨n,hn⟩:=evR_lim.1 ho;refine ⟨n+1,?_⟩;simp only [qL,Qc,hn];rw [ho] at h;exact h
theorem qzA {a b:Code}:code X f nt n0 (.seq a b) e H = match code X f nt n0 a e H with
  | some (.normal,e,H)=>code X f nt n0 b e H
  | r=>r:=by
 refine qaM fun r=>?_;rw [code_some];constructor
 ·rintro ⟨n,hn⟩;cases n with
  | zero=>simp [qL] at hn
  | succ n =>
   simp only [qL] at hn;cases ha:qL X n f nt n0 a e H with
   | none=>simp [ha] at hn
   | some q =>
    obtain ⟨ex,e1,H1⟩:=q;rw [code_some.2 ⟨n,ha⟩];rw [ha] at hn;cases ex with
    | normal=>exact code_some.2 ⟨n,hn⟩
    | exit i=>exact hn
    | ret=>exact hn
 ·intro h;cases ha:code X f nt n0 a e H with
  | none=>simp [ha] at h
  | some q =>
   obtain ⟨n,hn⟩:=code_some.1 ha;obtain ⟨ex,e1,H1⟩:=q;rw [ha] at h;cases ex with
   | normal =>
    obtain ⟨m,hm⟩:=code_some.1 h;refine ⟨max n m+1,?_⟩;simp only [qL,qej (Nat.le_max_left n m) hn];exact qej (Nat.le_max_right n m) hm
   | exit i=>exact ⟨n+1,by simp only [qL,hn];exact h⟩
   | ret=>exact ⟨n+1,by simp only [qL,hn];exact h⟩
theorem qzF {c:Operand} {a b:Code}:code X f nt n0 (.cond c a b) e H = match qN X e c with
  | some (.bool t)=>code X f nt n0 (if t then a else b) e H
  | _=>none:=by
 refine qaM fun r=>?_;rw [code_some];constructor
 ·rintro ⟨n,hn⟩;cases n with
  | zero=>simp [qL] at hn
  | succ n =>
   simp only [qL] at hn;split at hn
   ·rename_i hc;rw [hc];exact code_some.2 ⟨n,hn⟩
   ·cases hn
 ·intro h;split at h
  ·rename_i t hc;obtain ⟨n,hn⟩:=code_some.1 h;exact ⟨n+1,by simp only [qL,hc];exact hn⟩
  ·cases h
theorem qzG {id:Nat} {c:Code}:code X f nt n0 (.block id c) e H = match code X f nt n0 c e H with
  | some (.exit i,e,H)=>if i = id then some (.normal,e,H) else some (.exit i,e,H)
  | r=>r:=by
 refine qaM fun r=>?_;rw [code_some];constructor
 ·rintro ⟨n,hn⟩;cases n with
  | zero=>simp [qL] at hn
  | succ n =>
   simp only [qL] at hn;cases ha:qL X n f nt n0 c e H with
   | none=>simp [ha] at hn
   | some q=>rw [code_some.2 ⟨n,ha⟩];rw [ha] at hn;exact hn
 ·intro h;cases ha:code X f nt n0 c e H with
  | none=>simp [ha] at h
  | some q =>
   obtain ⟨n,hn⟩:=code_some.1 ha;exact ⟨n+1,by simp only [qL,hn];rw [ha] at h;exact h⟩
theorem qzB {c:Code}:code X f nt n0 (.scope c) e H = code X f nt n0 c e H:=by
 refine qaM fun r=>?_;rw [code_some,code_some];constructor
 ·rintro ⟨n,hn⟩;cases n with
  | zero=>simp [qL] at hn
  | succ n=>exact ⟨n,hn⟩
 ·rintro ⟨n,hn⟩;exact ⟨n+1,hn⟩
theorem qiG {c:Code}:code X f nt n0 (.loop c) e H = match code X f nt n0 c e H with
  | some (.normal,e,H)=>code X f nt n0 (.loop c) e H
  | r=>r:=by
 refine qaM fun r=>?_;rw [code_some];constructor
 ·rintro ⟨n,hn⟩;cases n with
  | zero=>simp [qL] at hn
  | succ n =>
   rw [qL] at hn;cases ha:qL X n f nt n0 c e H with
   | none=>simp [ha] at hn
   | some q =>
    obtain ⟨ex,e1,H1⟩:=q;rw [code_some.2 ⟨n,ha⟩];rw [ha] at hn;cases ex with
    | normal=>exact code_some.2 ⟨n,hn⟩
    | exit i=>exact hn
    | ret=>exact hn
 ·intro h;cases ha:code X f nt n0 c e H with
  | none=>simp [ha] at h
  | some q =>
   obtain ⟨n,hn⟩:=code_some.1 ha;obtain ⟨ex,e1,H1⟩:=q;rw [ha] at h;cases ex with
   | normal =>
    obtain ⟨m,hm⟩:=code_some.1 h;refine ⟨max n m+1,?_⟩;rw [qL];simp only [qej (Nat.le_max_left n m) hn];exact qej (Nat.le_max_right n m) hm
   | exit i=>exact ⟨n+1,by rw [qL];simp only [hn];exact h⟩
   | ret=>exact ⟨n+1,by rw [qL];simp only [hn];exact h⟩
def Y5 (o : Oper) : Oper := { dst := o.dst, op := o.op, type := 0, pos := "", after := #[], guard := o.guard }
def kP:List Oper→List Oper
 | []=>[]
 | o :: l=>Y5 o :: kP l
def vX:Code→Code
 | .region id ops draw=>.region id (kP ops.toList).toArray draw
 | .seq a b=>.seq (vX a) (vX b)
 | .cond x a b=>.cond x (vX a) (vX b)
 | .block id c=>.block id (vX c)
 | .loop c=>.loop (vX c)
 | .scope c=>.scope (vX c)
 | c=>c
theorem qj7:∀ (l:List Oper) (j:Nat),((kP l)[j]?).bind (·.dst) = (l[j]?).bind (·.dst)
 | [],j=>by simp [kP]
 | o :: l,0=>by simp [kP,Y5]
 | o :: l,j+1=>by simp [kP,qj7 l j]
theorem qmE (ops:Array Oper) (e:qp) (g:Option (Nat × Bool)):jw (kP ops.toList).toArray e g = jw ops e g:=by
 cases g with
 | none=>rfl
 | some q =>
  obtain ⟨j,want⟩:=q;have h:=qj7 ops.toList j;simp only [jw];have e1:((kP ops.toList).toArray[j]?) = (kP ops.toList)[j]?:=by simp
  have e2:ops[j]? = ops.toList[j]?:=by simp
  rw [e1,e2,h]
theorem qno {F:zk} {drw:Bool} (ops:Array Oper):∀ (l:List Oper) (e:qp) (H:qi),jx X F nt drw (kP ops.toList).toArray (kP l) e H = jx X F nt drw ops l e H
 | [],e,H=>rfl
 | o :: l,e,H=>by
  simp only [kP,jx,Y5,qmE,qno ops l]
theorem qnp {F:zk} {ow:List Nat} (ops:Array Oper) {L:Qj}:∀ (l:List Oper) (k:Nat) (ws:List (Nat × qi × qi)) (rs:List (Nat × List Nat)) (e:qp) (H:qi),kl X F nt ow (kP ops.toList).toArray L k ws rs (kP l) e H = kl X F nt ow ops L k ws rs l e H
 | [],k,ws,rs,e,H=>by simp only [kP,kl]
 | o :: l,k,ws,rs,e,H=>by
  simp only [kP,kl,Y5,qmE,qnp ops l]
theorem qll:∀ (l:List Oper),qaJ (kP l) = qaJ l
 | []=>rfl
 | o :: l=>by simp only [kP,qaJ,Y5,qll l]
theorem qyC:∀ (n:Nat) (c:Code) (e:qp) (H:qi),qL X n f nt n0 (vX c) e H = qL X n f nt n0 c e H:=by
 intro n
 induction n with
 | zero=>intro c e H;simp [qL]
 | succ n ih =>
  intro c e H;cases c with
  | region id ops draw =>
   simp only [vX,qL];cases enter X f n0 id e H with
   | none=>rfl
   | some q =>
    obtain ⟨e1,H1⟩:=q;have:(kP ops.toList).toArray.toList = kP ops.toList:=(by simp);cases draw <;> cases X7:X.lp f id <;> simp only [Jr,X7,qno,qnp,qll,qd8]
  | seq a b=>simp only [vX,qL,ih]
  | cond x a b =>
   simp only [vX,qL];split
   ·rename_i t _;cases t <;> simp only [ih,if_true,if_false,vC]
   ·rfl
  | block id c=>simp only [vX,qL,ih]
  | loop c =>
   have:=ih (.loop c);simp only [vX] at this;simp only [vX,qL,ih,this]
  | scope c=>simp only [vX,qL,ih]
  | _=>rfl
theorem qgk {c:Code}:code X f nt n0 (vX c) e H = code X f nt n0 c e H:=by
 unfold code;congr 1;funext n;exact qyC n c e H
theorem Yu {args:List D} {r:D × qi} (Zj:X.con f args H = some r):call X f args H = some r:=call_some.2 ⟨1,by simp only [jT,Zj]⟩
theorem qzS {fn:Func} {c:Code} {args:List D} (Zj:X.con f args H = none) (hf:X.P.funcs[f]? = some fn) (hb:fn.body = some c) (hbad:X.bad f = false) :
  call X f args H = match code X f fn.ntmps H.length c (Qu 0 args) H with
   | some (.normal,e,H') | some (.ret,e,H')=>match Qy X e H' fn.results.toList with
    | some ds=>J9 (X.fzr f) H.length H' (JA ds)
    | none=>none
   | _=>none:=by
 refine qaM fun r=>?_;rw [call_some];constructor
 ·rintro ⟨n,hn⟩;cases n with
  | zero=>simp [jT] at hn
  | succ n =>
   simp only [jT,Zj,hf,hb,hbad,vC,if_false] at hn;cases hc:qL X n f fn.ntmps H.length c (Qu 0 args) H with
   | none=>simp [hc] at hn
   | some q=>rw [code_some.2 ⟨n,hc⟩];rw [hc] at hn;exact hn
 ·intro h;cases hc:code X f fn.ntmps H.length c (Qu 0 args) H with
  | none=>simp [hc] at h
  | some q =>
   obtain ⟨n,hn⟩:=code_some.1 hc;refine ⟨n+1,?_⟩;simp only [jT,Zj,hf,hb,hbad,vC,if_false,hn];rw [hc] at h;exact h
theorem qiM {fn:Func} {args:List D} (Zj:X.con f args H = none) (hf:X.P.funcs[f]? = some fn) (hb:fn.body = none):call X f args H = (X.ext f args).map (·,H):=by
 refine qaM fun r=>?_;rw [call_some];constructor
 ·rintro ⟨n,hn⟩;cases n with
  | zero=>simp [jT] at hn
  | succ n =>
   simp only [jT,Zj,hf,hb] at hn;exact hn
 ·intro h;exact ⟨1,by simp only [jT,Zj,hf,hb];exact h⟩
end eqs
theorem qgo (hG:Good X):JT X (call X):=by
 intro f args H r H' ok w ι vs h hs hv;obtain ⟨n,hn⟩:=call_some.1 h;exact (qjH hG n).1 f args H r H' ok w ι vs hn hs hv
end
end Go.Ev
namespace Go.Ev
def Ys (ks:List Nat):Nat→Nat→qp→qi→Option (qp × qi)
 | 0,_,e,H=>some (ka ks e,H)
 | k+1,n0,e,H=>if H.length≤n0+k then some (ka ks e,H)
  else if qao (n0+k) (ka ks e) && (H.take (n0+k)).all (kN (n0+k)) then some (ka ks e,H.take (n0+k)) else none
def qi4 (zs ks:List Nat) (k n0:Nat) (e:qp) (H:qi):Option (qp × qi) :=
 match qcQ zs e H with
 | some (e,H)=>Ys ks k n0 e H
 | none=>none
def QA (zs S ks:List Nat) (n0:Nat) (e:qp) (H:qi):Option (qp × qi) :=
 match zs with
 | []=>qc8 n0 S ks e H
 | zs=>match qcQ zs e H with
  | some (e,H)=>qc8 n0 S ks e H
  | none=>none
def qn3 (ss:List Nat) (g:qi→Option (qp × qi)) (e:qp) (H:qi):Option (qp × qi) :=
 match qa7 e ss H with
 | some H=>g H
 | none=>none
def zE:List Nat→Code→Code
 | [],c=>c
 | 0 :: p,.seq a _=>zE p a
 | _ :: p,.seq _ b=>zE p b
 | 0 :: p,.cond _ a _=>zE p a
 | _ :: p,.cond _ _ b=>zE p b
 | _ :: p,.block _ c=>zE p c
 | _ :: p,.scope c=>zE p c
 | _ :: p,.loop c=>zE p c
 | _,c=>c
def qV (f:Func):Code:=f.body.getD .skip
attribute [simp] qz9 qzD qzE qzC qzF
attribute [simp] Y5 kP vX vo zi qJ VP qN vr Xs Q2 qbV qbU qf vg ka Ys qi4 QA qn3 qa7 qc5 Qu Qy JA qgv QW qfG qb4 JP KC qgL QV Yr KB ldD stD Xx qo hset cellsOf qfZ qfY qee XW qdH qfJ qfI qbM qb5 qdU qdP qb1 Yw VQ noZ noZ.noZL qgs qat qdQ qc3 KZ qbH qdq qgw qgj eqD qb3 vh qdu vw VA Xl ky idFree idFree.idFreeL vFree vFree.vFreeL closed closed.closedL kN qiR qao YC pack1 pack1.packs J9 qdI JV jy vv Vw qbL qcQ XO VW qc8 qfj qhf Xo YA Y9 qbQ Xp renD renD.renL X2 qdO Xj Jh shift shift.shiftL freeze freeze.freezeL qal qxo zE qV strD
@[simp low] theorem qdv (ds:List D) (off:Nat) (xs:List D):qE ds off xs = ds.take off ++ xs ++ ds.drop (off+xs.length):=rfl
section
variable {X:Cx} {f nt n0:Nat}
inductive Fr where
 | seq (b:Code)
 | block (id:Nat)
def Run (X:Cx) (f nt n0:Nat) (Q:Ex→qp→qi→Prop):List Fr→Option (Ex × qp × qi)→Prop
 | _,none=>False
 | [],some (ex,e,H)=>Q ex e H
 | .seq b :: fs,some (.normal,e,H)=>Run X f nt n0 Q fs (code X f nt n0 b e H)
 | .seq _ :: fs,some (ex,e,H)=>Run X f nt n0 Q fs (some (ex,e,H))
 | .block id :: fs,some (.exit i,e,H)=>if i = id then Run X f nt n0 Q fs (some (.normal,e,H)) else Run X f nt n0 Q fs (some (.exit i,e,H))
 | .block _ :: fs,some (ex,e,H)=>Run X f nt n0 Q fs (some (ex,e,H))
variable {Q:Ex→qp→qi→Prop} {fs:List Fr} {e:qp} {H:qi} {a b c:Code}
theorem kq:Run X f nt n0 Q fs none = False:=by unfold Run;rfl
theorem Ka {ex:Ex}:Run X f nt n0 Q [] (some (ex,e,H)) = Q ex e H:=by unfold Run;rfl
theorem qjU:Run X f nt n0 Q (.seq b :: fs) (some (.normal,e,H)) = Run X f nt n0 Q fs (code X f nt n0 b e H):=by rw [Run]
theorem qjV {i:Nat}:Run X f nt n0 Q (.seq b :: fs) (some (.exit i,e,H)) = Run X f nt n0 Q fs (some (.exit i,e,H)):=by rw [Run];intro h;cases h
theorem qgT:Run X f nt n0 Q (.seq b :: fs) (some (.ret,e,H)) = Run X f nt n0 Q fs (some (.ret,e,H)):=by rw [Run];intro h;cases h
theorem qjX {id:Nat}:Run X f nt n0 Q (.block id :: fs) (some (.normal,e,H)) = Run X f nt n0 Q fs (some (.normal,e,H)):=by rw [Run];intro i h;cases h
theorem qjW {id:Nat}:Run X f nt n0 Q (.block id :: fs) (some (.ret,e,H)) = Run X f nt n0 Q fs (some (.ret,e,H)):=by rw [Run];intro i h;cases h
theorem qjY {id i:Nat}:Run X f nt n0 Q (.block id :: fs) (some (.exit i,e,H)) = if i = id then Run X f nt n0 Q fs (some (.normal,e,H)) else Run X f nt n0 Q fs (some (.exit i,e,H)):=by rw [Run]
theorem qqz:Run X f nt n0 Q fs (code X f nt n0 (.seq a b) e H) = Run X f nt n0 Q (.seq b :: fs) (code X f nt n0 a e H):=by
 rw [qzA];cases h:code X f nt n0 a e H with
 | none=>simp [kq]
 | some q =>
  obtain ⟨ex,e1,H1⟩:=q;cases ex with
  | normal=>rw [qjU]
  | exit i=>rw [qjV]
  | ret=>rw [qgT]
theorem qjZ {id:Nat}:Run X f nt n0 Q fs (code X f nt n0 (.block id c) e H) = Run X f nt n0 Q (.block id :: fs) (code X f nt n0 c e H):=by
 rw [qzG];cases h:code X f nt n0 c e H with
 | none=>simp [kq]
 | some q =>
  obtain ⟨ex,e1,H1⟩:=q;cases ex with
  | normal=>rw [qjX]
  | exit i=>rw [qjY];by_cases hi:i = id <;> simp [hi]
  | ret=>rw [qjW]
theorem qq0:Run X f nt n0 Q fs (code X f nt n0 (.scope c) e H) = Run X f nt n0 Q fs (code X f nt n0 c e H):=by rw [qzB]
theorem Run.mono {o:Option (Ex × qp × qi)} {R:Ex→qp→qi→Prop} (h:Run X f nt n0 R [] o) (hq:∀ ex e H,R ex e H→Run X f nt n0 Q fs (some (ex,e,H))):Run X f nt n0 Q fs o:=by
 cases o with
 | none=>rw [kq] at h;exact h.elim
 | some q =>
  obtain ⟨ex,e1,H1⟩:=q;rw [Ka] at h;exact hq _ _ _ h
theorem Run.loop {σ:Type} (I:σ→qp→qi→Prop) (m:σ→Nat)
  (step:∀ s e H,I s e H→Run X f nt n0 (fun ex e' H'=>match ex with | .normal=>∃ s',m s' < m s∧I s' e' H' | ex=>Q ex e' H') [] (code X f nt n0 c e H)) :
  ∀ s e H,I s e H→Run X f nt n0 Q [] (code X f nt n0 (.loop c) e H):=by
 suffices h:∀ k s e H,m s < k→I s e H→Run X f nt n0 Q [] (code X f nt n0 (.loop c) e H) from
  fun s e H hi=>h (m s+1) s e H (Nat.lt_succ_self _) hi
 intro k
 induction k with
 | zero=>intro s e H h;omega
 | succ k ih =>
  intro s e H hk hi;have hs:=step s e H hi;rw [qiG];cases ho:code X f nt n0 c e H with
  | none=>rw [ho,kq] at hs;exact hs.elim
  | some q =>
   obtain ⟨ex,e1,H1⟩:=q;rw [ho,Ka] at hs;cases ex with
   | normal =>
    obtain ⟨s',qh,ZD⟩:=hs;exact ih s' e1 H1 (by omega) ZD
   | exit i=>exact hs
   | ret=>exact hs
def Fin (X:Cx) (z:Bool) (rs:List ResultVar) (n0:Nat) (r:D × qi):Ex→qp→qi→Prop
 | .exit _,_,_=>False
 | _,e,H=>(Qy X e H rs).bind (fun ds=>J9 z n0 H (JA ds)) = some r
theorem qiu {z:Bool} {rs:List ResultVar} {r:D × qi}:Fin X z rs n0 r .ret e H = ((Qy X e H rs).bind (fun ds=>J9 z n0 H (JA ds)) = some r):=rfl
theorem qiv {z:Bool} {rs:List ResultVar} {r:D × qi}:Fin X z rs n0 r .normal e H = ((Qy X e H rs).bind (fun ds=>J9 z n0 H (JA ds)) = some r):=rfl
theorem qq {fn:Func} {args:List D} {r:D × qi} (hf:X.P.funcs[f]? = some fn) (hb:fn.body.isSome = true) (hbad:X.bad f = false∧X.con f args H = none)
  (h:Run X f fn.ntmps H.length (Fin X (X.fzr f) fn.results.toList H.length r) [] (code X f fn.ntmps H.length (vX (qV fn)) (Qu 0 args) H)):call X f args H = some r:=by
 rw [qgk] at h;cases zL:fn.body with
 | none=>rw [zL] at hb;cases hb
 | some c =>
  have hc:qV fn = c:=by simp only [qV,zL,Ju]
  rw [hc] at h;rw [qzS hbad.2 hf zL hbad.1];cases ho:code X f fn.ntmps H.length c (Qu 0 args) H with
  | none=>rw [ho,kq] at h;exact h.elim
  | some q =>
   obtain ⟨ex,e1,H1⟩:=q;rw [ho,Ka] at h;cases ex with
   | exit i=>exact h.elim
   | normal =>
    rw [qiv] at h;cases hr:Qy X e1 H1 fn.results.toList with
    | none=>rw [hr] at h;cases h
    | some ds=>rw [hr] at h;simpa [hr] using h
   | ret =>
    rw [qiu] at h;cases hr:Qy X e1 H1 fn.results.toList with
    | none=>rw [hr] at h;cases h
    | some ds=>rw [hr] at h;simpa [hr] using h
end
attribute [simp] kq Ka qjU qjV qgT qjX qjW qjY qqz qjZ qq0 qiu qiv
end Go.Ev
namespace Go.Ev
mutual
theorem qsP (n0:Nat) (H:qi) (seen:List Nat) (acc:qi):∀ (d:D),idFree d = true→pack1 n0 H seen acc d = some (d,seen,acc)
 | .agg cs,h=>by simp only [idFree] at h;simp only [pack1,qfr n0 H seen acc cs h,jC]
 | .tup cs,h=>by simp only [idFree] at h;simp only [pack1,qfr n0 H seen acc cs h,jC]
 | .fn f cs,h=>by simp only [pack1,h,if_true]
 | .iface t d,h=>by simp only [pack1,h,if_true]
 | .optr ..,h=>by simp [idFree] at h
 | .osl ..,h=>by simp [idFree] at h
 | .bool _,_=>rfl
 | .int _ _,_=>rfl
 | .str _,_=>rfl
 | .nilp,_=>rfl
 | .nilf,_=>rfl
 | .nili,_=>rfl
 | .raw _,_=>rfl
 | .vptr _,_=>rfl
 | .vsl ..,_=>rfl
theorem qfr (n0:Nat) (H:qi) (seen:List Nat) (acc:qi):∀ (cs:List D),idFree.idFreeL cs = true→pack1.packs n0 H seen acc cs = some (cs,seen,acc)
 | [],_=>rfl
 | d :: l,h=>by
  simp only [idFree.idFreeL,qR] at h;simp only [pack1.packs,qsP n0 H seen acc d h.1,qfr n0 H seen acc l h.2]
end
mutual
theorem qjN (n:Nat):∀ (d:D),idFree d = true→shift n d = d
 | .agg cs,h=>by simp only [idFree] at h;simp only [shift,qdt n cs h]
 | .tup cs,h=>by simp only [idFree] at h;simp only [shift,qdt n cs h]
 | .fn f cs,h=>by simp only [idFree] at h;simp only [shift,qdt n cs h]
 | .iface t d,h=>by simp only [idFree] at h;simp only [shift,qjN n d h]
 | .optr ..,h=>by simp [idFree] at h
 | .osl ..,h=>by simp [idFree] at h
 | .bool _,_=>rfl
 | .int _ _,_=>rfl
 | .str _,_=>rfl
 | .nilp,_=>rfl
 | .nilf,_=>rfl
 | .nili,_=>rfl
 | .raw _,_=>rfl
 | .vptr _,_=>rfl
 | .vsl ..,_=>rfl
theorem qdt (n:Nat):∀ (cs:List D),idFree.idFreeL cs = true→shift.shiftL n cs = cs
 | [],_=>rfl
 | d :: l,h=>by
  simp only [idFree.idFreeL,qR] at h;simp only [shift.shiftL,qjN n d h.1,qdt n l h.2]
end
mutual
theorem qok (n:Nat):∀ (d:D),idFree d = true→closed n d = true
 | .agg cs,h=>by simp only [idFree] at h;simp only [closed,Vx n cs h]
 | .tup cs,h=>by simp only [idFree] at h;simp only [closed,Vx n cs h]
 | .fn f cs,h=>by simp only [idFree] at h;simp only [closed,Vx n cs h]
 | .iface t d,h=>by simp only [idFree] at h;simp only [closed,qok n d h]
 | .optr ..,h=>by simp [idFree] at h
 | .osl ..,h=>by simp [idFree] at h
 | .bool _,_=>rfl
 | .int _ _,_=>rfl
 | .str _,_=>rfl
 | .nilp,_=>rfl
 | .nilf,_=>rfl
 | .nili,_=>rfl
 | .raw _,_=>rfl
 | .vptr _,_=>rfl
 | .vsl ..,_=>rfl
theorem Vx (n:Nat):∀ (cs:List D),idFree.idFreeL cs = true→closed.closedL n cs = true
 | [],_=>rfl
 | d :: l,h=>by
  simp only [idFree.idFreeL,qR] at h;simp only [closed.closedL,qok n d h.1,Vx n l h.2,Bool.and_self]
end
theorem qfX (H:qi):∀ (cs:List D),idFree.idFreeL cs = true→freeze.freezeL H cs = some cs
 | [],_=>rfl
 | d :: l,h=>by
  simp only [idFree.idFreeL,qR] at h
  have hd:freeze H d = some d:=by
   cases d with
   | agg cs=>have h1:=h.1;simp only [idFree] at h1;simp only [freeze,qfX H cs h1,jC]
   | fn f cs=>have h1:=h.1;simp only [idFree] at h1;simp only [freeze,qfX H cs h1,jC]
   | osl _ _ _ _ _=>simp [idFree] at h
   | optr _ _ _=>simp [idFree] at h
   | _=>simp only [freeze,h.1,if_true]
  simp only [freeze.freezeL,hd,qfX H l h.2]
theorem qcM:∀ (cs:List D),idFree.idFreeL cs = cs.all idFree
 | []=>rfl
 | d :: l=>by simp only [idFree.idFreeL,XM,qcM l]
theorem qb2 (n:Nat):∀ (cs:List D),closed.closedL n cs = cs.all (closed n)
 | []=>rfl
 | d :: l=>by simp only [closed.closedL,XM,qb2 n l]
theorem qmx:∀ (a b:List D),idFree.idFreeL (a ++ b) = (idFree.idFreeL a && idFree.idFreeL b)
 | [],b=>by simp [idFree.idFreeL]
 | x :: a,b=>by simp [idFree.idFreeL,qmx a b,Bool.and_assoc]
theorem qol (n:Nat):∀ (a b:List D),closed.closedL n (a ++ b) = (closed.closedL n a && closed.closedL n b)
 | [],b=>by simp [closed.closedL]
 | x :: a,b=>by simp [closed.closedL,qol n a b,Bool.and_assoc]
theorem qjp:∀ (a b:List D),vFree.vFreeL (a ++ b) = (vFree.vFreeL a && vFree.vFreeL b)
 | [],b=>by simp [vFree.vFreeL]
 | x :: a,b=>by simp [vFree.vFreeL,qjp a b,Bool.and_assoc]
@[simp] theorem qth (s:List UInt8):(qd s).length = s.length:=by simp [qd]
@[simp] theorem qx7 (s:List UInt8):idFree.idFreeL (qd s) = true:=by
 induction s with
 | nil=>rfl
 | cons a s ih=>simpa [qd,idFree.idFreeL,idFree] using ih
@[simp] theorem q1t (s:List UInt8):vFree.vFreeL (qd s) = true:=by
 induction s with
 | nil=>rfl
 | cons a s ih=>simpa [qd,vFree.vFreeL,vFree] using ih
@[simp] theorem q8C (n:Nat) (s:List UInt8):closed.closedL n (qd s) = true:=Vx n _ (qx7 s)
@[simp] theorem q1a (s:List UInt8):(qd s).all idFree = true:=by simp [qd,idFree]
@[simp] theorem q1c (n:Nat) (s:List UInt8):(qd s).all (closed n) = true:=by simp [qd,closed]
@[simp] theorem q0Y (s:List UInt8):(qd s).all vFree = true:=by simp [qd,vFree]
@[simp] theorem q1Y {s:List UInt8} {n:Nat} (h:s.length≤n):(qd s).take n = qd s:=qu (by simpa using h)
@[simp] theorem q8H (s:List UInt8):(∀ x,x∈qd s→idFree x = true) = True:=eq_true (List.all_eq_true.1 (q1a s))
@[simp] theorem q8I (s:List UInt8) (n:Nat):(∀ x,x∈qd s→closed n x = true) = True:=eq_true (List.all_eq_true.1 (q1c n s))
@[simp] theorem q8G (s:List UInt8):(∀ x,x∈qd s→vFree x = true) = True:=eq_true (List.all_eq_true.1 (q0Y s))
attribute [simp] qfr qdt Vx qfX qmx qol qjp
theorem wrap_i64 {n:Int} (h:-9223372036854775808≤n∧n < 9223372036854775808):IntKind.i64.wrap n = n:=by
 simp only [IntKind.wrap,IntKind.signed,IntKind.bits];simp;omega
theorem qS {n:Int} (h:0≤n∧n < 18446744073709551616):IntKind.u64.wrap n = n:=by
 simp only [IntKind.wrap,IntKind.signed,IntKind.bits];simp;omega
theorem QE {n:Int} (h:0≤n∧n < 256):IntKind.u8.wrap n = n:=by
 simp only [IntKind.wrap,IntKind.signed,IntKind.bits];simp;omega
theorem KI {n:Int} (h:0≤n∧n < 4294967296):IntKind.u32.wrap n = n:=by
 simp only [IntKind.wrap,IntKind.signed,IntKind.bits];simp;omega
theorem qpf {n:Int} (h:0≤n∧n < 65536):IntKind.u16.wrap n = n:=by
 simp only [IntKind.wrap,IntKind.signed,IntKind.bits];simp;omega
theorem qg5 {n:Int} (h:-2147483648≤n∧n < 2147483648):IntKind.i32.wrap n = n:=by
 simp only [IntKind.wrap,IntKind.signed,IntKind.bits];simp;omega
theorem qoz {n x:Nat} (h:x < 2 ^ n):(BitVec.ofInt n (x:Int)).toNat = x:=by
 rw [qeA,qdg,qbB h]
theorem qpg {k:IntKind} (hk:k.signed = false) {x:Nat} (h:x < 2 ^ k.bits):k.wrap (x:Int) = (x:Int):=by
 have:((x:Int) % (2 ^ k.bits:Int)) = x:=Int.emod_eq_of_lt (by omega) (by exact_mod_cast h);simp only [IntKind.wrap,hk];simpa using this
theorem qlo {k:IntKind} (hk:k.signed = false) {x y:Nat} (hx:x < 2 ^ k.bits) (hy:y < 2 ^ k.bits):Kf k x y = ((x ||| y:Nat):Int):=by
 unfold Kf;rw [BitVec.toNat_or,qoz hx,qoz hy,qpg hk (Nat.or_lt_two_pow hx hy)]
attribute [simp] wrap_i64 qS QE KI qpf qg5
end Go.Ev
namespace Go.Ev
open Go Go.Proofs
def Yz:List D→Option (List Int)
 | []=>some []
 | .int .u8 n :: l=>(Yz l).map (n :: ·)
 | _=>none
def XS:D→Option (List Int)
 | .vsl true [] 0=>some []
 | .vsl false cs len=>if cs.length = len then Yz cs else none
 | _=>none
def qcU:List D→Option D
 | [x,y]=>match XS x,XS y with
  | some a,some b=>some (.int .i64 (Extern.BytealgCompare.cmp ⟨(Lib.bytesOf a).toArray⟩ ⟨(Lib.bytesOf b).toArray⟩))
  | _,_=>none
 | _=>none
theorem qox:∀ {cs:List D} {l:List Int},Yz cs = some l→cs.length = l.length∧∀ (j:Nat) x,l[j]? = some x→cs[j]? = some (.int .u8 x)
 | [],l,h=>by simp only [Yz,qs] at h;subst h;simp
 | d :: cs,l,h=>by
  cases d with
  | int k n =>
   cases k with
   | u8 =>
    simp only [Yz] at h;cases hb:Yz cs with
    | none=>simp [hb] at h
    | some l' =>
     simp only [hb,jC,qs] at h;subst h;obtain ⟨h1,h2⟩:=qox hb;refine ⟨by simp [h1],fun j x hj=>?_⟩;cases j with
     | zero=>simpa using hj
     | succ j=>simpa using h2 j x (by simpa using hj)
   | _=>simp [Yz] at h
  | _=>simp [Yz] at h
theorem qjK {P:Program} {ok:Nat→Prop} {w:World} {ι:qB} {H:qi} {d:D} {v:Value} {l:List Int} (h:XS d = some l) (hr:Rep ok w ι H d v) :
  (Extern.Bytes.bytesOf v).run P w = .ok ⟨(Lib.bytesOf l).toArray⟩ w:=by
 cases hr with
 | vnil=>simp only [XS,qs] at h;subst h;simp [Extern.Bytes.bytesOf,Lib.bytesOf];rfl
 | vsl a f ha hc hr hf qO =>
  rename_i ds len c;simp only [XS] at h;split at h
  ·rename_i zl;obtain ⟨h1,h2⟩:=qox h
   have:=Lib.run_loadBytesX (P:=P) w l a .empty (fun j x hj=>by
    have hd:=h2 j x hj;rw [hr j _ hd];have:=hf j _ hd;generalize f j = v at this;cases this;rfl)
   simp only [Extern.Bytes.bytesOf];rw [← zl,h1,this];simp
  ·cases h
 | _=>simp [XS] at h
theorem qzL {P : Program} {f : Nat} {fn : Func} (hf : P.funcs[f]? = some fn) (hn : fn.body = none) (JH : (fn.name == "runtime.NumGoroutine") = false)
  (h1:Extern.findNext fn = none) (h2:Extern.find fn = some Extern.BytealgCompare.compare) {ok:Nat→Prop} {w:World} {ι:qB} {H:qi} {args:List D} {d:D} {vs:List Value}
  (h:qcU args = some d) (hv:RepL ok w ι H args vs):∃ v,(callFunc f vs.toArray).run P w = .ok (.value v) w∧Rep ok w ι H d v∧idFree d = true:=by
 rw [run_callFunc_extern hf JH (by rw [hn];rfl) h1 h2]
 match args,h with
 | [x,y],h =>
  simp only [qcU] at h;cases hx:XS x with
  | none=>simp [hx] at h
  | some a =>
   cases hy:XS y with
   | none=>simp [hx,hy] at h
   | some b =>
    simp only [hx,hy,qs] at h;subst h
    obtain ⟨u,v,rfl,hu,hv⟩:∃ u v,vs = [u,v]∧Rep ok w ι H x u∧Rep ok w ι H y v:=by
     obtain ⟨hl,hh⟩:=hv
     match vs,hl with
     | [u,v],_=>exact ⟨u,v,rfl,hh 0 x rfl,hh 1 y rfl⟩
    refine ⟨_,?_,.int .i64 _,rfl⟩;have hc:Extern.BytealgCompare.compare [u,v].toArray = (do pure (goInt (Extern.BytealgCompare.cmp (← Extern.Bytes.bytesOf u) (← Extern.Bytes.bytesOf v)))):=rfl;rw [hc];simp only [Sem.run_bind,qjK hx hu,qjK hy hv,Result.andThen];rfl
def qx:List UInt8→List UInt8→Int
 | [],[]=>0
 | [],_ :: _=>-1
 | _ :: _,[]=>1
 | a :: x,b :: y=>if a = b then qx x y else if a < b then -1 else 1
theorem Xi (l:List UInt8):(ByteArray.mk l.toArray).size = l.length:=by
 show l.toArray.size = _;simp
theorem qiW (l:List UInt8) (i:Nat):(ByteArray.mk l.toArray)[i]! = (l[i]?).getD 0:=by
 by_cases h:i < l.length
 ·have h':i < (ByteArray.mk l.toArray).size:=by rw [Xi];exact h
  rw [getElem!_pos (ByteArray.mk l.toArray) i h',zg h];rfl
 ·have h':¬ i < (ByteArray.mk l.toArray).size:=by rw [Xi];exact h
  rw [getElem!_neg (ByteArray.mk l.toArray) i h',List.getElem?_eq_none (by omega)];rfl
theorem qzK (a:UInt8) (x:List UInt8) (b:UInt8) (y:List UInt8) :
  Extern.BytealgCompare.cmp ⟨(a :: x).toArray⟩ ⟨(b :: y).toArray⟩ = if a = b then Extern.BytealgCompare.cmp ⟨x.toArray⟩ ⟨y.toArray⟩ else if a < b then -1 else 1:=by
 have hs:min (ByteArray.mk (a :: x).toArray).size (ByteArray.mk (b :: y).toArray).size = min x.length y.length+1:=by
  show min (a :: x).toArray.size (b :: y).toArray.size = _;simp only [List.size_toArray,qH];omega
 have kY:min (ByteArray.mk x.toArray).size (ByteArray.mk y.toArray).size = min x.length y.length:=by
  show min x.toArray.size y.toArray.size = _;simp
 have hg:∀ (c:UInt8) (z:List UInt8) (i:Nat),(ByteArray.mk (c :: z).toArray)[i+1]! = (ByteArray.mk z.toArray)[i]!:=fun c z i=>by
  rw [qiW,qiW];rfl
 have Vn:∀ (c:UInt8) (z:List UInt8),(ByteArray.mk (c :: z).toArray)[0]! = c:=fun c z=>by rw [qiW];rfl
 unfold Extern.BytealgCompare.cmp;rw [hs,kY,List.range_succ_eq_map,List.find?_cons];simp only [Vn];by_cases hab:a = b
 ·subst hab;simp only [bne_self_eq_false,if_true,List.find?_map,Function.comp_def,hg,Nat.succ_eq_add_one];cases List.find? (fun i=>(ByteArray.mk x.toArray)[i]! != (ByteArray.mk y.toArray)[i]!) (List.range (min x.length y.length)) with
  | some i=>simp only [jC,hg]
  | none =>
   have e:∀ (c:UInt8) (z:List UInt8),(ByteArray.mk (c :: z).toArray).size = (ByteArray.mk z.toArray).size+1:=fun c z=>by
    show (c :: z).toArray.size = z.toArray.size+1;simp
   simp only [Option.map_none,e,Nat.add_lt_add_iff_right,gt_iff_lt]
 ·have:(a != b) = true:=by simp [hab]
  simp only [this,hab,if_false,Vn]
theorem qoh:∀ (x y:List UInt8),Extern.BytealgCompare.cmp ⟨x.toArray⟩ ⟨y.toArray⟩ = qx x y
 | [],[]=>rfl
 | [],b :: y=>by
  unfold Extern.BytealgCompare.cmp;rw [Xi,Xi];simp [qx]
 | a :: x,[]=>by
  unfold Extern.BytealgCompare.cmp;rw [Xi,Xi];simp [qx]
 | a :: x,b :: y=>by rw [qzK,qx,qoh x y]
theorem q0n (s:List UInt8):Yz (qd s) = some (s.map fun b=>(b.toNat:Int)):=by
 induction s with
 | nil=>rfl
 | cons a s ih=>simp only [qd,XK,Yz] at ih ⊢;rw [ih];rfl
theorem q0m (s:List UInt8):Lib.bytesOf (s.map fun b=>(b.toNat:Int)) = s:=by
 simp [Lib.bytesOf,Function.comp_def]
theorem qzM (m n:Bool) (x y:List UInt8) (hm:m = true→x = []) (hn:n = true→y = []) :
  qcU [.vsl m (qd x) x.length,.vsl n (qd y) y.length] = some (.int .i64 (qx x y)):=by
 have h:∀ (m:Bool) (x:List UInt8),(m = true→x = [])→XS (.vsl m (qd x) x.length) = some (x.map fun b=>(b.toNat:Int)):=by
  intro m x hm;cases m with
  | true=>rw [hm rfl];rfl
  | false=>simp [XS,q0n]
 simp only [qcU,h m x hm,h n y hn,q0m,qoh]
end Go.Ev
namespace Go.Ev
section
variable {X:Cx} {f nt n0:Nat}
structure SOp where
 dst:Option Tmp
 op:Op
 g:Option (Option Tmp × Bool)
def qc4 (ops:Array Oper) (o:Oper):SOp:=⟨o.dst,o.op,match o.guard with
 | none=>none
 | some (j,want)=>some ((ops[j]?).bind (·.dst),want)⟩
def Ja (ops:Array Oper):List Oper→List SOp
 | []=>[]
 | o :: l=>qc4 ops o :: Ja ops l
def XF (e:qp):Option (Option Tmp × Bool)→Option Bool
 | none=>some true
 | some (none,_)=>some false
 | some (some t,want)=>match qf e t with
  | some (.bool b)=>some (b == want)
  | some (.tup [])=>some false
  | _=>none
theorem qmD (ops:Array Oper) (e:qp) (g:Option (Nat × Bool)):jw ops e g = XF e (match g with
  | none=>none
  | some (j,want)=>some ((ops[j]?).bind (·.dst),want)):=by
 cases g with
 | none=>rfl
 | some q =>
  obtain ⟨j,want⟩:=q;simp only [jw,XF];cases (ops[j]?).bind (·.dst) <;> rfl
def evS (X:Cx) (F:zk) (nt:Nat) (drw:Bool):List SOp→qp→qi→Option (qp × qi)
 | [],e,H=>some (e,H)
 | o :: l,e,H=>match vo nt o.dst,XF e o.g with
  | true,some true=>match qJ X F drw o.op e H with
   | some (d,H')=>evS X F nt drw l (vg e o.dst d) H'
   | none=>none
  | true,some false=>evS X F nt drw l (vg e o.dst (.tup [])) H
  | _,_=>none
theorem qiz {F:zk} {drw:Bool} (ops:Array Oper):∀ (l:List Oper) (e:qp) (H:qi),jx X F nt drw ops l e H = evS X F nt drw (Ja ops l) e H
 | [],e,H=>rfl
 | o :: l,e,H=>by
  simp only [jx,Ja,evS,qmD ops e o.guard]
  show _ = match vo nt o.dst,XF e (qc4 ops o).g with
   | true,some true=>match qJ X F drw o.op e H with
    | some (d,H')=>evS X F nt drw (Ja ops l) (vg e o.dst d) H'
    | none=>none
   | true,some false=>evS X F nt drw (Ja ops l) (vg e o.dst (.tup [])) H
   | _,_=>none
  simp only [qiz ops l,qc4];rfl
variable {Q:Ex→qp→qi→Prop} {fs:List Fr} {e:qp} {H:qi}
def Z1 (X:Cx) (f nt n0:Nat) (Q:Ex→qp→qi→Prop) (fs:List Fr) (drw:Bool) (l:List SOp) (e:qp) (H:qi):Prop :=
 Run X f nt n0 Q fs ((evS X (call X) nt drw l e H).map fun (e,H)=>(.normal,e,H))
def XI (X:Cx) (f nt n0:Nat) (Q:Ex→qp→qi→Prop) (fs:List Fr) (drw:Bool) (l:List SOp) (e:qp) (dst:Option Tmp):Option (D × qi)→Prop
 | none=>False
 | some (d,H)=>Z1 X f nt n0 Q fs drw l (vg e dst d) H
def qay (X:Cx) (f nt n0:Nat) (Q:Ex→qp→qi→Prop) (fs:List Fr) (drw:Bool) (dst:Option Tmp) (op:Op) (want:Bool) (l:List SOp) (e:qp) (H:qi):Option D→Prop
 | some (.bool b)=>if b = want then XI X f nt n0 Q fs drw l e dst (qJ X (call X) drw op e H) else Z1 X f nt n0 Q fs drw l (vg e dst (.tup [])) H
 | some (.tup [])=>Z1 X f nt n0 Q fs drw l (vg e dst (.tup [])) H
 | _=>False
theorem qq7 {drw:Bool}:Z1 X f nt n0 Q fs drw [] e H = Run X f nt n0 Q fs (some (.normal,e,H)):=rfl
theorem qq6 {drw:Bool} {dst:Option Tmp} {op:Op} {l:List SOp}:Z1 X f nt n0 Q fs drw (⟨dst,op,none⟩ :: l) e H =
  (vo nt dst = true∧XI X f nt n0 Q fs drw l e dst (qJ X (call X) drw op e H)):=by
 unfold Z1;simp only [evS,XF];cases vo nt dst with
 | false=>simp [kq]
 | true =>
  cases qJ X (call X) drw op e H with
  | none=>simp [XI,kq]
  | some q=>simp [XI,Z1]
theorem qq5 {drw:Bool} {dst:Option Tmp} {op:Op} {l:List SOp} {t:Tmp} {want:Bool}:Z1 X f nt n0 Q fs drw (⟨dst,op,some (some t,want)⟩ :: l) e H =
  (vo nt dst = true∧qay X f nt n0 Q fs drw dst op want l e H (qf e t)):=by
 unfold Z1;simp only [evS,XF];cases vo nt dst with
 | false=>simp [kq]
 | true =>
  cases qf e t with
  | none=>simp [qay,kq]
  | some d =>
   cases d with
   | bool b =>
    by_cases hb:b = want
    ·subst hb;simp only [beq_self_eq_true,qay,if_true,true_and];cases qJ X (call X) drw op e H with
     | none=>simp [XI,kq]
     | some q=>simp [XI,Z1]
    ·have:(b == want) = false:=(by simpa using hb);simp [qay,hb,this,Z1]
   | tup cs =>
    cases cs with
    | nil=>simp [qay,Z1]
    | cons=>simp [qay,kq]
   | _=>simp [qay,kq]
theorem qqD {drw:Bool} {dst:Option Tmp} {l:List SOp} {d:D}:XI X f nt n0 Q fs drw l e dst (some (d,H)) = Z1 X f nt n0 Q fs drw l (vg e dst d) H:=rfl
theorem qqE {drw:Bool} {dst:Option Tmp} {l:List SOp}:XI X f nt n0 Q fs drw l e dst none = False:=rfl
theorem qqI {drw:Bool} {dst:Option Tmp} {op:Op} {l:List SOp} {want b:Bool}:qay X f nt n0 Q fs drw dst op want l e H (some (.bool b)) =
  if b = want then XI X f nt n0 Q fs drw l e dst (qJ X (call X) drw op e H) else Z1 X f nt n0 Q fs drw l (vg e dst (.tup [])) H:=rfl
theorem qqH {drw:Bool} {dst:Option Tmp} {op:Op} {l:List SOp} {want:Bool}:qay X f nt n0 Q fs drw dst op want l e H (some (.tup [])) = Z1 X f nt n0 Q fs drw l (vg e dst (.tup [])) H:=rfl
def qb7 (X:Cx) (f nt n0:Nat) (Q:Ex→qp→qi→Prop) (fs:List Fr) (drw:Bool) (l:List SOp):Option (qp × qi)→Prop
 | none=>False
 | some (e,H)=>Z1 X f nt n0 Q fs drw l e H
theorem qqL {drw:Bool} {l:List SOp}:qb7 X f nt n0 Q fs drw l (some (e,H)) = Z1 X f nt n0 Q fs drw l e H:=rfl
theorem qq2 {id:Nat} {ops:Array Oper}:Run X f nt n0 Q fs (code X f nt n0 (.region id ops false) e H) = qb7 X f nt n0 Q fs (X.cv f id) (Ja ops ops.toList) (enter X f n0 id e H):=by
 rw [qnZ];cases enter X f n0 id e H with
 | none=>simp [kq,qb7]
 | some q=>simp only [qb7,Z1,Jr,qiz,qd8]
section lp
variable {L:Qj} {ow:List Nat}
noncomputable def Kx (X:Cx) (F:zk) (nt:Nat) (ow:List Nat) (L:Qj):Nat→List (Nat × qi × qi)→List (Nat × List Nat)→List SOp→qp→qi→Option (qp × qi)
 | _,_,_,[],e,H=>some (e,H)
 | k,ws,rs,o :: l,e,H=>match vo nt o.dst,XF e o.g with
  | true,some true=>match qJ X F (Zl ow o.dst) o.op e H with
   | some (d,H') =>
    @ite _ ((Zr L k = true→XH L k (kE (o.op.operands.toList.map (qN X e))) ws)∧(Zm L k = true→H.length≤H'.length∧XG L k H H' rs)) (Classical.propDecidable _)
     (Kx X F nt ow L (k+1) (if Zm L k then (k,H,H') :: ws else ws) (if Zr L k then (k,kE (o.op.operands.toList.map (qN X e))) :: rs else rs) l (vg e o.dst d) H') none
   | none=>none
  | true,some false=>Kx X F nt ow L (k+1) ws rs l (vg e o.dst (.tup [])) H
  | _,_=>none
theorem qnq {F:zk} (ops:Array Oper):∀ (l:List Oper) (k:Nat) (ws:List (Nat × qi × qi)) (rs:List (Nat × List Nat)) (e:qp) (H:qi),kl X F nt ow ops L k ws rs l e H = Kx X F nt ow L k ws rs (Ja ops l) e H
 | [],k,ws,rs,e,H=>by simp only [Ja,Kx,kl]
 | o :: l,k,ws,rs,e,H=>by
  have ih:=qnq (F:=F) ops l;rw [kl];show _ = Kx X F nt ow L k ws rs (qc4 ops o :: Ja ops l) e H;rw [Kx]
  show _ = match vo nt o.dst,XF e (qc4 ops o).g with
   | true,some true=>match qJ X F (Zl ow o.dst) o.op e H with
    | some (d,H') =>
     @ite _ ((Zr L k = true→XH L k (kE (o.op.operands.toList.map (qN X e))) ws)∧(Zm L k = true→H.length≤H'.length∧XG L k H H' rs)) (Classical.propDecidable _)
      (Kx X F nt ow L (k+1) (if Zm L k then (k,H,H') :: ws else ws) (if Zr L k then (k,kE (o.op.operands.toList.map (qN X e))) :: rs else rs) (Ja ops l) (vg e o.dst d) H') none
    | none=>none
   | true,some false=>Kx X F nt ow L (k+1) ws rs (Ja ops l) (vg e o.dst (.tup [])) H
   | _,_=>none
  have h3:XF e (qc4 ops o).g = jw ops e o.guard:=(qmD ops e o.guard).symm;rw [h3];cases hd:vo nt o.dst with
  | false=>simp only
  | true =>
   cases hg:jw ops e o.guard with
   | none=>simp only
   | some b =>
    cases b with
    | false=>simp only [ih]
    | true =>
     cases ho:qJ X F (Zl ow o.dst) o.op e H with
     | none=>simp only
     | some q =>
      obtain ⟨d,H1⟩:=q;simp only;by_cases hc:(Zr L k = true→XH L k (kE (o.op.operands.toList.map (qN X e))) ws)∧(Zm L k = true→H.length≤H1.length∧XG L k H H1 rs)
      ·rw [if_pos hc,if_pos hc];exact ih _ _ _ _ _
      ·rw [if_neg hc,if_neg hc]
def ZQ (X:Cx) (f nt n0:Nat) (Q:Ex→qp→qi→Prop) (fs:List Fr) (ow:List Nat) (L:Qj) (k:Nat) (ws:List (Nat × qi × qi)) (rs:List (Nat × List Nat)) (l:List SOp) (e:qp) (H:qi):Prop :=
 Run X f nt n0 Q fs ((Kx X (call X) nt ow L k ws rs l e H).map fun (e,H)=>(.normal,e,H))
def qb6 (X:Cx) (f nt n0:Nat) (Q:Ex→qp→qi→Prop) (fs:List Fr) (ow:List Nat) (L:Qj) (k:Nat) (ws:List (Nat × qi × qi)) (rs:List (Nat × List Nat)) (bs:List Nat) (l:List SOp) (e:qp) (dst:Option Tmp) (H:qi):Option (D × qi)→Prop
 | none=>False
 | some (d,H')=>(Zr L k = true→XH L k bs ws)∧(Zm L k = true→H.length≤H'.length∧XG L k H H' rs) ∧
   ZQ X f nt n0 Q fs ow L (k+1) (if Zm L k then (k,H,H') :: ws else ws) (if Zr L k then (k,bs) :: rs else rs) l (vg e dst d) H'
def qax (X:Cx) (f nt n0:Nat) (Q:Ex→qp→qi→Prop) (fs:List Fr) (ow:List Nat) (L:Qj) (k:Nat) (ws:List (Nat × qi × qi)) (rs:List (Nat × List Nat)) (bs:List Nat) (dst:Option Tmp) (op:Op) (want:Bool) (l:List SOp) (e:qp) (H:qi):Option D→Prop
 | some (.bool b)=>if b = want then qb6 X f nt n0 Q fs ow L k ws rs bs l e dst H (qJ X (call X) (Zl ow dst) op e H) else ZQ X f nt n0 Q fs ow L (k+1) ws rs l (vg e dst (.tup [])) H
 | some (.tup [])=>ZQ X f nt n0 Q fs ow L (k+1) ws rs l (vg e dst (.tup [])) H
 | _=>False
variable {k:Nat} {ws:List (Nat × qi × qi)} {rs:List (Nat × List Nat)}
theorem qqA:ZQ X f nt n0 Q fs ow L k ws rs [] e H = Run X f nt n0 Q fs (some (.normal,e,H)):=by unfold ZQ;simp only [Kx];rfl
theorem qkb {dst:Option Tmp} {op:Op} {l:List SOp}:Run X f nt n0 Q fs (Option.map (fun (e,H)=>(Ex.normal,e,H)) (match qJ X (call X) (Zl ow dst) op e H with
   | some (d,H') =>
    @ite _ ((Zr L k = true→XH L k (kE (op.operands.toList.map (qN X e))) ws)∧(Zm L k = true→H.length≤H'.length∧XG L k H H' rs)) (Classical.propDecidable _)
     (Kx X (call X) nt ow L (k+1) (if Zm L k then (k,H,H') :: ws else ws) (if Zr L k then (k,kE (op.operands.toList.map (qN X e))) :: rs else rs) l (vg e dst d) H') none
   | none=>none)) = qb6 X f nt n0 Q fs ow L k ws rs (kE (op.operands.toList.map (qN X e))) l e dst H (qJ X (call X) (Zl ow dst) op e H):=by
 cases qJ X (call X) (Zl ow dst) op e H with
 | none=>simp [qb6,kq]
 | some q =>
  obtain ⟨d,H1⟩:=q;simp only [qb6,ZQ];by_cases hc:(Zr L k = true→XH L k (kE (op.operands.toList.map (qN X e))) ws)∧(Zm L k = true→H.length≤H1.length∧XG L k H H1 rs)
  ·rw [if_pos hc];exact propext ⟨fun h=>⟨hc.1,hc.2,h⟩,fun h=>h.2.2⟩
  ·rw [if_neg hc];simp only [Option.map_none,kq];exact propext ⟨fun h=>h.elim,fun h=>hc ⟨h.1,h.2.1⟩⟩
theorem qq9 {dst:Option Tmp} {op:Op} {l:List SOp}:ZQ X f nt n0 Q fs ow L k ws rs (⟨dst,op,none⟩ :: l) e H =
  (vo nt dst = true∧qb6 X f nt n0 Q fs ow L k ws rs (kE (op.operands.toList.map (qN X e))) l e dst H (qJ X (call X) (Zl ow dst) op e H)):=by
 rw [← qkb];unfold ZQ;simp only [Kx,XF];cases vo nt dst with
 | false=>simp [kq]
 | true=>simp
theorem qq8 {dst:Option Tmp} {op:Op} {l:List SOp} {t:Tmp} {want:Bool}:ZQ X f nt n0 Q fs ow L k ws rs (⟨dst,op,some (some t,want)⟩ :: l) e H =
  (vo nt dst = true∧qax X f nt n0 Q fs ow L k ws rs (kE (op.operands.toList.map (qN X e))) dst op want l e H (qf e t)):=by
 unfold ZQ;simp only [Kx,XF];cases vo nt dst with
 | false=>simp [kq]
 | true =>
  cases qf e t with
  | none=>simp [qax,kq]
  | some d =>
   cases d with
   | bool b =>
    by_cases hb:b = want
    ·subst hb;simp only [beq_self_eq_true,qax,if_true,true_and];rw [← qkb]
    ·have:(b == want) = false:=(by simpa using hb);simp [qax,hb,this,ZQ]
   | tup cs =>
    cases cs with
    | nil=>simp [qax,ZQ]
    | cons=>simp [qax,kq]
   | _=>simp [qax,kq]
theorem qqF {dst:Option Tmp} {l:List SOp} {d:D} {bs:List Nat} {H':qi}:qb6 X f nt n0 Q fs ow L k ws rs bs l e dst H (some (d,H')) = ((Zr L k = true→XH L k bs ws)∧(Zm L k = true→H.length≤H'.length∧XG L k H H' rs) ∧
   ZQ X f nt n0 Q fs ow L (k+1) (if Zm L k then (k,H,H') :: ws else ws) (if Zr L k then (k,bs) :: rs else rs) l (vg e dst d) H'):=rfl
theorem qqG {dst:Option Tmp} {l:List SOp} {bs:List Nat}:qb6 X f nt n0 Q fs ow L k ws rs bs l e dst H none = False:=rfl
theorem qqK {dst:Option Tmp} {op:Op} {l:List SOp} {want b:Bool} {bs:List Nat}:qax X f nt n0 Q fs ow L k ws rs bs dst op want l e H (some (.bool b)) =
  if b = want then qb6 X f nt n0 Q fs ow L k ws rs bs l e dst H (qJ X (call X) (Zl ow dst) op e H) else ZQ X f nt n0 Q fs ow L (k+1) ws rs l (vg e dst (.tup [])) H:=rfl
theorem qqJ {dst:Option Tmp} {op:Op} {l:List SOp} {want:Bool} {bs:List Nat}:qax X f nt n0 Q fs ow L k ws rs bs dst op want l e H (some (.tup [])) = ZQ X f nt n0 Q fs ow L (k+1) ws rs l (vg e dst (.tup [])) H:=rfl
def qe4 (X:Cx) (f nt n0:Nat) (Q:Ex→qp→qi→Prop) (fs:List Fr) (drw:Bool):Option (Qj × List Nat)→List SOp→Option (qp × qi)→Prop
 | none,l,o=>qb7 X f nt n0 Q fs drw l o
 | some (L,ow),l,some (e,H)=>ZQ X f nt n0 Q fs ow L 0 [] [] l e H
 | _,_,none=>False
theorem qqB {drw:Bool} {l:List SOp} {o:Option (qp × qi)}:qe4 X f nt n0 Q fs drw none l o = qb7 X f nt n0 Q fs drw l o:=rfl
theorem qqC {drw:Bool} {l:List SOp}:qe4 X f nt n0 Q fs drw (some (L,ow)) l (some (e,H)) = ZQ X f nt n0 Q fs ow L 0 [] [] l e H:=rfl
end lp
theorem qq1 {id:Nat} {ops:Array Oper}:Run X f nt n0 Q fs (code X f nt n0 (.region id ops true) e H) = qe4 X f nt n0 Q fs (!qaJ ops.toList) (X.lp f id) (Ja ops ops.toList) (enter X f n0 id e H):=by
 rw [qnZ];cases Qc:enter X f n0 id e H with
 | none=>cases X7:X.lp f id <;> simp [kq,qb7,qe4]
 | some q=>cases X7:X.lp f id <;> simp only [qb7,Z1,qe4,ZQ,Jr,X7,qiz,qnq,qd8]
theorem qpK (ops:Array Oper) (dst:Option Tmp) (op:Op) (ty:TypeId) (pos:String) (af:Array Edge) (l:List Oper):Ja ops ({ dst:=dst,op:=op,type:=ty,pos:=pos,after:=af,guard:=none } :: l) = ⟨dst,op,none⟩ :: Ja ops l:=rfl
theorem qpJ (ops:Array Oper) (dst:Option Tmp) (op:Op) (ty:TypeId) (pos:String) (af:Array Edge) (j:Nat) (want:Bool) (l:List Oper) :
  Ja ops ({ dst:=dst,op:=op,type:=ty,pos:=pos,after:=af,guard:=some (j,want) } :: l) = ⟨dst,op,some ((ops[j]?).bind (·.dst),want)⟩ :: Ja ops l:=rfl
theorem qpI (ops:Array Oper):Ja ops [] = []:=rfl
end
attribute [simp] Zl Op.operands Call.operands kE Xk Zm Zr XH XG qqA qq9 qq8 qqF qqG qqK qqJ qqB qqC qq7 qq6 qq5 qqD qqE qqI qqH qqL qq2 qq1 qaJ qmf qpK qpJ qpI
end Go.Ev
namespace Go.Ev
@[simp] theorem q0M (H L:qi) (k:Nat):(H ++ L)[H.length+k]? = L[k]?:=by rw [VU (Nat.le_add_right _ _),Nat.add_sub_cancel_left]
@[simp] theorem q8K (H L:qi):(H ++ L)[H.length]? = L[0]?:=q0M H L 0
@[simp] theorem q0L (H L:qi) (k:Nat) (x:Option (List D)):(H ++ L).set (H.length+k) x = H ++ L.set k x:=by
 rw [List.set_append_right _ _ (Nat.le_add_right _ _),Nat.add_sub_cancel_left]
@[simp] theorem q8J (H L:qi) (x:Option (List D)):(H ++ L).set H.length x = H ++ L.set 0 x:=q0L H L 0 x
end Go.Ev
namespace Go.Ev
open Go Go.Proofs Go.ChangeShapes Go.WideShapes Go.ChangeAt Go.RowKit
theorem qsy {H:Type} {enc:TypeId × Value→H} {P:Program} {f:Func} {s:ChangeSpec} {apart fresh handsOn again:Bool} {W W':World} {args:Array Value} {v:Value} {ds gs:List (DataW H)} {before pa pv:List MemPlace}
  (hW:DataW.Whole enc P f.params.toList s.vars apart W args.toList ds gs before)
  (hres:∀ (b:Nat) (sp:Nat→Bool) (hd:Bool),DataW.TrodAll enc P W' b sp hd f.resultTypes.toList (v.resultList f.resultTypes.size) (s.fn H (ds ++ gs)).results [])
  (hargs:∀ sp:Nat→Bool,(∀ p∈before,sp p.block = true)→DataW.TrodAll enc P W' 0 sp true f.params.toList args.toList (s.fn H (ds ++ gs)).args pa)
  (hvars:∀ sp:Nat→Bool,(∀ p∈before,sp p.block = true)→DataW.TrodVars enc P W' sp s.vars (s.fn H (ds ++ gs)).vars pv)
  (Zf:before = pa ++ pv) (hb:Below W.heap.size W W')
  (hok:∀ (j:Nat) (t:TypeId) (r:Value),f.resultTypes[j]? = some t→(v.resultList f.resultTypes.size)[j]? = some r→Value.okWide P W' .any 0 t r) :
  s.post enc P f apart fresh handsOn again W args v W':=by
 have qh:∀ p∈before,p.block < W.heap.size:=fun p hp=>hW.lt p hp;have hold:∀ p∈before,(fun b=>decide (b < W.heap.size)) p.block = true:=fun p hp=>by simpa using qh p hp
 refine ⟨ds,gs,before,[],pa,pv,hW,hres _ _ _,hargs _ hold,hvars _ hold,World.keptBut_mono (fun p hp=>⟨hp,?_⟩) (hb.frame (·∈before)),fun _=>?_⟩
 ·rw [Zf,qbD] at hp;exact Or.inr hp
 ·obtain ⟨_,_,_,_,_,hz,hn⟩:=hW;refine ⟨hok,_,_,([] ++ pa) ++ pv,⟨[] ++ pa,pv,trodAll_append (hargs _ (fun _ _=>rfl)) (hres _ _ _),hvars _ (fun _ _=>rfl),rfl,?_,?_⟩,?_⟩
  ·intro b off hp;have Vk:MemPlace.cell b off∈before:=(by rw [Zf];simpa using hp);rw [hb.frozen (qh _ Vk)];exact hz b off Vk
  ·intro ha;have:=hn ha;rw [Zf] at this;simpa using this
  ·intro p hp _;rw [Zf];simpa using hp
theorem qjw {H:Type} {enc:TypeId × Value→H} {P:Program} (hl:laidOutB P = true) {W W':World} {sp:Nat→Bool} (hb:Below W.heap.size W W') :
  ∀ {ts:List TypeId} {vs:List Value} {ds:List (DataW H)} {ps:List MemPlace},(ts.all fun t=>P.readableRec t && decide (t < P.types.size)) = true →
   DataW.TrodAll enc P W 0 (fun _=>true) true ts vs ds ps→(∀ p∈ps,p.block < W.heap.size)→(∀ p∈ps,sp p.block = true)→DataW.TrodAll enc P W' 0 sp true ts vs ds ps
 | [],[],[],_,_,h,_,_=>h
 | _ :: _,_ :: _,_ :: _,_,ht,⟨p,q,h1,h2,e⟩,qh,hs=>by
  simp only [XM,qR,decide_eq_true_eq] at ht;subst e
  exact ⟨p,q,WideElems.Trod_stays hl ht.1.1 ht.1.2 h1 (fun x hx=>hb.same (qh x (qcu _ hx))) (fun x hx=>hs x (qcu _ hx)),
   qjw hl hb (by simpa using ht.2) h2 (fun x hx=>qh x (List.mem_append_right _ hx)) (fun x hx=>hs x (List.mem_append_right _ hx)),rfl⟩
theorem quk {H:Type} {enc:TypeId × Value→H} {X:Cx} (hG:Good X) (hl:laidOutB X.P = true) {f:Nat} {fn:Func} {tb:TypeId} (hf:X.P.funcs[f]? = some fn) (zL:fn.body.isSome = true)
  (hres:fn.resultTypes = #[tb]) (htb:X.P.underlying tb = some .bool) (hpar:(fn.params.toList.all fun t=>X.P.readableRec t && decide (t < X.P.types.size)) = true)
  {s:ChangeSpec} (hvr:s.vars = []) {W:World} {args:Array Value} {ds gs:List (DataW H)} {before:List MemPlace}
  (hglob:∀ g cs,X.glob g = some cs→Rep (· < W.heap.size) W ze [] (.vptr cs) (.pointer (some ⟨g,0,none⟩)))
  (hW:DataW.Whole enc X.P fn.params.toList s.vars false W args.toList ds gs before) (hs:(s.fn H (ds ++ gs)).results = [.lit (.bool true)]∧(s.fn H (ds ++ gs)).args = ds∧(s.fn H (ds ++ gs)).vars = [])
  {dd:List D} {L:qi} (hr:RepL (· < W.heap.size) W ze [] dd args.toList) (hc:call X f dd [] = some (.bool true,L)) :
  Calls X.P f args W fun e W'=>∃ v,e = .returned v∧s.post enc X.P fn false true false false W args v W':=by
 have hsim:Sim X (· < W.heap.size) W ze []:=⟨fun b hb=>hb,hglob,fun i j ds es b s s' hd=>by simp [qo] at hd,fun i ds hd=>by simp [qo] at hd⟩;have hgo:=qgo hG f dd [] _ _ _ W ze args.toList hc hsim hr;obtain ⟨c,hb⟩:=Option.isSome_iff_exists.1 zL;have henter:(callFunc f args.toList.toArray).run X.P W = .ok (.enter f args.toList.toArray) W:=Go.Proofs.enters_of hf (hG.ng f fn hf) (by rw [hb]) _ _;unfold Goes at hgo;rw [henter] at hgo;simp only [Array.toArray_toList] at hgo;refine hgo.mono ?_;rintro e W' ⟨v,rfl,ι',ok',_,hrep,hev,_⟩;refine ⟨v,rfl,?_⟩;cases hrep;have hbel:Below W.heap.size W W':=⟨hev.os,hev.tape,hev.output,hev.size,fun b hb=>hev.frame b hb (fun i ds s hd=>by simp [qo] at hd)⟩;have hW':=hW;obtain ⟨p,q,hA,hV,rfl,kw,YP⟩:=hW;rw [hvr] at hV;obtain ⟨rfl,rfl⟩:=trodVars_none hV;refine qsy (pa:=p) (pv:=[]) hW' (fun b sp hd=>?_) (fun sp kb=>?_) (fun sp _=>?_) rfl hbel ?_
 ·rw [hs.1,hres];exact trodAll_cons_mk (shut_bool htb _) trodAll_mk0
 ·rw [hs.2.1];exact qjw hl hbel hpar hA (fun x hx=>hW'.lt x (qcu _ hx)) (fun x hx=>kb x (qcu _ hx))
 ·rw [hs.2.2,hvr];rfl
 ·rw [hres];intro j t r hj hv;cases j with
  | zero =>
   simp only [List.size_toArray,qH,zb] at hj hv;injection hj with hj;subst hj
   have:r = .bool true:=by
    simp only [Value.resultList] at hv;simpa using hv.symm
   subst this;exact okWide_bool_mk htb _
  | succ j=>simp at hj
def jb (k:IntKind) (l:List Int):List D:=l.map (.int k ·)
end Go.Ev
namespace Go.Ev
open Go Go.Proofs
def qdK (X:Cx) (n:Nat):Bool:=match X.P.funcs[n]? with
 | some fn => (fn.name != "runtime.NumGoroutine") && match fn.body with
  | some c=>X.bad n || QL X n c
  | none=>true
 | none=>true
def XX (X:Cx) (a:Nat):Nat→Bool
 | 0=>true
 | k+1=>XX X a k && qdK X (a+k)
theorem qaN {X:Cx} {a:Nat}:∀ {k:Nat},XX X a k = true→∀ {f:Nat},a≤f→f < a+k→qdK X f = true
 | 0,_,f,h1,h2=>by omega
 | k+1,h,f,h1,h2=>by
  simp only [XX,qR] at h;by_cases hf:f = a+k
  ·rw [hf];exact h.2
  ·exact qaN h.1 h1 (by omega)
theorem qlr {X : Cx} {f : Nat} {fn : Func} (h : qdK X f = true) (YY : X.P.funcs[f]? = some fn) : (fn.name == "runtime.NumGoroutine") = false ∧ ∀ c, fn.body = some c → X.bad f = false → QL X f c = true := by
 simp only [qdK,YY,qR,bne_iff_ne,ne_eq] at h;refine ⟨by simpa using h.1,fun c hc hb=>?_⟩;have h3:=h.2;simpa [hc,hb] using h3
end Go.Ev
