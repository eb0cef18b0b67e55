import Derived.Test.YtkfojmihnjnhfaaGreatDoorC1
import Derived.Scope
import Derived.LoopN
import Derived.Shelf.Abstract
import Derived.Orders
import Derived.Lib.BytesEntry
import Derived.Laws.Externs
import Derived.ProofKit
import Derived.OpenShut
import Derived.Below
import Derived.WideKeyArgs
import Derived.Carry
import Derived.ChangeSame
import Derived.ChangeSlices
namespace Go.Ev
section
variable {X:Cx} {ok ok':Nat→Prop} {w w':World} {ι:qF} {H H':qi}
def Goes (P:Program) (s:Sem Next) (w:World) (R:Value→World→Prop):Prop :=
 match s.run P w with
 | .ok (.value v) w'=>R v w'
 | .ok .skip w'=>R undef w'
 | .ok (.enter f args) w'=>Calls P f args w' fun e w''=>∃ v,e = .returned v∧R v w''
 | _=>False
theorem Goes.value {P:Program} {s:Sem Next} {v:Value} {R:Value→World→Prop} (h:s.run P w = .ok (.value v) w') (hr:R v w'):Goes P s w R:=by
 unfold Goes;rw [h];exact hr
theorem Goes.skip {P:Program} {s:Sem Next} {R:Value→World→Prop} (h:s.run P w = .ok .skip w') (hr:R undef w'):Goes P s w R:=by
 unfold Goes;rw [h];exact hr
theorem Goes.mono {P:Program} {s:Sem Next} {R R':Value→World→Prop} (h:Goes P s w R) (hr:∀ v w',R v w'→R' v w'):Goes P s w R':=by
 unfold Goes at *;split at h
 ·exact hr _ _ h
 ·exact hr _ _ h
 ·exact h.mono fun e w'' ⟨v,h1,h2⟩=>⟨v,h1,hr _ _ h2⟩
 ·exact h.elim
theorem Goes.upon {P:Program} {o:Oper} {a:Act} {s:Sem Next} {next:Act→World→Prop} {Q:Exit→Act→World→Prop} (h:Goes P s w fun v w'=>next (a.put o.dst v) w'):o.upon P a next Q (s.run P w):=by
 unfold Goes at h;split at h
 ·rename_i v w' hr;rw [hr];exact h
 ·rename_i w' hr;rw [hr];exact h
 ·rename_i f args w' hr;rw [hr];simp only [Oper.upon];exact h.mono fun e w'' ⟨v,h1,h2⟩=>by subst h1;exact h2
 ·exact h.elim
def Jw (X:Cx) (ok:Nat→Prop) (w:World) (ι:qF) (H:qi) (r:D) (H':qi) (v:Value) (w':World):Prop :=
 ∃ ι' ok',Sim X ok' w' ι' H'∧Rep ok' w' ι' H' r v∧Evol H.length ok w ι H ok' w' ι' H'∧∀ i ds,H.length≤i→qq H' i = some ds→ds.all idFree = true
def JS (X:Cx) (F:zn):Prop :=
 ∀ (f:Nat) (args:List D) (H:qi) (r:D) (H':qi) (ok:Nat→Prop) (w:World) (ι:qF) (vs:List Value),F f args H = some (r,H')→Sim X ok w ι H→RepL ok w ι H args vs →
  Goes X.P (callFunc f vs.toArray) w (Jw X ok w ι H r H')
structure Good (X:Cx):Prop where
 mixed:X.P.follows .mixedOrders = true
 okc:∀ (f:Nat) (fn:Func) (c:Code),X.P.funcs[f]? = some fn→fn.body = some c→X.bad f = false→QL X f c = true
 ng : ∀ (f : Nat) (fn : Func), X.P.funcs[f]? = some fn → (fn.name == "runtime.NumGoroutine") = false
 ext:∀ (f:Nat) (fn:Func) (args:List D) (d:D),X.P.funcs[f]? = some fn→fn.body = none→X.ext f args = some d →
  ∀ (ok:Nat→Prop) (w:World) (ι:qF) (H:qi) (vs:List Value),Sim X ok w ι H→RepL ok w ι H args vs→∃ v,(callFunc f vs.toArray).run X.P w = .ok (.value v) w∧Rep ok w ι H d v∧idFree d = true
 con:∀ (f:Nat) (args:List D) (H:qi) (r:D) (H':qi),X.con f args H = some (r,H')→∀ (ok:Nat→Prop) (w:World) (ι:qF) (vs:List Value),Sim X ok w ι H→RepL ok w ι H args vs →
  Goes X.P (callFunc f vs.toArray) w (Jw X ok w ι H r H')
theorem qqj (hs:Sim X ok w ι H):Sim X ok w zg [] :=
 ⟨hs.okS,hs.glob,fun i j ds es b s s' hd=>by simp [qq] at hd,fun i ds hd=>by simp [qq] at hd⟩
theorem qqk (hs:Sim X ok w ι H):Sim X (qf0 ok ι H) w zg [] :=
 ⟨fun b hb=>by
   rcases hb with hb | ⟨i,ds,s,hd,hi⟩
   ·exact hs.okS b hb
   ·exact hs.lt hd hi,fun g cs hg=>(hs.glob g cs hg).okMono fun b hb=>.inl hb,fun i j ds es b s s' hd=>by simp [qq] at hd,fun i ds hd=>by simp [qq] at hd⟩
theorem qhC (l:List D):noZ.noZL l = true↔∀ d,d∈l→noZ d = true:=by
 induction l with
 | nil=>simp [noZ.noZL]
 | cons d l ih=>simp [noZ.noZL,ih]
theorem qgV (n:Nat) (l:List D):shift.shiftL n l = l.map (shift n):=by
 induction l with
 | nil=>rfl
 | cons d l ih=>simp [shift.shiftL,ih]
theorem qxm (n:Nat) (d:D):zR (shift n d) = zR d:=by cases d <;> rfl
theorem Rep.moved {m:Nat} {ι1 ι2:qF} {H1 H2:qi} (hm:∀ k,1≤k→k < H1.length→m+k < H2.length∧qq H2 (m+k) = qq H1 k∧ι2 (m+k) = ι1 k) {d:D} {v:Value} (h:Rep ok w ι1 H1 d v) (hz:noZ d = true):Rep ok w ι2 H2 (Ev.shift m d) v:=by
 induction h with
 | bool b=>exact .bool b
 | int k n=>exact .int k n
 | str s=>exact .str s
 | nilp=>exact .nilp
 | nilf=>exact .nilf
 | nili=>exact .nili
 | raw v=>exact .raw v
 | agg hl hc h ih =>
  simp only [noZ,qhC] at hz;simp only [Ev.shift,qgV];refine .agg (by simpa using hl) (fun d hd=>?_) fun j d hj=>?_
  ·obtain ⟨d',zp,rfl⟩:=List.mem_map.1 hd;rw [qxm];exact hc d' zp
  ·rw [XP,ZT] at hj;obtain ⟨d',zp,rfl⟩:=hj;exact ih j d' zp hm (hz d' (mem_of_get? zp))
 | tup hl h ih =>
  simp only [noZ,qhC] at hz;simp only [Ev.shift,qgV];refine .tup (by simpa using hl) fun j d hj=>?_;rw [XP,ZT] at hj;obtain ⟨d',zp,rfl⟩:=hj;exact ih j d' zp hm (hz d' (mem_of_get? zp))
 | fn hl h ih =>
  simp only [noZ,qhC] at hz;simp only [Ev.shift,qgV];refine .fn (by simpa using hl) fun j d hj=>?_;rw [XP,ZT] at hj;obtain ⟨d',zp,rfl⟩:=hj;exact ih j d' zp hm (hz d' (mem_of_get? zp))
 | iface h ih=>exact .iface (ih hm (by simpa [noZ] using hz))
 | optr a hi h =>
  simp only [noZ,decide_eq_true_eq] at hz;obtain ⟨m1,m2,m3⟩:=hm _ hz hi;refine .optr a m1 fun ds hd=>?_;rw [m2] at hd;rw [m3];exact h ds hd
 | osl a hi h qR =>
  simp only [noZ,decide_eq_true_eq] at hz;obtain ⟨m1,m2,m3⟩:=hm _ hz hi;refine .osl a m1 (fun ds hd=>?_) qR;rw [m2] at hd;rw [m3];exact h ds hd
 | vptr a f ha hc hr h _=>exact .vptr a f ha hc hr h
 | vnil=>exact .vnil
 | vsl a f ha hc hr h qR _=>exact .vsl a f ha hc hr h qR
theorem qzV {F:zn} (hF:JS X F) {f:Nat} {args:List D} {r:D} {vs:List Value} (h:VT F f args H = some (r,H')) (hs:Sim X ok w ι H) (hv:RepL ok w ι H args vs) :
  Goes X.P (callFunc f vs.toArray) w (Post X H.length ok w ι H r H'):=by
 unfold VT at h;split at h
 ·rename_i i st off rest;split at h
  ·rename_i ds hd;split at h
   ·rename_i hfree;rw [qT] at hfree;split at h
    ·rename_i r0 ds' L hc;split at h
     ·rename_i hok;rw [qT] at hok;injection h with h;injection h with h1 h2;subst h1;subst h2;have qg:i < H.length:=ZH hd
      let ι1:qF:=fun k=>if k = 0 then ι i else none
      have ZI:∀ k es,qq [some ds] k = some es→k = 0∧es = ds:=by
       intro k es hk;cases k with
       | zero=>simp [qq] at hk;exact ⟨rfl,hk.symm⟩
       | succ k=>simp [qq] at hk
      have Q8:Sim X ok w ι1 [some ds]:=by
       refine ⟨hs.okS,hs.glob,fun a b es es' c s s' ha hb _ _=>by rw [(ZI a es ha).1,(ZI b es' hb).1],fun k es hk=>?_⟩;obtain ⟨rfl,rfl⟩:=ZI k es hk;obtain ⟨b,arr,e,fr,q1,q2,q3,q4,q5,q6,q7,q8⟩:=hs.blk i es hd;exact ⟨b,arr,e,fr,q1,q2,q3,q4,q5,q6,q7,fun j d hj=>(q8 j d hj).free (KG hfree.2 d (mem_of_get? hj)) _ _⟩
      have YL:RepL ok w ι1 [some ds] (.optr 0 st off :: rest) vs:=by
       refine ⟨by simpa using hv.1,fun j d hj=>?_⟩;cases j with
       | zero =>
        simp only [ZX,qu] at hj;subst hj;have h0:=hv.2 0 (.optr i st off) rfl;generalize vs.getD 0 undef = v0 at h0 ⊢;cases h0 with
        | optr a hi hk =>
         refine .optr a (by simp) fun es he=>?_;obtain ⟨_,rfl⟩:=ZI 0 es he;exact hk es hd
       | succ j =>
        have:=hv.2 (j+1) d (by simpa using hj);exact this.free (KG hfree.1 d (mem_of_get? (by simpa using hj))) _ _
      refine (hF f _ _ _ _ ok w ι1 vs hc Q8 YL).mono fun v w' hp=>?_;obtain ⟨ι',ok',k1,k2,k3,k4⟩:=hp
      have zf:∀ b,b < w.heap.size→(∀ s,ι i≠some (b,s))→w'.heap[b]? = w.heap[b]?:=fun b hb zT=>k3.frame b hb fun k es s hk hi=>by
       obtain ⟨rfl,_⟩:=ZI k es hk;exact zT s hi
      have hown:∀ k es b s,qq (some ds' :: L) k = some es→ι' k = some (b,s)→b < w.heap.size→∃ s',ι i = some (b,s'):=fun k es b s hk hb qk=>by
       obtain ⟨j,es',s',hj,hi⟩:=k3.own k es b s hk hb qk;obtain ⟨rfl,_⟩:=ZI j es' hj;exact ⟨s',hi⟩
      have hokN:∀ b,ok' b→b < w.heap.size→ok b∨∃ s,ι i = some (b,s):=fun b hb qk=>by
       rcases k3.okN b hb qk with h | ⟨k,es,s,hk,hi⟩
       ·exact .inl h
       ·obtain ⟨rfl,_⟩:=ZI k es hk;exact .inr ⟨s,hi⟩
      let n:=H.length
      let ι2:qF:=fun j=>if j = i then ι' 0 else if j < n then ι j else ι' (j - n+1)
      have hn:(hset H i ds').length = n:=by simp [hset,n]
      have hH:∀ j es,qq (hset H i ds' ++ L) j = some es→(j = i∧es = ds'∧ι2 j = ι' 0)∨(j≠i∧j < n∧qq H j = some es∧ι2 j = ι j)∨(n≤j∧qq (some ds' :: L) (j - n+1) = some es∧ι2 j = ι' (j - n+1)):=by
       intro j es hj;by_cases JI:j < n
       ·rw [qcm (by rw [hn];exact JI)] at hj;by_cases QC:j = i
        ·subst QC;refine .inl ⟨rfl,?_,by simp [ι2]⟩;simp only [qq,hset] at hj;rw [List.getElem?_set_self qg] at hj;simpa using hj.symm
        ·refine .inr (.inl ⟨QC,JI,?_,by simp [ι2,QC,JI]⟩);simp only [qq,hset] at hj ⊢
         rwa [List.getElem?_set_ne (Ne.symm QC)] at hj
       ·obtain ⟨k,rfl⟩:∃ k,j = n+k:=⟨j - n,by omega⟩;have kL:qq (hset H i ds' ++ L) ((hset H i ds').length+k) = some es:=(by rw [hn];exact hj);rw [qcn] at kL;have qt:n+k≠i:=(by omega);have e1:n+k - n+1 = k+1:=(by omega);refine .inr (.inr ⟨by omega,?_,?_⟩)
        ·rw [e1];simpa [qq] using kL
        ·show (if n+k = i then ι' 0 else if n+k < n then ι (n+k) else ι' (n+k - n+1)) = _;rw [if_neg qt,if_neg JI]
      have hev:Evol n ok w ι H ok' w' ι2 (hset H i ds' ++ L):=by
       refine ⟨k3.os,k3.tape,k3.output,k3.size,fun b hb zT=>zf b hb fun s=>zT i ds s hd,k3.okU,fun b hb qk=>?_,⟨qB _,by rw [qC,hn];omega⟩,?_,?_⟩
       ·rcases hokN b hb qk with h | ⟨s,hi⟩
        ·exact .inl h
        ·exact .inr ⟨i,ds,s,hd,hi⟩
       ·intro j JI es hj;rcases hH j es hj with ⟨rfl,rfl,e⟩ | ⟨_,_,q,e⟩ | ⟨q,_,_⟩
        ·obtain ⟨ds2,vZ,hle,hi2⟩:=k3.heap 0 (by simp) es rfl;obtain ⟨_,rfl⟩:=ZI 0 ds2 vZ;exact ⟨ds2,hd,hle,fun hl=>by rw [e,hi2 hl];rfl⟩
        ·exact ⟨es,q,qB _,fun _=>e⟩
        ·omega
       ·intro j es b s hj hb qk;rcases hH j es hj with ⟨rfl,rfl,e⟩ | ⟨_,_,q,e⟩ | ⟨q,hk,e⟩
        ·rw [e] at hb;obtain ⟨s',hi⟩:=hown 0 es b s rfl hb qk;exact ⟨j,ds,s',hd,hi⟩
        ·rw [e] at hb;exact ⟨j,es,s,q,hb⟩
        ·rw [e] at hb;obtain ⟨s',hi⟩:=hown _ es b s hk hb qk;exact ⟨i,ds,s',hd,hi⟩
      have hsep:∀ j es b s,j≠i→qq H j = some es→ι j = some (b,s)→b < w.heap.size∧∀ s',ι i≠some (b,s'):=fun j es b s QC hj hb=>⟨hs.lt hj hb,fun s' hi=>QC (hs.inj j i es ds b s s' hj hd hb hi)⟩
      have ZB:Sim X ok' w' ι2 (hset H i ds' ++ L):=by
       refine ⟨k1.okS,k1.glob,?_,?_⟩
       ·intro a c es es' b s s' ha hc hb zq
        have cross:∀ {j es b s k es' s'},j≠i→j < n→qq H j = some es→ι j = some (b,s)→qq (some ds' :: L) k = some es'→ι' k = some (b,s')→False:=by
         intro j es b s k es' s' QC _ hj hb hk zq;obtain ⟨q1,q2⟩:=hsep j es b s QC hj hb;obtain ⟨s2,hi⟩:=hown k es' b s' hk zq q1;exact q2 s2 hi
        rcases hH a es ha with ⟨a1,rfl,ea⟩ | ⟨a1,a2,qa,ea⟩ | ⟨a1,qa,ea⟩ <;> rcases hH c es' hc with ⟨c1,rfl,ec⟩ | ⟨c1,c2,qc,ec⟩ | ⟨c1,qc,ec⟩ <;> rw [ea] at hb <;> rw [ec] at zq
        ·rw [a1,c1]
        ·exact (cross c1 c2 qc zq (k:=0) rfl hb).elim
        ·have:=k1.inj 0 _ _ _ b s s' rfl qc hb zq;omega
        ·exact (cross a1 a2 qa hb (k:=0) rfl zq).elim
        ·exact hs.inj a c es es' b s s' qa qc hb zq
        ·exact (cross a1 a2 qa hb qc zq).elim
        ·have:=k1.inj _ 0 _ _ b s s' qa rfl hb zq;omega
        ·exact (cross c1 c2 qc zq qa hb).elim
        ·have:=k1.inj _ _ _ _ b s s' qa qc hb zq;omega
       ·intro j es hj;rcases hH j es hj with ⟨rfl,rfl,e⟩ | ⟨j1,j2,qj,e⟩ | ⟨j1,qj,e⟩
        ·obtain ⟨b,arr,e1,fr,q1,q2,q3,q4,q5,q6,q7,q8⟩:=k1.blk 0 es rfl;exact ⟨b,arr,e1,fr,by rw [e];exact q1,q2,q3,q4,q5,q6,q7,fun m d hm=>(q8 m d hm).free (KG hok.2 d (mem_of_get? hm)) _ _⟩
        ·obtain ⟨b,arr,e1,fr,q1,q2,q3,q4,q5,q6,q7,q8⟩:=hs.blk j es qj;obtain ⟨p1,p2⟩:=hsep j es b _ j1 qj q1;refine ⟨b,arr,e1,fr,by rw [e];exact q1,fun hb=>?_,by rw [zf b p1 p2];exact q3,q4,q5,q6,q7,fun m d hm=>(q8 m d hm).evol hs hev (q8 m d hm).closed⟩;rcases hokN b hb p1 with h | ⟨s,hi⟩
         ·exact q2 h
         ·exact p2 s hi
        ·obtain ⟨b,arr,e1,fr,q1,q2,q3,q4,q5,q6,q7,q8⟩:=k1.blk _ es qj;have hfr4:=k4 _ es (by simp) qj;exact ⟨b,arr,e1,fr,by rw [e];exact q1,q2,q3,q4,q5,q6,q7,fun m d hm=>(q8 m d hm).free (KG hfr4 d (mem_of_get? hm)) _ _⟩
      refine ⟨ι2,ok',ZB,?_,hev⟩;refine k2.moved (m:=H.length - 1) (fun k hk1 hk2=>?_) hok.1;have e1:H.length - 1+k = n+(k - 1):=(by show H.length - 1+k = H.length+(k - 1);omega);have e2:k = k - 1+1:=(by omega);refine ⟨?_,?_,?_⟩
      ·rw [e1,qC,hn];simp at hk2;omega
      ·rw [e1];have:qq (hset H i ds' ++ L) ((hset H i ds').length+(k - 1)) = qq L (k - 1):=qcn;rw [hn] at this;rw [this]
       conv=>rhs;rw [e2]
       simp [qq]
      ·rw [e1];have qt:¬ n+(k - 1) = i:=(by omega);have zb:¬ n+(k - 1) < n:=(by omega);simp only [ι2,qt,zb,if_false];congr 1;omega
     ·cases h
    ·cases h
   ·cases h
  ·cases h
 ·cases h
theorem qcL (p:List Nat) (n:Nat) (l:List D):mv.mvL p n l = l.map (mv p n):=by
 induction l with
 | nil=>rfl
 | cons d l ih=>simp [mv.mvL,ih]
theorem qme (p:List Nat) (n:Nat) (d:D):zR (mv p n d) = zR d:=by cases d <;> rfl
theorem Rep.back {p:List Nat} {n:Nat} {ι1 ι2:qF} {H1 H2:qi} (hm:∀ a,a < H1.length→V7 p n a < H2.length∧(∀ ds2,qq H2 (V7 p n a) = some ds2→∃ ds,qq H1 a = some ds∧ds.length = ds2.length)∧ι2 (V7 p n a) = ι1 a) {d:D} {v:Value} (h:Rep ok w ι1 H1 d v):Rep ok w ι2 H2 (mv p n d) v:=by
 induction h with
 | bool b=>exact .bool b
 | int k n=>exact .int k n
 | str s=>exact .str s
 | nilp=>exact .nilp
 | nilf=>exact .nilf
 | nili=>exact .nili
 | raw v=>exact .raw v
 | agg hl hc h ih =>
  simp only [mv,qcL];refine .agg (by simpa using hl) (fun d hd=>?_) fun j d hj=>?_
  ·obtain ⟨d',zp,rfl⟩:=List.mem_map.1 hd;rw [qme];exact hc d' zp
  ·rw [XP,ZT] at hj;obtain ⟨d',zp,rfl⟩:=hj;exact ih j d' zp hm
 | tup hl h ih =>
  simp only [mv,qcL];refine .tup (by simpa using hl) fun j d hj=>?_;rw [XP,ZT] at hj;obtain ⟨d',zp,rfl⟩:=hj;exact ih j d' zp hm
 | fn hl h ih =>
  simp only [mv,qcL];refine .fn (by simpa using hl) fun j d hj=>?_;rw [XP,ZT] at hj;obtain ⟨d',zp,rfl⟩:=hj;exact ih j d' zp hm
 | iface h ih=>exact .iface (ih hm)
 | optr a hi h =>
  obtain ⟨m1,m2,m3⟩:=hm _ hi;refine .optr a m1 fun ds2 vZ=>?_;obtain ⟨ds,r1,r2⟩:=m2 ds2 vZ;obtain ⟨k1,k2⟩:=h ds r1;rw [r2] at k1 k2;rw [m3];exact ⟨k1,k2⟩
 | osl a hi h qR =>
  obtain ⟨m1,m2,m3⟩:=hm _ hi;refine .osl a m1 (fun ds2 vZ=>?_) qR;obtain ⟨ds,r1,r2⟩:=m2 ds2 vZ;obtain ⟨k1,k2⟩:=h ds r1;rw [r2] at k1 k2;rw [m3];exact ⟨k1,k2⟩
 | vptr a f ha hc hr h _=>exact .vptr a f ha hc hr h
 | vnil=>exact .vnil
 | vsl a f ha hc hr h qR _=>exact .vsl a f ha hc hr h qR
theorem qjR:∀ (p:List Nat) (T H:qi),(Jc H p T).length = H.length
 | [],_,_=>by simp [Jc]
 | _ :: _,[],_=>by simp [Jc]
 | i :: p,b :: T,H=>by rw [Jc,qjR p T,qc0]
theorem qgW {i:Nat}:∀ (p:List Nat) (T H:qi),i ∉ p→qq (Jc H p T) i = qq H i
 | [],_,_,_=>by simp [Jc]
 | _ :: _,[],_,_=>by simp [Jc]
 | a :: p,b :: T,H,h=>by
  rw [Jc,qgW p T _ fun hp=>h (kU _ hp)];unfold qq;rw [List.getElem?_set_ne fun ha=>h (by rw [ha];exact QY ..)]
theorem qgX {i:Nat}:∀ (p:List Nat) (T H:qi) (a:Nat),p.Nodup→i < H.length→p[a]? = some i→a < T.length→qq (Jc H p T) i = qq T a
 | [],_,_,_,_,_,h,_=>by simp at h
 | _ :: _,[],_,_,_,_,_,h=>by simp at h
 | c :: p,b :: T,H,0,hn,hi,h,_=>by
  simp only [ZX,qu] at h;subst h;rw [Jc,qgW p T _ (List.nodup_cons.1 hn).1];unfold qq;rw [List.getElem?_set_self hi];rfl
 | c :: p,b :: T,H,a+1,hn,hi,h,ha=>by
  rw [Jc,qgX p T _ a (List.nodup_cons.1 hn).2 (by rw [qc0];exact hi) (by simpa using h) (by simpa using ha)];simp [qq]
theorem qmm:∀ {p:List Nat} {a i k:Nat},p.Nodup→p[a]? = some i→Jh p i k = some (k+a)
 | [],_,_,_,_,h=>by simp at h
 | c :: p,0,i,k,_,h=>by
  simp only [ZX,qu] at h;simp [Jh,h]
 | c :: p,a+1,i,k,hn,h=>by
  have hm:i∈p:=qcy (by simpa using h);have qt:c≠i:=fun he=>(List.nodup_cons.1 hn).1 (by rw [he];exact hm);rw [Jh,if_neg qt,qmm (List.nodup_cons.1 hn).2 (by simpa using h)];congr 1;omega
theorem qmn {p:List Nat} {i:Nat} (h:i ∉ p):Jh p i 0 = none:=by
 cases hx:Jh p i 0 with
 | none=>rfl
 | some a=>exact absurd (qcy (qie hx).2) h
theorem qkH {p:List Nat}:∀ {l l':List D},qcD p l = some l'→l'.length = l.length∧∀ {j:Nat} {d':D},l'[j]? = some d'→∃ d,l[j]? = some d∧qbX p d = some d'
 | [],l',h=>by
  simp only [qcD,qu] at h;subst h;exact ⟨rfl,fun {j d'} hj=>by simp at hj⟩
 | d :: l,l',h=>by
  simp only [qcD] at h;split at h
  ·rename_i d1 l1 h1 h2;injection h with h;subst h;obtain ⟨g1,g2⟩:=qkH h2;refine ⟨by simp [g1],fun {j d'} hj=>?_⟩;cases j with
   | zero =>
    simp only [ZX,qu] at hj;subst hj;exact ⟨d,rfl,h1⟩
   | succ j=>simpa using g2 (j:=j) (d':=d') (by simpa using hj)
  ·cases h
theorem qzR {F:zn} (hF:JS X F) {f i:Nat} {args:List D} {p:List Nat} (hp0:p[0]? = some i) {r:D} {vs:List Value} (h:qde F f args H p = some (r,H')) (hs:Sim X ok w ι H) (hv:RepL ok w ι H args vs) :
  Goes X.P (callFunc f vs.toArray) w (Post X H.length ok w ι H r H'):=by
 unfold qde at h;split at h
 ·rename_i args' H0 hA hH;split at h
  ·rename_i hfree;rw [qT,decide_eq_true_eq] at hfree;obtain ⟨YT,hfr2⟩:=hfree;split at h
   ·rename_i r0 A T hc;split at h
    ·rename_i hT;injection h with h;injection h with h1 h2;subst h1;subst h2;obtain ⟨hl,hg⟩:=qhq hH;obtain ⟨kD,Vp⟩:=qkH hA;have hS:∀ {a j:Nat},p[a]? = some j→∃ ds ds2,qq H j = some ds∧Xs p ds = some ds2∧qq H0 a = some ds2:=fun h=>qhp hH h
     have hret:∀ {d d':D},qbX p d = some d'→Xr 0 p [(0,d)] H = some ([(0,d')],H0):=fun {d d'} hd=>by
      unfold Xr;simp [YE,hd,hH,YT,JU]
     have hret0:Xr 0 p [] H = some ([],H0):=by
      unfold Xr;simp [YE,hH,YT,JU]
     obtain ⟨Q8,-,-⟩:=qhk (tmps:= #[]) hret0 hs (fun t d ht=>by simp [qf] at ht)
     let ι0:qF:=fun j=>ι (p.getD j 0)
     have hι0:∀ {a j:Nat},p[a]? = some j→ι0 a = ι j:=fun {a j} h=>by
      show ι (p.getD a 0) = ι j;rw [jV,h];rfl
     have YL:RepL ok w ι0 H0 args' vs:=by
      refine ⟨by rw [kD];exact hv.1,fun j d' hj=>?_⟩;obtain ⟨d,q1,q2⟩:=Vp hj;have h0:=hv.2 j d q1
      have he:EnvRep ok w ι H [(0,d)] #[vs.getD j undef]:=fun t c ht=>by
       simp only [qf] at ht;split at ht
       ·rename_i Qi;injection ht with ht;subst ht;subst Qi;exact ⟨by simp,h0⟩
       ·cases ht
      obtain ⟨-,he1,-⟩:=qhk (hret q2) hs he;exact (he1 0 d' (by simp [qf])).2
     refine (hF f _ _ _ _ ok w ι0 vs hc Q8 YL).mono fun v w' hp=>?_;obtain ⟨ι',ok',k1,k2,k3,k4⟩:=hp;have hkT:p.length≤(some A :: T).length:=(by rw [← hl];exact k3.nle.2);have kh:0 < p.length:=(List.getElem?_eq_some_iff.1 hp0).1
     have zf:∀ b,b < w.heap.size→(∀ a j s,p[a]? = some j→ι j≠some (b,s))→w'.heap[b]? = w.heap[b]?:=fun b hb zT=>k3.frame b hb fun a ds s ha hi=>by
      obtain ⟨j,_,q1,_⟩:=hg ha;exact zT a j s q1 (by rw [← hι0 q1];exact hi)
     have hown:∀ a es b s,qq (some A :: T) a = some es→ι' a = some (b,s)→b < w.heap.size→∃ c j s',p[c]? = some j∧ι j = some (b,s'):=fun a es b s hk hb qk=>by
      obtain ⟨c,es',s',hj,hi⟩:=k3.own a es b s hk hb qk;obtain ⟨j,_,q1,_⟩:=hg hj;exact ⟨c,j,s',q1,by rw [← hι0 q1];exact hi⟩
     have hokN:∀ b,ok' b→b < w.heap.size→ok b∨∃ c j s,p[c]? = some j∧ι j = some (b,s):=fun b hb qk=>by
      rcases k3.okN b hb qk with h | ⟨c,es,s,hk,hi⟩
      ·exact .inl h
      ·obtain ⟨j,_,q1,_⟩:=hg hk;exact .inr ⟨c,j,s,q1,by rw [← hι0 q1];exact hi⟩
     have hpn:∀ {a j:Nat},p[a]? = some j→j < H.length:=fun h=>by
      obtain ⟨ds,_,q,_⟩:=hS h;exact ZH q
     obtain ⟨B,hB⟩:∃ B:qi,B = some (mv.mvL p H.length A) :: T:=⟨_,rfl⟩;have hBl:B.length = (some A :: T).length:=by rw [hB];rfl
     have hBH:∀ a es,qq B a = some es→∃ es1,qq (some A :: T) a = some es1∧es1.length = es.length∧((a = 0∧es = mv.mvL p H.length es1)∨(es = es1∧es.all idFree = true)):=by
      intro a es ha;rw [hB] at ha;cases a with
      | zero =>
       simp only [qq,ZX,Ju,qu] at ha;subst ha;exact ⟨A,rfl,by simp [qcL],.inl ⟨rfl,rfl⟩⟩
      | succ a =>
       have VL:qq T a = some es:=(by simpa [qq] using ha);refine ⟨es,by simpa [qq] using ha,rfl,.inr ⟨rfl,?_⟩⟩;have qg:=ZH VL
       have hm:some es∈T:=by
        unfold qq at VL;rw [zi qg] at VL;rw [← show T[a] = some es by simpa using VL];exact vw qg
       simpa [qdg] using List.all_eq_true.1 hT _ hm
     let n:=H.length
     let k:=p.length
     let H2:qi:=Jc H p B ++ T.drop (k - 1)
     have hn:(Jc H p B).length = n:=qjR _ _ _
     let ι2:qF:=fun j=>match Jh p j 0 with
      | some a=>ι' a
      | none=>if j < n then ι j else ι' (j - n+k)
     have i2a:∀ {a j:Nat},p[a]? = some j→ι2 j = ι' a:=fun {a j} h=>by
      have:=qmm (k:=0) YT h;show (match Jh p j 0 with | some a=>ι' a | none=>_) = _;rw [this,vQ]
     have i2b:∀ {j:Nat},j ∉ p→j < n→ι2 j = ι j:=fun {j} h hj=>by
      show (match Jh p j 0 with | some a=>ι' a | none=>if j < n then ι j else ι' (j - n+k)) = _;rw [qmn h];simp only;rw [if_pos hj]
     have i2c:∀ {j:Nat},n≤j→ι2 j = ι' (j - n+k):=fun {j} hj=>by
      have hnp:j ∉ p:=fun h=>by
       obtain ⟨a,ha⟩:=List.mem_iff_getElem?.1 h;have:=hpn ha;omega
      show (match Jh p j 0 with | some a=>ι' a | none=>if j < n then ι j else ι' (j - n+k)) = _;rw [qmn hnp];simp only;rw [if_neg (by omega)]
     have g3:∀ {j:Nat},n≤j→qq H2 j = qq (some A :: T) (j - n+k):=fun {j} hj=>by
      obtain ⟨m,rfl⟩:∃ m,j = n+m:=⟨j - n,by omega⟩;have e1:qq H2 ((Jc H p B).length+m) = qq (T.drop (k - 1)) m:=qcn;rw [hn] at e1;rw [e1];have e2:n+m - n+k = (k - 1+m)+1:=(by omega);rw [e2];simp [qq,QE]
     have hH:∀ j es,qq H2 j = some es→(∃ a,p[a]? = some j∧qq B a = some es∧ι2 j = ι' a)∨(j ∉ p∧j < n∧qq H j = some es∧ι2 j = ι j)∨(n≤j∧qq (some A :: T) (j - n+k) = some es∧ι2 j = ι' (j - n+k)):=by
      intro j es hj;by_cases JI:j < n
      ·rw [qcm (by rw [hn];exact JI)] at hj;by_cases hjp:j∈p
       ·obtain ⟨a,ha⟩:=List.mem_iff_getElem?.1 hjp
        have kD:a < B.length:=by
         have:=(List.getElem?_eq_some_iff.1 ha).1;omega
        rw [qgX p B H a YT JI ha kD] at hj;exact .inl ⟨a,ha,hj,i2a ha⟩
       ·rw [qgW p B H hjp] at hj;exact .inr (.inl ⟨hjp,JI,hj,i2b hjp JI⟩)
      ·have hjn':n≤j:=(by omega);rw [g3 hjn'] at hj;exact .inr (.inr ⟨hjn',hj,i2c hjn'⟩)
     have hev:Evol n ok w ι H ok' w' ι2 H2:=by
      refine ⟨k3.os,k3.tape,k3.output,k3.size,fun b hb zT=>zf b hb fun a j s ha=>?_,k3.okU,fun b hb qk=>?_,⟨qB _,by rw [qC,hn];omega⟩,?_,?_⟩
      ·obtain ⟨ds,_,q,_⟩:=hS ha;exact zT j ds s q
      ·rcases hokN b hb qk with h | ⟨c,j,s,hc,hi⟩
       ·exact .inl h
       ·obtain ⟨ds,_,q,_⟩:=hS hc;exact .inr ⟨j,ds,s,q,hi⟩
      ·intro j JI es hj;rcases hH j es hj with ⟨a,ha,q,e⟩ | ⟨_,_,q,e⟩ | ⟨q,_,_⟩
       ·obtain ⟨es1,q1,q2,-⟩:=hBH a es q;obtain ⟨ds,ds2,d1,d2,d3⟩:=hS ha;obtain ⟨ds3,d4,hle,hi2⟩:=k3.heap a (by rw [hl];exact (List.getElem?_eq_some_iff.1 ha).1) es1 q1;rw [d3] at d4;injection d4 with d4;subst d4;have zo:=qfs d2;exact ⟨ds,d1,by omega,fun ky=>by rw [e,hi2 (by omega)];exact hι0 ha⟩
       ·exact ⟨es,q,qB _,fun _=>e⟩
       ·omega
      ·intro j es b s hj hb qk;rcases hH j es hj with ⟨a,ha,q,e⟩ | ⟨_,_,q,e⟩ | ⟨q,hk,e⟩
       ·rw [e] at hb;obtain ⟨es1,q1,-⟩:=hBH a es q;obtain ⟨c,j',s',hc,hi⟩:=hown a es1 b s q1 hb qk;obtain ⟨ds,_,d1,_⟩:=hS hc;exact ⟨j',ds,s',d1,hi⟩
       ·rw [e] at hb;exact ⟨j,es,s,q,hb⟩
       ·rw [e] at hb;obtain ⟨c,j',s',hc,hi⟩:=hown _ es b s hk hb qk;obtain ⟨ds,_,d1,_⟩:=hS hc;exact ⟨j',ds,s',d1,hi⟩
     have hsep:∀ j es b s,j ∉ p→qq H j = some es→ι j = some (b,s)→b < w.heap.size∧∀ a j' s',p[a]? = some j'→ι j'≠some (b,s'):=fun j es b s hjp hj hb=>⟨hs.lt hj hb,fun a j' s' ha hi=>by
      obtain ⟨ds,_,d1,_⟩:=hS ha;have:=hs.inj j j' es ds b s s' hj d1 hb hi;exact hjp (by rw [this];exact qcy ha)⟩
     have hback:∀ {d:D} {v:Value},Rep ok' w' ι' (some A :: T) d v→Rep ok' w' ι2 H2 (mv p n d) v:=fun h=>by
      refine h.back fun a ha=>?_;cases hpa:p[a]? with
      | some j =>
       have e1:V7 p n a = j:=(by unfold V7;rw [hpa]);rw [e1];have hj:=hpn hpa;refine ⟨by rw [qC,hn];omega,fun ds2 vZ=>?_,i2a hpa⟩;rw [qcm (by rw [hn];exact hj),qgX p B H a YT hj hpa (by rw [hBl];exact ha)] at vZ;obtain ⟨es1,q1,q2,-⟩:=hBH a ds2 vZ;exact ⟨es1,q1,q2⟩
      | none =>
       have hak:k≤a:=List.getElem?_eq_none_iff.1 hpa;have e1:V7 p n a = n+(a - k):=(by unfold V7;rw [hpa]);have e2:n+(a - k) - n+k = a:=(by omega);rw [e1];refine ⟨?_,fun ds2 vZ=>?_,?_⟩
       ·rw [qC,hn,jU];simp only [qG] at ha hkT;omega
       ·rw [g3 (by omega),e2] at vZ;exact ⟨ds2,vZ,rfl⟩
       ·rw [i2c (by omega),e2]
     have ZB:Sim X ok' w' ι2 H2:=by
      refine ⟨k1.okS,k1.glob,?_,?_⟩
      ·intro a c es es' b s s' ha hc hb zq
       have cross:∀ {j es b s a es' s'},j ∉ p→qq H j = some es→ι j = some (b,s)→qq (some A :: T) a = some es'→ι' a = some (b,s')→False:=by
        intro j es b s a es' s' hjp hj hb hk zq;obtain ⟨q1,q2⟩:=hsep j es b s hjp hj hb;obtain ⟨c,j',s2,hc,hi⟩:=hown a es' b s' hk zq q1;exact q2 c j' s2 hc hi
       have old:∀ j es,((∃ a,p[a]? = some j∧qq B a = some es∧ι2 j = ι' a)∨(n≤j∧qq (some A :: T) (j - n+k) = some es∧ι2 j = ι' (j - n+k)))→∃ a es1,qq (some A :: T) a = some es1∧ι2 j = ι' a∧V7 p n a = j:=by
        rintro j es (⟨a,q1,q2,q3⟩ | ⟨q1,q2,q3⟩)
        ·obtain ⟨es1,q4,-⟩:=hBH a es q2;exact ⟨a,es1,q4,q3,by unfold V7;rw [q1]⟩
        ·refine ⟨_,es,q2,q3,?_⟩;unfold V7;rw [List.getElem?_eq_none_iff.2 (show p.length≤j - n+k by omega)];show n+(j - n+k - k) = j;omega
       have split2:∀ j es,qq H2 j = some es→(∃ a es1,qq (some A :: T) a = some es1∧ι2 j = ι' a∧V7 p n a = j)∨(j ∉ p∧qq H j = some es∧ι2 j = ι j):=fun j es hj=>by
        rcases hH j es hj with h | ⟨h1,_,h2,h3⟩ | h
        ·exact .inl (old j es (.inl h))
        ·exact .inr ⟨h1,h2,h3⟩
        ·exact .inl (old j es (.inr h))
       rcases split2 a es ha with ⟨a1,e1,qa,ea,ma⟩ | ⟨a1,qa,ea⟩ <;> rcases split2 c es' hc with ⟨c1,e2,qc,ec,mc⟩ | ⟨c1,qc,ec⟩ <;> rw [ea] at hb <;> rw [ec] at zq
       ·have:=k1.inj a1 c1 _ _ b s s' qa qc hb zq;rw [← ma,← mc,this]
       ·exact (cross c1 qc zq qa hb).elim
       ·exact (cross a1 qa hb qc zq).elim
       ·exact hs.inj a c es es' b s s' qa qc hb zq
      ·intro j es hj;rcases hH j es hj with ⟨a,ha,q,e⟩ | ⟨j1,j2,qj,e⟩ | ⟨j1,qj,e⟩
       ·obtain ⟨es1,q1,q2,q3⟩:=hBH a es q;obtain ⟨b,arr,ty,fr,u1,u2,u3,u4,u5,u6,u7,u8⟩:=k1.blk a es1 q1;refine ⟨b,arr,ty,fr,by rw [e];exact u1,u2,u3,by omega,u5,u6,?_,?_⟩
        ·rcases q3 with ⟨-,rfl⟩ | ⟨rfl,-⟩
         ·intro d hd;rw [qcL] at hd;obtain ⟨d',zp,rfl⟩:=List.mem_map.1 hd;rw [qme];exact u7 d' zp
         ·exact u7
        ·rcases q3 with ⟨-,rfl⟩ | ⟨rfl,hf⟩
         ·intro m d hm;rw [qcL,XP,ZT] at hm;obtain ⟨d',zp,rfl⟩:=hm;exact hback (u8 m d' zp)
         ·exact fun m d hm=>(u8 m d hm).free (KG hf d (mem_of_get? hm)) _ _
       ·obtain ⟨b,arr,e1,fr,q1,q2,q3,q4,q5,q6,q7,q8⟩:=hs.blk j es qj;obtain ⟨p1,p2⟩:=hsep j es b _ j1 qj q1;refine ⟨b,arr,e1,fr,by rw [e];exact q1,fun hb=>?_,by rw [zf b p1 p2];exact q3,q4,q5,q6,q7,fun m d hm=>(q8 m d hm).evol hs hev (q8 m d hm).closed⟩;rcases hokN b hb p1 with h | ⟨c,j',s,hc,hi⟩
        ·exact q2 h
        ·exact p2 c j' s hc hi
       ·obtain ⟨b,arr,e1,fr,q1,q2,q3,q4,q5,q6,q7,q8⟩:=k1.blk _ es qj;have hf:es.all idFree = true:=k4 _ es (by rw [hl];show k≤_;omega) qj;exact ⟨b,arr,e1,fr,by rw [e];exact q1,q2,q3,q4,q5,q6,q7,fun m d hm=>(q8 m d hm).free (KG hf d (mem_of_get? hm)) _ _⟩
     rw [← hB];exact ⟨ι2,ok',ZB,hback k2,hev⟩
    ·cases h
   ·cases h
  ·cases h
 ·cases h
theorem qzS {F:zn} (hF:JS X F) {f:Nat} {args:List D} {r:D} {vs:List Value} (h:Yx F f args H = some (r,H')) (hs:Sim X ok w ι H) (hv:RepL ok w ι H args vs) :
  Goes X.P (callFunc f vs.toArray) w (Post X H.length ok w ι H r H'):=by
 unfold Yx at h;split at h
 ·cases h
 ·exact qzR hF rfl h hs hv
theorem qzY {F:zn} (hF:JS X F) {f:Nat} {args:List D} {r:D} {vs:List Value} (h:Yy X F f args H = some (r,H')) (hs:Sim X ok w ι H) (hv:RepL ok w ι H args vs) :
  Goes X.P (callFunc f vs.toArray) w (Post X H.length ok w ι H r H'):=by
 unfold Yy at h;split at h
 ·exact qzS hF h hs hv
 ·exact qzV hF h hs hv
theorem qiS {F:zn} (hF:JS X F) {f:Nat} {args:List D} {r:D} {vs:List Value} (h:KC X F f args H = some (r,H')) (hs:Sim X ok w ι H) (hv:RepL ok w ι H args vs) :
  Goes X.P (callFunc f vs.toArray) w (Post X H.length ok w ι H r H'):=by
 unfold KC at h;split at h
 ·split at h
  ·exact qzY hF h hs hv
  refine (hF f args H r H' ok w ι vs h hs hv).mono fun v w' hp=>?_;obtain ⟨ι',ok',h1,h2,h3,_⟩:=hp;exact ⟨ι',ok',h1,h2,h3⟩
 ·split at h
  ·rename_i hfree;split at h
   ·cases h
   ·rename_i r0 L hc;injection h with h;injection h with h1 h2;subst h1;subst h2;refine (hF f args [] r0 L ok w zg vs hc (qqj hs) ⟨hv.1,fun j d hj=>(hv.2 j d hj).free (KG hfree d (mem_of_get? hj)) _ _⟩).mono fun v w' hp=>?_;obtain ⟨ι1,ok1,k1,k2,k3,k4⟩:=hp;have zf:∀ b,b < w.heap.size→w'.heap[b]? = w.heap[b]?:=fun b hb=>k3.frame b hb (fun i ds s hd=>by simp [qq] at hd)
    obtain ⟨j1,j2⟩:=qoo (L:=L) (ι1:=ι1) (ok2:=ok1) hs ⟨k3.os,k3.tape,k3.output⟩ k3.size zf k3.okU (fun b hb qg=>(k3.okN b hb qg).resolve_right fun ⟨i,ds,s,hd,_⟩=>by simp [qq] at hd) k1.okS k1.inj (fun i ds hd=>by
     obtain ⟨b,arr,e,fr,q1,q2,q3,q4,q5,q6,q7,q8⟩:=k1.blk i ds hd;refine ⟨b,arr,e,fr,q1,?_,q2,q3,q4,q5,q6,q7,fun j d hj=>(q8 j d hj).free (KG (k4 i ds (jk _) hd) d (mem_of_get? hj)) _ _⟩;rcases ZU b w.heap.size with qg | hge
     ·obtain ⟨j,es,s',hj,_⟩:=k3.own i ds b _ hd q1 qg;simp [qq] at hj
     ·exact hge)
    exact ⟨_,ok1,j1,k2.shift ι H,j2⟩
  ·split at h
   ·cases h
   ·rename_i args' kC;split at h
    ·cases h
    ·rename_i r0 L hc;split at h
     ·rename_i hvf;rw [qT] at hvf;injection h with h;injection h with h1 h2;subst h1;subst h2;obtain ⟨l1,l2⟩:=freeze_rep.freezeL_rep hs args (vs:=fun j=>vs.getD j undef) hv.2 kC;refine (hF f args' [] r0 L (qf0 ok ι H) w zg vs hc (qqk hs) ⟨by rw [hv.1,l1],l2⟩).mono fun v w' hp=>?_;obtain ⟨ι1,ok1,k1,k2,k3,k4⟩:=hp;have zf:∀ b,b < w.heap.size→w'.heap[b]? = w.heap[b]?:=fun b hb=>k3.frame b hb (fun i ds s hd=>by simp [qq] at hd)
      obtain ⟨j1,j2⟩:=qoo (L:=L) (ι1:=ι1) (ok2:=ok) hs ⟨k3.os,k3.tape,k3.output⟩ k3.size zf (fun _ h=>h) (fun _ h _=>h) (fun b hb=>jP (hs.okS b hb) k3.size) k1.inj (fun i ds hd=>by
       obtain ⟨b,arr,e,fr,q1,q2,q3,q4,q5,q6,q7,q8⟩:=k1.blk i ds hd
       have hge:w.heap.size≤b:=by
        rcases ZU b w.heap.size with qg | hge
        ·obtain ⟨j,es,s',hj,_⟩:=k3.own i ds b _ hd q1 qg;simp [qq] at hj
        ·exact hge
       refine ⟨b,arr,e,fr,q1,hge,fun hb=>by have:=hs.okS b hb;omega,q3,q4,q5,q6,q7,fun j d hj=>?_⟩
       have hdv:vFree d = true:=by
        have hl:=ZH hd
        have VE:some ds∈L:=by
         unfold qq at hd;rw [zi hl] at hd;simp only [Ju] at hd;rw [← hd];exact vw hl
        have:=List.all_eq_true.1 hvf.2 _ VE;simp only [qiU] at this;exact List.all_eq_true.1 this d (mem_of_get? hj)
       exact ((q8 j d hj).free (KG (k4 i ds (jk _) hd) d (mem_of_get? hj)) _ _).vfree hdv ok)
      exact ⟨_,ok,j1,(k2.vfree hvf.1 ok).shift ι H,j2⟩
     ·cases h
mutual
theorem qfg (n:Nat):∀ (d:D),idFree d = true→shift n d = d
 | .agg cs,h=>by simp only [idFree] at h;simp only [shift,qdw n cs h]
 | .tup cs,h=>by simp only [idFree] at h;simp only [shift,qdw n cs h]
 | .fn f cs,h=>by simp only [idFree] at h;simp only [shift,qdw n cs h]
 | .iface t d,h=>by simp only [idFree] at h;simp only [shift,qfg n d h]
 | .optr ..,h=>by simp [idFree] at h
 | .osl ..,h=>by simp [idFree] at h
 | .bool _,_=>rfl
 | .int _ _,_=>rfl
 | .str _,_=>rfl
 | .nilp,_=>rfl
 | .nilf,_=>rfl
 | .nili,_=>rfl
 | .raw _,_=>rfl
 | .vptr _,_=>rfl
 | .vsl ..,_=>rfl
theorem qdw (n:Nat):∀ (cs:List D),idFree.idFreeL cs = true→shift.shiftL n cs = cs
 | [],_=>rfl
 | d :: l,h=>by
  simp only [idFree.idFreeL,qT] at h;simp only [shift.shiftL,qfg n d h.1,qdw n l h.2]
end
theorem qe8 {F:zn} {f:Nat} {args:List D} {r:D × qi} (hp:(X.pureF f && !X.byRef f) = true) (h:QX X F f args H = some r):r.2 = H∧idFree r.1 = true ∧
  ((args.all idFree = true∧F f args [] = some (r.1,[])) ∨
   (¬ args.all idFree = true∧X.perm f = true∧args.all (Yt H) = true∧vFree r.1 = true∧∃ args',qao H args = some args'∧F f args' [] = some (r.1,[]))):=by
 unfold QX at h;rw [if_pos hp] at h;split at h
 ·rename_i ha;split at h
  ·rename_i r0 hc;split at h
   ·rename_i hi;injection h with h;subst h;exact ⟨rfl,hi,.inl ⟨ha,hc⟩⟩
   ·cases h
  ·cases h
 ·rename_i ha;split at h
  ·rename_i hpf;rw [qT] at hpf;split at h
   ·rename_i args' kC;split at h
    ·rename_i r0 hc;split at h
     ·rename_i hi;rw [qT] at hi;injection h with h;subst h;exact ⟨rfl,hi.1,.inr ⟨ha,hpf.1,hpf.2,hi.2,args',kC,hc⟩⟩
     ·cases h
    ·cases h
   ·cases h
  ·cases h
theorem qgt {F:zn} {f:Nat} {args:List D} {r:D × qi} (h:QX X F f args H = some r):KC X F f args H = some r:=by
 by_cases hp:(X.pureF f && !X.byRef f) = true
 ·obtain ⟨h4,h3,h1⟩:=qe8 hp h
  have hb:¬ X.byRef f = true:=by
   rw [qT] at hp;simpa using hp.2
  obtain ⟨r,H'⟩:=r;simp only at h3 h4 h1;subst h4;unfold KC;rcases h1 with ⟨h1,h2⟩ | ⟨h1,_,_,hv,args',kC,h2⟩
  ·rw [if_neg hb,if_pos h1,h2];simp only [qfg _ _ h3,Z2]
  ·rw [if_neg hb,if_neg h1,kC];simp only [h2,hv,List.all_nil,Bool.and_self,if_true,qfg _ _ h3,Z2]
 ·unfold QX at h
  rwa [if_neg hp] at h
theorem qqh {i:Nat} {ds ds':List D} (hs:Sim X ok w ι H) (hd:qq H i = some ds) (hl:ds.length = ds'.length) (hr:∀ b arr e fr,ι i = some (b,arr.size)→w.heap[b]? = some (.cells arr e fr)→∀ (j:Nat) d,ds'[j]? = some d→Rep ok w zg [] d (arr.getD j undef)) :
  Sim X ok w ι (hset H i ds')∧Evol H.length ok w ι H ok w ι (hset H i ds'):=by
 have qg:i < H.length:=ZH hd
 have hg:∀ j es,qq (hset H i ds') j = some es→(j = i∧es = ds')∨(j≠i∧qq H j = some es):=by
  intro j es hj;by_cases QC:j = i
  ·subst QC;simp only [qq,hset] at hj;rw [List.getElem?_set_self qg] at hj;exact .inl ⟨rfl,by simpa using hj.symm⟩
  ·refine .inr ⟨QC,?_⟩;simp only [qq,hset] at hj ⊢
   rwa [List.getElem?_set_ne (Ne.symm QC)] at hj
 have YZ:∀ j es,qq (hset H i ds') j = some es→∃ es0,qq H j = some es0:=by
  intro j es hj;rcases hg j es hj with ⟨rfl,_⟩ | ⟨_,h⟩
  ·exact ⟨ds,hd⟩
  ·exact ⟨es,h⟩
 have hev:Evol H.length ok w ι H ok w ι (hset H i ds'):=by
  refine ⟨rfl,rfl,rfl,qB _,fun _ _ _=>rfl,fun _ h=>h,fun b h _=>.inl h,⟨qB _,by simp [hset]⟩,?_,?_⟩
  ·intro j _ es hj;rcases hg j es hj with ⟨rfl,rfl⟩ | ⟨_,h⟩
   ·exact ⟨ds,hd,by rw [hl];exact qB _,fun _=>rfl⟩
   ·exact ⟨es,h,qB _,fun _=>rfl⟩
  ·intro j es b s hj hb _;obtain ⟨es0,h0⟩:=YZ j es hj;exact ⟨j,es0,s,h0,hb⟩
 refine ⟨⟨hs.okS,hs.glob,?_,?_⟩,hev⟩
 ·intro a c es es' b s s' ha hc hb zq;obtain ⟨e1,h1⟩:=YZ a es ha;obtain ⟨e2,h2⟩:=YZ c es' hc;exact hs.inj a c e1 e2 b s s' h1 h2 hb zq
 ·intro j es hj;rcases hg j es hj with ⟨rfl,rfl⟩ | ⟨_,h⟩
  ·obtain ⟨b,arr,e,fr,k1,k2,k3,k4,k5,k6,k7,k8⟩:=hs.blk j ds hd;have hrr:=hr b arr e fr k1 k3;refine ⟨b,arr,e,fr,k1,k2,k3,by rw [← hl];exact k4,k5,k6,fun d hm=>?_,fun m d hm=>(hrr m d hm).lift⟩;obtain ⟨m,zZ,zB⟩:=List.mem_iff_getElem.1 hm;have Jm:es[m]? = some d:=(by rw [zi zZ,zB]);exact qfL (hrr m d Jm) (k6 m (by omega))
  ·obtain ⟨b,arr,e,fr,k1,k2,k3,k4,k5,k6,k7,k8⟩:=hs.blk j es h;exact ⟨b,arr,e,fr,k1,k2,k3,k4,k5,k6,k7,fun m d hm=>(k8 m d hm).evol hs hev (k8 m d hm).closed⟩
theorem qof:Evol H.length ok w ι H ok w ι H :=
 ⟨rfl,rfl,rfl,qB _,fun _ _ _=>rfl,fun _ h=>h,fun _ h _=>.inl h,⟨qB _,qB _⟩,fun _ _ ds hd=>⟨ds,hd,qB _,fun _=>rfl⟩,fun i ds _ s hd hi _=>⟨i,ds,s,hd,hi⟩⟩
theorem qjF {i:Nat} (h:qc9 H i = some H') (hs:Sim X ok w ι H):∃ ok',Sim X ok' w ι H'∧Evol H.length ok w ι H ok' w ι H'∧H'.length = H.length:=by
 unfold qc9 at h;split at h
 ·rename_i ds hd;split at h
  ·injection h with h;subst h;exact ⟨ok,hs,qof,rfl⟩
  split at h
  ·rename_i ds' l hsl;split at h
   ·cases h
   ·rename_i YV;injection h with h;subst h
    have Yp:qq (Vv H l) i = some ds:=by
     have:∀ (l:List Nat) (H:qi),qq H i = some ds→i ∉ l→qq (Vv H l) i = some ds:=by
      intro l
      induction l with
      | nil=>intro H h _;exact h
      | cons a l ih =>
       intro H h hn;simp only [qbG,not_or] at hn;refine ih _ ?_ hn.2;unfold qq at h ⊢
       rwa [List.getElem?_set_ne (Ne.symm hn.1)]
     exact this l H hd YV
    have hsc:=qgp hs l
    have hst2:∀ b arr e fr,ι i = some (b,arr.size)→w.heap[b]? = some (.cells arr e fr)→ds.length = ds'.length∧∀ (j:Nat) d,ds'[j]? = some d→Rep (Xx ok ι H l) w zg [] d (arr.getD j undef):=by
     intro b arr e fr q1 q2;obtain ⟨b',arr',e',fr',k1,k2,k3,k4,k5,k6,k7,k8⟩:=hs.blk i ds hd;rw [q1] at k1;injection k1 with k1;injection k1 with k1a k1b;subst k1a;rw [q2] at k3;injection k3 with k3;injection k3 with k3a k3b k3c;subst k3a
     exact qa7 (cond:=fun i=>∀ ds b s,qq H i = some ds→ι i = some (b,s)→Xx ok ι H l b) (fun d d' l' v hr hd hc=>qdt hs (okF:=Xx ok ι H l) (fun b hb=>.inl hb) 9 d d' l' v hr hd hc) ds (vs:=fun j=>arr.getD j undef) k8 hsl
      (fun i hi ds b s hd hb=>.inr ⟨i,ds,s,hi,hd,hb⟩)
    obtain ⟨b,arr,e,fr,k1,k2,k3,-⟩:=hs.blk i ds hd;obtain ⟨s1,s2⟩:=qqh hsc Yp (hst2 b arr e fr k1 k3).1 (fun b arr e fr q1 q2=>(hst2 b arr e fr q1 q2).2);have zo:(hset (Vv H l) i ds').length = H.length:=(by rw [hset,qc0,qcM]);rw [qcM] at s2;exact ⟨Xx ok ι H l,s1,(qdc (ok:=ok) (w:=w) (ι:=ι) (H:=H) l).trans s2,zo⟩
  ·cases h
 ·cases h
theorem qgN {e:qr}:∀ {ss:List Nat} {H H':qi} {ok:Nat→Prop},qa8 e ss H = some H'→Sim X ok w ι H→∃ ok',Sim X ok' w ι H'∧Evol H.length ok w ι H ok' w ι H'∧H'.length = H.length
 | [],H,H',ok,h,hs=>by
  injection h with h;subst h;exact ⟨ok,hs,qof,rfl⟩
 | s :: ss,H,H',ok,h,hs=>by
  have go:∀ {i:Nat},(match qc9 H i with
   | some H'=>qa8 e ss H'
   | none=>none) = some H'→∃ ok',Sim X ok' w ι H'∧Evol H.length ok w ι H ok' w ι H'∧H'.length = H.length:=by
   intro i h;split at h
   ·rename_i H1 h1;obtain ⟨ok1,k1,k2,k3⟩:=qjF h1 hs;obtain ⟨ok2,j1,j2,j3⟩:=qgN h k1;rw [k3] at j2 j3;exact ⟨ok2,j1,k2.trans j2,j3⟩
   ·cases h
  unfold qa8 at h;split at h
  ·exact go h
  ·exact go h
  ·exact qgN h hs
theorem q0e {F:zn} (hF:JS X F) {f:Nat} {args:List D} {r:D} {vs:List Value} (h:KD X F f args H = some (r,H')) (hs:Sim X ok w ι H) (hv:RepL ok w ι H args vs) :
  Goes X.P (callFunc f vs.toArray) w (Post X H.length ok w ι H r H'):=by
 unfold KD at h;split at h
 ·exact qiS hF (qgt h) hs hv
 ·split at h
  ·rename_i H1 hst;unfold qgO at hst;split at hst
   ·obtain ⟨ok1,s1,hev,zo⟩:=qjF hst hs;refine (qiS hF (qgt h) s1 ⟨hv.1,fun j d hj=>(hv.2 j d hj).evol hs hev (hv.2 j d hj).closed⟩).mono ?_;rintro v w' ⟨ι',ok',h1,h2,h3⟩;rw [zo] at h3;exact ⟨ι',ok',h1,h2,hev.trans h3⟩
   ·cases hst
  ·cases h
theorem q0b {F:zn} (hF:JS X F) {f:Nat} {args:List D} {r:D} {vs:List Value} (h:JO X F f args H = some (r,H')) (hs:Sim X ok w ι H) (hv:RepL ok w ι H args vs) :
  Goes X.P (callFunc f vs.toArray) w (Post X H.length ok w ι H r H'):=by
 unfold JO at h;split at h
 ·exact q0e hF h hs hv
 ·split at h
  ·rename_i args' l hst
   obtain ⟨s1,s2⟩:=qa7 (cond:=fun i=>∀ ds b s,qq H i = some ds→ι i = some (b,s)→Xx ok ι H l b) (fun d d' l' v hr hd hc=>qdt hs (okF:=Xx ok ι H l) (fun b hb=>.inl hb) 9 d d' l' v hr hd hc) args (vs:=fun j=>vs.getD j undef) hv.2 hst
    (fun i hi ds b s hd hb=>.inr ⟨i,ds,s,hi,hd,hb⟩)
   refine (qiS hF (qgt h) (qgp hs l) ⟨by rw [hv.1,s1],fun j d hj=>(s2 j d hj).lift⟩).mono ?_;rintro v w' ⟨ι',ok',h1,h2,h3⟩;rw [qcM] at h3;exact ⟨ι',ok',h1,h2,(qdc l).trans h3⟩
  ·cases h
theorem qgu {F:zn} {f:Nat} {args:List D} {H:qi} (hp:(X.perm f && !X.pureF f && !X.byRef f) = false) (hb:(X.perm f && X.byRef f) = false):JO X F f args H = QX X F f args H:=by
 unfold JO KD;rw [hp,hb]
theorem RepL.append {xs ys:List D} {vs us:List Value} (h1:RepL ok w ι H xs vs) (h2:RepL ok w ι H ys us):RepL ok w ι H (xs ++ ys) (vs ++ us):=by
 refine ⟨by simp [h1.1,h2.1],fun j d hj=>?_⟩;rw [jV];by_cases qg:j < xs.length
 ·rw [ZY qg] at hj;rw [ZY (by rw [h1.1];exact qg)];have:=h1.2 j d hj
  rwa [jV] at this
 ·rw [VW (by omega)] at hj;rw [VW (by rw [h1.1];omega),h1.1];have:=h2.2 _ d hj
  rwa [jV] at this
theorem qrG {ds:List D} {vs:Array Value} (hl:vs.size = ds.length) (h:∀ (j:Nat) d,ds[j]? = some d→Rep ok w ι H d (vs.getD j undef)):RepL ok w ι H ds vs.toList :=
 ⟨by simpa using hl,fun j d hj=>by
  have:=h j d hj;simpa [jp,jV] using this⟩
theorem J4 {d:D} {ds:List D} {vs:List Value} (h:RepL ok w ι H (d :: ds) vs):∃ v us,vs = v :: us∧Rep ok w ι H d v∧RepL ok w ι H ds us:=by
 cases vs with
 | nil=>have:=h.1;simp at this
 | cons v us=>exact ⟨v,us,rfl,h.2 0 d rfl,by have:=h.1;simpa using this,fun j x hj=>h.2 (j+1) x (by simpa using hj)⟩
theorem qbW {vs:List Value} (h:RepL ok w ι H [] vs):vs = []:=VX (by simpa using h.1)
theorem Q4 {α:Type} {x:Option α} {H H':qi} {d:α} (h:x.map (·,H) = some (d,H')):x = some d∧H = H':=by
 cases x with
 | none=>simp at h
 | some y=>simp only [jF,qu,qN] at h;exact ⟨by rw [h.1],h.2⟩
theorem qlB {mx:Bool} {args:List D} {d:D} {vs:List Value} (hv:RepL ok w ι H args vs) (h:qdV mx args = some d) {P:Program} {ts:Array TypeId} {t:TypeId} :
  ∃ v,((if mx then Builtin.max_ else Builtin.min_) ts t vs.toArray).run P w = .ok v w∧Rep ok w ι H d v:=by
 unfold qdV at h;split at h
 ·split at h
  ·rename_i k a k' b hk;subst hk;injection h with h;subst h;obtain ⟨v1,us,rfl,r1,h2⟩:=J4 hv;obtain ⟨v2,us,rfl,r2,h3⟩:=J4 h2;obtain rfl:=qbW h3;cases r1;cases r2;cases mx
   ·exact ⟨_,by simp [Builtin.min_,Builtin.min2],.int _ _⟩
   ·exact ⟨_,by simp [Builtin.max_,Builtin.max2],.int _ _⟩
  ·cases h
 ·cases h
theorem q0l {b:Builtin} {ts:Array TypeId} {t:TypeId} {cst:Array Bool} {args:List D} {d:D} {vs:List Value} (hs:Sim X ok w ι H) (hv:RepL ok w ι H args vs) (h:qb7 X b ts.toList args H = some (d,H')) :
  Goes X.P (builtin b ts t cst vs.toArray) w (Post X H.length ok w ι H d H'):=by
 unfold qb7 at h;split at h
 ·rename_i t0 tr x xr hts;cases hl:qea X.P t0 x with
  | none=>simp [hl] at h
  | some r =>
   simp only [hl,jF,qu,qN] at h;obtain ⟨rfl,rfl⟩:=h;obtain ⟨v,us,rfl,r1,_⟩:=J4 hv;obtain ⟨rv,q1,q2⟩:=qtX (P:=X.P) (ty:=t) (ts:=ts) (vs:=(v :: us).toArray) (by rw [← Array.getElem?_toList,hts];rfl) (by simp) r1 hl;exact Goes.value (by simp [builtin,q1]) (Post.same hs q2)
 ·rename_i t0 u tr s x xr hts;obtain ⟨v1,us,rfl,r1,h2⟩:=J4 hv;obtain ⟨v2,us,rfl,r2,h3⟩:=J4 h2;obtain ⟨rv,w1,q1,q2⟩:=q0C (P:=X.P) (ty:=t) hs r1 r2 h;refine Goes.value (w':=w1) (v:=rv) ?_ q2;have e1:ts[0]? = some t0:=by rw [← Array.getElem?_toList,hts];rfl
  have e2:ts[1]? = some u:=by rw [← Array.getElem?_toList,hts];rfl
  have e3:Builtin.append_ ts t (v1 :: v2 :: us).toArray = Builtin.append_ #[t0,u] t #[v1,v2]:=by
   simp only [Builtin.append_,e1,e2];rfl
  simp [builtin,e3,q1]
 ·rename_i t0 u tr s x xr hts;obtain ⟨v1,us,rfl,r1,h2⟩:=J4 hv;obtain ⟨v2,us,rfl,r2,h3⟩:=J4 h2;obtain ⟨rv,w1,q1,q2⟩:=qzk (P:=X.P) (ty:=t) hs r1 r2 h;refine Goes.value (w':=w1) (v:=rv) ?_ q2;have e1:ts[0]? = some t0:=by rw [← Array.getElem?_toList,hts];rfl
  have e3:Builtin.copy_ ts t (v1 :: v2 :: us).toArray = Builtin.copy_ #[t0,u] t #[v1,v2]:=by
   simp only [Builtin.copy_,e1];rfl
  simp [builtin,e3,q1]
 ·obtain ⟨hm,rfl⟩:=Q4 h;obtain ⟨v,q1,q2⟩:=qlB (P:=X.P) (ts:=ts) (t:=t) hv hm;simp only [vT,if_false] at q1;exact Goes.value (by simp [builtin,q1]) (Post.same hs q2)
 ·obtain ⟨hm,rfl⟩:=Q4 h;obtain ⟨v,q1,q2⟩:=qlB (P:=X.P) (ts:=ts) (t:=t) hv hm;simp only [if_true] at q1;exact Goes.value (by simp [builtin,q1]) (Post.same hs q2)
 ·cases h
theorem qoT {t:TypeId} {cs:List D} (hs:Sim X ok w ι H) (h:(VZ X.P t).bind cellsOf = some cs):∃ v w',(Instr.alloc t true (.tuple #[])).run X.P w = .ok v w'∧Post X H.length ok w ι H (.optr H.length cs.length 0) (vA H cs) v w':=by
 cases hz:VZ X.P t with
 | none=>simp [hz] at h
 | some z =>
  simp only [hz,Y3] at h;obtain ⟨zv,z1,z2⟩:=qdl hz;obtain ⟨c1,c2,c3⟩:=Yv (z2 ok w ι H) h
  obtain ⟨ι',n1,n2,n3⟩:=qcK (e:=t) (arr:=zv.cells) (ds:=cs) hs w ⟨rfl,rfl,rfl⟩ rfl (by omega)
   (fun j hj=>by
    have kL:cs[j]? = some (cs[j]'(by omega)):=zi (by omega);exact (c3 j _ kL).oneCell (c2 _ (mem_of_get? kL)))
   c2 c3
  refine ⟨.pointer (some ⟨w.heap.size,0,none⟩),w.alloc (.cells zv.cells t),by simp [Instr.alloc,z1,newVar,newRow],ι',ok,n1,?_,n2⟩;refine .optr _ (by rw [Vb];omega) fun ds hd=>?_;rw [Ym] at hd;injection hd with hd;subst hd;exact ⟨qB _,fun _=>⟨_,_,n3,rfl⟩⟩
theorem q0q {t:TypeId} {d:D} {v:Value} {cs:List D} (hs:Sim X ok w ι H) (hd:Rep ok w ι H d v) (h:cellsOf d = some cs):∃ v' w',(Instr.box t v).run X.P w = .ok v' w'∧Post X H.length ok w ι H (.optr H.length cs.length 0) (vA H cs) v' w':=by
 obtain ⟨c1,c2,c3⟩:=Yv hd h
 obtain ⟨ι',n1,n2,n3⟩:=qcK (e:=t) (arr:=v.cells) (ds:=cs) hs w ⟨rfl,rfl,rfl⟩ rfl (by omega)
  (fun j hj=>by
   have kL:cs[j]? = some (cs[j]'(by omega)):=zi (by omega);exact (c3 j _ kL).oneCell (c2 _ (mem_of_get? kL)))
  c2 c3
 refine ⟨.pointer (some ⟨w.heap.size,0,none⟩),w.alloc (.cells v.cells t),by simp [Instr.box,newVar,newRow],ι',ok,n1,?_,n2⟩;refine .optr _ (by rw [Vb];omega) fun ds hd=>?_;rw [Ym] at hd;injection hd with hd;subst hd;exact ⟨qB _,fun _=>⟨_,_,n3,rfl⟩⟩
theorem qfy (hs:Sim X ok w ι H) {e:qr} {a:Act} (he:EnvRep ok w ι H e a.tmps) {x:Operand} {d:D} (h:qQ X e x = some d):∀ y,some d = some y→∃ v,(some x:Option Operand).map a.eval = some v∧Rep ok w ι H y v:=by
 intro y hy;injection hy with hy;subst hy;exact ⟨_,rfl,jJ hs he h⟩
theorem qlt {F:zn} (hF:JS X F) {o:Oper} {e:qr} {a:Act} {d:D} (hs:Sim X ok w ι H) (he:EnvRep ok w ι H e a.tmps) (h:zk X F o.op e H = some (d,H')) :
  Goes X.P (execOp a.eval o) w (Post X H.length ok w ι H d H'):=by
 have pure_:∀ {v:Value} {d:D},Rep ok w ι H d v→∀ {s:Sem Next},s.run X.P w = .ok (.value v) w→Goes X.P s w (Post X H.length ok w ι H d H):=fun hr _ h=>Goes.value h (Post.same hs hr);unfold zk at h;split at h
 ·rename_i x ho;obtain ⟨h1,rfl⟩:=Q4 h;exact pure_ (jJ hs he h1) (by simp [execOp,ho])
 ·rename_i x ho;obtain ⟨h1,rfl⟩:=Q4 h;exact pure_ (jJ hs he h1) (by simp [execOp,ho])
 ·rename_i c x y ho;split at h
  ·rename_i t hc;obtain ⟨h1,rfl⟩:=Q4 h;have hb:=jJ hs he hc;generalize Vm:a.eval c = cv at hb;cases hb;refine pure_ (v:=a.eval (if t then x else y)) (jJ hs he h1) ?_;cases t <;> simp [execOp,ho,Vm,asBool]
  ·cases h
 ·rename_i t ho;split at h
  ·rename_i cs hz;injection h with h;injection h with h1 h2;subst h1;subst h2;obtain ⟨v,w1,q1,q2⟩:=qoT hs hz;exact Goes.value (by simp [execOp,ho,q1]) q2
  ·cases h
 ·rename_i t x ho;split at h
  ·rename_i cs hz;split at h
   ·injection h with h;injection h with h1 h2;subst h1;subst h2;cases hx:qQ X e x with
    | none=>simp [hx] at hz
    | some dx =>
     simp only [hx,Y3] at hz;obtain ⟨v,w1,q1,q2⟩:=q0q (t:=t) hs (jJ hs he hx) hz;exact Goes.value (by simp [execOp,ho,q1]) q2
   ·cases h
  ·cases h
 ·rename_i t parts ho;split at h
  ·rename_i ps Zh;obtain ⟨h1,rfl⟩:=Q4 h;obtain ⟨v,q1,q2⟩:=q0n (P:=X.P) (vps:=parts.map fun (i,x)=>(i,a.eval x)) (by simpa using qfv hs he Zh) h1;exact pure_ q2 (by simp [execOp,ho,q1])
  ·cases h
 ·rename_i t len parts ho;split at h
  ·rename_i ps Zh;obtain ⟨v,w1,q1,q2⟩:=q0o (P:=X.P) (vps:=parts.map fun (i,x)=>(i,a.eval x)) hs (by simpa using qfv hs he Zh) h;exact Goes.value (by simp [execOp,ho,q1]) q2
  ·cases h
 ·rename_i t p ho;split at h
  ·rename_i pd hp;obtain ⟨h1,rfl⟩:=Q4 h;obtain ⟨v,q1,q2⟩:=qlQ hs (jJ hs he hp) h1;exact pure_ q2 (by simp [execOp,ho,q1])
  ·cases h
 ·rename_i t p x ho;split at h
  ·rename_i pd xd hp hx;cases hst:stD X.P H t pd xd with
   | none=>simp [hst] at h
   | some H1 =>
    simp only [hst,jF,qu,qN] at h;obtain ⟨rfl,rfl⟩:=h;obtain ⟨w1,ι',q1,q2,q3⟩:=qpM hs (jJ hs he hp) (jJ hs he hx) hst;exact Goes.skip (by simp [execOp,ho,q1]) ⟨ι',ok,q2,.tup rfl (by simp),q3⟩
  ·cases h
 ·rename_i x ho;split at h
  ·rename_i cs hx;injection h with h;injection h with h1 h2;subst h1;subst h2;have hb:=jJ hs he hx;generalize Vm:a.eval x = cv at hb;refine pure_ hb ?_;cases hb;simp [execOp,ho,Vm]
  ·rename_i i st off hx;injection h with h;injection h with h1 h2;subst h1;subst h2;have hb:=jJ hs he hx;generalize Vm:a.eval x = cv at hb;refine pure_ hb ?_;cases hb;simp [execOp,ho,Vm]
  ·rename_i f caps hx;injection h with h;injection h with h1 h2;subst h1;subst h2;have hb:=jJ hs he hx;generalize Vm:a.eval x = cv at hb;refine pure_ hb ?_;cases hb;simp [execOp,ho,Vm]
  ·rename_i t d hx;injection h with h;injection h with h1 h2;subst h1;subst h2;have hb:=jJ hs he hx;generalize Vm:a.eval x = cv at hb;refine pure_ hb ?_;cases hb;simp [execOp,ho,Vm]
  ·cases h
 ·rename_i op t x y yt ho;split at h
  ·rename_i p q hx hy;obtain ⟨h1,rfl⟩:=Q4 h;obtain ⟨v,q1,q2⟩:=q0u (P:=X.P) (x:=x) (y:=y) (jJ hs he hx) (jJ hs he hy) h1;have e:execOp a.eval o = (do let r ← (do eqGuard op t x y (a.eval x) (a.eval y);binOp op t (a.eval x) (a.eval y):Sem Value);pure (.value r)):=(by simp only [execOp,ho]);exact pure_ q2 (by rw [e,Sem.run_bind,q1];rfl)
  ·cases h
 ·rename_i op t x ho;split at h
  ·rename_i p hx;obtain ⟨h1,rfl⟩:=Q4 h;obtain ⟨v,q1,q2⟩:=qpl (P:=X.P) (jJ hs he hx) h1;exact pure_ q2 (by simp [execOp,ho,q1])
  ·cases h
 ·rename_i s t x ho;split at h
  ·rename_i p hx;obtain ⟨v,w1,q1,q2⟩:=qnU (P:=X.P) hs (jJ hs he hx) h;exact Goes.value (by simp [execOp,ho,q1]) q2
  ·cases h
 ·rename_i t x ho;split at h
  ·cases h
  ·rename_i p u hu hx hni;injection h with h;injection h with h1 h2;subst h1;subst h2;refine pure_ (.iface (jJ hs he hx)) ?_;simp only [execOp,ho,Instr.makeInterface,Sem.run_bind,run_underlying hni,Result.andThen_ok];cases u <;> first | rfl | exact absurd rfl (hu _)
  ·cases h
 ·rename_i f first caps ho
  split at h
  ·rename_i hfe;cases hcs:vz X e caps.toList with
   | none=>simp [hcs] at h
   | some cs =>
    simp only [hcs,jF,qu,qN] at h;obtain ⟨rfl,rfl⟩:=h;obtain ⟨l1,l2⟩:=qfz hs he hcs;have hf0:first = #[]:=by simpa using hfe
    subst hf0;refine pure_ (v:=.func (.func f) #[] (caps.map a.eval)) (.fn (by simpa using l1) fun j d hj=>?_) (by simp [execOp,ho,Instr.makeFunc]);have:=l2 j d hj;simpa [jp,jV] using this
  ·cases h
 ·rename_i t l c ho;split at h
  ·rename_i ld cd hl hc;obtain ⟨v,w1,q1,q2⟩:=qtJ (P:=X.P) hs (jJ hs he hl) (jJ hs he hc) h;exact Goes.value (by simp [execOp,ho,q1]) q2
  ·cases h
 ·rename_i t x lo hi ho;split at h
  ·rename_i p hx kx XF;obtain ⟨h1,rfl⟩:=Q4 h;have e1:lo = none:=(by cases lo <;> simp_all);have e2:hi = none:=(by cases hi <;> simp_all);subst e1;subst e2;obtain ⟨v,q1,q2⟩:=qfc (P:=X.P) (lov:=none) (hiv:=none) hs (jJ hs he hx) (fun _ h=>by cases h) (fun _=>rfl) (fun _ h=>by cases h) (fun _=>rfl) h1;exact pure_ q2 (by simp [execOp,ho,q1])
  ·rename_i p l hx kx XF;obtain ⟨h1,rfl⟩:=Q4 h;have e2:hi = none:=(by cases hi <;> simp_all);subst e2;cases lo with
   | none=>simp at kx
   | some lo =>
    simp only [jF,qu] at kx;obtain ⟨v,q1,q2⟩:=qfc (P:=X.P) (lov:=some (a.eval lo)) (hiv:=none) hs (jJ hs he hx) (qfy hs he kx) (fun h=>by cases h) (fun _ h=>by cases h) (fun _=>rfl) h1;exact pure_ q2 (by simp [execOp,ho,q1])
  ·rename_i p l hx kx XF;obtain ⟨h1,rfl⟩:=Q4 h;have e1:lo = none:=(by cases lo <;> simp_all);subst e1;cases hi with
   | none=>simp at XF
   | some hi =>
    simp only [jF,qu] at XF;obtain ⟨v,q1,q2⟩:=qfc (P:=X.P) (lov:=none) (hiv:=some (a.eval hi)) hs (jJ hs he hx) (fun _ h=>by cases h) (fun _=>rfl) (qfy hs he XF) (fun h=>by cases h) h1;exact pure_ q2 (by simp [execOp,ho,q1])
  ·rename_i p l l' hx kx XF;obtain ⟨h1,rfl⟩:=Q4 h;cases lo with
   | none=>simp at kx
   | some lo =>
    cases hi with
    | none=>simp at XF
    | some hi =>
     simp only [jF,qu] at kx XF;obtain ⟨v,q1,q2⟩:=qfc (P:=X.P) (lov:=some (a.eval lo)) (hiv:=some (a.eval hi)) hs (jJ hs he hx) (qfy hs he kx) (fun h=>by cases h) (qfy hs he XF) (fun h=>by cases h) h1;exact pure_ q2 (by simp [execOp,ho,q1])
  ·cases h
 ·rename_i s x f ho;split at h
  ·rename_i p hx;obtain ⟨h1,rfl⟩:=Q4 h;obtain ⟨v,q1,q2⟩:=qyz (P:=X.P) (jJ hs he hx) h1;exact pure_ q2 (by simp [execOp,ho,q1])
  ·cases h
 ·rename_i s x f ho;split at h
  ·rename_i p hx;obtain ⟨h1,rfl⟩:=Q4 h;obtain ⟨v,q1,q2⟩:=qyy (P:=X.P) (jJ hs he hx) h1;exact pure_ q2 (by simp [execOp,ho,q1])
  ·cases h
 ·rename_i t x i ho;split at h
  ·rename_i p q hx hy;obtain ⟨h1,rfl⟩:=Q4 h;obtain ⟨v,q1,q2⟩:=qxs (P:=X.P) (jJ hs he hx) (jJ hs he hy) h1;exact pure_ q2 (by simp [execOp,ho,q1])
  ·cases h
 ·rename_i t x i ho;split at h
  ·rename_i p q hx hy;obtain ⟨h1,rfl⟩:=Q4 h;obtain ⟨v,q1,q2⟩:=qxq (P:=X.P) (jJ hs he hx) (jJ hs he hy) h1;exact pure_ q2 (by simp [execOp,ho,q1])
  ·cases h
 ·rename_i x i ho;split at h
  ·rename_i cs hx;obtain ⟨h1,rfl⟩:=Q4 h;have hb:=jJ hs he hx;generalize Vm:a.eval x = cv at hb;cases hb with
   | @tup _ _ _ vs hl hh =>
    have qg:i < vs.size:=(by rw [hl];exact (List.getElem?_eq_some_iff.1 h1).1);have hr:=hh i d h1;rw [jp,Jx qg] at hr;exact pure_ (v:=vs[i]) hr (by simp [execOp,ho,Vm,Instr.extract,qg])
  ·cases h
 ·rename_i c ho;split at h
  ·rename_i b args hcal hargs;have hv:=qfz hs he hargs;have:=q0l (t:=o.type) (cst:=c.args.map fun | .const _=>true | _=>false) hs hv h
   have e:execOp a.eval o = builtin b c.argTypes o.type (c.args.map fun | .const _=>true | _=>false) (c.args.toList.map a.eval).toArray:=by
    simp only [execOp,ho,resolve,hcal];simp only [pure_bind,invoke];congr 1;apply Array.ext';simp
   rw [e];exact this
  ·rename_i g args hcal hargs;split at h
   ·rename_i f caps hg;have hv:=qfz hs he hargs;have hb:=jJ hs he hg;generalize Vm:a.eval g = cv at hb;cases hb with
    | @fn _ _ _ _ vs hl hh =>
     have:=q0b hF h hs (RepL.append hv (qrG hl hh))
     have e:execOp a.eval o = callFunc f ((c.args.toList.map a.eval) ++ vs.toList).toArray:=by
      simp only [execOp,ho,resolve,hcal,Vm,Deferred.ofValue];simp only [pure_bind,invoke];congr 1;apply Array.ext';simp
     rw [e];exact this
   ·cases h
  ·cases h
 ·cases h
end
end Go.Ev
namespace Go.Ev
section
variable {X:Cx} {P:Program} {ok ok':Nat→Prop} {w w':World} {ι:qF} {H H':qi}
theorem qjD {ds:List D} {b len c:Nat} {arr:Array Value} {e:TypeId} {fr:Nat × Nat} (hs:Sim X ok w ι H) (hw:qax w w') (zh:w.heap.size≤w'.heap.size) (zf:∀ c,c < w.heap.size→w'.heap[c]? = w.heap[c]?)
  (hb:w'.heap[b]? = some (.cells arr e fr)) (hloc:w.heap.size≤b) (qab:ds.length≤arr.size) (Jp:∀ d,d∈ds→zR d = true) (hfree:ds.all idFree = true) (qR:len≤c)
  (hrep:∀ (j:Nat) d,ds[j]? = some d→Rep ok w ι H d (arr.getD j undef)) :
  Post X H.length ok w ι H (.vsl false ds len) H (.slice (some ⟨b,0,none⟩) len c) w':=by
 have hblt:b < w'.heap.size:=(Array.getElem?_eq_some_iff.1 hb).1
 have hev:Evol H.length ok w ι H (fun x=>ok x∨x = b) w' ι H :=
  ⟨hw.1,hw.2.1,hw.2.2,zh,fun c hc _=>zf c hc,fun _ h=>.inl h,fun x hx qg=>by
   rcases hx with hx | hx
   ·exact .inl hx
   ·omega,⟨qB _,qB _⟩,fun _ _ ds hd=>⟨ds,hd,qB _,fun _=>rfl⟩,fun i ds _ s hd hi _=>⟨i,ds,s,hd,hi⟩⟩
 have hsim:Sim X (fun x=>ok x∨x = b) w' ι H:=by
  refine ⟨fun x hx=>?_,fun g cs hg=>(((hs.glob g cs hg).lift (ι:=ι) (H:=H)).evol hs hev rfl).free rfl _ _,hs.inj,fun i es hd=>?_⟩
  ·rcases hx with hx | hx
   ·exact jP (hs.okS x hx) zh
   ·omega
  ·obtain ⟨b',arr',e',fr',q1,q2,q3,q4,q5,q6,q7,q8⟩:=hs.blk i es hd;have qg:=hs.lt hd q1;refine ⟨b',arr',e',fr',q1,fun h=>?_,by rw [zf b' qg];exact q3,q4,q5,q6,q7,fun j d hj=>(q8 j d hj).evol hs hev (q8 j d hj).closed⟩;rcases h with h | h
   ·exact q2 h
   ·omega
 refine ⟨ι,_,hsim,.vsl _ (fun j=>arr.getD j undef) (fun _ _=>.inr rfl) Jp (fun j d hj=>?_) (fun j d hj=>?_) qR,hev⟩
 ·have qg:j < arr.size:=jP (List.getElem?_eq_some_iff.1 hj).1 qab;rw [ZR,vQ,cell_of_heap hb];simp [qg]
 ·exact ((hrep j d hj).evol hs hev (hrep j d hj).closed).free (KG hfree d (mem_of_get? hj)) _ _
theorem qtU {t:TypeId} {len:Nat} {parts:List (Nat × D)} {vps:Array (Nat × Value)} {i st o n k:Nat} {ds:List D} (hs:Sim X ok w ι H) (hp:qbB ok w ι H parts vps.toList) (h:qau X.P [] t len parts = some (.osl i st o n k,[some ds])) :
  ∃ v w',(Instr.buildSlice t len vps).run X.P w = .ok v w'∧Post X H.length ok w ι H (.vsl false ds len) H v w':=by
 unfold qau at h;split at h
 ·rename_i e hu;split at h
  ·rename_i z hz;split at h
   ·rename_i hsmall;cases hf:Xc (fun i=>some (i * qw X.P e,qw X.P e)) z parts with
    | none=>simp [hf] at h
    | some cs =>
     simp only [hf,Y3] at h;split at h
     ·rename_i hcs0;have hcs:cs.all idFree = true∧cs.length = len * qw X.P e:=⟨hcs0.1.resolve_left (by simp),hcs0.2⟩;clear hcs0;simp only [vA,ZW,qu,qN,qbI,and_true] at h;obtain ⟨_,h2⟩:=h;subst h2;obtain ⟨zv,z1,z2,z3,z4,z5,z6,z7⟩:=qdm hz
      obtain ⟨zc,hzc1,hzc2,hzget⟩:∃ zc:Array Value,(len * qw X.P e = 0→zc = #[])∧(¬ len * qw X.P e = 0→zc = zv.cells) ∧
        ∀ j,j < len * qw X.P e→((Array.range (len * qw X.P e)).map (zc[· % zc.size]!)).getD j undef = zv.cells.getD (j % qw X.P e) undef:=by
       by_cases h0:len * qw X.P e = 0
       ·exact ⟨#[],fun _=>rfl,fun h=>absurd h0 h,fun j hj=>by omega⟩
       ·refine ⟨zv.cells,fun h=>absurd h h0,fun _=>rfl,fun j hj=>?_⟩;rw [qg7 (by omega) hj,z2]
      obtain ⟨arr,q1,q2,q3,q4,q5⟩:=qel (place:=fun i=>some (i * qw X.P e,qw X.P e)) (arr:=(Array.range (len * qw X.P e)).map (zc[· % zc.size]!)) hp (by simp [z4]) z5
       (fun j d hj=>by
        rw [hzget j (by have:=(List.getElem?_eq_some_iff.1 hj).1;omega)];exact z7 ok w ι H j d hj) hf
      refine ⟨.slice (some ⟨w.heap.size,0,none⟩) len len,w.alloc (.cells arr e),?_,qjD hs ⟨rfl,rfl,rfl⟩ (by simp) (fun c hc=>heap_alloc_old w _ hc) (heap_alloc_new w _) (qB _) (by omega) q3 hcs.1 (qB _) q4⟩;simp only [Instr.buildSlice,Sem.run_bind,run_underlying hu,Result.andThen_ok,Zb z3];rw [if_neg (by simpa using hsmall)];by_cases h0:len * qw X.P e = 0
      ·rw [hzc1 h0] at q1;rw [if_pos h0];simp only [Sem.run_bind,Sem.run_pure,Result.andThen_ok,q1];simp [newRow]
      ·rw [hzc2 h0] at q1;rw [if_neg h0];simp only [Sem.run_bind,Sem.run_pure,Result.andThen_ok,z1,q1];simp [newRow]
     ·cases h
   ·cases h
  ·cases h
 ·cases h
theorem qtV {src dst e:TypeId} {u:TypeDesc} {s:List UInt8} (hs:Sim X ok w ι H) (h1:X.P.underlying src = some u) (h2:X.P.underlying dst = some (.slice e)) (he:X.P.underlying e = some (.int .u8)) :
  ∃ v w',(convert src dst (.string ⟨s.toArray⟩)).run X.P w = .ok v w'∧Post X H.length ok w ι H (.vsl false (qd s) s.length) H v w':=by
 have zh:(⟨s.toArray⟩:ByteArray).size = s.length:=by simp [ByteArray.size]
 have hge:=grownCap_ge w s.length 0 e
 have ZJ:(Lib.bytesCells w e ⟨s.toArray⟩).size = grownCap w s.length 0 e:=by
  unfold Lib.bytesCells;simp only [Array.size_append,Array.size_map,Array.size_replicate,zh];simp;omega
 have Ys:∀ j,j < s.length→(Lib.bytesCells w e ⟨s.toArray⟩).getD j undef = (Xz s).getD j undef:=by
  intro j hj;unfold Lib.bytesCells Xz;rw [jp,qg6 (by simpa using hj),jV];simp
 have hrun:=Lib.run_convert_string_bytes w src dst e ⟨s.toArray⟩ h1 h2 he;rw [zh] at hrun
 refine ⟨_,_,hrun,qjD (w':=Lib.bytesWorld w e ⟨s.toArray⟩) (b:=w.heap.size) (arr:=Lib.bytesCells w e ⟨s.toArray⟩) (ds:=qd s) hs
  (by
   refine ⟨?_,?_,?_⟩ <;> (unfold Lib.bytesWorld World.freeze;split <;> rfl))
  (by rw [Lib.bytesWorld_size];omega) (fun c hc=>Lib.bytesWorld_at_old w e _ c hc) (Lib.bytesWorld_at_new w e _) (qB _) (by rw [ZJ];simpa [qd] using hge)
  (fun d hd=>by
   simp only [qd,List.mem_map] at hd;obtain ⟨_,_,rfl⟩:=hd;rfl)
  (by
   rw [Y7];intro d hd;simp only [qd,List.mem_map] at hd;obtain ⟨_,_,rfl⟩:=hd;rfl) hge
  (fun j d hj=>by
   have VI:j < s.length:=by
    have:=(List.getElem?_eq_some_iff.1 hj).1;simpa [qd] using this
   rw [Ys j VI];exact qhB s j d hj)⟩
theorem qhA {F:zn} (hF:JS X F) {drw:Bool} {o:Oper} {e:qr} {a:Act} {d:D} (hs:Sim X ok w ι H) (he:EnvRep ok w ι H e a.tmps) (h:qL X F drw o.op e H = some (d,H')) :
  Goes X.P (execOp a.eval o) w (Post X H.length ok w ι H d H'):=by
 unfold qL at h;split at h
 ·rename_i t len parts ho;split at h
  ·rename_i ps Zh;split at h
   ·rename_i ds hb;injection h with h;injection h with h1 h2;subst h1;subst h2;obtain ⟨v,w1,q1,q2⟩:=qtU (vps:=parts.map fun (i,x)=>(i,a.eval x)) hs (by simpa using qfv hs he Zh) hb;exact Goes.value (by simp [execOp,ho,q1]) q2
   ·cases h
  ·cases h
 ·rename_i s t x ho;split at h
  ·rename_i b u hx hu;split at h
   ·rename_i us YM hu8;injection h with h;injection h with h1 h2;subst h1;subst h2;have hb:=jJ hs he hx;generalize Vm:a.eval x = cv at hb;cases hb;obtain ⟨v,w1,q1,q2⟩:=qtV (s:=b) hs YM hu hu8;exact Goes.value (by simp [execOp,ho,Vm,q1]) q2
   ·cases h
  ·rename_i p _ hx;obtain ⟨v,w1,q1,q2⟩:=qnU (P:=X.P) hs (jJ hs he (by assumption)) h;exact Goes.value (by simp [execOp,ho,q1]) q2
  ·cases h
 ·rename_i c ho
  have hh:zk X F (.call c) e H = some (d,H'):=by
   split at h
   ·cases h
   ·exact h
  rw [← ho] at hh;exact qlt hF hs he hh
 ·exact qlt hF hs he h
end
end Go.Ev
namespace Go.Ev
section
variable {X:Cx} {ok ok':Nat→Prop} {w w':World} {ι:qF} {H H':qi}
def qcX (S:Nat→Prop) (o:Oper):Prop:= ∀ e,e∈o.after.toList→Region.binds .any e = true→S e.on
theorem qiW {ops:Array Oper} {S:Nat→Prop} (jC:∀ (i:Nat) (o:Oper),ops[i]? = some o→S i→qcX S o) {j i:Nat} {o:Oper} (hj:ops[j]? = some o)
  (hready:qcX S o) (hb:((Region.before ops).getD j 0).testBit i = true):S i:=by
 have gen:∀ (l pre:List Oper) (acc:Array Nat),ops.toList = pre ++ l→acc.size = pre.length→(∀ j i,(acc.getD j 0).testBit i = true→∀ o,ops[j]? = some o→qcX S o→S i) →
   ∀ j i,((l.foldl (fun acc o=>acc.push (o.after.foldl (fun s e=>if Region.binds .any e then s ||| 2 ^ e.on ||| acc.getD e.on 0 else s) 0)) acc).getD j 0).testBit i = true→∀ o,ops[j]? = some o→qcX S o→S i:=by
  intro l
  induction l with
  | nil=>intro pre acc _ _ h;exact h
  | cons o l ih =>
   intro pre acc he zh hacc;simp only [List.foldl_cons];refine ih (pre ++ [o]) _ (by rw [he];simp) (by simp [zh]) ?_;intro j i hi o' ho' hed;by_cases qg:j < acc.size
   ·have:(acc.push (o.after.foldl (fun s e=>if Region.binds .any e then s ||| 2 ^ e.on ||| acc.getD e.on 0 else s) 0)).getD j 0 = acc.getD j 0:=by
     simp only [jp];rw [Array.getElem?_push,if_neg (by omega)]
    rw [this] at hi;exact hacc j i hi o' ho' hed
   ·by_cases hje:j = acc.size
    ·subst hje
     have:(acc.push (o.after.foldl (fun s e=>if Region.binds .any e then s ||| 2 ^ e.on ||| acc.getD e.on 0 else s) 0)).getD acc.size 0 = o.after.foldl (fun s e=>if Region.binds .any e then s ||| 2 ^ e.on ||| acc.getD e.on 0 else s) 0:=by
      simp only [jp];rw [Array.getElem?_push,if_pos rfl];rfl
     rw [this] at hi
     have hoo:o' = o:=by
      have h1:ops.toList[acc.size]? = some o:=(by rw [he,zh];simp);rw [Array.getElem?_toList,ho'] at h1;injection h1
     subst hoo;rw [← Array.foldl_toList] at hi
     have inner:∀ (es:List Edge) (s:Nat),(∀ e,e∈es→e∈o'.after.toList)→(∀ i,s.testBit i = true→S i) →
       ∀ i,(es.foldl (fun s e=>if Region.binds .any e then s ||| 2 ^ e.on ||| acc.getD e.on 0 else s) s).testBit i = true→S i:=by
      intro es
      induction es with
      | nil=>intro s _ hs i hi;exact hs i hi
      | cons e es ih2 =>
       intro s hes hs i hi;simp only [List.foldl_cons] at hi;refine ih2 _ (fun x hx=>hes x (kU _ hx)) ?_ i hi;intro i hi;split at hi
       ·rename_i jN;rw [Nat.testBit_or,Nat.testBit_or] at hi;simp only [qbK] at hi;have Jj:=hed e (hes e (QY ..)) jN;rcases hi with (hi | hi) | hi
        ·exact hs i hi
        ·rw [Nat.testBit_two_pow] at hi;have:e.on = i:=(by simpa using hi);rw [← this];exact Jj
        ·by_cases Qc:e.on < acc.size
         ·have kx:e.on < ops.size:=by
           have:ops.toList.length = pre.length+(o' :: l).length:=(by rw [he];simp);simp at this;omega
          have ho:=Jx kx;exact hacc e.on i hi _ ho (jC e.on _ ho Jj)
         ·simp only [jp,qc5 (show acc.size≤e.on by omega)] at hi;simp at hi
       ·exact hs i hi
     exact inner _ 0 (fun _ h=>h) (fun i hi=>by simp at hi) i hi
    ·simp only [jp] at hi;rw [qc5 (by simp;omega)] at hi;simp at hi
 have:=gen ops.toList [] #[] rfl rfl (fun j i hi=>by simp at hi) j i;unfold Region.before at hb;rw [← Array.foldl_toList] at hb;exact this hb o hj hready
def qaw (X:Cx) (F:zn) (nt:Nat) (bw:Option Tmp→Bool) (ops:Array Oper) (o:Oper) (e:qr) (H:qi) (e1:qr) (H1:qi):Prop :=
 vv nt o.dst = true∧((jy ops e o.guard = some true∧∃ d,qL X F (bw o.dst) o.op e H = some (d,H1)∧e1 = vj e o.dst d)∨(jy ops e o.guard = some false∧H1 = H∧e1 = vj e o.dst (.tup [])))
theorem qj1 {F:zn} {nt:Nat} {drw:Bool} {ops:Array Oper}:∀ {l:List Oper} {e e':qr} {H H':qi},j9 X F nt drw ops l e H = some (e',H') →
  ∃ (E:Nat→qr) (T:Nat→qi),E 0 = e∧T 0 = H∧E l.length = e'∧T l.length = H'∧∀ k o,l[k]? = some o→qaw X F nt (fun _=>drw) ops o (E k) (T k) (E (k+1)) (T (k+1))
 | [],e,e',H,H',h=>by
  simp only [j9,qu,qN] at h;obtain ⟨rfl,rfl⟩:=h;exact ⟨fun _=>e,fun _=>H,rfl,rfl,rfl,rfl,fun k o hk=>by simp at hk⟩
 | o :: l,e,e',H,H',h=>by
  simp only [j9] at h
  have key:∀ e1 H1,qaw X F nt (fun _=>drw) ops o e H e1 H1→j9 X F nt drw ops l e1 H1 = some (e',H')→∃ (E:Nat→qr) (T:Nat→qi),E 0 = e∧T 0 = H∧E (o :: l).length = e'∧T (o :: l).length = H' ∧
    ∀ k x,(o :: l)[k]? = some x→qaw X F nt (fun _=>drw) ops x (E k) (T k) (E (k+1)) (T (k+1)):=by
   intro e1 H1 hst hl;obtain ⟨E,T,k1,k2,k3,k4,k5⟩:=qj1 hl;refine ⟨fun k=>match k with | 0=>e | k+1=>E k,fun k=>match k with | 0=>H | k+1=>T k,rfl,rfl,k3,k4,fun k x hx=>?_⟩;cases k with
   | zero =>
    simp only [ZX,qu] at hx;subst hx;simp only [k1,k2];exact hst
   | succ k=>exact k5 k x (by simpa using hx)
  split at h
  ·rename_i hd hg;split at h
   ·rename_i d H1 ho;exact key _ H1 ⟨hd,.inl ⟨hg,d,ho,rfl⟩⟩ h
   ·cases h
  ·rename_i hd hg;exact key _ H ⟨hd,.inr ⟨hg,rfl,rfl⟩⟩ h
  ·cases h
def q1d (X:Cx) (ops:Array Oper) (L:Qj) (E:Nat→qr) (T:Nat→qi):Prop :=
 ∀ i j x y,ops[i]? = some x→ops[j]? = some y→L.contains (i,j) = true→i≠j→jy ops (E i) x.guard = some true→jy ops (E j) y.guard = some true →
  (T i).length≤(T (i+1)).length∧∀ b,b∈kJ (y.op.operands.toList.map (qQ X (E j)))→qq (T (i+1)) b = qq (T i) b
theorem qj0 {F:zn} {nt:Nat} {ow:List Nat} {ops:Array Oper} {L:Qj}:∀ {l:List Oper} {k:Nat} {ws:List (Nat × qi × qi)} {rs:List (Nat × List Nat)} {e e':qr} {H H':qi},kp X F nt ow ops L k ws rs l e H = some (e',H') →
  ∃ (E:Nat→qr) (T:Nat→qi),E 0 = e∧T 0 = H∧E l.length = e'∧T l.length = H'∧∀ k o,l[k]? = some o→qaw X F nt (Zk ow) ops o (E k) (T k) (E (k+1)) (T (k+1))
 | [],k,ws,rs,e,e',H,H',h=>by
  simp only [kp,qu,qN] at h;obtain ⟨rfl,rfl⟩:=h;exact ⟨fun _=>e,fun _=>H,rfl,rfl,rfl,rfl,fun k o hk=>by simp at hk⟩
 | o :: l,k,ws,rs,e,e',H,H',h=>by
  simp only [kp] at h
  have key:∀ e1 H1 k ws rs,qaw X F nt (Zk ow) ops o e H e1 H1→kp X F nt ow ops L k ws rs l e1 H1 = some (e',H')→∃ (E:Nat→qr) (T:Nat→qi),E 0 = e∧T 0 = H∧E (o :: l).length = e'∧T (o :: l).length = H' ∧
    ∀ k x,(o :: l)[k]? = some x→qaw X F nt (Zk ow) ops x (E k) (T k) (E (k+1)) (T (k+1)):=by
   intro e1 H1 k ws rs hst hl;obtain ⟨E,T,k1,k2,k3,k4,k5⟩:=qj0 hl;refine ⟨fun k=>match k with | 0=>e | k+1=>E k,fun k=>match k with | 0=>H | k+1=>T k,rfl,rfl,k3,k4,fun k x hx=>?_⟩;cases k with
   | zero =>
    simp only [ZX,qu] at hx;subst hx;simp only [k1,k2];exact hst
   | succ k=>exact k5 k x (by simpa using hx)
  cases hd:vv nt o.dst with
  | false=>simp [hd] at h
  | true =>
   cases hg:jy ops e o.guard with
   | none=>simp [hd,hg] at h
   | some b =>
    cases b with
    | false =>
     simp only [hd,hg] at h;exact key _ H _ _ _ ⟨hd,.inr ⟨hg,rfl,rfl⟩⟩ h
    | true =>
     simp only [hd,hg] at h;cases ho:qL X F (Zk ow o.dst) o.op e H with
     | none=>simp [ho] at h
     | some q =>
      obtain ⟨d,H1⟩:=q;simp only [ho] at h;split at h
      ·exact key _ H1 _ _ _ ⟨hd,.inl ⟨hg,d,ho,rfl⟩⟩ h
      ·cases h
theorem qo7 {L:Qj} {k:Nat} {bs:List Nat}:∀ {ws:List (Nat × qi × qi)},XL L k bs ws→∀ {i:Nat} {A B:qi},(i,A,B)∈ws→L.contains (i,k) = true→∀ b,b∈bs→qq B b = qq A b
 | [],_,i,A,B,hm,_=>by cases hm
 | (i',A',B') :: ws,h,i,A,B,hm,hc=>by
  rcases List.mem_cons.1 hm with hm | hm
  ·injection hm with h1 h2;injection h2 with h2 h3;subst h1;subst h2;subst h3;exact h.1 hc
  ·exact qo7 h.2 hm hc
theorem qo6 {L:Qj} {k:Nat} {A B:qi}:∀ {rs:List (Nat × List Nat)},XK L k A B rs→∀ {j:Nat} {bs:List Nat},(j,bs)∈rs→L.contains (k,j) = true→∀ b,b∈bs→qq B b = qq A b
 | [],_,j,bs,hm,_=>by cases hm
 | (j',bs') :: rs,h,j,bs,hm,hc=>by
  rcases List.mem_cons.1 hm with hm | hm
  ·injection hm with h1 h2;subst h1;subst h2;exact h.1 hc
  ·exact qo6 h.2 hm hc
theorem qpj {L:Qj} {i j:Nat} (h:L.contains (i,j) = true):Zl L i = true∧Zq L j = true:=by
 rw [List.contains_iff_mem] at h;exact ⟨List.any_eq_true.2 ⟨_,h,by simp⟩,List.any_eq_true.2 ⟨_,h,by simp⟩⟩
theorem qgE {F:zn} {nt:Nat} {ow:List Nat} {ops:Array Oper} {L:Qj} {E:Nat→qr} {T:Nat→qi} (hst:∀ k o,ops[k]? = some o→qaw X F nt (Zk ow) ops o (E k) (T k) (E (k+1)) (T (k+1))) :
  ∀ (l:List Oper) (k:Nat) (ws:List (Nat × qi × qi)) (rs:List (Nat × List Nat)) (r:qr × qi),(∀ m,l[m]? = ops[k+m]?)→kp X F nt ow ops L k ws rs l (E k) (T k) = some r →
   (∀ i x,i < k→ops[i]? = some x→Zl L i = true→jy ops (E i) x.guard = some true→(i,T i,T (i+1))∈ws∧(T i).length≤(T (i+1)).length) →
   (∀ j y,j < k→ops[j]? = some y→Zq L j = true→jy ops (E j) y.guard = some true→(j,kJ (y.op.operands.toList.map (qQ X (E j))))∈rs) →
   ∀ i j x y,ops[i]? = some x→ops[j]? = some y→L.contains (i,j) = true→i≠j→jy ops (E i) x.guard = some true→jy ops (E j) y.guard = some true→k≤max i j →
    (T i).length≤(T (i+1)).length∧∀ b,b∈kJ (y.op.operands.toList.map (qQ X (E j)))→qq (T (i+1)) b = qq (T i) b
 | [],k,ws,rs,r,hl,h,Q7,hrs,i,j,x,y,hi,hj,hc,qt,gi,gj,hm=>by
  exfalso;have ZG:=(Array.getElem?_eq_some_iff.1 hi).1;have kL:=(Array.getElem?_eq_some_iff.1 hj).1;have:=hl (max i j - k);rw [show k+(max i j - k) = max i j by omega,Jx (by omega)] at this;simp at this
 | o :: l,k,ws,rs,r,hl,h,Q7,hrs,i,j,x,y,hi,hj,hc,qt,gi,gj,hm=>by
  have ho:ops[k]? = some o:=by have:=hl 0;simpa using this.symm
  have ky:∀ m,l[m]? = ops[k+1+m]?:=by
   intro m;have:=hl (m+1);rw [show k+1+m = k+(m+1) by omega,← this];simp
  obtain ⟨hd,hcase⟩:=hst k o ho;obtain ⟨w1,w2⟩:=qpj hc;simp only [kp,hd] at h;rcases hcase with ⟨hg,d,ji,hE⟩ | ⟨hg,hT,hE⟩
  ·simp only [hg,ji] at h;split at h
   ·rename_i hchk;rw [← hE] at h
    have hws':∀ i x,i < k+1→ops[i]? = some x→Zl L i = true→jy ops (E i) x.guard = some true→(i,T i,T (i+1))∈(if Zl L k then (k,T k,T (k+1)) :: ws else ws)∧(T i).length≤(T (i+1)).length:=by
     intro i x hik hi hwi Vl;by_cases hik':i = k
     ·subst hik';rw [if_pos hwi];exact ⟨QY ..,(hchk.2 hwi).1⟩
     ·obtain ⟨q1,q2⟩:=Q7 i x (by omega) hi hwi Vl;refine ⟨?_,q2⟩;split
      ·exact kU _ q1
      ·exact q1
    have hrs':∀ j y,j < k+1→ops[j]? = some y→Zq L j = true→jy ops (E j) y.guard = some true→(j,kJ (y.op.operands.toList.map (qQ X (E j))))∈(if Zq L k then (k,kJ (o.op.operands.toList.map (qQ X (E k)))) :: rs else rs):=by
     intro j y XD hj hrj hgj;by_cases hjk':j = k
     ·subst hjk';rw [ho] at hj;injection hj with hj;subst hj;rw [if_pos hrj];exact QY ..
     ·have q1:=hrs j y (by omega) hj hrj hgj;split
      ·exact kU _ q1
      ·exact q1
    by_cases hmk:k+1≤max i j
    ·exact qgE hst l (k+1) _ _ r ky h hws' hrs' i j x y hi hj hc qt gi gj hmk
    ·obtain ⟨q1,q2⟩:=hws' i x (by omega) hi w1 gi;refine ⟨q2,?_⟩;by_cases hik:i = k
     ·subst hik;rw [ho] at hi;injection hi with hi;subst hi;exact qo6 (hchk.2 w1).2 (hrs j y (by omega) hj w2 gj) hc
     ·have XD:j = k:=(by omega);subst XD;rw [ho] at hj;injection hj with hj;subst hj;exact qo7 (hchk.1 w2) (Q7 i x (by omega) hi w1 gi).1 hc
   ·cases h
  ·simp only [hg] at h;rw [← hE,← hT] at h
   have zT:∀ {q:Nat} {z:Oper},ops[q]? = some z→jy ops (E q) z.guard = some true→q≠k:=by
    rintro q z hq gq rfl;rw [ho] at hq;injection hq with hq;subst hq;rw [hg] at gq;cases gq
   have n1:=zT hi gi;have n2:=zT hj gj;exact qgE hst l (k+1) ws rs r ky h (fun i x hik hi hwi Vl=>Q7 i x (by have:=zT hi Vl;omega) hi hwi Vl) (fun j y XD hj hrj hgj=>hrs j y (by have:=zT hj hgj;omega) hj hrj hgj) i j x y hi hj hc qt gi gj (by omega)
theorem qsO {e1 e2:qr} {x:Operand} (h:∀ t,t∈qgF x→qf e1 t = qf e2 t):qQ X e1 x = qQ X e2 x:=by
 cases x with
 | tmp t=>exact h t (by simp [qgF])
 | _=>rfl
theorem qh9 {e1 e2:qr}:∀ {l:List Operand},(∀ x,x∈l→qQ X e1 x = qQ X e2 x)→vz X e1 l = vz X e2 l
 | [],_=>rfl
 | x :: l,h=>by
  simp only [vz,h x (QY ..),qh9 (fun y hy=>h y (kU _ hy))]
theorem qfw {e1 e2:qr}:∀ {l:List (Nat × Operand)},(∀ x,x∈l.map (·.2)→qQ X e1 x = qQ X e2 x)→Xw X e1 l = Xw X e2 l
 | [],_=>rfl
 | (i,x) :: l,h=>by
  simp only [Xw,h x (by simp),qfw (l:=l) (fun y hy=>h y (by simp only [Y6,qbG];exact .inr hy))]
theorem qnq {F:zn} {o:Op} {e1 e2:qr} (h:∀ x,x∈o.operands.toList→qQ X e1 x = qQ X e2 x):zk X F o e1 H = zk X F o e2 H:=by
 cases o with
 | build t parts =>
  simp only [zk];rw [qfw (e2:=e2) (fun x hx=>h x (by simpa [Op.operands] using hx))]
 | buildSlice t n parts =>
  simp only [zk];rw [qfw (e2:=e2) (fun x hx=>h x (by simpa [Op.operands] using hx))]
 | makeFunc fn first caps =>
  cases fn with
  | func f =>
   simp only [zk]
   rw [qh9 (e2:=e2) (fun x hx=>h x (by
    simp only [Op.operands,Array.toList_append,qbH];exact .inr hx))]
  | _=>rfl
 | slice t x lo hi mx =>
  cases mx with
  | none =>
   have hx:=h x (by simp [Op.operands])
   have kx:lo.map (qQ X e1) = lo.map (qQ X e2):=by
    cases lo with
    | none=>rfl
    | some l=>simp [h l (by simp [Op.operands])]
   have XF:hi.map (qQ X e1) = hi.map (qQ X e2):=by
    cases hi with
    | none=>rfl
    | some l=>simp [h l (by simp [Op.operands])]
   simp only [zk,hx,kx,XF]
  | some m=>rfl
 | call c =>
  simp only [zk]
  have ha:vz X e1 c.args.toList = vz X e2 c.args.toList:=qh9 fun x hx=>h x (by
   simp only [Op.operands,Call.operands,Array.toList_append,qbH];exact .inr hx)
  rw [ha];cases hc:c.callee with
  | builtin b=>cases vz X e2 c.args.toList <;> rfl
  | value g =>
   have hg:=h g (by simp [Op.operands,Call.operands,hc]);cases vz X e2 c.args.toList with
   | none=>rfl
   | some args=>simp only [hg]
  | invoke r m=>cases vz X e2 c.args.toList <;> rfl
 | pick c a b =>
  simp only [zk];rw [h c (by simp [Op.operands])];split
  ·rename_i t _;cases t
   ·simp only [vT,if_false];rw [h b (by simp [Op.operands])]
   ·simp only [if_true];rw [h a (by simp [Op.operands])]
  ·rfl
 | move x=>simp only [zk,h x (by simp [Op.operands])]
 | assign x=>simp only [zk,h x (by simp [Op.operands])]
 | box t x=>simp only [zk,h x (by simp [Op.operands])]
 | load t x=>simp only [zk,h x (by simp [Op.operands])]
 | store t x y=>simp only [zk,h x (by simp [Op.operands]),h y (by simp [Op.operands])]
 | nilCheck x=>simp only [zk,h x (by simp [Op.operands])]
 | binOp op t x y u=>simp only [zk,h x (by simp [Op.operands]),h y (by simp [Op.operands])]
 | unOp op t x=>simp only [zk,h x (by simp [Op.operands])]
 | convert s d x=>simp only [zk,h x (by simp [Op.operands])]
 | makeInterface t x=>simp only [zk,h x (by simp [Op.operands])]
 | makeSlice t x y=>simp only [zk,h x (by simp [Op.operands]),h y (by simp [Op.operands])]
 | fieldAddr s x f=>simp only [zk,h x (by simp [Op.operands])]
 | field s x f=>simp only [zk,h x (by simp [Op.operands])]
 | indexAddr t x y=>simp only [zk,h x (by simp [Op.operands]),h y (by simp [Op.operands])]
 | index t x y=>simp only [zk,h x (by simp [Op.operands]),h y (by simp [Op.operands])]
 | extract x i=>simp only [zk,h x (by simp [Op.operands])]
 | _=>rfl
theorem qy6 {F:zn} {drw:Bool} {o:Op} {e1 e2:qr} (h:∀ x,x∈o.operands.toList→qQ X e1 x = qQ X e2 x):qL X F drw o e1 H = qL X F drw o e2 H:=by
 unfold qL;split
 ·rw [qfw (e2:=e2) (fun x hx=>h x (by simpa [Op.operands] using hx))]
 ·rw [h _ (by simp [Op.operands])]
 ·rename_i c;rw [qnq (o:=.call c) h]
  have hd:VS X c e1 = VS X c e2:=by
   unfold VS;cases X.dynV with
   | false=>rfl
   | true =>
    cases hc:c.callee with
    | value g =>
     cases g with
     | tmp t =>
      have hg:qf e1 t = qf e2 t:=h (.tmp t) (by simp [Op.operands,Call.operands,hc]);simp only [hg]
     | _=>rfl
    | _=>rfl
  rw [hd]
 ·exact qnq h
theorem qhK {x:Option D} {d:D} (h:x.map (·,H) = some (d,H')):H' = H∧∀ H2:qi,x.map (·,H2) = some (d,H2):=by
 obtain ⟨rfl,rfl⟩:=Q4 h;exact ⟨rfl,fun _=>rfl⟩
theorem q0m {b:Builtin} {ts:List TypeId} {args:List D} {d:D} (hb:b = .len∨b = .min∨b = .max) (h:qb7 X b ts args H = some (d,H')):H' = H∧∀ H2,qb7 X b ts args H2 = some (d,H2):=by
 rcases hb with rfl | rfl | rfl
 ·rcases ts with _ | ⟨t,ts⟩
  ·simp [qb7] at h
  ·rcases args with _ | ⟨x,args⟩
   ·simp [qb7] at h
   ·exact qhK h
 ·exact qhK h
 ·exact qhK h
theorem quk {F:zn} {o:Op} {e:qr} {d:D} (hk:Je X o = .v) (h:qL X F true o e H = some (d,H')):H' = H∧∀ H2,qL X F true o e H2 = some (d,H2):=by
 have mp:∀ {x:Option D},x.map (·,H) = some (d,H')→H' = H∧∀ H2:qi,x.map (·,H2) = some (d,H2):=by
  intro x hx;obtain ⟨rfl,rfl⟩:=Q4 hx;exact ⟨rfl,fun _=>rfl⟩
 cases o with
 | buildSlice t n parts =>
  simp only [qL] at h ⊢;split at h
  ·rename_i ps hp;split at h
   ·rename_i ds hb;injection h with h;injection h with h1 h2;subst h1;subst h2;exact ⟨rfl,fun H2=>rfl⟩
   ·cases h
  ·cases h
 | move x=>exact mp h
 | assign x=>exact mp h
 | pick c a b =>
  simp only [qL,zk] at h ⊢;split at h
  ·exact mp h
  ·cases h
 | build t parts =>
  simp only [qL,zk] at h ⊢;split at h
  ·exact mp h
  ·cases h
 | nilCheck x =>
  simp only [qL,zk] at h ⊢;split at h <;> first | (cases h;done) | skip
  all_goals
   injection h with h;injection h with h1 h2;subst h1;subst h2;exact ⟨rfl,fun _=>rfl⟩
 | binOp op t x y u =>
  simp only [qL,zk] at h ⊢;split at h
  ·exact mp h
  ·cases h
 | unOp op t x =>
  simp only [qL,zk] at h ⊢;split at h
  ·exact mp h
  ·cases h
 | makeInterface t x =>
  simp only [qL,zk] at h ⊢;split at h
  ·cases h
  ·injection h with h;injection h with h1 h2;subst h1;subst h2;exact ⟨rfl,fun _=>rfl⟩
  ·cases h
 | makeFunc fn first caps =>
  cases fn with
  | func f =>
   simp only [qL,zk] at h ⊢;split at h
   ·rename_i hf;cases hc:vz X e caps.toList with
    | none=>simp [hc] at h
    | some cs =>
     simp only [hc,jF,qu,qN] at h;obtain ⟨rfl,rfl⟩:=h;exact ⟨rfl,fun _=>by simp [hf]⟩
   ·cases h
  | _=>simp [qL,zk] at h
 | slice t x lo hi mx =>
  cases mx with
  | none =>
   simp only [qL,zk] at h ⊢;split at h <;> first | (cases h;done) | exact mp h
  | some m=>simp [qL,zk] at h
 | fieldAddr s x f =>
  simp only [qL,zk] at h ⊢;split at h
  ·exact mp h
  ·cases h
 | field s x f =>
  simp only [qL,zk] at h ⊢;split at h
  ·exact mp h
  ·cases h
 | indexAddr t x y =>
  simp only [qL,zk] at h ⊢;split at h
  ·exact mp h
  ·cases h
 | index t x y =>
  simp only [qL,zk] at h ⊢;split at h
  ·exact mp h
  ·cases h
 | extract x i =>
  simp only [qL,zk] at h ⊢;split at h
  ·exact mp h
  ·cases h
 | call c =>
  have hc:(c.callee = .builtin .len∨c.callee = .builtin .min∨c.callee = .builtin .max)∨(∃ f,c.callee = .value (.func f)∧(X.pureF f && !X.byRef f && !X.perm f) = true)∨(∃ t,c.callee = .value (.tmp t)∧X.dynV = true):=by
   simp only [Je] at hk;split at hk
   ·rename_i hc;exact .inl (.inl hc)
   ·rename_i hc;exact .inl (.inr (.inl hc))
   ·rename_i hc;exact .inl (.inr (.inr hc))
   ·rename_i f hc;refine .inr (.inl ⟨f,hc,?_⟩);split at hk
    ·cases hk
    ·rename_i hb;split at hk
     ·rename_i hp;split at hk
      ·cases hk
      ·rename_i Vd;rw [hp];simp [hb,Vd]
     ·split at hk <;> cases hk
   ·rename_i t hc;refine .inr (.inr ⟨t,hc,?_⟩);split at hk
    ·assumption
    ·cases hk
   ·cases hk
  have pureGo:∀ {f:Nat} {args:List D},(X.pureF f && !X.byRef f && !X.perm f) = true→JO X F f args H = some (d,H')→H' = H∧∀ H2,JO X F f args H2 = some (d,H2):=by
   intro f args hp0 h;rw [qT] at hp0;have hp:=hp0.1;have hpn:X.perm f = false:=by simpa using hp0.2
   have Vd:(X.perm f && !X.pureF f && !X.byRef f) = false:=by
    simp [hpn]
   have hpb:(X.perm f && X.byRef f) = false:=(by simp [hpn]);rw [qgu Vd hpb] at h;obtain ⟨h4,h3,h1⟩:=qe8 hp h;rcases h1 with ⟨h1,h2⟩ | ⟨_,h1,_⟩
   ·refine ⟨h4,fun H2=>?_⟩;rw [qgu Vd hpb];unfold QX;rw [if_pos hp,if_pos h1,h2];simp only at h3;simp only [h3,if_true]
   ·rw [hpn] at h1;cases h1
  rcases hc with hc | ⟨f,hc,hp⟩ | ⟨t,hc,hdy⟩
  rotate_left
  ·have hw:∀ H2,qL X F true (.call c) e H2 = zk X F (.call c) e H2:=fun H2=>by
    simp only [qL,VS,hc];cases X.dynV <;> rfl
   rw [hw] at h;simp only [hw];simp only [zk] at h ⊢;simp only [hc] at h ⊢;cases ha:vz X e c.args.toList with
   | none=>simp [ha] at h
   | some args =>
    simp only [ha,qQ] at h ⊢;exact pureGo hp h
  ·simp only [qL] at h ⊢;split at h
   ·cases h
   ·rename_i hb;have zq:VS X c e = false:=(by simpa using hb);simp only [zq,vT,if_false];unfold VS at zq;simp only [hc,hdy] at zq;split at zq
    ·rename_i f caps hl;have hp:(X.pureF f && !X.byRef f && !X.perm f) = true:=(by simpa using zq);simp only [zk,hc] at h ⊢;cases ha:vz X e c.args.toList with
     | none=>simp [ha] at h
     | some args =>
      simp only [ha,qQ,hl] at h ⊢;exact pureGo hp h
    ·cases zq
  have hw:∀ H2,qL X F true (.call c) e H2 = zk X F (.call c) e H2:=fun H2=>by
   simp only [qL,VS];rcases hc with hc | hc | hc <;> (simp only [hc];cases X.dynV <;> rfl)
  rw [hw] at h;simp only [hw];simp only [zk] at h ⊢;cases ha:vz X e c.args.toList with
  | none=>rcases hc with hc | hc | hc <;> simp [hc,ha] at h
  | some args=>rcases hc with hc | hc | hc <;> (simp only [hc,ha] at h ⊢;exact q0m (by simp) h)
 | load _ _=>simp [Je] at hk
 | convert _ _ _=>simp [Je] at hk
 | alloc _=>simp [Je] at hk
 | box _ _=>simp [Je] at hk
 | makeSlice _ _ _=>simp [Je] at hk
 | store _ _ _=>simp [Je] at hk
 | _=>simp [qL,zk] at h
theorem qlE {T1 T2:qi} {p:D} {cs:List D} (hg:∀ i,Xn p = some i→qq T1 i≠none→qq T2 i = qq T1 i) (h:X2 T1 p = some cs):X2 T2 p = some cs:=by
 cases p <;> simp only [X2,reduceCtorEq] at h ⊢
 ·exact h
 ·rename_i i st off;split at h
  ·rename_i ds hd;have:=hg i rfl (by rw [hd];simp);rw [this,hd];exact h
  ·cases h
theorem qqe {T1 T2:qi} {p:D} {k:Nat} {r:List D × Nat} (hg:∀ i,Xn p = some i→qq T1 i≠none→qq T2 i = qq T1 i) (h:Xo T1 k p = some r):Xo T2 k p = some r:=by
 cases p <;> simp only [Xo,reduceCtorEq] at h ⊢
 ·exact h
 ·rename_i i st off len k';split at h
  ·rename_i ds hd;have:=hg i rfl (by rw [hd];simp);rw [this,hd];exact h
  ·cases h
theorem qls {e:qr}:∀ {l:List Operand} {ds:List D},vz X e l = some ds→∀ d,d∈ds→∃ x,x∈l∧qQ X e x = some d
 | [],ds,h,d,hd=>by
  simp only [vz,qu] at h;subst h;cases hd
 | x :: l,ds,h,d,hd=>by
  simp only [vz] at h;split at h
  ·rename_i d0 ds0 h1 h2;injection h with h;subst h;rcases List.mem_cons.1 hd with rfl | hd
   ·exact ⟨x,QY ..,h1⟩
   ·obtain ⟨y,hy,hyd⟩:=qls h2 d hd;exact ⟨y,kU _ hy,hyd⟩
  ·cases h
mutual
theorem qmY (T1 T2:qi):∀ (d:D),idFree d = true→freeze T2 d = freeze T1 d
 | .agg cs,h=>by simp only [idFree] at h;simp only [freeze,qga T1 T2 cs h]
 | .fn f cs,h=>by simp only [idFree] at h;simp only [freeze,qga T1 T2 cs h]
 | .tup _,_=>rfl
 | .iface _ _,_=>rfl
 | .optr ..,h=>by simp [idFree] at h
 | .osl ..,h=>by simp [idFree] at h
 | .bool _,_=>rfl
 | .int _ _,_=>rfl
 | .str _,_=>rfl
 | .nilp,_=>rfl
 | .nilf,_=>rfl
 | .nili,_=>rfl
 | .raw _,_=>rfl
 | .vptr _,_=>rfl
 | .vsl ..,_=>rfl
theorem qga (T1 T2:qi):∀ (cs:List D),idFree.idFreeL cs = true→freeze.freezeL T2 cs = freeze.freezeL T1 cs
 | [],_=>rfl
 | d :: l,h=>by
  simp only [idFree.idFreeL,qT] at h;simp only [freeze.freezeL,qmY T1 T2 d h.1,qga T1 T2 l h.2]
end
theorem qyr {T1 T2:qi} {p:D} (hg:∀ i,Xn p = some i→qq T1 i≠none→qq T2 i = qq T1 i) (h:Yt T1 p = true):Yt T2 p = true∧freeze T2 p = freeze T1 p:=by
 cases p with
 | osl i st off len k =>
  simp only [Yt] at h;split at h
  ·rename_i ds hd;have e1:=hg i rfl (by rw [hd];simp);constructor
   ·simp only [Yt,e1,hd];exact h
   ·simp only [freeze,e1]
  ·cases h
 | optr i st off=>simp [Yt,idFree] at h
 | _=>exact ⟨h,qmY T1 T2 _ h⟩
theorem qnc {T1 T2:qi}:∀ (args:List D),(∀ p,p∈args→∀ i,Xn p = some i→qq T1 i≠none→qq T2 i = qq T1 i)→args.all (Yt T1) = true→args.all (Yt T2) = true∧qao T2 args = qao T1 args
 | [],_,_=>⟨rfl,rfl⟩
 | p :: l,hg,h=>by
  simp only [XQ,qT] at h;obtain ⟨a1,a2⟩:=qyr (hg p (QY ..)) h.1;obtain ⟨b1,b2⟩:=qnc l (fun q hq=>hg q (kU _ hq)) h.2;unfold qao at b2 ⊢;exact ⟨by simp [a1,b1],by simp only [freeze.freezeL,a2,b2]⟩
theorem qul {F:zn} {o:Op} {e:qr} {d:D} {T1 T2:qi} (hk:Je X o = .r) (h:qL X F true o e T1 = some (d,H'))
  (hg:∀ x,x∈o.operands.toList→∀ p i,qQ X e x = some p→Xn p = some i→qq T1 i≠none→qq T2 i = qq T1 i):H' = T1∧qL X F true o e T2 = some (d,T2):=by
 cases o with
 | load t x =>
  simp only [qL,zk] at h ⊢;split at h
  ·rename_i p hp;obtain ⟨h1,rfl⟩:=Q4 h;refine ⟨rfl,?_⟩
   have hl:ldD X.P T2 t p = some d:=by
    unfold ldD at h1 ⊢;split at h1
    ·rename_i cs hq hm;rw [qlE (hg x (by simp [Op.operands]) p · hp) hm];simp only [hq];exact h1
    ·rename_i x' l hq hm;rw [qlE (hg x (by simp [Op.operands]) p · hp) hm];simp only [hq];exact h1
    ·cases h1
   rw [hl];rfl
  ·cases h
 | convert s t x =>
  simp only [qL] at h ⊢;split at h
  ·rename_i b u hx hu;split at h
   ·injection h with h;injection h with h1 h2;subst h1;subst h2;exact ⟨rfl,rfl⟩
   ·cases h
  ·rename_i a hx _;have hgx:∀ i,Xn a = some i→qq T1 i≠none→qq T2 i = qq T1 i:=fun i=>hg x (by simp [Op.operands]) a i hx;unfold qb4 at h ⊢;split at h
   ·rename_i k k' n h1 h2;injection h with h;injection h with h3 h4;subst h3;subst h4;exact ⟨rfl,rfl⟩
   ·rename_i b h1 h2;injection h with h;injection h with h3 h4;subst h3;subst h4;exact ⟨rfl,rfl⟩
   ·injection h with h;injection h with h3 h4;subst h3;subst h4;exact ⟨rfl,rfl⟩
   ·exfalso
    simp_all
   ·rename_i e' _ h1 h2;split at h
    ·rename_i cs n he hsl
     obtain ⟨h3,rfl⟩:((kE cs).map fun s=>D.str s) = some d∧T1 = H':=by
      cases hb:kE cs with
      | none=>simp [hb] at h
      | some s =>
       simp only [hb,jF,qu,qN] at h;exact ⟨by simp [h.1],h.2⟩
     refine ⟨rfl,?_⟩;rw [qqe hgx hsl];simp only [he];cases hb:kE cs with
     | none=>simp [hb] at h3
     | some s=>simpa [hb] using h3
    ·cases h
   ·rename_i i st off len k h1 _ h2;split at h
    ·rename_i ds he hd;have e1:=hgx i rfl (by rw [hd];simp);split at h
     ·rename_i hc;injection h with h;injection h with h3 h4;subst h3;subst h4;refine ⟨rfl,?_⟩;rw [e1,hd];simp only [he,hc,and_self,if_true]
     ·cases h
    ·cases h
   ·cases h
  ·cases h
 | call c =>
  simp only [Je] at hk;split at hk <;> first | (cases hk;done) | skip
  ·rename_i f hc;split at hk
   ·cases hk
   ·rename_i hb;split at hk
    ·rename_i kK;split at hk
     ·rename_i Yk;have hp:(X.pureF f && !X.byRef f) = true:=(by simp [kK,hb]);have Vd:(X.perm f && !X.pureF f && !X.byRef f) = false:=by simp [kK]
      have hw:∀ T,qL X F true (.call c) e T = zk X F (.call c) e T:=fun T=>by
       simp only [qL,VS,hc];cases X.dynV <;> rfl
      rw [hw] at h;rw [hw];simp only [zk,hc] at h ⊢;cases ha:vz X e c.args.toList with
      | none=>simp [ha] at h
      | some args =>
       simp only [ha,qQ,Z2] at h ⊢;rw [qgu Vd (by simp [hb])] at h ⊢;obtain ⟨h4,h3,h1⟩:=qe8 hp h;simp only at h3 h4 h1;refine ⟨h4,?_⟩;unfold QX;rw [if_pos hp];rcases h1 with ⟨h1,h2⟩ | ⟨h1,hpe2,hfl,hv,args',kC,h2⟩
       ·rw [if_pos h1,h2];simp only [h3,if_true]
       ·obtain ⟨g1,g2⟩:=qnc args (fun p Vd i hi qt=>by
         obtain ⟨x,hx,hxp⟩:=qls ha p Vd
         exact hg x (by
          simp only [Op.operands,Call.operands,Array.toList_append,qbH];exact .inr hx) p i hxp hi qt) hfl
        rw [if_neg h1];simp only [hpe2,g1,Bool.and_self,if_true,g2,kC,h2,h3,hv]
     ·cases hk
    ·split at hk <;> cases hk
  ·split at hk <;> cases hk
 | _=>simp [Je] at hk
theorem qun {F:zn} {o:Op} {e:qr} {d:D} (hk:Je X o = .e) (h:qL X F true o e H = some (d,H')):∃ N,H' = H ++ N:=by
 cases o with
 | alloc t =>
  simp only [qL,zk] at h;split at h
  ·injection h with h;injection h with h1 h2;exact ⟨_,h2.symm⟩
  ·cases h
 | box t x =>
  simp only [qL,zk] at h;split at h
  ·split at h
   ·injection h with h;injection h with h1 h2;exact ⟨_,h2.symm⟩
   ·cases h
  ·cases h
 | makeSlice t x y =>
  simp only [qL,zk] at h;split at h
  ·unfold qdW at h;split at h
   ·split at h
    ·simp only [Option.bind_eq_some_iff] at h;obtain ⟨z,_,h⟩:=h;split at h
     ·injection h with h;injection h with h1 h2;exact ⟨_,h2.symm⟩
     ·cases h
    ·cases h
   ·cases h
  ·cases h
 | call c =>
  simp only [Je] at hk;split at hk <;> first | (cases hk;done) | skip
  rotate_left
  ·split at hk <;> cases hk
  rename_i f hc;split at hk
  ·cases hk
  ·rename_i hnr
   have Vd:(X.perm f && !X.pureF f && !X.byRef f) = false:=by
    split at hk
    ·split at hk <;> cases hk
    ·split at hk
     ·cases hk
     ·rename_i VC;simp [VC]
   have hw:qL X F true (.call c) e H = zk X F (.call c) e H:=by
    simp only [qL,VS,hc];cases X.dynV <;> rfl
   rw [hw] at h;simp only [zk,hc] at h;cases ha:vz X e c.args.toList with
   | none=>simp [ha] at h
   | some args =>
    simp only [ha,qQ] at h;rw [qgu Vd (by simp [hnr])] at h;replace h:=qgt h;unfold KC at h;rw [if_neg hnr] at h;split at h
    ·split at h
     ·cases h
     ·injection h with h;injection h with h1 h2;exact ⟨_,h2.symm⟩
    ·split at h
     ·cases h
     ·split at h
      ·cases h
      ·split at h
       ·injection h with h;injection h with h1 h2;exact ⟨_,h2.symm⟩
       ·cases h
 | _=>simp [Je] at hk
theorem qnr {F:zn} {o:Op} {e:qr}:qL X F false o e H = zk X F o e H:=by cases o <;> rfl
theorem qhX {bw:Bool} {F:zn} {o:Op}:(Q1 X bw o = Je X o∧(∀ (e:qr) (H:qi),qL X F bw o e H = qL X F true o e H))∨(bw = false∧(Q1 X bw o = .e∧((∃ t n ps,o = .buildSlice t n ps)∨∃ s d x,o = .convert s d x))∨(Q1 X bw o = .m)):=by
 cases bw with
 | true=>exact .inl ⟨rfl,fun _ _=>rfl⟩
 | false =>
  cases o with
  | buildSlice t n ps=>exact .inr (.inl ⟨rfl,rfl,.inl ⟨t,n,ps,rfl⟩⟩)
  | convert s d x=>exact .inr (.inl ⟨rfl,rfl,.inr ⟨s,d,x,rfl⟩⟩)
  | call c =>
   cases hc:c.callee with
   | value g =>
    cases g with
    | tmp t=>exact .inr (.inr (by simp only [Q1,hc]))
    | _=>exact .inl ⟨by simp only [Q1,hc],fun e H=>by simp only [qL,VS,hc];cases X.dynV <;> rfl⟩
   | builtin b=>exact .inl ⟨by simp only [Q1,hc],fun e H=>by simp only [qL,VS,hc];cases X.dynV <;> rfl⟩
   | invoke r m=>exact .inl ⟨by simp only [Q1,hc],fun e H=>by simp only [qL,VS,hc];cases X.dynV <;> rfl⟩
  | _=>exact .inl ⟨rfl,fun _ _=>rfl⟩
theorem qlZ {bw:Bool} {F:zn} {o:Op} {e:qr} {d:D} (hk:Q1 X bw o = .v) (h:qL X F bw o e H = some (d,H')):H' = H∧∀ H2,qL X F bw o e H2 = some (d,H2):=by
 rcases qhX (X:=X) (bw:=bw) (F:=F) (o:=o) with ⟨h1,h2⟩ | ⟨_,h1,_⟩ | h1
 ·rw [h1] at hk;rw [h2] at h;simp only [h2];exact quk hk h
 ·rw [h1] at hk;cases hk
 ·rw [h1] at hk;cases hk
theorem qma {bw:Bool} {F:zn} {o:Op} {e:qr} {d:D} {T1 T2:qi} (hk:Q1 X bw o = .r) (h:qL X F bw o e T1 = some (d,H'))
  (hg:∀ x,x∈o.operands.toList→∀ p i,qQ X e x = some p→Xn p = some i→qq T1 i≠none→qq T2 i = qq T1 i):H' = T1∧qL X F bw o e T2 = some (d,T2):=by
 rcases qhX (X:=X) (bw:=bw) (F:=F) (o:=o) with ⟨h1,h2⟩ | ⟨_,h1,_⟩ | h1
 ·rw [h1] at hk;rw [h2] at h;rw [h2];exact qul hk h hg
 ·rw [h1] at hk;cases hk
 ·rw [h1] at hk;cases hk
theorem qzn {P:Program} {s t:TypeId} {x d:D} (h:qb4 P H s t x = some (d,H')):∃ N,H' = H ++ N:=by
 unfold qb4 at h;split at h
 ·injection h with h;injection h with h1 h2;exact ⟨[],by simp [h2]⟩
 ·injection h with h;injection h with h1 h2;exact ⟨[],by simp [h2]⟩
 ·injection h with h;injection h with h1 h2;exact ⟨[],by simp [h2]⟩
 ·split at h
  ·injection h with h;injection h with h1 h2;exact ⟨_,h2.symm⟩
  ·cases h
 ·split at h
  ·rename_i cs n he hsl;cases hb:kE cs with
   | none=>simp [hb] at h
   | some s =>
    simp only [hb,jF,qu,qN] at h;exact ⟨[],by simp [h.2]⟩
  ·cases h
 ·split at h
  ·split at h
   ·injection h with h;injection h with h1 h2;exact ⟨[],by simp [h2]⟩
   ·cases h
  ·cases h
 ·cases h
theorem qtT {P:Program} {t:TypeId} {n:Nat} {ps:List (Nat × D)} {d:D} (h:qau P H t n ps = some (d,H')):∃ N,H' = H ++ N:=by
 unfold qau at h;split at h
 ·split at h
  ·split at h
   ·simp only [Option.bind_eq_some_iff] at h;obtain ⟨cs,_,h⟩:=h;split at h
    ·injection h with h;injection h with h1 h2;exact ⟨_,h2.symm⟩
    ·cases h
   ·cases h
  ·cases h
 ·cases h
theorem qum {bw:Bool} {F:zn} {o:Op} {e:qr} {d:D} (hk:Q1 X bw o = .e) (h:qL X F bw o e H = some (d,H')):∃ N,H' = H ++ N:=by
 rcases qhX (X:=X) (bw:=bw) (F:=F) (o:=o) with ⟨h1,h2⟩ | ⟨rfl,h1,⟨t,n,ps,rfl⟩ | ⟨s,t,x,rfl⟩⟩ | h1
 ·rw [h1] at hk;rw [h2] at h;exact qun hk h
 ·rw [qnr] at h;simp only [zk] at h;split at h
  ·exact qtT h
  ·cases h
 ·rw [qnr] at h;simp only [zk] at h;split at h
  ·exact qzn h
  ·cases h
 ·rw [h1] at hk;cases hk
end
end Go.Ev
namespace Go.Ev
section
variable {X:Cx} {bw:Option Tmp→Bool} {L:Qj} {al:Option Nat} {ok ok':Nat→Prop} {w w':World} {ι:qF} {H H':qi}
theorem qjo {ops:Array Oper} {e:qr} {a:Act} {o:Oper} {b:Bool} (he:∀ k want t,o.guard = some (k,want)→(ops[k]?).bind (·.dst) = some t→∀ d,qf e t = some d→t < a.tmps.size∧Rep ok w ι H d (a.tmps.getD t undef))
  (h:jy ops e o.guard = some b):Region.wanted o (yielded ops a.tmps) = b:=by
 unfold jy at h;unfold Region.wanted;split at h
 ·rename_i hg;injection h with h;rw [hg];exact h
 ·rename_i j want hg;rw [hg];simp only;unfold yielded;cases hd:(ops[j]?).bind (·.dst) with
  | none =>
   simp only [hd,qu] at h;subst h;simp
  | some t =>
   simp only [hd] at h;simp only [Y3];split at h
   ·rename_i v hl;injection h with h;obtain ⟨qg,hr⟩:=he j want t hg hd _ hl;rw [jp,Jx qg] at hr;rw [Jx qg];generalize a.tmps[t] = x at hr;cases hr;simp only;rw [← h];cases v <;> cases want <;> rfl
   ·rename_i hl;injection h with h;subst h;obtain ⟨qg,hr⟩:=he j want t hg hd _ hl;rw [jp,Jx qg] at hr;rw [Jx qg];generalize a.tmps[t] = x at hr;cases hr;simp
   ·cases h
theorem qbZ (a:Act) (dst:Option Tmp) (v:Value):(a.put dst v).tmps.size = a.tmps.size∧(a.put dst v).defers = a.defers:=by
 cases dst <;> simp [Act.put]
def Out (X:Cx) (n:Nat) (ok:Nat→Prop) (w:World) (ι:qF) (H:qi) (a:Act) (e':qr) (H':qi) (a':Act) (w':World):Prop :=
 a'.tmps.size = a.tmps.size∧a'.defers = a.defers∧∃ ι' ok',Sim X ok' w' ι' H'∧EnvRep ok' w' ι' H' e' a'.tmps∧Evol n ok w ι H ok' w' ι' H'
theorem qeR:Rep ok w ι H (.tup []) undef:=.tup rfl (by simp)
theorem qfD {e:qr} {dst:Option Tmp} {d:D} {t:Nat}:qf (vj e dst d) t = if dst = some t then some d else qf e t:=by
 cases dst with
 | none=>simp [vj]
 | some s =>
  simp only [vj,qf,qu]
def YB (l:List Nat) (e:qr):qr:=kf l e
theorem qfC:∀ {l:List Nat} {e:qr} {t:Nat},t∈l→qf (YB l e) t = qf e t
 | k :: l,e,t,h=>by
  simp only [YB,kf];by_cases KY:k = t
  ·subst KY;cases hk:qf e k with
   | some d=>simp [qf]
   | none =>
    simp only;by_cases hm:k∈l
    ·exact (qfC hm).trans hk
    ·have:∀ {l:List Nat} {t:Nat},t ∉ l→qf (kf l e) t = none:=by
      intro l
      induction l with
      | nil=>intro t _;rfl
      | cons x l ih =>
       intro t ht;simp only [qbG,not_or] at ht;simp only [kf];split
       ·simp only [qf,Ne.symm ht.1,if_false];exact ih ht.2
       ·exact ih ht.2
     exact this hm
  ·have hm:t∈l:=by
    rcases List.mem_cons.1 h with h | h
    ·exact absurd h.symm KY
    ·exact h
   split
   ·simp only [qf,KY,if_false];exact qfC hm
   ·exact qfC hm
theorem qfB:∀ {l:List Nat} {e:qr} {t:Nat} {d:D},qf (YB l e) t = some d→t∈l∧qf e t = some d
 | [],e,t,d,h=>by simp [YB,kf,qf] at h
 | k :: l,e,t,d,h=>by
  simp only [YB,kf] at h;split at h
  ·rename_i x hk;simp only [qf] at h;split at h
   ·rename_i KY;subst KY;exact ⟨QY ..,by rw [hk];exact h⟩
   ·obtain ⟨h1,h2⟩:=qfB h;exact ⟨kU _ h1,h2⟩
  ·obtain ⟨h1,h2⟩:=qfB h;exact ⟨kU _ h1,h2⟩
structure DrawFacts (X:Cx) (bw:Option Tmp→Bool) (L:Qj) (al:Option Nat) (ops:Array Oper):Prop where
 edge:∀ (j:Nat) (o:Oper),ops[j]? = some o→∀ e,e∈o.after.toList→Region.binds .any e = true→e.on < j
 ord:∀ (i j:Nat) (x y:Oper),ops[i]? = some x→ops[j]? = some y→i < j→JN X bw L al ops i x j y = true→((Region.before ops).getD j 0).testBit i = true
 alo:∀ j,al = some j→∃ o ty t,ops[j]? = some o∧o.op = .alloc ty∧o.dst = some t∧o.guard = none ∧
  ∀ (k:Nat) (y:Oper),ops[k]? = some y→k≠j→t∈Z7 ops y→j < k∧∀ (i:Nat) (x:Oper),ops[i]? = some x→i < j→zK X (bw x.dst) x.op = true→((Region.before ops).getD k 0).testBit i = true
theorem qnC {ops:Array Oper} (h:qgl X bw L al ops = true):DrawFacts X bw L al ops:=by
 unfold qgl at h;simp only [qT] at h;obtain ⟨kD,h⟩:=h;have vg:=List.all_eq_true.1 h
 have VE:∀ (j:Nat) (o:Oper),ops[j]? = some o→(o,j)∈ops.toList.zipIdx:=by
  intro j o hj;rw [List.mem_zipIdx_iff_getElem?];simpa using hj
 constructor
 ·intro j o hj e he hb;have:=vg _ (VE j o hj);simp only [qT] at this;have h1:=Array.all_eq_true'.1 this.1 e (by simpa using he);simpa [hb] using h1
 ·intro i j x y hi hj jj hc;have:=vg _ (VE j y hj);simp only [qT] at this;have h1:=List.all_eq_true.1 this.2 _ (VE i x hi);simpa [jj,hc] using h1
 ·intro j hj;subst hj;simp only [qoF] at kD;cases ho:ops[j]? with
  | none=>simp [ho] at kD
  | some o =>
   simp only [ho] at kD;split at kD
   ·rename_i ty t h1 h2 h3;refine ⟨o,ty,t,rfl,h1,h2,h3,fun k y hk hkj ht=>?_⟩;have:=List.all_eq_true.1 kD _ (VE k y hk);have hc:(Z7 ops y).contains t = true:=(by simpa using ht);simp only [hc,beq_iff_eq,hkj,Bool.not_true,Bool.or_false,qT,decide_eq_true_eq,qbK,false_or] at this;refine ⟨this.1,fun i x hi jj hk=>?_⟩;have h4:=List.all_eq_true.1 this.2 _ (VE i x hi);simpa [jj,hk] using h4
   ·cases kD
theorem qzK {ops:Array Oper} {i j:Nat} {x y:Oper} (h:JN X bw L al ops i x j y = true):JN X bw L al ops j y i x = true:=by
 unfold JN at *;rw [Nat.max_comm j i];simp only [qbK,qT] at *;rcases h with (((h | h) | h) | h) | h
 ·exact .inl (.inl (.inl (.inr h)))
 ·exact .inl (.inl (.inl (.inl h)))
 ·exact .inl (.inl (.inr ⟨⟨h.1.2,h.1.1⟩,h.2⟩))
 ·exact .inr ⟨⟨h.1.2,h.1.1⟩,h.2⟩
 ·exact .inl (.inr ⟨⟨h.1.2,h.1.1⟩,h.2⟩)
theorem qgq {ops:Array Oper} {i j:Nat} {x y:Oper} (hx:zK X (bw x.dst) x.op = true) (hy:zK X (bw y.dst) y.op = true) (kD:al≠some (max i j)):JN X bw L al ops i x j y = true:=by
 unfold JN;have:(al == some (max i j)) = false:=by simpa using kD
 simp only [hx,hy,this,Bool.not_false,Bool.and_true,Bool.or_true,Bool.true_or]
theorem qqi (hs:Sim X ok w ι H) (hw:qax w w') (zh:w.heap.size≤w'.heap.size) (zf:∀ c,c < w.heap.size→w'.heap[c]? = w.heap[c]?):Sim X ok w' ι H∧Evol H.length ok w ι H ok w' ι H:=by
 have hev:Evol H.length ok w ι H ok w' ι H :=
  ⟨hw.1,hw.2.1,hw.2.2,zh,fun c hc _=>zf c hc,fun _ h=>h,fun _ h _=>.inl h,⟨qB _,qB _⟩,fun _ _ ds hd=>⟨ds,hd,qB _,fun _=>rfl⟩,
   fun i ds _ s hd hi _=>⟨i,ds,s,hd,hi⟩⟩
 refine ⟨⟨fun c hc=>jP (hs.okS c hc) zh,fun g cs hg=>?_,hs.inj,fun k es he=>?_⟩,hev⟩
 ·have h:=(hs.glob g cs hg).lift (ι:=ι) (H:=H);exact (h.evol hs hev rfl).free rfl _ _
 ·obtain ⟨c,arr2,e2,fr2,h1,h2,h3,h4,h5,h6,h7,h8⟩:=hs.blk k es he;exact ⟨c,arr2,e2,fr2,h1,h2,by rw [zf c (hs.lt he h1)];exact h3,h4,h5,h6,h7,fun j d hj=>(h8 j d hj).evol hs hev (h8 j d hj).closed⟩
theorem qho {ds:List D} {ι2:qF} (hι:∀ k,k < H.length→ι2 k = ι k) {ι1:qF} {H1:qi} {d:D} {v:Value} (h:Rep ok w ι1 H1 d v):ι1 = ι→H1 = H→Rep ok w ι2 (vA H ds) d v:=by
 induction h with
 | bool b=>intros;exact .bool b
 | int k n=>intros;exact .int k n
 | str s=>intros;exact .str s
 | nilp=>intros;exact .nilp
 | nilf=>intros;exact .nilf
 | nili=>intros;exact .nili
 | raw v=>intros;exact .raw v
 | agg hl hc h ih=>intro h1 h2;exact .agg hl hc fun j d hj=>ih j d hj h1 h2
 | tup hl h ih=>intro h1 h2;exact .tup hl fun j d hj=>ih j d hj h1 h2
 | fn hl h ih=>intro h1 h2;exact .fn hl fun j d hj=>ih j d hj h1 h2
 | iface h ih=>intro h1 h2;exact .iface (ih h1 h2)
 | optr a hi hk =>
  intro h1 h2;subst h1;subst h2;refine .optr a (by rw [Vb];omega) fun ds' zp=>?_;rw [qcl hi] at zp;obtain ⟨k1,k2⟩:=hk ds' zp;exact ⟨k1,fun e=>by obtain ⟨b,s,q1,q2⟩:=k2 e;exact ⟨b,s,by rw [hι _ hi];exact q1,q2⟩⟩
 | osl a hi hk qR =>
  intro h1 h2;subst h1;subst h2;refine .osl a (by rw [Vb];omega) (fun ds' zp=>?_) qR;rw [qcl hi] at zp;obtain ⟨k1,k2⟩:=hk ds' zp;exact ⟨k1,fun e=>by obtain ⟨b,s,q1,q2⟩:=k2 e;exact ⟨b,s,by rw [hι _ hi];exact q1,q2⟩⟩
 | vptr a f ha hc hr h ih=>intros;exact .vptr a f ha hc hr h
 | vnil=>intros;exact .vnil
 | vsl a f ha hc hr h qR ih=>intros;exact .vsl a f ha hc hr h qR
theorem qpQ {ds:List D} {b:Nat} {arr:Array Value} {e:TypeId} {fr:Nat × Nat} (hs:Sim X ok w ι H) (hb:w.heap[b]? = some (.cells arr e fr)) (zT:¬ ok b) (hfree:∀ q es s,qq H q = some es→ι q≠some (b,s))
  (qab:ds.length≤arr.size) (kC:fr.1 = fr.2∨arr.size≤fr.1) (Zi:∀ j,j < arr.size→(arr.getD j undef).oneCell' = true) (Jp:∀ d,d∈ds→zR d = true) (hrep:∀ (j:Nat) d,ds[j]? = some d→Rep ok w ι H d (arr.getD j undef)) :
  ∃ ι',Sim X ok w ι' (vA H ds)∧ι' H.length = some (b,arr.size)∧(∀ d v,Rep ok w ι H d v→Rep ok w ι' (vA H ds) d v) ∧
   ∀ (n:Nat) (ok0:Nat→Prop) (w0:World) (ι0:qF) (H0:qi),Evol n ok0 w0 ι0 H0 ok w ι H→w0.heap.size≤b→Evol n ok0 w0 ι0 H0 ok w ι' (vA H ds):=by
 have hι:∀ k,k < H.length→(fun k=>if k = H.length then some (b,arr.size) else ι k) k = ι k:=fun k hk=>by simp [KH hk]
 have split:∀ k es,qq (vA H ds) k = some es→(k = H.length∧es = ds)∨(k < H.length∧qq H k = some es):=by
  intro k es he;by_cases vK:k = H.length
  ·subst vK;rw [Ym] at he;injection he with he;exact .inl ⟨rfl,he.symm⟩
  ·have qg:k < H.length:=by
    have:=ZH he;rw [Vb] at this;omega
   rw [qcl qg] at he;exact .inr ⟨qg,he⟩
 refine ⟨fun k=>if k = H.length then some (b,arr.size) else ι k,⟨hs.okS,hs.glob,?_,?_⟩,by simp,fun d v h=>qho hι h rfl rfl,fun n ok0 w0 ι0 H0 he Kw=>⟨he.os,he.tape,he.output,he.size,he.frame,he.okU,he.okN,⟨he.nle.1,by have:=he.nle.2;rw [Vb];omega⟩,fun i hi ds' zp=>?_,fun i ds' c s hd hi hc=>?_⟩⟩
 ·intro p q es fs c s s' hp hq hιp hιq;rcases split p es hp with ⟨rfl,_⟩ | ⟨Kt,hp2⟩ <;> rcases split q fs hq with ⟨rfl,_⟩ | ⟨hq1,ZC⟩
  ·rfl
  ·simp only [if_true,KH hq1,if_false,qu,qN] at hιp hιq;rw [← hιp.1] at hιq;exact absurd hιq (hfree q fs s' ZC)
  ·simp only [if_true,KH Kt,if_false,qu,qN] at hιp hιq;rw [← hιq.1] at hιp;exact absurd hιp (hfree p es s hp2)
  ·simp only [KH Kt,KH hq1,if_false] at hιp hιq;exact hs.inj p q es fs c s s' hp2 ZC hιp hιq
 ·intro k es he;rcases split k es he with ⟨rfl,rfl⟩ | ⟨hk,he⟩
  ·exact ⟨b,arr,e,fr,by simp,zT,hb,qab,kC,Zi,Jp,fun j d hj=>qho hι (hrep j d hj) rfl rfl⟩
  ·obtain ⟨c,arr2,e2,fr2,h1,h2,h3,h4,h5,h6,h7,h8⟩:=hs.blk k es he;exact ⟨c,arr2,e2,fr2,by simp [KH hk,h1],h2,h3,h4,h5,h6,h7,fun j d hj=>qho hι (h8 j d hj) rfl rfl⟩
 ·have qg:i < H.length:=jP hi he.nle.2;rw [qcl qg] at zp;obtain ⟨es,k1,k2,k3⟩:=he.heap i hi ds' zp;exact ⟨es,k1,k2,fun e=>by simp only [KH qg,if_false];exact k3 e⟩
 ·rcases split i ds' hd with ⟨rfl,_⟩ | ⟨h1,h2⟩
  ·simp only [if_true,qu,qN] at hi;omega
  ·simp only [KH h1,if_false] at hi;exact he.own i ds' c s h2 hi hc
theorem q0S {t:TypeId} {cs:List D} (h:(VZ X.P t).bind cellsOf = some cs) (w:World):∃ (arr:Array Value),(Instr.alloc t true (.tuple #[])).run X.P w = .ok (.pointer (some ⟨w.heap.size,0,none⟩)) (w.alloc (.cells arr t)) ∧
  cs.length≤arr.size∧(∀ j,j < arr.size→(arr.getD j undef).oneCell' = true)∧(∀ d,d∈cs→zR d = true)∧∀ (ok:Nat→Prop) (w:World) (ι:qF) (H:qi) (j:Nat) d,cs[j]? = some d→Rep ok w ι H d (arr.getD j undef):=by
 cases hz:VZ X.P t with
 | none=>simp [hz] at h
 | some z =>
  simp only [hz,Y3] at h;obtain ⟨zv,z1,z2⟩:=qdl hz;have c0:=fun ok w ι H=>Yv (z2 ok w ι H) h;obtain ⟨c1,c2,c3⟩:=c0 (fun _=>True) w zg [];refine ⟨zv.cells,by simp [Instr.alloc,z1,newVar,newRow],by omega,fun j hj=>?_,c2,fun ok w ι H=>(c0 ok w ι H).2.2⟩;have kL:cs[j]? = some (cs[j]'(by omega)):=zi (by omega);exact (c3 j _ kL).oneCell (c2 _ (mem_of_get? kL))
theorem qhJ {p:D} {b:Nat} (hb:Xn p = some b):∀ {l:List (Option D)},some p∈l→b∈kJ l
 | [],h=>by cases h
 | some d :: l,h=>by
  simp only [kJ,qbH];rcases List.mem_cons.1 h with h | h
  ·injection h with h;subst h;exact .inl (by simp [hb])
  ·exact .inr (qhJ hb h)
 | none :: l,h=>by
  rcases List.mem_cons.1 h with h | h
  ·cases h
  ·simp only [kJ];exact qhJ hb h
theorem qnB {F:zn} (hF:JS X F) {nt:Nat} {ops:Array Oper} {Q:Exit→Act→World→Prop} (hD:DrawFacts X bw L al ops) {e e':qr} {a:Act} {E:Nat→qr} {T:Nat→qi} (hE0:E 0 = e) (hT0:T 0 = H) (VM:E ops.toList.length = e') (hTn:T ops.toList.length = H')
  (hstep:∀ k o,ops.toList[k]? = some o→qaw X F nt bw ops o (E k) (T k) (E (k+1)) (T (k+1))) (hTr:q1d X ops L E T)
  (hs:Sim X ok w ι H) (he:EnvRep ok w ι H e a.tmps) (Vf:nt≤a.tmps.size) (hQ:∀ a' w',Out X H.length ok w ι H a e' H' a' w'→Q .normal a' w') :
  wpAny X.P .any ops Q ops.size (Array.replicate ops.size false) a w:=by
 have hstep':∀ (k:Nat) (o:Oper),ops[k]? = some o→qaw X F nt bw ops o (E k) (T k) (E (k+1)) (T (k+1)):=fun k o hk=>hstep k o (by simpa using hk);have hEn':E ops.size = e':=by simpa using VM
 have hTn':T ops.size = H':=by simpa using hTn
 have hslot:∀ (t a b:Nat),a≤b→b≤ops.size→(∀ i o,ops[i]? = some o→o.dst = some t→¬ (a≤i∧i < b))→qf (E b) t = qf (E a) t:=by
  intro t a b hab
  induction b with
  | zero=>intro _ _;have:a = 0:=by omega
          subst this;rfl
  | succ b ih =>
   intro hb zT;by_cases hab':a = b+1
   ·rw [hab']
   ·have qg:b < ops.size:=(by omega);have ho:=Jx qg;have hih:=ih (by omega) (by omega) (fun i o hi hd h=>zT i o hi hd ⟨h.1,by omega⟩);rw [← hih];obtain ⟨_,h | h⟩:=hstep' b _ ho
    ·obtain ⟨_,d,_,h3⟩:=h;rw [h3,qfD,if_neg (fun hd=>zT b _ ho hd ⟨by omega,by omega⟩)]
    ·obtain ⟨_,_,h3⟩:=h;rw [h3,qfD,if_neg (fun hd=>zT b _ ho hd ⟨by omega,by omega⟩)]
 have hnoK:∀ (k:Nat) (o:Oper),ops[k]? = some o→zK X (bw o.dst) o.op = false→T (k+1) = T k:=by
  intro k o ho hk;obtain ⟨_,h | h⟩:=hstep' k o ho
  ·obtain ⟨_,d,h2,_⟩:=h;unfold zK at hk;cases QP:Q1 X (bw o.dst) o.op with
   | v=>exact (qlZ QP h2).1
   | r=>exact (qma (T2:=T k) QP h2 (fun _ _ _ _ _ _ _=>rfl)).1
   | e=>simp [QP] at hk
   | m=>simp [QP] at hk
  ·exact h.2.1
 have VE:∀ (a b:Nat),a≤b→b≤ops.size→(∀ i o,ops[i]? = some o→zK X (bw o.dst) o.op = true→¬ (a≤i∧i < b))→T b = T a:=by
  intro a b hab
  induction b with
  | zero=>intro _ _;have:a = 0:=by omega
          subst this;rfl
  | succ b ih =>
   intro hb zT;by_cases hab':a = b+1
   ·rw [hab']
   ·have qg:b < ops.size:=(by omega);have ho:=Jx qg;rw [← ih (by omega) (by omega) (fun i o hi hd h=>zT i o hi hd ⟨h.1,by omega⟩)];refine hnoK b _ ho ?_;cases hk:zK X (bw ops[b].dst) ops[b].op with
    | false=>rfl
    | true=>exact absurd ⟨by omega,by omega⟩ (zT b _ ho hk)
 have hread:∀ (q a b:Nat),a≤b→b≤ops.size→q < (T a).length →
   (∀ i o,ops[i]? = some o→Q1 X (bw o.dst) o.op = .m→jy ops (E i) o.guard = some true→a≤i→i < b→(T i).length≤(T (i+1)).length∧qq (T (i+1)) q = qq (T i) q)→qq (T b) q = qq (T a) q∧q < (T b).length:=by
  intro q a b hab
  induction b with
  | zero=>intro _ hq _;have:a = 0:=by omega
          subst this;exact ⟨rfl,hq⟩
  | succ b ih =>
   intro hb hq zT;by_cases hab':a = b+1
   ·subst hab';exact ⟨rfl,hq⟩
   ·have qg:b < ops.size:=(by omega);have ho:=Jx qg;obtain ⟨h1,h2⟩:=ih (by omega) (by omega) hq (fun i o hi hd hg h3 h4=>zT i o hi hd hg h3 (by omega));cases QP:Q1 X (bw ops[b].dst) ops[b].op with
    | v=>rw [hnoK b _ ho (by simp only [zK,QP])];exact ⟨h1,h2⟩
    | r=>rw [hnoK b _ ho (by simp only [zK,QP])];exact ⟨h1,h2⟩
    | m =>
     obtain ⟨_,h | h⟩:=hstep' b _ ho
     ·obtain ⟨k1,k2⟩:=zT b _ ho QP h.1 (by omega) (by omega);exact ⟨k2.trans h1,by omega⟩
     ·rw [h.2.1];exact ⟨h1,h2⟩
    | e =>
     obtain ⟨_,h | h⟩:=hstep' b _ ho
     ·obtain ⟨_,d,h3,_⟩:=h;obtain ⟨M,hM⟩:=qum QP h3;rw [hM,qcm h2];exact ⟨h1,by simp;omega⟩
     ·rw [h.2.1];exact ⟨h1,h2⟩
 have halK:∀ i,al = some i→∃ o,ops[i]? = some o∧Q1 X (bw o.dst) o.op = .e:=by
  intro i zF;obtain ⟨o,ty,t,g1,g2,-,-,-⟩:=hD.alo i zF;refine ⟨o,g1,?_⟩;rw [g2];cases bw o.dst <;> rfl
 let Pend:Array Bool→Act→World→Nat→qF→(Nat→Prop)→Prop:=fun listed a1 w1 m ι1 ok1=>∃ (i:Nat) (o:Oper) (t:Nat) (b:Nat) (arr:Array Value) (ty:TypeId) (fr:Nat × Nat) (cs:List D),al = some i∧ops[i]? = some o∧o.dst = some t∧m≤i ∧
  T (i+1) = vA (T i) cs∧E (i+1) = vj (E i) (some t) (.optr (T i).length cs.length 0)∧t < a1.tmps.size∧a1.tmps.getD t undef = .pointer (some ⟨b,0,none⟩)∧w1.heap[b]? = some (.cells arr ty fr)∧¬ ok1 b∧(∀ q es s,qq (T m) q = some es→ι1 q≠some (b,s))∧w.heap.size≤b ∧
  cs.length≤arr.size∧(fr.1 = fr.2∨arr.size≤fr.1)∧(∀ j,j < arr.size→(arr.getD j undef).oneCell' = true)∧(∀ d,d∈cs→zR d = true)∧(∀ (ok:Nat→Prop) (w:World) (ι:qF) (H:qi) (j:Nat) d,cs[j]? = some d→Rep ok w ι H d (arr.getD j undef)) ∧
  ∀ k y,ops[k]? = some y→k≠i→t∈Z7 ops y→listed.getD k false = false
 have main:∀ (fuel:Nat) (listed:Array Bool) (a1:Act) (w1:World) (m:Nat) (ι1:qF) (ok1:Nat→Prop) (pend:Bool),listed.size = ops.size →
   ((List.range ops.size).filter fun i=>!listed.getD i false).length≤fuel →
   (∀ i o,ops[i]? = some o→listed.getD i false = true→qcX (fun k=>listed.getD k false = true) o) →
   m≤ops.size→(∀ i o,ops[i]? = some o→zK X (bw o.dst) o.op = true→al≠some i→(listed.getD i false = true↔i < m))→(∀ i,al = some i→(listed.getD i false = true↔(i < m∨pend = true)))→(pend = true→Pend listed a1 w1 m ι1 ok1) →
   Sim X ok1 w1 ι1 (T m)→Evol H.length ok w ι H ok1 w1 ι1 (T m)→a1.tmps.size = a.tmps.size→a1.defers = a.defers →
   (∀ t k,k≤ops.size→(∀ i o,ops[i]? = some o→o.dst = some t→(listed.getD i false = true↔i < k))→(pend = true→∀ i o,al = some i→ops[i]? = some o→o.dst≠some t)→∀ d,qf (E k) t = some d→t < a1.tmps.size∧Rep ok1 w1 ι1 (T m) d (a1.tmps.getD t undef)) →
   wpAny X.P .any ops Q fuel listed a1 w1:=by
  have absorb:∀ (listed:Array Bool) (a1:Act) (w1:World) (m:Nat) (ι1:qF) (ok1:Nat→Prop) (pend:Bool),
   m≤ops.size→(∀ i o,ops[i]? = some o→zK X (bw o.dst) o.op = true→al≠some i→(listed.getD i false = true↔i < m))→(∀ i,al = some i→(listed.getD i false = true↔(i < m∨pend = true)))→(pend = true→Pend listed a1 w1 m ι1 ok1) →
   Sim X ok1 w1 ι1 (T m)→Evol H.length ok w ι H ok1 w1 ι1 (T m)→a1.tmps.size = a.tmps.size→a1.defers = a.defers →
   (∀ t k,k≤ops.size→(∀ i o,ops[i]? = some o→o.dst = some t→(listed.getD i false = true↔i < k))→(pend = true→∀ i o,al = some i→ops[i]? = some o→o.dst≠some t)→∀ d,qf (E k) t = some d→t < a1.tmps.size∧Rep ok1 w1 ι1 (T m) d (a1.tmps.getD t undef)) →
   (∀ i o k,al = some k→ops[i]? = some o→zK X (bw o.dst) o.op = true→i < k→listed.getD i false = true) →
   ∃ (m2:Nat) (ι2:qF),m2≤ops.size∧(∀ i o,ops[i]? = some o→zK X (bw o.dst) o.op = true→(listed.getD i false = true↔i < m2))∧Sim X ok1 w1 ι2 (T m2)∧Evol H.length ok w ι H ok1 w1 ι2 (T m2) ∧
    (∀ t k,k≤ops.size→(∀ i o,ops[i]? = some o→o.dst = some t→(listed.getD i false = true↔i < k))→∀ d,qf (E k) t = some d→t < a1.tmps.size∧Rep ok1 w1 ι2 (T m2) d (a1.tmps.getD t undef)):=by
   intro listed a1 w1 m ι1 ok1 pend hm hK hJ hP hsim hevol h1 h2 Ks vg;cases pend with
   | false =>
    refine ⟨m,ι1,hm,fun i o ho hk=>?_,hsim,hevol,fun t k hk Vp d hd=>Ks t k hk Vp (fun h=>by cases h) d hd⟩;by_cases zF:al = some i
    ·have:=hJ i zF;simpa using this
    ·exact hK i o ho hk zF
   | true =>
    obtain ⟨j0,o,t0,b,arr,ty,fr,cs,p1,p2,p3,p4,p5,p6,p7,p8,p9,p10,p11,p12,p13,p14,p15,p16,p17,p18⟩:=hP rfl;have hj0:=(Array.getElem?_eq_some_iff.1 p2).1
    have hTm:T j0 = T m:=VE m j0 p4 (by omega) fun i x hx hk hi=>by
     have qt:al≠some i:=(by rw [p1];intro h;injection h with h;omega);have:=(hK i x hx hk qt).1 (vg i x j0 p1 hx hk hi.2);omega
    obtain ⟨ι2,s1,s2,s3,s4⟩:=qpQ (ds:=cs) hsim p9 p10 p11 p13 p14 p15 p16 (fun j d hj=>p17 _ _ _ _ j d hj);have Vq:T (j0+1) = vA (T m) cs:=(by rw [p5,hTm]);rw [hTm] at p6;refine ⟨j0+1,ι2,by omega,fun i x hx hk=>?_,by rw [Vq];exact s1,by rw [Vq];exact s4 _ _ _ _ _ hevol p12,fun t k hk Vp d hd=>?_⟩
    ·by_cases zF:al = some i
     ·have:i = j0:=(by rw [p1] at zF;injection zF with h;exact h.symm);subst this;exact ⟨fun _=>Nat.lt_succ_self _,fun _=>(hJ i zF).2 (.inr rfl)⟩
     ·have qt:i≠j0:=fun h=>zF (by rw [h];exact p1);have h3:=hK i x hx hk zF;exact ⟨fun hl=>by have:=h3.1 hl;omega,fun qg=>vg i x j0 p1 hx hk (by omega)⟩
    ·rw [Vq];by_cases ht:t0 = t
     ·subst ht;have XD:j0 < k:=(Vp j0 o p2 p3).1 ((hJ j0 p1).2 (.inr rfl))
      have hl:=hslot t0 (j0+1) k (by omega) hk fun i x hx vM hik=>by
       have:=p18 i x hx (by omega) (by simp [Z7,vM]);rw [(Vp i x hx vM).2 hik.2] at this;cases this
      rw [hl,p6,qfD,if_pos rfl] at hd;injection hd with hd;subst hd;refine ⟨p7,?_⟩;rw [p8];refine .optr _ (by rw [Vb];omega) fun ds Yo=>?_;rw [Ym] at Yo;injection Yo with Yo;subst Yo;exact ⟨qB _,fun _=>⟨_,_,s2,rfl⟩⟩
     ·obtain ⟨q1,q2⟩:=Ks t k hk Vp (fun _ i x zF hx=>by
       have:i = j0:=(by rw [p1] at zF;injection zF with h;exact h.symm);subst this;rw [p2] at hx;injection hx with hx;subst hx;rw [p3];intro h;injection h with h;exact ht h) d hd
      exact ⟨q1,s3 _ _ q2⟩
  have fin:∀ (listed:Array Bool) (a1:Act) (w1:World) (m:Nat) (ι1:qF) (ok1:Nat→Prop),(∀ i,i < ops.size→listed.getD i false = true)→m≤ops.size →
    (∀ i o,ops[i]? = some o→zK X (bw o.dst) o.op = true→(listed.getD i false = true↔i < m)) →
    Sim X ok1 w1 ι1 (T m)→Evol H.length ok w ι H ok1 w1 ι1 (T m)→a1.tmps.size = a.tmps.size→a1.defers = a.defers →
    (∀ t k,k≤ops.size→(∀ i o,ops[i]? = some o→o.dst = some t→(listed.getD i false = true↔i < k))→∀ d,qf (E k) t = some d→t < a1.tmps.size∧Rep ok1 w1 ι1 (T m) d (a1.tmps.getD t undef))→Q .normal a1 w1:=by
   intro listed a1 w1 m ι1 ok1 vg hm hK hsim hevol h1 h2 Ks
   have hT:T ops.size = T m:=VE m ops.size hm (qB _) (fun i o ho hk h=>by
    have:=(hK i o ho hk).1 (vg i h.2);omega)
   rw [hTn'] at hT;rw [← hT] at hsim hevol Ks;refine hQ a1 w1 ⟨h1,h2,ι1,ok1,hsim,fun t d ht=>?_,hevol⟩;rw [← hEn'] at ht;exact Ks t ops.size (qB _) (fun i o ho _=>⟨fun _=>(Array.getElem?_eq_some_iff.1 ho).1,fun h=>vg i h⟩) d ht
  have finA:∀ (listed:Array Bool) (a1:Act) (w1:World) (m:Nat) (ι1:qF) (ok1:Nat→Prop) (pend:Bool),(∀ i,i < ops.size→listed.getD i false = true) →
   m≤ops.size→(∀ i o,ops[i]? = some o→zK X (bw o.dst) o.op = true→al≠some i→(listed.getD i false = true↔i < m))→(∀ i,al = some i→(listed.getD i false = true↔(i < m∨pend = true)))→(pend = true→Pend listed a1 w1 m ι1 ok1) →
   Sim X ok1 w1 ι1 (T m)→Evol H.length ok w ι H ok1 w1 ι1 (T m)→a1.tmps.size = a.tmps.size→a1.defers = a.defers →
   (∀ t k,k≤ops.size→(∀ i o,ops[i]? = some o→o.dst = some t→(listed.getD i false = true↔i < k))→(pend = true→∀ i o,al = some i→ops[i]? = some o→o.dst≠some t)→∀ d,qf (E k) t = some d→t < a1.tmps.size∧Rep ok1 w1 ι1 (T m) d (a1.tmps.getD t undef)) →
   Q .normal a1 w1:=by
   intro listed a1 w1 m ι1 ok1 pend vg hm hK hJ hP hsim hevol h1 h2 Ks;obtain ⟨m2,ι2,q1,q2,q3,q4,q5⟩:=absorb listed a1 w1 m ι1 ok1 pend hm hK hJ hP hsim hevol h1 h2 Ks (fun i o k _ ho _ _=>vg i (Array.getElem?_eq_some_iff.1 ho).1);exact fin listed a1 w1 m2 ι2 ok1 vg q1 q2 q3 q4 h1 h2 q5
  intro fuel
  induction fuel with
  | zero =>
   intro listed a1 w1 m ι1 ok1 pend zh hcnt jC hm hK hJ hP hsim hevol h1 h2 Ks
   have vg:∀ i,i < ops.size→listed.getD i false = true:=by
    intro i hi;cases hl:listed.getD i false with
    | true=>rfl
    | false =>
     have:i∈(List.range ops.size).filter fun i=>!listed.getD i false:=by
      rw [List.mem_filter];exact ⟨List.mem_range.2 hi,by simp only [hl];rfl⟩
     have qt:=List.length_pos_of_mem this;omega
   refine ⟨?_,finA listed a1 w1 m ι1 ok1 pend vg hm hK hJ hP hsim hevol h1 h2 Ks⟩;unfold Region.ready;rw [List.filter_eq_nil_iff];intro i hi;have qg:=List.mem_range.1 hi;have:=vg i qg
   have h3:listed.getD i true = true:=by
    rw [jp,Jx (by omega)] at this ⊢;exact this
   simp [h3]
  | succ fuel ih =>
   intro listed a1 w1 m0 ι0 ok1 pend0 zh hcnt jC hm0 hK0 hJ0 hP0 hsim0 hevol0 h1 h2 hslots0
   obtain ⟨m,ι1,pend,hm,hK,hJ,hP,hsim,hevol,Ks,hwait⟩:∃ (m:Nat) (ι1:qF) (pend:Bool),m≤ops.size∧(∀ i o,ops[i]? = some o→zK X (bw o.dst) o.op = true→al≠some i→(listed.getD i false = true↔i < m))∧(∀ i,al = some i→(listed.getD i false = true↔(i < m∨pend = true)))∧(pend = true→Pend listed a1 w1 m ι1 ok1) ∧
     Sim X ok1 w1 ι1 (T m)∧Evol H.length ok w ι H ok1 w1 ι1 (T m) ∧
     (∀ t k,k≤ops.size→(∀ i o,ops[i]? = some o→o.dst = some t→(listed.getD i false = true↔i < k))→(pend = true→∀ i o,al = some i→ops[i]? = some o→o.dst≠some t)→∀ d,qf (E k) t = some d→t < a1.tmps.size∧Rep ok1 w1 ι1 (T m) d (a1.tmps.getD t undef)) ∧
     (pend = true→∃ i o k,al = some k∧ops[i]? = some o∧zK X (bw o.dst) o.op = true∧i < k∧listed.getD i false = false):=by
    by_cases vg:∀ i o k,al = some k→ops[i]? = some o→zK X (bw o.dst) o.op = true→i < k→listed.getD i false = true
    ·obtain ⟨m2,ι2,q1,q2,q3,q4,q5⟩:=absorb listed a1 w1 m0 ι0 ok1 pend0 hm0 hK0 hJ0 hP0 hsim0 hevol0 h1 h2 hslots0 vg;refine ⟨m2,ι2,false,q1,fun i o ho hk _=>q2 i o ho hk,fun i zF=>?_,(fun h=>by cases h),q3,q4,fun t k hk Vp _ d hd=>q5 t k hk Vp d hd,(fun h=>by cases h)⟩;obtain ⟨o,g1,g2⟩:=halK i zF;simpa using q2 i o g1 (by simp only [zK,g2])
    ·refine ⟨m0,ι0,pend0,hm0,hK0,hJ0,hP0,hsim0,hevol0,hslots0,fun _=>?_⟩;simp only [Classical.not_forall] at vg;obtain ⟨i,o,k,g1,g2,g3,g4,g5⟩:=vg;exact ⟨i,o,k,g1,g2,g3,g4,by simpa using g5⟩
   have hready:∀ j,j∈Region.ready .any ops listed↔∃ o,ops[j]? = some o∧listed.getD j false = false∧qcX (fun k=>listed.getD k false = true) o:=by
    intro j;unfold Region.ready;rw [List.mem_filter];constructor
    ·rintro ⟨hj,hc⟩;have qg:=List.mem_range.1 hj;simp only [Jx qg,jF,Ju,qT,Bool.not_eq_true'] at hc;refine ⟨_,Jx qg,?_,?_⟩
     ·rw [jp,Jx (by omega)] at hc ⊢;exact hc.1
     ·intro e he hb;have:=Array.all_eq_true'.1 hc.2 e (by simpa using he);simpa [hb] using this
    ·rintro ⟨o,ho,hl,hed⟩;have qg:=(Array.getElem?_eq_some_iff.1 ho).1;refine ⟨List.mem_range.2 qg,?_⟩;simp only [ho,jF,Ju,qT,Bool.not_eq_true'];refine ⟨?_,?_⟩
     ·rw [jp,Jx (by omega)] at hl ⊢;exact hl
     ·rw [Array.all_eq_true'];intro e he;cases hb:Region.binds .any e with
      | false=>simp
      | true=>simpa [hb] using hed e (by simpa using he) hb
   refine ⟨fun qM=>?_,fun j hj=>?_⟩
   ·refine finA listed a1 w1 m ι1 ok1 pend ?_ hm hK hJ hP hsim hevol h1 h2 Ks;intro i
    induction i using Nat.strongRecOn with
    | _ i ihi =>
     intro hi;cases hl:listed.getD i false with
     | true=>rfl
     | false =>
      have ho:=Jx hi
      have:i∈Region.ready .any ops listed:=(hready i).2 ⟨_,ho,hl,fun e he hb=>by
       have qg:=hD.edge i _ ho e he hb;exact ihi e.on qg (by omega)⟩
      rw [qM] at this;simp at this
   ·obtain ⟨o,ho,hunl,hed⟩:=(hready j).1 hj;have JI:=(Array.getElem?_eq_some_iff.1 ho).1
    have hbef:∀ i x,ops[i]? = some x→i < j→JN X bw L al ops i x j o = true→listed.getD i false = true:=fun i x hx jj hc =>
     qiW (S:=fun k=>listed.getD k false = true) jC ho hed (hD.ord i j x o hx ho jj hc)
    have haft:∀ i x,ops[i]? = some x→j < i→JN X bw L al ops j o i x = true→listed.getD i false = false:=by
     intro i x hx jj hc;cases hl:listed.getD i false with
     | false=>rfl
     | true =>
      have:=qiW (S:=fun k=>listed.getD k false = true) jC hx (jC i x hx hl) (hD.ord j i o x ho hx jj hc);rw [hunl] at this;cases this
    have hagree:∀ i x,ops[i]? = some x→(i≠j→JN X bw L al ops i x j o = true)→(listed.getD i false = true↔i < j):=by
     intro i x hx hc;rcases Nat.lt_trichotomy i j with h | h | h
     ·exact ⟨fun _=>h,fun _=>hbef i x hx h (hc (by omega))⟩
     ·subst h;exact ⟨fun h=>(by rw [hunl] at h;cases h),fun h=>(by omega)⟩
     ·exact ⟨fun hl=>(by rw [haft i x hx h (qzK (hc (by omega)))] at hl;cases hl),fun h=>(by omega)⟩
    have hnp:pend = true→al≠some j:=by
     intro hp hj;have:=(hJ j hj).2 (.inr hp);rw [hunl] at this;cases this
    have hnt0:pend = true→∀ i y,al = some i→ops[i]? = some y→∀ t,y.dst = some t→t ∉ Z7 ops o:=by
     intro hp i y zF hy t hyt ht;obtain ⟨y',ty,t',g1,g2,g3,g4,g5⟩:=hD.alo i zF;rw [hy] at g1;injection g1 with g1;subst g1;rw [hyt] at g3;injection g3 with g3;subst g3;have qt:j≠i:=fun h=>hnp hp (by rw [h];exact zF);obtain ⟨q,x,k,u1,u2,u3,u4,u5⟩:=hwait hp;have vK:k = i:=(by rw [zF] at u1;injection u1 with u1;exact u1.symm);subst vK;have:=qiW (S:=fun k=>listed.getD k false = true) jC ho hed ((g5 j o ho qt ht).2 q x u2 u4 u3);rw [u5] at this;cases this
    have hnames:∀ t,t∈Z7 ops o→∀ d,qf (E j) t = some d→t < a1.tmps.size∧Rep ok1 w1 ι1 (T m) d (a1.tmps.getD t undef):=by
     intro t ht d hd;refine Ks t j (by omega) (fun i x hx vM=>hagree i x hx (fun _=>?_)) (fun hp i y zF hy hyt=>hnt0 hp i y zF hy t hyt ht) d hd;unfold JN;simp only [vM,Option.any_some,qbK];exact .inl (.inl (.inl (.inl (by simpa using ht))))
    have hset:∀ i,(listed.setIfInBounds j true).getD i false = if i = j then true else listed.getD i false:=by
     intro i;rw [jp,jp];by_cases jj:i = j
     ·subst jj;simp [show i < listed.size by omega]
     ·rw [qc4 (Ne.symm jj),if_neg jj]
    have htmp:∀ (v:Value) t,o.dst≠some t→(a1.put o.dst v).tmps.getD t undef = a1.tmps.getD t undef:=by
     intro v t ht;cases hod:o.dst with
     | none=>rfl
     | some s =>
      have:s≠t:=fun e=>ht (by rw [hod,e]);simp only [Act.put,jp];rw [qc4 this]
    have hPk:∀ (v:Value) (w2:World) (ι2:qF) (ok2:Nat→Prop) (m':Nat),Evol (T m).length ok1 w1 ι1 (T m) ok2 w2 ι2 (T m')→(∀ i,al = some i→pend = true→m'≤i)→pend = true→Pend (listed.setIfInBounds j true) (a1.put o.dst v) w2 m' ι2 ok2:=by
     intro v w2 ι2 ok2 m' hev2 hmi hp;obtain ⟨j0,y,t0,b,arr,ty,fr,cs,p1,p2,p3,p4,p5,p6,p7,p8,p9,p10,p11,p12,p13,p14,p15,p16,p17,p18⟩:=hP hp;have zT:=hnt0 hp j0 y p1 p2 t0 p3;have hdn:o.dst≠some t0:=fun h=>zT (by simp [Z7,h]);have hblt:b < w1.heap.size:=(Array.getElem?_eq_some_iff.1 p9).1;refine ⟨j0,y,t0,b,arr,ty,fr,cs,p1,p2,p3,hmi j0 p1 hp,p5,p6,by rw [(qbZ a1 o.dst v).1];exact p7,by rw [htmp v t0 hdn];exact p8,by rw [hev2.frame b hblt p11];exact p9,fun h=>?_,fun q es s hq h=>?_,p12,p13,p14,p15,p16,p17,fun k z hz hk hn=>?_⟩
     ·rcases hev2.okN b h hblt with h | ⟨i,ds,s,g1,g2⟩
      ·exact p10 h
      ·exact p11 i ds s g1 g2
     ·obtain ⟨q',ds,s',g1,g2⟩:=hev2.own q es b s hq h hblt;exact p11 _ _ _ g1 g2
     ·rw [hset]
      have hkj:k≠j:=by
       rintro rfl;rw [ho] at hz;injection hz with hz;subst hz;exact zT hn
      rw [if_neg hkj];exact p18 k z hz hk hn
    have finish:∀ (d:D) (v:Value) (w2:World) (ι2:qF) (ok2:Nat→Prop) (m':Nat) (pend':Bool),(pend = true→pend' = true)→E (j+1) = vj (E j) o.dst d→vv nt o.dst = true→Sim X ok2 w2 ι2 (T m')→((al = some j→pend' = false)→Rep ok2 w2 ι2 (T m') d v) →
      Evol (T m).length ok1 w1 ι1 (T m) ok2 w2 ι2 (T m')→m'≤ops.size→(∀ i x,ops[i]? = some x→zK X (bw x.dst) x.op = true→al≠some i→((listed.setIfInBounds j true).getD i false = true↔i < m')) →
      (∀ i,al = some i→((listed.setIfInBounds j true).getD i false = true↔(i < m'∨pend' = true)))→(pend' = true→Pend (listed.setIfInBounds j true) (a1.put o.dst v) w2 m' ι2 ok2) →
      wpAny X.P .any ops Q fuel (listed.setIfInBounds j true) (a1.put o.dst v) w2:=by
     intro d v w2 ι2 ok2 m' pend' Vd hE vM hsim2 hrep hev2 YU hK' hJ' hP'
     have hset':∀ i,(listed.setIfInBounds j true).getD i false = if i = j then true else listed.getD i false:=by
      intro i;rw [jp,jp];by_cases jj:i = j
      ·subst jj;simp [show i < listed.size by omega]
      ·rw [qc4 (Ne.symm jj),if_neg jj]
     obtain ⟨p1,p2⟩:=qbZ a1 o.dst v;refine ih _ _ w2 m' ι2 ok2 pend' (by simpa using zh) ?_ ?_ YU hK' hJ' hP' hsim2 (hevol.trans (hev2.mono hevol.nle.2)) (by omega) (by rw [p2,h2]) ?_
     ·have qg:((List.range ops.size).filter fun i=>!(listed.setIfInBounds j true).getD i false).length < ((List.range ops.size).filter fun i=>!listed.getD i false).length:=by
       have hcong:((List.range ops.size).filter fun i=>!(listed.setIfInBounds j true).getD i false) = (((List.range ops.size).filter fun i=>!listed.getD i false).filter fun i=>decide (i≠j)):=by
        rw [List.filter_filter];apply List.filter_congr;intro i _;rw [hset i];by_cases jj:i = j <;> simp [jj]
       rw [hcong];refine List.length_filter_lt_length_iff_exists.2 ⟨j,?_,by simp⟩;rw [List.mem_filter];exact ⟨List.mem_range.2 JI,by simp only [hunl];rfl⟩
      omega
     ·intro i x hx hl e he hb;show (listed.setIfInBounds j true).getD e.on false = true;rw [hset] at hl ⊢;by_cases heo:e.on = j
      ·rw [if_pos heo]
      ·rw [if_neg heo];by_cases jj:i = j
       ·subst jj;rw [ho] at hx;injection hx with hx;subst hx;exact hed e he hb
       ·rw [if_neg jj] at hl;exact jC i x hx hl e he hb
     ·intro t k hk Vp hex d' zp;by_cases ht:o.dst = some t
      ·have XD:j < k:=(Vp j o ho ht).1 (by rw [hset,if_pos rfl])
       have hl:=hslot t (j+1) k (by omega) hk (fun i x hx vM hik=>by
        have h3:=(Vp i x hx vM).2 hik.2;rw [hset,if_neg (by omega)] at h3
        have h4:=haft i x hx (by omega) (by
         unfold JN;simp only [ht,Option.any_some,qbK];exact .inl (.inl (.inl (.inl (by simp [Z7,vM])))))
        rw [h4] at h3;cases h3)
       rw [hl,hE,qfD,if_pos ht] at zp;injection zp with zp;subst zp;rw [ht] at vM ⊢;have qg:t < nt:=(by simpa [vv] using vM);have Qc:t < a1.tmps.size:=jP qg (by omega);refine ⟨by simpa [Act.put] using Qc,?_⟩
       have hrep:=hrep fun hj=>by
        cases hp':pend' with
        | false=>rfl
        | true=>exact absurd ht (hex hp' j o hj ho)
       simpa [Act.put,Qc,jp] using hrep
      ·have hold:=Ks t k hk (fun i x hx vM=>by
        have h3:=Vp i x hx vM
        have jj:i≠j:=by
         rintro rfl;rw [ho] at hx;injection hx with hx;subst hx;exact ht vM
        rwa [hset,if_neg jj] at h3) (fun hp=>hex (Vd hp)) d' zp
       refine ⟨by have h:=hold.1;rw [p1];exact h,?_⟩
       have htm:(a1.put o.dst v).tmps.getD t undef = a1.tmps.getD t undef:=by
        cases hod:o.dst with
        | none=>rfl
        | some s =>
         have:s≠t:=fun e=>ht (by rw [hod,e]);simp only [Act.put,jp];rw [qc4 this]
       rw [htm];exact hold.2.evol hsim hev2 hold.2.closed
    have hK1:zK X (bw o.dst) o.op = false→∀ i x,ops[i]? = some x→zK X (bw x.dst) x.op = true→al≠some i→((listed.setIfInBounds j true).getD i false = true↔i < m):=by
     intro hk i x hx Qr zF
     have jj:i≠j:=by
      rintro rfl;rw [ho] at hx;injection hx with hx;subst hx;rw [hk] at Qr;cases Qr
     rw [hset,if_neg jj];exact hK i x hx Qr zF
    have hJ1:zK X (bw o.dst) o.op = false→∀ i,al = some i→((listed.setIfInBounds j true).getD i false = true↔(i < m∨pend = true)):=by
     intro hk i zF
     have jj:i≠j:=by
      rintro rfl;obtain ⟨x,g1,g2⟩:=halK i zF;rw [ho] at g1;injection g1 with g1;subst g1;simp only [zK,g2] at hk;cases hk
     rw [hset,if_neg jj];exact hJ i zF
    have zZ:∀ i,al = some i→pend = true→m≤i:=by
     intro i zF hp;obtain ⟨j0,y,t0,b,arr,ty,fr,cs,p1,p2,p3,p4,-⟩:=hP hp;rw [zF] at p1;injection p1 with p1;omega
    have hKj:zK X (bw o.dst) o.op = true→(al = some j→∀ i x,ops[i]? = some x→zK X (bw x.dst) x.op = true→i < j→listed.getD i false = true) →
      ∀ i x,ops[i]? = some x→zK X (bw x.dst) x.op = true→(i < m↔i < j)∧(al≠some i→(listed.getD i false = true↔i < j)):=by
     intro hk Qe i x hx Qr
     have hord:al≠some i→(listed.getD i false = true↔i < j):=by
      intro zF;by_cases ZL:al = some j
      ·rcases Nat.lt_trichotomy i j with h | h | h
       ·exact ⟨fun _=>h,fun _=>Qe ZL i x hx Qr h⟩
       ·subst h;exact absurd ZL zF
       ·have hc:JN X bw L al ops j o i x = true:=qgq hk Qr (by rw [Nat.max_eq_right (by omega)];exact zF);exact ⟨fun hl=>(by rw [haft i x hx h hc] at hl;cases hl),fun h=>(by omega)⟩
      ·refine hagree i x hx fun _=>qgq Qr hk ?_;rcases Nat.le_total i j with h | h
       ·rw [Nat.max_eq_right h];exact ZL
       ·rw [Nat.max_eq_left h];exact zF
     refine ⟨?_,hord⟩;by_cases zF:al = some i
     ·by_cases jj:i = j
      ·subst jj
       have:¬ i < m:=fun h=>by
        have:=(hJ i zF).2 (.inl h);rw [hunl] at this;cases this
       exact ⟨fun h=>absurd h this,fun h=>absurd h (Nat.lt_irrefl _)⟩
      ·have ZL:al≠some j:=fun h=>by rw [zF] at h;injection h with h;exact jj h
       have hjm:¬ j < m:=fun h=>by
        have:=(hK j o ho hk ZL).2 h;rw [hunl] at this;cases this
       have qg:i < j→listed.getD i false = true:=fun h=>hbef i x hx h (qgq Qr hk (by rw [Nat.max_eq_right (by omega)];exact ZL));cases hp:pend with
       | false =>
        have h3:=hJ i zF;rw [hp] at h3;simp only [vT,or_false] at h3;refine ⟨fun h=>by omega,fun h=>h3.1 (qg h)⟩
       | true =>
        have h4:=zZ i zF hp;obtain ⟨q,z,k,u1,u2,u3,u4,u5⟩:=hwait hp;have vK:k = i:=(by rw [zF] at u1;injection u1 with u1;exact u1.symm);subst vK;refine ⟨fun h=>by omega,fun h=>?_⟩;have hc:JN X bw L al ops q z j o = true:=qgq u3 hk (by rw [Nat.max_eq_right (by omega)];exact ZL);have:=hbef q z u2 (by omega) hc;rw [u5] at this;cases this
     ·exact (hK i x hx Qr zF).symm.trans (hord zF)
    have hK2:zK X (bw o.dst) o.op = true→(al = some j→∀ i x,ops[i]? = some x→zK X (bw x.dst) x.op = true→i < j→listed.getD i false = true)→∀ i x,ops[i]? = some x→zK X (bw x.dst) x.op = true→al≠some i→((listed.setIfInBounds j true).getD i false = true↔i < j+1):=by
     intro hk Qe i x hx Qr zF;rw [hset];by_cases jj:i = j
     ·subst jj;simp
     ·rw [if_neg jj,(hKj hk Qe i x hx Qr).2 zF];omega
    have hJ2:zK X (bw o.dst) o.op = true→(al = some j→∀ i x,ops[i]? = some x→zK X (bw x.dst) x.op = true→i < j→listed.getD i false = true)→∀ i,al = some i→((listed.setIfInBounds j true).getD i false = true↔(i < j+1∨pend = true)):=by
     intro hk Qe i zF;rw [hset];by_cases jj:i = j
     ·subst jj;simp
     ·obtain ⟨x,g1,g2⟩:=halK i zF;have h3:=(hKj hk Qe i x g1 (by simp only [zK,g2])).1;rw [if_neg jj,hJ i zF];constructor
      ·rintro (h | h)
       ·exact .inl (by omega)
       ·exact .inr h
      ·rintro (h | h)
       ·exact .inl (by omega)
       ·exact .inr h
    have zB:zK X (bw o.dst) o.op = true→∀ i,al = some i→pend = true→j+1≤i:=by
     intro hk i zF hp;have ZL:=hnp hp;have jj:i≠j:=fun h=>ZL (by rw [← h];exact zF);obtain ⟨x,g1,g2⟩:=halK i zF;have h3:=(hKj hk (fun h=>absurd h ZL) i x g1 (by simp only [zK,g2])).1;have:=zZ i zF hp;omega
    have hTK:zK X (bw o.dst) o.op = true→(al = some j→∀ i x,ops[i]? = some x→zK X (bw x.dst) x.op = true→i < j→listed.getD i false = true)→T m = T j:=by
     intro hk Qe;have hmj:∀ i x,ops[i]? = some x→zK X (bw x.dst) x.op = true→(i < m↔i < j):=fun i x hx Qr=>(hKj hk Qe i x hx Qr).1;rcases Nat.le_total m j with h | h
     ·exact (VE m j h (by omega) (fun i x hx Qr hi=>by have:=(hmj i x hx Qr).2 hi.2;omega)).symm
     ·exact VE j m h hm (fun i x hx Qr hi=>by have:=(hmj i x hx Qr).1 hi.2;omega)
    unfold wpOp;simp only [ho];obtain ⟨vM,hcase⟩:=hstep' j o ho
    have hgn:∀ k want t,∀ o':Oper,o'.guard = some (k,want)→o' = o→(ops[k]?).bind (·.dst) = some t→t∈Z7 ops o:=by
     intro k want t o' hg he' hd;subst he';simp [Z7,hg,hd]
    have hw:∀ b,jy ops (E j) o.guard = some b→Region.wanted o (yielded ops a1.tmps) = b:=by
     intro b hb;exact qjo (fun k want t hg hd d hl=>hnames t (hgn k want t o hg rfl hd) d hl) hb
    rcases hcase with ⟨hg,d,ji,hE⟩ | ⟨hg,hTj,hE⟩
    ·rw [if_pos (hw true hg)];refine .inl ?_;unfold Oper.wp
     have hopn:∀ x,x∈o.op.operands.toList→qQ X (E j) x = qQ X (YB (Z7 ops o) (E j)) x:=fun x hx=>qsO fun t ht=>(qfC (by
      simp only [Z7,qbH,List.mem_flatMap];exact .inl (.inr ⟨x,hx,ht⟩))).symm
     rw [qy6 hopn] at ji;have henv:EnvRep ok1 w1 ι1 (T m) (YB (Z7 ops o) (E j)) a1.tmps:=fun t d ht=>hnames t (qfB ht).1 d (qfB ht).2
     have go:∀ m',qL X F (bw o.dst) o.op (YB (Z7 ops o) (E j)) (T m) = some (d,T m')→m'≤ops.size→(∀ i x,ops[i]? = some x→zK X (bw x.dst) x.op = true→al≠some i→((listed.setIfInBounds j true).getD i false = true↔i < m')) →
       (∀ i,al = some i→((listed.setIfInBounds j true).getD i false = true↔(i < m'∨pend = true)))→(∀ i,al = some i→pend = true→m'≤i) →
       o.upon X.P a1 (wpAny X.P .any ops Q fuel (listed.setIfInBounds j true)) Q ((execOp a1.eval o).run X.P w1):=by
      intro m' hop' YU hK' hJ' hmi;refine Goes.upon ((qhA hF hsim henv hop').mono fun v w2 hp=>?_);obtain ⟨ι2,ok2,q1,q2,q3⟩:=hp;exact finish d v w2 ι2 ok2 m' pend (fun h=>h) hE vM q1 (fun _=>q2) q3 YU hK' hJ' (hPk v w2 ι2 ok2 m' q3 hmi)
     cases QP:Q1 X (bw o.dst) o.op with
     | v=>exact go m ((qlZ QP ji).2 (T m)) hm (hK1 (by simp only [zK,QP])) (hJ1 (by simp only [zK,QP])) zZ
     | r =>
      refine go m (qma QP ji fun x hx p i hp hi qt=>?_).2 hm (hK1 (by simp only [zK,QP])) (hJ1 (by simp only [zK,QP])) zZ
      have hMag:∀ i x,ops[i]? = some x→Q1 X (bw x.dst) x.op = .m→L.contains (i,j) = true∨(i < m↔i < j):=by
       intro i x hx Qr;cases hc:L.contains (i,j) with
       | true=>exact .inl rfl
       | false =>
        have zF:al≠some i:=fun h=>by
         obtain ⟨z,g1,g2⟩:=halK i h;rw [hx] at g1;injection g1 with g1;subst g1;rw [Qr] at g2;cases g2
        refine .inr ((hK i x hx (by simp only [zK,Qr]) zF).symm.trans (hagree i x hx fun _=>?_));unfold JN;simp only [Qr,QP,hc];simp
      have qg:i < (T m).length:=by
       have:=(jJ hsim henv hp).closed;cases p <;> simp only [Xn,reduceCtorEq,qu] at hi
       ·subst hi;simpa [closed] using this
       ·subst hi;simpa [closed] using this
      have Vj:i∈kJ (o.op.operands.toList.map (qQ X (E j))):=qhJ hi (by
       rw [← hp,← hopn x hx];exact List.mem_map_of_mem hx)
      have hwr:∀ i' x',ops[i']? = some x'→Q1 X (bw x'.dst) x'.op = .m→jy ops (E i') x'.guard = some true→L.contains (i',j) = true→(T i').length≤(T (i'+1)).length∧qq (T (i'+1)) i = qq (T i') i:=by
       intro i' x' Z9 qbm hgx' hc
       have hne':i'≠j:=by
        rintro rfl;rw [ho] at Z9;injection Z9 with Z9;subst Z9;rw [QP] at qbm;cases qbm
       obtain ⟨u1,u2⟩:=hTr i' j x' o Z9 ho hc hne' hgx' hg;exact ⟨u1,u2 i Vj⟩
      rcases Nat.le_total m j with h | h
      ·exact (hread i m j h (by omega) qg (fun i' x' Z9 qbm hgx' h1 h2=>by
        rcases hMag i' x' Z9 qbm with hc | hc
        ·exact hwr i' x' Z9 qbm hgx' hc
        ·omega)).1.symm
      ·have hltj:i < (T j).length:=by
        cases Vl:qq (T j) i with
        | none=>exact absurd Vl qt
        | some ds=>exact ZH Vl
       exact (hread i j m h hm hltj (fun i' x' Z9 qbm hgx' h1 h2=>by
        rcases hMag i' x' Z9 qbm with hc | hc
        ·exact hwr i' x' Z9 qbm hgx' hc
        ·omega)).1
     | e =>
      have hk:zK X (bw o.dst) o.op = true:=(by simp only [zK,QP]);by_cases Qe:al = some j→∀ i x,ops[i]? = some x→zK X (bw x.dst) x.op = true→i < j→listed.getD i false = true
      ·rw [← hTK hk Qe] at ji;exact go (j+1) ji (by omega) (hK2 hk Qe) (hJ2 hk Qe) (zB hk)
      ·have ZL:al = some j:=qdj fun h=>Qe fun h2=>absurd h2 h
       have hpf:pend = false:=by
        cases hp:pend with
        | false=>rfl
        | true=>exact absurd ZL (hnp hp)
       obtain ⟨o',ty,t0,g1,g2,g3,g4,g5⟩:=hD.alo j ZL;rw [ho] at g1;injection g1 with g1;subst g1
       have hjm:¬ j < m:=fun h=>by
        have:=(hJ j ZL).2 (.inl h);rw [hunl] at this;cases this
       have hev0:qL X F (bw o.dst) o.op (YB (Z7 ops o) (E j)) (T j) = match (VZ X.P ty).bind cellsOf with
         | some cs=>some (.optr (T j).length cs.length 0,vA (T j) cs)
         | none=>none:=by
        rw [g2];cases bw o.dst <;> rfl
       rw [hev0] at ji;cases hz:(VZ X.P ty).bind cellsOf with
       | none=>rw [hz] at ji;cases ji
       | some cs =>
        rw [hz] at ji;injection ji with ji;injection ji with hd hT1;obtain ⟨arr,r1,r2,r3,r4,r5⟩:=q0S hz w1;have hgr:=qqi (w':=w1.alloc (.cells arr ty)) hsim ⟨rfl,rfl,rfl⟩ (by simp) (fun c hc=>heap_alloc_old w1 _ hc);have qg:t0 < nt:=(by simpa [vv,g3] using vM);have hrun:Goes X.P (execOp a1.eval o) w1 (fun v w2=>v = .pointer (some ⟨w1.heap.size,0,none⟩)∧w2 = w1.alloc (.cells arr ty)):=Goes.value (by simp [execOp,g2,r1]) ⟨rfl,rfl⟩;refine Goes.upon (hrun.mono fun v w2 hp=>?_);obtain ⟨rfl,rfl⟩:=hp;refine finish d _ _ ι1 ok1 m true (fun _=>rfl) hE vM hgr.1 (fun h=>by cases h ZL) hgr.2 hm (fun i x hx Qr zF=>?_) (fun i zF=>?_) (fun _=>?_)
        ·have jj:i≠j:=fun h=>zF (by rw [h];exact ZL);rw [hset,if_neg jj];exact hK i x hx Qr zF
        ·have jj:i = j:=(by rw [ZL] at zF;injection zF with h;exact h.symm);rw [hset,if_pos jj];simp
        ·refine ⟨j,o,t0,w1.heap.size,arr,ty,(0,0),cs,ZL,ho,g3,by omega,hT1.symm,by rw [hE,← hd,g3],by rw [(qbZ a1 o.dst _).1];exact jP qg (by rw [h1];exact Vf),?_,heap_alloc_new w1 _,fun h=>?_,fun q es s hq h=>?_,hevol.size,r2,.inl rfl,r3,r4,r5,fun k y hy hk2 hn=>?_⟩
         ·rw [g3];have:t0 < a1.tmps.size:=jP qg (by rw [h1];exact Vf);simp [Act.put,this,jp]
         ·exact absurd (hsim.okS _ h) (Nat.lt_irrefl _)
         ·exact absurd (hsim.lt hq h) (Nat.lt_irrefl _)
         ·rw [hset,if_neg hk2];refine haft k y hy (g5 k y hy hk2 hn).1 ?_;unfold JN;simp only [g3,Option.any_some,qbK];exact .inl (.inl (.inl (.inl (by simpa using hn))))
     | m =>
      have hk:zK X (bw o.dst) o.op = true:=by simp only [zK,QP]
      have Qe:al = some j→∀ i x,ops[i]? = some x→zK X (bw x.dst) x.op = true→i < j→listed.getD i false = true:=fun h=>by
       obtain ⟨z,g1,g2⟩:=halK j h;rw [ho] at g1;injection g1 with g1;subst g1;rw [QP] at g2;cases g2
      rw [← hTK hk Qe] at ji;exact go (j+1) ji (by omega) (hK2 hk Qe) (hJ2 hk Qe) (zB hk)
    ·rw [if_neg (by rw [hw false hg];simp)];cases hk:zK X (bw o.dst) o.op with
     | false=>exact finish (.tup []) undef w1 ι1 ok1 m pend (fun h=>h) hE vM hsim (fun _=>qeR) (.refl _ (qB _)) hm (hK1 hk) (hJ1 hk) (hPk _ _ _ _ _ (.refl _ (qB _)) zZ)
     | true =>
      have Qe:al = some j→∀ i x,ops[i]? = some x→zK X (bw x.dst) x.op = true→i < j→listed.getD i false = true:=fun h=>by
       obtain ⟨o',ty,t0,g1,g2,g3,g4,g5⟩:=hD.alo j h;rw [ho] at g1;injection g1 with g1;subst g1;rw [g4] at hg;simp [jy] at hg
      have Vq:T (j+1) = T m:=(by rw [hTj,hTK hk Qe]);have hev2:Evol (T m).length ok1 w1 ι1 (T m) ok1 w1 ι1 (T (j+1)):=(by rw [Vq];exact .refl _ (qB _));exact finish (.tup []) undef w1 ι1 ok1 (j+1) pend (fun h=>h) hE vM (by rw [Vq];exact hsim) (fun _=>qeR) hev2 (by omega) (hK2 hk Qe) (hJ2 hk Qe) (hPk _ _ _ _ _ hev2 (zB hk))
 refine main ops.size (Array.replicate ops.size false) a w 0 ι ok false (by simp) ?_ ?_ (jk _) ?_ ?_ (fun h=>by cases h) (by rw [hT0];exact hs) (by rw [hT0];exact .refl _ (qB _)) rfl rfl ?_
 ·exact kr (List.length_filter_le _ _) (by simp)
 ·intro i o hi hl
  have:(Array.replicate ops.size false).getD i false = false:=by
   rw [jp,qg5];split <;> rfl
  rw [this] at hl;cases hl
 ·intro i o hi hk _
  have:(Array.replicate ops.size false).getD i false = false:=by
   rw [jp,qg5];split <;> rfl
  rw [this];simp
 ·intro i _
  have:(Array.replicate ops.size false).getD i false = false:=by
   rw [jp,qg5];split <;> rfl
  rw [this];simp
 ·intro t k hk Vp _ d hd;rw [hT0]
  have hl:=hslot t 0 k (jk _) hk (fun i o hi vM hik=>by
   have h3:=(Vp i o hi vM).2 hik.2
   have:(Array.replicate ops.size false).getD i false = false:=by
    rw [jp,qg5];split <;> rfl
   rw [this] at h3;cases h3)
  rw [hl,hE0] at hd;exact he t d hd
theorem qyW {F:zn} (hF:JS X F) {nt:Nat} {ops:Array Oper} {drw:Bool} {Q:Exit→Act→World→Prop} (hD:DrawFacts X (fun _=>drw) [] al ops) {e e':qr} {a:Act} (hev:j9 X F nt drw ops ops.toList e H = some (e',H'))
  (hs:Sim X ok w ι H) (he:EnvRep ok w ι H e a.tmps) (Vf:nt≤a.tmps.size) (hQ:∀ a' w',Out X H.length ok w ι H a e' H' a' w'→Q .normal a' w') :
  wpAny X.P .any ops Q ops.size (Array.replicate ops.size false) a w:=by
 obtain ⟨E,T,hE0,hT0,VM,hTn,hstep⟩:=qj1 hev;exact qnB hF hD hE0 hT0 VM hTn hstep (fun i j x y _ _ hc=>by simp at hc) hs he Vf hQ
theorem qyV {F:zn} (hF:JS X F) {nt:Nat} {ops:Array Oper} {ow:List Nat} {Q:Exit→Act→World→Prop} (hD:DrawFacts X (Zk ow) L al ops) {e e':qr} {a:Act} (hev:kp X F nt ow ops L 0 [] [] ops.toList e H = some (e',H'))
  (hs:Sim X ok w ι H) (he:EnvRep ok w ι H e a.tmps) (Vf:nt≤a.tmps.size) (hQ:∀ a' w',Out X H.length ok w ι H a e' H' a' w'→Q .normal a' w') :
  wpAny X.P .any ops Q ops.size (Array.replicate ops.size false) a w:=by
 obtain ⟨E,T,hE0,hT0,VM,hTn,hstep⟩:=qj0 hev;refine qnB hF hD hE0 hT0 VM hTn hstep ?_ hs he Vf hQ;rw [← hE0,← hT0] at hev;intro i j x y hi hj hc qt gi gj;exact qgE (fun k o hk=>hstep k o (by simpa using hk)) ops.toList 0 [] [] _ (fun m=>by simp) hev (fun i x hik=>by omega) (fun j y XD=>by omega) i j x y hi hj hc qt gi gj (jk _)
end
end Go.Ev
namespace Go.Ev
section
variable {X:Cx} {ok ok':Nat→Prop} {w w':World} {ι:qF} {H H':qi}
theorem qeN {ops:Array Oper} {e:qr} {a:Act} (he:EnvRep ok w ι H e a.tmps) {o:Oper} {b:Bool} (h:jy ops e o.guard = some b):Region.wanted o (yielded ops a.tmps) = b :=
 qjo (fun _ _ t _ _ d hd=>he t d hd) h
theorem YF {e:qr} {a:Act} {dst:Option Tmp} {d:D} {v:Value} {nt:Nat} (he:EnvRep ok w ι H e a.tmps) (hd:Rep ok w ι H d v) (hn:nt≤a.tmps.size) (ht:vv nt dst = true):EnvRep ok w ι H (vj e dst d) (a.put dst v).tmps:=by
 cases dst with
 | none=>exact he
 | some t =>
  have ht':t < nt:=by simpa [vv] using ht
  exact he.put hd (jP ht' hn)
theorem qi5 {F:zn} (hF:JS X F) {nt:Nat} {drw:Bool} {ops:Array Oper} {Q:Exit→Act→World→Prop}:∀ {l:List Oper} {e e':qr} {H H':qi} {ok:Nat→Prop} {w:World} {ι:qF} {a:Act},j9 X F nt drw ops l e H = some (e',H') →
  Sim X ok w ι H→EnvRep ok w ι H e a.tmps→nt≤a.tmps.size→(∀ a' w',Out X H.length ok w ι H a e' H' a' w'→Q .normal a' w')→wpList X.P ops Q l a w
 | [],e,e',H,H',ok,w,ι,a,h,hs,he,hn,hQ=>by
  simp only [j9,qu,qN] at h;obtain ⟨rfl,rfl⟩:=h;exact hQ a w ⟨rfl,rfl,ι,ok,hs,he,.refl _ (qB _)⟩
 | o :: l,e,e',H,H',ok,w,ι,a,h,hs,he,hn,hQ=>by
  simp only [j9] at h;split at h
  ·rename_i vM hg;split at h
   ·rename_i d H1 ho;have hw:=qeN he hg;simp only [wpList,hw,if_true];refine .inl ?_;unfold Oper.wp;refine Goes.upon ((qhA hF hs he ho).mono fun v w1 hp=>?_);obtain ⟨ι1,ok1,k1,k2,k3⟩:=hp;obtain ⟨s1,s2⟩:=qbZ a o.dst v;refine qi5 hF h k1 (YF (he.evol' hs k3) k2 hn vM) (by omega) fun a2 w2 hout=>hQ a2 w2 ?_;obtain ⟨t1,t2,ι2,ok2,u1,u2,u3⟩:=hout;exact ⟨by omega,by rw [t2,s2],ι2,ok2,u1,u2,k3.trans (u3.mono k3.nle.2)⟩
   ·cases h
  ·rename_i vM hg;have hw:=qeN he hg;simp only [wpList,hw,vT,if_false];obtain ⟨s1,s2⟩:=qbZ a o.dst undef;refine qi5 hF h hs (YF he qeR hn vM) (by omega) fun a2 w2 hout=>hQ a2 w2 ?_;obtain ⟨t1,t2,rest⟩:=hout;exact ⟨by omega,by rw [t2,s2],rest⟩
  ·cases h
theorem qfF:∀ {ks:List Nat} {e:qr} {t:Nat} {d:D},qf (kf ks e) t = some d→qf e t = some d
 | [],e,t,d,h=>by simp [kf,qf] at h
 | k :: ks,e,t,d,h=>by
  simp only [kf] at h;split at h
  ·rename_i x hk;simp only [qf] at h;split at h
   ·rename_i KY;subst KY;rw [hk];exact h
   ·exact qfF h
  ·exact qfF h
theorem qlM {n:Nat}:∀ {e:qr} {t:Nat} {d:D},qaq n e = true→qf e t = some d→closed n d = true
 | [],t,d,_,h=>by simp [qf] at h
 | (s,x) :: e,t,d,hc,h=>by
  simp only [qaq,qT] at hc;simp only [qf] at h;split at h
  ·injection h with h;subst h;exact hc.1
  ·exact qlM hc.2 h
theorem qyN {f n0 id:Nat} {e e':qr} {tmps:Array Value} (h:qiA X f n0 id e H = some (e',H')) (hn:n0≤H.length) (hs:Sim X ok w ι H) (he:EnvRep ok w ι H e tmps) :
  Sim X ok w ι H'∧EnvRep ok w ι H' e' tmps∧Evol n0 ok w ι H ok w ι H':=by
 unfold qiA at h;split at h
 ·simp only [qu,qN] at h;obtain ⟨rfl,rfl⟩:=h;exact ⟨hs,he,.refl _ hn⟩
 ·simp only [qu,qN] at h;obtain ⟨rfl,rfl⟩:=h;exact ⟨hs,fun t d ht=>he t d (qfF ht),.refl _ hn⟩
 ·rename_i ks k hk;have hkeep:EnvRep ok w ι H (kf ks e) tmps:=fun t d ht=>he t d (qfF ht);split at h
  ·simp only [qu,qN] at h;obtain ⟨rfl,rfl⟩:=h;exact ⟨hs,hkeep,.refl _ hn⟩
  ·rename_i zo;split at h
   ·rename_i hc;rw [qT] at hc;simp only [qu,qN] at h;obtain ⟨rfl,rfl⟩:=h;have hm:n0+k≤H.length:=(by omega);exact ⟨qzf hm hs hc.2,hkeep.evol hs (qiF hm) (fun t d ht=>qlM hc.1 ht),(qiF hm).mono (by omega)⟩
   ·cases h
theorem qn1 {f n0 id:Nat} {e e':qr} {tmps:Array Value} (h:qgh X f n0 id e H = some (e',H')) (hn:n0≤H.length) (hs:Sim X ok w ι H) (he:EnvRep ok w ι H e tmps) :
  ∃ ok' ι',Sim X ok' w ι' H'∧EnvRep ok' w ι' H' e' tmps∧Evol n0 ok w ι H ok' w ι' H':=by
 have stepC:∀ {e e':qr} {ok:Nat→Prop} {H H':qi},qgi X f n0 id e H = some (e',H')→n0≤H.length→Sim X ok w ι H→EnvRep ok w ι H e tmps →
   ∃ ι',Sim X ok w ι' H'∧EnvRep ok w ι' H' e' tmps∧Evol n0 ok w ι H ok w ι' H':=by
  intro e e' ok H H' h hn hs he;unfold qgi at h;split at h
  ·obtain ⟨h1,h2,h3⟩:=qyN h hn hs he;exact ⟨ι,h1,h2,h3⟩
  ·exact qrB h hn hs he
 unfold qgh at h;split at h
 ·obtain ⟨ι',h1,h2,h3⟩:=stepC h hn hs he;exact ⟨ok,ι',h1,h2,h3⟩
 ·split at h
  ·rename_i e1 H1 kC;obtain ⟨ok',k1,k2,k3⟩:=qyk kC hs he;obtain ⟨ι',h1,h2,h3⟩:=stepC h (kr hn k3.nle.2) k1 k2;exact ⟨ok',ι',h1,h2,(k3.mono hn).trans h3⟩
  ·cases h
theorem qyM {f n0 id:Nat} {e e':qr} {tmps:Array Value} (h:enter X f n0 id e H = some (e',H')) (hn:n0≤H.length) (hs:Sim X ok w ι H) (he:EnvRep ok w ι H e tmps) :
  ∃ ok' ι',Sim X ok' w ι' H'∧EnvRep ok' w ι' H' e' tmps∧Evol n0 ok w ι H ok' w ι' H':=by
 unfold enter at h;split at h
 ·exact qn1 h hn hs he
 ·split at h
  ·rename_i H1 hst;obtain ⟨ok1,k1,k2,k3⟩:=qgN hst hs;obtain ⟨ok2,ι',h1,h2,h3⟩:=qn1 h (by rw [k3];exact hn) k1 (fun t d ht=>⟨(he t d ht).1,(he t d ht).2.evol hs k2 (he t d ht).2.closed⟩);exact ⟨ok2,ι',h1,h2,(k2.mono hn).trans h3⟩
  ·cases h
def qcp:Ex→Exit
 | .normal=>.normal
 | .exit id=>.exit id
 | .ret=>.ret
def CQ (X:Cx) (n:Nat) (ok:Nat→Prop) (w:World) (ι:qF) (H:qi) (a:Act) (ex:Ex) (e':qr) (H':qi) (x:Exit) (a':Act) (w':World):Prop :=
 x = qcp ex∧Out X n ok w ι H a e' H' a' w'
def q1e (X:Cx) (n:Nat):Prop :=
 ∀ (f nt n0:Nat) (c:Code) (e e':qr) (H H':qi) (ex:Ex) (ok:Nat→Prop) (w:World) (ι:qF) (a:Act),qP X n f nt n0 c e H = some (ex,e',H')→QL X f c = true→n0≤H.length→Sim X ok w ι H→EnvRep ok w ι H e a.tmps→nt≤a.tmps.size →
  c.wp X.P (CQ X n0 ok w ι H a ex e' H') a w
theorem Out.trans {n:Nat} {a a1 a2:Act} {w1 w2:World} {H1 H2:qi} {ok1:Nat→Prop} {ι1:qF} {e2:qr} (h1:a1.tmps.size = a.tmps.size) (h2:a1.defers = a.defers) (h3:Evol n ok w ι H ok1 w1 ι1 H1)
  (h:Out X n ok1 w1 ι1 H1 a1 e2 H2 a2 w2):Out X n ok w ι H a e2 H2 a2 w2:=by
 obtain ⟨t1,t2,ι2,ok2,u1,u2,u3⟩:=h;exact ⟨by omega,by rw [t2,h2],ι2,ok2,u1,u2,h3.trans u3⟩
theorem qtd {t:Bool} {c:Operand} {e:qr} {a:Act} (hs:Sim X ok w ι H) (he:EnvRep ok w ι H e a.tmps) (h:qQ X e c = some (.bool t)):a.eval c = .bool t:=by
 have:=jJ hs he h;generalize a.eval c = v at this ⊢;cases this;rfl
theorem qiY:∀ (l:List D) (i t:Nat) (d:D),qf (Qv i l) t = some d→i≤t∧l[t - i]? = some d
 | [],i,t,d,h=>by simp [Qv,qf] at h
 | x :: l,i,t,d,h=>by
  simp only [Qv,qf] at h;split at h
  ·rename_i vL;subst vL;injection h with h;subst h;exact ⟨qB _,by simp⟩
  ·obtain ⟨h1,h2⟩:=qiY l (i+1) t d h;refine ⟨by omega,?_⟩;rw [show t - i = (t - (i+1))+1 by omega,List.getElem?_cons_succ];exact h2
def qfr (tmps:Array Value):ResultVar→Sem Value
 | .tmp t=>pure (tmps.getD t undef)
 | .cell a t=>do loadVar t (← asAddr (tmps.getD a undef))
theorem qhm {e:qr} {tmps:Array Value} (hs:Sim X ok w ι H) (he:EnvRep ok w ι H e tmps):∀ {l:List ResultVar} {ds:List D},Qz X e H l = some ds →
  ∃ vs:List Value,(l.mapM (qfr tmps)).run X.P w = .ok vs w∧RepL ok w ι H ds vs
 | [],ds,h=>by
  simp only [Qz,qu] at h;subst h;exact ⟨[],by simp,rfl,by simp⟩
 | .tmp t :: l,ds,h=>by
  simp only [Qz] at h;split at h
  ·rename_i d ds' h1 h2;injection h with h;subst h;obtain ⟨vs,q1,q2⟩:=qhm hs he h2;refine ⟨tmps.getD t undef :: vs,?_,by simp [q2.1],fun j x hx=>?_⟩
   ·rw [List.mapM_cons];simp only [qfr,Sem.run_bind,Sem.run_pure,Result.andThen_ok,q1]
   ·cases j with
    | zero =>
     simp only [ZX,qu] at hx;subst hx;exact (he t d h1).2
    | succ j=>exact q2.2 j x (by simpa using hx)
  ·cases h
 | .cell a t :: l,ds,h=>by
  simp only [Qz] at h;split at h
  ·rename_i d ds' h1 h2;injection h with h;subst h;obtain ⟨vs,q1,q2⟩:=qhm hs he h2;cases hl:qf e a with
   | none=>simp [hl] at h1
   | some p =>
    simp only [hl,Y3] at h1;obtain ⟨_,hr⟩:=he a p hl;obtain ⟨v,r1,r2⟩:=qlQ hs hr h1
    have hptr:∃ ad,tmps.getD a undef = .pointer (some ad):=by
     unfold ldD at h1;split at h1
     ·rename_i hm;exact hr.ptr hm
     ·rename_i hm;exact hr.ptr hm
     ·cases h1
    obtain ⟨ad,had⟩:=hptr;rw [had] at r1;simp only [Instr.loadAt,Instr.sureAddr,Sem.run_bind,Sem.run_pure,Result.andThen_ok] at r1;refine ⟨v :: vs,?_,by simp [q2.1],fun j x hx=>?_⟩
    ·rw [List.mapM_cons];simp only [qfr,had,asAddr,Sem.run_bind,Sem.run_pure,Result.andThen_ok,r1,q1]
    ·cases j with
     | zero =>
      simp only [ZX,qu] at hx;subst hx;exact r2
     | succ j=>exact q2.2 j x (by simpa using hx)
  ·cases h
theorem qsR {ds:List D} {vs:List Value} (h:RepL ok w ι H ds vs):Rep ok w ι H (JA ds) (if hh:vs.toArray.size = 1 then vs.toArray[0] else .tuple vs.toArray):=by
 unfold JA;split
 ·rename_i d;obtain ⟨v,us,rfl,r1,h2⟩:=J4 h;obtain rfl:=qbW h2;simpa using r1
 ·rename_i qt
  have hl:vs.toArray.size≠1:=by
   intro e;have:ds.length = 1:=by rw [← h.1];simpa using e
   match ds,this with
   | [d],_=>exact qt d rfl
  rw [dif_neg hl]
  exact .tup (by simpa using h.1) fun j d hj=>by
   have:=h.2 j d hj;simpa [jp,jV] using this
theorem qk8 {fn:Func} {e:qr} {tmps:Array Value} {ds:List D} (hs:Sim X ok w ι H) (he:EnvRep ok w ι H e tmps) (h:Qz X e H fn.results.toList = some ds) :
  ∃ v,(results fn tmps).run X.P w = .ok v w∧Rep ok w ι H (JA ds) v:=by
 obtain ⟨vs,q1,q2⟩:=qhm hs he h;refine ⟨_,?_,qsR q2⟩
 have hfun:results fn tmps = (do let vs ← fn.results.mapM (qfr tmps);pure (if h:vs.size = 1 then vs[0] else .tuple vs)):=by
  unfold results;congr 1
 rw [hfun,Sem.run_bind,Array.mapM_eq_mapM_toList,Sem.run_map,q1];rfl
theorem qkp {P:Program} {c:Code} {Q Q':Exit→Act→World→Prop} (hq:∀ x a w,Q x a w→Q' x a w):∀ (n:Nat) (a:Act) (w:World),Code.rounds P c Q n a w→Code.rounds P c Q' n a w
 | 0,_,_,h=>h
 | n+1,a,w,h=>by
  rw [rounds_succ] at h ⊢;refine wp_mono h fun x a w hx=>?_;cases x <;> first | exact hq _ _ _ hx | exact qkp hq n a w hx
theorem qjG (hG:Good X):∀ n,JS X (jY X n)∧q1e X n:=by
 intro n
 induction n using Nat.strongRecOn with
 | _ n ih =>
  cases n with
  | zero =>
   refine ⟨fun f args H r H' ok w ι vs h=>by simp [jY] at h,fun f nt n0 c e e' H H' ex ok w ι a h=>by simp [qP] at h⟩
  | succ n =>
   have ihF:=(ih n (by omega)).1;have ihC:=(ih n (by omega)).2;constructor
   ·-- a function
    intro f args H r H' ok w ι vs h hs hv;simp only [jY] at h;split at h
    ·rename_i r0 Zj;injection h with h;subst h;exact hG.con f args H r H' Zj ok w ι vs hs hv
    split at h
    ·cases h
    ·rename_i fn hf;split at h
     ·rename_i hb;obtain ⟨h1,rfl⟩:=Q4 h;obtain ⟨v,q1,q2,q3⟩:=hG.ext f fn args r hf hb h1 ok w ι H vs hs hv;exact Goes.value q1 ⟨ι,ok,hs,q2,.refl _ (qB _),fun i ds hi hd=>by have:=ZH hd;omega⟩
     ·rename_i c hb;cases hbad:X.bad f with
      | true=>simp [hbad] at h
      | false =>
      simp only [hbad,vT,if_false] at h;have hokc:=hG.okc f fn c hf hb hbad;have henter:(callFunc f vs.toArray).run X.P w = .ok (.enter f vs.toArray) w:=Go.Proofs.enters_of hf (hG.ng f fn hf) hb _ _
      have key:∀ ex e H1 ds,(ex = .normal∨ex = .ret)→qP X n f fn.ntmps H.length c (Qv 0 args) H = some (ex,e,H1)→Qz X e H1 fn.results.toList = some ds→J9 (X.fzr f) H.length H1 (JA ds) = some (r,H') →
        Goes X.P (callFunc f vs.toArray) w (Jw X ok w ι H r H'):=by
       intro ex e H1 ds hex hc hr hp;unfold Goes;rw [henter];simp only;refine calls_of_wp hf hb (wp_mono (ihC f fn.ntmps H.length c (Qv 0 args) e H H1 ex ok w ι ⟨vs.toArray ++ Array.replicate (fn.ntmps - vs.toArray.size) undef,[]⟩ hc hokc (qB _) hs ?_ ?_) ?_)
       ·intro t d ht;obtain ⟨_,h2⟩:=qiY args 0 t d ht;rw [Nat.sub_zero] at h2;have qg:t < vs.length:=(by rw [hv.1];exact (List.getElem?_eq_some_iff.1 h2).1);refine ⟨by simp;omega,?_⟩;have:=hv.2 t d h2;rw [jp,qg6 (by simpa using qg)];simpa [jV] using this
       ·simp;omega
       ·rintro x a' w' ⟨rfl,k1,k2,ι1,ok1,k3,k4,k5⟩;obtain ⟨v,q1,q2⟩:=qk8 (fn:=fn) k3 k4 hr;obtain ⟨ok2,ι2,p1,p2,p3,p4⟩:=qlj k5.nle.2 k3 q2 hp;have hpost:Jw X ok w ι H r H' v w':=⟨ι2,ok2,p1,p2,k5.trans p3,p4⟩;rcases hex with rfl | rfl
        ·exact ⟨k2,v,q1,v,rfl,hpost⟩
        ·exact ⟨k2,v,q1,v,rfl,hpost⟩
      split at h
      ·rename_i e H1 hc;split at h
       ·rename_i ds hr;exact key _ e H1 ds (.inl rfl) hc hr h
       ·cases h
      ·rename_i e H1 hc;split at h
       ·rename_i ds hr;exact key _ e H1 ds (.inr rfl) hc hr h
       ·cases h
      ·cases h
   ·-- code
    intro f nt n0 c e e' H H' ex ok w ι a h hoc hn hs he Vf
    have again:∀ (ex1:Ex) (e1:qr) (H1:qi) (Q:Exit→Act→World→Prop) (c1:Code),qP X n f nt n0 c1 e H = some (ex1,e1,H1)→QL X f c1 = true→(∀ a' w',Out X n0 ok w ι H a e1 H1 a' w'→Q (qcp ex1) a' w')→c1.wp X.P Q a w:=by
     intro ex1 e1 H1 Q c1 h1 hoc1 hQ;refine wp_mono (ihC f nt n0 c1 e e1 H H1 ex1 ok w ι a h1 hoc1 hn hs he Vf) ?_;rintro x a' w' ⟨rfl,hout⟩;exact hQ a' w' hout
    have here:Out X n0 ok w ι H a e H a w:=⟨rfl,rfl,ι,ok,hs,he,.refl _ hn⟩;cases c with
    | skip =>
     simp only [qP,qu,qN] at h;obtain ⟨rfl,rfl,rfl⟩:=h;exact wp_skip ⟨rfl,here⟩
    | label l =>
     simp only [qP,qu,qN] at h;obtain ⟨rfl,rfl,rfl⟩:=h;exact wp_label ⟨rfl,here⟩
    | exit id =>
     simp only [qP,qu,qN] at h;obtain ⟨rfl,rfl,rfl⟩:=h;exact wp_exit ⟨rfl,here⟩
    | ret =>
     simp only [qP,qu,qN] at h;obtain ⟨rfl,rfl,rfl⟩:=h;exact wp_ret ⟨rfl,here⟩
    | region id ops draw =>
     simp only [qP] at h;split at h
     ·cases h
     ·rename_i e1 H1 v6;obtain ⟨ok1,ι1,s1,s2,s3⟩:=qyM v6 hn hs he;cases ho:Jr X (jY X n) f nt id draw ops e1 H1 with
      | none=>simp [ho] at h
      | some r =>
       obtain ⟨e2,H2⟩:=r;simp only [ho,jF,qu,qN] at h;obtain ⟨rfl,rfl,rfl⟩:=h;cases draw with
       | false =>
        simp only [Jr] at ho;refine wp_region_list (qi5 ihF ho s1 s2 Vf fun a' w' hout=>⟨rfl,?_⟩);obtain ⟨t1,t2,ι2,ok2,u1,u2,u3⟩:=hout;exact ⟨t1,t2,ι2,ok2,u1,u2,s3.trans (u3.mono s3.nle.2)⟩
       | true =>
        simp only [QL,Bool.not_true,Bool.false_or] at hoc;simp only [Jr] at ho;obtain ⟨d1,d2⟩:=qpO (w':={ w with drawn:=w.drawn+1 }) s1 ⟨rfl,rfl,rfl⟩ rfl;cases XA:X.lp f id with
        | none =>
         rw [XA] at ho hoc;simp only [qdB] at ho;refine wp_region_any hG.mixed (qyW ihF (qnC hoc) ho d1 (s2.evol' s1 d2) Vf fun a' w' hout=>⟨rfl,?_⟩);obtain ⟨t1,t2,ι2,ok2,u1,u2,u3⟩:=hout;exact ⟨t1,t2,ι2,ok2,u1,u2,s3.trans ((d2.mono s3.nle.2).trans (u3.mono s3.nle.2))⟩
        | some q =>
         obtain ⟨L,ow⟩:=q;rw [XA] at ho hoc;refine wp_region_any hG.mixed (qyV ihF (qnC hoc) ho d1 (s2.evol' s1 d2) Vf fun a' w' hout=>⟨rfl,?_⟩);obtain ⟨t1,t2,ι2,ok2,u1,u2,u3⟩:=hout;exact ⟨t1,t2,ι2,ok2,u1,u2,s3.trans ((d2.mono s3.nle.2).trans (u3.mono s3.nle.2))⟩
    | seq x y =>
     simp only [QL,qT] at hoc;simp only [qP] at h;refine wp_seq ?_;split at h
     ·rename_i e1 H1 hx;refine again _ e1 H1 _ x hx hoc.1 fun a1 w1 hout=>?_;obtain ⟨t1,t2,ι1,ok1,u1,u2,u3⟩:=hout;refine wp_mono (ihC f nt n0 y e1 e' H1 H' ex ok1 w1 ι1 a1 h hoc.2 u3.nle.2 u1 u2 (by omega)) ?_;rintro z a2 w2 ⟨rfl,hout2⟩;exact ⟨rfl,Out.trans t1 t2 u3 hout2⟩
     ·rename_i qt;refine again ex e' H' _ x h hoc.1 fun a1 w1 hout=>?_;cases ex with
      | normal=>exact absurd h (qt _ _)
      | exit id=>exact ⟨rfl,hout⟩
      | ret=>exact ⟨rfl,hout⟩
    | cond c x y =>
     simp only [QL,qT] at hoc;simp only [qP] at h;split at h
     ·rename_i t hc;refine wp_cond (qtd hs he hc) (again ex e' H' _ _ h (by cases t;exact hoc.2;exact hoc.1) fun a1 w1 hout=>⟨rfl,hout⟩)
     ·cases h
    | block id c =>
     simp only [QL] at hoc;simp only [qP] at h;refine wp_block ?_;split at h
     ·rename_i i e1 H1 hc;refine again _ e1 H1 _ c hc hoc fun a1 w1 hout=>?_;simp only [qcp,Exit.inBlock];split at h
      ·rename_i hi;simp only [qu,qN] at h;obtain ⟨rfl,rfl,rfl⟩:=h;rw [if_pos hi];exact ⟨rfl,hout⟩
      ·rename_i hi;simp only [qu,qN] at h;obtain ⟨rfl,rfl,rfl⟩:=h;rw [if_neg hi];exact ⟨rfl,hout⟩
     ·rename_i qt;refine again ex e' H' _ c h hoc fun a1 w1 hout=>?_;cases ex with
      | normal=>exact ⟨rfl,hout⟩
      | exit i=>exact absurd h (qt _ _ _)
      | ret=>exact ⟨rfl,hout⟩
    | scope c =>
     simp only [QL] at hoc;simp only [qP] at h;refine wp_scope_straight (again ex e' H' _ c h hoc fun a1 w1 hout=>?_);cases ex <;> exact ⟨rfl,hout⟩
    | loop c =>
     simp only [QL] at hoc
     have key:∀ m,m≤n→∀ (e e':qr) (H H':qi) (ex:Ex) (ok:Nat→Prop) (w:World) (ι:qF) (a:Act),qP X (m+1) f nt n0 (.loop c) e H = some (ex,e',H')→n0≤H.length→Sim X ok w ι H→EnvRep ok w ι H e a.tmps→nt≤a.tmps.size →
       Code.rounds X.P c (CQ X n0 ok w ι H a ex e' H') (m+1) a w:=by
      intro m
      induction m with
      | zero =>
       intro _ e e' H H' ex ok w ι a h;simp only [qP] at h;simp at h
      | succ m ihm =>
       intro hm e e' H H' ex ok w ι a h hn hs he Vf;rw [rounds_succ];rw [qP] at h;split at h
       ·rename_i e1 H1 hc;refine wp_mono ((ih (m+1) (by omega)).2 f nt n0 c e e1 H H1 .normal ok w ι a hc hoc hn hs he Vf) ?_;rintro x a1 w1 ⟨rfl,t1,t2,ι1,ok1,u1,u2,u3⟩;have hrec:=ihm (by omega) e1 e' H1 H' ex ok1 w1 ι1 a1 h u3.nle.2 u1 u2 (by omega);refine qkp ?_ _ _ _ hrec;rintro x a2 w2 ⟨hx,hout⟩;exact ⟨hx,Out.trans t1 t2 u3 hout⟩
       ·rename_i qt;refine wp_mono ((ih (m+1) (by omega)).2 f nt n0 c e e' H H' ex ok w ι a h hoc hn hs he Vf) ?_;rintro x a1 w1 ⟨rfl,hout⟩;cases ex with
        | normal=>exact absurd h (qt _ _)
        | exit id=>exact ⟨rfl,hout⟩
        | ret=>exact ⟨rfl,hout⟩
     exact wp_loop_rounds _ (key n (qB _) e e' H H' ex ok w ι a h hn hs he Vf)
    | goto l=>simp [qP] at h
    | rangeFunc _ _ _ _=>simp [qP] at h
    | refuse _=>simp [qP] at h
end
end Go.Ev
namespace Go.Ev
section
variable {X:Cx}
def V2 (F G:zn):Prop:= ∀ f args H r,F f args H = some r→G f args H = some r
theorem qzW {F G:zn} (h:V2 F G) {f:Nat} {args:List D} {H:qi} {r:D × qi} (hc:VT F f args H = some r):VT G f args H = some r:=by
 cases args with
 | nil=>simp [VT] at hc
 | cons a rest =>
  cases a with
  | optr i st off =>
   simp only [VT] at hc ⊢;cases hd:qq H i with
   | none=>simp [hd] at hc
   | some ds =>
    simp only [hd] at hc ⊢;split at hc
    ·rename_i hf;rw [if_pos hf];cases hF:F f (.optr 0 st off :: rest) [some ds] with
     | none=>simp [hF] at hc
     | some q=>rw [h _ _ _ _ hF];rw [hF] at hc;exact hc
    ·cases hc
  | _=>simp [VT] at hc
theorem qzT {F G:zn} (h:V2 F G) {f:Nat} {args:List D} {H:qi} {r:D × qi} (hc:Yx F f args H = some r):Yx G f args H = some r:=by
 unfold Yx at hc ⊢;split at hc
 ·cases hc
 ·unfold qde at hc ⊢;split at hc
  ·split at hc
   ·rename_i hf;rw [if_pos hf];split at hc
    ·rename_i hF;rw [h _ _ _ _ hF];exact hc
    ·cases hc
   ·cases hc
  ·cases hc
theorem qzZ {F G:zn} (h:V2 F G) {f:Nat} {args:List D} {H:qi} {r:D × qi} (hc:Yy X F f args H = some r):Yy X G f args H = some r:=by
 unfold Yy at hc ⊢;split
 ·rename_i hl;rw [if_pos hl] at hc;exact qzT h hc
 ·rename_i hl;rw [if_neg hl] at hc;exact qzW h hc
theorem qzP {F G:zn} (h:V2 F G) {f:Nat} {args:List D} {H:qi} {r:D × qi} (hc:KC X F f args H = some r):KC X G f args H = some r:=by
 unfold KC at hc ⊢;split
 ·rename_i hb;rw [if_pos hb] at hc;split
  ·rename_i hl;rw [if_pos hl] at hc;exact qzZ h hc
  ·rename_i hl;rw [if_neg hl] at hc;exact h _ _ _ _ hc
 ·rename_i hb;rw [if_neg hb] at hc;split
  ·rename_i ha;rw [if_pos ha] at hc;cases hF:F f args [] with
   | none=>simp [hF] at hc
   | some q=>rw [h _ _ _ _ hF];rw [hF] at hc;exact hc
  ·rename_i ha;rw [if_neg ha] at hc;cases hz:qao H args with
   | none=>simp [hz] at hc
   | some args' =>
    simp only [hz] at hc ⊢;cases hF:F f args' [] with
    | none=>simp [hF] at hc
    | some q=>rw [h _ _ _ _ hF];rw [hF] at hc;exact hc
theorem qiQ {F G:zn} (h:V2 F G) {f:Nat} {args:List D} {H:qi} {r:D × qi} (hc:QX X F f args H = some r):QX X G f args H = some r:=by
 by_cases hp:(X.pureF f && !X.byRef f) = true
 ·obtain ⟨h4,h3,h1⟩:=qe8 hp hc;unfold QX;rw [if_pos hp];rcases h1 with ⟨h1,h2⟩ | ⟨h1,Yk,hfl,hv,args',kC,h2⟩
  ·rw [if_pos h1,h _ _ _ _ h2];simp only [h3,if_true,← h4]
  ·rw [if_neg h1];subst h4;simp only [Yk,hfl,Bool.and_self,if_true,kC,h _ _ _ _ h2,h3,hv]
 ·unfold QX at hc ⊢;rw [if_neg hp] at hc ⊢;exact qzP h hc
theorem q0f {F G:zn} (h:V2 F G) {f:Nat} {args:List D} {H:qi} {r:D × qi} (hc:KD X F f args H = some r):KD X G f args H = some r:=by
 unfold KD at hc ⊢;split at hc
 ·exact qiQ h hc
 ·split at hc
  ·exact qiQ h hc
  ·cases hc
theorem q0c {F G:zn} (h:V2 F G) {f:Nat} {args:List D} {H:qi} {r:D × qi} (hc:JO X F f args H = some r):JO X G f args H = some r:=by
 unfold JO at hc ⊢;split at hc
 ·exact q0f h hc
 ·split at hc
  ·exact qiQ h hc
  ·cases hc
theorem qno {F G:zn} (h:V2 F G) {o:Op} {e:qr} {H:qi} {r:D × qi} (ho:zk X F o e H = some r):zk X G o e H = some r:=by
 cases o with
 | call c =>
  simp only [zk] at ho ⊢;cases hc:c.callee with
  | builtin b=>cases ha:vz X e c.args.toList <;> simp only [hc,ha] at ho ⊢ <;> first | exact ho | cases ho
  | invoke r m=>cases ha:vz X e c.args.toList <;> simp only [hc,ha] at ho ⊢ <;> cases ho
  | value g =>
   simp only [hc] at ho ⊢;cases ha:vz X e c.args.toList with
   | none=>simp [ha] at ho
   | some args =>
    simp only [ha] at ho ⊢;split at ho
    ·exact q0c h ho
    ·cases ho
 | makeFunc g _ _=>cases g <;> exact ho
 | slice _ _ _ _ m=>cases m <;> exact ho
 | _=>exact ho
theorem qgf {F G:zn} (h:V2 F G) {drw:Bool} {o:Op} {e:qr} {H:qi} {r:D × qi} (ho:qL X F drw o e H = some r):qL X G drw o e H = some r:=by
 unfold qL at ho ⊢;split at ho
 ·exact ho
 ·exact ho
 ·split at ho
  ·cases ho
  ·rename_i hb;rw [if_neg hb];exact qno h ho
 ·exact qno h ho
theorem qen {F G:zn} (h:V2 F G) {nt:Nat} {drw:Bool} {ops:Array Oper}:∀ {l:List Oper} {e:qr} {H:qi} {r:qr × qi},j9 X F nt drw ops l e H = some r→j9 X G nt drw ops l e H = some r
 | [],_,_,_,ho=>ho
 | o :: l,e,H,r,ho=>by
  simp only [j9] at ho ⊢;cases hd:vv nt o.dst <;> simp only [hd] at ho ⊢
  ·cases ho
  ·cases hg:jy ops e o.guard with
   | none=>simp [hg] at ho
   | some b =>
    cases b <;> simp only [hg] at ho ⊢
    ·exact qen h ho
    ·cases hx:qL X F drw o.op e H with
     | none=>simp [hx] at ho
     | some q =>
      rw [qgf h hx];rw [hx] at ho;exact qen h ho
theorem qep {F G:zn} (h:V2 F G) {nt:Nat} {ow:List Nat} {ops:Array Oper} {L:Qj}:∀ {l:List Oper} {k:Nat} {ws:List (Nat × qi × qi)} {rs:List (Nat × List Nat)} {e:qr} {H:qi} {r:qr × qi},kp X F nt ow ops L k ws rs l e H = some r→kp X G nt ow ops L k ws rs l e H = some r
 | [],_,_,_,_,_,_,ho=>by simpa [kp] using ho
 | o :: l,k,ws,rs,e,H,r,ho=>by
  simp only [kp] at ho ⊢;cases hd:vv nt o.dst <;> simp only [hd] at ho ⊢
  ·cases ho
  ·cases hg:jy ops e o.guard with
   | none=>simp [hg] at ho
   | some b =>
    cases b <;> simp only [hg] at ho ⊢
    ·exact qep h ho
    ·cases hx:qL X F (Zk ow o.dst) o.op e H with
     | none=>simp [hx] at ho
     | some q =>
      rw [qgf h hx];rw [hx] at ho;simp only at ho ⊢;split at ho
      ·rename_i hc;rw [if_pos hc];exact qep h ho
      ·cases ho
theorem qy4 {F G:zn} (h:V2 F G) {f nt id:Nat} {draw:Bool} {ops:Array Oper} {e:qr} {H:qi} {r:qr × qi} (ho:Jr X F f nt id draw ops e H = some r):Jr X G f nt id draw ops e H = some r:=by
 unfold Jr at ho ⊢;split at ho
 ·exact qep h ho
 ·exact qen h ho
theorem qi3:∀ n,V2 (jY X n) (jY X (n+1))∧∀ f nt n0 c e H r,qP X n f nt n0 c e H = some r→qP X (n+1) f nt n0 c e H = some r
 | 0=>⟨fun f args H r h=>by simp [jY] at h,fun f nt n0 c e H r h=>by simp [qP] at h⟩
 | n+1=>by
  obtain ⟨ihF,ihC⟩:=qi3 n;constructor
  ·intro f args H r h;simp only [jY] at h ⊢;cases Zj:X.con f args H with
   | some q=>simp only [Zj] at h ⊢;exact h
   | none =>
   simp only [Zj] at h ⊢;cases hf:X.P.funcs[f]? with
   | none=>simp [hf] at h
   | some fn =>
    simp only [hf] at h ⊢;cases hb:fn.body with
    | none=>simp only [hb] at h ⊢;exact h
    | some c =>
     simp only [hb] at h ⊢;cases hbad:X.bad f <;> simp only [hbad,vT,if_false,if_true] at h ⊢
     ·cases hc:qP X n f fn.ntmps H.length c (Qv 0 args) H with
      | none=>simp [hc] at h
      | some q =>
       rw [ihC _ _ _ _ _ _ _ hc];rw [hc] at h;exact h
     ·cases h
  ·intro f nt n0 c e H r h;cases c with
   | region id ops draw =>
    rw [qP] at h ⊢;cases v6:enter X f n0 id e H with
    | none=>simp [v6] at h
    | some q =>
     obtain ⟨e1,H1⟩:=q;simp only [v6] at h ⊢;cases ho:Jr X (jY X n) f nt id draw ops e1 H1 with
     | none=>simp [ho] at h
     | some q =>
      rw [qy4 ihF ho];rw [ho] at h;exact h
   | seq a b =>
    rw [qP] at h ⊢;cases ha:qP X n f nt n0 a e H with
    | none=>simp [ha] at h
    | some q =>
     obtain ⟨ex,e1,H1⟩:=q;rw [ihC _ _ _ _ _ _ _ ha];rw [ha] at h;cases ex with
     | normal=>exact ihC _ _ _ _ _ _ _ h
     | exit i=>exact h
     | ret=>exact h
   | cond x a b =>
    rw [qP] at h ⊢;split at h
    ·exact ihC _ _ _ _ _ _ _ h
    ·cases h
   | block id c =>
    rw [qP] at h ⊢;cases ha:qP X n f nt n0 c e H with
    | none=>simp [ha] at h
    | some q =>
     rw [ihC _ _ _ _ _ _ _ ha];rw [ha] at h;exact h
   | scope c =>
    rw [qP] at h ⊢;exact ihC _ _ _ _ _ _ _ h
   | loop c =>
    rw [qP] at h ⊢;cases ha:qP X n f nt n0 c e H with
    | none=>simp [ha] at h
    | some q =>
     obtain ⟨ex,e1,H1⟩:=q;rw [ihC _ _ _ _ _ _ _ ha];rw [ha] at h;cases ex with
     | normal=>exact ihC _ _ _ _ _ _ _ h
     | exit i=>exact h
     | ret=>exact h
   | skip=>exact h
   | label l=>exact h
   | exit id=>exact h
   | ret=>exact h
   | goto l=>simp [qP] at h
   | rangeFunc a b c d=>simp [qP] at h
   | refuse w=>simp [qP] at h
theorem qeq {n m:Nat} (ZD:n≤m):V2 (jY X n) (jY X m):=by
 induction m with
 | zero=>have:n = 0:=by omega
         subst this;exact fun _ _ _ _ h=>h
 | succ m ih =>
  by_cases h:n = m+1
  ·subst h;exact fun _ _ _ _ h=>h
  ·exact fun f args H r hr=>(qi3 m).1 _ _ _ _ (ih (by omega) f args H r hr)
theorem qer {n m:Nat} (ZD:n≤m) {f nt n0:Nat} {c:Code} {e:qr} {H:qi} {r:Ex × qr × qi} (h:qP X n f nt n0 c e H = some r):qP X m f nt n0 c e H = some r:=by
 induction m with
 | zero=>have:n = 0:=by omega
         subst this;exact h
 | succ m ih =>
  by_cases hn:n = m+1
  ·subst hn;exact h
  ·exact (qi3 m).2 _ _ _ _ _ _ _ (ih (by omega))
open Classical in
noncomputable def lim {α:Type} (g:Nat→Option α):Option α:=if h:∃ r,∃ n,g n = some r then some h.choose else none
theorem qlT {α:Type} {g:Nat→Option α} (hm:∀ n m r,n≤m→g n = some r→g m = some r) {r:α}:lim g = some r↔∃ n,g n = some r:=by
 unfold lim;constructor
 ·intro h;split at h
  ·rename_i hex;injection h with h;subst h;exact hex.choose_spec
  ·cases h
 ·rintro ⟨n,hn⟩;have hex:∃ r,∃ n,g n = some r:=⟨r,n,hn⟩;rw [dif_pos hex];obtain ⟨k,hk⟩:=hex.choose_spec;have h1:=hm n (max n k) _ (Nat.le_max_left _ _) hn;have h2:=hm k (max n k) _ (Nat.le_max_right _ _) hk;rw [h1] at h2;injection h2 with h2;rw [← h2]
noncomputable def call (X:Cx):zn:=fun f args H=>lim fun n=>jY X n f args H
noncomputable def code (X:Cx) (f nt n0:Nat) (c:Code) (e:qr) (H:qi):Option (Ex × qr × qi):=lim fun n=>qP X n f nt n0 c e H
theorem call_some {f:Nat} {args:List D} {H:qi} {r:D × qi}:call X f args H = some r↔∃ n,jY X n f args H = some r:=qlT fun _ _ _ ZD h=>qeq ZD _ _ _ _ h
theorem code_some {f nt n0:Nat} {c:Code} {e:qr} {H:qi} {r:Ex × qr × qi}:code X f nt n0 c e H = some r↔∃ n,qP X n f nt n0 c e H = some r:=qlT fun _ _ _ ZD h=>qer ZD h
theorem qnt (n:Nat):V2 (jY X n) (call X):=fun _ _ _ _ h=>call_some.2 ⟨n,h⟩
theorem qzX {f:Nat} {args:List D} {H:qi} {r:D × qi} (hc:VT (call X) f args H = some r):∃ n,VT (jY X n) f args H = some r:=by
 cases args with
 | nil=>simp [VT] at hc
 | cons a rest =>
  cases a with
  | optr i st off =>
   simp only [VT] at hc ⊢;cases hd:qq H i with
   | none=>simp [hd] at hc
   | some ds =>
    simp only [hd] at hc ⊢;split at hc
    ·rename_i hf;cases hF:call X f (.optr 0 st off :: rest) [some ds] with
     | none=>simp [hF] at hc
     | some q =>
      obtain ⟨n,hn⟩:=call_some.1 hF;refine ⟨n,?_⟩;rw [if_pos hf,hn];rw [hF] at hc;exact hc
    ·cases hc
  | _=>simp [VT] at hc
theorem qzU {f:Nat} {args:List D} {H:qi} {r:D × qi} (hc:Yx (call X) f args H = some r):∃ n,Yx (jY X n) f args H = some r:=by
 unfold Yx at hc ⊢;split at hc
 ·cases hc
 ·unfold qde at hc ⊢;split at hc
  ·split at hc
   ·rename_i hf;split at hc
    ·rename_i hF;obtain ⟨n,hn⟩:=call_some.1 hF;exact ⟨n,by rw [if_pos hf,hn];exact hc⟩
    ·cases hc
   ·cases hc
  ·cases hc
theorem q0a {f:Nat} {args:List D} {H:qi} {r:D × qi} (hc:Yy X (call X) f args H = some r):∃ n,Yy X (jY X n) f args H = some r:=by
 unfold Yy at hc ⊢;split at hc
 ·rename_i hl;obtain ⟨n,hn⟩:=qzU hc;exact ⟨n,by rw [if_pos hl];exact hn⟩
 ·rename_i hl;obtain ⟨n,hn⟩:=qzX hc;exact ⟨n,by rw [if_neg hl];exact hn⟩
theorem qzQ {f:Nat} {args:List D} {H:qi} {r:D × qi} (hc:KC X (call X) f args H = some r):∃ n,KC X (jY X n) f args H = some r:=by
 unfold KC at hc ⊢;split at hc
 ·rename_i hb;split at hc
  ·rename_i hl;obtain ⟨n,hn⟩:=q0a hc;exact ⟨n,by rw [if_pos hb,if_pos hl];exact hn⟩
  ·rename_i hl;obtain ⟨n,hn⟩:=call_some.1 hc;exact ⟨n,by rw [if_pos hb,if_neg hl];exact hn⟩
 ·rename_i hb;split at hc
  ·rename_i ha;cases hF:call X f args [] with
   | none=>simp [hF] at hc
   | some q =>
    obtain ⟨n,hn⟩:=call_some.1 hF;exact ⟨n,by rw [if_neg hb,if_pos ha,hn];rw [hF] at hc;exact hc⟩
  ·rename_i ha;cases hz:qao H args with
   | none=>simp [hz] at hc
   | some args' =>
    simp only [hz] at hc;cases hF:call X f args' [] with
    | none=>simp [hF] at hc
    | some q =>
     obtain ⟨n,hn⟩:=call_some.1 hF;exact ⟨n,by rw [if_neg hb,if_neg ha];simp only [hn];rw [hF] at hc;exact hc⟩
theorem qiR {f:Nat} {args:List D} {H:qi} {r:D × qi} (hc:QX X (call X) f args H = some r):∃ n,QX X (jY X n) f args H = some r:=by
 by_cases hp:(X.pureF f && !X.byRef f) = true
 ·obtain ⟨h4,h3,h1⟩:=qe8 hp hc;rcases h1 with ⟨h1,h2⟩ | ⟨h1,Yk,hfl,hv,args',kC,h2⟩
  ·obtain ⟨n,hn⟩:=call_some.1 h2;refine ⟨n,?_⟩;unfold QX;rw [if_pos hp,if_pos h1,hn];simp only [h3,if_true,← h4]
  ·obtain ⟨n,hn⟩:=call_some.1 h2;refine ⟨n,?_⟩;unfold QX;rw [if_pos hp,if_neg h1];subst h4;simp only [Yk,hfl,Bool.and_self,if_true,kC,hn,h3,hv]
 ·unfold QX at hc;rw [if_neg hp] at hc;obtain ⟨n,hn⟩:=qzQ hc;exact ⟨n,by unfold QX;rw [if_neg hp];exact hn⟩
theorem q0g {f:Nat} {args:List D} {H:qi} {r:D × qi} (hc:KD X (call X) f args H = some r):∃ n,KD X (jY X n) f args H = some r:=by
 unfold KD at hc;split at hc
 ·rename_i hp;obtain ⟨n,hn⟩:=qiR hc;exact ⟨n,by unfold KD;rw [hp];exact hn⟩
 ·rename_i hp;split at hc
  ·rename_i H1 hst;obtain ⟨n,hn⟩:=qiR hc;exact ⟨n,by unfold KD;rw [hp];simp only [hst];exact hn⟩
  ·cases hc
theorem q0d {f:Nat} {args:List D} {H:qi} {r:D × qi} (hc:JO X (call X) f args H = some r):∃ n,JO X (jY X n) f args H = some r:=by
 unfold JO at hc;split at hc
 ·rename_i hp;obtain ⟨n,hn⟩:=q0g hc;exact ⟨n,by unfold JO;rw [hp];exact hn⟩
 ·rename_i hp;split at hc
  ·rename_i args' l hst;obtain ⟨n,hn⟩:=qiR hc;exact ⟨n,by unfold JO;rw [hp];simp only [hst];exact hn⟩
  ·cases hc
theorem qnp {o:Op} {e:qr} {H:qi} {r:D × qi} (ho:zk X (call X) o e H = some r):∃ n,zk X (jY X n) o e H = some r:=by
 cases o with
 | call c =>
  simp only [zk] at ho ⊢;cases hc:c.callee with
  | builtin b=>cases ha:vz X e c.args.toList <;> simp only [hc,ha] at ho ⊢ <;> first | exact ⟨0,ho⟩ | cases ho
  | invoke r m=>cases ha:vz X e c.args.toList <;> simp only [hc,ha] at ho <;> cases ho
  | value g =>
   simp only [hc] at ho ⊢;cases ha:vz X e c.args.toList with
   | none=>simp [ha] at ho
   | some args =>
    simp only [ha] at ho ⊢;split at ho
    ·rename_i f caps hg;obtain ⟨n,hn⟩:=q0d ho;exact ⟨n,hn⟩
    ·cases ho
 | makeFunc g _ _=>cases g <;> exact ⟨0,ho⟩
 | slice _ _ _ _ m=>cases m <;> exact ⟨0,ho⟩
 | _=>exact ⟨0,ho⟩
theorem qns {drw:Bool} {o:Op} {e:qr} {H:qi} {r:D × qi} (ho:qL X (call X) drw o e H = some r):∃ n,qL X (jY X n) drw o e H = some r:=by
 unfold qL at ho ⊢;split at ho
 ·exact ⟨0,ho⟩
 ·exact ⟨0,ho⟩
 ·split at ho
  ·cases ho
  ·rename_i hb;obtain ⟨n,hn⟩:=qnp ho;exact ⟨n,by simp only [hb];exact hn⟩
 ·exact qnp ho
theorem qi6 {nt:Nat} {drw:Bool} {ops:Array Oper}:∀ {l:List Oper} {e:qr} {H:qi} {r:qr × qi},j9 X (call X) nt drw ops l e H = some r→∃ n,j9 X (jY X n) nt drw ops l e H = some r
 | [],_,_,_,ho=>⟨0,ho⟩
 | o :: l,e,H,r,ho=>by
  simp only [j9] at ho;cases hd:vv nt o.dst <;> simp only [hd] at ho
  ·cases ho
  ·cases hg:jy ops e o.guard with
   | none=>simp [hg] at ho
   | some b =>
    cases b <;> simp only [hg] at ho
    ·obtain ⟨n,hn⟩:=qi6 ho;exact ⟨n,by simp only [j9,hd,hg];exact hn⟩
    ·cases hx:qL X (call X) drw o.op e H with
     | none=>simp [hx] at ho
     | some q =>
      rw [hx] at ho;obtain ⟨n,hn⟩:=qns hx;obtain ⟨m,hm⟩:=qi6 ho;refine ⟨max n m,?_⟩;simp only [j9,hd,hg];rw [qgf (qeq (Nat.le_max_left n m)) hn];exact qen (qeq (Nat.le_max_right n m)) hm
theorem qy5 {nt:Nat} {drw:Bool} {ops:Array Oper} {l:List Oper} {e:qr} {H:qi} {r:qr × qi}:j9 X (call X) nt drw ops l e H = some r↔∃ n,j9 X (jY X n) nt drw ops l e H = some r :=
 ⟨qi6,fun ⟨n,hn⟩=>qen (qnt n) hn⟩
theorem qi7 {nt:Nat} {ow:List Nat} {ops:Array Oper} {L:Qj}:∀ {l:List Oper} {k:Nat} {ws:List (Nat × qi × qi)} {rs:List (Nat × List Nat)} {e:qr} {H:qi} {r:qr × qi},kp X (call X) nt ow ops L k ws rs l e H = some r→∃ n,kp X (jY X n) nt ow ops L k ws rs l e H = some r
 | [],_,_,_,_,_,_,ho=>⟨0,by simpa [kp] using ho⟩
 | o :: l,k,ws,rs,e,H,r,ho=>by
  simp only [kp] at ho;cases hd:vv nt o.dst <;> simp only [hd] at ho
  ·cases ho
  ·cases hg:jy ops e o.guard with
   | none=>simp [hg] at ho
   | some b =>
    cases b <;> simp only [hg] at ho
    ·obtain ⟨n,hn⟩:=qi7 ho;exact ⟨n,by simp only [kp,hd,hg];exact hn⟩
    ·cases hx:qL X (call X) (Zk ow o.dst) o.op e H with
     | none=>simp [hx] at ho
     | some q =>
      rw [hx] at ho;simp only at ho;split at ho
      ·rename_i hc;obtain ⟨n,hn⟩:=qns hx;obtain ⟨m,hm⟩:=qi7 ho;refine ⟨max n m,?_⟩;simp only [kp,hd,hg];rw [qgf (qeq (Nat.le_max_left n m)) hn];simp only;rw [if_pos hc];exact qep (qeq (Nat.le_max_right n m)) hm
      ·cases ho
theorem evR_lim {f nt id:Nat} {draw:Bool} {ops:Array Oper} {e:qr} {H:qi} {r:qr × qi}:Jr X (call X) f nt id draw ops e H = some r↔∃ n,Jr X (jY X n) f nt id draw ops e H = some r:=by
 unfold Jr;split
 ·exact ⟨qi7,fun ⟨n,hn⟩=>qep (qnt n) hn⟩
 ·exact qy5
theorem qaP {α:Type} {x y:Option α} (h:∀ r,x = some r↔y = some r):x = y:=by
 cases x with
 | none =>
  cases y with
  | none=>rfl
  | some b=>exact absurd ((h b).2 rfl) (by simp)
 | some a=>exact ((h a).1 rfl).symm
section eqs
variable {f nt n0:Nat} {e:qr} {H:qi}
theorem qz3:code X f nt n0 .skip e H = some (.normal,e,H):=code_some.2 ⟨1,rfl⟩
theorem qz7 {l:Nat}:code X f nt n0 (.label l) e H = some (.normal,e,H):=code_some.2 ⟨1,rfl⟩
theorem qz8 {i:Nat}:code X f nt n0 (.exit i) e H = some (.exit i,e,H):=code_some.2 ⟨1,rfl⟩
theorem qz6:code X f nt n0 .ret e H = some (.ret,e,H):=code_some.2 ⟨1,rfl⟩
theorem qnX {id:Nat} {ops:Array Oper} {draw:Bool}:code X f nt n0 (.region id ops draw) e H = match enter X f n0 id e H with
  | none=>none
  | some (e,H)=>(Jr X (call X) f nt id draw ops e H).map fun (e,H)=>(.normal,e,H):=by
 refine qaP fun r=>?_;rw [code_some];cases v6:enter X f n0 id e H with
 | none =>
  simp only [reduceCtorEq,iff_false,not_exists];intro n h;cases n <;> simp [qP,v6] at h
 | some q =>
  obtain ⟨e1,H1⟩:=q;constructor
  ·rintro ⟨n,hn⟩;cases n with
   | zero=>simp [qP] at hn
   | succ n =>
    simp only [qP,v6] at hn;cases ho:Jr X (jY X n) f nt id draw ops e1 H1 with
    | none=>simp [ho] at hn
    | some q =>
     simp only [evR_lim.2 ⟨n,ho⟩];rw [ho] at hn;exact hn
  ·intro h;simp only at h;cases ho:Jr X (call X) f nt id draw ops e1 H1 with
   | none=>simp [ho] at h
   | some q =>
    obtain ⟨n,hn⟩:=evR_lim.1 ho;refine ⟨n+1,?_⟩;simp only [qP,v6,hn];rw [ho] at h;exact h
theorem qz4 {a b:Code}:code X f nt n0 (.seq a b) e H = match code X f nt n0 a e H with
  | some (.normal,e,H)=>code X f nt n0 b e H
  | r=>r:=by
 refine qaP fun r=>?_;rw [code_some];constructor
 ·rintro ⟨n,hn⟩;cases n with
  | zero=>simp [qP] at hn
  | succ n =>
   simp only [qP] at hn;cases ha:qP X n f nt n0 a e H with
   | none=>simp [ha] at hn
   | some q =>
    obtain ⟨ex,e1,H1⟩:=q;rw [code_some.2 ⟨n,ha⟩];rw [ha] at hn;cases ex with
    | normal=>exact code_some.2 ⟨n,hn⟩
    | exit i=>exact hn
    | ret=>exact hn
 ·intro h;cases ha:code X f nt n0 a e H with
  | none=>simp [ha] at h
  | some q =>
   obtain ⟨n,hn⟩:=code_some.1 ha;obtain ⟨ex,e1,H1⟩:=q;rw [ha] at h;cases ex with
   | normal =>
    obtain ⟨m,hm⟩:=code_some.1 h;refine ⟨max n m+1,?_⟩;simp only [qP,qer (Nat.le_max_left n m) hn];exact qer (Nat.le_max_right n m) hm
   | exit i=>exact ⟨n+1,by simp only [qP,hn];exact h⟩
   | ret=>exact ⟨n+1,by simp only [qP,hn];exact h⟩
theorem qz9 {c:Operand} {a b:Code}:code X f nt n0 (.cond c a b) e H = match qQ X e c with
  | some (.bool t)=>code X f nt n0 (if t then a else b) e H
  | _=>none:=by
 refine qaP fun r=>?_;rw [code_some];constructor
 ·rintro ⟨n,hn⟩;cases n with
  | zero=>simp [qP] at hn
  | succ n =>
   simp only [qP] at hn;split at hn
   ·rename_i hc;rw [hc];exact code_some.2 ⟨n,hn⟩
   ·cases hn
 ·intro h;split at h
  ·rename_i t hc;obtain ⟨n,hn⟩:=code_some.1 h;exact ⟨n+1,by simp only [qP,hc];exact hn⟩
  ·cases h
theorem qzA {id:Nat} {c:Code}:code X f nt n0 (.block id c) e H = match code X f nt n0 c e H with
  | some (.exit i,e,H)=>if i = id then some (.normal,e,H) else some (.exit i,e,H)
  | r=>r:=by
 refine qaP fun r=>?_;rw [code_some];constructor
 ·rintro ⟨n,hn⟩;cases n with
  | zero=>simp [qP] at hn
  | succ n =>
   simp only [qP] at hn;cases ha:qP X n f nt n0 c e H with
   | none=>simp [ha] at hn
   | some q=>rw [code_some.2 ⟨n,ha⟩];rw [ha] at hn;exact hn
 ·intro h;cases ha:code X f nt n0 c e H with
  | none=>simp [ha] at h
  | some q =>
   obtain ⟨n,hn⟩:=code_some.1 ha;exact ⟨n+1,by simp only [qP,hn];rw [ha] at h;exact h⟩
theorem qz5 {c:Code}:code X f nt n0 (.scope c) e H = code X f nt n0 c e H:=by
 refine qaP fun r=>?_;rw [code_some,code_some];constructor
 ·rintro ⟨n,hn⟩;cases n with
  | zero=>simp [qP] at hn
  | succ n=>exact ⟨n,hn⟩
 ·rintro ⟨n,hn⟩;exact ⟨n+1,hn⟩
theorem qiK {c:Code}:code X f nt n0 (.loop c) e H = match code X f nt n0 c e H with
  | some (.normal,e,H)=>code X f nt n0 (.loop c) e H
  | r=>r:=by
 refine qaP fun r=>?_;rw [code_some];constructor
 ·rintro ⟨n,hn⟩;cases n with
  | zero=>simp [qP] at hn
  | succ n =>
   rw [qP] at hn;cases ha:qP X n f nt n0 c e H with
   | none=>simp [ha] at hn
   | some q =>
    obtain ⟨ex,e1,H1⟩:=q;rw [code_some.2 ⟨n,ha⟩];rw [ha] at hn;cases ex with
    | normal=>exact code_some.2 ⟨n,hn⟩
    | exit i=>exact hn
    | ret=>exact hn
 ·intro h;cases ha:code X f nt n0 c e H with
  | none=>simp [ha] at h
  | some q =>
   obtain ⟨n,hn⟩:=code_some.1 ha;obtain ⟨ex,e1,H1⟩:=q;rw [ha] at h;cases ex with
   | normal =>
    obtain ⟨m,hm⟩:=code_some.1 h;refine ⟨max n m+1,?_⟩;rw [qP];simp only [qer (Nat.le_max_left n m) hn];exact qer (Nat.le_max_right n m) hm
   | exit i=>exact ⟨n+1,by rw [qP];simp only [hn];exact h⟩
   | ret=>exact ⟨n+1,by rw [qP];simp only [hn];exact h⟩
def Y9 (o : Oper) : Oper := { dst := o.dst, op := o.op, type := 0, pos := "", after := #[], guard := o.guard }
def kW:List Oper→List Oper
 | []=>[]
 | o :: l=>Y9 o :: kW l
def kb:Code→Code
 | .region id ops draw=>.region id (kW ops.toList).toArray draw
 | .seq a b=>.seq (kb a) (kb b)
 | .cond x a b=>.cond x (kb a) (kb b)
 | .block id c=>.block id (kb c)
 | .loop c=>.loop (kb c)
 | .scope c=>.scope (kb c)
 | c=>c
theorem qj8:∀ (l:List Oper) (j:Nat),((kW l)[j]?).bind (·.dst) = (l[j]?).bind (·.dst)
 | [],j=>by simp [kW]
 | o :: l,0=>by simp [kW,Y9]
 | o :: l,j+1=>by simp [kW,qj8 l j]
theorem qmF (ops:Array Oper) (e:qr) (g:Option (Nat × Bool)):jy (kW ops.toList).toArray e g = jy ops e g:=by
 cases g with
 | none=>rfl
 | some q =>
  obtain ⟨j,want⟩:=q;have h:=qj8 ops.toList j;simp only [jy];have e1:((kW ops.toList).toArray[j]?) = (kW ops.toList)[j]?:=by simp
  have e2:ops[j]? = ops.toList[j]?:=by simp
  rw [e1,e2,h]
theorem qnl {F:zn} {drw:Bool} (ops:Array Oper):∀ (l:List Oper) (e:qr) (H:qi),j9 X F nt drw (kW ops.toList).toArray (kW l) e H = j9 X F nt drw ops l e H
 | [],e,H=>rfl
 | o :: l,e,H=>by
  simp only [kW,j9,Y9,qmF,qnl ops l]
theorem qnm {F:zn} {ow:List Nat} (ops:Array Oper) {L:Qj}:∀ (l:List Oper) (k:Nat) (ws:List (Nat × qi × qi)) (rs:List (Nat × List Nat)) (e:qr) (H:qi),kp X F nt ow (kW ops.toList).toArray L k ws rs (kW l) e H = kp X F nt ow ops L k ws rs l e H
 | [],k,ws,rs,e,H=>by simp only [kW,kp]
 | o :: l,k,ws,rs,e,H=>by
  simp only [kW,kp,Y9,qmF,qnm ops l]
theorem qlo:∀ (l:List Oper),qaM (kW l) = qaM l
 | []=>rfl
 | o :: l=>by simp only [kW,qaM,Y9,qlo l]
theorem qy7:∀ (n:Nat) (c:Code) (e:qr) (H:qi),qP X n f nt n0 (kb c) e H = qP X n f nt n0 c e H:=by
 intro n
 induction n with
 | zero=>intro c e H;simp [qP]
 | succ n ih =>
  intro c e H;cases c with
  | region id ops draw =>
   simp only [kb,qP];cases enter X f n0 id e H with
   | none=>rfl
   | some q =>
    obtain ⟨e1,H1⟩:=q;have:(kW ops.toList).toArray.toList = kW ops.toList:=(by simp);cases draw <;> cases XA:X.lp f id <;> simp only [Jr,XA,qnl,qnm,qlo,qdB]
  | seq a b=>simp only [kb,qP,ih]
  | cond x a b =>
   simp only [kb,qP];split
   ·rename_i t _;cases t <;> simp only [ih,if_true,if_false,vT]
   ·rfl
  | block id c=>simp only [kb,qP,ih]
  | loop c =>
   have:=ih (.loop c);simp only [kb] at this;simp only [kb,qP,ih,this]
  | scope c=>simp only [kb,qP,ih]
  | _=>rfl
theorem qgn {c:Code}:code X f nt n0 (kb c) e H = code X f nt n0 c e H:=by
 unfold code;congr 1;funext n;exact qy7 n c e H
theorem Yw {args:List D} {r:D × qi} (Zj:X.con f args H = some r):call X f args H = some r:=call_some.2 ⟨1,by simp only [jY,Zj]⟩
theorem qzO {fn:Func} {c:Code} {args:List D} (Zj:X.con f args H = none) (hf:X.P.funcs[f]? = some fn) (hb:fn.body = some c) (hbad:X.bad f = false) :
  call X f args H = match code X f fn.ntmps H.length c (Qv 0 args) H with
   | some (.normal,e,H') | some (.ret,e,H')=>match Qz X e H' fn.results.toList with
    | some ds=>J9 (X.fzr f) H.length H' (JA ds)
    | none=>none
   | _=>none:=by
 refine qaP fun r=>?_;rw [call_some];constructor
 ·rintro ⟨n,hn⟩;cases n with
  | zero=>simp [jY] at hn
  | succ n =>
   simp only [jY,Zj,hf,hb,hbad,vT,if_false] at hn;cases hc:qP X n f fn.ntmps H.length c (Qv 0 args) H with
   | none=>simp [hc] at hn
   | some q=>rw [code_some.2 ⟨n,hc⟩];rw [hc] at hn;exact hn
 ·intro h;cases hc:code X f fn.ntmps H.length c (Qv 0 args) H with
  | none=>simp [hc] at h
  | some q =>
   obtain ⟨n,hn⟩:=code_some.1 hc;refine ⟨n+1,?_⟩;simp only [jY,Zj,hf,hb,hbad,vT,if_false,hn];rw [hc] at h;exact h
theorem qiP {fn:Func} {args:List D} (Zj:X.con f args H = none) (hf:X.P.funcs[f]? = some fn) (hb:fn.body = none):call X f args H = (X.ext f args).map (·,H):=by
 refine qaP fun r=>?_;rw [call_some];constructor
 ·rintro ⟨n,hn⟩;cases n with
  | zero=>simp [jY] at hn
  | succ n =>
   simp only [jY,Zj,hf,hb] at hn;exact hn
 ·intro h;exact ⟨1,by simp only [jY,Zj,hf,hb];exact h⟩
end eqs
theorem qgs (hG:Good X):JS X (call X):=by
 intro f args H r H' ok w ι vs h hs hv;obtain ⟨n,hn⟩:=call_some.1 h;exact (qjG hG n).1 f args H r H' ok w ι vs hn hs hv
end
end Go.Ev
namespace Go.Ev
def Yu (ks:List Nat):Nat→Nat→qr→qi→Option (qr × qi)
 | 0,_,e,H=>some (kf ks e,H)
 | k+1,n0,e,H=>if H.length≤n0+k then some (kf ks e,H)
  else if qaq (n0+k) (kf ks e) && (H.take (n0+k)).all (kR (n0+k)) then some (kf ks e,H.take (n0+k)) else none
def qi9 (zs ks:List Nat) (k n0:Nat) (e:qr) (H:qi):Option (qr × qi) :=
 match qcU zs e H with
 | some (e,H)=>Yu ks k n0 e H
 | none=>none
def Qu (zs S ks:List Nat) (n0:Nat) (e:qr) (H:qi):Option (qr × qi) :=
 match zs with
 | []=>qcC n0 S ks e H
 | zs=>match qcU zs e H with
  | some (e,H)=>qcC n0 S ks e H
  | none=>none
def qn0 (ss:List Nat) (g:qi→Option (qr × qi)) (e:qr) (H:qi):Option (qr × qi) :=
 match qa8 e ss H with
 | some H=>g H
 | none=>none
def zG:List Nat→Code→Code
 | [],c=>c
 | 0 :: p,.seq a _=>zG p a
 | _ :: p,.seq _ b=>zG p b
 | 0 :: p,.cond _ a _=>zG p a
 | _ :: p,.cond _ _ b=>zG p b
 | _ :: p,.block _ c=>zG p c
 | _ :: p,.scope c=>zG p c
 | _ :: p,.loop c=>zG p c
 | _,c=>c
def qY (f:Func):Code:=f.body.getD .skip
attribute [simp] qz3 qz7 qz8 qz6 qz9
attribute [simp] Y9 kW kb vv zk qL VS qQ vz Xw Q2 qcc qcb qf vj kf Yu qi9 Qu qn0 qa8 qc9 Qv Qz JA qgz QZ qfN qb7 JO KD qgO QX Yt KC ldD stD X2 qq hset cellsOf qgd qgc qem XZ qdJ qfQ qfP qbS qb8 qea qdV qb4 Yy VT noZ noZ.noZL qgw qau qdW qc7 Xc qbL qdv qg0 qgm eqD qb6 jT qdz vA V9 Xo kE idFree idFree.idFreeL vFree vFree.vFreeL closed closed.closedL kR qiU qaq YG pack1 pack1.packs J9 qdK JU jA v7 Vv qbR qcU XT VY qcC qfp qhl Xr YE YD qbX Xs renD renD.renL X6 qdU Xm Jh shift shift.shiftL freeze freeze.freezeL qao qxl zG qY strD
@[simp low] theorem qd0 (ds:List D) (off:Nat) (xs:List D):qH ds off xs = ds.take off ++ xs ++ ds.drop (off+xs.length):=rfl
section
variable {X:Cx} {f nt n0:Nat}
inductive Fr where
 | seq (b:Code)
 | block (id:Nat)
def Run (X:Cx) (f nt n0:Nat) (Q:Ex→qr→qi→Prop):List Fr→Option (Ex × qr × qi)→Prop
 | _,none=>False
 | [],some (ex,e,H)=>Q ex e H
 | .seq b :: fs,some (.normal,e,H)=>Run X f nt n0 Q fs (code X f nt n0 b e H)
 | .seq _ :: fs,some (ex,e,H)=>Run X f nt n0 Q fs (some (ex,e,H))
 | .block id :: fs,some (.exit i,e,H)=>if i = id then Run X f nt n0 Q fs (some (.normal,e,H)) else Run X f nt n0 Q fs (some (.exit i,e,H))
 | .block _ :: fs,some (ex,e,H)=>Run X f nt n0 Q fs (some (ex,e,H))
variable {Q:Ex→qr→qi→Prop} {fs:List Fr} {e:qr} {H:qi} {a b c:Code}
theorem kv:Run X f nt n0 Q fs none = False:=by unfold Run;rfl
theorem Kc {ex:Ex}:Run X f nt n0 Q [] (some (ex,e,H)) = Q ex e H:=by unfold Run;rfl
theorem qjU:Run X f nt n0 Q (.seq b :: fs) (some (.normal,e,H)) = Run X f nt n0 Q fs (code X f nt n0 b e H):=by rw [Run]
theorem qjV {i:Nat}:Run X f nt n0 Q (.seq b :: fs) (some (.exit i,e,H)) = Run X f nt n0 Q fs (some (.exit i,e,H)):=by rw [Run];intro h;cases h
theorem qgZ:Run X f nt n0 Q (.seq b :: fs) (some (.ret,e,H)) = Run X f nt n0 Q fs (some (.ret,e,H)):=by rw [Run];intro h;cases h
theorem qjX {id:Nat}:Run X f nt n0 Q (.block id :: fs) (some (.normal,e,H)) = Run X f nt n0 Q fs (some (.normal,e,H)):=by rw [Run];intro i h;cases h
theorem qjW {id:Nat}:Run X f nt n0 Q (.block id :: fs) (some (.ret,e,H)) = Run X f nt n0 Q fs (some (.ret,e,H)):=by rw [Run];intro i h;cases h
theorem qjY {id i:Nat}:Run X f nt n0 Q (.block id :: fs) (some (.exit i,e,H)) = if i = id then Run X f nt n0 Q fs (some (.normal,e,H)) else Run X f nt n0 Q fs (some (.exit i,e,H)):=by rw [Run]
theorem qqw:Run X f nt n0 Q fs (code X f nt n0 (.seq a b) e H) = Run X f nt n0 Q (.seq b :: fs) (code X f nt n0 a e H):=by
 rw [qz4];cases h:code X f nt n0 a e H with
 | none=>simp [kv]
 | some q =>
  obtain ⟨ex,e1,H1⟩:=q;cases ex with
  | normal=>rw [qjU]
  | exit i=>rw [qjV]
  | ret=>rw [qgZ]
theorem qjZ {id:Nat}:Run X f nt n0 Q fs (code X f nt n0 (.block id c) e H) = Run X f nt n0 Q (.block id :: fs) (code X f nt n0 c e H):=by
 rw [qzA];cases h:code X f nt n0 c e H with
 | none=>simp [kv]
 | some q =>
  obtain ⟨ex,e1,H1⟩:=q;cases ex with
  | normal=>rw [qjX]
  | exit i=>rw [qjY];by_cases hi:i = id <;> simp [hi]
  | ret=>rw [qjW]
theorem qqx:Run X f nt n0 Q fs (code X f nt n0 (.scope c) e H) = Run X f nt n0 Q fs (code X f nt n0 c e H):=by rw [qz5]
theorem Run.mono {o:Option (Ex × qr × qi)} {R:Ex→qr→qi→Prop} (h:Run X f nt n0 R [] o) (hq:∀ ex e H,R ex e H→Run X f nt n0 Q fs (some (ex,e,H))):Run X f nt n0 Q fs o:=by
 cases o with
 | none=>rw [kv] at h;exact h.elim
 | some q =>
  obtain ⟨ex,e1,H1⟩:=q;rw [Kc] at h;exact hq _ _ _ h
theorem Run.loop {σ:Type} (I:σ→qr→qi→Prop) (m:σ→Nat)
  (step:∀ s e H,I s e H→Run X f nt n0 (fun ex e' H'=>match ex with | .normal=>∃ s',m s' < m s∧I s' e' H' | ex=>Q ex e' H') [] (code X f nt n0 c e H)) :
  ∀ s e H,I s e H→Run X f nt n0 Q [] (code X f nt n0 (.loop c) e H):=by
 suffices h:∀ k s e H,m s < k→I s e H→Run X f nt n0 Q [] (code X f nt n0 (.loop c) e H) from
  fun s e H hi=>h (m s+1) s e H (Nat.lt_succ_self _) hi
 intro k
 induction k with
 | zero=>intro s e H h;omega
 | succ k ih =>
  intro s e H hk hi;have hs:=step s e H hi;rw [qiK];cases ho:code X f nt n0 c e H with
  | none=>rw [ho,kv] at hs;exact hs.elim
  | some q =>
   obtain ⟨ex,e1,H1⟩:=q;rw [ho,Kc] at hs;cases ex with
   | normal =>
    obtain ⟨s',qg,ZG⟩:=hs;exact ih s' e1 H1 (by omega) ZG
   | exit i=>exact hs
   | ret=>exact hs
def Fin (X:Cx) (z:Bool) (rs:List ResultVar) (n0:Nat) (r:D × qi):Ex→qr→qi→Prop
 | .exit _,_,_=>False
 | _,e,H=>(Qz X e H rs).bind (fun ds=>J9 z n0 H (JA ds)) = some r
theorem qiz {z:Bool} {rs:List ResultVar} {r:D × qi}:Fin X z rs n0 r .ret e H = ((Qz X e H rs).bind (fun ds=>J9 z n0 H (JA ds)) = some r):=rfl
theorem qi0 {z:Bool} {rs:List ResultVar} {r:D × qi}:Fin X z rs n0 r .normal e H = ((Qz X e H rs).bind (fun ds=>J9 z n0 H (JA ds)) = some r):=rfl
theorem qs {fn:Func} {args:List D} {r:D × qi} (hf:X.P.funcs[f]? = some fn) (hb:fn.body.isSome = true) (hbad:X.bad f = false∧X.con f args H = none)
  (h:Run X f fn.ntmps H.length (Fin X (X.fzr f) fn.results.toList H.length r) [] (code X f fn.ntmps H.length (kb (qY fn)) (Qv 0 args) H)):call X f args H = some r:=by
 rw [qgn] at h;cases zN:fn.body with
 | none=>rw [zN] at hb;cases hb
 | some c =>
  have hc:qY fn = c:=by simp only [qY,zN,Ju]
  rw [hc] at h;rw [qzO hbad.2 hf zN hbad.1];cases ho:code X f fn.ntmps H.length c (Qv 0 args) H with
  | none=>rw [ho,kv] at h;exact h.elim
  | some q =>
   obtain ⟨ex,e1,H1⟩:=q;rw [ho,Kc] at h;cases ex with
   | exit i=>exact h.elim
   | normal =>
    rw [qi0] at h;cases hr:Qz X e1 H1 fn.results.toList with
    | none=>rw [hr] at h;cases h
    | some ds=>rw [hr] at h;simpa [hr] using h
   | ret =>
    rw [qiz] at h;cases hr:Qz X e1 H1 fn.results.toList with
    | none=>rw [hr] at h;cases h
    | some ds=>rw [hr] at h;simpa [hr] using h
end
attribute [simp] kv Kc qjU qjV qgZ qjX qjW qjY qqw qjZ qqx qiz qi0
end Go.Ev
namespace Go.Ev
mutual
theorem qsJ (n0:Nat) (H:qi) (seen:List Nat) (acc:qi):∀ (d:D),idFree d = true→pack1 n0 H seen acc d = some (d,seen,acc)
 | .agg cs,h=>by simp only [idFree] at h;simp only [pack1,qfx n0 H seen acc cs h,jF]
 | .tup cs,h=>by simp only [idFree] at h;simp only [pack1,qfx n0 H seen acc cs h,jF]
 | .fn f cs,h=>by simp only [pack1,h,if_true]
 | .iface t d,h=>by simp only [pack1,h,if_true]
 | .optr ..,h=>by simp [idFree] at h
 | .osl ..,h=>by simp [idFree] at h
 | .bool _,_=>rfl
 | .int _ _,_=>rfl
 | .str _,_=>rfl
 | .nilp,_=>rfl
 | .nilf,_=>rfl
 | .nili,_=>rfl
 | .raw _,_=>rfl
 | .vptr _,_=>rfl
 | .vsl ..,_=>rfl
theorem qfx (n0:Nat) (H:qi) (seen:List Nat) (acc:qi):∀ (cs:List D),idFree.idFreeL cs = true→pack1.packs n0 H seen acc cs = some (cs,seen,acc)
 | [],_=>rfl
 | d :: l,h=>by
  simp only [idFree.idFreeL,qT] at h;simp only [pack1.packs,qsJ n0 H seen acc d h.1,qfx n0 H seen acc l h.2]
end
mutual
theorem qjN (n:Nat):∀ (d:D),idFree d = true→shift n d = d
 | .agg cs,h=>by simp only [idFree] at h;simp only [shift,qdy n cs h]
 | .tup cs,h=>by simp only [idFree] at h;simp only [shift,qdy n cs h]
 | .fn f cs,h=>by simp only [idFree] at h;simp only [shift,qdy n cs h]
 | .iface t d,h=>by simp only [idFree] at h;simp only [shift,qjN n d h]
 | .optr ..,h=>by simp [idFree] at h
 | .osl ..,h=>by simp [idFree] at h
 | .bool _,_=>rfl
 | .int _ _,_=>rfl
 | .str _,_=>rfl
 | .nilp,_=>rfl
 | .nilf,_=>rfl
 | .nili,_=>rfl
 | .raw _,_=>rfl
 | .vptr _,_=>rfl
 | .vsl ..,_=>rfl
theorem qdy (n:Nat):∀ (cs:List D),idFree.idFreeL cs = true→shift.shiftL n cs = cs
 | [],_=>rfl
 | d :: l,h=>by
  simp only [idFree.idFreeL,qT] at h;simp only [shift.shiftL,qjN n d h.1,qdy n l h.2]
end
mutual
theorem qoh (n:Nat):∀ (d:D),idFree d = true→closed n d = true
 | .agg cs,h=>by simp only [idFree] at h;simp only [closed,Vw n cs h]
 | .tup cs,h=>by simp only [idFree] at h;simp only [closed,Vw n cs h]
 | .fn f cs,h=>by simp only [idFree] at h;simp only [closed,Vw n cs h]
 | .iface t d,h=>by simp only [idFree] at h;simp only [closed,qoh n d h]
 | .optr ..,h=>by simp [idFree] at h
 | .osl ..,h=>by simp [idFree] at h
 | .bool _,_=>rfl
 | .int _ _,_=>rfl
 | .str _,_=>rfl
 | .nilp,_=>rfl
 | .nilf,_=>rfl
 | .nili,_=>rfl
 | .raw _,_=>rfl
 | .vptr _,_=>rfl
 | .vsl ..,_=>rfl
theorem Vw (n:Nat):∀ (cs:List D),idFree.idFreeL cs = true→closed.closedL n cs = true
 | [],_=>rfl
 | d :: l,h=>by
  simp only [idFree.idFreeL,qT] at h;simp only [closed.closedL,qoh n d h.1,Vw n l h.2,Bool.and_self]
end
theorem qgb (H:qi):∀ (cs:List D),idFree.idFreeL cs = true→freeze.freezeL H cs = some cs
 | [],_=>rfl
 | d :: l,h=>by
  simp only [idFree.idFreeL,qT] at h
  have hd:freeze H d = some d:=by
   cases d with
   | agg cs=>have h1:=h.1;simp only [idFree] at h1;simp only [freeze,qgb H cs h1,jF]
   | fn f cs=>have h1:=h.1;simp only [idFree] at h1;simp only [freeze,qgb H cs h1,jF]
   | osl _ _ _ _ _=>simp [idFree] at h
   | optr _ _ _=>simp [idFree] at h
   | _=>simp only [freeze,h.1,if_true]
  simp only [freeze.freezeL,hd,qgb H l h.2]
theorem qcQ:∀ (cs:List D),idFree.idFreeL cs = cs.all idFree
 | []=>rfl
 | d :: l=>by simp only [idFree.idFreeL,XQ,qcQ l]
theorem qb5 (n:Nat):∀ (cs:List D),closed.closedL n cs = cs.all (closed n)
 | []=>rfl
 | d :: l=>by simp only [closed.closedL,XQ,qb5 n l]
theorem qmw:∀ (a b:List D),idFree.idFreeL (a ++ b) = (idFree.idFreeL a && idFree.idFreeL b)
 | [],b=>by simp [idFree.idFreeL]
 | x :: a,b=>by simp [idFree.idFreeL,qmw a b,Bool.and_assoc]
theorem qoi (n:Nat):∀ (a b:List D),closed.closedL n (a ++ b) = (closed.closedL n a && closed.closedL n b)
 | [],b=>by simp [closed.closedL]
 | x :: a,b=>by simp [closed.closedL,qoi n a b,Bool.and_assoc]
theorem qjr:∀ (a b:List D),vFree.vFreeL (a ++ b) = (vFree.vFreeL a && vFree.vFreeL b)
 | [],b=>by simp [vFree.vFreeL]
 | x :: a,b=>by simp [vFree.vFreeL,qjr a b,Bool.and_assoc]
@[simp] theorem qtc (s:List UInt8):(qd s).length = s.length:=by simp [qd]
@[simp] theorem qx5 (s:List UInt8):idFree.idFreeL (qd s) = true:=by
 induction s with
 | nil=>rfl
 | cons a s ih=>simpa [qd,idFree.idFreeL,idFree] using ih
@[simp] theorem q1q (s:List UInt8):vFree.vFreeL (qd s) = true:=by
 induction s with
 | nil=>rfl
 | cons a s ih=>simpa [qd,vFree.vFreeL,vFree] using ih
@[simp] theorem q8C (n:Nat) (s:List UInt8):closed.closedL n (qd s) = true:=Vw n _ (qx5 s)
@[simp] theorem q0V (s:List UInt8):(qd s).all idFree = true:=by simp [qd,idFree]
@[simp] theorem q0W (n:Nat) (s:List UInt8):(qd s).all (closed n) = true:=by simp [qd,closed]
@[simp] theorem q0T (s:List UInt8):(qd s).all vFree = true:=by simp [qd,vFree]
@[simp] theorem q1V {s:List UInt8} {n:Nat} (h:s.length≤n):(qd s).take n = qd s:=qx (by simpa using h)
@[simp] theorem q8H (s:List UInt8):(∀ x,x∈qd s→idFree x = true) = True:=eq_true (List.all_eq_true.1 (q0V s))
@[simp] theorem q8I (s:List UInt8) (n:Nat):(∀ x,x∈qd s→closed n x = true) = True:=eq_true (List.all_eq_true.1 (q0W n s))
@[simp] theorem q8G (s:List UInt8):(∀ x,x∈qd s→vFree x = true) = True:=eq_true (List.all_eq_true.1 (q0T s))
attribute [simp] qfx qdy Vw qgb qmw qoi qjr
theorem wrap_i64 {n:Int} (h:-9223372036854775808≤n∧n < 9223372036854775808):IntKind.i64.wrap n = n:=by
 simp only [IntKind.wrap,IntKind.signed,IntKind.bits];simp;omega
theorem qU {n:Int} (h:0≤n∧n < 18446744073709551616):IntKind.u64.wrap n = n:=by
 simp only [IntKind.wrap,IntKind.signed,IntKind.bits];simp;omega
theorem QG {n:Int} (h:0≤n∧n < 256):IntKind.u8.wrap n = n:=by
 simp only [IntKind.wrap,IntKind.signed,IntKind.bits];simp;omega
theorem KJ {n:Int} (h:0≤n∧n < 4294967296):IntKind.u32.wrap n = n:=by
 simp only [IntKind.wrap,IntKind.signed,IntKind.bits];simp;omega
theorem qpc {n:Int} (h:0≤n∧n < 65536):IntKind.u16.wrap n = n:=by
 simp only [IntKind.wrap,IntKind.signed,IntKind.bits];simp;omega
theorem qg9 {n:Int} (h:-2147483648≤n∧n < 2147483648):IntKind.i32.wrap n = n:=by
 simp only [IntKind.wrap,IntKind.signed,IntKind.bits];simp;omega
theorem qow {n x:Nat} (h:x < 2 ^ n):(BitVec.ofInt n (x:Int)).toNat = x:=by
 rw [qeJ,qdk,qbE h]
theorem qpd {k:IntKind} (hk:k.signed = false) {x:Nat} (h:x < 2 ^ k.bits):k.wrap (x:Int) = (x:Int):=by
 have:((x:Int) % (2 ^ k.bits:Int)) = x:=Int.emod_eq_of_lt (by omega) (by exact_mod_cast h);simp only [IntKind.wrap,hk];simpa using this
theorem qlr {k:IntKind} (hk:k.signed = false) {x y:Nat} (hx:x < 2 ^ k.bits) (hy:y < 2 ^ k.bits):Kh k x y = ((x ||| y:Nat):Int):=by
 unfold Kh;rw [BitVec.toNat_or,qow hx,qow hy,qpd hk (Nat.or_lt_two_pow hx hy)]
attribute [simp] wrap_i64 qU QG KJ qpc qg9
end Go.Ev
namespace Go.Ev
open Go Go.Proofs
def Y1:List D→Option (List Int)
 | []=>some []
 | .int .u8 n :: l=>(Y1 l).map (n :: ·)
 | _=>none
def XX:D→Option (List Int)
 | .vsl true [] 0=>some []
 | .vsl false cs len=>if cs.length = len then Y1 cs else none
 | _=>none
def qcZ:List D→Option D
 | [x,y]=>match XX x,XX y with
  | some a,some b=>some (.int .i64 (Extern.BytealgCompare.cmp ⟨(Lib.bytesOf a).toArray⟩ ⟨(Lib.bytesOf b).toArray⟩))
  | _,_=>none
 | _=>none
theorem qou:∀ {cs:List D} {l:List Int},Y1 cs = some l→cs.length = l.length∧∀ (j:Nat) x,l[j]? = some x→cs[j]? = some (.int .u8 x)
 | [],l,h=>by simp only [Y1,qu] at h;subst h;simp
 | d :: cs,l,h=>by
  cases d with
  | int k n =>
   cases k with
   | u8 =>
    simp only [Y1] at h;cases hb:Y1 cs with
    | none=>simp [hb] at h
    | some l' =>
     simp only [hb,jF,qu] at h;subst h;obtain ⟨h1,h2⟩:=qou hb;refine ⟨by simp [h1],fun j x hj=>?_⟩;cases j with
     | zero=>simpa using hj
     | succ j=>simpa using h2 j x (by simpa using hj)
   | _=>simp [Y1] at h
  | _=>simp [Y1] at h
theorem qjJ {P:Program} {ok:Nat→Prop} {w:World} {ι:qF} {H:qi} {d:D} {v:Value} {l:List Int} (h:XX d = some l) (hr:Rep ok w ι H d v) :
  (Extern.Bytes.bytesOf v).run P w = .ok ⟨(Lib.bytesOf l).toArray⟩ w:=by
 cases hr with
 | vnil=>simp only [XX,qu] at h;subst h;simp [Extern.Bytes.bytesOf,Lib.bytesOf];rfl
 | vsl a f ha hc hr hf qR =>
  rename_i ds len c;simp only [XX] at h;split at h
  ·rename_i zo;obtain ⟨h1,h2⟩:=qou h
   have:=Lib.run_loadBytesX (P:=P) w l a .empty (fun j x hj=>by
    have hd:=h2 j x hj;rw [hr j _ hd];have:=hf j _ hd;generalize f j = v at this;cases this;rfl)
   simp only [Extern.Bytes.bytesOf];rw [← zo,h1,this];simp
  ·cases h
 | _=>simp [XX] at h
theorem qzG {P : Program} {f : Nat} {fn : Func} (hf : P.funcs[f]? = some fn) (hn : fn.body = none) (JH : (fn.name == "runtime.NumGoroutine") = false)
  (h1:Extern.findNext fn = none) (h2:Extern.find fn = some Extern.BytealgCompare.compare) {ok:Nat→Prop} {w:World} {ι:qF} {H:qi} {args:List D} {d:D} {vs:List Value}
  (h:qcZ args = some d) (hv:RepL ok w ι H args vs):∃ v,(callFunc f vs.toArray).run P w = .ok (.value v) w∧Rep ok w ι H d v∧idFree d = true:=by
 rw [run_callFunc_extern hf JH (by rw [hn];rfl) h1 h2]
 match args,h with
 | [x,y],h =>
  simp only [qcZ] at h;cases hx:XX x with
  | none=>simp [hx] at h
  | some a =>
   cases hy:XX y with
   | none=>simp [hx,hy] at h
   | some b =>
    simp only [hx,hy,qu] at h;subst h
    obtain ⟨u,v,rfl,hu,hv⟩:∃ u v,vs = [u,v]∧Rep ok w ι H x u∧Rep ok w ι H y v:=by
     obtain ⟨hl,hh⟩:=hv
     match vs,hl with
     | [u,v],_=>exact ⟨u,v,rfl,hh 0 x rfl,hh 1 y rfl⟩
    refine ⟨_,?_,.int .i64 _,rfl⟩;have hc:Extern.BytealgCompare.compare [u,v].toArray = (do pure (goInt (Extern.BytealgCompare.cmp (← Extern.Bytes.bytesOf u) (← Extern.Bytes.bytesOf v)))):=rfl;rw [hc];simp only [Sem.run_bind,qjJ hx hu,qjJ hy hv,Result.andThen];rfl
def qy:List UInt8→List UInt8→Int
 | [],[]=>0
 | [],_ :: _=>-1
 | _ :: _,[]=>1
 | a :: x,b :: y=>if a = b then qy x y else if a < b then -1 else 1
theorem Xl (l:List UInt8):(ByteArray.mk l.toArray).size = l.length:=by
 show l.toArray.size = _;simp
theorem qiX (l:List UInt8) (i:Nat):(ByteArray.mk l.toArray)[i]! = (l[i]?).getD 0:=by
 by_cases h:i < l.length
 ·have h':i < (ByteArray.mk l.toArray).size:=by rw [Xl];exact h
  rw [getElem!_pos (ByteArray.mk l.toArray) i h',zi h];rfl
 ·have h':¬ i < (ByteArray.mk l.toArray).size:=by rw [Xl];exact h
  rw [getElem!_neg (ByteArray.mk l.toArray) i h',List.getElem?_eq_none (by omega)];rfl
theorem qzF (a:UInt8) (x:List UInt8) (b:UInt8) (y:List UInt8) :
  Extern.BytealgCompare.cmp ⟨(a :: x).toArray⟩ ⟨(b :: y).toArray⟩ = if a = b then Extern.BytealgCompare.cmp ⟨x.toArray⟩ ⟨y.toArray⟩ else if a < b then -1 else 1:=by
 have hs:min (ByteArray.mk (a :: x).toArray).size (ByteArray.mk (b :: y).toArray).size = min x.length y.length+1:=by
  show min (a :: x).toArray.size (b :: y).toArray.size = _;simp only [List.size_toArray,qG];omega
 have vV:min (ByteArray.mk x.toArray).size (ByteArray.mk y.toArray).size = min x.length y.length:=by
  show min x.toArray.size y.toArray.size = _;simp
 have hg:∀ (c:UInt8) (z:List UInt8) (i:Nat),(ByteArray.mk (c :: z).toArray)[i+1]! = (ByteArray.mk z.toArray)[i]!:=fun c z i=>by
  rw [qiX,qiX];rfl
 have ZI:∀ (c:UInt8) (z:List UInt8),(ByteArray.mk (c :: z).toArray)[0]! = c:=fun c z=>by rw [qiX];rfl
 unfold Extern.BytealgCompare.cmp;rw [hs,vV,List.range_succ_eq_map,List.find?_cons];simp only [ZI];by_cases hab:a = b
 ·subst hab;simp only [bne_self_eq_false,if_true,List.find?_map,Function.comp_def,hg,Nat.succ_eq_add_one];cases List.find? (fun i=>(ByteArray.mk x.toArray)[i]! != (ByteArray.mk y.toArray)[i]!) (List.range (min x.length y.length)) with
  | some i=>simp only [jF,hg]
  | none =>
   have e:∀ (c:UInt8) (z:List UInt8),(ByteArray.mk (c :: z).toArray).size = (ByteArray.mk z.toArray).size+1:=fun c z=>by
    show (c :: z).toArray.size = z.toArray.size+1;simp
   simp only [Option.map_none,e,Nat.add_lt_add_iff_right,gt_iff_lt]
 ·have:(a != b) = true:=by simp [hab]
  simp only [this,hab,if_false,ZI]
theorem qoe:∀ (x y:List UInt8),Extern.BytealgCompare.cmp ⟨x.toArray⟩ ⟨y.toArray⟩ = qy x y
 | [],[]=>rfl
 | [],b :: y=>by
  unfold Extern.BytealgCompare.cmp;rw [Xl,Xl];simp [qy]
 | a :: x,[]=>by
  unfold Extern.BytealgCompare.cmp;rw [Xl,Xl];simp [qy]
 | a :: x,b :: y=>by rw [qzF,qy,qoe x y]
theorem q0j (s:List UInt8):Y1 (qd s) = some (s.map fun b=>(b.toNat:Int)):=by
 induction s with
 | nil=>rfl
 | cons a s ih=>simp only [qd,Y6,Y1] at ih ⊢;rw [ih];rfl
theorem q0i (s:List UInt8):Lib.bytesOf (s.map fun b=>(b.toNat:Int)) = s:=by
 simp [Lib.bytesOf,Function.comp_def]
theorem qzH (m n:Bool) (x y:List UInt8) (hm:m = true→x = []) (hn:n = true→y = []) :
  qcZ [.vsl m (qd x) x.length,.vsl n (qd y) y.length] = some (.int .i64 (qy x y)):=by
 have h:∀ (m:Bool) (x:List UInt8),(m = true→x = [])→XX (.vsl m (qd x) x.length) = some (x.map fun b=>(b.toNat:Int)):=by
  intro m x hm;cases m with
  | true=>rw [hm rfl];rfl
  | false=>simp [XX,q0j]
 simp only [qcZ,h m x hm,h n y hn,q0i,qoe]
end Go.Ev
namespace Go.Ev
section
variable {X:Cx} {f nt n0:Nat}
structure SOp where
 dst:Option Tmp
 op:Op
 g:Option (Option Tmp × Bool)
def qc8 (ops:Array Oper) (o:Oper):SOp:=⟨o.dst,o.op,match o.guard with
 | none=>none
 | some (j,want)=>some ((ops[j]?).bind (·.dst),want)⟩
def Jb (ops:Array Oper):List Oper→List SOp
 | []=>[]
 | o :: l=>qc8 ops o :: Jb ops l
def XJ (e:qr):Option (Option Tmp × Bool)→Option Bool
 | none=>some true
 | some (none,_)=>some false
 | some (some t,want)=>match qf e t with
  | some (.bool b)=>some (b == want)
  | some (.tup [])=>some false
  | _=>none
theorem qmE (ops:Array Oper) (e:qr) (g:Option (Nat × Bool)):jy ops e g = XJ e (match g with
  | none=>none
  | some (j,want)=>some ((ops[j]?).bind (·.dst),want)):=by
 cases g with
 | none=>rfl
 | some q =>
  obtain ⟨j,want⟩:=q;simp only [jy,XJ];cases (ops[j]?).bind (·.dst) <;> rfl
def evS (X:Cx) (F:zn) (nt:Nat) (drw:Bool):List SOp→qr→qi→Option (qr × qi)
 | [],e,H=>some (e,H)
 | o :: l,e,H=>match vv nt o.dst,XJ e o.g with
  | true,some true=>match qL X F drw o.op e H with
   | some (d,H')=>evS X F nt drw l (vj e o.dst d) H'
   | none=>none
  | true,some false=>evS X F nt drw l (vj e o.dst (.tup [])) H
  | _,_=>none
theorem qi4 {F:zn} {drw:Bool} (ops:Array Oper):∀ (l:List Oper) (e:qr) (H:qi),j9 X F nt drw ops l e H = evS X F nt drw (Jb ops l) e H
 | [],e,H=>rfl
 | o :: l,e,H=>by
  simp only [j9,Jb,evS,qmE ops e o.guard]
  show _ = match vv nt o.dst,XJ e (qc8 ops o).g with
   | true,some true=>match qL X F drw o.op e H with
    | some (d,H')=>evS X F nt drw (Jb ops l) (vj e o.dst d) H'
    | none=>none
   | true,some false=>evS X F nt drw (Jb ops l) (vj e o.dst (.tup [])) H
   | _,_=>none
  simp only [qi4 ops l,qc8];rfl
variable {Q:Ex→qr→qi→Prop} {fs:List Fr} {e:qr} {H:qi}
def Z1 (X:Cx) (f nt n0:Nat) (Q:Ex→qr→qi→Prop) (fs:List Fr) (drw:Bool) (l:List SOp) (e:qr) (H:qi):Prop :=
 Run X f nt n0 Q fs ((evS X (call X) nt drw l e H).map fun (e,H)=>(.normal,e,H))
def XN (X:Cx) (f nt n0:Nat) (Q:Ex→qr→qi→Prop) (fs:List Fr) (drw:Bool) (l:List SOp) (e:qr) (dst:Option Tmp):Option (D × qi)→Prop
 | none=>False
 | some (d,H)=>Z1 X f nt n0 Q fs drw l (vj e dst d) H
def qaz (X:Cx) (f nt n0:Nat) (Q:Ex→qr→qi→Prop) (fs:List Fr) (drw:Bool) (dst:Option Tmp) (op:Op) (want:Bool) (l:List SOp) (e:qr) (H:qi):Option D→Prop
 | some (.bool b)=>if b = want then XN X f nt n0 Q fs drw l e dst (qL X (call X) drw op e H) else Z1 X f nt n0 Q fs drw l (vj e dst (.tup [])) H
 | some (.tup [])=>Z1 X f nt n0 Q fs drw l (vj e dst (.tup [])) H
 | _=>False
theorem qq4 {drw:Bool}:Z1 X f nt n0 Q fs drw [] e H = Run X f nt n0 Q fs (some (.normal,e,H)):=rfl
theorem qq3 {drw:Bool} {dst:Option Tmp} {op:Op} {l:List SOp}:Z1 X f nt n0 Q fs drw (⟨dst,op,none⟩ :: l) e H =
  (vv nt dst = true∧XN X f nt n0 Q fs drw l e dst (qL X (call X) drw op e H)):=by
 unfold Z1;simp only [evS,XJ];cases vv nt dst with
 | false=>simp [kv]
 | true =>
  cases qL X (call X) drw op e H with
  | none=>simp [XN,kv]
  | some q=>simp [XN,Z1]
theorem qq2 {drw:Bool} {dst:Option Tmp} {op:Op} {l:List SOp} {t:Tmp} {want:Bool}:Z1 X f nt n0 Q fs drw (⟨dst,op,some (some t,want)⟩ :: l) e H =
  (vv nt dst = true∧qaz X f nt n0 Q fs drw dst op want l e H (qf e t)):=by
 unfold Z1;simp only [evS,XJ];cases vv nt dst with
 | false=>simp [kv]
 | true =>
  cases qf e t with
  | none=>simp [qaz,kv]
  | some d =>
   cases d with
   | bool b =>
    by_cases hb:b = want
    ·subst hb;simp only [beq_self_eq_true,qaz,if_true,true_and];cases qL X (call X) drw op e H with
     | none=>simp [XN,kv]
     | some q=>simp [XN,Z1]
    ·have:(b == want) = false:=(by simpa using hb);simp [qaz,hb,this,Z1]
   | tup cs =>
    cases cs with
    | nil=>simp [qaz,Z1]
    | cons=>simp [qaz,kv]
   | _=>simp [qaz,kv]
theorem qqA {drw:Bool} {dst:Option Tmp} {l:List SOp} {d:D}:XN X f nt n0 Q fs drw l e dst (some (d,H)) = Z1 X f nt n0 Q fs drw l (vj e dst d) H:=rfl
theorem qqB {drw:Bool} {dst:Option Tmp} {l:List SOp}:XN X f nt n0 Q fs drw l e dst none = False:=rfl
theorem qqF {drw:Bool} {dst:Option Tmp} {op:Op} {l:List SOp} {want b:Bool}:qaz X f nt n0 Q fs drw dst op want l e H (some (.bool b)) =
  if b = want then XN X f nt n0 Q fs drw l e dst (qL X (call X) drw op e H) else Z1 X f nt n0 Q fs drw l (vj e dst (.tup [])) H:=rfl
theorem qqE {drw:Bool} {dst:Option Tmp} {op:Op} {l:List SOp} {want:Bool}:qaz X f nt n0 Q fs drw dst op want l e H (some (.tup [])) = Z1 X f nt n0 Q fs drw l (vj e dst (.tup [])) H:=rfl
def qbA (X:Cx) (f nt n0:Nat) (Q:Ex→qr→qi→Prop) (fs:List Fr) (drw:Bool) (l:List SOp):Option (qr × qi)→Prop
 | none=>False
 | some (e,H)=>Z1 X f nt n0 Q fs drw l e H
theorem qqI {drw:Bool} {l:List SOp}:qbA X f nt n0 Q fs drw l (some (e,H)) = Z1 X f nt n0 Q fs drw l e H:=rfl
theorem qqz {id:Nat} {ops:Array Oper}:Run X f nt n0 Q fs (code X f nt n0 (.region id ops false) e H) = qbA X f nt n0 Q fs (X.cv f id) (Jb ops ops.toList) (enter X f n0 id e H):=by
 rw [qnX];cases enter X f n0 id e H with
 | none=>simp [kv,qbA]
 | some q=>simp only [qbA,Z1,Jr,qi4,qdB]
section lp
variable {L:Qj} {ow:List Nat}
noncomputable def Ky (X:Cx) (F:zn) (nt:Nat) (ow:List Nat) (L:Qj):Nat→List (Nat × qi × qi)→List (Nat × List Nat)→List SOp→qr→qi→Option (qr × qi)
 | _,_,_,[],e,H=>some (e,H)
 | k,ws,rs,o :: l,e,H=>match vv nt o.dst,XJ e o.g with
  | true,some true=>match qL X F (Zk ow o.dst) o.op e H with
   | some (d,H') =>
    @ite _ ((Zq L k = true→XL L k (kJ (o.op.operands.toList.map (qQ X e))) ws)∧(Zl L k = true→H.length≤H'.length∧XK L k H H' rs)) (Classical.propDecidable _)
     (Ky X F nt ow L (k+1) (if Zl L k then (k,H,H') :: ws else ws) (if Zq L k then (k,kJ (o.op.operands.toList.map (qQ X e))) :: rs else rs) l (vj e o.dst d) H') none
   | none=>none
  | true,some false=>Ky X F nt ow L (k+1) ws rs l (vj e o.dst (.tup [])) H
  | _,_=>none
theorem qnn {F:zn} (ops:Array Oper):∀ (l:List Oper) (k:Nat) (ws:List (Nat × qi × qi)) (rs:List (Nat × List Nat)) (e:qr) (H:qi),kp X F nt ow ops L k ws rs l e H = Ky X F nt ow L k ws rs (Jb ops l) e H
 | [],k,ws,rs,e,H=>by simp only [Jb,Ky,kp]
 | o :: l,k,ws,rs,e,H=>by
  have ih:=qnn (F:=F) ops l;rw [kp];show _ = Ky X F nt ow L k ws rs (qc8 ops o :: Jb ops l) e H;rw [Ky]
  show _ = match vv nt o.dst,XJ e (qc8 ops o).g with
   | true,some true=>match qL X F (Zk ow o.dst) o.op e H with
    | some (d,H') =>
     @ite _ ((Zq L k = true→XL L k (kJ (o.op.operands.toList.map (qQ X e))) ws)∧(Zl L k = true→H.length≤H'.length∧XK L k H H' rs)) (Classical.propDecidable _)
      (Ky X F nt ow L (k+1) (if Zl L k then (k,H,H') :: ws else ws) (if Zq L k then (k,kJ (o.op.operands.toList.map (qQ X e))) :: rs else rs) (Jb ops l) (vj e o.dst d) H') none
    | none=>none
   | true,some false=>Ky X F nt ow L (k+1) ws rs (Jb ops l) (vj e o.dst (.tup [])) H
   | _,_=>none
  have h3:XJ e (qc8 ops o).g = jy ops e o.guard:=(qmE ops e o.guard).symm;rw [h3];cases hd:vv nt o.dst with
  | false=>simp only
  | true =>
   cases hg:jy ops e o.guard with
   | none=>simp only
   | some b =>
    cases b with
    | false=>simp only [ih]
    | true =>
     cases ho:qL X F (Zk ow o.dst) o.op e H with
     | none=>simp only
     | some q =>
      obtain ⟨d,H1⟩:=q;simp only;by_cases hc:(Zq L k = true→XL L k (kJ (o.op.operands.toList.map (qQ X e))) ws)∧(Zl L k = true→H.length≤H1.length∧XK L k H H1 rs)
      ·rw [if_pos hc,if_pos hc];exact ih _ _ _ _ _
      ·rw [if_neg hc,if_neg hc]
def ZS (X:Cx) (f nt n0:Nat) (Q:Ex→qr→qi→Prop) (fs:List Fr) (ow:List Nat) (L:Qj) (k:Nat) (ws:List (Nat × qi × qi)) (rs:List (Nat × List Nat)) (l:List SOp) (e:qr) (H:qi):Prop :=
 Run X f nt n0 Q fs ((Ky X (call X) nt ow L k ws rs l e H).map fun (e,H)=>(.normal,e,H))
def qb9 (X:Cx) (f nt n0:Nat) (Q:Ex→qr→qi→Prop) (fs:List Fr) (ow:List Nat) (L:Qj) (k:Nat) (ws:List (Nat × qi × qi)) (rs:List (Nat × List Nat)) (bs:List Nat) (l:List SOp) (e:qr) (dst:Option Tmp) (H:qi):Option (D × qi)→Prop
 | none=>False
 | some (d,H')=>(Zq L k = true→XL L k bs ws)∧(Zl L k = true→H.length≤H'.length∧XK L k H H' rs) ∧
   ZS X f nt n0 Q fs ow L (k+1) (if Zl L k then (k,H,H') :: ws else ws) (if Zq L k then (k,bs) :: rs else rs) l (vj e dst d) H'
def qay (X:Cx) (f nt n0:Nat) (Q:Ex→qr→qi→Prop) (fs:List Fr) (ow:List Nat) (L:Qj) (k:Nat) (ws:List (Nat × qi × qi)) (rs:List (Nat × List Nat)) (bs:List Nat) (dst:Option Tmp) (op:Op) (want:Bool) (l:List SOp) (e:qr) (H:qi):Option D→Prop
 | some (.bool b)=>if b = want then qb9 X f nt n0 Q fs ow L k ws rs bs l e dst H (qL X (call X) (Zk ow dst) op e H) else ZS X f nt n0 Q fs ow L (k+1) ws rs l (vj e dst (.tup [])) H
 | some (.tup [])=>ZS X f nt n0 Q fs ow L (k+1) ws rs l (vj e dst (.tup [])) H
 | _=>False
variable {k:Nat} {ws:List (Nat × qi × qi)} {rs:List (Nat × List Nat)}
theorem qq7:ZS X f nt n0 Q fs ow L k ws rs [] e H = Run X f nt n0 Q fs (some (.normal,e,H)):=by unfold ZS;simp only [Ky];rfl
theorem qkb {dst:Option Tmp} {op:Op} {l:List SOp}:Run X f nt n0 Q fs (Option.map (fun (e,H)=>(Ex.normal,e,H)) (match qL X (call X) (Zk ow dst) op e H with
   | some (d,H') =>
    @ite _ ((Zq L k = true→XL L k (kJ (op.operands.toList.map (qQ X e))) ws)∧(Zl L k = true→H.length≤H'.length∧XK L k H H' rs)) (Classical.propDecidable _)
     (Ky X (call X) nt ow L (k+1) (if Zl L k then (k,H,H') :: ws else ws) (if Zq L k then (k,kJ (op.operands.toList.map (qQ X e))) :: rs else rs) l (vj e dst d) H') none
   | none=>none)) = qb9 X f nt n0 Q fs ow L k ws rs (kJ (op.operands.toList.map (qQ X e))) l e dst H (qL X (call X) (Zk ow dst) op e H):=by
 cases qL X (call X) (Zk ow dst) op e H with
 | none=>simp [qb9,kv]
 | some q =>
  obtain ⟨d,H1⟩:=q;simp only [qb9,ZS];by_cases hc:(Zq L k = true→XL L k (kJ (op.operands.toList.map (qQ X e))) ws)∧(Zl L k = true→H.length≤H1.length∧XK L k H H1 rs)
  ·rw [if_pos hc];exact propext ⟨fun h=>⟨hc.1,hc.2,h⟩,fun h=>h.2.2⟩
  ·rw [if_neg hc];simp only [Option.map_none,kv];exact propext ⟨fun h=>h.elim,fun h=>hc ⟨h.1,h.2.1⟩⟩
theorem qq6 {dst:Option Tmp} {op:Op} {l:List SOp}:ZS X f nt n0 Q fs ow L k ws rs (⟨dst,op,none⟩ :: l) e H =
  (vv nt dst = true∧qb9 X f nt n0 Q fs ow L k ws rs (kJ (op.operands.toList.map (qQ X e))) l e dst H (qL X (call X) (Zk ow dst) op e H)):=by
 rw [← qkb];unfold ZS;simp only [Ky,XJ];cases vv nt dst with
 | false=>simp [kv]
 | true=>simp
theorem qq5 {dst:Option Tmp} {op:Op} {l:List SOp} {t:Tmp} {want:Bool}:ZS X f nt n0 Q fs ow L k ws rs (⟨dst,op,some (some t,want)⟩ :: l) e H =
  (vv nt dst = true∧qay X f nt n0 Q fs ow L k ws rs (kJ (op.operands.toList.map (qQ X e))) dst op want l e H (qf e t)):=by
 unfold ZS;simp only [Ky,XJ];cases vv nt dst with
 | false=>simp [kv]
 | true =>
  cases qf e t with
  | none=>simp [qay,kv]
  | some d =>
   cases d with
   | bool b =>
    by_cases hb:b = want
    ·subst hb;simp only [beq_self_eq_true,qay,if_true,true_and];rw [← qkb]
    ·have:(b == want) = false:=(by simpa using hb);simp [qay,hb,this,ZS]
   | tup cs =>
    cases cs with
    | nil=>simp [qay,ZS]
    | cons=>simp [qay,kv]
   | _=>simp [qay,kv]
theorem qqC {dst:Option Tmp} {l:List SOp} {d:D} {bs:List Nat} {H':qi}:qb9 X f nt n0 Q fs ow L k ws rs bs l e dst H (some (d,H')) = ((Zq L k = true→XL L k bs ws)∧(Zl L k = true→H.length≤H'.length∧XK L k H H' rs) ∧
   ZS X f nt n0 Q fs ow L (k+1) (if Zl L k then (k,H,H') :: ws else ws) (if Zq L k then (k,bs) :: rs else rs) l (vj e dst d) H'):=rfl
theorem qqD {dst:Option Tmp} {l:List SOp} {bs:List Nat}:qb9 X f nt n0 Q fs ow L k ws rs bs l e dst H none = False:=rfl
theorem qqH {dst:Option Tmp} {op:Op} {l:List SOp} {want b:Bool} {bs:List Nat}:qay X f nt n0 Q fs ow L k ws rs bs dst op want l e H (some (.bool b)) =
  if b = want then qb9 X f nt n0 Q fs ow L k ws rs bs l e dst H (qL X (call X) (Zk ow dst) op e H) else ZS X f nt n0 Q fs ow L (k+1) ws rs l (vj e dst (.tup [])) H:=rfl
theorem qqG {dst:Option Tmp} {op:Op} {l:List SOp} {want:Bool} {bs:List Nat}:qay X f nt n0 Q fs ow L k ws rs bs dst op want l e H (some (.tup [])) = ZS X f nt n0 Q fs ow L (k+1) ws rs l (vj e dst (.tup [])) H:=rfl
def qeE (X:Cx) (f nt n0:Nat) (Q:Ex→qr→qi→Prop) (fs:List Fr) (drw:Bool):Option (Qj × List Nat)→List SOp→Option (qr × qi)→Prop
 | none,l,o=>qbA X f nt n0 Q fs drw l o
 | some (L,ow),l,some (e,H)=>ZS X f nt n0 Q fs ow L 0 [] [] l e H
 | _,_,none=>False
theorem qq8 {drw:Bool} {l:List SOp} {o:Option (qr × qi)}:qeE X f nt n0 Q fs drw none l o = qbA X f nt n0 Q fs drw l o:=rfl
theorem qq9 {drw:Bool} {l:List SOp}:qeE X f nt n0 Q fs drw (some (L,ow)) l (some (e,H)) = ZS X f nt n0 Q fs ow L 0 [] [] l e H:=rfl
end lp
theorem qqy {id:Nat} {ops:Array Oper}:Run X f nt n0 Q fs (code X f nt n0 (.region id ops true) e H) = qeE X f nt n0 Q fs (!qaM ops.toList) (X.lp f id) (Jb ops ops.toList) (enter X f n0 id e H):=by
 rw [qnX];cases v6:enter X f n0 id e H with
 | none=>cases XA:X.lp f id <;> simp [kv,qbA,qeE]
 | some q=>cases XA:X.lp f id <;> simp only [qbA,Z1,qeE,ZS,Jr,XA,qi4,qnn,qdB]
theorem qpJ (ops:Array Oper) (dst:Option Tmp) (op:Op) (ty:TypeId) (pos:String) (af:Array Edge) (l:List Oper):Jb ops ({ dst:=dst,op:=op,type:=ty,pos:=pos,after:=af,guard:=none } :: l) = ⟨dst,op,none⟩ :: Jb ops l:=rfl
theorem qpI (ops:Array Oper) (dst:Option Tmp) (op:Op) (ty:TypeId) (pos:String) (af:Array Edge) (j:Nat) (want:Bool) (l:List Oper) :
  Jb ops ({ dst:=dst,op:=op,type:=ty,pos:=pos,after:=af,guard:=some (j,want) } :: l) = ⟨dst,op,some ((ops[j]?).bind (·.dst),want)⟩ :: Jb ops l:=rfl
theorem qpH (ops:Array Oper):Jb ops [] = []:=rfl
end
attribute [simp] Zk Op.operands Call.operands kJ Xn Zl Zq XL XK qq7 qq6 qq5 qqC qqD qqH qqG qq8 qq9 qq4 qq3 qq2 qqA qqB qqF qqE qqI qqz qqy qaM qmf qpJ qpI qpH
end Go.Ev
namespace Go.Ev
@[simp] theorem q0F (H L:qi) (k:Nat):(H ++ L)[H.length+k]? = L[k]?:=by rw [VW (Nat.le_add_right _ _),Nat.add_sub_cancel_left]
@[simp] theorem q8K (H L:qi):(H ++ L)[H.length]? = L[0]?:=q0F H L 0
@[simp] theorem q0E (H L:qi) (k:Nat) (x:Option (List D)):(H ++ L).set (H.length+k) x = H ++ L.set k x:=by
 rw [List.set_append_right _ _ (Nat.le_add_right _ _),Nat.add_sub_cancel_left]
@[simp] theorem q8J (H L:qi) (x:Option (List D)):(H ++ L).set H.length x = H ++ L.set 0 x:=q0E H L 0 x
end Go.Ev
namespace Go.Ev
open Go Go.Proofs Go.ChangeShapes Go.WideShapes Go.ChangeAt Go.RowKit
theorem qss {H:Type} {enc:TypeId × Value→H} {P:Program} {f:Func} {s:ChangeSpec} {apart fresh handsOn again:Bool} {W W':World} {args:Array Value} {v:Value} {ds gs:List (DataW H)} {before pa pv:List MemPlace}
  (hW:DataW.Whole enc P f.params.toList s.vars apart W args.toList ds gs before)
  (hres:∀ (b:Nat) (sp:Nat→Bool) (hd:Bool),DataW.TrodAll enc P W' b sp hd f.resultTypes.toList (v.resultList f.resultTypes.size) (s.fn H (ds ++ gs)).results [])
  (hargs:∀ sp:Nat→Bool,(∀ p∈before,sp p.block = true)→DataW.TrodAll enc P W' 0 sp true f.params.toList args.toList (s.fn H (ds ++ gs)).args pa)
  (hvars:∀ sp:Nat→Bool,(∀ p∈before,sp p.block = true)→DataW.TrodVars enc P W' sp s.vars (s.fn H (ds ++ gs)).vars pv)
  (Zh:before = pa ++ pv) (hb:Below W.heap.size W W')
  (hok:∀ (j:Nat) (t:TypeId) (r:Value),f.resultTypes[j]? = some t→(v.resultList f.resultTypes.size)[j]? = some r→Value.okWide P W' .any 0 t r) :
  s.post enc P f apart fresh handsOn again W args v W':=by
 have qg:∀ p∈before,p.block < W.heap.size:=fun p hp=>hW.lt p hp;have hold:∀ p∈before,(fun b=>decide (b < W.heap.size)) p.block = true:=fun p hp=>by simpa using qg p hp
 refine ⟨ds,gs,before,[],pa,pv,hW,hres _ _ _,hargs _ hold,hvars _ hold,World.keptBut_mono (fun p hp=>⟨hp,?_⟩) (hb.frame (·∈before)),fun _=>?_⟩
 ·rw [Zh,qbH] at hp;exact Or.inr hp
 ·obtain ⟨_,_,_,_,_,hz,hn⟩:=hW;refine ⟨hok,_,_,([] ++ pa) ++ pv,⟨[] ++ pa,pv,trodAll_append (hargs _ (fun _ _=>rfl)) (hres _ _ _),hvars _ (fun _ _=>rfl),rfl,?_,?_⟩,?_⟩
  ·intro b off hp;have Vj:MemPlace.cell b off∈before:=(by rw [Zh];simpa using hp);rw [hb.frozen (qg _ Vj)];exact hz b off Vj
  ·intro ha;have:=hn ha;rw [Zh] at this;simpa using this
  ·intro p hp _;rw [Zh];simpa using hp
theorem qjy {H:Type} {enc:TypeId × Value→H} {P:Program} (hl:laidOutB P = true) {W W':World} {sp:Nat→Bool} (hb:Below W.heap.size W W') :
  ∀ {ts:List TypeId} {vs:List Value} {ds:List (DataW H)} {ps:List MemPlace},(ts.all fun t=>P.readableRec t && decide (t < P.types.size)) = true →
   DataW.TrodAll enc P W 0 (fun _=>true) true ts vs ds ps→(∀ p∈ps,p.block < W.heap.size)→(∀ p∈ps,sp p.block = true)→DataW.TrodAll enc P W' 0 sp true ts vs ds ps
 | [],[],[],_,_,h,_,_=>h
 | _ :: _,_ :: _,_ :: _,_,ht,⟨p,q,h1,h2,e⟩,qg,hs=>by
  simp only [XQ,qT,decide_eq_true_eq] at ht;subst e
  exact ⟨p,q,WideElems.Trod_stays hl ht.1.1 ht.1.2 h1 (fun x hx=>hb.same (qg x (qcz _ hx))) (fun x hx=>hs x (qcz _ hx)),
   qjy hl hb (by simpa using ht.2) h2 (fun x hx=>qg x (List.mem_append_right _ hx)) (fun x hx=>hs x (List.mem_append_right _ hx)),rfl⟩
theorem quf {H:Type} {enc:TypeId × Value→H} {X:Cx} (hG:Good X) (hl:laidOutB X.P = true) {f:Nat} {fn:Func} {tb:TypeId} (hf:X.P.funcs[f]? = some fn) (zN:fn.body.isSome = true)
  (hres:fn.resultTypes = #[tb]) (htb:X.P.underlying tb = some .bool) (hpar:(fn.params.toList.all fun t=>X.P.readableRec t && decide (t < X.P.types.size)) = true)
  {s:ChangeSpec} (hvr:s.vars = []) {W:World} {args:Array Value} {ds gs:List (DataW H)} {before:List MemPlace}
  (hglob:∀ g cs,X.glob g = some cs→Rep (· < W.heap.size) W zg [] (.vptr cs) (.pointer (some ⟨g,0,none⟩)))
  (hW:DataW.Whole enc X.P fn.params.toList s.vars false W args.toList ds gs before) (hs:(s.fn H (ds ++ gs)).results = [.lit (.bool true)]∧(s.fn H (ds ++ gs)).args = ds∧(s.fn H (ds ++ gs)).vars = [])
  {dd:List D} {L:qi} (hr:RepL (· < W.heap.size) W zg [] dd args.toList) (hc:call X f dd [] = some (.bool true,L)) :
  Calls X.P f args W fun e W'=>∃ v,e = .returned v∧s.post enc X.P fn false true false false W args v W':=by
 have hsim:Sim X (· < W.heap.size) W zg []:=⟨fun b hb=>hb,hglob,fun i j ds es b s s' hd=>by simp [qq] at hd,fun i ds hd=>by simp [qq] at hd⟩;have hgo:=qgs hG f dd [] _ _ _ W zg args.toList hc hsim hr;obtain ⟨c,hb⟩:=Option.isSome_iff_exists.1 zN;have henter:(callFunc f args.toList.toArray).run X.P W = .ok (.enter f args.toList.toArray) W:=Go.Proofs.enters_of hf (hG.ng f fn hf) (by rw [hb]) _ _;unfold Goes at hgo;rw [henter] at hgo;simp only [Array.toArray_toList] at hgo;refine hgo.mono ?_;rintro e W' ⟨v,rfl,ι',ok',_,hrep,hev,_⟩;refine ⟨v,rfl,?_⟩;cases hrep;have hbel:Below W.heap.size W W':=⟨hev.os,hev.tape,hev.output,hev.size,fun b hb=>hev.frame b hb (fun i ds s hd=>by simp [qq] at hd)⟩;have hW':=hW;obtain ⟨p,q,hA,hV,rfl,kC,YT⟩:=hW;rw [hvr] at hV;obtain ⟨rfl,rfl⟩:=trodVars_none hV;refine qss (pa:=p) (pv:=[]) hW' (fun b sp hd=>?_) (fun sp kg=>?_) (fun sp _=>?_) rfl hbel ?_
 ·rw [hs.1,hres];exact trodAll_cons_mk (shut_bool htb _) trodAll_mk0
 ·rw [hs.2.1];exact qjy hl hbel hpar hA (fun x hx=>hW'.lt x (qcz _ hx)) (fun x hx=>kg x (qcz _ hx))
 ·rw [hs.2.2,hvr];rfl
 ·rw [hres];intro j t r hj hv;cases j with
  | zero =>
   simp only [List.size_toArray,qG,qX] at hj hv;injection hj with hj;subst hj
   have:r = .bool true:=by
    simp only [Value.resultList] at hv;simpa using hv.symm
   subst this;exact okWide_bool_mk htb _
  | succ j=>simp at hj
def je (k:IntKind) (l:List Int):List D:=l.map (.int k ·)
end Go.Ev
namespace Go.Ev
open Go Go.Proofs
def qdN (X:Cx) (n:Nat):Bool:=match X.P.funcs[n]? with
 | some fn => (fn.name != "runtime.NumGoroutine") && match fn.body with
  | some c=>X.bad n || QL X n c
  | none=>true
 | none=>true
def Ya (X:Cx) (a:Nat):Nat→Bool
 | 0=>true
 | k+1=>Ya X a k && qdN X (a+k)
theorem qaQ {X:Cx} {a:Nat}:∀ {k:Nat},Ya X a k = true→∀ {f:Nat},a≤f→f < a+k→qdN X f = true
 | 0,_,f,h1,h2=>by omega
 | k+1,h,f,h1,h2=>by
  simp only [Ya,qT] at h;by_cases hf:f = a+k
  ·rw [hf];exact h.2
  ·exact qaQ h.1 h1 (by omega)
theorem qlu {X : Cx} {f : Nat} {fn : Func} (h : qdN X f = true) (hfn : X.P.funcs[f]? = some fn) : (fn.name == "runtime.NumGoroutine") = false ∧ ∀ c, fn.body = some c → X.bad f = false → QL X f c = true := by
 simp only [qdN,hfn,qT,bne_iff_ne,ne_eq] at h;refine ⟨by simpa using h.1,fun c hc hb=>?_⟩;have h3:=h.2;simpa [hc,hb] using h3
end Go.Ev
