import Derived.Test.YtkfojmihnjnhfaaGreatDoorC1
import Derived.Scope
import Derived.LoopN
import Derived.Shelf.Abstract
import Derived.Orders
import Derived.Lib.BytesEntry
import Derived.Laws.Externs
namespace Go.Ev
section
variable {X:Cx} {ok ok':Nat→Prop} {w w':World} {ι:qx} {H H':qi}
def Goes (P:Program) (s:Sem Next) (w:World) (R:Value→World→Prop):Prop :=
 match s.run P w with
 | .ok (.value v) w'=>R v w'
 | .ok .skip w'=>R undef w'
 | .ok (.enter f args) w'=>Calls P f args w' fun e w''=>∃ v,e = .returned v∧R v w''
 | _=>False
theorem Goes.value {P:Program} {s:Sem Next} {v:Value} {R:Value→World→Prop} (h:s.run P w = .ok (.value v) w') (hr:R v w'):Goes P s w R:=by
 unfold Goes;rw [h];exact hr
theorem Goes.skip {P:Program} {s:Sem Next} {R:Value→World→Prop} (h:s.run P w = .ok .skip w') (hr:R undef w'):Goes P s w R:=by
 unfold Goes;rw [h];exact hr
theorem Goes.mono {P:Program} {s:Sem Next} {R R':Value→World→Prop} (h:Goes P s w R) (hr:∀ v w',R v w'→R' v w'):Goes P s w R':=by
 unfold Goes at *;split at h
 ·exact hr _ _ h
 ·exact hr _ _ h
 ·exact h.mono fun e w'' ⟨v,h1,h2⟩=>⟨v,h1,hr _ _ h2⟩
 ·exact h.elim
theorem Goes.upon {P:Program} {o:Oper} {a:Act} {s:Sem Next} {next:Act→World→Prop} {Q:Exit→Act→World→Prop} (h:Goes P s w fun v w'=>next (a.put o.dst v) w'):o.upon P a next Q (s.run P w):=by
 unfold Goes at h;split at h
 ·rename_i v w' hr;rw [hr];exact h
 ·rename_i w' hr;rw [hr];exact h
 ·rename_i f args w' hr;rw [hr];simp only [Oper.upon];exact h.mono fun e w'' ⟨v,h1,h2⟩=>by subst h1;exact h2
 ·exact h.elim
def Zh (X:Cx) (ok:Nat→Prop) (w:World) (ι:qx) (H:qi) (r:D) (H':qi) (v:Value) (w':World):Prop :=
 ∃ ι' ok',Sim X ok' w' ι' H'∧Rep ok' w' ι' H' r v∧Evol H.length ok w ι H ok' w' ι' H'∧∀ i ds,H.length≤i→qo H' i = some ds→ds.all idFree = true
def Z6 (X:Cx) (F:qY):Prop :=
 ∀ (f:Nat) (args:List D) (H:qi) (r:D) (H':qi) (ok:Nat→Prop) (w:World) (ι:qx) (vs:List Value),F f args H = some (r,H')→Sim X ok w ι H→RepL ok w ι H args vs →
  Goes X.P (callFunc f vs.toArray) w (Zh X ok w ι H r H')
structure Good (X:Cx):Prop where
 mixed:X.P.follows .mixedOrders = true
 okc:∀ (f:Nat) (fn:Func) (c:Code),X.P.funcs[f]? = some fn→fn.body = some c→X.bad f = false→Qi X f c = true
 ng : ∀ (f : Nat) (fn : Func), X.P.funcs[f]? = some fn → (fn.name == "runtime.NumGoroutine") = false
 ext:∀ (f:Nat) (fn:Func) (args:List D) (d:D),X.P.funcs[f]? = some fn→fn.body = none→X.ext f args = some d →
  ∀ (ok:Nat→Prop) (w:World) (ι:qx) (H:qi) (vs:List Value),Sim X ok w ι H→RepL ok w ι H args vs→∃ v,(callFunc f vs.toArray).run X.P w = .ok (.value v) w∧Rep ok w ι H d v∧idFree d = true
 con:∀ (f:Nat) (args:List D) (H:qi) (r:D) (H':qi),X.con f args H = some (r,H')→∀ (ok:Nat→Prop) (w:World) (ι:qx) (vs:List Value),Sim X ok w ι H→RepL ok w ι H args vs →
  Goes X.P (callFunc f vs.toArray) w (Zh X ok w ι H r H')
theorem qlO (hs:Sim X ok w ι H):Sim X ok w qT [] :=
 ⟨hs.okS,hs.glob,fun i j ds es b s s' hd=>by simp [qo] at hd,fun i ds hd=>by simp [qo] at hd⟩
theorem qlP (hs:Sim X ok w ι H):Sim X (qbg ok ι H) w qT [] :=
 ⟨fun b hb=>by
   rcases hb with hb | ⟨i,ds,s,hd,hi⟩
   ·exact hs.okS b hb
   ·exact hs.lt hd hi,fun g cs hg=>(hs.glob g cs hg).okMono fun b hb=>.inl hb,fun i j ds es b s s' hd=>by simp [qo] at hd,fun i ds hd=>by simp [qo] at hd⟩
theorem qdp (l:List D):noZ.noZL l = true↔∀ d,d∈l→noZ d = true:=by
 induction l with
 | nil=>simp [noZ.noZL]
 | cons d l ih=>simp [noZ.noZL,ih]
theorem qc7 (n:Nat) (l:List D):shift.shiftL n l = l.map (shift n):=by
 induction l with
 | nil=>rfl
 | cons d l ih=>simp [shift.shiftL,ih]
theorem qsJ (n:Nat) (d:D):zC (shift n d) = zC d:=by cases d <;> rfl
theorem Rep.moved {m:Nat} {ι1 ι2:qx} {H1 H2:qi} (hm:∀ k,1≤k→k < H1.length→m+k < H2.length∧qo H2 (m+k) = qo H1 k∧ι2 (m+k) = ι1 k) {d:D} {v:Value} (h:Rep ok w ι1 H1 d v) (hz:noZ d = true):Rep ok w ι2 H2 (Ev.shift m d) v:=by
 induction h with
 | bool b=>exact .bool b
 | int k n=>exact .int k n
 | str s=>exact .str s
 | nilp=>exact .nilp
 | nilf=>exact .nilf
 | nili=>exact .nili
 | raw v=>exact .raw v
 | agg hl hc h ih =>
  simp only [noZ,qdp] at hz;simp only [Ev.shift,qc7];refine .agg (by simpa using hl) (fun d hd=>?_) fun j d hj=>?_
  ·obtain ⟨d',za,rfl⟩:=List.mem_map.1 hd;rw [qsJ];exact hc d' za
  ·rw [List.getElem?_map,Option.map_eq_some_iff] at hj;obtain ⟨d',za,rfl⟩:=hj;exact ih j d' za hm (hz d' (mem_of_get? za))
 | tup hl h ih =>
  simp only [noZ,qdp] at hz;simp only [Ev.shift,qc7];refine .tup (by simpa using hl) fun j d hj=>?_;rw [List.getElem?_map,Option.map_eq_some_iff] at hj;obtain ⟨d',za,rfl⟩:=hj;exact ih j d' za hm (hz d' (mem_of_get? za))
 | fn hl h ih =>
  simp only [noZ,qdp] at hz;simp only [Ev.shift,qc7];refine .fn (by simpa using hl) fun j d hj=>?_;rw [List.getElem?_map,Option.map_eq_some_iff] at hj;obtain ⟨d',za,rfl⟩:=hj;exact ih j d' za hm (hz d' (mem_of_get? za))
 | iface h ih=>exact .iface (ih hm (by simpa [noZ] using hz))
 | optr a hi h =>
  simp only [noZ,decide_eq_true_eq] at hz;obtain ⟨m1,m2,m3⟩:=hm _ hz hi;refine .optr a m1 fun ds hd=>?_;rw [m2] at hd;rw [m3];exact h ds hd
 | osl a hi h qI =>
  simp only [noZ,decide_eq_true_eq] at hz;obtain ⟨m1,m2,m3⟩:=hm _ hz hi;refine .osl a m1 (fun ds hd=>?_) qI;rw [m2] at hd;rw [m3];exact h ds hd
 | vptr a f ha hc hr h _=>exact .vptr a f ha hc hr h
 | vnil=>exact .vnil
 | vsl a f ha hc hr h qI _=>exact .vsl a f ha hc hr h qI
theorem qvB {F:qY} (hF:Z6 X F) {f:Nat} {args:List D} {r:D} {vs:List Value} (h:ZX F f args H = some (r,H')) (hs:Sim X ok w ι H) (hv:RepL ok w ι H args vs) :
  Goes X.P (callFunc f vs.toArray) w (Post X H.length ok w ι H r H'):=by
 unfold ZX at h;split at h
 ·rename_i i st off rest;split at h
  ·rename_i ds hd;split at h
   ·rename_i hfree;rw [Bool.and_eq_true] at hfree;split at h
    ·rename_i r0 ds' L hc;split at h
     ·rename_i hok;rw [Bool.and_eq_true] at hok;injection h with h;injection h with h1 h2;subst h1;subst h2;have qg:i < H.length:=QO hd
      let ι1:qx:=fun k=>if k = 0 then ι i else none
      have hg0:∀ k es,qo [some ds] k = some es→k = 0∧es = ds:=by
       intro k es hk;cases k with
       | zero=>simp [qo] at hk;exact ⟨rfl,hk.symm⟩
       | succ k=>simp [qo] at hk
      have hs1:Sim X ok w ι1 [some ds]:=by
       refine ⟨hs.okS,hs.glob,fun a b es es' c s s' ha hb _ _=>by rw [(hg0 a es ha).1,(hg0 b es' hb).1],fun k es hk=>?_⟩;obtain ⟨rfl,rfl⟩:=hg0 k es hk;obtain ⟨b,arr,e,fr,q1,q2,q3,q4,q5,q6,q7,q8⟩:=hs.blk i es hd;exact ⟨b,arr,e,fr,q1,q2,q3,q4,q5,q6,q7,fun j d hj=>(q8 j d hj).free (Jw hfree.2 d (mem_of_get? hj)) _ _⟩
      have hv1:RepL ok w ι1 [some ds] (.optr 0 st off :: rest) vs:=by
       refine ⟨by simpa using hv.1,fun j d hj=>?_⟩;cases j with
       | zero =>
        simp only [List.getElem?_cons_zero,Option.some.injEq] at hj;subst hj;have h0:=hv.2 0 (.optr i st off) rfl;generalize vs.getD 0 undef = v0 at h0 ⊢;cases h0 with
        | optr a hi hk =>
         refine .optr a (by simp) fun es he=>?_;obtain ⟨_,rfl⟩:=hg0 0 es he;exact hk es hd
       | succ j =>
        have:=hv.2 (j+1) d (by simpa using hj);exact this.free (Jw hfree.1 d (mem_of_get? (by simpa using hj))) _ _
      refine (hF f _ _ _ _ ok w ι1 vs hc hs1 hv1).mono fun v w' hp=>?_;obtain ⟨ι',ok',k1,k2,k3,k4⟩:=hp
      have qS:∀ b,b < w.heap.size→(∀ s,ι i≠some (b,s))→w'.heap[b]? = w.heap[b]?:=fun b hb zE=>k3.frame b hb fun k es s hk hi=>by
       obtain ⟨rfl,_⟩:=hg0 k es hk;exact zE s hi
      have hown:∀ k es b s,qo (some ds' :: L) k = some es→ι' k = some (b,s)→b < w.heap.size→∃ s',ι i = some (b,s'):=fun k es b s hk hb qk=>by
       obtain ⟨j,es',s',hj,hi⟩:=k3.own k es b s hk hb qk;obtain ⟨rfl,_⟩:=hg0 j es' hj;exact ⟨s',hi⟩
      have hokN:∀ b,ok' b→b < w.heap.size→ok b∨∃ s,ι i = some (b,s):=fun b hb qk=>by
       rcases k3.okN b hb qk with h | ⟨k,es,s,hk,hi⟩
       ·exact .inl h
       ·obtain ⟨rfl,_⟩:=hg0 k es hk;exact .inr ⟨s,hi⟩
      let n:=H.length
      let ι2:qx:=fun j=>if j = i then ι' 0 else if j < n then ι j else ι' (j - n+1)
      have hn:(hset H i ds').length = n:=by simp [hset,n]
      have hH:∀ j es,qo (hset H i ds' ++ L) j = some es→(j = i∧es = ds'∧ι2 j = ι' 0)∨(j≠i∧j < n∧qo H j = some es∧ι2 j = ι j)∨(n≤j∧qo (some ds' :: L) (j - n+1) = some es∧ι2 j = ι' (j - n+1)):=by
       intro j es hj;by_cases hjn:j < n
       ·rw [Xn (by rw [hn];exact hjn)] at hj;by_cases kZ:j = i
        ·subst kZ;refine .inl ⟨rfl,?_,by simp [ι2]⟩;simp only [qo,hset] at hj;rw [List.getElem?_set_self qg] at hj;simpa using hj.symm
        ·refine .inr (.inl ⟨kZ,hjn,?_,by simp [ι2,kZ,hjn]⟩);simp only [qo,hset] at hj ⊢
         rwa [List.getElem?_set_ne (Ne.symm kZ)] at hj
       ·obtain ⟨k,rfl⟩:∃ k,j = n+k:=⟨j - n,by omega⟩;have vV:qo (hset H i ds' ++ L) ((hset H i ds').length+k) = some es:=(by rw [hn];exact hj);rw [Xo] at vV;have qr:n+k≠i:=(by omega);have e1:n+k - n+1 = k+1:=(by omega);refine .inr (.inr ⟨by omega,?_,?_⟩)
        ·rw [e1];simpa [qo] using vV
        ·show (if n+k = i then ι' 0 else if n+k < n then ι (n+k) else ι' (n+k - n+1)) = _;rw [if_neg qr,if_neg hjn]
      have hev:Evol n ok w ι H ok' w' ι2 (hset H i ds' ++ L):=by
       refine ⟨k3.os,k3.tape,k3.output,k3.size,fun b hb zE=>qS b hb fun s=>zE i ds s hd,k3.okU,fun b hb qk=>?_,⟨Nat.le_refl _,by rw [List.length_append,hn];omega⟩,?_,?_⟩
       ·rcases hokN b hb qk with h | ⟨s,hi⟩
        ·exact .inl h
        ·exact .inr ⟨i,ds,s,hd,hi⟩
       ·intro j hjn es hj;rcases hH j es hj with ⟨rfl,rfl,e⟩ | ⟨_,_,q,e⟩ | ⟨q,_,_⟩
        ·obtain ⟨ds2,vv,hle,hi2⟩:=k3.heap 0 (by simp) es rfl;obtain ⟨_,rfl⟩:=hg0 0 ds2 vv;exact ⟨ds2,hd,hle,fun hl=>by rw [e,hi2 hl];rfl⟩
        ·exact ⟨es,q,Nat.le_refl _,fun _=>e⟩
        ·omega
       ·intro j es b s hj hb qk;rcases hH j es hj with ⟨rfl,rfl,e⟩ | ⟨_,_,q,e⟩ | ⟨q,hk,e⟩
        ·rw [e] at hb;obtain ⟨s',hi⟩:=hown 0 es b s rfl hb qk;exact ⟨j,ds,s',hd,hi⟩
        ·rw [e] at hb;exact ⟨j,es,s,q,hb⟩
        ·rw [e] at hb;obtain ⟨s',hi⟩:=hown _ es b s hk hb qk;exact ⟨i,ds,s',hd,hi⟩
      have hsep:∀ j es b s,j≠i→qo H j = some es→ι j = some (b,s)→b < w.heap.size∧∀ s',ι i≠some (b,s'):=fun j es b s kZ hj hb=>⟨hs.lt hj hb,fun s' hi=>kZ (hs.inj j i es ds b s s' hj hd hb hi)⟩
      have hs2:Sim X ok' w' ι2 (hset H i ds' ++ L):=by
       refine ⟨k1.okS,k1.glob,?_,?_⟩
       ·intro a c es es' b s s' ha hc hb zb
        have cross:∀ {j es b s k es' s'},j≠i→j < n→qo H j = some es→ι j = some (b,s)→qo (some ds' :: L) k = some es'→ι' k = some (b,s')→False:=by
         intro j es b s k es' s' kZ _ hj hb hk zb;obtain ⟨q1,q2⟩:=hsep j es b s kZ hj hb;obtain ⟨s2,hi⟩:=hown k es' b s' hk zb q1;exact q2 s2 hi
        rcases hH a es ha with ⟨a1,rfl,ea⟩ | ⟨a1,a2,qa,ea⟩ | ⟨a1,qa,ea⟩ <;> rcases hH c es' hc with ⟨c1,rfl,ec⟩ | ⟨c1,c2,qc,ec⟩ | ⟨c1,qc,ec⟩ <;> rw [ea] at hb <;> rw [ec] at zb
        ·rw [a1,c1]
        ·exact (cross c1 c2 qc zb (k:=0) rfl hb).elim
        ·have:=k1.inj 0 _ _ _ b s s' rfl qc hb zb;omega
        ·exact (cross a1 a2 qa hb (k:=0) rfl zb).elim
        ·exact hs.inj a c es es' b s s' qa qc hb zb
        ·exact (cross a1 a2 qa hb qc zb).elim
        ·have:=k1.inj _ 0 _ _ b s s' qa rfl hb zb;omega
        ·exact (cross c1 c2 qc zb qa hb).elim
        ·have:=k1.inj _ _ _ _ b s s' qa qc hb zb;omega
       ·intro j es hj;rcases hH j es hj with ⟨rfl,rfl,e⟩ | ⟨j1,j2,qj,e⟩ | ⟨j1,qj,e⟩
        ·obtain ⟨b,arr,e1,fr,q1,q2,q3,q4,q5,q6,q7,q8⟩:=k1.blk 0 es rfl;exact ⟨b,arr,e1,fr,by rw [e];exact q1,q2,q3,q4,q5,q6,q7,fun m d hm=>(q8 m d hm).free (Jw hok.2 d (mem_of_get? hm)) _ _⟩
        ·obtain ⟨b,arr,e1,fr,q1,q2,q3,q4,q5,q6,q7,q8⟩:=hs.blk j es qj;obtain ⟨p1,p2⟩:=hsep j es b _ j1 qj q1;refine ⟨b,arr,e1,fr,by rw [e];exact q1,fun hb=>?_,by rw [qS b p1 p2];exact q3,q4,q5,q6,q7,fun m d hm=>(q8 m d hm).evol hs hev (q8 m d hm).closed⟩;rcases hokN b hb p1 with h | ⟨s,hi⟩
         ·exact q2 h
         ·exact p2 s hi
        ·obtain ⟨b,arr,e1,fr,q1,q2,q3,q4,q5,q6,q7,q8⟩:=k1.blk _ es qj;have hfr4:=k4 _ es (by simp) qj;exact ⟨b,arr,e1,fr,by rw [e];exact q1,q2,q3,q4,q5,q6,q7,fun m d hm=>(q8 m d hm).free (Jw hfr4 d (mem_of_get? hm)) _ _⟩
      refine ⟨ι2,ok',hs2,?_,hev⟩;refine k2.moved (m:=H.length - 1) (fun k hk1 hk2=>?_) hok.1;have e1:H.length - 1+k = n+(k - 1):=(by show H.length - 1+k = H.length+(k - 1);omega);have e2:k = k - 1+1:=(by omega);refine ⟨?_,?_,?_⟩
      ·rw [e1,List.length_append,hn];simp at hk2;omega
      ·rw [e1];have:qo (hset H i ds' ++ L) ((hset H i ds').length+(k - 1)) = qo L (k - 1):=Xo;rw [hn] at this;rw [this]
       conv=>rhs;rw [e2]
       simp [qo]
      ·rw [e1];have qr:¬ n+(k - 1) = i:=(by omega);have qQ:¬ n+(k - 1) < n:=(by omega);simp only [ι2,qr,qQ,if_false];congr 1;omega
     ·cases h
    ·cases h
   ·cases h
  ·cases h
 ·cases h
theorem XF (p:List Nat) (n:Nat) (l:List D):mv.mvL p n l = l.map (mv p n):=by
 induction l with
 | nil=>rfl
 | cons d l ih=>simp [mv.mvL,ih]
theorem qhN (p:List Nat) (n:Nat) (d:D):zC (mv p n d) = zC d:=by cases d <;> rfl
theorem Rep.back {p:List Nat} {n:Nat} {ι1 ι2:qx} {H1 H2:qi} (hm:∀ a,a < H1.length→ZR p n a < H2.length∧(∀ ds2,qo H2 (ZR p n a) = some ds2→∃ ds,qo H1 a = some ds∧ds.length = ds2.length)∧ι2 (ZR p n a) = ι1 a) {d:D} {v:Value} (h:Rep ok w ι1 H1 d v):Rep ok w ι2 H2 (mv p n d) v:=by
 induction h with
 | bool b=>exact .bool b
 | int k n=>exact .int k n
 | str s=>exact .str s
 | nilp=>exact .nilp
 | nilf=>exact .nilf
 | nili=>exact .nili
 | raw v=>exact .raw v
 | agg hl hc h ih =>
  simp only [mv,XF];refine .agg (by simpa using hl) (fun d hd=>?_) fun j d hj=>?_
  ·obtain ⟨d',za,rfl⟩:=List.mem_map.1 hd;rw [qhN];exact hc d' za
  ·rw [List.getElem?_map,Option.map_eq_some_iff] at hj;obtain ⟨d',za,rfl⟩:=hj;exact ih j d' za hm
 | tup hl h ih =>
  simp only [mv,XF];refine .tup (by simpa using hl) fun j d hj=>?_;rw [List.getElem?_map,Option.map_eq_some_iff] at hj;obtain ⟨d',za,rfl⟩:=hj;exact ih j d' za hm
 | fn hl h ih =>
  simp only [mv,XF];refine .fn (by simpa using hl) fun j d hj=>?_;rw [List.getElem?_map,Option.map_eq_some_iff] at hj;obtain ⟨d',za,rfl⟩:=hj;exact ih j d' za hm
 | iface h ih=>exact .iface (ih hm)
 | optr a hi h =>
  obtain ⟨m1,m2,m3⟩:=hm _ hi;refine .optr a m1 fun ds2 vv=>?_;obtain ⟨ds,r1,r2⟩:=m2 ds2 vv;obtain ⟨k1,k2⟩:=h ds r1;rw [r2] at k1 k2;rw [m3];exact ⟨k1,k2⟩
 | osl a hi h qI =>
  obtain ⟨m1,m2,m3⟩:=hm _ hi;refine .osl a m1 (fun ds2 vv=>?_) qI;obtain ⟨ds,r1,r2⟩:=m2 ds2 vv;obtain ⟨k1,k2⟩:=h ds r1;rw [r2] at k1 k2;rw [m3];exact ⟨k1,k2⟩
 | vptr a f ha hc hr h _=>exact .vptr a f ha hc hr h
 | vnil=>exact .vnil
 | vsl a f ha hc hr h qI _=>exact .vsl a f ha hc hr h qI
theorem qf7:∀ (p:List Nat) (T H:qi),(QW H p T).length = H.length
 | [],_,_=>by simp [QW]
 | _ :: _,[],_=>by simp [QW]
 | i :: p,b :: T,H=>by rw [QW,qf7 p T,List.length_set]
theorem qc8 {i:Nat}:∀ (p:List Nat) (T H:qi),i ∉ p→qo (QW H p T) i = qo H i
 | [],_,_,_=>by simp [QW]
 | _ :: _,[],_,_=>by simp [QW]
 | a :: p,b :: T,H,h=>by
  rw [QW,qc8 p T _ fun hp=>h (List.mem_cons_of_mem _ hp)];unfold qo;rw [List.getElem?_set_ne fun ha=>h (by rw [ha];exact List.mem_cons_self ..)]
theorem qc9 {i:Nat}:∀ (p:List Nat) (T H:qi) (a:Nat),p.Nodup→i < H.length→p[a]? = some i→a < T.length→qo (QW H p T) i = qo T a
 | [],_,_,_,_,_,h,_=>by simp at h
 | _ :: _,[],_,_,_,_,_,h=>by simp at h
 | c :: p,b :: T,H,0,hn,hi,h,_=>by
  simp only [List.getElem?_cons_zero,Option.some.injEq] at h;subst h;rw [QW,qc8 p T _ (List.nodup_cons.1 hn).1];unfold qo;rw [List.getElem?_set_self hi];rfl
 | c :: p,b :: T,H,a+1,hn,hi,h,ha=>by
  rw [QW,qc9 p T _ a (List.nodup_cons.1 hn).2 (by rw [List.length_set];exact hi) (by simpa using h) (by simpa using ha)];simp [qo]
theorem qhV:∀ {p:List Nat} {a i k:Nat},p.Nodup→p[a]? = some i→Zc p i k = some (k+a)
 | [],_,_,_,_,h=>by simp at h
 | c :: p,0,i,k,_,h=>by
  simp only [List.getElem?_cons_zero,Option.some.injEq] at h;simp [Zc,h]
 | c :: p,a+1,i,k,hn,h=>by
  have hm:i∈p:=List.mem_of_getElem? (by simpa using h);have qr:c≠i:=fun he=>(List.nodup_cons.1 hn).1 (by rw [he];exact hm);rw [Zc,if_neg qr,qhV (List.nodup_cons.1 hn).2 (by simpa using h)];congr 1;omega
theorem qhW {p:List Nat} {i:Nat} (h:i ∉ p):Zc p i 0 = none:=by
 cases hx:Zc p i 0 with
 | none=>rfl
 | some a=>exact absurd (List.mem_of_getElem? (qdH hx).2) h
theorem qg0 {p:List Nat}:∀ {l l':List D},X8 p l = some l'→l'.length = l.length∧∀ {j:Nat} {d':D},l'[j]? = some d'→∃ d,l[j]? = some d∧KX p d = some d'
 | [],l',h=>by
  simp only [X8,Option.some.injEq] at h;subst h;exact ⟨rfl,fun {j d'} hj=>by simp at hj⟩
 | d :: l,l',h=>by
  simp only [X8] at h;split at h
  ·rename_i d1 l1 h1 h2;injection h with h;subst h;obtain ⟨g1,g2⟩:=qg0 h2;refine ⟨by simp [g1],fun {j d'} hj=>?_⟩;cases j with
   | zero =>
    simp only [List.getElem?_cons_zero,Option.some.injEq] at hj;subst hj;exact ⟨d,rfl,h1⟩
   | succ j=>simpa using g2 (j:=j) (d':=d') (by simpa using hj)
  ·cases h
theorem qv7 {F:qY} (hF:Z6 X F) {f i:Nat} {args:List D} {p:List Nat} (hp0:p[0]? = some i) {r:D} {vs:List Value} (h:XX F f args H p = some (r,H')) (hs:Sim X ok w ι H) (hv:RepL ok w ι H args vs) :
  Goes X.P (callFunc f vs.toArray) w (Post X H.length ok w ι H r H'):=by
 unfold XX at h;split at h
 ·rename_i args' H0 hA hH;split at h
  ·rename_i hfree;rw [Bool.and_eq_true,decide_eq_true_eq] at hfree;obtain ⟨hnd,hfr2⟩:=hfree;split at h
   ·rename_i r0 A T hc;split at h
    ·rename_i hT;injection h with h;injection h with h1 h2;subst h1;subst h2;obtain ⟨hl,hg⟩:=qcT hH;obtain ⟨vP,hag⟩:=qg0 hA;have hS:∀ {a j:Nat},p[a]? = some j→∃ ds ds2,qo H j = some ds∧JN p ds = some ds2∧qo H0 a = some ds2:=fun h=>qcS hH h
     have hret:∀ {d d':D},KX p d = some d'→JM 0 p [(0,d)] H = some ([(0,d')],H0):=fun {d d'} hd=>by
      unfold JM;simp [V9,hd,hH,hnd,Z7]
     have hret0:JM 0 p [] H = some ([],H0):=by
      unfold JM;simp [V9,hH,hnd,Z7]
     obtain ⟨hs1,-,-⟩:=qcN (tmps:= #[]) hret0 hs (fun t d ht=>by simp [qf] at ht)
     let ι0:qx:=fun j=>ι (p.getD j 0)
     have hι0:∀ {a j:Nat},p[a]? = some j→ι0 a = ι j:=fun {a j} h=>by
      show ι (p.getD a 0) = ι j;rw [List.getD_eq_getElem?_getD,h];rfl
     have hv1:RepL ok w ι0 H0 args' vs:=by
      refine ⟨by rw [vP];exact hv.1,fun j d' hj=>?_⟩;obtain ⟨d,q1,q2⟩:=hag hj;have h0:=hv.2 j d q1
      have he:EnvRep ok w ι H [(0,d)] #[vs.getD j undef]:=fun t c ht=>by
       simp only [qf] at ht;split at ht
       ·rename_i kq;injection ht with ht;subst ht;subst kq;exact ⟨by simp,h0⟩
       ·cases ht
      obtain ⟨-,he1,-⟩:=qcN (hret q2) hs he;exact (he1 0 d' (by simp [qf])).2
     refine (hF f _ _ _ _ ok w ι0 vs hc hs1 hv1).mono fun v w' hp=>?_;obtain ⟨ι',ok',k1,k2,k3,k4⟩:=hp;have hkT:p.length≤(some A :: T).length:=(by rw [← hl];exact k3.nle.2);have vA:0 < p.length:=(List.getElem?_eq_some_iff.1 hp0).1
     have qS:∀ b,b < w.heap.size→(∀ a j s,p[a]? = some j→ι j≠some (b,s))→w'.heap[b]? = w.heap[b]?:=fun b hb zE=>k3.frame b hb fun a ds s ha hi=>by
      obtain ⟨j,_,q1,_⟩:=hg ha;exact zE a j s q1 (by rw [← hι0 q1];exact hi)
     have hown:∀ a es b s,qo (some A :: T) a = some es→ι' a = some (b,s)→b < w.heap.size→∃ c j s',p[c]? = some j∧ι j = some (b,s'):=fun a es b s hk hb qk=>by
      obtain ⟨c,es',s',hj,hi⟩:=k3.own a es b s hk hb qk;obtain ⟨j,_,q1,_⟩:=hg hj;exact ⟨c,j,s',q1,by rw [← hι0 q1];exact hi⟩
     have hokN:∀ b,ok' b→b < w.heap.size→ok b∨∃ c j s,p[c]? = some j∧ι j = some (b,s):=fun b hb qk=>by
      rcases k3.okN b hb qk with h | ⟨c,es,s,hk,hi⟩
      ·exact .inl h
      ·obtain ⟨j,_,q1,_⟩:=hg hk;exact .inr ⟨c,j,s,q1,by rw [← hι0 q1];exact hi⟩
     have hpn:∀ {a j:Nat},p[a]? = some j→j < H.length:=fun h=>by
      obtain ⟨ds,_,q,_⟩:=hS h;exact QO q
     obtain ⟨B,hB⟩:∃ B:qi,B = some (mv.mvL p H.length A) :: T:=⟨_,rfl⟩;have hBl:B.length = (some A :: T).length:=by rw [hB];rfl
     have hBH:∀ a es,qo B a = some es→∃ es1,qo (some A :: T) a = some es1∧es1.length = es.length∧((a = 0∧es = mv.mvL p H.length es1)∨(es = es1∧es.all idFree = true)):=by
      intro a es ha;rw [hB] at ha;cases a with
      | zero =>
       simp only [qo,List.getElem?_cons_zero,Option.getD_some,Option.some.injEq] at ha;subst ha;exact ⟨A,rfl,by simp [XF],.inl ⟨rfl,rfl⟩⟩
      | succ a =>
       have ha':qo T a = some es:=(by simpa [qo] using ha);refine ⟨es,by simpa [qo] using ha,rfl,.inr ⟨rfl,?_⟩⟩;have qg:=QO ha'
       have hm:some es∈T:=by
        unfold qo at ha';rw [List.getElem?_eq_getElem qg] at ha';rw [← show T[a] = some es by simpa using ha'];exact List.getElem_mem qg
       simpa [XZ] using List.all_eq_true.1 hT _ hm
     let n:=H.length
     let k:=p.length
     let H2:qi:=QW H p B ++ T.drop (k - 1)
     have hn:(QW H p B).length = n:=qf7 _ _ _
     let ι2:qx:=fun j=>match Zc p j 0 with
      | some a=>ι' a
      | none=>if j < n then ι j else ι' (j - n+k)
     have i2a:∀ {a j:Nat},p[a]? = some j→ι2 j = ι' a:=fun {a j} h=>by
      have:=qhV (k:=0) hnd h;show (match Zc p j 0 with | some a=>ι' a | none=>_) = _;rw [this,Nat.zero_add]
     have i2b:∀ {j:Nat},j ∉ p→j < n→ι2 j = ι j:=fun {j} h hj=>by
      show (match Zc p j 0 with | some a=>ι' a | none=>if j < n then ι j else ι' (j - n+k)) = _;rw [qhW h];simp only;rw [if_pos hj]
     have i2c:∀ {j:Nat},n≤j→ι2 j = ι' (j - n+k):=fun {j} hj=>by
      have hnp:j ∉ p:=fun h=>by
       obtain ⟨a,ha⟩:=List.mem_iff_getElem?.1 h;have:=hpn ha;omega
      show (match Zc p j 0 with | some a=>ι' a | none=>if j < n then ι j else ι' (j - n+k)) = _;rw [qhW hnp];simp only;rw [if_neg (by omega)]
     have g3:∀ {j:Nat},n≤j→qo H2 j = qo (some A :: T) (j - n+k):=fun {j} hj=>by
      obtain ⟨m,rfl⟩:∃ m,j = n+m:=⟨j - n,by omega⟩;have e1:qo H2 ((QW H p B).length+m) = qo (T.drop (k - 1)) m:=Xo;rw [hn] at e1;rw [e1];have e2:n+m - n+k = (k - 1+m)+1:=(by omega);rw [e2];simp [qo,List.getElem?_drop]
     have hH:∀ j es,qo H2 j = some es→(∃ a,p[a]? = some j∧qo B a = some es∧ι2 j = ι' a)∨(j ∉ p∧j < n∧qo H j = some es∧ι2 j = ι j)∨(n≤j∧qo (some A :: T) (j - n+k) = some es∧ι2 j = ι' (j - n+k)):=by
      intro j es hj;by_cases hjn:j < n
      ·rw [Xn (by rw [hn];exact hjn)] at hj;by_cases hjp:j∈p
       ·obtain ⟨a,ha⟩:=List.mem_iff_getElem?.1 hjp
        have vP:a < B.length:=by
         have:=(List.getElem?_eq_some_iff.1 ha).1;omega
        rw [qc9 p B H a hnd hjn ha vP] at hj;exact .inl ⟨a,ha,hj,i2a ha⟩
       ·rw [qc8 p B H hjp] at hj;exact .inr (.inl ⟨hjp,hjn,hj,i2b hjp hjn⟩)
      ·have hjn':n≤j:=(by omega);rw [g3 hjn'] at hj;exact .inr (.inr ⟨hjn',hj,i2c hjn'⟩)
     have hev:Evol n ok w ι H ok' w' ι2 H2:=by
      refine ⟨k3.os,k3.tape,k3.output,k3.size,fun b hb zE=>qS b hb fun a j s ha=>?_,k3.okU,fun b hb qk=>?_,⟨Nat.le_refl _,by rw [List.length_append,hn];omega⟩,?_,?_⟩
      ·obtain ⟨ds,_,q,_⟩:=hS ha;exact zE j ds s q
      ·rcases hokN b hb qk with h | ⟨c,j,s,hc,hi⟩
       ·exact .inl h
       ·obtain ⟨ds,_,q,_⟩:=hS hc;exact .inr ⟨j,ds,s,q,hi⟩
      ·intro j hjn es hj;rcases hH j es hj with ⟨a,ha,q,e⟩ | ⟨_,_,q,e⟩ | ⟨q,_,_⟩
       ·obtain ⟨es1,q1,q2,-⟩:=hBH a es q;obtain ⟨ds,ds2,d1,d2,d3⟩:=hS ha;obtain ⟨ds3,d4,hle,hi2⟩:=k3.heap a (by rw [hl];exact (List.getElem?_eq_some_iff.1 ha).1) es1 q1;rw [d3] at d4;injection d4 with d4;subst d4;have qZ:=qaX d2;exact ⟨ds,d1,by omega,fun vM=>by rw [e,hi2 (by omega)];exact hι0 ha⟩
       ·exact ⟨es,q,Nat.le_refl _,fun _=>e⟩
       ·omega
      ·intro j es b s hj hb qk;rcases hH j es hj with ⟨a,ha,q,e⟩ | ⟨_,_,q,e⟩ | ⟨q,hk,e⟩
       ·rw [e] at hb;obtain ⟨es1,q1,-⟩:=hBH a es q;obtain ⟨c,j',s',hc,hi⟩:=hown a es1 b s q1 hb qk;obtain ⟨ds,_,d1,_⟩:=hS hc;exact ⟨j',ds,s',d1,hi⟩
       ·rw [e] at hb;exact ⟨j,es,s,q,hb⟩
       ·rw [e] at hb;obtain ⟨c,j',s',hc,hi⟩:=hown _ es b s hk hb qk;obtain ⟨ds,_,d1,_⟩:=hS hc;exact ⟨j',ds,s',d1,hi⟩
     have hsep:∀ j es b s,j ∉ p→qo H j = some es→ι j = some (b,s)→b < w.heap.size∧∀ a j' s',p[a]? = some j'→ι j'≠some (b,s'):=fun j es b s hjp hj hb=>⟨hs.lt hj hb,fun a j' s' ha hi=>by
      obtain ⟨ds,_,d1,_⟩:=hS ha;have:=hs.inj j j' es ds b s s' hj d1 hb hi;exact hjp (by rw [this];exact List.mem_of_getElem? ha)⟩
     have hback:∀ {d:D} {v:Value},Rep ok' w' ι' (some A :: T) d v→Rep ok' w' ι2 H2 (mv p n d) v:=fun h=>by
      refine h.back fun a ha=>?_;cases hpa:p[a]? with
      | some j =>
       have e1:ZR p n a = j:=(by unfold ZR;rw [hpa]);rw [e1];have hj:=hpn hpa;refine ⟨by rw [List.length_append,hn];omega,fun ds2 vv=>?_,i2a hpa⟩;rw [Xn (by rw [hn];exact hj),qc9 p B H a hnd hj hpa (by rw [hBl];exact ha)] at vv;obtain ⟨es1,q1,q2,-⟩:=hBH a ds2 vv;exact ⟨es1,q1,q2⟩
      | none =>
       have hak:k≤a:=List.getElem?_eq_none_iff.1 hpa;have e1:ZR p n a = n+(a - k):=(by unfold ZR;rw [hpa]);have e2:n+(a - k) - n+k = a:=(by omega);rw [e1];refine ⟨?_,fun ds2 vv=>?_,?_⟩
       ·rw [List.length_append,hn,List.length_drop];simp only [List.length_cons] at ha hkT;omega
       ·rw [g3 (by omega),e2] at vv;exact ⟨ds2,vv,rfl⟩
       ·rw [i2c (by omega),e2]
     have hs2:Sim X ok' w' ι2 H2:=by
      refine ⟨k1.okS,k1.glob,?_,?_⟩
      ·intro a c es es' b s s' ha hc hb zb
       have cross:∀ {j es b s a es' s'},j ∉ p→qo H j = some es→ι j = some (b,s)→qo (some A :: T) a = some es'→ι' a = some (b,s')→False:=by
        intro j es b s a es' s' hjp hj hb hk zb;obtain ⟨q1,q2⟩:=hsep j es b s hjp hj hb;obtain ⟨c,j',s2,hc,hi⟩:=hown a es' b s' hk zb q1;exact q2 c j' s2 hc hi
       have old:∀ j es,((∃ a,p[a]? = some j∧qo B a = some es∧ι2 j = ι' a)∨(n≤j∧qo (some A :: T) (j - n+k) = some es∧ι2 j = ι' (j - n+k)))→∃ a es1,qo (some A :: T) a = some es1∧ι2 j = ι' a∧ZR p n a = j:=by
        rintro j es (⟨a,q1,q2,q3⟩ | ⟨q1,q2,q3⟩)
        ·obtain ⟨es1,q4,-⟩:=hBH a es q2;exact ⟨a,es1,q4,q3,by unfold ZR;rw [q1]⟩
        ·refine ⟨_,es,q2,q3,?_⟩;unfold ZR;rw [List.getElem?_eq_none_iff.2 (show p.length≤j - n+k by omega)];show n+(j - n+k - k) = j;omega
       have split2:∀ j es,qo H2 j = some es→(∃ a es1,qo (some A :: T) a = some es1∧ι2 j = ι' a∧ZR p n a = j)∨(j ∉ p∧qo H j = some es∧ι2 j = ι j):=fun j es hj=>by
        rcases hH j es hj with h | ⟨h1,_,h2,h3⟩ | h
        ·exact .inl (old j es (.inl h))
        ·exact .inr ⟨h1,h2,h3⟩
        ·exact .inl (old j es (.inr h))
       rcases split2 a es ha with ⟨a1,e1,qa,ea,ma⟩ | ⟨a1,qa,ea⟩ <;> rcases split2 c es' hc with ⟨c1,e2,qc,ec,mc⟩ | ⟨c1,qc,ec⟩ <;> rw [ea] at hb <;> rw [ec] at zb
       ·have:=k1.inj a1 c1 _ _ b s s' qa qc hb zb;rw [← ma,← mc,this]
       ·exact (cross c1 qc zb qa hb).elim
       ·exact (cross a1 qa hb qc zb).elim
       ·exact hs.inj a c es es' b s s' qa qc hb zb
      ·intro j es hj;rcases hH j es hj with ⟨a,ha,q,e⟩ | ⟨j1,j2,qj,e⟩ | ⟨j1,qj,e⟩
       ·obtain ⟨es1,q1,q2,q3⟩:=hBH a es q;obtain ⟨b,arr,ty,fr,u1,u2,u3,u4,u5,u6,u7,u8⟩:=k1.blk a es1 q1;refine ⟨b,arr,ty,fr,by rw [e];exact u1,u2,u3,by omega,u5,u6,?_,?_⟩
        ·rcases q3 with ⟨-,rfl⟩ | ⟨rfl,-⟩
         ·intro d hd;rw [XF] at hd;obtain ⟨d',za,rfl⟩:=List.mem_map.1 hd;rw [qhN];exact u7 d' za
         ·exact u7
        ·rcases q3 with ⟨-,rfl⟩ | ⟨rfl,hf⟩
         ·intro m d hm;rw [XF,List.getElem?_map,Option.map_eq_some_iff] at hm;obtain ⟨d',za,rfl⟩:=hm;exact hback (u8 m d' za)
         ·exact fun m d hm=>(u8 m d hm).free (Jw hf d (mem_of_get? hm)) _ _
       ·obtain ⟨b,arr,e1,fr,q1,q2,q3,q4,q5,q6,q7,q8⟩:=hs.blk j es qj;obtain ⟨p1,p2⟩:=hsep j es b _ j1 qj q1;refine ⟨b,arr,e1,fr,by rw [e];exact q1,fun hb=>?_,by rw [qS b p1 p2];exact q3,q4,q5,q6,q7,fun m d hm=>(q8 m d hm).evol hs hev (q8 m d hm).closed⟩;rcases hokN b hb p1 with h | ⟨c,j',s,hc,hi⟩
        ·exact q2 h
        ·exact p2 c j' s hc hi
       ·obtain ⟨b,arr,e1,fr,q1,q2,q3,q4,q5,q6,q7,q8⟩:=k1.blk _ es qj;have hf:es.all idFree = true:=k4 _ es (by rw [hl];show k≤_;omega) qj;exact ⟨b,arr,e1,fr,by rw [e];exact q1,q2,q3,q4,q5,q6,q7,fun m d hm=>(q8 m d hm).free (Jw hf d (mem_of_get? hm)) _ _⟩
     rw [← hB];exact ⟨ι2,ok',hs2,hback k2,hev⟩
    ·cases h
   ·cases h
  ·cases h
 ·cases h
theorem qv8 {F:qY} (hF:Z6 X F) {f:Nat} {args:List D} {r:D} {vs:List Value} (h:Vw F f args H = some (r,H')) (hs:Sim X ok w ι H) (hv:RepL ok w ι H args vs) :
  Goes X.P (callFunc f vs.toArray) w (Post X H.length ok w ι H r H'):=by
 unfold Vw at h;split at h
 ·cases h
 ·exact qv7 hF rfl h hs hv
theorem qvE {F:qY} (hF:Z6 X F) {f:Nat} {args:List D} {r:D} {vs:List Value} (h:Vx X F f args H = some (r,H')) (hs:Sim X ok w ι H) (hv:RepL ok w ι H args vs) :
  Goes X.P (callFunc f vs.toArray) w (Post X H.length ok w ι H r H'):=by
 unfold Vx at h;split at h
 ·exact qv8 hF h hs hv
 ·exact qvB hF h hs hv
theorem qe5 {F:qY} (hF:Z6 X F) {f:Nat} {args:List D} {r:D} {vs:List Value} (h:Jt X F f args H = some (r,H')) (hs:Sim X ok w ι H) (hv:RepL ok w ι H args vs) :
  Goes X.P (callFunc f vs.toArray) w (Post X H.length ok w ι H r H'):=by
 unfold Jt at h;split at h
 ·split at h
  ·exact qvE hF h hs hv
  refine (hF f args H r H' ok w ι vs h hs hv).mono fun v w' hp=>?_;obtain ⟨ι',ok',h1,h2,h3,_⟩:=hp;exact ⟨ι',ok',h1,h2,h3⟩
 ·split at h
  ·rename_i hfree;split at h
   ·cases h
   ·rename_i r0 L hc;injection h with h;injection h with h1 h2;subst h1;subst h2;refine (hF f args [] r0 L ok w qT vs hc (qlO hs) ⟨hv.1,fun j d hj=>(hv.2 j d hj).free (Jw hfree d (mem_of_get? hj)) _ _⟩).mono fun v w' hp=>?_;obtain ⟨ι1,ok1,k1,k2,k3,k4⟩:=hp;have qS:∀ b,b < w.heap.size→w'.heap[b]? = w.heap[b]?:=fun b hb=>k3.frame b hb (fun i ds s hd=>by simp [qo] at hd)
    obtain ⟨j1,j2⟩:=qjT (L:=L) (ι1:=ι1) (ok2:=ok1) hs ⟨k3.os,k3.tape,k3.output⟩ k3.size qS k3.okU (fun b hb qg=>(k3.okN b hb qg).resolve_right fun ⟨i,ds,s,hd,_⟩=>by simp [qo] at hd) k1.okS k1.inj (fun i ds hd=>by
     obtain ⟨b,arr,e,fr,q1,q2,q3,q4,q5,q6,q7,q8⟩:=k1.blk i ds hd;refine ⟨b,arr,e,fr,q1,?_,q2,q3,q4,q5,q6,q7,fun j d hj=>(q8 j d hj).free (Jw (k4 i ds (Nat.zero_le _) hd) d (mem_of_get? hj)) _ _⟩;rcases Nat.lt_or_ge b w.heap.size with qg | hge
     ·obtain ⟨j,es,s',hj,_⟩:=k3.own i ds b _ hd q1 qg;simp [qo] at hj
     ·exact hge)
    exact ⟨_,ok1,j1,k2.shift ι H,j2⟩
  ·split at h
   ·cases h
   ·rename_i args' vO;split at h
    ·cases h
    ·rename_i r0 L hc;split at h
     ·rename_i hvf;rw [Bool.and_eq_true] at hvf;injection h with h;injection h with h1 h2;subst h1;subst h2;obtain ⟨l1,l2⟩:=freeze_rep.freezeL_rep hs args (vs:=fun j=>vs.getD j undef) hv.2 vO;refine (hF f args' [] r0 L (qbg ok ι H) w qT vs hc (qlP hs) ⟨by rw [hv.1,l1],l2⟩).mono fun v w' hp=>?_;obtain ⟨ι1,ok1,k1,k2,k3,k4⟩:=hp;have qS:∀ b,b < w.heap.size→w'.heap[b]? = w.heap[b]?:=fun b hb=>k3.frame b hb (fun i ds s hd=>by simp [qo] at hd)
      obtain ⟨j1,j2⟩:=qjT (L:=L) (ι1:=ι1) (ok2:=ok) hs ⟨k3.os,k3.tape,k3.output⟩ k3.size qS (fun _ h=>h) (fun _ h _=>h) (fun b hb=>Nat.lt_of_lt_of_le (hs.okS b hb) k3.size) k1.inj (fun i ds hd=>by
       obtain ⟨b,arr,e,fr,q1,q2,q3,q4,q5,q6,q7,q8⟩:=k1.blk i ds hd
       have hge:w.heap.size≤b:=by
        rcases Nat.lt_or_ge b w.heap.size with qg | hge
        ·obtain ⟨j,es,s',hj,_⟩:=k3.own i ds b _ hd q1 qg;simp [qo] at hj
        ·exact hge
       refine ⟨b,arr,e,fr,q1,hge,fun hb=>by have:=hs.okS b hb;omega,q3,q4,q5,q6,q7,fun j d hj=>?_⟩
       have hdv:vFree d = true:=by
        have hl:=QO hd
        have hmem:some ds∈L:=by
         unfold qo at hd;rw [List.getElem?_eq_getElem hl] at hd;simp only [Option.getD_some] at hd;rw [← hd];exact List.getElem_mem hl
        have:=List.all_eq_true.1 hvf.2 _ hmem;simp only [qe7] at this;exact List.all_eq_true.1 this d (mem_of_get? hj)
       exact ((q8 j d hj).free (Jw (k4 i ds (Nat.zero_le _) hd) d (mem_of_get? hj)) _ _).vfree hdv ok)
      exact ⟨_,ok,j1,(k2.vfree hvf.1 ok).shift ι H,j2⟩
     ·cases h
mutual
theorem qaL (n:Nat):∀ (d:D),idFree d = true→shift n d = d
 | .agg cs,h=>by simp only [idFree] at h;simp only [shift,Ym n cs h]
 | .tup cs,h=>by simp only [idFree] at h;simp only [shift,Ym n cs h]
 | .fn f cs,h=>by simp only [idFree] at h;simp only [shift,Ym n cs h]
 | .iface t d,h=>by simp only [idFree] at h;simp only [shift,qaL n d h]
 | .optr ..,h=>by simp [idFree] at h
 | .osl ..,h=>by simp [idFree] at h
 | .bool _,_=>rfl
 | .int _ _,_=>rfl
 | .str _,_=>rfl
 | .nilp,_=>rfl
 | .nilf,_=>rfl
 | .nili,_=>rfl
 | .raw _,_=>rfl
 | .vptr _,_=>rfl
 | .vsl ..,_=>rfl
theorem Ym (n:Nat):∀ (cs:List D),idFree.idFreeL cs = true→shift.shiftL n cs = cs
 | [],_=>rfl
 | d :: l,h=>by
  simp only [idFree.idFreeL,Bool.and_eq_true] at h;simp only [shift.shiftL,qaL n d h.1,Ym n l h.2]
end
theorem qar {F:qY} {f:Nat} {args:List D} {r:D × qi} (hp:(X.pureF f && !X.byRef f) = true) (h:Qs X F f args H = some r):r.2 = H∧idFree r.1 = true ∧
  ((args.all idFree = true∧F f args [] = some (r.1,[])) ∨
   (¬ args.all idFree = true∧X.perm f = true∧args.all (Vs H) = true∧vFree r.1 = true∧∃ args',VI H args = some args'∧F f args' [] = some (r.1,[]))):=by
 unfold Qs at h;rw [if_pos hp] at h;split at h
 ·rename_i ha;split at h
  ·rename_i r0 hc;split at h
   ·rename_i hi;injection h with h;subst h;exact ⟨rfl,hi,.inl ⟨ha,hc⟩⟩
   ·cases h
  ·cases h
 ·rename_i ha;split at h
  ·rename_i hpf;rw [Bool.and_eq_true] at hpf;split at h
   ·rename_i args' vO;split at h
    ·rename_i r0 hc;split at h
     ·rename_i hi;rw [Bool.and_eq_true] at hi;injection h with h;subst h;exact ⟨rfl,hi.1,.inr ⟨ha,hpf.1,hpf.2,hi.2,args',vO,hc⟩⟩
     ·cases h
    ·cases h
   ·cases h
  ·cases h
theorem qca {F:qY} {f:Nat} {args:List D} {r:D × qi} (h:Qs X F f args H = some r):Jt X F f args H = some r:=by
 by_cases hp:(X.pureF f && !X.byRef f) = true
 ·obtain ⟨h4,h3,h1⟩:=qar hp h
  have hb:¬ X.byRef f = true:=by
   rw [Bool.and_eq_true] at hp;simpa using hp.2
  obtain ⟨r,H'⟩:=r;simp only at h3 h4 h1;subst h4;unfold Jt;rcases h1 with ⟨h1,h2⟩ | ⟨h1,_,_,hv,args',vO,h2⟩
  ·rw [if_neg hb,if_pos h1,h2];simp only [qaL _ _ h3,List.append_nil]
  ·rw [if_neg hb,if_neg h1,vO];simp only [h2,hv,List.all_nil,Bool.and_self,if_true,qaL _ _ h3,List.append_nil]
 ·unfold Qs at h
  rwa [if_neg hp] at h
theorem qlM {i:Nat} {ds ds':List D} (hs:Sim X ok w ι H) (hd:qo H i = some ds) (hl:ds.length = ds'.length) (hr:∀ b arr e fr,ι i = some (b,arr.size)→w.heap[b]? = some (.cells arr e fr)→∀ (j:Nat) d,ds'[j]? = some d→Rep ok w qT [] d (arr.getD j undef)) :
  Sim X ok w ι (hset H i ds')∧Evol H.length ok w ι H ok w ι (hset H i ds'):=by
 have qg:i < H.length:=QO hd
 have hg:∀ j es,qo (hset H i ds') j = some es→(j = i∧es = ds')∨(j≠i∧qo H j = some es):=by
  intro j es hj;by_cases kZ:j = i
  ·subst kZ;simp only [qo,hset] at hj;rw [List.getElem?_set_self qg] at hj;exact .inl ⟨rfl,by simpa using hj.symm⟩
  ·refine .inr ⟨kZ,?_⟩;simp only [qo,hset] at hj ⊢
   rwa [List.getElem?_set_ne (Ne.symm kZ)] at hj
 have hg2:∀ j es,qo (hset H i ds') j = some es→∃ es0,qo H j = some es0:=by
  intro j es hj;rcases hg j es hj with ⟨rfl,_⟩ | ⟨_,h⟩
  ·exact ⟨ds,hd⟩
  ·exact ⟨es,h⟩
 have hev:Evol H.length ok w ι H ok w ι (hset H i ds'):=by
  refine ⟨rfl,rfl,rfl,Nat.le_refl _,fun _ _ _=>rfl,fun _ h=>h,fun b h _=>.inl h,⟨Nat.le_refl _,by simp [hset]⟩,?_,?_⟩
  ·intro j _ es hj;rcases hg j es hj with ⟨rfl,rfl⟩ | ⟨_,h⟩
   ·exact ⟨ds,hd,by rw [hl];exact Nat.le_refl _,fun _=>rfl⟩
   ·exact ⟨es,h,Nat.le_refl _,fun _=>rfl⟩
  ·intro j es b s hj hb _;obtain ⟨es0,h0⟩:=hg2 j es hj;exact ⟨j,es0,s,h0,hb⟩
 refine ⟨⟨hs.okS,hs.glob,?_,?_⟩,hev⟩
 ·intro a c es es' b s s' ha hc hb zb;obtain ⟨e1,h1⟩:=hg2 a es ha;obtain ⟨e2,h2⟩:=hg2 c es' hc;exact hs.inj a c e1 e2 b s s' h1 h2 hb zb
 ·intro j es hj;rcases hg j es hj with ⟨rfl,rfl⟩ | ⟨_,h⟩
  ·obtain ⟨b,arr,e,fr,k1,k2,k3,k4,k5,k6,k7,k8⟩:=hs.blk j ds hd;have hrr:=hr b arr e fr k1 k3;refine ⟨b,arr,e,fr,k1,k2,k3,by rw [← hl];exact k4,k5,k6,fun d hm=>?_,fun m d hm=>(hrr m d hm).lift⟩;obtain ⟨m,zH,zj⟩:=List.mem_iff_getElem.1 hm;have hm3:es[m]? = some d:=(by rw [List.getElem?_eq_getElem zH,zj]);exact qb0 (hrr m d hm3) (k6 m (by omega))
  ·obtain ⟨b,arr,e,fr,k1,k2,k3,k4,k5,k6,k7,k8⟩:=hs.blk j es h;exact ⟨b,arr,e,fr,k1,k2,k3,k4,k5,k6,k7,fun m d hm=>(k8 m d hm).evol hs hev (k8 m d hm).closed⟩
theorem qjK:Evol H.length ok w ι H ok w ι H :=
 ⟨rfl,rfl,rfl,Nat.le_refl _,fun _ _ _=>rfl,fun _ h=>h,fun _ h _=>.inl h,⟨Nat.le_refl _,Nat.le_refl _⟩,fun _ _ ds hd=>⟨ds,hd,Nat.le_refl _,fun _=>rfl⟩,fun i ds _ s hd hi _=>⟨i,ds,s,hd,hi⟩⟩
theorem qfs {i:Nat} (h:X4 H i = some H') (hs:Sim X ok w ι H):∃ ok',Sim X ok' w ι H'∧Evol H.length ok w ι H ok' w ι H'∧H'.length = H.length:=by
 unfold X4 at h;split at h
 ·rename_i ds hd;split at h
  ·injection h with h;subst h;exact ⟨ok,hs,qjK,rfl⟩
  split at h
  ·rename_i ds' l hsl;split at h
   ·cases h
   ·rename_i hil;injection h with h;subst h
    have hd1:qo (ZI H l) i = some ds:=by
     have:∀ (l:List Nat) (H:qi),qo H i = some ds→i ∉ l→qo (ZI H l) i = some ds:=by
      intro l
      induction l with
      | nil=>intro H h _;exact h
      | cons a l ih =>
       intro H h hn;simp only [List.mem_cons,not_or] at hn;refine ih _ ?_ hn.2;unfold qo at h ⊢
       rwa [List.getElem?_set_ne (Ne.symm hn.1)]
     exact this l H hd hil
    have hsc:=qbW hs l
    have hst2:∀ b arr e fr,ι i = some (b,arr.size)→w.heap[b]? = some (.cells arr e fr)→ds.length = ds'.length∧∀ (j:Nat) d,ds'[j]? = some d→Rep (JR ok ι H l) w qT [] d (arr.getD j undef):=by
     intro b arr e fr q1 q2;obtain ⟨b',arr',e',fr',k1,k2,k3,k4,k5,k6,k7,k8⟩:=hs.blk i ds hd;rw [q1] at k1;injection k1 with k1;injection k1 with k1a k1b;subst k1a;rw [q2] at k3;injection k3 with k3;injection k3 with k3a k3b k3c;subst k3a
     exact VY (cond:=fun i=>∀ ds b s,qo H i = some ds→ι i = some (b,s)→JR ok ι H l b) (fun d d' l' v hr hd hc=>Yj hs (okF:=JR ok ι H l) (fun b hb=>.inl hb) 9 d d' l' v hr hd hc) ds (vs:=fun j=>arr.getD j undef) k8 hsl
      (fun i hi ds b s hd hb=>.inr ⟨i,ds,s,hi,hd,hb⟩)
    obtain ⟨b,arr,e,fr,k1,k2,k3,-⟩:=hs.blk i ds hd;obtain ⟨s1,s2⟩:=qlM hsc hd1 (hst2 b arr e fr k1 k3).1 (fun b arr e fr q1 q2=>(hst2 b arr e fr q1 q2).2);have qZ:(hset (ZI H l) i ds').length = H.length:=(by rw [hset,List.length_set,XG]);rw [XG] at s2;exact ⟨JR ok ι H l,s1,(XV (ok:=ok) (w:=w) (ι:=ι) (H:=H) l).trans s2,qZ⟩
  ·cases h
 ·cases h
theorem qc1 {e:qp}:∀ {ss:List Nat} {H H':qi} {ok:Nat→Prop},VZ e ss H = some H'→Sim X ok w ι H→∃ ok',Sim X ok' w ι H'∧Evol H.length ok w ι H ok' w ι H'∧H'.length = H.length
 | [],H,H',ok,h,hs=>by
  injection h with h;subst h;exact ⟨ok,hs,qjK,rfl⟩
 | s :: ss,H,H',ok,h,hs=>by
  have go:∀ {i:Nat},(match X4 H i with
   | some H'=>VZ e ss H'
   | none=>none) = some H'→∃ ok',Sim X ok' w ι H'∧Evol H.length ok w ι H ok' w ι H'∧H'.length = H.length:=by
   intro i h;split at h
   ·rename_i H1 h1;obtain ⟨ok1,k1,k2,k3⟩:=qfs h1 hs;obtain ⟨ok2,j1,j2,j3⟩:=qc1 h k1;rw [k3] at j2 j3;exact ⟨ok2,j1,k2.trans j2,j3⟩
   ·cases h
  unfold VZ at h;split at h
  ·exact go h
  ·exact go h
  ·exact qc1 h hs
theorem qvK {F:qY} (hF:Z6 X F) {f:Nat} {args:List D} {r:D} {vs:List Value} (h:Ju X F f args H = some (r,H')) (hs:Sim X ok w ι H) (hv:RepL ok w ι H args vs) :
  Goes X.P (callFunc f vs.toArray) w (Post X H.length ok w ι H r H'):=by
 unfold Ju at h;split at h
 ·exact qe5 hF (qca h) hs hv
 ·split at h
  ·rename_i H1 hst;unfold qc2 at hst;split at hst
   ·obtain ⟨ok1,s1,hev,qZ⟩:=qfs hst hs;refine (qe5 hF (qca h) s1 ⟨hv.1,fun j d hj=>(hv.2 j d hj).evol hs hev (hv.2 j d hj).closed⟩).mono ?_;rintro v w' ⟨ι',ok',h1,h2,h3⟩;rw [qZ] at h3;exact ⟨ι',ok',h1,h2,hev.trans h3⟩
   ·cases hst
  ·cases h
theorem qvH {F:qY} (hF:Z6 X F) {f:Nat} {args:List D} {r:D} {vs:List Value} (h:Z2 X F f args H = some (r,H')) (hs:Sim X ok w ι H) (hv:RepL ok w ι H args vs) :
  Goes X.P (callFunc f vs.toArray) w (Post X H.length ok w ι H r H'):=by
 unfold Z2 at h;split at h
 ·exact qvK hF h hs hv
 ·split at h
  ·rename_i args' l hst
   obtain ⟨s1,s2⟩:=VY (cond:=fun i=>∀ ds b s,qo H i = some ds→ι i = some (b,s)→JR ok ι H l b) (fun d d' l' v hr hd hc=>Yj hs (okF:=JR ok ι H l) (fun b hb=>.inl hb) 9 d d' l' v hr hd hc) args (vs:=fun j=>vs.getD j undef) hv.2 hst
    (fun i hi ds b s hd hb=>.inr ⟨i,ds,s,hi,hd,hb⟩)
   refine (qe5 hF (qca h) (qbW hs l) ⟨by rw [hv.1,s1],fun j d hj=>(s2 j d hj).lift⟩).mono ?_;rintro v w' ⟨ι',ok',h1,h2,h3⟩;rw [XG] at h3;exact ⟨ι',ok',h1,h2,(XV l).trans h3⟩
  ·cases h
theorem qcb {F:qY} {f:Nat} {args:List D} {H:qi} (hp:(X.perm f && !X.pureF f && !X.byRef f) = false) (hb:(X.perm f && X.byRef f) = false):Z2 X F f args H = Qs X F f args H:=by
 unfold Z2 Ju;rw [hp,hb]
theorem RepL.append {xs ys:List D} {vs us:List Value} (h1:RepL ok w ι H xs vs) (h2:RepL ok w ι H ys us):RepL ok w ι H (xs ++ ys) (vs ++ us):=by
 refine ⟨by simp [h1.1,h2.1],fun j d hj=>?_⟩;rw [List.getD_eq_getElem?_getD];by_cases qg:j < xs.length
 ·rw [List.getElem?_append_left qg] at hj;rw [List.getElem?_append_left (by rw [h1.1];exact qg)];have:=h1.2 j d hj
  rwa [List.getD_eq_getElem?_getD] at this
 ·rw [List.getElem?_append_right (by omega)] at hj;rw [List.getElem?_append_right (by rw [h1.1];omega),h1.1];have:=h2.2 _ d hj
  rwa [List.getD_eq_getElem?_getD] at this
theorem qnp {ds:List D} {vs:Array Value} (hl:vs.size = ds.length) (h:∀ (j:Nat) d,ds[j]? = some d→Rep ok w ι H d (vs.getD j undef)):RepL ok w ι H ds vs.toList :=
 ⟨by simpa using hl,fun j d hj=>by
  have:=h j d hj;simpa [Array.getD_eq_getD_getElem?,List.getD_eq_getElem?_getD] using this⟩
theorem Zo {d:D} {ds:List D} {vs:List Value} (h:RepL ok w ι H (d :: ds) vs):∃ v us,vs = v :: us∧Rep ok w ι H d v∧RepL ok w ι H ds us:=by
 cases vs with
 | nil=>have:=h.1;simp at this
 | cons v us=>exact ⟨v,us,rfl,h.2 0 d rfl,by have:=h.1;simpa using this,fun j x hj=>h.2 (j+1) x (by simpa using hj)⟩
theorem KW {vs:List Value} (h:RepL ok w ι H [] vs):vs = []:=List.eq_nil_of_length_eq_zero (by simpa using h.1)
theorem kR {α:Type} {x:Option α} {H H':qi} {d:α} (h:x.map (·,H) = some (d,H')):x = some d∧H = H':=by
 cases x with
 | none=>simp at h
 | some y=>simp only [Option.map_some,Option.some.injEq,Prod.mk.injEq] at h;exact ⟨by rw [h.1],h.2⟩
theorem qhu {mx:Bool} {args:List D} {d:D} {vs:List Value} (hv:RepL ok w ι H args vs) (h:YF mx args = some d) {P:Program} {ts:Array TypeId} {t:TypeId} :
  ∃ v,((if mx then Builtin.max_ else Builtin.min_) ts t vs.toArray).run P w = .ok v w∧Rep ok w ι H d v:=by
 unfold YF at h;split at h
 ·split at h
  ·rename_i k a k' b hk;subst hk;injection h with h;subst h;obtain ⟨v1,us,rfl,r1,h2⟩:=Zo hv;obtain ⟨v2,us,rfl,r2,h3⟩:=Zo h2;obtain rfl:=KW h3;cases r1;cases r2;cases mx
   ·exact ⟨_,by simp [Builtin.min_,Builtin.min2],.int _ _⟩
   ·exact ⟨_,by simp [Builtin.max_,Builtin.max2],.int _ _⟩
  ·cases h
 ·cases h
theorem qvR {b:Builtin} {ts:Array TypeId} {t:TypeId} {cst:Array Bool} {args:List D} {d:D} {vs:List Value} (hs:Sim X ok w ι H) (hv:RepL ok w ι H args vs) (h:KE X b ts.toList args H = some (d,H')) :
  Goes X.P (builtin b ts t cst vs.toArray) w (Post X H.length ok w ι H d H'):=by
 unfold KE at h;split at h
 ·rename_i t0 tr x xr hts;cases hl:YK X.P t0 x with
  | none=>simp [hl] at h
  | some r =>
   simp only [hl,Option.map_some,Option.some.injEq,Prod.mk.injEq] at h;obtain ⟨rfl,rfl⟩:=h;obtain ⟨v,us,rfl,r1,_⟩:=Zo hv;obtain ⟨rv,q1,q2⟩:=qps (P:=X.P) (ty:=t) (ts:=ts) (vs:=(v :: us).toArray) (by rw [← Array.getElem?_toList,hts];rfl) (by simp) r1 hl;exact Goes.value (by simp [builtin,q1]) (Post.same hs q2)
 ·rename_i t0 u tr s x xr hts;obtain ⟨v1,us,rfl,r1,h2⟩:=Zo hv;obtain ⟨v2,us,rfl,r2,h3⟩:=Zo h2;obtain ⟨rv,w1,q1,q2⟩:=qwq (P:=X.P) (ty:=t) hs r1 r2 h;refine Goes.value (w':=w1) (v:=rv) ?_ q2;have e1:ts[0]? = some t0:=by rw [← Array.getElem?_toList,hts];rfl
  have e2:ts[1]? = some u:=by rw [← Array.getElem?_toList,hts];rfl
  have e3:Builtin.append_ ts t (v1 :: v2 :: us).toArray = Builtin.append_ #[t0,u] t #[v1,v2]:=by
   simp only [Builtin.append_,e1,e2];rfl
  simp [builtin,e3,q1]
 ·rename_i t0 u tr s x xr hts;obtain ⟨v1,us,rfl,r1,h2⟩:=Zo hv;obtain ⟨v2,us,rfl,r2,h3⟩:=Zo h2;obtain ⟨rv,w1,q1,q2⟩:=quQ (P:=X.P) (ty:=t) hs r1 r2 h;refine Goes.value (w':=w1) (v:=rv) ?_ q2;have e1:ts[0]? = some t0:=by rw [← Array.getElem?_toList,hts];rfl
  have e3:Builtin.copy_ ts t (v1 :: v2 :: us).toArray = Builtin.copy_ #[t0,u] t #[v1,v2]:=by
   simp only [Builtin.copy_,e1];rfl
  simp [builtin,e3,q1]
 ·obtain ⟨hm,rfl⟩:=kR h;obtain ⟨v,q1,q2⟩:=qhu (P:=X.P) (ts:=ts) (t:=t) hv hm;simp only [Bool.false_eq_true,if_false] at q1;exact Goes.value (by simp [builtin,q1]) (Post.same hs q2)
 ·obtain ⟨hm,rfl⟩:=kR h;obtain ⟨v,q1,q2⟩:=qhu (P:=X.P) (ts:=ts) (t:=t) hv hm;simp only [if_true] at q1;exact Goes.value (by simp [builtin,q1]) (Post.same hs q2)
 ·cases h
theorem qk9 {t:TypeId} {cs:List D} (hs:Sim X ok w ι H) (h:(Ja X.P t).bind cellsOf = some cs):∃ v w',(Instr.alloc t true (.tuple #[])).run X.P w = .ok v w'∧Post X H.length ok w ι H (.optr H.length cs.length 0) (jV H cs) v w':=by
 cases hz:Ja X.P t with
 | none=>simp [hz] at h
 | some z =>
  simp only [hz,Option.bind_some] at h;obtain ⟨zv,z1,z2⟩:=Yc hz;obtain ⟨c1,c2,c3⟩:=Vu (z2 ok w ι H) h
  obtain ⟨ι',n1,n2,n3⟩:=XE (e:=t) (arr:=zv.cells) (ds:=cs) hs w ⟨rfl,rfl,rfl⟩ rfl (by omega)
   (fun j hj=>by
    have vV:cs[j]? = some (cs[j]'(by omega)):=List.getElem?_eq_getElem (by omega);exact (c3 j _ vV).oneCell (c2 _ (mem_of_get? vV)))
   c2 c3
  refine ⟨.pointer (some ⟨w.heap.size,0,none⟩),w.alloc (.cells zv.cells t),by simp [Instr.alloc,z1,newVar,newRow],ι',ok,n1,?_,n2⟩;refine .optr _ (by rw [ZF];omega) fun ds hd=>?_;rw [Vr] at hd;injection hd with hd;subst hd;exact ⟨Nat.le_refl _,fun _=>⟨_,_,n3,rfl⟩⟩
theorem qvW {t:TypeId} {d:D} {v:Value} {cs:List D} (hs:Sim X ok w ι H) (hd:Rep ok w ι H d v) (h:cellsOf d = some cs):∃ v' w',(Instr.box t v).run X.P w = .ok v' w'∧Post X H.length ok w ι H (.optr H.length cs.length 0) (jV H cs) v' w':=by
 obtain ⟨c1,c2,c3⟩:=Vu hd h
 obtain ⟨ι',n1,n2,n3⟩:=XE (e:=t) (arr:=v.cells) (ds:=cs) hs w ⟨rfl,rfl,rfl⟩ rfl (by omega)
  (fun j hj=>by
   have vV:cs[j]? = some (cs[j]'(by omega)):=List.getElem?_eq_getElem (by omega);exact (c3 j _ vV).oneCell (c2 _ (mem_of_get? vV)))
  c2 c3
 refine ⟨.pointer (some ⟨w.heap.size,0,none⟩),w.alloc (.cells v.cells t),by simp [Instr.box,newVar,newRow],ι',ok,n1,?_,n2⟩;refine .optr _ (by rw [ZF];omega) fun ds hd=>?_;rw [Vr] at hd;injection hd with hd;subst hd;exact ⟨Nat.le_refl _,fun _=>⟨_,_,n3,rfl⟩⟩
theorem qbe (hs:Sim X ok w ι H) {e:qp} {a:Act} (he:EnvRep ok w ι H e a.tmps) {x:Operand} {d:D} (h:qH X e x = some d):∀ y,some d = some y→∃ v,(some x:Option Operand).map a.eval = some v∧Rep ok w ι H y v:=by
 intro y hy;injection hy with hy;subst hy;exact ⟨_,rfl,jn hs he h⟩
theorem qha {F:qY} (hF:Z6 X F) {o:Oper} {e:qp} {a:Act} {d:D} (hs:Sim X ok w ι H) (he:EnvRep ok w ι H e a.tmps) (h:qW X F o.op e H = some (d,H')) :
  Goes X.P (execOp a.eval o) w (Post X H.length ok w ι H d H'):=by
 have pure_:∀ {v:Value} {d:D},Rep ok w ι H d v→∀ {s:Sem Next},s.run X.P w = .ok (.value v) w→Goes X.P s w (Post X H.length ok w ι H d H):=fun hr _ h=>Goes.value h (Post.same hs hr);unfold qW at h;split at h
 ·rename_i x ho;obtain ⟨h1,rfl⟩:=kR h;exact pure_ (jn hs he h1) (by simp [execOp,ho])
 ·rename_i x ho;obtain ⟨h1,rfl⟩:=kR h;exact pure_ (jn hs he h1) (by simp [execOp,ho])
 ·rename_i c x y ho;split at h
  ·rename_i t hc;obtain ⟨h1,rfl⟩:=kR h;have hb:=jn hs he hc;generalize hcv:a.eval c = cv at hb;cases hb;refine pure_ (v:=a.eval (if t then x else y)) (jn hs he h1) ?_;cases t <;> simp [execOp,ho,hcv,asBool]
  ·cases h
 ·rename_i t ho;split at h
  ·rename_i cs hz;injection h with h;injection h with h1 h2;subst h1;subst h2;obtain ⟨v,w1,q1,q2⟩:=qk9 hs hz;exact Goes.value (by simp [execOp,ho,q1]) q2
  ·cases h
 ·rename_i t x ho;split at h
  ·rename_i cs hz;split at h
   ·injection h with h;injection h with h1 h2;subst h1;subst h2;cases hx:qH X e x with
    | none=>simp [hx] at hz
    | some dx =>
     simp only [hx,Option.bind_some] at hz;obtain ⟨v,w1,q1,q2⟩:=qvW (t:=t) hs (jn hs he hx) hz;exact Goes.value (by simp [execOp,ho,q1]) q2
   ·cases h
  ·cases h
 ·rename_i t parts ho;split at h
  ·rename_i ps Q1;obtain ⟨h1,rfl⟩:=kR h;obtain ⟨v,q1,q2⟩:=qvT (P:=X.P) (vps:=parts.map fun (i,x)=>(i,a.eval x)) (by simpa using qbb hs he Q1) h1;exact pure_ q2 (by simp [execOp,ho,q1])
  ·cases h
 ·rename_i t len parts ho;split at h
  ·rename_i ps Q1;obtain ⟨v,w1,q1,q2⟩:=qvU (P:=X.P) (vps:=parts.map fun (i,x)=>(i,a.eval x)) hs (by simpa using qbb hs he Q1) h;exact Goes.value (by simp [execOp,ho,q1]) q2
  ·cases h
 ·rename_i t p ho;split at h
  ·rename_i pd hp;obtain ⟨h1,rfl⟩:=kR h;obtain ⟨v,q1,q2⟩:=qh9 hs (jn hs he hp) h1;exact pure_ q2 (by simp [execOp,ho,q1])
  ·cases h
 ·rename_i t p x ho;split at h
  ·rename_i pd xd hp hx;cases hst:Yk X.P H t pd xd with
   | none=>simp [hst] at h
   | some H1 =>
    simp only [hst,Option.map_some,Option.some.injEq,Prod.mk.injEq] at h;obtain ⟨rfl,rfl⟩:=h;obtain ⟨w1,ι',q1,q2,q3⟩:=ql2 hs (jn hs he hp) (jn hs he hx) hst;exact Goes.skip (by simp [execOp,ho,q1]) ⟨ι',ok,q2,.tup rfl (by simp),q3⟩
  ·cases h
 ·rename_i x ho;split at h
  ·rename_i cs hx;injection h with h;injection h with h1 h2;subst h1;subst h2;have hb:=jn hs he hx;generalize hcv:a.eval x = cv at hb;refine pure_ hb ?_;cases hb;simp [execOp,ho,hcv]
  ·rename_i i st off hx;injection h with h;injection h with h1 h2;subst h1;subst h2;have hb:=jn hs he hx;generalize hcv:a.eval x = cv at hb;refine pure_ hb ?_;cases hb;simp [execOp,ho,hcv]
  ·rename_i f caps hx;injection h with h;injection h with h1 h2;subst h1;subst h2;have hb:=jn hs he hx;generalize hcv:a.eval x = cv at hb;refine pure_ hb ?_;cases hb;simp [execOp,ho,hcv]
  ·rename_i t d hx;injection h with h;injection h with h1 h2;subst h1;subst h2;have hb:=jn hs he hx;generalize hcv:a.eval x = cv at hb;refine pure_ hb ?_;cases hb;simp [execOp,ho,hcv]
  ·cases h
 ·rename_i op t x y yt ho;split at h
  ·rename_i p q hx hy;obtain ⟨h1,rfl⟩:=kR h;obtain ⟨v,q1,q2⟩:=qwa (P:=X.P) (x:=x) (y:=y) (jn hs he hx) (jn hs he hy) h1;have e:execOp a.eval o = (do let r ← (do eqGuard op t x y (a.eval x) (a.eval y);binOp op t (a.eval x) (a.eval y):Sem Value);pure (.value r)):=(by simp only [execOp,ho]);exact pure_ q2 (by rw [e,Sem.run_bind,q1];rfl)
  ·cases h
 ·rename_i op t x ho;split at h
  ·rename_i p hx;obtain ⟨h1,rfl⟩:=kR h;obtain ⟨v,q1,q2⟩:=qkR (P:=X.P) (jn hs he hx) h1;exact pure_ q2 (by simp [execOp,ho,q1])
  ·cases h
 ·rename_i s t x ho;split at h
  ·rename_i p hx;obtain ⟨v,w1,q1,q2⟩:=qj9 (P:=X.P) hs (jn hs he hx) h;exact Goes.value (by simp [execOp,ho,q1]) q2
  ·cases h
 ·rename_i t x ho;split at h
  ·cases h
  ·rename_i p u hu hx hni;injection h with h;injection h with h1 h2;subst h1;subst h2;refine pure_ (.iface (jn hs he hx)) ?_;simp only [execOp,ho,Instr.makeInterface,Sem.run_bind,run_underlying hni,Result.andThen_ok];cases u <;> first | rfl | exact absurd rfl (hu _)
  ·cases h
 ·rename_i f first caps ho
  split at h
  ·rename_i hfe;cases hcs:jT X e caps.toList with
   | none=>simp [hcs] at h
   | some cs =>
    simp only [hcs,Option.map_some,Option.some.injEq,Prod.mk.injEq] at h;obtain ⟨rfl,rfl⟩:=h;obtain ⟨l1,l2⟩:=qbf hs he hcs;have hf0:first = #[]:=by simpa using hfe
    subst hf0;refine pure_ (v:=.func (.func f) #[] (caps.map a.eval)) (.fn (by simpa using l1) fun j d hj=>?_) (by simp [execOp,ho,Instr.makeFunc]);have:=l2 j d hj;simpa [Array.getD_eq_getD_getElem?,List.getD_eq_getElem?_getD] using this
  ·cases h
 ·rename_i t l c ho;split at h
  ·rename_i ld cd hl hc;obtain ⟨v,w1,q1,q2⟩:=qpe (P:=X.P) hs (jn hs he hl) (jn hs he hc) h;exact Goes.value (by simp [execOp,ho,q1]) q2
  ·cases h
 ·rename_i t x lo hi ho;split at h
  ·rename_i p hx vL hhi;obtain ⟨h1,rfl⟩:=kR h;have e1:lo = none:=(by cases lo <;> simp_all);have e2:hi = none:=(by cases hi <;> simp_all);subst e1;subst e2;obtain ⟨v,q1,q2⟩:=qaH (P:=X.P) (lov:=none) (hiv:=none) hs (jn hs he hx) (fun _ h=>by cases h) (fun _=>rfl) (fun _ h=>by cases h) (fun _=>rfl) h1;exact pure_ q2 (by simp [execOp,ho,q1])
  ·rename_i p l hx vL hhi;obtain ⟨h1,rfl⟩:=kR h;have e2:hi = none:=(by cases hi <;> simp_all);subst e2;cases lo with
   | none=>simp at vL
   | some lo =>
    simp only [Option.map_some,Option.some.injEq] at vL;obtain ⟨v,q1,q2⟩:=qaH (P:=X.P) (lov:=some (a.eval lo)) (hiv:=none) hs (jn hs he hx) (qbe hs he vL) (fun h=>by cases h) (fun _ h=>by cases h) (fun _=>rfl) h1;exact pure_ q2 (by simp [execOp,ho,q1])
  ·rename_i p l hx vL hhi;obtain ⟨h1,rfl⟩:=kR h;have e1:lo = none:=(by cases lo <;> simp_all);subst e1;cases hi with
   | none=>simp at hhi
   | some hi =>
    simp only [Option.map_some,Option.some.injEq] at hhi;obtain ⟨v,q1,q2⟩:=qaH (P:=X.P) (lov:=none) (hiv:=some (a.eval hi)) hs (jn hs he hx) (fun _ h=>by cases h) (fun _=>rfl) (qbe hs he hhi) (fun h=>by cases h) h1;exact pure_ q2 (by simp [execOp,ho,q1])
  ·rename_i p l l' hx vL hhi;obtain ⟨h1,rfl⟩:=kR h;cases lo with
   | none=>simp at vL
   | some lo =>
    cases hi with
    | none=>simp at hhi
    | some hi =>
     simp only [Option.map_some,Option.some.injEq] at vL hhi;obtain ⟨v,q1,q2⟩:=qaH (P:=X.P) (lov:=some (a.eval lo)) (hiv:=some (a.eval hi)) hs (jn hs he hx) (qbe hs he vL) (fun h=>by cases h) (qbe hs he hhi) (fun h=>by cases h) h1;exact pure_ q2 (by simp [execOp,ho,q1])
  ·cases h
 ·rename_i s x f ho;split at h
  ·rename_i p hx;obtain ⟨h1,rfl⟩:=kR h;obtain ⟨v,q1,q2⟩:=qud (P:=X.P) (jn hs he hx) h1;exact pure_ q2 (by simp [execOp,ho,q1])
  ·cases h
 ·rename_i s x f ho;split at h
  ·rename_i p hx;obtain ⟨h1,rfl⟩:=kR h;obtain ⟨v,q1,q2⟩:=quc (P:=X.P) (jn hs he hx) h1;exact pure_ q2 (by simp [execOp,ho,q1])
  ·cases h
 ·rename_i t x i ho;split at h
  ·rename_i p q hx hy;obtain ⟨h1,rfl⟩:=kR h;obtain ⟨v,q1,q2⟩:=qsP (P:=X.P) (jn hs he hx) (jn hs he hy) h1;exact pure_ q2 (by simp [execOp,ho,q1])
  ·cases h
 ·rename_i t x i ho;split at h
  ·rename_i p q hx hy;obtain ⟨h1,rfl⟩:=kR h;obtain ⟨v,q1,q2⟩:=qsN (P:=X.P) (jn hs he hx) (jn hs he hy) h1;exact pure_ q2 (by simp [execOp,ho,q1])
  ·cases h
 ·rename_i x i ho;split at h
  ·rename_i cs hx;obtain ⟨h1,rfl⟩:=kR h;have hb:=jn hs he hx;generalize hcv:a.eval x = cv at hb;cases hb with
   | @tup _ _ _ vs hl hh =>
    have qg:i < vs.size:=(by rw [hl];exact (List.getElem?_eq_some_iff.1 h1).1);have hr:=hh i d h1;rw [Array.getD_eq_getD_getElem?,Array.getElem?_eq_getElem qg] at hr;exact pure_ (v:=vs[i]) hr (by simp [execOp,ho,hcv,Instr.extract,qg])
  ·cases h
 ·rename_i c ho;split at h
  ·rename_i b args hcal hargs;have hv:=qbf hs he hargs;have:=qvR (t:=o.type) (cst:=c.args.map fun | .const _=>true | _=>false) hs hv h
   have e:execOp a.eval o = builtin b c.argTypes o.type (c.args.map fun | .const _=>true | _=>false) (c.args.toList.map a.eval).toArray:=by
    simp only [execOp,ho,resolve,hcal];simp only [pure_bind,invoke];congr 1;apply Array.ext';simp
   rw [e];exact this
  ·rename_i g args hcal hargs;split at h
   ·rename_i f caps hg;have hv:=qbf hs he hargs;have hb:=jn hs he hg;generalize hcv:a.eval g = cv at hb;cases hb with
    | @fn _ _ _ _ vs hl hh =>
     have:=qvH hF h hs (RepL.append hv (qnp hl hh))
     have e:execOp a.eval o = callFunc f ((c.args.toList.map a.eval) ++ vs.toList).toArray:=by
      simp only [execOp,ho,resolve,hcal,hcv,Deferred.ofValue];simp only [pure_bind,invoke];congr 1;apply Array.ext';simp
     rw [e];exact this
   ·cases h
  ·cases h
 ·cases h
end
end Go.Ev
namespace Go.Ev
section
variable {X:Cx} {P:Program} {ok ok':Nat→Prop} {w w':World} {ι:qx} {H H':qi}
theorem qfq {ds:List D} {b len c:Nat} {arr:Array Value} {e:TypeId} {fr:Nat × Nat} (hs:Sim X ok w ι H) (hw:VR w w') (qU:w.heap.size≤w'.heap.size) (qS:∀ c,c < w.heap.size→w'.heap[c]? = w.heap[c]?)
  (hb:w'.heap[b]? = some (.cells arr e fr)) (hloc:w.heap.size≤b) (hfit:ds.length≤arr.size) (hcell:∀ d,d∈ds→zC d = true) (hfree:ds.all idFree = true) (qI:len≤c)
  (hrep:∀ (j:Nat) d,ds[j]? = some d→Rep ok w ι H d (arr.getD j undef)) :
  Post X H.length ok w ι H (.vsl false ds len) H (.slice (some ⟨b,0,none⟩) len c) w':=by
 have hblt:b < w'.heap.size:=(Array.getElem?_eq_some_iff.1 hb).1
 have hev:Evol H.length ok w ι H (fun x=>ok x∨x = b) w' ι H :=
  ⟨hw.1,hw.2.1,hw.2.2,qU,fun c hc _=>qS c hc,fun _ h=>.inl h,fun x hx qg=>by
   rcases hx with hx | hx
   ·exact .inl hx
   ·omega,⟨Nat.le_refl _,Nat.le_refl _⟩,fun _ _ ds hd=>⟨ds,hd,Nat.le_refl _,fun _=>rfl⟩,fun i ds _ s hd hi _=>⟨i,ds,s,hd,hi⟩⟩
 have hsim:Sim X (fun x=>ok x∨x = b) w' ι H:=by
  refine ⟨fun x hx=>?_,fun g cs hg=>(((hs.glob g cs hg).lift (ι:=ι) (H:=H)).evol hs hev rfl).free rfl _ _,hs.inj,fun i es hd=>?_⟩
  ·rcases hx with hx | hx
   ·exact Nat.lt_of_lt_of_le (hs.okS x hx) qU
   ·omega
  ·obtain ⟨b',arr',e',fr',q1,q2,q3,q4,q5,q6,q7,q8⟩:=hs.blk i es hd;have qg:=hs.lt hd q1;refine ⟨b',arr',e',fr',q1,fun h=>?_,by rw [qS b' qg];exact q3,q4,q5,q6,q7,fun j d hj=>(q8 j d hj).evol hs hev (q8 j d hj).closed⟩;rcases h with h | h
   ·exact q2 h
   ·omega
 refine ⟨ι,_,hsim,.vsl _ (fun j=>arr.getD j undef) (fun _ _=>.inr rfl) hcell (fun j d hj=>?_) (fun j d hj=>?_) qI,hev⟩
 ·have qg:j < arr.size:=Nat.lt_of_lt_of_le (List.getElem?_eq_some_iff.1 hj).1 hfit;rw [QR,Nat.zero_add,cell_of_heap hb];simp [qg]
 ·exact ((hrep j d hj).evol hs hev (hrep j d hj).closed).free (Jw hfree d (mem_of_get? hj)) _ _
theorem qpp {t:TypeId} {len:Nat} {parts:List (Nat × D)} {vps:Array (Nat × Value)} {i st o n k:Nat} {ds:List D} (hs:Sim X ok w ι H) (hp:KJ ok w ι H parts vps.toList) (h:VO X.P [] t len parts = some (.osl i st o n k,[some ds])) :
  ∃ v w',(Instr.buildSlice t len vps).run X.P w = .ok v w'∧Post X H.length ok w ι H (.vsl false ds len) H v w':=by
 unfold VO at h;split at h
 ·rename_i e hu;split at h
  ·rename_i z hz;split at h
   ·rename_i hsmall;cases hf:J7 (fun i=>some (i * qs X.P e,qs X.P e)) z parts with
    | none=>simp [hf] at h
    | some cs =>
     simp only [hf,Option.bind_some] at h;split at h
     ·rename_i hcs0;have hcs:cs.all idFree = true∧cs.length = len * qs X.P e:=⟨hcs0.1.resolve_left (by simp),hcs0.2⟩;clear hcs0;simp only [jV,List.nil_append,Option.some.injEq,Prod.mk.injEq,List.cons.injEq,and_true] at h;obtain ⟨_,h2⟩:=h;subst h2;obtain ⟨zv,z1,z2,z3,z4,z5,z6,z7⟩:=Yd hz
      obtain ⟨zc,hzc1,hzc2,hzget⟩:∃ zc:Array Value,(len * qs X.P e = 0→zc = #[])∧(¬ len * qs X.P e = 0→zc = zv.cells) ∧
        ∀ j,j < len * qs X.P e→((Array.range (len * qs X.P e)).map (zc[· % zc.size]!)).getD j undef = zv.cells.getD (j % qs X.P e) undef:=by
       by_cases h0:len * qs X.P e = 0
       ·exact ⟨#[],fun _=>rfl,fun h=>absurd h0 h,fun j hj=>by omega⟩
       ·refine ⟨zv.cells,fun h=>absurd h h0,fun _=>rfl,fun j hj=>?_⟩;rw [qcl (by omega) hj,z2]
      obtain ⟨arr,q1,q2,q3,q4,q5⟩:=YU (place:=fun i=>some (i * qs X.P e,qs X.P e)) (arr:=(Array.range (len * qs X.P e)).map (zc[· % zc.size]!)) hp (by simp [z4]) z5
       (fun j d hj=>by
        rw [hzget j (by have:=(List.getElem?_eq_some_iff.1 hj).1;omega)];exact z7 ok w ι H j d hj) hf
      refine ⟨.slice (some ⟨w.heap.size,0,none⟩) len len,w.alloc (.cells arr e),?_,qfq hs ⟨rfl,rfl,rfl⟩ (by simp) (fun c hc=>heap_alloc_old w _ hc) (heap_alloc_new w _) (Nat.le_refl _) (by omega) q3 hcs.1 (Nat.le_refl _) q4⟩;simp only [Instr.buildSlice,Sem.run_bind,run_underlying hu,Result.andThen_ok,Qv z3];rw [if_neg (by simpa using hsmall)];by_cases h0:len * qs X.P e = 0
      ·rw [hzc1 h0] at q1;rw [if_pos h0];simp only [Sem.run_bind,Sem.run_pure,Result.andThen_ok,q1];simp [newRow]
      ·rw [hzc2 h0] at q1;rw [if_neg h0];simp only [Sem.run_bind,Sem.run_pure,Result.andThen_ok,z1,q1];simp [newRow]
     ·cases h
   ·cases h
  ·cases h
 ·cases h
theorem qpq {src dst e:TypeId} {u:TypeDesc} {s:List UInt8} (hs:Sim X ok w ι H) (h1:X.P.underlying src = some u) (h2:X.P.underlying dst = some (.slice e)) (he:X.P.underlying e = some (.int .u8)) :
  ∃ v w',(convert src dst (.string ⟨s.toArray⟩)).run X.P w = .ok v w'∧Post X H.length ok w ι H (.vsl false (qd s) s.length) H v w':=by
 have qU:(⟨s.toArray⟩:ByteArray).size = s.length:=by simp [ByteArray.size]
 have hge:=grownCap_ge w s.length 0 e
 have hbs:(Lib.bytesCells w e ⟨s.toArray⟩).size = grownCap w s.length 0 e:=by
  unfold Lib.bytesCells;simp only [Array.size_append,Array.size_map,Array.size_replicate,qU];simp;omega
 have hbg:∀ j,j < s.length→(Lib.bytesCells w e ⟨s.toArray⟩).getD j undef = (JT s).getD j undef:=by
  intro j hj;unfold Lib.bytesCells JT;rw [Array.getD_eq_getD_getElem?,Array.getElem?_append_left (by simpa using hj),List.getD_eq_getElem?_getD];simp
 have hrun:=Lib.run_convert_string_bytes w src dst e ⟨s.toArray⟩ h1 h2 he;rw [qU] at hrun
 refine ⟨_,_,hrun,qfq (w':=Lib.bytesWorld w e ⟨s.toArray⟩) (b:=w.heap.size) (arr:=Lib.bytesCells w e ⟨s.toArray⟩) (ds:=qd s) hs
  (by
   refine ⟨?_,?_,?_⟩ <;> (unfold Lib.bytesWorld World.freeze;split <;> rfl))
  (by rw [Lib.bytesWorld_size];omega) (fun c hc=>Lib.bytesWorld_at_old w e _ c hc) (Lib.bytesWorld_at_new w e _) (Nat.le_refl _) (by rw [hbs];simpa [qd] using hge)
  (fun d hd=>by
   simp only [qd,List.mem_map] at hd;obtain ⟨_,_,rfl⟩:=hd;rfl)
  (by
   rw [List.all_eq_true];intro d hd;simp only [qd,List.mem_map] at hd;obtain ⟨_,_,rfl⟩:=hd;rfl) hge
  (fun j d hj=>by
   have hjs:j < s.length:=by
    have:=(List.getElem?_eq_some_iff.1 hj).1;simpa [qd] using this
   rw [hbg j hjs];exact qdo s j d hj)⟩
theorem qdm {F:qY} (hF:Z6 X F) {drw:Bool} {o:Oper} {e:qp} {a:Act} {d:D} (hs:Sim X ok w ι H) (he:EnvRep ok w ι H e a.tmps) (h:qE X F drw o.op e H = some (d,H')) :
  Goes X.P (execOp a.eval o) w (Post X H.length ok w ι H d H'):=by
 unfold qE at h;split at h
 ·rename_i t len parts ho;split at h
  ·rename_i ps Q1;split at h
   ·rename_i ds hb;injection h with h;injection h with h1 h2;subst h1;subst h2;obtain ⟨v,w1,q1,q2⟩:=qpp (vps:=parts.map fun (i,x)=>(i,a.eval x)) hs (by simpa using qbb hs he Q1) hb;exact Goes.value (by simp [execOp,ho,q1]) q2
   ·cases h
  ·cases h
 ·rename_i s t x ho;split at h
  ·rename_i b u hx hu;split at h
   ·rename_i us hus hu8;injection h with h;injection h with h1 h2;subst h1;subst h2;have hb:=jn hs he hx;generalize hcv:a.eval x = cv at hb;cases hb;obtain ⟨v,w1,q1,q2⟩:=qpq (s:=b) hs hus hu hu8;exact Goes.value (by simp [execOp,ho,hcv,q1]) q2
   ·cases h
  ·rename_i p _ hx;obtain ⟨v,w1,q1,q2⟩:=qj9 (P:=X.P) hs (jn hs he (by assumption)) h;exact Goes.value (by simp [execOp,ho,q1]) q2
  ·cases h
 ·rename_i c ho
  have hh:qW X F (.call c) e H = some (d,H'):=by
   split at h
   ·cases h
   ·exact h
  rw [← ho] at hh;exact qha hF hs he hh
 ·exact qha hF hs he h
end
end Go.Ev
namespace Go.Ev
section
variable {X:Cx} {ok ok':Nat→Prop} {w w':World} {ι:qx} {H H':qi}
def XQ (S:Nat→Prop) (o:Oper):Prop:= ∀ e,e∈o.after.toList→Region.binds .any e = true→S e.on
theorem qe9 {ops:Array Oper} {S:Nat→Prop} (ji:∀ (i:Nat) (o:Oper),ops[i]? = some o→S i→XQ S o) {j i:Nat} {o:Oper} (hj:ops[j]? = some o)
  (hready:XQ S o) (hb:((Region.before ops).getD j 0).testBit i = true):S i:=by
 have gen:∀ (l pre:List Oper) (acc:Array Nat),ops.toList = pre ++ l→acc.size = pre.length→(∀ j i,(acc.getD j 0).testBit i = true→∀ o,ops[j]? = some o→XQ S o→S i) →
   ∀ j i,((l.foldl (fun acc o=>acc.push (o.after.foldl (fun s e=>if Region.binds .any e then s ||| 2 ^ e.on ||| acc.getD e.on 0 else s) 0)) acc).getD j 0).testBit i = true→∀ o,ops[j]? = some o→XQ S o→S i:=by
  intro l
  induction l with
  | nil=>intro pre acc _ _ h;exact h
  | cons o l ih =>
   intro pre acc he qU hacc;simp only [List.foldl_cons];refine ih (pre ++ [o]) _ (by rw [he];simp) (by simp [qU]) ?_;intro j i hi o' ho' hed;by_cases qg:j < acc.size
   ·have:(acc.push (o.after.foldl (fun s e=>if Region.binds .any e then s ||| 2 ^ e.on ||| acc.getD e.on 0 else s) 0)).getD j 0 = acc.getD j 0:=by
     simp only [Array.getD_eq_getD_getElem?];rw [Array.getElem?_push,if_neg (by omega)]
    rw [this] at hi;exact hacc j i hi o' ho' hed
   ·by_cases hje:j = acc.size
    ·subst hje
     have:(acc.push (o.after.foldl (fun s e=>if Region.binds .any e then s ||| 2 ^ e.on ||| acc.getD e.on 0 else s) 0)).getD acc.size 0 = o.after.foldl (fun s e=>if Region.binds .any e then s ||| 2 ^ e.on ||| acc.getD e.on 0 else s) 0:=by
      simp only [Array.getD_eq_getD_getElem?];rw [Array.getElem?_push,if_pos rfl];rfl
     rw [this] at hi
     have hoo:o' = o:=by
      have h1:ops.toList[acc.size]? = some o:=(by rw [he,qU];simp);rw [Array.getElem?_toList,ho'] at h1;injection h1
     subst hoo;rw [← Array.foldl_toList] at hi
     have inner:∀ (es:List Edge) (s:Nat),(∀ e,e∈es→e∈o'.after.toList)→(∀ i,s.testBit i = true→S i) →
       ∀ i,(es.foldl (fun s e=>if Region.binds .any e then s ||| 2 ^ e.on ||| acc.getD e.on 0 else s) s).testBit i = true→S i:=by
      intro es
      induction es with
      | nil=>intro s _ hs i hi;exact hs i hi
      | cons e es ih2 =>
       intro s hes hs i hi;simp only [List.foldl_cons] at hi;refine ih2 _ (fun x hx=>hes x (List.mem_cons_of_mem _ hx)) ?_ i hi;intro i hi;split at hi
       ·rename_i js;rw [Nat.testBit_or,Nat.testBit_or] at hi;simp only [Bool.or_eq_true] at hi;have hse:=hed e (hes e (List.mem_cons_self ..)) js;rcases hi with (hi | hi) | hi
        ·exact hs i hi
        ·rw [Nat.testBit_two_pow] at hi;have:e.on = i:=(by simpa using hi);rw [← this];exact hse
        ·by_cases ki:e.on < acc.size
         ·have vL:e.on < ops.size:=by
           have:ops.toList.length = pre.length+(o' :: l).length:=(by rw [he];simp);simp at this;omega
          have ho:=Array.getElem?_eq_getElem vL;exact hacc e.on i hi _ ho (ji e.on _ ho hse)
         ·simp only [Array.getD_eq_getD_getElem?,Array.getElem?_eq_none (show acc.size≤e.on by omega)] at hi;simp at hi
       ·exact hs i hi
     exact inner _ 0 (fun _ h=>h) (fun i hi=>by simp at hi) i hi
    ·simp only [Array.getD_eq_getD_getElem?] at hi;rw [Array.getElem?_eq_none (by simp;omega)] at hi;simp at hi
 have:=gen ops.toList [] #[] rfl rfl (fun j i hi=>by simp at hi) j i;unfold Region.before at hb;rw [← Array.foldl_toList] at hb;exact this hb o hj hready
def VQ (X:Cx) (F:qY) (nt:Nat) (bw:Option Tmp→Bool) (ops:Array Oper) (o:Oper) (e:qp) (H:qi) (e1:qp) (H1:qi):Prop :=
 jQ nt o.dst = true∧((jc ops e o.guard = some true∧∃ d,qE X F (bw o.dst) o.op e H = some (d,H1)∧e1 = jH e o.dst d)∨(jc ops e o.guard = some false∧H1 = H∧e1 = jH e o.dst (.tup [])))
theorem qfe {F:qY} {nt:Nat} {drw:Bool} {ops:Array Oper}:∀ {l:List Oper} {e e':qp} {H H':qi},je X F nt drw ops l e H = some (e',H') →
  ∃ (E:Nat→qp) (T:Nat→qi),E 0 = e∧T 0 = H∧E l.length = e'∧T l.length = H'∧∀ k o,l[k]? = some o→VQ X F nt (fun _=>drw) ops o (E k) (T k) (E (k+1)) (T (k+1))
 | [],e,e',H,H',h=>by
  simp only [je,Option.some.injEq,Prod.mk.injEq] at h;obtain ⟨rfl,rfl⟩:=h;exact ⟨fun _=>e,fun _=>H,rfl,rfl,rfl,rfl,fun k o hk=>by simp at hk⟩
 | o :: l,e,e',H,H',h=>by
  simp only [je] at h
  have key:∀ e1 H1,VQ X F nt (fun _=>drw) ops o e H e1 H1→je X F nt drw ops l e1 H1 = some (e',H')→∃ (E:Nat→qp) (T:Nat→qi),E 0 = e∧T 0 = H∧E (o :: l).length = e'∧T (o :: l).length = H' ∧
    ∀ k x,(o :: l)[k]? = some x→VQ X F nt (fun _=>drw) ops x (E k) (T k) (E (k+1)) (T (k+1)):=by
   intro e1 H1 hst hl;obtain ⟨E,T,k1,k2,k3,k4,k5⟩:=qfe hl;refine ⟨fun k=>match k with | 0=>e | k+1=>E k,fun k=>match k with | 0=>H | k+1=>T k,rfl,rfl,k3,k4,fun k x hx=>?_⟩;cases k with
   | zero =>
    simp only [List.getElem?_cons_zero,Option.some.injEq] at hx;subst hx;simp only [k1,k2];exact hst
   | succ k=>exact k5 k x (by simpa using hx)
  split at h
  ·rename_i hd hg;split at h
   ·rename_i d H1 ho;exact key _ H1 ⟨hd,.inl ⟨hg,d,ho,rfl⟩⟩ h
   ·cases h
  ·rename_i hd hg;exact key _ H ⟨hd,.inr ⟨hg,rfl,rfl⟩⟩ h
  ·cases h
def qwC (X:Cx) (ops:Array Oper) (L:kt) (E:Nat→qp) (T:Nat→qi):Prop :=
 ∀ i j x y,ops[i]? = some x→ops[j]? = some y→L.contains (i,j) = true→i≠j→jc ops (E i) x.guard = some true→jc ops (E j) y.guard = some true →
  (T i).length≤(T (i+1)).length∧∀ b,b∈vT (y.op.operands.toList.map (qH X (E j)))→qo (T (i+1)) b = qo (T i) b
theorem qfd {F:qY} {nt:Nat} {ow:List Nat} {ops:Array Oper} {L:kt}:∀ {l:List Oper} {k:Nat} {ws:List (Nat × qi × qi)} {rs:List (Nat × List Nat)} {e e':qp} {H H':qi},vG X F nt ow ops L k ws rs l e H = some (e',H') →
  ∃ (E:Nat→qp) (T:Nat→qi),E 0 = e∧T 0 = H∧E l.length = e'∧T l.length = H'∧∀ k o,l[k]? = some o→VQ X F nt (Q5 ow) ops o (E k) (T k) (E (k+1)) (T (k+1))
 | [],k,ws,rs,e,e',H,H',h=>by
  simp only [vG,Option.some.injEq,Prod.mk.injEq] at h;obtain ⟨rfl,rfl⟩:=h;exact ⟨fun _=>e,fun _=>H,rfl,rfl,rfl,rfl,fun k o hk=>by simp at hk⟩
 | o :: l,k,ws,rs,e,e',H,H',h=>by
  simp only [vG] at h
  have key:∀ e1 H1 k ws rs,VQ X F nt (Q5 ow) ops o e H e1 H1→vG X F nt ow ops L k ws rs l e1 H1 = some (e',H')→∃ (E:Nat→qp) (T:Nat→qi),E 0 = e∧T 0 = H∧E (o :: l).length = e'∧T (o :: l).length = H' ∧
    ∀ k x,(o :: l)[k]? = some x→VQ X F nt (Q5 ow) ops x (E k) (T k) (E (k+1)) (T (k+1)):=by
   intro e1 H1 k ws rs hst hl;obtain ⟨E,T,k1,k2,k3,k4,k5⟩:=qfd hl;refine ⟨fun k=>match k with | 0=>e | k+1=>E k,fun k=>match k with | 0=>H | k+1=>T k,rfl,rfl,k3,k4,fun k x hx=>?_⟩;cases k with
   | zero =>
    simp only [List.getElem?_cons_zero,Option.some.injEq] at hx;subst hx;simp only [k1,k2];exact hst
   | succ k=>exact k5 k x (by simpa using hx)
  cases hd:jQ nt o.dst with
  | false=>simp [hd] at h
  | true =>
   cases hg:jc ops e o.guard with
   | none=>simp [hd,hg] at h
   | some b =>
    cases b with
    | false =>
     simp only [hd,hg] at h;exact key _ H _ _ _ ⟨hd,.inr ⟨hg,rfl,rfl⟩⟩ h
    | true =>
     simp only [hd,hg] at h;cases ho:qE X F (Q5 ow o.dst) o.op e H with
     | none=>simp [ho] at h
     | some q =>
      obtain ⟨d,H1⟩:=q;simp only [ho] at h;split at h
      ·exact key _ H1 _ _ _ ⟨hd,.inl ⟨hg,d,ho,rfl⟩⟩ h
      ·cases h
theorem qko {L:kt} {k:Nat} {bs:List Nat}:∀ {ws:List (Nat × qi × qi)},Vc L k bs ws→∀ {i:Nat} {A B:qi},(i,A,B)∈ws→L.contains (i,k) = true→∀ b,b∈bs→qo B b = qo A b
 | [],_,i,A,B,hm,_=>by cases hm
 | (i',A',B') :: ws,h,i,A,B,hm,hc=>by
  rcases List.mem_cons.1 hm with hm | hm
  ·injection hm with h1 h2;injection h2 with h2 h3;subst h1;subst h2;subst h3;exact h.1 hc
  ·exact qko h.2 hm hc
theorem qkn {L:kt} {k:Nat} {A B:qi}:∀ {rs:List (Nat × List Nat)},Vb L k A B rs→∀ {j:Nat} {bs:List Nat},(j,bs)∈rs→L.contains (k,j) = true→∀ b,b∈bs→qo B b = qo A b
 | [],_,j,bs,hm,_=>by cases hm
 | (j',bs') :: rs,h,j,bs,hm,hc=>by
  rcases List.mem_cons.1 hm with hm | hm
  ·injection hm with h1 h2;subst h1;subst h2;exact h.1 hc
  ·exact qkn h.2 hm hc
theorem qkP {L:kt} {i j:Nat} (h:L.contains (i,j) = true):Q6 L i = true∧QB L j = true:=by
 rw [List.contains_iff_mem] at h;exact ⟨List.any_eq_true.2 ⟨_,h,by simp⟩,List.any_eq_true.2 ⟨_,h,by simp⟩⟩
theorem qcs {F:qY} {nt:Nat} {ow:List Nat} {ops:Array Oper} {L:kt} {E:Nat→qp} {T:Nat→qi} (hst:∀ k o,ops[k]? = some o→VQ X F nt (Q5 ow) ops o (E k) (T k) (E (k+1)) (T (k+1))) :
  ∀ (l:List Oper) (k:Nat) (ws:List (Nat × qi × qi)) (rs:List (Nat × List Nat)) (r:qp × qi),(∀ m,l[m]? = ops[k+m]?)→vG X F nt ow ops L k ws rs l (E k) (T k) = some r →
   (∀ i x,i < k→ops[i]? = some x→Q6 L i = true→jc ops (E i) x.guard = some true→(i,T i,T (i+1))∈ws∧(T i).length≤(T (i+1)).length) →
   (∀ j y,j < k→ops[j]? = some y→QB L j = true→jc ops (E j) y.guard = some true→(j,vT (y.op.operands.toList.map (qH X (E j))))∈rs) →
   ∀ i j x y,ops[i]? = some x→ops[j]? = some y→L.contains (i,j) = true→i≠j→jc ops (E i) x.guard = some true→jc ops (E j) y.guard = some true→k≤max i j →
    (T i).length≤(T (i+1)).length∧∀ b,b∈vT (y.op.operands.toList.map (qH X (E j)))→qo (T (i+1)) b = qo (T i) b
 | [],k,ws,rs,r,hl,h,kW,hrs,i,j,x,y,hi,hj,hc,qr,gi,gj,hm=>by
  exfalso;have hi':=(Array.getElem?_eq_some_iff.1 hi).1;have vV:=(Array.getElem?_eq_some_iff.1 hj).1;have:=hl (max i j - k);rw [show k+(max i j - k) = max i j by omega,Array.getElem?_eq_getElem (by omega)] at this;simp at this
 | o :: l,k,ws,rs,r,hl,h,kW,hrs,i,j,x,y,hi,hj,hc,qr,gi,gj,hm=>by
  have ho:ops[k]? = some o:=by have:=hl 0;simpa using this.symm
  have vM:∀ m,l[m]? = ops[k+1+m]?:=by
   intro m;have:=hl (m+1);rw [show k+1+m = k+(m+1) by omega,← this];simp
  obtain ⟨hd,hcase⟩:=hst k o ho;obtain ⟨w1,w2⟩:=qkP hc;simp only [vG,hd] at h;rcases hcase with ⟨hg,d,zP,hE⟩ | ⟨hg,hT,hE⟩
  ·simp only [hg,zP] at h;split at h
   ·rename_i hchk;rw [← hE] at h
    have hws':∀ i x,i < k+1→ops[i]? = some x→Q6 L i = true→jc ops (E i) x.guard = some true→(i,T i,T (i+1))∈(if Q6 L k then (k,T k,T (k+1)) :: ws else ws)∧(T i).length≤(T (i+1)).length:=by
     intro i x hik hi hwi hgi;by_cases hik':i = k
     ·subst hik';rw [if_pos hwi];exact ⟨List.mem_cons_self ..,(hchk.2 hwi).1⟩
     ·obtain ⟨q1,q2⟩:=kW i x (by omega) hi hwi hgi;refine ⟨?_,q2⟩;split
      ·exact List.mem_cons_of_mem _ q1
      ·exact q1
    have hrs':∀ j y,j < k+1→ops[j]? = some y→QB L j = true→jc ops (E j) y.guard = some true→(j,vT (y.op.operands.toList.map (qH X (E j))))∈(if QB L k then (k,vT (o.op.operands.toList.map (qH X (E k)))) :: rs else rs):=by
     intro j y hjk hj hrj hgj;by_cases hjk':j = k
     ·subst hjk';rw [ho] at hj;injection hj with hj;subst hj;rw [if_pos hrj];exact List.mem_cons_self ..
     ·have q1:=hrs j y (by omega) hj hrj hgj;split
      ·exact List.mem_cons_of_mem _ q1
      ·exact q1
    by_cases hmk:k+1≤max i j
    ·exact qcs hst l (k+1) _ _ r vM h hws' hrs' i j x y hi hj hc qr gi gj hmk
    ·obtain ⟨q1,q2⟩:=hws' i x (by omega) hi w1 gi;refine ⟨q2,?_⟩;by_cases hik:i = k
     ·subst hik;rw [ho] at hi;injection hi with hi;subst hi;exact qkn (hchk.2 w1).2 (hrs j y (by omega) hj w2 gj) hc
     ·have hjk:j = k:=(by omega);subst hjk;rw [ho] at hj;injection hj with hj;subst hj;exact qko (hchk.1 w2) (kW i x (by omega) hi w1 gi).1 hc
   ·cases h
  ·simp only [hg] at h;rw [← hE,← hT] at h
   have zE:∀ {q:Nat} {z:Oper},ops[q]? = some z→jc ops (E q) z.guard = some true→q≠k:=by
    rintro q z hq gq rfl;rw [ho] at hq;injection hq with hq;subst hq;rw [hg] at gq;cases gq
   have n1:=zE hi gi;have n2:=zE hj gj;exact qcs hst l (k+1) ws rs r vM h (fun i x hik hi hwi hgi=>kW i x (by have:=zE hi hgi;omega) hi hwi hgi) (fun j y hjk hj hrj hgj=>hrs j y (by have:=zE hj hgj;omega) hj hrj hgj) i j x y hi hj hc qr gi gj (by omega)
theorem qop {e1 e2:qp} {x:Operand} (h:∀ t,t∈qct x→qf e1 t = qf e2 t):qH X e1 x = qH X e2 x:=by
 cases x with
 | tmp t=>exact h t (by simp [qct])
 | _=>rfl
theorem qdl {e1 e2:qp}:∀ {l:List Operand},(∀ x,x∈l→qH X e1 x = qH X e2 x)→jT X e1 l = jT X e2 l
 | [],_=>rfl
 | x :: l,h=>by
  simp only [jT,h x (List.mem_cons_self ..),qdl (fun y hy=>h y (List.mem_cons_of_mem _ hy))]
theorem qbc {e1 e2:qp}:∀ {l:List (Nat × Operand)},(∀ x,x∈l.map (·.2)→qH X e1 x = qH X e2 x)→JQ X e1 l = JQ X e2 l
 | [],_=>rfl
 | (i,x) :: l,h=>by
  simp only [JQ,h x (by simp),qbc (l:=l) (fun y hy=>h y (by simp only [List.map_cons,List.mem_cons];exact .inr hy))]
theorem qiW {F:qY} {o:Op} {e1 e2:qp} (h:∀ x,x∈o.operands.toList→qH X e1 x = qH X e2 x):qW X F o e1 H = qW X F o e2 H:=by
 cases o with
 | build t parts =>
  simp only [qW];rw [qbc (e2:=e2) (fun x hx=>h x (by simpa [Op.operands] using hx))]
 | buildSlice t n parts =>
  simp only [qW];rw [qbc (e2:=e2) (fun x hx=>h x (by simpa [Op.operands] using hx))]
 | makeFunc fn first caps =>
  cases fn with
  | func f =>
   simp only [qW]
   rw [qdl (e2:=e2) (fun x hx=>h x (by
    simp only [Op.operands,Array.toList_append,List.mem_append];exact .inr hx))]
  | _=>rfl
 | slice t x lo hi mx =>
  cases mx with
  | none =>
   have hx:=h x (by simp [Op.operands])
   have vL:lo.map (qH X e1) = lo.map (qH X e2):=by
    cases lo with
    | none=>rfl
    | some l=>simp [h l (by simp [Op.operands])]
   have hhi:hi.map (qH X e1) = hi.map (qH X e2):=by
    cases hi with
    | none=>rfl
    | some l=>simp [h l (by simp [Op.operands])]
   simp only [qW,hx,vL,hhi]
  | some m=>rfl
 | call c =>
  simp only [qW]
  have ha:jT X e1 c.args.toList = jT X e2 c.args.toList:=qdl fun x hx=>h x (by
   simp only [Op.operands,Call.operands,Array.toList_append,List.mem_append];exact .inr hx)
  rw [ha];cases hc:c.callee with
  | builtin b=>cases jT X e2 c.args.toList <;> rfl
  | value g =>
   have hg:=h g (by simp [Op.operands,Call.operands,hc]);cases jT X e2 c.args.toList with
   | none=>rfl
   | some args=>simp only [hg]
  | invoke r m=>cases jT X e2 c.args.toList <;> rfl
 | pick c a b =>
  simp only [qW];rw [h c (by simp [Op.operands])];split
  ·rename_i t _;cases t
   ·simp only [Bool.false_eq_true,if_false];rw [h b (by simp [Op.operands])]
   ·simp only [if_true];rw [h a (by simp [Op.operands])]
  ·rfl
 | move x=>simp only [qW,h x (by simp [Op.operands])]
 | assign x=>simp only [qW,h x (by simp [Op.operands])]
 | box t x=>simp only [qW,h x (by simp [Op.operands])]
 | load t x=>simp only [qW,h x (by simp [Op.operands])]
 | store t x y=>simp only [qW,h x (by simp [Op.operands]),h y (by simp [Op.operands])]
 | nilCheck x=>simp only [qW,h x (by simp [Op.operands])]
 | binOp op t x y u=>simp only [qW,h x (by simp [Op.operands]),h y (by simp [Op.operands])]
 | unOp op t x=>simp only [qW,h x (by simp [Op.operands])]
 | convert s d x=>simp only [qW,h x (by simp [Op.operands])]
 | makeInterface t x=>simp only [qW,h x (by simp [Op.operands])]
 | makeSlice t x y=>simp only [qW,h x (by simp [Op.operands]),h y (by simp [Op.operands])]
 | fieldAddr s x f=>simp only [qW,h x (by simp [Op.operands])]
 | field s x f=>simp only [qW,h x (by simp [Op.operands])]
 | indexAddr t x y=>simp only [qW,h x (by simp [Op.operands]),h y (by simp [Op.operands])]
 | index t x y=>simp only [qW,h x (by simp [Op.operands]),h y (by simp [Op.operands])]
 | extract x i=>simp only [qW,h x (by simp [Op.operands])]
 | _=>rfl
theorem quk {F:qY} {drw:Bool} {o:Op} {e1 e2:qp} (h:∀ x,x∈o.operands.toList→qH X e1 x = qH X e2 x):qE X F drw o e1 H = qE X F drw o e2 H:=by
 unfold qE;split
 ·rw [qbc (e2:=e2) (fun x hx=>h x (by simpa [Op.operands] using hx))]
 ·rw [h _ (by simp [Op.operands])]
 ·rename_i c;rw [qiW (o:=.call c) h]
  have hd:ZW X c e1 = ZW X c e2:=by
   unfold ZW;cases X.dynV with
   | false=>rfl
   | true =>
    cases hc:c.callee with
    | value g =>
     cases g with
     | tmp t =>
      have hg:qf e1 t = qf e2 t:=h (.tmp t) (by simp [Op.operands,Call.operands,hc]);simp only [hg]
     | _=>rfl
    | _=>rfl
  rw [hd]
 ·exact qiW h
theorem qdx {x:Option D} {d:D} (h:x.map (·,H) = some (d,H')):H' = H∧∀ H2:qi,x.map (·,H2) = some (d,H2):=by
 obtain ⟨rfl,rfl⟩:=kR h;exact ⟨rfl,fun _=>rfl⟩
theorem qvS {b:Builtin} {ts:List TypeId} {args:List D} {d:D} (hb:b = .len∨b = .min∨b = .max) (h:KE X b ts args H = some (d,H')):H' = H∧∀ H2,KE X b ts args H2 = some (d,H2):=by
 rcases hb with rfl | rfl | rfl
 ·rcases ts with _ | ⟨t,ts⟩
  ·simp [KE] at h
  ·rcases args with _ | ⟨x,args⟩
   ·simp [KE] at h
   ·exact qdx h
 ·exact qdx h
 ·exact qdx h
theorem qp5 {F:qY} {o:Op} {e:qp} {d:D} (hk:QZ X o = .v) (h:qE X F true o e H = some (d,H')):H' = H∧∀ H2,qE X F true o e H2 = some (d,H2):=by
 have mp:∀ {x:Option D},x.map (·,H) = some (d,H')→H' = H∧∀ H2:qi,x.map (·,H2) = some (d,H2):=by
  intro x hx;obtain ⟨rfl,rfl⟩:=kR hx;exact ⟨rfl,fun _=>rfl⟩
 cases o with
 | buildSlice t n parts =>
  simp only [qE] at h ⊢;split at h
  ·rename_i ps hp;split at h
   ·rename_i ds hb;injection h with h;injection h with h1 h2;subst h1;subst h2;exact ⟨rfl,fun H2=>rfl⟩
   ·cases h
  ·cases h
 | move x=>exact mp h
 | assign x=>exact mp h
 | pick c a b =>
  simp only [qE,qW] at h ⊢;split at h
  ·exact mp h
  ·cases h
 | build t parts =>
  simp only [qE,qW] at h ⊢;split at h
  ·exact mp h
  ·cases h
 | nilCheck x =>
  simp only [qE,qW] at h ⊢;split at h <;> first | (cases h;done) | skip
  all_goals
   injection h with h;injection h with h1 h2;subst h1;subst h2;exact ⟨rfl,fun _=>rfl⟩
 | binOp op t x y u =>
  simp only [qE,qW] at h ⊢;split at h
  ·exact mp h
  ·cases h
 | unOp op t x =>
  simp only [qE,qW] at h ⊢;split at h
  ·exact mp h
  ·cases h
 | makeInterface t x =>
  simp only [qE,qW] at h ⊢;split at h
  ·cases h
  ·injection h with h;injection h with h1 h2;subst h1;subst h2;exact ⟨rfl,fun _=>rfl⟩
  ·cases h
 | makeFunc fn first caps =>
  cases fn with
  | func f =>
   simp only [qE,qW] at h ⊢;split at h
   ·rename_i hf;cases hc:jT X e caps.toList with
    | none=>simp [hc] at h
    | some cs =>
     simp only [hc,Option.map_some,Option.some.injEq,Prod.mk.injEq] at h;obtain ⟨rfl,rfl⟩:=h;exact ⟨rfl,fun _=>by simp [hf]⟩
   ·cases h
  | _=>simp [qE,qW] at h
 | slice t x lo hi mx =>
  cases mx with
  | none =>
   simp only [qE,qW] at h ⊢;split at h <;> first | (cases h;done) | exact mp h
  | some m=>simp [qE,qW] at h
 | fieldAddr s x f =>
  simp only [qE,qW] at h ⊢;split at h
  ·exact mp h
  ·cases h
 | field s x f =>
  simp only [qE,qW] at h ⊢;split at h
  ·exact mp h
  ·cases h
 | indexAddr t x y =>
  simp only [qE,qW] at h ⊢;split at h
  ·exact mp h
  ·cases h
 | index t x y =>
  simp only [qE,qW] at h ⊢;split at h
  ·exact mp h
  ·cases h
 | extract x i =>
  simp only [qE,qW] at h ⊢;split at h
  ·exact mp h
  ·cases h
 | call c =>
  have hc:(c.callee = .builtin .len∨c.callee = .builtin .min∨c.callee = .builtin .max)∨(∃ f,c.callee = .value (.func f)∧(X.pureF f && !X.byRef f && !X.perm f) = true)∨(∃ t,c.callee = .value (.tmp t)∧X.dynV = true):=by
   simp only [QZ] at hk;split at hk
   ·rename_i hc;exact .inl (.inl hc)
   ·rename_i hc;exact .inl (.inr (.inl hc))
   ·rename_i hc;exact .inl (.inr (.inr hc))
   ·rename_i f hc;refine .inr (.inl ⟨f,hc,?_⟩);split at hk
    ·cases hk
    ·rename_i hb;split at hk
     ·rename_i hp;split at hk
      ·cases hk
      ·rename_i hpm;rw [hp];simp [hb,hpm]
     ·split at hk <;> cases hk
   ·rename_i t hc;refine .inr (.inr ⟨t,hc,?_⟩);split at hk
    ·assumption
    ·cases hk
   ·cases hk
  have pureGo:∀ {f:Nat} {args:List D},(X.pureF f && !X.byRef f && !X.perm f) = true→Z2 X F f args H = some (d,H')→H' = H∧∀ H2,Z2 X F f args H2 = some (d,H2):=by
   intro f args hp0 h;rw [Bool.and_eq_true] at hp0;have hp:=hp0.1;have hpn:X.perm f = false:=by simpa using hp0.2
   have hpm:(X.perm f && !X.pureF f && !X.byRef f) = false:=by
    simp [hpn]
   have hpb:(X.perm f && X.byRef f) = false:=(by simp [hpn]);rw [qcb hpm hpb] at h;obtain ⟨h4,h3,h1⟩:=qar hp h;rcases h1 with ⟨h1,h2⟩ | ⟨_,h1,_⟩
   ·refine ⟨h4,fun H2=>?_⟩;rw [qcb hpm hpb];unfold Qs;rw [if_pos hp,if_pos h1,h2];simp only at h3;simp only [h3,if_true]
   ·rw [hpn] at h1;cases h1
  rcases hc with hc | ⟨f,hc,hp⟩ | ⟨t,hc,hdy⟩
  rotate_left
  ·have hw:∀ H2,qE X F true (.call c) e H2 = qW X F (.call c) e H2:=fun H2=>by
    simp only [qE,ZW,hc];cases X.dynV <;> rfl
   rw [hw] at h;simp only [hw];simp only [qW] at h ⊢;simp only [hc] at h ⊢;cases ha:jT X e c.args.toList with
   | none=>simp [ha] at h
   | some args =>
    simp only [ha,qH] at h ⊢;exact pureGo hp h
  ·simp only [qE] at h ⊢;split at h
   ·cases h
   ·rename_i hb;have zb:ZW X c e = false:=(by simpa using hb);simp only [zb,Bool.false_eq_true,if_false];unfold ZW at zb;simp only [hc,hdy] at zb;split at zb
    ·rename_i f caps hl;have hp:(X.pureF f && !X.byRef f && !X.perm f) = true:=(by simpa using zb);simp only [qW,hc] at h ⊢;cases ha:jT X e c.args.toList with
     | none=>simp [ha] at h
     | some args =>
      simp only [ha,qH,hl] at h ⊢;exact pureGo hp h
    ·cases zb
  have hw:∀ H2,qE X F true (.call c) e H2 = qW X F (.call c) e H2:=fun H2=>by
   simp only [qE,ZW];rcases hc with hc | hc | hc <;> (simp only [hc];cases X.dynV <;> rfl)
  rw [hw] at h;simp only [hw];simp only [qW] at h ⊢;cases ha:jT X e c.args.toList with
  | none=>rcases hc with hc | hc | hc <;> simp [hc,ha] at h
  | some args=>rcases hc with hc | hc | hc <;> (simp only [hc,ha] at h ⊢;exact qvS (by simp) h)
 | load _ _=>simp [QZ] at hk
 | convert _ _ _=>simp [QZ] at hk
 | alloc _=>simp [QZ] at hk
 | box _ _=>simp [QZ] at hk
 | makeSlice _ _ _=>simp [QZ] at hk
 | store _ _ _=>simp [QZ] at hk
 | _=>simp [qE,qW] at h
theorem qhx {T1 T2:qi} {p:D} {cs:List D} (hg:∀ i,JI p = some i→qo T1 i≠none→qo T2 i = qo T1 i) (h:JV T1 p = some cs):JV T2 p = some cs:=by
 cases p <;> simp only [JV,reduceCtorEq] at h ⊢
 ·exact h
 ·rename_i i st off;split at h
  ·rename_i ds hd;have:=hg i rfl (by rw [hd];simp);rw [this,hd];exact h
  ·cases h
theorem qlK {T1 T2:qi} {p:D} {k:Nat} {r:List D × Nat} (hg:∀ i,JI p = some i→qo T1 i≠none→qo T2 i = qo T1 i) (h:JJ T1 k p = some r):JJ T2 k p = some r:=by
 cases p <;> simp only [JJ,reduceCtorEq] at h ⊢
 ·exact h
 ·rename_i i st off len k';split at h
  ·rename_i ds hd;have:=hg i rfl (by rw [hd];simp);rw [this,hd];exact h
  ·cases h
theorem qgZ {e:qp}:∀ {l:List Operand} {ds:List D},jT X e l = some ds→∀ d,d∈ds→∃ x,x∈l∧qH X e x = some d
 | [],ds,h,d,hd=>by
  simp only [jT,Option.some.injEq] at h;subst h;cases hd
 | x :: l,ds,h,d,hd=>by
  simp only [jT] at h;split at h
  ·rename_i d0 ds0 h1 h2;injection h with h;subst h;rcases List.mem_cons.1 hd with rfl | hd
   ·exact ⟨x,List.mem_cons_self ..,h1⟩
   ·obtain ⟨y,hy,hyd⟩:=qgZ h2 d hd;exact ⟨y,List.mem_cons_of_mem _ hy,hyd⟩
  ·cases h
mutual
theorem qiE (T1 T2:qi):∀ (d:D),idFree d = true→freeze T2 d = freeze T1 d
 | .agg cs,h=>by simp only [idFree] at h;simp only [freeze,qbG T1 T2 cs h]
 | .fn f cs,h=>by simp only [idFree] at h;simp only [freeze,qbG T1 T2 cs h]
 | .tup _,_=>rfl
 | .iface _ _,_=>rfl
 | .optr ..,h=>by simp [idFree] at h
 | .osl ..,h=>by simp [idFree] at h
 | .bool _,_=>rfl
 | .int _ _,_=>rfl
 | .str _,_=>rfl
 | .nilp,_=>rfl
 | .nilf,_=>rfl
 | .nili,_=>rfl
 | .raw _,_=>rfl
 | .vptr _,_=>rfl
 | .vsl ..,_=>rfl
theorem qbG (T1 T2:qi):∀ (cs:List D),idFree.idFreeL cs = true→freeze.freezeL T2 cs = freeze.freezeL T1 cs
 | [],_=>rfl
 | d :: l,h=>by
  simp only [idFree.idFreeL,Bool.and_eq_true] at h;simp only [freeze.freezeL,qiE T1 T2 d h.1,qbG T1 T2 l h.2]
end
theorem qtV {T1 T2:qi} {p:D} (hg:∀ i,JI p = some i→qo T1 i≠none→qo T2 i = qo T1 i) (h:Vs T1 p = true):Vs T2 p = true∧freeze T2 p = freeze T1 p:=by
 cases p with
 | osl i st off len k =>
  simp only [Vs] at h;split at h
  ·rename_i ds hd;have e1:=hg i rfl (by rw [hd];simp);constructor
   ·simp only [Vs,e1,hd];exact h
   ·simp only [freeze,e1]
  ·cases h
 | optr i st off=>simp [Vs,idFree] at h
 | _=>exact ⟨h,qiE T1 T2 _ h⟩
theorem qiI {T1 T2:qi}:∀ (args:List D),(∀ p,p∈args→∀ i,JI p = some i→qo T1 i≠none→qo T2 i = qo T1 i)→args.all (Vs T1) = true→args.all (Vs T2) = true∧VI T2 args = VI T1 args
 | [],_,_=>⟨rfl,rfl⟩
 | p :: l,hg,h=>by
  simp only [List.all_cons,Bool.and_eq_true] at h;obtain ⟨a1,a2⟩:=qtV (hg p (List.mem_cons_self ..)) h.1;obtain ⟨b1,b2⟩:=qiI l (fun q hq=>hg q (List.mem_cons_of_mem _ hq)) h.2;unfold VI at b2 ⊢;exact ⟨by simp [a1,b1],by simp only [freeze.freezeL,a2,b2]⟩
theorem qp6 {F:qY} {o:Op} {e:qp} {d:D} {T1 T2:qi} (hk:QZ X o = .r) (h:qE X F true o e T1 = some (d,H'))
  (hg:∀ x,x∈o.operands.toList→∀ p i,qH X e x = some p→JI p = some i→qo T1 i≠none→qo T2 i = qo T1 i):H' = T1∧qE X F true o e T2 = some (d,T2):=by
 cases o with
 | load t x =>
  simp only [qE,qW] at h ⊢;split at h
  ·rename_i p hp;obtain ⟨h1,rfl⟩:=kR h;refine ⟨rfl,?_⟩
   have hl:Ku X.P T2 t p = some d:=by
    unfold Ku at h1 ⊢;split at h1
    ·rename_i cs hq hm;rw [qhx (hg x (by simp [Op.operands]) p · hp) hm];simp only [hq];exact h1
    ·rename_i x' l hq hm;rw [qhx (hg x (by simp [Op.operands]) p · hp) hm];simp only [hq];exact h1
    ·cases h1
   rw [hl];rfl
  ·cases h
 | convert s t x =>
  simp only [qE] at h ⊢;split at h
  ·rename_i b u hx hu;split at h
   ·injection h with h;injection h with h1 h2;subst h1;subst h2;exact ⟨rfl,rfl⟩
   ·cases h
  ·rename_i a hx _;have hgx:∀ i,JI a = some i→qo T1 i≠none→qo T2 i = qo T1 i:=fun i=>hg x (by simp [Op.operands]) a i hx;unfold KB at h ⊢;split at h
   ·rename_i k k' n h1 h2;injection h with h;injection h with h3 h4;subst h3;subst h4;exact ⟨rfl,rfl⟩
   ·rename_i b h1 h2;injection h with h;injection h with h3 h4;subst h3;subst h4;exact ⟨rfl,rfl⟩
   ·injection h with h;injection h with h3 h4;subst h3;subst h4;exact ⟨rfl,rfl⟩
   ·exfalso
    simp_all
   ·rename_i e' _ h1 h2;split at h
    ·rename_i cs n he hsl
     obtain ⟨h3,rfl⟩:((vQ cs).map fun s=>D.str s) = some d∧T1 = H':=by
      cases hb:vQ cs with
      | none=>simp [hb] at h
      | some s =>
       simp only [hb,Option.map_some,Option.some.injEq,Prod.mk.injEq] at h;exact ⟨by simp [h.1],h.2⟩
     refine ⟨rfl,?_⟩;rw [qlK hgx hsl];simp only [he];cases hb:vQ cs with
     | none=>simp [hb] at h3
     | some s=>simpa [hb] using h3
    ·cases h
   ·rename_i i st off len k h1 _ h2;split at h
    ·rename_i ds he hd;have e1:=hgx i rfl (by rw [hd];simp);split at h
     ·rename_i hc;injection h with h;injection h with h3 h4;subst h3;subst h4;refine ⟨rfl,?_⟩;rw [e1,hd];simp only [he,hc,and_self,if_true]
     ·cases h
    ·cases h
   ·cases h
  ·cases h
 | call c =>
  simp only [QZ] at hk;split at hk <;> first | (cases hk;done) | skip
  ·rename_i f hc;split at hk
   ·cases hk
   ·rename_i hb;split at hk
    ·rename_i vU;split at hk
     ·rename_i hpe;have hp:(X.pureF f && !X.byRef f) = true:=(by simp [vU,hb]);have hpm:(X.perm f && !X.pureF f && !X.byRef f) = false:=by simp [vU]
      have hw:∀ T,qE X F true (.call c) e T = qW X F (.call c) e T:=fun T=>by
       simp only [qE,ZW,hc];cases X.dynV <;> rfl
      rw [hw] at h;rw [hw];simp only [qW,hc] at h ⊢;cases ha:jT X e c.args.toList with
      | none=>simp [ha] at h
      | some args =>
       simp only [ha,qH,List.append_nil] at h ⊢;rw [qcb hpm (by simp [hb])] at h ⊢;obtain ⟨h4,h3,h1⟩:=qar hp h;simp only at h3 h4 h1;refine ⟨h4,?_⟩;unfold Qs;rw [if_pos hp];rcases h1 with ⟨h1,h2⟩ | ⟨h1,hpe2,hfl,hv,args',vO,h2⟩
       ·rw [if_pos h1,h2];simp only [h3,if_true]
       ·obtain ⟨g1,g2⟩:=qiI args (fun p hpm i hi qr=>by
         obtain ⟨x,hx,hxp⟩:=qgZ ha p hpm
         exact hg x (by
          simp only [Op.operands,Call.operands,Array.toList_append,List.mem_append];exact .inr hx) p i hxp hi qr) hfl
        rw [if_neg h1];simp only [hpe2,g1,Bool.and_self,if_true,g2,vO,h2,h3,hv]
     ·cases hk
    ·split at hk <;> cases hk
  ·split at hk <;> cases hk
 | _=>simp [QZ] at hk
theorem qp8 {F:qY} {o:Op} {e:qp} {d:D} (hk:QZ X o = .e) (h:qE X F true o e H = some (d,H')):∃ N,H' = H ++ N:=by
 cases o with
 | alloc t =>
  simp only [qE,qW] at h;split at h
  ·injection h with h;injection h with h1 h2;exact ⟨_,h2.symm⟩
  ·cases h
 | box t x =>
  simp only [qE,qW] at h;split at h
  ·split at h
   ·injection h with h;injection h with h1 h2;exact ⟨_,h2.symm⟩
   ·cases h
  ·cases h
 | makeSlice t x y =>
  simp only [qE,qW] at h;split at h
  ·unfold YG at h;split at h
   ·split at h
    ·simp only [Option.bind_eq_some_iff] at h;obtain ⟨z,_,h⟩:=h;split at h
     ·injection h with h;injection h with h1 h2;exact ⟨_,h2.symm⟩
     ·cases h
    ·cases h
   ·cases h
  ·cases h
 | call c =>
  simp only [QZ] at hk;split at hk <;> first | (cases hk;done) | skip
  rotate_left
  ·split at hk <;> cases hk
  rename_i f hc;split at hk
  ·cases hk
  ·rename_i hnr
   have hpm:(X.perm f && !X.pureF f && !X.byRef f) = false:=by
    split at hk
    ·split at hk <;> cases hk
    ·split at hk
     ·cases hk
     ·rename_i hpp;simp [hpp]
   have hw:qE X F true (.call c) e H = qW X F (.call c) e H:=by
    simp only [qE,ZW,hc];cases X.dynV <;> rfl
   rw [hw] at h;simp only [qW,hc] at h;cases ha:jT X e c.args.toList with
   | none=>simp [ha] at h
   | some args =>
    simp only [ha,qH] at h;rw [qcb hpm (by simp [hnr])] at h;replace h:=qca h;unfold Jt at h;rw [if_neg hnr] at h;split at h
    ·split at h
     ·cases h
     ·injection h with h;injection h with h1 h2;exact ⟨_,h2.symm⟩
    ·split at h
     ·cases h
     ·split at h
      ·cases h
      ·split at h
       ·injection h with h;injection h with h1 h2;exact ⟨_,h2.symm⟩
       ·cases h
 | _=>simp [QZ] at hk
theorem qiX {F:qY} {o:Op} {e:qp}:qE X F false o e H = qW X F o e H:=by cases o <;> rfl
theorem qdA {bw:Bool} {F:qY} {o:Op}:(kP X bw o = QZ X o∧(∀ (e:qp) (H:qi),qE X F bw o e H = qE X F true o e H))∨(bw = false∧(kP X bw o = .e∧((∃ t n ps,o = .buildSlice t n ps)∨∃ s d x,o = .convert s d x))∨(kP X bw o = .m)):=by
 cases bw with
 | true=>exact .inl ⟨rfl,fun _ _=>rfl⟩
 | false =>
  cases o with
  | buildSlice t n ps=>exact .inr (.inl ⟨rfl,rfl,.inl ⟨t,n,ps,rfl⟩⟩)
  | convert s d x=>exact .inr (.inl ⟨rfl,rfl,.inr ⟨s,d,x,rfl⟩⟩)
  | call c =>
   cases hc:c.callee with
   | value g =>
    cases g with
    | tmp t=>exact .inr (.inr (by simp only [kP,hc]))
    | _=>exact .inl ⟨by simp only [kP,hc],fun e H=>by simp only [qE,ZW,hc];cases X.dynV <;> rfl⟩
   | builtin b=>exact .inl ⟨by simp only [kP,hc],fun e H=>by simp only [qE,ZW,hc];cases X.dynV <;> rfl⟩
   | invoke r m=>exact .inl ⟨by simp only [kP,hc],fun e H=>by simp only [qE,ZW,hc];cases X.dynV <;> rfl⟩
  | _=>exact .inl ⟨rfl,fun _ _=>rfl⟩
theorem qhI {bw:Bool} {F:qY} {o:Op} {e:qp} {d:D} (hk:kP X bw o = .v) (h:qE X F bw o e H = some (d,H')):H' = H∧∀ H2,qE X F bw o e H2 = some (d,H2):=by
 rcases qdA (X:=X) (bw:=bw) (F:=F) (o:=o) with ⟨h1,h2⟩ | ⟨_,h1,_⟩ | h1
 ·rw [h1] at hk;rw [h2] at h;simp only [h2];exact qp5 hk h
 ·rw [h1] at hk;cases hk
 ·rw [h1] at hk;cases hk
theorem qhJ {bw:Bool} {F:qY} {o:Op} {e:qp} {d:D} {T1 T2:qi} (hk:kP X bw o = .r) (h:qE X F bw o e T1 = some (d,H'))
  (hg:∀ x,x∈o.operands.toList→∀ p i,qH X e x = some p→JI p = some i→qo T1 i≠none→qo T2 i = qo T1 i):H' = T1∧qE X F bw o e T2 = some (d,T2):=by
 rcases qdA (X:=X) (bw:=bw) (F:=F) (o:=o) with ⟨h1,h2⟩ | ⟨_,h1,_⟩ | h1
 ·rw [h1] at hk;rw [h2] at h;rw [h2];exact qp6 hk h hg
 ·rw [h1] at hk;cases hk
 ·rw [h1] at hk;cases hk
theorem quT {P:Program} {s t:TypeId} {x d:D} (h:KB P H s t x = some (d,H')):∃ N,H' = H ++ N:=by
 unfold KB at h;split at h
 ·injection h with h;injection h with h1 h2;exact ⟨[],by simp [h2]⟩
 ·injection h with h;injection h with h1 h2;exact ⟨[],by simp [h2]⟩
 ·injection h with h;injection h with h1 h2;exact ⟨[],by simp [h2]⟩
 ·split at h
  ·injection h with h;injection h with h1 h2;exact ⟨_,h2.symm⟩
  ·cases h
 ·split at h
  ·rename_i cs n he hsl;cases hb:vQ cs with
   | none=>simp [hb] at h
   | some s =>
    simp only [hb,Option.map_some,Option.some.injEq,Prod.mk.injEq] at h;exact ⟨[],by simp [h.2]⟩
  ·cases h
 ·split at h
  ·split at h
   ·injection h with h;injection h with h1 h2;exact ⟨[],by simp [h2]⟩
   ·cases h
  ·cases h
 ·cases h
theorem qpo {P:Program} {t:TypeId} {n:Nat} {ps:List (Nat × D)} {d:D} (h:VO P H t n ps = some (d,H')):∃ N,H' = H ++ N:=by
 unfold VO at h;split at h
 ·split at h
  ·split at h
   ·simp only [Option.bind_eq_some_iff] at h;obtain ⟨cs,_,h⟩:=h;split at h
    ·injection h with h;injection h with h1 h2;exact ⟨_,h2.symm⟩
    ·cases h
   ·cases h
  ·cases h
 ·cases h
theorem qp7 {bw:Bool} {F:qY} {o:Op} {e:qp} {d:D} (hk:kP X bw o = .e) (h:qE X F bw o e H = some (d,H')):∃ N,H' = H ++ N:=by
 rcases qdA (X:=X) (bw:=bw) (F:=F) (o:=o) with ⟨h1,h2⟩ | ⟨rfl,h1,⟨t,n,ps,rfl⟩ | ⟨s,t,x,rfl⟩⟩ | h1
 ·rw [h1] at hk;rw [h2] at h;exact qp8 hk h
 ·rw [qiX] at h;simp only [qW] at h;split at h
  ·exact qpo h
  ·cases h
 ·rw [qiX] at h;simp only [qW] at h;split at h
  ·exact quT h
  ·cases h
 ·rw [h1] at hk;cases hk
end
end Go.Ev
namespace Go.Ev
section
variable {X:Cx} {bw:Option Tmp→Bool} {L:kt} {al:Option Nat} {ok ok':Nat→Prop} {w w':World} {ι:qx} {H H':qi}
theorem qeR {ops:Array Oper} {e:qp} {a:Act} {o:Oper} {b:Bool} (he:∀ k want t,o.guard = some (k,want)→(ops[k]?).bind (·.dst) = some t→∀ d,qf e t = some d→t < a.tmps.size∧Rep ok w ι H d (a.tmps.getD t undef))
  (h:jc ops e o.guard = some b):Region.wanted o (yielded ops a.tmps) = b:=by
 unfold jc at h;unfold Region.wanted;split at h
 ·rename_i hg;injection h with h;rw [hg];exact h
 ·rename_i j want hg;rw [hg];simp only;unfold yielded;cases hd:(ops[j]?).bind (·.dst) with
  | none =>
   simp only [hd,Option.some.injEq] at h;subst h;simp
  | some t =>
   simp only [hd] at h;simp only [Option.bind_some];split at h
   ·rename_i v hl;injection h with h;obtain ⟨qg,hr⟩:=he j want t hg hd _ hl;rw [Array.getD_eq_getD_getElem?,Array.getElem?_eq_getElem qg] at hr;rw [Array.getElem?_eq_getElem qg];generalize a.tmps[t] = x at hr;cases hr;simp only;rw [← h];cases v <;> cases want <;> rfl
   ·rename_i hl;injection h with h;subst h;obtain ⟨qg,hr⟩:=he j want t hg hd _ hl;rw [Array.getD_eq_getD_getElem?,Array.getElem?_eq_getElem qg] at hr;rw [Array.getElem?_eq_getElem qg];generalize a.tmps[t] = x at hr;cases hr;simp
   ·cases h
theorem KZ (a:Act) (dst:Option Tmp) (v:Value):(a.put dst v).tmps.size = a.tmps.size∧(a.put dst v).defers = a.defers:=by
 cases dst <;> simp [Act.put]
def Out (X:Cx) (n:Nat) (ok:Nat→Prop) (w:World) (ι:qx) (H:qi) (a:Act) (e':qp) (H':qi) (a':Act) (w':World):Prop :=
 a'.tmps.size = a.tmps.size∧a'.defers = a.defers∧∃ ι' ok',Sim X ok' w' ι' H'∧EnvRep ok' w' ι' H' e' a'.tmps∧Evol n ok w ι H ok' w' ι' H'
theorem qa7:Rep ok w ι H (.tup []) undef:=.tup rfl (by simp)
theorem qbt {e:qp} {dst:Option Tmp} {d:D} {t:Nat}:qf (jH e dst d) t = if dst = some t then some d else qf e t:=by
 cases dst with
 | none=>simp [jH]
 | some s =>
  simp only [jH,qf,Option.some.injEq]
def V6 (l:List Nat) (e:qp):qp:=v6 l e
theorem qbs:∀ {l:List Nat} {e:qp} {t:Nat},t∈l→qf (V6 l e) t = qf e t
 | k :: l,e,t,h=>by
  simp only [V6,v6];by_cases hkt:k = t
  ·subst hkt;cases hk:qf e k with
   | some d=>simp [qf]
   | none =>
    simp only;by_cases hm:k∈l
    ·exact (qbs hm).trans hk
    ·have:∀ {l:List Nat} {t:Nat},t ∉ l→qf (v6 l e) t = none:=by
      intro l
      induction l with
      | nil=>intro t _;rfl
      | cons x l ih =>
       intro t ht;simp only [List.mem_cons,not_or] at ht;simp only [v6];split
       ·simp only [qf,Ne.symm ht.1,if_false];exact ih ht.2
       ·exact ih ht.2
     exact this hm
  ·have hm:t∈l:=by
    rcases List.mem_cons.1 h with h | h
    ·exact absurd h.symm hkt
    ·exact h
   split
   ·simp only [qf,hkt,if_false];exact qbs hm
   ·exact qbs hm
theorem qbr:∀ {l:List Nat} {e:qp} {t:Nat} {d:D},qf (V6 l e) t = some d→t∈l∧qf e t = some d
 | [],e,t,d,h=>by simp [V6,v6,qf] at h
 | k :: l,e,t,d,h=>by
  simp only [V6,v6] at h;split at h
  ·rename_i x hk;simp only [qf] at h;split at h
   ·rename_i hkt;subst hkt;exact ⟨List.mem_cons_self ..,by rw [hk];exact h⟩
   ·obtain ⟨h1,h2⟩:=qbr h;exact ⟨List.mem_cons_of_mem _ h1,h2⟩
  ·obtain ⟨h1,h2⟩:=qbr h;exact ⟨List.mem_cons_of_mem _ h1,h2⟩
structure DrawFacts (X:Cx) (bw:Option Tmp→Bool) (L:kt) (al:Option Nat) (ops:Array Oper):Prop where
 edge:∀ (j:Nat) (o:Oper),ops[j]? = some o→∀ e,e∈o.after.toList→Region.binds .any e = true→e.on < j
 ord:∀ (i j:Nat) (x y:Oper),ops[i]? = some x→ops[j]? = some y→i < j→Z1 X bw L al ops i x j y = true→((Region.before ops).getD j 0).testBit i = true
 alo:∀ j,al = some j→∃ o ty t,ops[j]? = some o∧o.op = .alloc ty∧o.dst = some t∧o.guard = none ∧
  ∀ (k:Nat) (y:Oper),ops[k]? = some y→k≠j→t∈QM ops y→j < k∧∀ (i:Nat) (x:Oper),ops[i]? = some x→i < j→zu X (bw x.dst) x.op = true→((Region.before ops).getD k 0).testBit i = true
theorem qjs {ops:Array Oper} (h:qbR X bw L al ops = true):DrawFacts X bw L al ops:=by
 unfold qbR at h;simp only [Bool.and_eq_true] at h;obtain ⟨vP,h⟩:=h;have jE:=List.all_eq_true.1 h
 have hmem:∀ (j:Nat) (o:Oper),ops[j]? = some o→(o,j)∈ops.toList.zipIdx:=by
  intro j o hj;rw [List.mem_zipIdx_iff_getElem?];simpa using hj
 constructor
 ·intro j o hj e he hb;have:=jE _ (hmem j o hj);simp only [Bool.and_eq_true] at this;have h1:=Array.all_eq_true'.1 this.1 e (by simpa using he);simpa [hb] using h1
 ·intro i j x y hi hj zQ hc;have:=jE _ (hmem j y hj);simp only [Bool.and_eq_true] at this;have h1:=List.all_eq_true.1 this.2 _ (hmem i x hi);simpa [zQ,hc] using h1
 ·intro j hj;subst hj;simp only [qkv] at vP;cases ho:ops[j]? with
  | none=>simp [ho] at vP
  | some o =>
   simp only [ho] at vP;split at vP
   ·rename_i ty t h1 h2 h3;refine ⟨o,ty,t,rfl,h1,h2,h3,fun k y hk hkj ht=>?_⟩;have:=List.all_eq_true.1 vP _ (hmem k y hk);have hc:(QM ops y).contains t = true:=(by simpa using ht);simp only [hc,beq_iff_eq,hkj,Bool.not_true,Bool.or_false,Bool.and_eq_true,decide_eq_true_eq,Bool.or_eq_true,false_or] at this;refine ⟨this.1,fun i x hi zQ hk=>?_⟩;have h4:=List.all_eq_true.1 this.2 _ (hmem i x hi);simpa [zQ,hk] using h4
   ·cases vP
theorem qv0 {ops:Array Oper} {i j:Nat} {x y:Oper} (h:Z1 X bw L al ops i x j y = true):Z1 X bw L al ops j y i x = true:=by
 unfold Z1 at *;rw [Nat.max_comm j i];simp only [Bool.or_eq_true,Bool.and_eq_true] at *;rcases h with (((h | h) | h) | h) | h
 ·exact .inl (.inl (.inl (.inr h)))
 ·exact .inl (.inl (.inl (.inl h)))
 ·exact .inl (.inl (.inr ⟨⟨h.1.2,h.1.1⟩,h.2⟩))
 ·exact .inr ⟨⟨h.1.2,h.1.1⟩,h.2⟩
 ·exact .inl (.inr ⟨⟨h.1.2,h.1.1⟩,h.2⟩)
theorem qbX {ops:Array Oper} {i j:Nat} {x y:Oper} (hx:zu X (bw x.dst) x.op = true) (hy:zu X (bw y.dst) y.op = true) (vP:al≠some (max i j)):Z1 X bw L al ops i x j y = true:=by
 unfold Z1;have:(al == some (max i j)) = false:=by simpa using vP
 simp only [hx,hy,this,Bool.not_false,Bool.and_true,Bool.or_true,Bool.true_or]
theorem qlN (hs:Sim X ok w ι H) (hw:VR w w') (qU:w.heap.size≤w'.heap.size) (qS:∀ c,c < w.heap.size→w'.heap[c]? = w.heap[c]?):Sim X ok w' ι H∧Evol H.length ok w ι H ok w' ι H:=by
 have hev:Evol H.length ok w ι H ok w' ι H :=
  ⟨hw.1,hw.2.1,hw.2.2,qU,fun c hc _=>qS c hc,fun _ h=>h,fun _ h _=>.inl h,⟨Nat.le_refl _,Nat.le_refl _⟩,fun _ _ ds hd=>⟨ds,hd,Nat.le_refl _,fun _=>rfl⟩,
   fun i ds _ s hd hi _=>⟨i,ds,s,hd,hi⟩⟩
 refine ⟨⟨fun c hc=>Nat.lt_of_lt_of_le (hs.okS c hc) qU,fun g cs hg=>?_,hs.inj,fun k es he=>?_⟩,hev⟩
 ·have h:=(hs.glob g cs hg).lift (ι:=ι) (H:=H);exact (h.evol hs hev rfl).free rfl _ _
 ·obtain ⟨c,arr2,e2,fr2,h1,h2,h3,h4,h5,h6,h7,h8⟩:=hs.blk k es he;exact ⟨c,arr2,e2,fr2,h1,h2,by rw [qS c (hs.lt he h1)];exact h3,h4,h5,h6,h7,fun j d hj=>(h8 j d hj).evol hs hev (h8 j d hj).closed⟩
theorem qcR {ds:List D} {ι2:qx} (hι:∀ k,k < H.length→ι2 k = ι k) {ι1:qx} {H1:qi} {d:D} {v:Value} (h:Rep ok w ι1 H1 d v):ι1 = ι→H1 = H→Rep ok w ι2 (jV H ds) d v:=by
 induction h with
 | bool b=>intros;exact .bool b
 | int k n=>intros;exact .int k n
 | str s=>intros;exact .str s
 | nilp=>intros;exact .nilp
 | nilf=>intros;exact .nilf
 | nili=>intros;exact .nili
 | raw v=>intros;exact .raw v
 | agg hl hc h ih=>intro h1 h2;exact .agg hl hc fun j d hj=>ih j d hj h1 h2
 | tup hl h ih=>intro h1 h2;exact .tup hl fun j d hj=>ih j d hj h1 h2
 | fn hl h ih=>intro h1 h2;exact .fn hl fun j d hj=>ih j d hj h1 h2
 | iface h ih=>intro h1 h2;exact .iface (ih h1 h2)
 | optr a hi hk =>
  intro h1 h2;subst h1;subst h2;refine .optr a (by rw [ZF];omega) fun ds' za=>?_;rw [Xm hi] at za;obtain ⟨k1,k2⟩:=hk ds' za;exact ⟨k1,fun e=>by obtain ⟨b,s,q1,q2⟩:=k2 e;exact ⟨b,s,by rw [hι _ hi];exact q1,q2⟩⟩
 | osl a hi hk qI =>
  intro h1 h2;subst h1;subst h2;refine .osl a (by rw [ZF];omega) (fun ds' za=>?_) qI;rw [Xm hi] at za;obtain ⟨k1,k2⟩:=hk ds' za;exact ⟨k1,fun e=>by obtain ⟨b,s,q1,q2⟩:=k2 e;exact ⟨b,s,by rw [hι _ hi];exact q1,q2⟩⟩
 | vptr a f ha hc hr h ih=>intros;exact .vptr a f ha hc hr h
 | vnil=>intros;exact .vnil
 | vsl a f ha hc hr h qI ih=>intros;exact .vsl a f ha hc hr h qI
theorem ql6 {ds:List D} {b:Nat} {arr:Array Value} {e:TypeId} {fr:Nat × Nat} (hs:Sim X ok w ι H) (hb:w.heap[b]? = some (.cells arr e fr)) (zE:¬ ok b) (hfree:∀ q es s,qo H q = some es→ι q≠some (b,s))
  (hfit:ds.length≤arr.size) (vO:fr.1 = fr.2∨arr.size≤fr.1) (Q2:∀ j,j < arr.size→(arr.getD j undef).oneCell' = true) (hcell:∀ d,d∈ds→zC d = true) (hrep:∀ (j:Nat) d,ds[j]? = some d→Rep ok w ι H d (arr.getD j undef)) :
  ∃ ι',Sim X ok w ι' (jV H ds)∧ι' H.length = some (b,arr.size)∧(∀ d v,Rep ok w ι H d v→Rep ok w ι' (jV H ds) d v) ∧
   ∀ (n:Nat) (ok0:Nat→Prop) (w0:World) (ι0:qx) (H0:qi),Evol n ok0 w0 ι0 H0 ok w ι H→w0.heap.size≤b→Evol n ok0 w0 ι0 H0 ok w ι' (jV H ds):=by
 have hι:∀ k,k < H.length→(fun k=>if k = H.length then some (b,arr.size) else ι k) k = ι k:=fun k hk=>by simp [Nat.ne_of_lt hk]
 have split:∀ k es,qo (jV H ds) k = some es→(k = H.length∧es = ds)∨(k < H.length∧qo H k = some es):=by
  intro k es he;by_cases vi:k = H.length
  ·subst vi;rw [Vr] at he;injection he with he;exact .inl ⟨rfl,he.symm⟩
  ·have qg:k < H.length:=by
    have:=QO he;rw [ZF] at this;omega
   rw [Xm qg] at he;exact .inr ⟨qg,he⟩
 refine ⟨fun k=>if k = H.length then some (b,arr.size) else ι k,⟨hs.okS,hs.glob,?_,?_⟩,by simp,fun d v h=>qcR hι h rfl rfl,fun n ok0 w0 ι0 H0 he hb0=>⟨he.os,he.tape,he.output,he.size,he.frame,he.okU,he.okN,⟨he.nle.1,by have:=he.nle.2;rw [ZF];omega⟩,fun i hi ds' za=>?_,fun i ds' c s hd hi hc=>?_⟩⟩
 ·intro p q es fs c s s' hp hq hιp hιq;rcases split p es hp with ⟨rfl,_⟩ | ⟨hp1,hp2⟩ <;> rcases split q fs hq with ⟨rfl,_⟩ | ⟨hq1,hq2⟩
  ·rfl
  ·simp only [if_true,Nat.ne_of_lt hq1,if_false,Option.some.injEq,Prod.mk.injEq] at hιp hιq;rw [← hιp.1] at hιq;exact absurd hιq (hfree q fs s' hq2)
  ·simp only [if_true,Nat.ne_of_lt hp1,if_false,Option.some.injEq,Prod.mk.injEq] at hιp hιq;rw [← hιq.1] at hιp;exact absurd hιp (hfree p es s hp2)
  ·simp only [Nat.ne_of_lt hp1,Nat.ne_of_lt hq1,if_false] at hιp hιq;exact hs.inj p q es fs c s s' hp2 hq2 hιp hιq
 ·intro k es he;rcases split k es he with ⟨rfl,rfl⟩ | ⟨hk,he⟩
  ·exact ⟨b,arr,e,fr,by simp,zE,hb,hfit,vO,Q2,hcell,fun j d hj=>qcR hι (hrep j d hj) rfl rfl⟩
  ·obtain ⟨c,arr2,e2,fr2,h1,h2,h3,h4,h5,h6,h7,h8⟩:=hs.blk k es he;exact ⟨c,arr2,e2,fr2,by simp [Nat.ne_of_lt hk,h1],h2,h3,h4,h5,h6,h7,fun j d hj=>qcR hι (h8 j d hj) rfl rfl⟩
 ·have qg:i < H.length:=Nat.lt_of_lt_of_le hi he.nle.2;rw [Xm qg] at za;obtain ⟨es,k1,k2,k3⟩:=he.heap i hi ds' za;exact ⟨es,k1,k2,fun e=>by simp only [Nat.ne_of_lt qg,if_false];exact k3 e⟩
 ·rcases split i ds' hd with ⟨rfl,_⟩ | ⟨h1,h2⟩
  ·simp only [if_true,Option.some.injEq,Prod.mk.injEq] at hi;omega
  ·simp only [Nat.ne_of_lt h1,if_false] at hi;exact he.own i ds' c s h2 hi hc
theorem qw4 {t:TypeId} {cs:List D} (h:(Ja X.P t).bind cellsOf = some cs) (w:World):∃ (arr:Array Value),(Instr.alloc t true (.tuple #[])).run X.P w = .ok (.pointer (some ⟨w.heap.size,0,none⟩)) (w.alloc (.cells arr t)) ∧
  cs.length≤arr.size∧(∀ j,j < arr.size→(arr.getD j undef).oneCell' = true)∧(∀ d,d∈cs→zC d = true)∧∀ (ok:Nat→Prop) (w:World) (ι:qx) (H:qi) (j:Nat) d,cs[j]? = some d→Rep ok w ι H d (arr.getD j undef):=by
 cases hz:Ja X.P t with
 | none=>simp [hz] at h
 | some z =>
  simp only [hz,Option.bind_some] at h;obtain ⟨zv,z1,z2⟩:=Yc hz;have c0:=fun ok w ι H=>Vu (z2 ok w ι H) h;obtain ⟨c1,c2,c3⟩:=c0 (fun _=>True) w qT [];refine ⟨zv.cells,by simp [Instr.alloc,z1,newVar,newRow],by omega,fun j hj=>?_,c2,fun ok w ι H=>(c0 ok w ι H).2.2⟩;have vV:cs[j]? = some (cs[j]'(by omega)):=List.getElem?_eq_getElem (by omega);exact (c3 j _ vV).oneCell (c2 _ (mem_of_get? vV))
theorem qdw {p:D} {b:Nat} (hb:JI p = some b):∀ {l:List (Option D)},some p∈l→b∈vT l
 | [],h=>by cases h
 | some d :: l,h=>by
  simp only [vT,List.mem_append];rcases List.mem_cons.1 h with h | h
  ·injection h with h;subst h;exact .inl (by simp [hb])
  ·exact .inr (qdw hb h)
 | none :: l,h=>by
  rcases List.mem_cons.1 h with h | h
  ·cases h
  ·simp only [vT];exact qdw hb h
theorem qjr {F:qY} (hF:Z6 X F) {nt:Nat} {ops:Array Oper} {Q:Exit→Act→World→Prop} (hD:DrawFacts X bw L al ops) {e e':qp} {a:Act} {E:Nat→qp} {T:Nat→qi} (hE0:E 0 = e) (hT0:T 0 = H) (hEn:E ops.toList.length = e') (hTn:T ops.toList.length = H')
  (hstep:∀ k o,ops.toList[k]? = some o→VQ X F nt bw ops o (E k) (T k) (E (k+1)) (T (k+1))) (hTr:qwC X ops L E T)
  (hs:Sim X ok w ι H) (he:EnvRep ok w ι H e a.tmps) (hnt:nt≤a.tmps.size) (hQ:∀ a' w',Out X H.length ok w ι H a e' H' a' w'→Q .normal a' w') :
  wpAny X.P .any ops Q ops.size (Array.replicate ops.size false) a w:=by
 have hstep':∀ (k:Nat) (o:Oper),ops[k]? = some o→VQ X F nt bw ops o (E k) (T k) (E (k+1)) (T (k+1)):=fun k o hk=>hstep k o (by simpa using hk);have hEn':E ops.size = e':=by simpa using hEn
 have hTn':T ops.size = H':=by simpa using hTn
 have hslot:∀ (t a b:Nat),a≤b→b≤ops.size→(∀ i o,ops[i]? = some o→o.dst = some t→¬ (a≤i∧i < b))→qf (E b) t = qf (E a) t:=by
  intro t a b hab
  induction b with
  | zero=>intro _ _;have:a = 0:=by omega
          subst this;rfl
  | succ b ih =>
   intro hb zE;by_cases hab':a = b+1
   ·rw [hab']
   ·have qg:b < ops.size:=(by omega);have ho:=Array.getElem?_eq_getElem qg;have hih:=ih (by omega) (by omega) (fun i o hi hd h=>zE i o hi hd ⟨h.1,by omega⟩);rw [← hih];obtain ⟨_,h | h⟩:=hstep' b _ ho
    ·obtain ⟨_,d,_,h3⟩:=h;rw [h3,qbt,if_neg (fun hd=>zE b _ ho hd ⟨by omega,by omega⟩)]
    ·obtain ⟨_,_,h3⟩:=h;rw [h3,qbt,if_neg (fun hd=>zE b _ ho hd ⟨by omega,by omega⟩)]
 have hnoK:∀ (k:Nat) (o:Oper),ops[k]? = some o→zu X (bw o.dst) o.op = false→T (k+1) = T k:=by
  intro k o ho hk;obtain ⟨_,h | h⟩:=hstep' k o ho
  ·obtain ⟨_,d,h2,_⟩:=h;unfold zu at hk;cases Ql:kP X (bw o.dst) o.op with
   | v=>exact (qhI Ql h2).1
   | r=>exact (qhJ (T2:=T k) Ql h2 (fun _ _ _ _ _ _ _=>rfl)).1
   | e=>simp [Ql] at hk
   | m=>simp [Ql] at hk
  ·exact h.2.1
 have hmem:∀ (a b:Nat),a≤b→b≤ops.size→(∀ i o,ops[i]? = some o→zu X (bw o.dst) o.op = true→¬ (a≤i∧i < b))→T b = T a:=by
  intro a b hab
  induction b with
  | zero=>intro _ _;have:a = 0:=by omega
          subst this;rfl
  | succ b ih =>
   intro hb zE;by_cases hab':a = b+1
   ·rw [hab']
   ·have qg:b < ops.size:=(by omega);have ho:=Array.getElem?_eq_getElem qg;rw [← ih (by omega) (by omega) (fun i o hi hd h=>zE i o hi hd ⟨h.1,by omega⟩)];refine hnoK b _ ho ?_;cases hk:zu X (bw ops[b].dst) ops[b].op with
    | false=>rfl
    | true=>exact absurd ⟨by omega,by omega⟩ (zE b _ ho hk)
 have hread:∀ (q a b:Nat),a≤b→b≤ops.size→q < (T a).length →
   (∀ i o,ops[i]? = some o→kP X (bw o.dst) o.op = .m→jc ops (E i) o.guard = some true→a≤i→i < b→(T i).length≤(T (i+1)).length∧qo (T (i+1)) q = qo (T i) q)→qo (T b) q = qo (T a) q∧q < (T b).length:=by
  intro q a b hab
  induction b with
  | zero=>intro _ hq _;have:a = 0:=by omega
          subst this;exact ⟨rfl,hq⟩
  | succ b ih =>
   intro hb hq zE;by_cases hab':a = b+1
   ·subst hab';exact ⟨rfl,hq⟩
   ·have qg:b < ops.size:=(by omega);have ho:=Array.getElem?_eq_getElem qg;obtain ⟨h1,h2⟩:=ih (by omega) (by omega) hq (fun i o hi hd hg h3 h4=>zE i o hi hd hg h3 (by omega));cases Ql:kP X (bw ops[b].dst) ops[b].op with
    | v=>rw [hnoK b _ ho (by simp only [zu,Ql])];exact ⟨h1,h2⟩
    | r=>rw [hnoK b _ ho (by simp only [zu,Ql])];exact ⟨h1,h2⟩
    | m =>
     obtain ⟨_,h | h⟩:=hstep' b _ ho
     ·obtain ⟨k1,k2⟩:=zE b _ ho Ql h.1 (by omega) (by omega);exact ⟨k2.trans h1,by omega⟩
     ·rw [h.2.1];exact ⟨h1,h2⟩
    | e =>
     obtain ⟨_,h | h⟩:=hstep' b _ ho
     ·obtain ⟨_,d,h3,_⟩:=h;obtain ⟨M,hM⟩:=qp7 Ql h3;rw [hM,Xn h2];exact ⟨h1,by simp;omega⟩
     ·rw [h.2.1];exact ⟨h1,h2⟩
 have halK:∀ i,al = some i→∃ o,ops[i]? = some o∧kP X (bw o.dst) o.op = .e:=by
  intro i zn;obtain ⟨o,ty,t,g1,g2,-,-,-⟩:=hD.alo i zn;refine ⟨o,g1,?_⟩;rw [g2];cases bw o.dst <;> rfl
 let Pend:Array Bool→Act→World→Nat→qx→(Nat→Prop)→Prop:=fun listed a1 w1 m ι1 ok1=>∃ (i:Nat) (o:Oper) (t:Nat) (b:Nat) (arr:Array Value) (ty:TypeId) (fr:Nat × Nat) (cs:List D),al = some i∧ops[i]? = some o∧o.dst = some t∧m≤i ∧
  T (i+1) = jV (T i) cs∧E (i+1) = jH (E i) (some t) (.optr (T i).length cs.length 0)∧t < a1.tmps.size∧a1.tmps.getD t undef = .pointer (some ⟨b,0,none⟩)∧w1.heap[b]? = some (.cells arr ty fr)∧¬ ok1 b∧(∀ q es s,qo (T m) q = some es→ι1 q≠some (b,s))∧w.heap.size≤b ∧
  cs.length≤arr.size∧(fr.1 = fr.2∨arr.size≤fr.1)∧(∀ j,j < arr.size→(arr.getD j undef).oneCell' = true)∧(∀ d,d∈cs→zC d = true)∧(∀ (ok:Nat→Prop) (w:World) (ι:qx) (H:qi) (j:Nat) d,cs[j]? = some d→Rep ok w ι H d (arr.getD j undef)) ∧
  ∀ k y,ops[k]? = some y→k≠i→t∈QM ops y→listed.getD k false = false
 have main:∀ (fuel:Nat) (listed:Array Bool) (a1:Act) (w1:World) (m:Nat) (ι1:qx) (ok1:Nat→Prop) (pend:Bool),listed.size = ops.size →
   ((List.range ops.size).filter fun i=>!listed.getD i false).length≤fuel →
   (∀ i o,ops[i]? = some o→listed.getD i false = true→XQ (fun k=>listed.getD k false = true) o) →
   m≤ops.size→(∀ i o,ops[i]? = some o→zu X (bw o.dst) o.op = true→al≠some i→(listed.getD i false = true↔i < m))→(∀ i,al = some i→(listed.getD i false = true↔(i < m∨pend = true)))→(pend = true→Pend listed a1 w1 m ι1 ok1) →
   Sim X ok1 w1 ι1 (T m)→Evol H.length ok w ι H ok1 w1 ι1 (T m)→a1.tmps.size = a.tmps.size→a1.defers = a.defers →
   (∀ t k,k≤ops.size→(∀ i o,ops[i]? = some o→o.dst = some t→(listed.getD i false = true↔i < k))→(pend = true→∀ i o,al = some i→ops[i]? = some o→o.dst≠some t)→∀ d,qf (E k) t = some d→t < a1.tmps.size∧Rep ok1 w1 ι1 (T m) d (a1.tmps.getD t undef)) →
   wpAny X.P .any ops Q fuel listed a1 w1:=by
  have absorb:∀ (listed:Array Bool) (a1:Act) (w1:World) (m:Nat) (ι1:qx) (ok1:Nat→Prop) (pend:Bool),
   m≤ops.size→(∀ i o,ops[i]? = some o→zu X (bw o.dst) o.op = true→al≠some i→(listed.getD i false = true↔i < m))→(∀ i,al = some i→(listed.getD i false = true↔(i < m∨pend = true)))→(pend = true→Pend listed a1 w1 m ι1 ok1) →
   Sim X ok1 w1 ι1 (T m)→Evol H.length ok w ι H ok1 w1 ι1 (T m)→a1.tmps.size = a.tmps.size→a1.defers = a.defers →
   (∀ t k,k≤ops.size→(∀ i o,ops[i]? = some o→o.dst = some t→(listed.getD i false = true↔i < k))→(pend = true→∀ i o,al = some i→ops[i]? = some o→o.dst≠some t)→∀ d,qf (E k) t = some d→t < a1.tmps.size∧Rep ok1 w1 ι1 (T m) d (a1.tmps.getD t undef)) →
   (∀ i o k,al = some k→ops[i]? = some o→zu X (bw o.dst) o.op = true→i < k→listed.getD i false = true) →
   ∃ (m2:Nat) (ι2:qx),m2≤ops.size∧(∀ i o,ops[i]? = some o→zu X (bw o.dst) o.op = true→(listed.getD i false = true↔i < m2))∧Sim X ok1 w1 ι2 (T m2)∧Evol H.length ok w ι H ok1 w1 ι2 (T m2) ∧
    (∀ t k,k≤ops.size→(∀ i o,ops[i]? = some o→o.dst = some t→(listed.getD i false = true↔i < k))→∀ d,qf (E k) t = some d→t < a1.tmps.size∧Rep ok1 w1 ι2 (T m2) d (a1.tmps.getD t undef)):=by
   intro listed a1 w1 m ι1 ok1 pend hm hK hJ hP hsim hevol h1 h2 hslots jE;cases pend with
   | false =>
    refine ⟨m,ι1,hm,fun i o ho hk=>?_,hsim,hevol,fun t k hk hag d hd=>hslots t k hk hag (fun h=>by cases h) d hd⟩;by_cases zn:al = some i
    ·have:=hJ i zn;simpa using this
    ·exact hK i o ho hk zn
   | true =>
    obtain ⟨j0,o,t0,b,arr,ty,fr,cs,p1,p2,p3,p4,p5,p6,p7,p8,p9,p10,p11,p12,p13,p14,p15,p16,p17,p18⟩:=hP rfl;have hj0:=(Array.getElem?_eq_some_iff.1 p2).1
    have hTm:T j0 = T m:=hmem m j0 p4 (by omega) fun i x hx hk hi=>by
     have qr:al≠some i:=(by rw [p1];intro h;injection h with h;omega);have:=(hK i x hx hk qr).1 (jE i x j0 p1 hx hk hi.2);omega
    obtain ⟨ι2,s1,s2,s3,s4⟩:=ql6 (ds:=cs) hsim p9 p10 p11 p13 p14 p15 p16 (fun j d hj=>p17 _ _ _ _ j d hj);have hT2:T (j0+1) = jV (T m) cs:=(by rw [p5,hTm]);rw [hTm] at p6;refine ⟨j0+1,ι2,by omega,fun i x hx hk=>?_,by rw [hT2];exact s1,by rw [hT2];exact s4 _ _ _ _ _ hevol p12,fun t k hk hag d hd=>?_⟩
    ·by_cases zn:al = some i
     ·have:i = j0:=(by rw [p1] at zn;injection zn with h;exact h.symm);subst this;exact ⟨fun _=>Nat.lt_succ_self _,fun _=>(hJ i zn).2 (.inr rfl)⟩
     ·have qr:i≠j0:=fun h=>zn (by rw [h];exact p1);have h3:=hK i x hx hk zn;exact ⟨fun hl=>by have:=h3.1 hl;omega,fun qg=>jE i x j0 p1 hx hk (by omega)⟩
    ·rw [hT2];by_cases ht:t0 = t
     ·subst ht;have hjk:j0 < k:=(hag j0 o p2 p3).1 ((hJ j0 p1).2 (.inr rfl))
      have hl:=hslot t0 (j0+1) k (by omega) hk fun i x hx vl hik=>by
       have:=p18 i x hx (by omega) (by simp [QM,vl]);rw [(hag i x hx vl).2 hik.2] at this;cases this
      rw [hl,p6,qbt,if_pos rfl] at hd;injection hd with hd;subst hd;refine ⟨p7,?_⟩;rw [p8];refine .optr _ (by rw [ZF];omega) fun ds hds=>?_;rw [Vr] at hds;injection hds with hds;subst hds;exact ⟨Nat.le_refl _,fun _=>⟨_,_,s2,rfl⟩⟩
     ·obtain ⟨q1,q2⟩:=hslots t k hk hag (fun _ i x zn hx=>by
       have:i = j0:=(by rw [p1] at zn;injection zn with h;exact h.symm);subst this;rw [p2] at hx;injection hx with hx;subst hx;rw [p3];intro h;injection h with h;exact ht h) d hd
      exact ⟨q1,s3 _ _ q2⟩
  have fin:∀ (listed:Array Bool) (a1:Act) (w1:World) (m:Nat) (ι1:qx) (ok1:Nat→Prop),(∀ i,i < ops.size→listed.getD i false = true)→m≤ops.size →
    (∀ i o,ops[i]? = some o→zu X (bw o.dst) o.op = true→(listed.getD i false = true↔i < m)) →
    Sim X ok1 w1 ι1 (T m)→Evol H.length ok w ι H ok1 w1 ι1 (T m)→a1.tmps.size = a.tmps.size→a1.defers = a.defers →
    (∀ t k,k≤ops.size→(∀ i o,ops[i]? = some o→o.dst = some t→(listed.getD i false = true↔i < k))→∀ d,qf (E k) t = some d→t < a1.tmps.size∧Rep ok1 w1 ι1 (T m) d (a1.tmps.getD t undef))→Q .normal a1 w1:=by
   intro listed a1 w1 m ι1 ok1 jE hm hK hsim hevol h1 h2 hslots
   have hT:T ops.size = T m:=hmem m ops.size hm (Nat.le_refl _) (fun i o ho hk h=>by
    have:=(hK i o ho hk).1 (jE i h.2);omega)
   rw [hTn'] at hT;rw [← hT] at hsim hevol hslots;refine hQ a1 w1 ⟨h1,h2,ι1,ok1,hsim,fun t d ht=>?_,hevol⟩;rw [← hEn'] at ht;exact hslots t ops.size (Nat.le_refl _) (fun i o ho _=>⟨fun _=>(Array.getElem?_eq_some_iff.1 ho).1,fun h=>jE i h⟩) d ht
  have finA:∀ (listed:Array Bool) (a1:Act) (w1:World) (m:Nat) (ι1:qx) (ok1:Nat→Prop) (pend:Bool),(∀ i,i < ops.size→listed.getD i false = true) →
   m≤ops.size→(∀ i o,ops[i]? = some o→zu X (bw o.dst) o.op = true→al≠some i→(listed.getD i false = true↔i < m))→(∀ i,al = some i→(listed.getD i false = true↔(i < m∨pend = true)))→(pend = true→Pend listed a1 w1 m ι1 ok1) →
   Sim X ok1 w1 ι1 (T m)→Evol H.length ok w ι H ok1 w1 ι1 (T m)→a1.tmps.size = a.tmps.size→a1.defers = a.defers →
   (∀ t k,k≤ops.size→(∀ i o,ops[i]? = some o→o.dst = some t→(listed.getD i false = true↔i < k))→(pend = true→∀ i o,al = some i→ops[i]? = some o→o.dst≠some t)→∀ d,qf (E k) t = some d→t < a1.tmps.size∧Rep ok1 w1 ι1 (T m) d (a1.tmps.getD t undef)) →
   Q .normal a1 w1:=by
   intro listed a1 w1 m ι1 ok1 pend jE hm hK hJ hP hsim hevol h1 h2 hslots;obtain ⟨m2,ι2,q1,q2,q3,q4,q5⟩:=absorb listed a1 w1 m ι1 ok1 pend hm hK hJ hP hsim hevol h1 h2 hslots (fun i o k _ ho _ _=>jE i (Array.getElem?_eq_some_iff.1 ho).1);exact fin listed a1 w1 m2 ι2 ok1 jE q1 q2 q3 q4 h1 h2 q5
  intro fuel
  induction fuel with
  | zero =>
   intro listed a1 w1 m ι1 ok1 pend qU hcnt ji hm hK hJ hP hsim hevol h1 h2 hslots
   have jE:∀ i,i < ops.size→listed.getD i false = true:=by
    intro i hi;cases hl:listed.getD i false with
    | true=>rfl
    | false =>
     have:i∈(List.range ops.size).filter fun i=>!listed.getD i false:=by
      rw [List.mem_filter];exact ⟨List.mem_range.2 hi,by simp only [hl];rfl⟩
     have qr:=List.length_pos_of_mem this;omega
   refine ⟨?_,finA listed a1 w1 m ι1 ok1 pend jE hm hK hJ hP hsim hevol h1 h2 hslots⟩;unfold Region.ready;rw [List.filter_eq_nil_iff];intro i hi;have qg:=List.mem_range.1 hi;have:=jE i qg
   have h3:listed.getD i true = true:=by
    rw [Array.getD_eq_getD_getElem?,Array.getElem?_eq_getElem (by omega)] at this ⊢;exact this
   simp [h3]
  | succ fuel ih =>
   intro listed a1 w1 m0 ι0 ok1 pend0 qU hcnt ji hm0 hK0 hJ0 hP0 hsim0 hevol0 h1 h2 hslots0
   obtain ⟨m,ι1,pend,hm,hK,hJ,hP,hsim,hevol,hslots,hwait⟩:∃ (m:Nat) (ι1:qx) (pend:Bool),m≤ops.size∧(∀ i o,ops[i]? = some o→zu X (bw o.dst) o.op = true→al≠some i→(listed.getD i false = true↔i < m))∧(∀ i,al = some i→(listed.getD i false = true↔(i < m∨pend = true)))∧(pend = true→Pend listed a1 w1 m ι1 ok1) ∧
     Sim X ok1 w1 ι1 (T m)∧Evol H.length ok w ι H ok1 w1 ι1 (T m) ∧
     (∀ t k,k≤ops.size→(∀ i o,ops[i]? = some o→o.dst = some t→(listed.getD i false = true↔i < k))→(pend = true→∀ i o,al = some i→ops[i]? = some o→o.dst≠some t)→∀ d,qf (E k) t = some d→t < a1.tmps.size∧Rep ok1 w1 ι1 (T m) d (a1.tmps.getD t undef)) ∧
     (pend = true→∃ i o k,al = some k∧ops[i]? = some o∧zu X (bw o.dst) o.op = true∧i < k∧listed.getD i false = false):=by
    by_cases jE:∀ i o k,al = some k→ops[i]? = some o→zu X (bw o.dst) o.op = true→i < k→listed.getD i false = true
    ·obtain ⟨m2,ι2,q1,q2,q3,q4,q5⟩:=absorb listed a1 w1 m0 ι0 ok1 pend0 hm0 hK0 hJ0 hP0 hsim0 hevol0 h1 h2 hslots0 jE;refine ⟨m2,ι2,false,q1,fun i o ho hk _=>q2 i o ho hk,fun i zn=>?_,(fun h=>by cases h),q3,q4,fun t k hk hag _ d hd=>q5 t k hk hag d hd,(fun h=>by cases h)⟩;obtain ⟨o,g1,g2⟩:=halK i zn;simpa using q2 i o g1 (by simp only [zu,g2])
    ·refine ⟨m0,ι0,pend0,hm0,hK0,hJ0,hP0,hsim0,hevol0,hslots0,fun _=>?_⟩;simp only [Classical.not_forall] at jE;obtain ⟨i,o,k,g1,g2,g3,g4,g5⟩:=jE;exact ⟨i,o,k,g1,g2,g3,g4,by simpa using g5⟩
   have hready:∀ j,j∈Region.ready .any ops listed↔∃ o,ops[j]? = some o∧listed.getD j false = false∧XQ (fun k=>listed.getD k false = true) o:=by
    intro j;unfold Region.ready;rw [List.mem_filter];constructor
    ·rintro ⟨hj,hc⟩;have qg:=List.mem_range.1 hj;simp only [Array.getElem?_eq_getElem qg,Option.map_some,Option.getD_some,Bool.and_eq_true,Bool.not_eq_true'] at hc;refine ⟨_,Array.getElem?_eq_getElem qg,?_,?_⟩
     ·rw [Array.getD_eq_getD_getElem?,Array.getElem?_eq_getElem (by omega)] at hc ⊢;exact hc.1
     ·intro e he hb;have:=Array.all_eq_true'.1 hc.2 e (by simpa using he);simpa [hb] using this
    ·rintro ⟨o,ho,hl,hed⟩;have qg:=(Array.getElem?_eq_some_iff.1 ho).1;refine ⟨List.mem_range.2 qg,?_⟩;simp only [ho,Option.map_some,Option.getD_some,Bool.and_eq_true,Bool.not_eq_true'];refine ⟨?_,?_⟩
     ·rw [Array.getD_eq_getD_getElem?,Array.getElem?_eq_getElem (by omega)] at hl ⊢;exact hl
     ·rw [Array.all_eq_true'];intro e he;cases hb:Region.binds .any e with
      | false=>simp
      | true=>simpa [hb] using hed e (by simpa using he) hb
   refine ⟨fun qJ=>?_,fun j hj=>?_⟩
   ·refine finA listed a1 w1 m ι1 ok1 pend ?_ hm hK hJ hP hsim hevol h1 h2 hslots;intro i
    induction i using Nat.strongRecOn with
    | _ i ihi =>
     intro hi;cases hl:listed.getD i false with
     | true=>rfl
     | false =>
      have ho:=Array.getElem?_eq_getElem hi
      have:i∈Region.ready .any ops listed:=(hready i).2 ⟨_,ho,hl,fun e he hb=>by
       have qg:=hD.edge i _ ho e he hb;exact ihi e.on qg (by omega)⟩
      rw [qJ] at this;simp at this
   ·obtain ⟨o,ho,hunl,hed⟩:=(hready j).1 hj;have hjn:=(Array.getElem?_eq_some_iff.1 ho).1
    have hbef:∀ i x,ops[i]? = some x→i < j→Z1 X bw L al ops i x j o = true→listed.getD i false = true:=fun i x hx zQ hc =>
     qe9 (S:=fun k=>listed.getD k false = true) ji ho hed (hD.ord i j x o hx ho zQ hc)
    have haft:∀ i x,ops[i]? = some x→j < i→Z1 X bw L al ops j o i x = true→listed.getD i false = false:=by
     intro i x hx zQ hc;cases hl:listed.getD i false with
     | false=>rfl
     | true =>
      have:=qe9 (S:=fun k=>listed.getD k false = true) ji hx (ji i x hx hl) (hD.ord j i o x ho hx zQ hc);rw [hunl] at this;cases this
    have hagree:∀ i x,ops[i]? = some x→(i≠j→Z1 X bw L al ops i x j o = true)→(listed.getD i false = true↔i < j):=by
     intro i x hx hc;rcases Nat.lt_trichotomy i j with h | h | h
     ·exact ⟨fun _=>h,fun _=>hbef i x hx h (hc (by omega))⟩
     ·subst h;exact ⟨fun h=>(by rw [hunl] at h;cases h),fun h=>(by omega)⟩
     ·exact ⟨fun hl=>(by rw [haft i x hx h (qv0 (hc (by omega)))] at hl;cases hl),fun h=>(by omega)⟩
    have hnp:pend = true→al≠some j:=by
     intro hp hj;have:=(hJ j hj).2 (.inr hp);rw [hunl] at this;cases this
    have hnt0:pend = true→∀ i y,al = some i→ops[i]? = some y→∀ t,y.dst = some t→t ∉ QM ops o:=by
     intro hp i y zn hy t hyt ht;obtain ⟨y',ty,t',g1,g2,g3,g4,g5⟩:=hD.alo i zn;rw [hy] at g1;injection g1 with g1;subst g1;rw [hyt] at g3;injection g3 with g3;subst g3;have qr:j≠i:=fun h=>hnp hp (by rw [h];exact zn);obtain ⟨q,x,k,u1,u2,u3,u4,u5⟩:=hwait hp;have vi:k = i:=(by rw [zn] at u1;injection u1 with u1;exact u1.symm);subst vi;have:=qe9 (S:=fun k=>listed.getD k false = true) ji ho hed ((g5 j o ho qr ht).2 q x u2 u4 u3);rw [u5] at this;cases this
    have hnames:∀ t,t∈QM ops o→∀ d,qf (E j) t = some d→t < a1.tmps.size∧Rep ok1 w1 ι1 (T m) d (a1.tmps.getD t undef):=by
     intro t ht d hd;refine hslots t j (by omega) (fun i x hx vl=>hagree i x hx (fun _=>?_)) (fun hp i y zn hy hyt=>hnt0 hp i y zn hy t hyt ht) d hd;unfold Z1;simp only [vl,Option.any_some,Bool.or_eq_true];exact .inl (.inl (.inl (.inl (by simpa using ht))))
    have hset:∀ i,(listed.setIfInBounds j true).getD i false = if i = j then true else listed.getD i false:=by
     intro i;rw [Array.getD_eq_getD_getElem?,Array.getD_eq_getD_getElem?];by_cases zQ:i = j
     ·subst zQ;simp [show i < listed.size by omega]
     ·rw [Array.getElem?_setIfInBounds_ne (Ne.symm zQ),if_neg zQ]
    have htmp:∀ (v:Value) t,o.dst≠some t→(a1.put o.dst v).tmps.getD t undef = a1.tmps.getD t undef:=by
     intro v t ht;cases hod:o.dst with
     | none=>rfl
     | some s =>
      have:s≠t:=fun e=>ht (by rw [hod,e]);simp only [Act.put,Array.getD_eq_getD_getElem?];rw [Array.getElem?_setIfInBounds_ne this]
    have hPk:∀ (v:Value) (w2:World) (ι2:qx) (ok2:Nat→Prop) (m':Nat),Evol (T m).length ok1 w1 ι1 (T m) ok2 w2 ι2 (T m')→(∀ i,al = some i→pend = true→m'≤i)→pend = true→Pend (listed.setIfInBounds j true) (a1.put o.dst v) w2 m' ι2 ok2:=by
     intro v w2 ι2 ok2 m' hev2 hmi hp;obtain ⟨j0,y,t0,b,arr,ty,fr,cs,p1,p2,p3,p4,p5,p6,p7,p8,p9,p10,p11,p12,p13,p14,p15,p16,p17,p18⟩:=hP hp;have zE:=hnt0 hp j0 y p1 p2 t0 p3;have hdn:o.dst≠some t0:=fun h=>zE (by simp [QM,h]);have hblt:b < w1.heap.size:=(Array.getElem?_eq_some_iff.1 p9).1;refine ⟨j0,y,t0,b,arr,ty,fr,cs,p1,p2,p3,hmi j0 p1 hp,p5,p6,by rw [(KZ a1 o.dst v).1];exact p7,by rw [htmp v t0 hdn];exact p8,by rw [hev2.frame b hblt p11];exact p9,fun h=>?_,fun q es s hq h=>?_,p12,p13,p14,p15,p16,p17,fun k z hz hk hn=>?_⟩
     ·rcases hev2.okN b h hblt with h | ⟨i,ds,s,g1,g2⟩
      ·exact p10 h
      ·exact p11 i ds s g1 g2
     ·obtain ⟨q',ds,s',g1,g2⟩:=hev2.own q es b s hq h hblt;exact p11 _ _ _ g1 g2
     ·rw [hset]
      have hkj:k≠j:=by
       rintro rfl;rw [ho] at hz;injection hz with hz;subst hz;exact zE hn
      rw [if_neg hkj];exact p18 k z hz hk hn
    have finish:∀ (d:D) (v:Value) (w2:World) (ι2:qx) (ok2:Nat→Prop) (m':Nat) (pend':Bool),(pend = true→pend' = true)→E (j+1) = jH (E j) o.dst d→jQ nt o.dst = true→Sim X ok2 w2 ι2 (T m')→((al = some j→pend' = false)→Rep ok2 w2 ι2 (T m') d v) →
      Evol (T m).length ok1 w1 ι1 (T m) ok2 w2 ι2 (T m')→m'≤ops.size→(∀ i x,ops[i]? = some x→zu X (bw x.dst) x.op = true→al≠some i→((listed.setIfInBounds j true).getD i false = true↔i < m')) →
      (∀ i,al = some i→((listed.setIfInBounds j true).getD i false = true↔(i < m'∨pend' = true)))→(pend' = true→Pend (listed.setIfInBounds j true) (a1.put o.dst v) w2 m' ι2 ok2) →
      wpAny X.P .any ops Q fuel (listed.setIfInBounds j true) (a1.put o.dst v) w2:=by
     intro d v w2 ι2 ok2 m' pend' hpm hE vl hsim2 hrep hev2 hm' hK' hJ' hP'
     have hset':∀ i,(listed.setIfInBounds j true).getD i false = if i = j then true else listed.getD i false:=by
      intro i;rw [Array.getD_eq_getD_getElem?,Array.getD_eq_getD_getElem?];by_cases zQ:i = j
      ·subst zQ;simp [show i < listed.size by omega]
      ·rw [Array.getElem?_setIfInBounds_ne (Ne.symm zQ),if_neg zQ]
     obtain ⟨p1,p2⟩:=KZ a1 o.dst v;refine ih _ _ w2 m' ι2 ok2 pend' (by simpa using qU) ?_ ?_ hm' hK' hJ' hP' hsim2 (hevol.trans (hev2.mono hevol.nle.2)) (by omega) (by rw [p2,h2]) ?_
     ·have qg:((List.range ops.size).filter fun i=>!(listed.setIfInBounds j true).getD i false).length < ((List.range ops.size).filter fun i=>!listed.getD i false).length:=by
       have hcong:((List.range ops.size).filter fun i=>!(listed.setIfInBounds j true).getD i false) = (((List.range ops.size).filter fun i=>!listed.getD i false).filter fun i=>decide (i≠j)):=by
        rw [List.filter_filter];apply List.filter_congr;intro i _;rw [hset i];by_cases zQ:i = j <;> simp [zQ]
       rw [hcong];refine List.length_filter_lt_length_iff_exists.2 ⟨j,?_,by simp⟩;rw [List.mem_filter];exact ⟨List.mem_range.2 hjn,by simp only [hunl];rfl⟩
      omega
     ·intro i x hx hl e he hb;show (listed.setIfInBounds j true).getD e.on false = true;rw [hset] at hl ⊢;by_cases heo:e.on = j
      ·rw [if_pos heo]
      ·rw [if_neg heo];by_cases zQ:i = j
       ·subst zQ;rw [ho] at hx;injection hx with hx;subst hx;exact hed e he hb
       ·rw [if_neg zQ] at hl;exact ji i x hx hl e he hb
     ·intro t k hk hag hex d' za;by_cases ht:o.dst = some t
      ·have hjk:j < k:=(hag j o ho ht).1 (by rw [hset,if_pos rfl])
       have hl:=hslot t (j+1) k (by omega) hk (fun i x hx vl hik=>by
        have h3:=(hag i x hx vl).2 hik.2;rw [hset,if_neg (by omega)] at h3
        have h4:=haft i x hx (by omega) (by
         unfold Z1;simp only [ht,Option.any_some,Bool.or_eq_true];exact .inl (.inl (.inl (.inl (by simp [QM,vl])))))
        rw [h4] at h3;cases h3)
       rw [hl,hE,qbt,if_pos ht] at za;injection za with za;subst za;rw [ht] at vl ⊢;have qg:t < nt:=(by simpa [jQ] using vl);have ki:t < a1.tmps.size:=Nat.lt_of_lt_of_le qg (by omega);refine ⟨by simpa [Act.put] using ki,?_⟩
       have hrep:=hrep fun hj=>by
        cases hp':pend' with
        | false=>rfl
        | true=>exact absurd ht (hex hp' j o hj ho)
       simpa [Act.put,ki,Array.getD_eq_getD_getElem?] using hrep
      ·have hold:=hslots t k hk (fun i x hx vl=>by
        have h3:=hag i x hx vl
        have zQ:i≠j:=by
         rintro rfl;rw [ho] at hx;injection hx with hx;subst hx;exact ht vl
        rwa [hset,if_neg zQ] at h3) (fun hp=>hex (hpm hp)) d' za
       refine ⟨by have h:=hold.1;rw [p1];exact h,?_⟩
       have htm:(a1.put o.dst v).tmps.getD t undef = a1.tmps.getD t undef:=by
        cases hod:o.dst with
        | none=>rfl
        | some s =>
         have:s≠t:=fun e=>ht (by rw [hod,e]);simp only [Act.put,Array.getD_eq_getD_getElem?];rw [Array.getElem?_setIfInBounds_ne this]
       rw [htm];exact hold.2.evol hsim hev2 hold.2.closed
    have hK1:zu X (bw o.dst) o.op = false→∀ i x,ops[i]? = some x→zu X (bw x.dst) x.op = true→al≠some i→((listed.setIfInBounds j true).getD i false = true↔i < m):=by
     intro hk i x hx kC zn
     have zQ:i≠j:=by
      rintro rfl;rw [ho] at hx;injection hx with hx;subst hx;rw [hk] at kC;cases kC
     rw [hset,if_neg zQ];exact hK i x hx kC zn
    have hJ1:zu X (bw o.dst) o.op = false→∀ i,al = some i→((listed.setIfInBounds j true).getD i false = true↔(i < m∨pend = true)):=by
     intro hk i zn
     have zQ:i≠j:=by
      rintro rfl;obtain ⟨x,g1,g2⟩:=halK i zn;rw [ho] at g1;injection g1 with g1;subst g1;simp only [zu,g2] at hk;cases hk
     rw [hset,if_neg zQ];exact hJ i zn
    have zH:∀ i,al = some i→pend = true→m≤i:=by
     intro i zn hp;obtain ⟨j0,y,t0,b,arr,ty,fr,cs,p1,p2,p3,p4,-⟩:=hP hp;rw [zn] at p1;injection p1 with p1;omega
    have hKj:zu X (bw o.dst) o.op = true→(al = some j→∀ i x,ops[i]? = some x→zu X (bw x.dst) x.op = true→i < j→listed.getD i false = true) →
      ∀ i x,ops[i]? = some x→zu X (bw x.dst) x.op = true→(i < m↔i < j)∧(al≠some i→(listed.getD i false = true↔i < j)):=by
     intro hk km i x hx kC
     have hord:al≠some i→(listed.getD i false = true↔i < j):=by
      intro zn;by_cases haj:al = some j
      ·rcases Nat.lt_trichotomy i j with h | h | h
       ·exact ⟨fun _=>h,fun _=>km haj i x hx kC h⟩
       ·subst h;exact absurd haj zn
       ·have hc:Z1 X bw L al ops j o i x = true:=qbX hk kC (by rw [Nat.max_eq_right (by omega)];exact zn);exact ⟨fun hl=>(by rw [haft i x hx h hc] at hl;cases hl),fun h=>(by omega)⟩
      ·refine hagree i x hx fun _=>qbX kC hk ?_;rcases Nat.le_total i j with h | h
       ·rw [Nat.max_eq_right h];exact haj
       ·rw [Nat.max_eq_left h];exact zn
     refine ⟨?_,hord⟩;by_cases zn:al = some i
     ·by_cases zQ:i = j
      ·subst zQ
       have:¬ i < m:=fun h=>by
        have:=(hJ i zn).2 (.inl h);rw [hunl] at this;cases this
       exact ⟨fun h=>absurd h this,fun h=>absurd h (Nat.lt_irrefl _)⟩
      ·have haj:al≠some j:=fun h=>by rw [zn] at h;injection h with h;exact zQ h
       have hjm:¬ j < m:=fun h=>by
        have:=(hK j o ho hk haj).2 h;rw [hunl] at this;cases this
       have qg:i < j→listed.getD i false = true:=fun h=>hbef i x hx h (qbX kC hk (by rw [Nat.max_eq_right (by omega)];exact haj));cases hp:pend with
       | false =>
        have h3:=hJ i zn;rw [hp] at h3;simp only [Bool.false_eq_true,or_false] at h3;refine ⟨fun h=>by omega,fun h=>h3.1 (qg h)⟩
       | true =>
        have h4:=zH i zn hp;obtain ⟨q,z,k,u1,u2,u3,u4,u5⟩:=hwait hp;have vi:k = i:=(by rw [zn] at u1;injection u1 with u1;exact u1.symm);subst vi;refine ⟨fun h=>by omega,fun h=>?_⟩;have hc:Z1 X bw L al ops q z j o = true:=qbX u3 hk (by rw [Nat.max_eq_right (by omega)];exact haj);have:=hbef q z u2 (by omega) hc;rw [u5] at this;cases this
     ·exact (hK i x hx kC zn).symm.trans (hord zn)
    have hK2:zu X (bw o.dst) o.op = true→(al = some j→∀ i x,ops[i]? = some x→zu X (bw x.dst) x.op = true→i < j→listed.getD i false = true)→∀ i x,ops[i]? = some x→zu X (bw x.dst) x.op = true→al≠some i→((listed.setIfInBounds j true).getD i false = true↔i < j+1):=by
     intro hk km i x hx kC zn;rw [hset];by_cases zQ:i = j
     ·subst zQ;simp
     ·rw [if_neg zQ,(hKj hk km i x hx kC).2 zn];omega
    have hJ2:zu X (bw o.dst) o.op = true→(al = some j→∀ i x,ops[i]? = some x→zu X (bw x.dst) x.op = true→i < j→listed.getD i false = true)→∀ i,al = some i→((listed.setIfInBounds j true).getD i false = true↔(i < j+1∨pend = true)):=by
     intro hk km i zn;rw [hset];by_cases zQ:i = j
     ·subst zQ;simp
     ·obtain ⟨x,g1,g2⟩:=halK i zn;have h3:=(hKj hk km i x g1 (by simp only [zu,g2])).1;rw [if_neg zQ,hJ i zn];constructor
      ·rintro (h | h)
       ·exact .inl (by omega)
       ·exact .inr h
      ·rintro (h | h)
       ·exact .inl (by omega)
       ·exact .inr h
    have zj:zu X (bw o.dst) o.op = true→∀ i,al = some i→pend = true→j+1≤i:=by
     intro hk i zn hp;have haj:=hnp hp;have zQ:i≠j:=fun h=>haj (by rw [← h];exact zn);obtain ⟨x,g1,g2⟩:=halK i zn;have h3:=(hKj hk (fun h=>absurd h haj) i x g1 (by simp only [zu,g2])).1;have:=zH i zn hp;omega
    have hTK:zu X (bw o.dst) o.op = true→(al = some j→∀ i x,ops[i]? = some x→zu X (bw x.dst) x.op = true→i < j→listed.getD i false = true)→T m = T j:=by
     intro hk km;have hmj:∀ i x,ops[i]? = some x→zu X (bw x.dst) x.op = true→(i < m↔i < j):=fun i x hx kC=>(hKj hk km i x hx kC).1;rcases Nat.le_total m j with h | h
     ·exact (hmem m j h (by omega) (fun i x hx kC hi=>by have:=(hmj i x hx kC).2 hi.2;omega)).symm
     ·exact hmem j m h hm (fun i x hx kC hi=>by have:=(hmj i x hx kC).1 hi.2;omega)
    unfold wpOp;simp only [ho];obtain ⟨vl,hcase⟩:=hstep' j o ho
    have hgn:∀ k want t,∀ o':Oper,o'.guard = some (k,want)→o' = o→(ops[k]?).bind (·.dst) = some t→t∈QM ops o:=by
     intro k want t o' hg he' hd;subst he';simp [QM,hg,hd]
    have hw:∀ b,jc ops (E j) o.guard = some b→Region.wanted o (yielded ops a1.tmps) = b:=by
     intro b hb;exact qeR (fun k want t hg hd d hl=>hnames t (hgn k want t o hg rfl hd) d hl) hb
    rcases hcase with ⟨hg,d,zP,hE⟩ | ⟨hg,hTj,hE⟩
    ·rw [if_pos (hw true hg)];refine .inl ?_;unfold Oper.wp
     have hopn:∀ x,x∈o.op.operands.toList→qH X (E j) x = qH X (V6 (QM ops o) (E j)) x:=fun x hx=>qop fun t ht=>(qbs (by
      simp only [QM,List.mem_append,List.mem_flatMap];exact .inl (.inr ⟨x,hx,ht⟩))).symm
     rw [quk hopn] at zP;have henv:EnvRep ok1 w1 ι1 (T m) (V6 (QM ops o) (E j)) a1.tmps:=fun t d ht=>hnames t (qbr ht).1 d (qbr ht).2
     have go:∀ m',qE X F (bw o.dst) o.op (V6 (QM ops o) (E j)) (T m) = some (d,T m')→m'≤ops.size→(∀ i x,ops[i]? = some x→zu X (bw x.dst) x.op = true→al≠some i→((listed.setIfInBounds j true).getD i false = true↔i < m')) →
       (∀ i,al = some i→((listed.setIfInBounds j true).getD i false = true↔(i < m'∨pend = true)))→(∀ i,al = some i→pend = true→m'≤i) →
       o.upon X.P a1 (wpAny X.P .any ops Q fuel (listed.setIfInBounds j true)) Q ((execOp a1.eval o).run X.P w1):=by
      intro m' hop' hm' hK' hJ' hmi;refine Goes.upon ((qdm hF hsim henv hop').mono fun v w2 hp=>?_);obtain ⟨ι2,ok2,q1,q2,q3⟩:=hp;exact finish d v w2 ι2 ok2 m' pend (fun h=>h) hE vl q1 (fun _=>q2) q3 hm' hK' hJ' (hPk v w2 ι2 ok2 m' q3 hmi)
     cases Ql:kP X (bw o.dst) o.op with
     | v=>exact go m ((qhI Ql zP).2 (T m)) hm (hK1 (by simp only [zu,Ql])) (hJ1 (by simp only [zu,Ql])) zH
     | r =>
      refine go m (qhJ Ql zP fun x hx p i hp hi qr=>?_).2 hm (hK1 (by simp only [zu,Ql])) (hJ1 (by simp only [zu,Ql])) zH
      have hMag:∀ i x,ops[i]? = some x→kP X (bw x.dst) x.op = .m→L.contains (i,j) = true∨(i < m↔i < j):=by
       intro i x hx kC;cases hc:L.contains (i,j) with
       | true=>exact .inl rfl
       | false =>
        have zn:al≠some i:=fun h=>by
         obtain ⟨z,g1,g2⟩:=halK i h;rw [hx] at g1;injection g1 with g1;subst g1;rw [kC] at g2;cases g2
        refine .inr ((hK i x hx (by simp only [zu,kC]) zn).symm.trans (hagree i x hx fun _=>?_));unfold Z1;simp only [kC,Ql,hc];simp
      have qg:i < (T m).length:=by
       have:=(jn hsim henv hp).closed;cases p <;> simp only [JI,reduceCtorEq,Option.some.injEq] at hi
       ·subst hi;simpa [closed] using this
       ·subst hi;simpa [closed] using this
      have hin:i∈vT (o.op.operands.toList.map (qH X (E j))):=qdw hi (by
       rw [← hp,← hopn x hx];exact List.mem_map_of_mem hx)
      have hwr:∀ i' x',ops[i']? = some x'→kP X (bw x'.dst) x'.op = .m→jc ops (E i') x'.guard = some true→L.contains (i',j) = true→(T i').length≤(T (i'+1)).length∧qo (T (i'+1)) i = qo (T i') i:=by
       intro i' x' hx' hkx' hgx' hc
       have hne':i'≠j:=by
        rintro rfl;rw [ho] at hx';injection hx' with hx';subst hx';rw [Ql] at hkx';cases hkx'
       obtain ⟨u1,u2⟩:=hTr i' j x' o hx' ho hc hne' hgx' hg;exact ⟨u1,u2 i hin⟩
      rcases Nat.le_total m j with h | h
      ·exact (hread i m j h (by omega) qg (fun i' x' hx' hkx' hgx' h1 h2=>by
        rcases hMag i' x' hx' hkx' with hc | hc
        ·exact hwr i' x' hx' hkx' hgx' hc
        ·omega)).1.symm
      ·have hltj:i < (T j).length:=by
        cases hgi:qo (T j) i with
        | none=>exact absurd hgi qr
        | some ds=>exact QO hgi
       exact (hread i j m h hm hltj (fun i' x' hx' hkx' hgx' h1 h2=>by
        rcases hMag i' x' hx' hkx' with hc | hc
        ·exact hwr i' x' hx' hkx' hgx' hc
        ·omega)).1
     | e =>
      have hk:zu X (bw o.dst) o.op = true:=(by simp only [zu,Ql]);by_cases km:al = some j→∀ i x,ops[i]? = some x→zu X (bw x.dst) x.op = true→i < j→listed.getD i false = true
      ·rw [← hTK hk km] at zP;exact go (j+1) zP (by omega) (hK2 hk km) (hJ2 hk km) (zj hk)
      ·have haj:al = some j:=Classical.byContradiction fun h=>km fun h2=>absurd h2 h
       have hpf:pend = false:=by
        cases hp:pend with
        | false=>rfl
        | true=>exact absurd haj (hnp hp)
       obtain ⟨o',ty,t0,g1,g2,g3,g4,g5⟩:=hD.alo j haj;rw [ho] at g1;injection g1 with g1;subst g1
       have hjm:¬ j < m:=fun h=>by
        have:=(hJ j haj).2 (.inl h);rw [hunl] at this;cases this
       have hev0:qE X F (bw o.dst) o.op (V6 (QM ops o) (E j)) (T j) = match (Ja X.P ty).bind cellsOf with
         | some cs=>some (.optr (T j).length cs.length 0,jV (T j) cs)
         | none=>none:=by
        rw [g2];cases bw o.dst <;> rfl
       rw [hev0] at zP;cases hz:(Ja X.P ty).bind cellsOf with
       | none=>rw [hz] at zP;cases zP
       | some cs =>
        rw [hz] at zP;injection zP with zP;injection zP with hd hT1;obtain ⟨arr,r1,r2,r3,r4,r5⟩:=qw4 hz w1;have hgr:=qlN (w':=w1.alloc (.cells arr ty)) hsim ⟨rfl,rfl,rfl⟩ (by simp) (fun c hc=>heap_alloc_old w1 _ hc);have qg:t0 < nt:=(by simpa [jQ,g3] using vl);have hrun:Goes X.P (execOp a1.eval o) w1 (fun v w2=>v = .pointer (some ⟨w1.heap.size,0,none⟩)∧w2 = w1.alloc (.cells arr ty)):=Goes.value (by simp [execOp,g2,r1]) ⟨rfl,rfl⟩;refine Goes.upon (hrun.mono fun v w2 hp=>?_);obtain ⟨rfl,rfl⟩:=hp;refine finish d _ _ ι1 ok1 m true (fun _=>rfl) hE vl hgr.1 (fun h=>by cases h haj) hgr.2 hm (fun i x hx kC zn=>?_) (fun i zn=>?_) (fun _=>?_)
        ·have zQ:i≠j:=fun h=>zn (by rw [h];exact haj);rw [hset,if_neg zQ];exact hK i x hx kC zn
        ·have zQ:i = j:=(by rw [haj] at zn;injection zn with h;exact h.symm);rw [hset,if_pos zQ];simp
        ·refine ⟨j,o,t0,w1.heap.size,arr,ty,(0,0),cs,haj,ho,g3,by omega,hT1.symm,by rw [hE,← hd,g3],by rw [(KZ a1 o.dst _).1];exact Nat.lt_of_lt_of_le qg (by rw [h1];exact hnt),?_,heap_alloc_new w1 _,fun h=>?_,fun q es s hq h=>?_,hevol.size,r2,.inl rfl,r3,r4,r5,fun k y hy hk2 hn=>?_⟩
         ·rw [g3];have:t0 < a1.tmps.size:=Nat.lt_of_lt_of_le qg (by rw [h1];exact hnt);simp [Act.put,this,Array.getD_eq_getD_getElem?]
         ·exact absurd (hsim.okS _ h) (Nat.lt_irrefl _)
         ·exact absurd (hsim.lt hq h) (Nat.lt_irrefl _)
         ·rw [hset,if_neg hk2];refine haft k y hy (g5 k y hy hk2 hn).1 ?_;unfold Z1;simp only [g3,Option.any_some,Bool.or_eq_true];exact .inl (.inl (.inl (.inl (by simpa using hn))))
     | m =>
      have hk:zu X (bw o.dst) o.op = true:=by simp only [zu,Ql]
      have km:al = some j→∀ i x,ops[i]? = some x→zu X (bw x.dst) x.op = true→i < j→listed.getD i false = true:=fun h=>by
       obtain ⟨z,g1,g2⟩:=halK j h;rw [ho] at g1;injection g1 with g1;subst g1;rw [Ql] at g2;cases g2
      rw [← hTK hk km] at zP;exact go (j+1) zP (by omega) (hK2 hk km) (hJ2 hk km) (zj hk)
    ·rw [if_neg (by rw [hw false hg];simp)];cases hk:zu X (bw o.dst) o.op with
     | false=>exact finish (.tup []) undef w1 ι1 ok1 m pend (fun h=>h) hE vl hsim (fun _=>qa7) (.refl _ (Nat.le_refl _)) hm (hK1 hk) (hJ1 hk) (hPk _ _ _ _ _ (.refl _ (Nat.le_refl _)) zH)
     | true =>
      have km:al = some j→∀ i x,ops[i]? = some x→zu X (bw x.dst) x.op = true→i < j→listed.getD i false = true:=fun h=>by
       obtain ⟨o',ty,t0,g1,g2,g3,g4,g5⟩:=hD.alo j h;rw [ho] at g1;injection g1 with g1;subst g1;rw [g4] at hg;simp [jc] at hg
      have hT2:T (j+1) = T m:=(by rw [hTj,hTK hk km]);have hev2:Evol (T m).length ok1 w1 ι1 (T m) ok1 w1 ι1 (T (j+1)):=(by rw [hT2];exact .refl _ (Nat.le_refl _));exact finish (.tup []) undef w1 ι1 ok1 (j+1) pend (fun h=>h) hE vl (by rw [hT2];exact hsim) (fun _=>qa7) hev2 (by omega) (hK2 hk km) (hJ2 hk km) (hPk _ _ _ _ _ hev2 (zj hk))
 refine main ops.size (Array.replicate ops.size false) a w 0 ι ok false (by simp) ?_ ?_ (Nat.zero_le _) ?_ ?_ (fun h=>by cases h) (by rw [hT0];exact hs) (by rw [hT0];exact .refl _ (Nat.le_refl _)) rfl rfl ?_
 ·exact Nat.le_trans (List.length_filter_le _ _) (by simp)
 ·intro i o hi hl
  have:(Array.replicate ops.size false).getD i false = false:=by
   rw [Array.getD_eq_getD_getElem?,Array.getElem?_replicate];split <;> rfl
  rw [this] at hl;cases hl
 ·intro i o hi hk _
  have:(Array.replicate ops.size false).getD i false = false:=by
   rw [Array.getD_eq_getD_getElem?,Array.getElem?_replicate];split <;> rfl
  rw [this];simp
 ·intro i _
  have:(Array.replicate ops.size false).getD i false = false:=by
   rw [Array.getD_eq_getD_getElem?,Array.getElem?_replicate];split <;> rfl
  rw [this];simp
 ·intro t k hk hag _ d hd;rw [hT0]
  have hl:=hslot t 0 k (Nat.zero_le _) hk (fun i o hi vl hik=>by
   have h3:=(hag i o hi vl).2 hik.2
   have:(Array.replicate ops.size false).getD i false = false:=by
    rw [Array.getD_eq_getD_getElem?,Array.getElem?_replicate];split <;> rfl
   rw [this] at h3;cases h3)
  rw [hl,hE0] at hd;exact he t d hd
theorem quB {F:qY} (hF:Z6 X F) {nt:Nat} {ops:Array Oper} {drw:Bool} {Q:Exit→Act→World→Prop} (hD:DrawFacts X (fun _=>drw) [] al ops) {e e':qp} {a:Act} (hev:je X F nt drw ops ops.toList e H = some (e',H'))
  (hs:Sim X ok w ι H) (he:EnvRep ok w ι H e a.tmps) (hnt:nt≤a.tmps.size) (hQ:∀ a' w',Out X H.length ok w ι H a e' H' a' w'→Q .normal a' w') :
  wpAny X.P .any ops Q ops.size (Array.replicate ops.size false) a w:=by
 obtain ⟨E,T,hE0,hT0,hEn,hTn,hstep⟩:=qfe hev;exact qjr hF hD hE0 hT0 hEn hTn hstep (fun i j x y _ _ hc=>by simp at hc) hs he hnt hQ
theorem quA {F:qY} (hF:Z6 X F) {nt:Nat} {ops:Array Oper} {ow:List Nat} {Q:Exit→Act→World→Prop} (hD:DrawFacts X (Q5 ow) L al ops) {e e':qp} {a:Act} (hev:vG X F nt ow ops L 0 [] [] ops.toList e H = some (e',H'))
  (hs:Sim X ok w ι H) (he:EnvRep ok w ι H e a.tmps) (hnt:nt≤a.tmps.size) (hQ:∀ a' w',Out X H.length ok w ι H a e' H' a' w'→Q .normal a' w') :
  wpAny X.P .any ops Q ops.size (Array.replicate ops.size false) a w:=by
 obtain ⟨E,T,hE0,hT0,hEn,hTn,hstep⟩:=qfd hev;refine qjr hF hD hE0 hT0 hEn hTn hstep ?_ hs he hnt hQ;rw [← hE0,← hT0] at hev;intro i j x y hi hj hc qr gi gj;exact qcs (fun k o hk=>hstep k o (by simpa using hk)) ops.toList 0 [] [] _ (fun m=>by simp) hev (fun i x hik=>by omega) (fun j y hjk=>by omega) i j x y hi hj hc qr gi gj (Nat.zero_le _)
end
end Go.Ev
namespace Go.Ev
section
variable {X:Cx} {ok ok':Nat→Prop} {w w':World} {ι:qx} {H H':qi}
theorem qa3 {ops:Array Oper} {e:qp} {a:Act} (he:EnvRep ok w ι H e a.tmps) {o:Oper} {b:Bool} (h:jc ops e o.guard = some b):Region.wanted o (yielded ops a.tmps) = b :=
 qeR (fun _ _ t _ _ d hd=>he t d hd) h
theorem VA {e:qp} {a:Act} {dst:Option Tmp} {d:D} {v:Value} {nt:Nat} (he:EnvRep ok w ι H e a.tmps) (hd:Rep ok w ι H d v) (hn:nt≤a.tmps.size) (ht:jQ nt dst = true):EnvRep ok w ι H (jH e dst d) (a.put dst v).tmps:=by
 cases dst with
 | none=>exact he
 | some t =>
  have ht':t < nt:=by simpa [jQ] using ht
  exact he.put hd (Nat.lt_of_lt_of_le ht' hn)
theorem qeh {F:qY} (hF:Z6 X F) {nt:Nat} {drw:Bool} {ops:Array Oper} {Q:Exit→Act→World→Prop}:∀ {l:List Oper} {e e':qp} {H H':qi} {ok:Nat→Prop} {w:World} {ι:qx} {a:Act},je X F nt drw ops l e H = some (e',H') →
  Sim X ok w ι H→EnvRep ok w ι H e a.tmps→nt≤a.tmps.size→(∀ a' w',Out X H.length ok w ι H a e' H' a' w'→Q .normal a' w')→wpList X.P ops Q l a w
 | [],e,e',H,H',ok,w,ι,a,h,hs,he,hn,hQ=>by
  simp only [je,Option.some.injEq,Prod.mk.injEq] at h;obtain ⟨rfl,rfl⟩:=h;exact hQ a w ⟨rfl,rfl,ι,ok,hs,he,.refl _ (Nat.le_refl _)⟩
 | o :: l,e,e',H,H',ok,w,ι,a,h,hs,he,hn,hQ=>by
  simp only [je] at h;split at h
  ·rename_i vl hg;split at h
   ·rename_i d H1 ho;have hw:=qa3 he hg;simp only [wpList,hw,if_true];refine .inl ?_;unfold Oper.wp;refine Goes.upon ((qdm hF hs he ho).mono fun v w1 hp=>?_);obtain ⟨ι1,ok1,k1,k2,k3⟩:=hp;obtain ⟨s1,s2⟩:=KZ a o.dst v;refine qeh hF h k1 (VA (he.evol' hs k3) k2 hn vl) (by omega) fun a2 w2 hout=>hQ a2 w2 ?_;obtain ⟨t1,t2,ι2,ok2,u1,u2,u3⟩:=hout;exact ⟨by omega,by rw [t2,s2],ι2,ok2,u1,u2,k3.trans (u3.mono k3.nle.2)⟩
   ·cases h
  ·rename_i vl hg;have hw:=qa3 he hg;simp only [wpList,hw,Bool.false_eq_true,if_false];obtain ⟨s1,s2⟩:=KZ a o.dst undef;refine qeh hF h hs (VA he qa7 hn vl) (by omega) fun a2 w2 hout=>hQ a2 w2 ?_;obtain ⟨t1,t2,rest⟩:=hout;exact ⟨by omega,by rw [t2,s2],rest⟩
  ·cases h
theorem qbv:∀ {ks:List Nat} {e:qp} {t:Nat} {d:D},qf (v6 ks e) t = some d→qf e t = some d
 | [],e,t,d,h=>by simp [v6,qf] at h
 | k :: ks,e,t,d,h=>by
  simp only [v6] at h;split at h
  ·rename_i x hk;simp only [qf] at h;split at h
   ·rename_i hkt;subst hkt;rw [hk];exact h
   ·exact qbv h
  ·exact qbv h
theorem qh5 {n:Nat}:∀ {e:qp} {t:Nat} {d:D},VK n e = true→qf e t = some d→closed n d = true
 | [],t,d,_,h=>by simp [qf] at h
 | (s,x) :: e,t,d,hc,h=>by
  simp only [VK,Bool.and_eq_true] at hc;simp only [qf] at h;split at h
  ·injection h with h;subst h;exact hc.1
  ·exact qh5 hc.2 h
theorem qu2 {f n0 id:Nat} {e e':qp} {tmps:Array Value} (h:qem X f n0 id e H = some (e',H')) (hn:n0≤H.length) (hs:Sim X ok w ι H) (he:EnvRep ok w ι H e tmps) :
  Sim X ok w ι H'∧EnvRep ok w ι H' e' tmps∧Evol n0 ok w ι H ok w ι H':=by
 unfold qem at h;split at h
 ·simp only [Option.some.injEq,Prod.mk.injEq] at h;obtain ⟨rfl,rfl⟩:=h;exact ⟨hs,he,.refl _ hn⟩
 ·simp only [Option.some.injEq,Prod.mk.injEq] at h;obtain ⟨rfl,rfl⟩:=h;exact ⟨hs,fun t d ht=>he t d (qbv ht),.refl _ hn⟩
 ·rename_i ks k hk;have hkeep:EnvRep ok w ι H (v6 ks e) tmps:=fun t d ht=>he t d (qbv ht);split at h
  ·simp only [Option.some.injEq,Prod.mk.injEq] at h;obtain ⟨rfl,rfl⟩:=h;exact ⟨hs,hkeep,.refl _ hn⟩
  ·rename_i qZ;split at h
   ·rename_i hc;rw [Bool.and_eq_true] at hc;simp only [Option.some.injEq,Prod.mk.injEq] at h;obtain ⟨rfl,rfl⟩:=h;have hm:n0+k≤H.length:=(by omega);exact ⟨quK hm hs hc.2,hkeep.evol hs (qer hm) (fun t d ht=>qh5 hc.1 ht),(qer hm).mono (by omega)⟩
   ·cases h
theorem qjh {f n0 id:Nat} {e e':qp} {tmps:Array Value} (h:qbN X f n0 id e H = some (e',H')) (hn:n0≤H.length) (hs:Sim X ok w ι H) (he:EnvRep ok w ι H e tmps) :
  ∃ ok' ι',Sim X ok' w ι' H'∧EnvRep ok' w ι' H' e' tmps∧Evol n0 ok w ι H ok' w ι' H':=by
 have stepC:∀ {e e':qp} {ok:Nat→Prop} {H H':qi},qbO X f n0 id e H = some (e',H')→n0≤H.length→Sim X ok w ι H→EnvRep ok w ι H e tmps →
   ∃ ι',Sim X ok w ι' H'∧EnvRep ok w ι' H' e' tmps∧Evol n0 ok w ι H ok w ι' H':=by
  intro e e' ok H H' h hn hs he;unfold qbO at h;split at h
  ·obtain ⟨h1,h2,h3⟩:=qu2 h hn hs he;exact ⟨ι,h1,h2,h3⟩
  ·exact qnk h hn hs he
 unfold qbN at h;split at h
 ·obtain ⟨ι',h1,h2,h3⟩:=stepC h hn hs he;exact ⟨ok,ι',h1,h2,h3⟩
 ·split at h
  ·rename_i e1 H1 vO;obtain ⟨ok',k1,k2,k3⟩:=qtO vO hs he;obtain ⟨ι',h1,h2,h3⟩:=stepC h (Nat.le_trans hn k3.nle.2) k1 k2;exact ⟨ok',ι',h1,h2,(k3.mono hn).trans h3⟩
  ·cases h
theorem qu1 {f n0 id:Nat} {e e':qp} {tmps:Array Value} (h:enter X f n0 id e H = some (e',H')) (hn:n0≤H.length) (hs:Sim X ok w ι H) (he:EnvRep ok w ι H e tmps) :
  ∃ ok' ι',Sim X ok' w ι' H'∧EnvRep ok' w ι' H' e' tmps∧Evol n0 ok w ι H ok' w ι' H':=by
 unfold enter at h;split at h
 ·exact qjh h hn hs he
 ·split at h
  ·rename_i H1 hst;obtain ⟨ok1,k1,k2,k3⟩:=qc1 hst hs;obtain ⟨ok2,ι',h1,h2,h3⟩:=qjh h (by rw [k3];exact hn) k1 (fun t d ht=>⟨(he t d ht).1,(he t d ht).2.evol hs k2 (he t d ht).2.closed⟩);exact ⟨ok2,ι',h1,h2,(k2.mono hn).trans h3⟩
  ·cases h
def Xr:Ex→Exit
 | .normal=>.normal
 | .exit id=>.exit id
 | .ret=>.ret
def CQ (X:Cx) (n:Nat) (ok:Nat→Prop) (w:World) (ι:qx) (H:qi) (a:Act) (ex:Ex) (e':qp) (H':qi) (x:Exit) (a':Act) (w':World):Prop :=
 x = Xr ex∧Out X n ok w ι H a e' H' a' w'
def qwD (X:Cx) (n:Nat):Prop :=
 ∀ (f nt n0:Nat) (c:Code) (e e':qp) (H H':qi) (ex:Ex) (ok:Nat→Prop) (w:World) (ι:qx) (a:Act),qG X n f nt n0 c e H = some (ex,e',H')→Qi X f c = true→n0≤H.length→Sim X ok w ι H→EnvRep ok w ι H e a.tmps→nt≤a.tmps.size →
  c.wp X.P (CQ X n0 ok w ι H a ex e' H') a w
theorem Out.trans {n:Nat} {a a1 a2:Act} {w1 w2:World} {H1 H2:qi} {ok1:Nat→Prop} {ι1:qx} {e2:qp} (h1:a1.tmps.size = a.tmps.size) (h2:a1.defers = a.defers) (h3:Evol n ok w ι H ok1 w1 ι1 H1)
  (h:Out X n ok1 w1 ι1 H1 a1 e2 H2 a2 w2):Out X n ok w ι H a e2 H2 a2 w2:=by
 obtain ⟨t1,t2,ι2,ok2,u1,u2,u3⟩:=h;exact ⟨by omega,by rw [t2,h2],ι2,ok2,u1,u2,h3.trans u3⟩
theorem qo3 {t:Bool} {c:Operand} {e:qp} {a:Act} (hs:Sim X ok w ι H) (he:EnvRep ok w ι H e a.tmps) (h:qH X e c = some (.bool t)):a.eval c = .bool t:=by
 have:=jn hs he h;generalize a.eval c = v at this ⊢;cases this;rfl
theorem qeC:∀ (l:List D) (i t:Nat) (d:D),qf (kG i l) t = some d→i≤t∧l[t - i]? = some d
 | [],i,t,d,h=>by simp [kG,qf] at h
 | x :: l,i,t,d,h=>by
  simp only [kG,qf] at h;split at h
  ·rename_i vj;subst vj;injection h with h;subst h;exact ⟨Nat.le_refl _,by simp⟩
  ·obtain ⟨h1,h2⟩:=qeC l (i+1) t d h;refine ⟨by omega,?_⟩;rw [show t - i = (t - (i+1))+1 by omega,List.getElem?_cons_succ];exact h2
def qaW (tmps:Array Value):ResultVar→Sem Value
 | .tmp t=>pure (tmps.getD t undef)
 | .cell a t=>do loadVar t (← asAddr (tmps.getD a undef))
theorem qcP {e:qp} {tmps:Array Value} (hs:Sim X ok w ι H) (he:EnvRep ok w ι H e tmps):∀ {l:List ResultVar} {ds:List D},kL X e H l = some ds →
  ∃ vs:List Value,(l.mapM (qaW tmps)).run X.P w = .ok vs w∧RepL ok w ι H ds vs
 | [],ds,h=>by
  simp only [kL,Option.some.injEq] at h;subst h;exact ⟨[],by simp,rfl,by simp⟩
 | .tmp t :: l,ds,h=>by
  simp only [kL] at h;split at h
  ·rename_i d ds' h1 h2;injection h with h;subst h;obtain ⟨vs,q1,q2⟩:=qcP hs he h2;refine ⟨tmps.getD t undef :: vs,?_,by simp [q2.1],fun j x hx=>?_⟩
   ·rw [List.mapM_cons];simp only [qaW,Sem.run_bind,Sem.run_pure,Result.andThen_ok,q1]
   ·cases j with
    | zero =>
     simp only [List.getElem?_cons_zero,Option.some.injEq] at hx;subst hx;exact (he t d h1).2
    | succ j=>exact q2.2 j x (by simpa using hx)
  ·cases h
 | .cell a t :: l,ds,h=>by
  simp only [kL] at h;split at h
  ·rename_i d ds' h1 h2;injection h with h;subst h;obtain ⟨vs,q1,q2⟩:=qcP hs he h2;cases hl:qf e a with
   | none=>simp [hl] at h1
   | some p =>
    simp only [hl,Option.bind_some] at h1;obtain ⟨_,hr⟩:=he a p hl;obtain ⟨v,r1,r2⟩:=qh9 hs hr h1
    have hptr:∃ ad,tmps.getD a undef = .pointer (some ad):=by
     unfold Ku at h1;split at h1
     ·rename_i hm;exact hr.ptr hm
     ·rename_i hm;exact hr.ptr hm
     ·cases h1
    obtain ⟨ad,had⟩:=hptr;rw [had] at r1;simp only [Instr.loadAt,Instr.sureAddr,Sem.run_bind,Sem.run_pure,Result.andThen_ok] at r1;refine ⟨v :: vs,?_,by simp [q2.1],fun j x hx=>?_⟩
    ·rw [List.mapM_cons];simp only [qaW,had,asAddr,Sem.run_bind,Sem.run_pure,Result.andThen_ok,r1,q1]
    ·cases j with
     | zero =>
      simp only [List.getElem?_cons_zero,Option.some.injEq] at hx;subst hx;exact r2
     | succ j=>exact q2.2 j x (by simpa using hx)
  ·cases h
theorem qor {ds:List D} {vs:List Value} (h:RepL ok w ι H ds vs):Rep ok w ι H (Zu ds) (if hh:vs.toArray.size = 1 then vs.toArray[0] else .tuple vs.toArray):=by
 unfold Zu;split
 ·rename_i d;obtain ⟨v,us,rfl,r1,h2⟩:=Zo h;obtain rfl:=KW h2;simpa using r1
 ·rename_i qr
  have hl:vs.toArray.size≠1:=by
   intro e;have:ds.length = 1:=by rw [← h.1];simpa using e
   match ds,this with
   | [d],_=>exact qr d rfl
  rw [dif_neg hl]
  exact .tup (by simpa using h.1) fun j d hj=>by
   have:=h.2 j d hj;simpa [Array.getD_eq_getD_getElem?,List.getD_eq_getElem?_getD] using this
theorem qgs {fn:Func} {e:qp} {tmps:Array Value} {ds:List D} (hs:Sim X ok w ι H) (he:EnvRep ok w ι H e tmps) (h:kL X e H fn.results.toList = some ds) :
  ∃ v,(results fn tmps).run X.P w = .ok v w∧Rep ok w ι H (Zu ds) v:=by
 obtain ⟨vs,q1,q2⟩:=qcP hs he h;refine ⟨_,?_,qor q2⟩
 have hfun:results fn tmps = (do let vs ← fn.results.mapM (qaW tmps);pure (if h:vs.size = 1 then vs[0] else .tuple vs)):=by
  unfold results;congr 1
 rw [hfun,Sem.run_bind,Array.mapM_eq_mapM_toList,Sem.run_map,q1];rfl
theorem qfX {P:Program} {c:Code} {Q Q':Exit→Act→World→Prop} (hq:∀ x a w,Q x a w→Q' x a w):∀ (n:Nat) (a:Act) (w:World),Code.rounds P c Q n a w→Code.rounds P c Q' n a w
 | 0,_,_,h=>h
 | n+1,a,w,h=>by
  rw [rounds_succ] at h ⊢;refine wp_mono h fun x a w hx=>?_;cases x <;> first | exact hq _ _ _ hx | exact qfX hq n a w hx
theorem qfu (hG:Good X):∀ n,Z6 X (jz X n)∧qwD X n:=by
 intro n
 induction n using Nat.strongRecOn with
 | _ n ih =>
  cases n with
  | zero =>
   refine ⟨fun f args H r H' ok w ι vs h=>by simp [jz] at h,fun f nt n0 c e e' H H' ex ok w ι a h=>by simp [qG] at h⟩
  | succ n =>
   have ihF:=(ih n (by omega)).1;have ihC:=(ih n (by omega)).2;constructor
   ·-- a function
    intro f args H r H' ok w ι vs h hs hv;simp only [jz] at h;split at h
    ·rename_i r0 Q3;injection h with h;subst h;exact hG.con f args H r H' Q3 ok w ι vs hs hv
    split at h
    ·cases h
    ·rename_i fn hf;split at h
     ·rename_i hb;obtain ⟨h1,rfl⟩:=kR h;obtain ⟨v,q1,q2,q3⟩:=hG.ext f fn args r hf hb h1 ok w ι H vs hs hv;exact Goes.value q1 ⟨ι,ok,hs,q2,.refl _ (Nat.le_refl _),fun i ds hi hd=>by have:=QO hd;omega⟩
     ·rename_i c hb;cases hbad:X.bad f with
      | true=>simp [hbad] at h
      | false =>
      simp only [hbad,Bool.false_eq_true,if_false] at h;have hokc:=hG.okc f fn c hf hb hbad;have henter:(callFunc f vs.toArray).run X.P w = .ok (.enter f vs.toArray) w:=Go.Proofs.enters_of hf (hG.ng f fn hf) hb _ _
      have key:∀ ex e H1 ds,(ex = .normal∨ex = .ret)→qG X n f fn.ntmps H.length c (kG 0 args) H = some (ex,e,H1)→kL X e H1 fn.results.toList = some ds→Zt (X.fzr f) H.length H1 (Zu ds) = some (r,H') →
        Goes X.P (callFunc f vs.toArray) w (Zh X ok w ι H r H'):=by
       intro ex e H1 ds hex hc hr hp;unfold Goes;rw [henter];simp only;refine calls_of_wp hf hb (wp_mono (ihC f fn.ntmps H.length c (kG 0 args) e H H1 ex ok w ι ⟨vs.toArray ++ Array.replicate (fn.ntmps - vs.toArray.size) undef,[]⟩ hc hokc (Nat.le_refl _) hs ?_ ?_) ?_)
       ·intro t d ht;obtain ⟨_,h2⟩:=qeC args 0 t d ht;rw [Nat.sub_zero] at h2;have qg:t < vs.length:=(by rw [hv.1];exact (List.getElem?_eq_some_iff.1 h2).1);refine ⟨by simp;omega,?_⟩;have:=hv.2 t d h2;rw [Array.getD_eq_getD_getElem?,Array.getElem?_append_left (by simpa using qg)];simpa [List.getD_eq_getElem?_getD] using this
       ·simp;omega
       ·rintro x a' w' ⟨rfl,k1,k2,ι1,ok1,k3,k4,k5⟩;obtain ⟨v,q1,q2⟩:=qgs (fn:=fn) k3 k4 hr;obtain ⟨ok2,ι2,p1,p2,p3,p4⟩:=qgQ k5.nle.2 k3 q2 hp;have hpost:Zh X ok w ι H r H' v w':=⟨ι2,ok2,p1,p2,k5.trans p3,p4⟩;rcases hex with rfl | rfl
        ·exact ⟨k2,v,q1,v,rfl,hpost⟩
        ·exact ⟨k2,v,q1,v,rfl,hpost⟩
      split at h
      ·rename_i e H1 hc;split at h
       ·rename_i ds hr;exact key _ e H1 ds (.inl rfl) hc hr h
       ·cases h
      ·rename_i e H1 hc;split at h
       ·rename_i ds hr;exact key _ e H1 ds (.inr rfl) hc hr h
       ·cases h
      ·cases h
   ·-- code
    intro f nt n0 c e e' H H' ex ok w ι a h hoc hn hs he hnt
    have again:∀ (ex1:Ex) (e1:qp) (H1:qi) (Q:Exit→Act→World→Prop) (c1:Code),qG X n f nt n0 c1 e H = some (ex1,e1,H1)→Qi X f c1 = true→(∀ a' w',Out X n0 ok w ι H a e1 H1 a' w'→Q (Xr ex1) a' w')→c1.wp X.P Q a w:=by
     intro ex1 e1 H1 Q c1 h1 hoc1 hQ;refine wp_mono (ihC f nt n0 c1 e e1 H H1 ex1 ok w ι a h1 hoc1 hn hs he hnt) ?_;rintro x a' w' ⟨rfl,hout⟩;exact hQ a' w' hout
    have here:Out X n0 ok w ι H a e H a w:=⟨rfl,rfl,ι,ok,hs,he,.refl _ hn⟩;cases c with
    | skip =>
     simp only [qG,Option.some.injEq,Prod.mk.injEq] at h;obtain ⟨rfl,rfl,rfl⟩:=h;exact wp_skip ⟨rfl,here⟩
    | label l =>
     simp only [qG,Option.some.injEq,Prod.mk.injEq] at h;obtain ⟨rfl,rfl,rfl⟩:=h;exact wp_label ⟨rfl,here⟩
    | exit id =>
     simp only [qG,Option.some.injEq,Prod.mk.injEq] at h;obtain ⟨rfl,rfl,rfl⟩:=h;exact wp_exit ⟨rfl,here⟩
    | ret =>
     simp only [qG,Option.some.injEq,Prod.mk.injEq] at h;obtain ⟨rfl,rfl,rfl⟩:=h;exact wp_ret ⟨rfl,here⟩
    | region id ops draw =>
     simp only [qG] at h;split at h
     ·cases h
     ·rename_i e1 H1 vW;obtain ⟨ok1,ι1,s1,s2,s3⟩:=qu1 vW hn hs he;cases ho:Ze X (jz X n) f nt id draw ops e1 H1 with
      | none=>simp [ho] at h
      | some r =>
       obtain ⟨e2,H2⟩:=r;simp only [ho,Option.map_some,Option.some.injEq,Prod.mk.injEq] at h;obtain ⟨rfl,rfl,rfl⟩:=h;cases draw with
       | false =>
        simp only [Ze] at ho;refine wp_region_list (qeh ihF ho s1 s2 hnt fun a' w' hout=>⟨rfl,?_⟩);obtain ⟨t1,t2,ι2,ok2,u1,u2,u3⟩:=hout;exact ⟨t1,t2,ι2,ok2,u1,u2,s3.trans (u3.mono s3.nle.2)⟩
       | true =>
        simp only [Qi,Bool.not_true,Bool.false_or] at hoc;simp only [Ze] at ho;obtain ⟨d1,d2⟩:=ql4 (w':={ w with drawn:=w.drawn+1 }) s1 ⟨rfl,rfl,rfl⟩ rfl;cases hlp:X.lp f id with
        | none =>
         rw [hlp] at ho hoc;simp only [Y1] at ho;refine wp_region_any hG.mixed (quB ihF (qjs hoc) ho d1 (s2.evol' s1 d2) hnt fun a' w' hout=>⟨rfl,?_⟩);obtain ⟨t1,t2,ι2,ok2,u1,u2,u3⟩:=hout;exact ⟨t1,t2,ι2,ok2,u1,u2,s3.trans ((d2.mono s3.nle.2).trans (u3.mono s3.nle.2))⟩
        | some q =>
         obtain ⟨L,ow⟩:=q;rw [hlp] at ho hoc;refine wp_region_any hG.mixed (quA ihF (qjs hoc) ho d1 (s2.evol' s1 d2) hnt fun a' w' hout=>⟨rfl,?_⟩);obtain ⟨t1,t2,ι2,ok2,u1,u2,u3⟩:=hout;exact ⟨t1,t2,ι2,ok2,u1,u2,s3.trans ((d2.mono s3.nle.2).trans (u3.mono s3.nle.2))⟩
    | seq x y =>
     simp only [Qi,Bool.and_eq_true] at hoc;simp only [qG] at h;refine wp_seq ?_;split at h
     ·rename_i e1 H1 hx;refine again _ e1 H1 _ x hx hoc.1 fun a1 w1 hout=>?_;obtain ⟨t1,t2,ι1,ok1,u1,u2,u3⟩:=hout;refine wp_mono (ihC f nt n0 y e1 e' H1 H' ex ok1 w1 ι1 a1 h hoc.2 u3.nle.2 u1 u2 (by omega)) ?_;rintro z a2 w2 ⟨rfl,hout2⟩;exact ⟨rfl,Out.trans t1 t2 u3 hout2⟩
     ·rename_i qr;refine again ex e' H' _ x h hoc.1 fun a1 w1 hout=>?_;cases ex with
      | normal=>exact absurd h (qr _ _)
      | exit id=>exact ⟨rfl,hout⟩
      | ret=>exact ⟨rfl,hout⟩
    | cond c x y =>
     simp only [Qi,Bool.and_eq_true] at hoc;simp only [qG] at h;split at h
     ·rename_i t hc;refine wp_cond (qo3 hs he hc) (again ex e' H' _ _ h (by cases t;exact hoc.2;exact hoc.1) fun a1 w1 hout=>⟨rfl,hout⟩)
     ·cases h
    | block id c =>
     simp only [Qi] at hoc;simp only [qG] at h;refine wp_block ?_;split at h
     ·rename_i i e1 H1 hc;refine again _ e1 H1 _ c hc hoc fun a1 w1 hout=>?_;simp only [Xr,Exit.inBlock];split at h
      ·rename_i hi;simp only [Option.some.injEq,Prod.mk.injEq] at h;obtain ⟨rfl,rfl,rfl⟩:=h;rw [if_pos hi];exact ⟨rfl,hout⟩
      ·rename_i hi;simp only [Option.some.injEq,Prod.mk.injEq] at h;obtain ⟨rfl,rfl,rfl⟩:=h;rw [if_neg hi];exact ⟨rfl,hout⟩
     ·rename_i qr;refine again ex e' H' _ c h hoc fun a1 w1 hout=>?_;cases ex with
      | normal=>exact ⟨rfl,hout⟩
      | exit i=>exact absurd h (qr _ _ _)
      | ret=>exact ⟨rfl,hout⟩
    | scope c =>
     simp only [Qi] at hoc;simp only [qG] at h;refine wp_scope_straight (again ex e' H' _ c h hoc fun a1 w1 hout=>?_);cases ex <;> exact ⟨rfl,hout⟩
    | loop c =>
     simp only [Qi] at hoc
     have key:∀ m,m≤n→∀ (e e':qp) (H H':qi) (ex:Ex) (ok:Nat→Prop) (w:World) (ι:qx) (a:Act),qG X (m+1) f nt n0 (.loop c) e H = some (ex,e',H')→n0≤H.length→Sim X ok w ι H→EnvRep ok w ι H e a.tmps→nt≤a.tmps.size →
       Code.rounds X.P c (CQ X n0 ok w ι H a ex e' H') (m+1) a w:=by
      intro m
      induction m with
      | zero =>
       intro _ e e' H H' ex ok w ι a h;simp only [qG] at h;simp at h
      | succ m ihm =>
       intro hm e e' H H' ex ok w ι a h hn hs he hnt;rw [rounds_succ];rw [qG] at h;split at h
       ·rename_i e1 H1 hc;refine wp_mono ((ih (m+1) (by omega)).2 f nt n0 c e e1 H H1 .normal ok w ι a hc hoc hn hs he hnt) ?_;rintro x a1 w1 ⟨rfl,t1,t2,ι1,ok1,u1,u2,u3⟩;have hrec:=ihm (by omega) e1 e' H1 H' ex ok1 w1 ι1 a1 h u3.nle.2 u1 u2 (by omega);refine qfX ?_ _ _ _ hrec;rintro x a2 w2 ⟨hx,hout⟩;exact ⟨hx,Out.trans t1 t2 u3 hout⟩
       ·rename_i qr;refine wp_mono ((ih (m+1) (by omega)).2 f nt n0 c e e' H H' ex ok w ι a h hoc hn hs he hnt) ?_;rintro x a1 w1 ⟨rfl,hout⟩;cases ex with
        | normal=>exact absurd h (qr _ _)
        | exit id=>exact ⟨rfl,hout⟩
        | ret=>exact ⟨rfl,hout⟩
     exact wp_loop_rounds _ (key n (Nat.le_refl _) e e' H H' ex ok w ι a h hn hs he hnt)
    | goto l=>simp [qG] at h
    | rangeFunc _ _ _ _=>simp [qG] at h
    | refuse _=>simp [qG] at h
end
end Go.Ev
namespace Go.Ev
section
variable {X:Cx}
def ZM (F G:qY):Prop:= ∀ f args H r,F f args H = some r→G f args H = some r
theorem qvC {F G:qY} (h:ZM F G) {f:Nat} {args:List D} {H:qi} {r:D × qi} (hc:ZX F f args H = some r):ZX G f args H = some r:=by
 cases args with
 | nil=>simp [ZX] at hc
 | cons a rest =>
  cases a with
  | optr i st off =>
   simp only [ZX] at hc ⊢;cases hd:qo H i with
   | none=>simp [hd] at hc
   | some ds =>
    simp only [hd] at hc ⊢;split at hc
    ·rename_i hf;rw [if_pos hf];cases hF:F f (.optr 0 st off :: rest) [some ds] with
     | none=>simp [hF] at hc
     | some q=>rw [h _ _ _ _ hF];rw [hF] at hc;exact hc
    ·cases hc
  | _=>simp [ZX] at hc
theorem qv9 {F G:qY} (h:ZM F G) {f:Nat} {args:List D} {H:qi} {r:D × qi} (hc:Vw F f args H = some r):Vw G f args H = some r:=by
 unfold Vw at hc ⊢;split at hc
 ·cases hc
 ·unfold XX at hc ⊢;split at hc
  ·split at hc
   ·rename_i hf;rw [if_pos hf];split at hc
    ·rename_i hF;rw [h _ _ _ _ hF];exact hc
    ·cases hc
   ·cases hc
  ·cases hc
theorem qvF {F G:qY} (h:ZM F G) {f:Nat} {args:List D} {H:qi} {r:D × qi} (hc:Vx X F f args H = some r):Vx X G f args H = some r:=by
 unfold Vx at hc ⊢;split
 ·rename_i hl;rw [if_pos hl] at hc;exact qv9 h hc
 ·rename_i hl;rw [if_neg hl] at hc;exact qvC h hc
theorem qv5 {F G:qY} (h:ZM F G) {f:Nat} {args:List D} {H:qi} {r:D × qi} (hc:Jt X F f args H = some r):Jt X G f args H = some r:=by
 unfold Jt at hc ⊢;split
 ·rename_i hb;rw [if_pos hb] at hc;split
  ·rename_i hl;rw [if_pos hl] at hc;exact qvF h hc
  ·rename_i hl;rw [if_neg hl] at hc;exact h _ _ _ _ hc
 ·rename_i hb;rw [if_neg hb] at hc;split
  ·rename_i ha;rw [if_pos ha] at hc;cases hF:F f args [] with
   | none=>simp [hF] at hc
   | some q=>rw [h _ _ _ _ hF];rw [hF] at hc;exact hc
  ·rename_i ha;rw [if_neg ha] at hc;cases hz:VI H args with
   | none=>simp [hz] at hc
   | some args' =>
    simp only [hz] at hc ⊢;cases hF:F f args' [] with
    | none=>simp [hF] at hc
    | some q=>rw [h _ _ _ _ hF];rw [hF] at hc;exact hc
theorem qe3 {F G:qY} (h:ZM F G) {f:Nat} {args:List D} {H:qi} {r:D × qi} (hc:Qs X F f args H = some r):Qs X G f args H = some r:=by
 by_cases hp:(X.pureF f && !X.byRef f) = true
 ·obtain ⟨h4,h3,h1⟩:=qar hp hc;unfold Qs;rw [if_pos hp];rcases h1 with ⟨h1,h2⟩ | ⟨h1,hpe,hfl,hv,args',vO,h2⟩
  ·rw [if_pos h1,h _ _ _ _ h2];simp only [h3,if_true,← h4]
  ·rw [if_neg h1];subst h4;simp only [hpe,hfl,Bool.and_self,if_true,vO,h _ _ _ _ h2,h3,hv]
 ·unfold Qs at hc ⊢;rw [if_neg hp] at hc ⊢;exact qv5 h hc
theorem qvL {F G:qY} (h:ZM F G) {f:Nat} {args:List D} {H:qi} {r:D × qi} (hc:Ju X F f args H = some r):Ju X G f args H = some r:=by
 unfold Ju at hc ⊢;split at hc
 ·exact qe3 h hc
 ·split at hc
  ·exact qe3 h hc
  ·cases hc
theorem qvI {F G:qY} (h:ZM F G) {f:Nat} {args:List D} {H:qi} {r:D × qi} (hc:Z2 X F f args H = some r):Z2 X G f args H = some r:=by
 unfold Z2 at hc ⊢;split at hc
 ·exact qvL h hc
 ·split at hc
  ·exact qe3 h hc
  ·cases hc
theorem qiU {F G:qY} (h:ZM F G) {o:Op} {e:qp} {H:qi} {r:D × qi} (ho:qW X F o e H = some r):qW X G o e H = some r:=by
 cases o with
 | call c =>
  simp only [qW] at ho ⊢;cases hc:c.callee with
  | builtin b=>cases ha:jT X e c.args.toList <;> simp only [hc,ha] at ho ⊢ <;> first | exact ho | cases ho
  | invoke r m=>cases ha:jT X e c.args.toList <;> simp only [hc,ha] at ho ⊢ <;> cases ho
  | value g =>
   simp only [hc] at ho ⊢;cases ha:jT X e c.args.toList with
   | none=>simp [ha] at ho
   | some args =>
    simp only [ha] at ho ⊢;split at ho
    ·exact qvI h ho
    ·cases ho
 | makeFunc g _ _=>cases g <;> exact ho
 | slice _ _ _ _ m=>cases m <;> exact ho
 | _=>exact ho
theorem qbL {F G:qY} (h:ZM F G) {drw:Bool} {o:Op} {e:qp} {H:qi} {r:D × qi} (ho:qE X F drw o e H = some r):qE X G drw o e H = some r:=by
 unfold qE at ho ⊢;split at ho
 ·exact ho
 ·exact ho
 ·split at ho
  ·cases ho
  ·rename_i hb;rw [if_neg hb];exact qiU h ho
 ·exact qiU h ho
theorem YW {F G:qY} (h:ZM F G) {nt:Nat} {drw:Bool} {ops:Array Oper}:∀ {l:List Oper} {e:qp} {H:qi} {r:qp × qi},je X F nt drw ops l e H = some r→je X G nt drw ops l e H = some r
 | [],_,_,_,ho=>ho
 | o :: l,e,H,r,ho=>by
  simp only [je] at ho ⊢;cases hd:jQ nt o.dst <;> simp only [hd] at ho ⊢
  ·cases ho
  ·cases hg:jc ops e o.guard with
   | none=>simp [hg] at ho
   | some b =>
    cases b <;> simp only [hg] at ho ⊢
    ·exact YW h ho
    ·cases hx:qE X F drw o.op e H with
     | none=>simp [hx] at ho
     | some q =>
      rw [qbL h hx];rw [hx] at ho;exact YW h ho
theorem YY {F G:qY} (h:ZM F G) {nt:Nat} {ow:List Nat} {ops:Array Oper} {L:kt}:∀ {l:List Oper} {k:Nat} {ws:List (Nat × qi × qi)} {rs:List (Nat × List Nat)} {e:qp} {H:qi} {r:qp × qi},vG X F nt ow ops L k ws rs l e H = some r→vG X G nt ow ops L k ws rs l e H = some r
 | [],_,_,_,_,_,_,ho=>by simpa [vG] using ho
 | o :: l,k,ws,rs,e,H,r,ho=>by
  simp only [vG] at ho ⊢;cases hd:jQ nt o.dst <;> simp only [hd] at ho ⊢
  ·cases ho
  ·cases hg:jc ops e o.guard with
   | none=>simp [hg] at ho
   | some b =>
    cases b <;> simp only [hg] at ho ⊢
    ·exact YY h ho
    ·cases hx:qE X F (Q5 ow o.dst) o.op e H with
     | none=>simp [hx] at ho
     | some q =>
      rw [qbL h hx];rw [hx] at ho;simp only at ho ⊢;split at ho
      ·rename_i hc;rw [if_pos hc];exact YY h ho
      ·cases ho
theorem qui {F G:qY} (h:ZM F G) {f nt id:Nat} {draw:Bool} {ops:Array Oper} {e:qp} {H:qi} {r:qp × qi} (ho:Ze X F f nt id draw ops e H = some r):Ze X G f nt id draw ops e H = some r:=by
 unfold Ze at ho ⊢;split at ho
 ·exact YY h ho
 ·exact YW h ho
theorem qef:∀ n,ZM (jz X n) (jz X (n+1))∧∀ f nt n0 c e H r,qG X n f nt n0 c e H = some r→qG X (n+1) f nt n0 c e H = some r
 | 0=>⟨fun f args H r h=>by simp [jz] at h,fun f nt n0 c e H r h=>by simp [qG] at h⟩
 | n+1=>by
  obtain ⟨ihF,ihC⟩:=qef n;constructor
  ·intro f args H r h;simp only [jz] at h ⊢;cases Q3:X.con f args H with
   | some q=>simp only [Q3] at h ⊢;exact h
   | none =>
   simp only [Q3] at h ⊢;cases hf:X.P.funcs[f]? with
   | none=>simp [hf] at h
   | some fn =>
    simp only [hf] at h ⊢;cases hb:fn.body with
    | none=>simp only [hb] at h ⊢;exact h
    | some c =>
     simp only [hb] at h ⊢;cases hbad:X.bad f <;> simp only [hbad,Bool.false_eq_true,if_false,if_true] at h ⊢
     ·cases hc:qG X n f fn.ntmps H.length c (kG 0 args) H with
      | none=>simp [hc] at h
      | some q =>
       rw [ihC _ _ _ _ _ _ _ hc];rw [hc] at h;exact h
     ·cases h
  ·intro f nt n0 c e H r h;cases c with
   | region id ops draw =>
    rw [qG] at h ⊢;cases vW:enter X f n0 id e H with
    | none=>simp [vW] at h
    | some q =>
     obtain ⟨e1,H1⟩:=q;simp only [vW] at h ⊢;cases ho:Ze X (jz X n) f nt id draw ops e1 H1 with
     | none=>simp [ho] at h
     | some q =>
      rw [qui ihF ho];rw [ho] at h;exact h
   | seq a b =>
    rw [qG] at h ⊢;cases ha:qG X n f nt n0 a e H with
    | none=>simp [ha] at h
    | some q =>
     obtain ⟨ex,e1,H1⟩:=q;rw [ihC _ _ _ _ _ _ _ ha];rw [ha] at h;cases ex with
     | normal=>exact ihC _ _ _ _ _ _ _ h
     | exit i=>exact h
     | ret=>exact h
   | cond x a b =>
    rw [qG] at h ⊢;split at h
    ·exact ihC _ _ _ _ _ _ _ h
    ·cases h
   | block id c =>
    rw [qG] at h ⊢;cases ha:qG X n f nt n0 c e H with
    | none=>simp [ha] at h
    | some q =>
     rw [ihC _ _ _ _ _ _ _ ha];rw [ha] at h;exact h
   | scope c =>
    rw [qG] at h ⊢;exact ihC _ _ _ _ _ _ _ h
   | loop c =>
    rw [qG] at h ⊢;cases ha:qG X n f nt n0 c e H with
    | none=>simp [ha] at h
    | some q =>
     obtain ⟨ex,e1,H1⟩:=q;rw [ihC _ _ _ _ _ _ _ ha];rw [ha] at h;cases ex with
     | normal=>exact ihC _ _ _ _ _ _ _ h
     | exit i=>exact h
     | ret=>exact h
   | skip=>exact h
   | label l=>exact h
   | exit id=>exact h
   | ret=>exact h
   | goto l=>simp [qG] at h
   | rangeFunc a b c d=>simp [qG] at h
   | refuse w=>simp [qG] at h
theorem YZ {n m:Nat} (hnm:n≤m):ZM (jz X n) (jz X m):=by
 induction m with
 | zero=>have:n = 0:=by omega
         subst this;exact fun _ _ _ _ h=>h
 | succ m ih =>
  by_cases h:n = m+1
  ·subst h;exact fun _ _ _ _ h=>h
  ·exact fun f args H r hr=>(qef m).1 _ _ _ _ (ih (by omega) f args H r hr)
theorem qaa {n m:Nat} (hnm:n≤m) {f nt n0:Nat} {c:Code} {e:qp} {H:qi} {r:Ex × qp × qi} (h:qG X n f nt n0 c e H = some r):qG X m f nt n0 c e H = some r:=by
 induction m with
 | zero=>have:n = 0:=by omega
         subst this;exact h
 | succ m ih =>
  by_cases hn:n = m+1
  ·subst hn;exact h
  ·exact (qef m).2 _ _ _ _ _ _ _ (ih (by omega))
open Classical in
noncomputable def lim {α:Type} (g:Nat→Option α):Option α:=if h:∃ r,∃ n,g n = some r then some h.choose else none
theorem qhC {α:Type} {g:Nat→Option α} (hm:∀ n m r,n≤m→g n = some r→g m = some r) {r:α}:lim g = some r↔∃ n,g n = some r:=by
 unfold lim;constructor
 ·intro h;split at h
  ·rename_i hex;injection h with h;subst h;exact hex.choose_spec
  ·cases h
 ·rintro ⟨n,hn⟩;have hex:∃ r,∃ n,g n = some r:=⟨r,n,hn⟩;rw [dif_pos hex];obtain ⟨k,hk⟩:=hex.choose_spec;have h1:=hm n (max n k) _ (Nat.le_max_left _ _) hn;have h2:=hm k (max n k) _ (Nat.le_max_right _ _) hk;rw [h1] at h2;injection h2 with h2;rw [← h2]
noncomputable def call (X:Cx):qY:=fun f args H=>lim fun n=>jz X n f args H
noncomputable def code (X:Cx) (f nt n0:Nat) (c:Code) (e:qp) (H:qi):Option (Ex × qp × qi):=lim fun n=>qG X n f nt n0 c e H
theorem call_some {f:Nat} {args:List D} {H:qi} {r:D × qi}:call X f args H = some r↔∃ n,jz X n f args H = some r:=qhC fun _ _ _ hnm h=>YZ hnm _ _ _ _ h
theorem code_some {f nt n0:Nat} {c:Code} {e:qp} {H:qi} {r:Ex × qp × qi}:code X f nt n0 c e H = some r↔∃ n,qG X n f nt n0 c e H = some r:=qhC fun _ _ _ hnm h=>qaa hnm h
theorem qiZ (n:Nat):ZM (jz X n) (call X):=fun _ _ _ _ h=>call_some.2 ⟨n,h⟩
theorem qvD {f:Nat} {args:List D} {H:qi} {r:D × qi} (hc:ZX (call X) f args H = some r):∃ n,ZX (jz X n) f args H = some r:=by
 cases args with
 | nil=>simp [ZX] at hc
 | cons a rest =>
  cases a with
  | optr i st off =>
   simp only [ZX] at hc ⊢;cases hd:qo H i with
   | none=>simp [hd] at hc
   | some ds =>
    simp only [hd] at hc ⊢;split at hc
    ·rename_i hf;cases hF:call X f (.optr 0 st off :: rest) [some ds] with
     | none=>simp [hF] at hc
     | some q =>
      obtain ⟨n,hn⟩:=call_some.1 hF;refine ⟨n,?_⟩;rw [if_pos hf,hn];rw [hF] at hc;exact hc
    ·cases hc
  | _=>simp [ZX] at hc
theorem qvA {f:Nat} {args:List D} {H:qi} {r:D × qi} (hc:Vw (call X) f args H = some r):∃ n,Vw (jz X n) f args H = some r:=by
 unfold Vw at hc ⊢;split at hc
 ·cases hc
 ·unfold XX at hc ⊢;split at hc
  ·split at hc
   ·rename_i hf;split at hc
    ·rename_i hF;obtain ⟨n,hn⟩:=call_some.1 hF;exact ⟨n,by rw [if_pos hf,hn];exact hc⟩
    ·cases hc
   ·cases hc
  ·cases hc
theorem qvG {f:Nat} {args:List D} {H:qi} {r:D × qi} (hc:Vx X (call X) f args H = some r):∃ n,Vx X (jz X n) f args H = some r:=by
 unfold Vx at hc ⊢;split at hc
 ·rename_i hl;obtain ⟨n,hn⟩:=qvA hc;exact ⟨n,by rw [if_pos hl];exact hn⟩
 ·rename_i hl;obtain ⟨n,hn⟩:=qvD hc;exact ⟨n,by rw [if_neg hl];exact hn⟩
theorem qv6 {f:Nat} {args:List D} {H:qi} {r:D × qi} (hc:Jt X (call X) f args H = some r):∃ n,Jt X (jz X n) f args H = some r:=by
 unfold Jt at hc ⊢;split at hc
 ·rename_i hb;split at hc
  ·rename_i hl;obtain ⟨n,hn⟩:=qvG hc;exact ⟨n,by rw [if_pos hb,if_pos hl];exact hn⟩
  ·rename_i hl;obtain ⟨n,hn⟩:=call_some.1 hc;exact ⟨n,by rw [if_pos hb,if_neg hl];exact hn⟩
 ·rename_i hb;split at hc
  ·rename_i ha;cases hF:call X f args [] with
   | none=>simp [hF] at hc
   | some q =>
    obtain ⟨n,hn⟩:=call_some.1 hF;exact ⟨n,by rw [if_neg hb,if_pos ha,hn];rw [hF] at hc;exact hc⟩
  ·rename_i ha;cases hz:VI H args with
   | none=>simp [hz] at hc
   | some args' =>
    simp only [hz] at hc;cases hF:call X f args' [] with
    | none=>simp [hF] at hc
    | some q =>
     obtain ⟨n,hn⟩:=call_some.1 hF;exact ⟨n,by rw [if_neg hb,if_neg ha];simp only [hn];rw [hF] at hc;exact hc⟩
theorem qe4 {f:Nat} {args:List D} {H:qi} {r:D × qi} (hc:Qs X (call X) f args H = some r):∃ n,Qs X (jz X n) f args H = some r:=by
 by_cases hp:(X.pureF f && !X.byRef f) = true
 ·obtain ⟨h4,h3,h1⟩:=qar hp hc;rcases h1 with ⟨h1,h2⟩ | ⟨h1,hpe,hfl,hv,args',vO,h2⟩
  ·obtain ⟨n,hn⟩:=call_some.1 h2;refine ⟨n,?_⟩;unfold Qs;rw [if_pos hp,if_pos h1,hn];simp only [h3,if_true,← h4]
  ·obtain ⟨n,hn⟩:=call_some.1 h2;refine ⟨n,?_⟩;unfold Qs;rw [if_pos hp,if_neg h1];subst h4;simp only [hpe,hfl,Bool.and_self,if_true,vO,hn,h3,hv]
 ·unfold Qs at hc;rw [if_neg hp] at hc;obtain ⟨n,hn⟩:=qv6 hc;exact ⟨n,by unfold Qs;rw [if_neg hp];exact hn⟩
theorem qvM {f:Nat} {args:List D} {H:qi} {r:D × qi} (hc:Ju X (call X) f args H = some r):∃ n,Ju X (jz X n) f args H = some r:=by
 unfold Ju at hc;split at hc
 ·rename_i hp;obtain ⟨n,hn⟩:=qe4 hc;exact ⟨n,by unfold Ju;rw [hp];exact hn⟩
 ·rename_i hp;split at hc
  ·rename_i H1 hst;obtain ⟨n,hn⟩:=qe4 hc;exact ⟨n,by unfold Ju;rw [hp];simp only [hst];exact hn⟩
  ·cases hc
theorem qvJ {f:Nat} {args:List D} {H:qi} {r:D × qi} (hc:Z2 X (call X) f args H = some r):∃ n,Z2 X (jz X n) f args H = some r:=by
 unfold Z2 at hc;split at hc
 ·rename_i hp;obtain ⟨n,hn⟩:=qvM hc;exact ⟨n,by unfold Z2;rw [hp];exact hn⟩
 ·rename_i hp;split at hc
  ·rename_i args' l hst;obtain ⟨n,hn⟩:=qe4 hc;exact ⟨n,by unfold Z2;rw [hp];simp only [hst];exact hn⟩
  ·cases hc
theorem qiV {o:Op} {e:qp} {H:qi} {r:D × qi} (ho:qW X (call X) o e H = some r):∃ n,qW X (jz X n) o e H = some r:=by
 cases o with
 | call c =>
  simp only [qW] at ho ⊢;cases hc:c.callee with
  | builtin b=>cases ha:jT X e c.args.toList <;> simp only [hc,ha] at ho ⊢ <;> first | exact ⟨0,ho⟩ | cases ho
  | invoke r m=>cases ha:jT X e c.args.toList <;> simp only [hc,ha] at ho <;> cases ho
  | value g =>
   simp only [hc] at ho ⊢;cases ha:jT X e c.args.toList with
   | none=>simp [ha] at ho
   | some args =>
    simp only [ha] at ho ⊢;split at ho
    ·rename_i f caps hg;obtain ⟨n,hn⟩:=qvJ ho;exact ⟨n,hn⟩
    ·cases ho
 | makeFunc g _ _=>cases g <;> exact ⟨0,ho⟩
 | slice _ _ _ _ m=>cases m <;> exact ⟨0,ho⟩
 | _=>exact ⟨0,ho⟩
theorem qiY {drw:Bool} {o:Op} {e:qp} {H:qi} {r:D × qi} (ho:qE X (call X) drw o e H = some r):∃ n,qE X (jz X n) drw o e H = some r:=by
 unfold qE at ho ⊢;split at ho
 ·exact ⟨0,ho⟩
 ·exact ⟨0,ho⟩
 ·split at ho
  ·cases ho
  ·rename_i hb;obtain ⟨n,hn⟩:=qiV ho;exact ⟨n,by simp only [hb];exact hn⟩
 ·exact qiV ho
theorem qei {nt:Nat} {drw:Bool} {ops:Array Oper}:∀ {l:List Oper} {e:qp} {H:qi} {r:qp × qi},je X (call X) nt drw ops l e H = some r→∃ n,je X (jz X n) nt drw ops l e H = some r
 | [],_,_,_,ho=>⟨0,ho⟩
 | o :: l,e,H,r,ho=>by
  simp only [je] at ho;cases hd:jQ nt o.dst <;> simp only [hd] at ho
  ·cases ho
  ·cases hg:jc ops e o.guard with
   | none=>simp [hg] at ho
   | some b =>
    cases b <;> simp only [hg] at ho
    ·obtain ⟨n,hn⟩:=qei ho;exact ⟨n,by simp only [je,hd,hg];exact hn⟩
    ·cases hx:qE X (call X) drw o.op e H with
     | none=>simp [hx] at ho
     | some q =>
      rw [hx] at ho;obtain ⟨n,hn⟩:=qiY hx;obtain ⟨m,hm⟩:=qei ho;refine ⟨max n m,?_⟩;simp only [je,hd,hg];rw [qbL (YZ (Nat.le_max_left n m)) hn];exact YW (YZ (Nat.le_max_right n m)) hm
theorem quj {nt:Nat} {drw:Bool} {ops:Array Oper} {l:List Oper} {e:qp} {H:qi} {r:qp × qi}:je X (call X) nt drw ops l e H = some r↔∃ n,je X (jz X n) nt drw ops l e H = some r :=
 ⟨qei,fun ⟨n,hn⟩=>YW (qiZ n) hn⟩
theorem qej {nt:Nat} {ow:List Nat} {ops:Array Oper} {L:kt}:∀ {l:List Oper} {k:Nat} {ws:List (Nat × qi × qi)} {rs:List (Nat × List Nat)} {e:qp} {H:qi} {r:qp × qi},vG X (call X) nt ow ops L k ws rs l e H = some r→∃ n,vG X (jz X n) nt ow ops L k ws rs l e H = some r
 | [],_,_,_,_,_,_,ho=>⟨0,by simpa [vG] using ho⟩
 | o :: l,k,ws,rs,e,H,r,ho=>by
  simp only [vG] at ho;cases hd:jQ nt o.dst <;> simp only [hd] at ho
  ·cases ho
  ·cases hg:jc ops e o.guard with
   | none=>simp [hg] at ho
   | some b =>
    cases b <;> simp only [hg] at ho
    ·obtain ⟨n,hn⟩:=qej ho;exact ⟨n,by simp only [vG,hd,hg];exact hn⟩
    ·cases hx:qE X (call X) (Q5 ow o.dst) o.op e H with
     | none=>simp [hx] at ho
     | some q =>
      rw [hx] at ho;simp only at ho;split at ho
      ·rename_i hc;obtain ⟨n,hn⟩:=qiY hx;obtain ⟨m,hm⟩:=qej ho;refine ⟨max n m,?_⟩;simp only [vG,hd,hg];rw [qbL (YZ (Nat.le_max_left n m)) hn];simp only;rw [if_pos hc];exact YY (YZ (Nat.le_max_right n m)) hm
      ·cases ho
theorem evR_lim {f nt id:Nat} {draw:Bool} {ops:Array Oper} {e:qp} {H:qi} {r:qp × qi}:Ze X (call X) f nt id draw ops e H = some r↔∃ n,Ze X (jz X n) f nt id draw ops e H = some r:=by
 unfold Ze;split
 ·exact ⟨qej,fun ⟨n,hn⟩=>YY (qiZ n) hn⟩
 ·exact quj
theorem Kq {α:Type} {x y:Option α} (h:∀ r,x = some r↔y = some r):x = y:=by
 cases x with
 | none =>
  cases y with
  | none=>rfl
  | some b=>exact absurd ((h b).2 rfl) (by simp)
 | some a=>exact ((h a).1 rfl).symm
section eqs
variable {f nt n0:Nat} {e:qp} {H:qi}
theorem qvj:code X f nt n0 .skip e H = some (.normal,e,H):=code_some.2 ⟨1,rfl⟩
theorem qvn {l:Nat}:code X f nt n0 (.label l) e H = some (.normal,e,H):=code_some.2 ⟨1,rfl⟩
theorem qvo {i:Nat}:code X f nt n0 (.exit i) e H = some (.exit i,e,H):=code_some.2 ⟨1,rfl⟩
theorem qvm:code X f nt n0 .ret e H = some (.ret,e,H):=code_some.2 ⟨1,rfl⟩
theorem qjC {id:Nat} {ops:Array Oper} {draw:Bool}:code X f nt n0 (.region id ops draw) e H = match enter X f n0 id e H with
  | none=>none
  | some (e,H)=>(Ze X (call X) f nt id draw ops e H).map fun (e,H)=>(.normal,e,H):=by
 refine Kq fun r=>?_;rw [code_some];cases vW:enter X f n0 id e H with
 | none =>
  simp only [reduceCtorEq,iff_false,not_exists];intro n h;cases n <;> simp [qG,vW] at h
 | some q =>
  obtain ⟨e1,H1⟩:=q;constructor
  ·rintro ⟨n,hn⟩;cases n with
   | zero=>simp [qG] at hn
   | succ n =>
    simp only [qG,vW] at hn;cases ho:Ze X (jz X n) f nt id draw ops e1 H1 with
    | none=>simp [ho] at hn
    | some q =>
     simp only [evR_lim.2 ⟨n,ho⟩];rw [ho] at hn;exact hn
  ·intro h;simp only at h;cases ho:Ze X (call X) f nt id draw ops e1 H1 with
   | none=>simp [ho] at h
   | some q =>
    obtain ⟨n,hn⟩:=evR_lim.1 ho;refine ⟨n+1,?_⟩;simp only [qG,vW,hn];rw [ho] at h;exact h
theorem qvk {a b:Code}:code X f nt n0 (.seq a b) e H = match code X f nt n0 a e H with
  | some (.normal,e,H)=>code X f nt n0 b e H
  | r=>r:=by
 refine Kq fun r=>?_;rw [code_some];constructor
 ·rintro ⟨n,hn⟩;cases n with
  | zero=>simp [qG] at hn
  | succ n =>
   simp only [qG] at hn;cases ha:qG X n f nt n0 a e H with
   | none=>simp [ha] at hn
   | some q =>
    obtain ⟨ex,e1,H1⟩:=q;rw [code_some.2 ⟨n,ha⟩];rw [ha] at hn;cases ex with
    | normal=>exact code_some.2 ⟨n,hn⟩
    | exit i=>exact hn
    | ret=>exact hn
 ·intro h;cases ha:code X f nt n0 a e H with
  | none=>simp [ha] at h
  | some q =>
   obtain ⟨n,hn⟩:=code_some.1 ha;obtain ⟨ex,e1,H1⟩:=q;rw [ha] at h;cases ex with
   | normal =>
    obtain ⟨m,hm⟩:=code_some.1 h;refine ⟨max n m+1,?_⟩;simp only [qG,qaa (Nat.le_max_left n m) hn];exact qaa (Nat.le_max_right n m) hm
   | exit i=>exact ⟨n+1,by simp only [qG,hn];exact h⟩
   | ret=>exact ⟨n+1,by simp only [qG,hn];exact h⟩
theorem qvp {c:Operand} {a b:Code}:code X f nt n0 (.cond c a b) e H = match qH X e c with
  | some (.bool t)=>code X f nt n0 (if t then a else b) e H
  | _=>none:=by
 refine Kq fun r=>?_;rw [code_some];constructor
 ·rintro ⟨n,hn⟩;cases n with
  | zero=>simp [qG] at hn
  | succ n =>
   simp only [qG] at hn;split at hn
   ·rename_i hc;rw [hc];exact code_some.2 ⟨n,hn⟩
   ·cases hn
 ·intro h;split at h
  ·rename_i t hc;obtain ⟨n,hn⟩:=code_some.1 h;exact ⟨n+1,by simp only [qG,hc];exact hn⟩
  ·cases h
theorem qvq {id:Nat} {c:Code}:code X f nt n0 (.block id c) e H = match code X f nt n0 c e H with
  | some (.exit i,e,H)=>if i = id then some (.normal,e,H) else some (.exit i,e,H)
  | r=>r:=by
 refine Kq fun r=>?_;rw [code_some];constructor
 ·rintro ⟨n,hn⟩;cases n with
  | zero=>simp [qG] at hn
  | succ n =>
   simp only [qG] at hn;cases ha:qG X n f nt n0 c e H with
   | none=>simp [ha] at hn
   | some q=>rw [code_some.2 ⟨n,ha⟩];rw [ha] at hn;exact hn
 ·intro h;cases ha:code X f nt n0 c e H with
  | none=>simp [ha] at h
  | some q =>
   obtain ⟨n,hn⟩:=code_some.1 ha;exact ⟨n+1,by simp only [qG,hn];rw [ha] at h;exact h⟩
theorem qvl {c:Code}:code X f nt n0 (.scope c) e H = code X f nt n0 c e H:=by
 refine Kq fun r=>?_;rw [code_some,code_some];constructor
 ·rintro ⟨n,hn⟩;cases n with
  | zero=>simp [qG] at hn
  | succ n=>exact ⟨n,hn⟩
 ·rintro ⟨n,hn⟩;exact ⟨n+1,hn⟩
theorem qex {c:Code}:code X f nt n0 (.loop c) e H = match code X f nt n0 c e H with
  | some (.normal,e,H)=>code X f nt n0 (.loop c) e H
  | r=>r:=by
 refine Kq fun r=>?_;rw [code_some];constructor
 ·rintro ⟨n,hn⟩;cases n with
  | zero=>simp [qG] at hn
  | succ n =>
   rw [qG] at hn;cases ha:qG X n f nt n0 c e H with
   | none=>simp [ha] at hn
   | some q =>
    obtain ⟨ex,e1,H1⟩:=q;rw [code_some.2 ⟨n,ha⟩];rw [ha] at hn;cases ex with
    | normal=>exact code_some.2 ⟨n,hn⟩
    | exit i=>exact hn
    | ret=>exact hn
 ·intro h;cases ha:code X f nt n0 c e H with
  | none=>simp [ha] at h
  | some q =>
   obtain ⟨n,hn⟩:=code_some.1 ha;obtain ⟨ex,e1,H1⟩:=q;rw [ha] at h;cases ex with
   | normal =>
    obtain ⟨m,hm⟩:=code_some.1 h;refine ⟨max n m+1,?_⟩;rw [qG];simp only [qaa (Nat.le_max_left n m) hn];exact qaa (Nat.le_max_right n m) hm
   | exit i=>exact ⟨n+1,by rw [qG];simp only [hn];exact h⟩
   | ret=>exact ⟨n+1,by rw [qG];simp only [hn];exact h⟩
def V4 (o : Oper) : Oper := { dst := o.dst, op := o.op, type := 0, pos := "", after := #[], guard := o.guard }
def kc:List Oper→List Oper
 | []=>[]
 | o :: l=>V4 o :: kc l
def vx:Code→Code
 | .region id ops draw=>.region id (kc ops.toList).toArray draw
 | .seq a b=>.seq (vx a) (vx b)
 | .cond x a b=>.cond x (vx a) (vx b)
 | .block id c=>.block id (vx c)
 | .loop c=>.loop (vx c)
 | .scope c=>.scope (vx c)
 | c=>c
theorem qfl:∀ (l:List Oper) (j:Nat),((kc l)[j]?).bind (·.dst) = (l[j]?).bind (·.dst)
 | [],j=>by simp [kc]
 | o :: l,0=>by simp [kc,V4]
 | o :: l,j+1=>by simp [kc,qfl l j]
theorem qiv (ops:Array Oper) (e:qp) (g:Option (Nat × Bool)):jc (kc ops.toList).toArray e g = jc ops e g:=by
 cases g with
 | none=>rfl
 | some q =>
  obtain ⟨j,want⟩:=q;have h:=qfl ops.toList j;simp only [jc];have e1:((kc ops.toList).toArray[j]?) = (kc ops.toList)[j]?:=by simp
  have e2:ops[j]? = ops.toList[j]?:=by simp
  rw [e1,e2,h]
theorem qiR {F:qY} {drw:Bool} (ops:Array Oper):∀ (l:List Oper) (e:qp) (H:qi),je X F nt drw (kc ops.toList).toArray (kc l) e H = je X F nt drw ops l e H
 | [],e,H=>rfl
 | o :: l,e,H=>by
  simp only [kc,je,V4,qiv,qiR ops l]
theorem qiS {F:qY} {ow:List Nat} (ops:Array Oper) {L:kt}:∀ (l:List Oper) (k:Nat) (ws:List (Nat × qi × qi)) (rs:List (Nat × List Nat)) (e:qp) (H:qi),vG X F nt ow (kc ops.toList).toArray L k ws rs (kc l) e H = vG X F nt ow ops L k ws rs l e H
 | [],k,ws,rs,e,H=>by simp only [kc,vG]
 | o :: l,k,ws,rs,e,H=>by
  simp only [kc,vG,V4,qiv,qiS ops l]
theorem qgV:∀ (l:List Oper),Kn (kc l) = Kn l
 | []=>rfl
 | o :: l=>by simp only [kc,Kn,V4,qgV l]
theorem qul:∀ (n:Nat) (c:Code) (e:qp) (H:qi),qG X n f nt n0 (vx c) e H = qG X n f nt n0 c e H:=by
 intro n
 induction n with
 | zero=>intro c e H;simp [qG]
 | succ n ih =>
  intro c e H;cases c with
  | region id ops draw =>
   simp only [vx,qG];cases enter X f n0 id e H with
   | none=>rfl
   | some q =>
    obtain ⟨e1,H1⟩:=q;have:(kc ops.toList).toArray.toList = kc ops.toList:=(by simp);cases draw <;> cases hlp:X.lp f id <;> simp only [Ze,hlp,qiR,qiS,qgV,Y1]
  | seq a b=>simp only [vx,qG,ih]
  | cond x a b =>
   simp only [vx,qG];split
   ·rename_i t _;cases t <;> simp only [ih,if_true,if_false,Bool.false_eq_true]
   ·rfl
  | block id c=>simp only [vx,qG,ih]
  | loop c =>
   have:=ih (.loop c);simp only [vx] at this;simp only [vx,qG,ih,this]
  | scope c=>simp only [vx,qG,ih]
  | _=>rfl
theorem qbU {c:Code}:code X f nt n0 (vx c) e H = code X f nt n0 c e H:=by
 unfold code;congr 1;funext n;exact qul n c e H
theorem Vv {args:List D} {r:D × qi} (Q3:X.con f args H = some r):call X f args H = some r:=call_some.2 ⟨1,by simp only [jz,Q3]⟩
theorem qv4 {fn:Func} {c:Code} {args:List D} (Q3:X.con f args H = none) (hf:X.P.funcs[f]? = some fn) (hb:fn.body = some c) (hbad:X.bad f = false) :
  call X f args H = match code X f fn.ntmps H.length c (kG 0 args) H with
   | some (.normal,e,H') | some (.ret,e,H')=>match kL X e H' fn.results.toList with
    | some ds=>Zt (X.fzr f) H.length H' (Zu ds)
    | none=>none
   | _=>none:=by
 refine Kq fun r=>?_;rw [call_some];constructor
 ·rintro ⟨n,hn⟩;cases n with
  | zero=>simp [jz] at hn
  | succ n =>
   simp only [jz,Q3,hf,hb,hbad,Bool.false_eq_true,if_false] at hn;cases hc:qG X n f fn.ntmps H.length c (kG 0 args) H with
   | none=>simp [hc] at hn
   | some q=>rw [code_some.2 ⟨n,hc⟩];rw [hc] at hn;exact hn
 ·intro h;cases hc:code X f fn.ntmps H.length c (kG 0 args) H with
  | none=>simp [hc] at h
  | some q =>
   obtain ⟨n,hn⟩:=code_some.1 hc;refine ⟨n+1,?_⟩;simp only [jz,Q3,hf,hb,hbad,Bool.false_eq_true,if_false,hn];rw [hc] at h;exact h
theorem qe2 {fn:Func} {args:List D} (Q3:X.con f args H = none) (hf:X.P.funcs[f]? = some fn) (hb:fn.body = none):call X f args H = (X.ext f args).map (·,H):=by
 refine Kq fun r=>?_;rw [call_some];constructor
 ·rintro ⟨n,hn⟩;cases n with
  | zero=>simp [jz] at hn
  | succ n =>
   simp only [jz,Q3,hf,hb] at hn;exact hn
 ·intro h;exact ⟨1,by simp only [jz,Q3,hf,hb];exact h⟩
end eqs
theorem qbZ (hG:Good X):Z6 X (call X):=by
 intro f args H r H' ok w ι vs h hs hv;obtain ⟨n,hn⟩:=call_some.1 h;exact (qfu hG n).1 f args H r H' ok w ι vs hn hs hv
end
end Go.Ev
namespace Go.Ev
def Vt (ks:List Nat):Nat→Nat→qp→qi→Option (qp × qi)
 | 0,_,e,H=>some (v6 ks e,H)
 | k+1,n0,e,H=>if H.length≤n0+k then some (v6 ks e,H)
  else if VK (n0+k) (v6 ks e) && (H.take (n0+k)).all (ka (n0+k)) then some (v6 ks e,H.take (n0+k)) else none
def qel (zs ks:List Nat) (k n0:Nat) (e:qp) (H:qi):Option (qp × qi) :=
 match XO zs e H with
 | some (e,H)=>Vt ks k n0 e H
 | none=>none
def Qa (zs S ks:List Nat) (n0:Nat) (e:qp) (H:qi):Option (qp × qi) :=
 match zs with
 | []=>X7 n0 S ks e H
 | zs=>match XO zs e H with
  | some (e,H)=>X7 n0 S ks e H
  | none=>none
def qjg (ss:List Nat) (g:qi→Option (qp × qi)) (e:qp) (H:qi):Option (qp × qi) :=
 match VZ e ss H with
 | some H=>g H
 | none=>none
def zo:List Nat→Code→Code
 | [],c=>c
 | 0 :: p,.seq a _=>zo p a
 | _ :: p,.seq _ b=>zo p b
 | 0 :: p,.cond _ a _=>zo p a
 | _ :: p,.cond _ _ b=>zo p b
 | _ :: p,.block _ c=>zo p c
 | _ :: p,.scope c=>zo p c
 | _ :: p,.loop c=>zo p c
 | _,c=>c
def qN (f:Func):Code:=f.body.getD .skip
attribute [simp] qvj qvn qvo qvm qvp
attribute [simp] V4 kc vx jQ qW qE ZW qH jT JQ kQ Xc Xb qf jH v6 Vt qel Qa qjg VZ X4 kG kL Zu qcg Qt qb2 KE Z2 Ju qc2 Qs Vs Jt Ku Yk JV qo hset cellsOf qbJ qbI YV Vm Y7 qb5 qb4 KS KG YK YF KB Vx ZX noZ noZ.noZL qcd VO YG X2 J7 KM Yl qch qbT Xs KD jx Yp jV ZT JJ vQ idFree idFree.idFreeL vFree vFree.vFreeL closed closed.closedL ka qe7 VK VB pack1 pack1.packs Zt Y8 Z7 jg jU ZI KR XO Vf ZZ X7 qaU qcO JM V9 V8 KX JN renD renD.renL JZ YE JH Zc shift shift.shiftL freeze freeze.freezeL VI qsI zo qN strD
@[simp low] theorem Yq (ds:List D) (off:Nat) (xs:List D):qA ds off xs = ds.take off ++ xs ++ ds.drop (off+xs.length):=rfl
section
variable {X:Cx} {f nt n0:Nat}
inductive Fr where
 | seq (b:Code)
 | block (id:Nat)
def Run (X:Cx) (f nt n0:Nat) (Q:Ex→qp→qi→Prop):List Fr→Option (Ex × qp × qi)→Prop
 | _,none=>False
 | [],some (ex,e,H)=>Q ex e H
 | .seq b :: fs,some (.normal,e,H)=>Run X f nt n0 Q fs (code X f nt n0 b e H)
 | .seq _ :: fs,some (ex,e,H)=>Run X f nt n0 Q fs (some (ex,e,H))
 | .block id :: fs,some (.exit i,e,H)=>if i = id then Run X f nt n0 Q fs (some (.normal,e,H)) else Run X f nt n0 Q fs (some (.exit i,e,H))
 | .block _ :: fs,some (ex,e,H)=>Run X f nt n0 Q fs (some (ex,e,H))
variable {Q:Ex→qp→qi→Prop} {fs:List Fr} {e:qp} {H:qi} {a b c:Code}
theorem vJ:Run X f nt n0 Q fs none = False:=by unfold Run;rfl
theorem Jd {ex:Ex}:Run X f nt n0 Q [] (some (ex,e,H)) = Q ex e H:=by unfold Run;rfl
theorem qfB:Run X f nt n0 Q (.seq b :: fs) (some (.normal,e,H)) = Run X f nt n0 Q fs (code X f nt n0 b e H):=by rw [Run]
theorem qfC {i:Nat}:Run X f nt n0 Q (.seq b :: fs) (some (.exit i,e,H)) = Run X f nt n0 Q fs (some (.exit i,e,H)):=by rw [Run];intro h;cases h
theorem qcC:Run X f nt n0 Q (.seq b :: fs) (some (.ret,e,H)) = Run X f nt n0 Q fs (some (.ret,e,H)):=by rw [Run];intro h;cases h
theorem qfE {id:Nat}:Run X f nt n0 Q (.block id :: fs) (some (.normal,e,H)) = Run X f nt n0 Q fs (some (.normal,e,H)):=by rw [Run];intro i h;cases h
theorem qfD {id:Nat}:Run X f nt n0 Q (.block id :: fs) (some (.ret,e,H)) = Run X f nt n0 Q fs (some (.ret,e,H)):=by rw [Run];intro i h;cases h
theorem qfF {id i:Nat}:Run X f nt n0 Q (.block id :: fs) (some (.exit i,e,H)) = if i = id then Run X f nt n0 Q fs (some (.normal,e,H)) else Run X f nt n0 Q fs (some (.exit i,e,H)):=by rw [Run]
theorem qmb:Run X f nt n0 Q fs (code X f nt n0 (.seq a b) e H) = Run X f nt n0 Q (.seq b :: fs) (code X f nt n0 a e H):=by
 rw [qvk];cases h:code X f nt n0 a e H with
 | none=>simp [vJ]
 | some q =>
  obtain ⟨ex,e1,H1⟩:=q;cases ex with
  | normal=>rw [qfB]
  | exit i=>rw [qfC]
  | ret=>rw [qcC]
theorem qfG {id:Nat}:Run X f nt n0 Q fs (code X f nt n0 (.block id c) e H) = Run X f nt n0 Q (.block id :: fs) (code X f nt n0 c e H):=by
 rw [qvq];cases h:code X f nt n0 c e H with
 | none=>simp [vJ]
 | some q =>
  obtain ⟨ex,e1,H1⟩:=q;cases ex with
  | normal=>rw [qfE]
  | exit i=>rw [qfF];by_cases hi:i = id <;> simp [hi]
  | ret=>rw [qfD]
theorem qmc:Run X f nt n0 Q fs (code X f nt n0 (.scope c) e H) = Run X f nt n0 Q fs (code X f nt n0 c e H):=by rw [qvl]
theorem Run.mono {o:Option (Ex × qp × qi)} {R:Ex→qp→qi→Prop} (h:Run X f nt n0 R [] o) (hq:∀ ex e H,R ex e H→Run X f nt n0 Q fs (some (ex,e,H))):Run X f nt n0 Q fs o:=by
 cases o with
 | none=>rw [vJ] at h;exact h.elim
 | some q =>
  obtain ⟨ex,e1,H1⟩:=q;rw [Jd] at h;exact hq _ _ _ h
theorem Run.loop {σ:Type} (I:σ→qp→qi→Prop) (m:σ→Nat)
  (step:∀ s e H,I s e H→Run X f nt n0 (fun ex e' H'=>match ex with | .normal=>∃ s',m s' < m s∧I s' e' H' | ex=>Q ex e' H') [] (code X f nt n0 c e H)) :
  ∀ s e H,I s e H→Run X f nt n0 Q [] (code X f nt n0 (.loop c) e H):=by
 suffices h:∀ k s e H,m s < k→I s e H→Run X f nt n0 Q [] (code X f nt n0 (.loop c) e H) from
  fun s e H hi=>h (m s+1) s e H (Nat.lt_succ_self _) hi
 intro k
 induction k with
 | zero=>intro s e H h;omega
 | succ k ih =>
  intro s e H hk hi;have hs:=step s e H hi;rw [qex];cases ho:code X f nt n0 c e H with
  | none=>rw [ho,vJ] at hs;exact hs.elim
  | some q =>
   obtain ⟨ex,e1,H1⟩:=q;rw [ho,Jd] at hs;cases ex with
   | normal =>
    obtain ⟨s',qg,hi'⟩:=hs;exact ih s' e1 H1 (by omega) hi'
   | exit i=>exact hs
   | ret=>exact hs
def Fin (X:Cx) (z:Bool) (rs:List ResultVar) (n0:Nat) (r:D × qi):Ex→qp→qi→Prop
 | .exit _,_,_=>False
 | _,e,H=>(kL X e H rs).bind (fun ds=>Zt z n0 H (Zu ds)) = some r
theorem qeb {z:Bool} {rs:List ResultVar} {r:D × qi}:Fin X z rs n0 r .ret e H = ((kL X e H rs).bind (fun ds=>Zt z n0 H (Zu ds)) = some r):=rfl
theorem qec {z:Bool} {rs:List ResultVar} {r:D × qi}:Fin X z rs n0 r .normal e H = ((kL X e H rs).bind (fun ds=>Zt z n0 H (Zu ds)) = some r):=rfl
theorem qq {fn:Func} {args:List D} {r:D × qi} (hf:X.P.funcs[f]? = some fn) (hb:fn.body.isSome = true) (hbad:X.bad f = false∧X.con f args H = none)
  (h:Run X f fn.ntmps H.length (Fin X (X.fzr f) fn.results.toList H.length r) [] (code X f fn.ntmps H.length (vx (qN fn)) (kG 0 args) H)):call X f args H = some r:=by
 rw [qbU] at h;cases zy:fn.body with
 | none=>rw [zy] at hb;cases hb
 | some c =>
  have hc:qN fn = c:=by simp only [qN,zy,Option.getD_some]
  rw [hc] at h;rw [qv4 hbad.2 hf zy hbad.1];cases ho:code X f fn.ntmps H.length c (kG 0 args) H with
  | none=>rw [ho,vJ] at h;exact h.elim
  | some q =>
   obtain ⟨ex,e1,H1⟩:=q;rw [ho,Jd] at h;cases ex with
   | exit i=>exact h.elim
   | normal =>
    rw [qec] at h;cases hr:kL X e1 H1 fn.results.toList with
    | none=>rw [hr] at h;cases h
    | some ds=>rw [hr] at h;simpa [hr] using h
   | ret =>
    rw [qeb] at h;cases hr:kL X e1 H1 fn.results.toList with
    | none=>rw [hr] at h;cases h
    | some ds=>rw [hr] at h;simpa [hr] using h
end
attribute [simp] vJ Jd qfB qfC qcC qfE qfD qfF qmb qfG qmc qeb qec
end Go.Ev
namespace Go.Ev
mutual
theorem qok (n0:Nat) (H:qi) (seen:List Nat) (acc:qi):∀ (d:D),idFree d = true→pack1 n0 H seen acc d = some (d,seen,acc)
 | .agg cs,h=>by simp only [idFree] at h;simp only [pack1,qbd n0 H seen acc cs h,Option.map_some]
 | .tup cs,h=>by simp only [idFree] at h;simp only [pack1,qbd n0 H seen acc cs h,Option.map_some]
 | .fn f cs,h=>by simp only [pack1,h,if_true]
 | .iface t d,h=>by simp only [pack1,h,if_true]
 | .optr ..,h=>by simp [idFree] at h
 | .osl ..,h=>by simp [idFree] at h
 | .bool _,_=>rfl
 | .int _ _,_=>rfl
 | .str _,_=>rfl
 | .nilp,_=>rfl
 | .nilf,_=>rfl
 | .nili,_=>rfl
 | .raw _,_=>rfl
 | .vptr _,_=>rfl
 | .vsl ..,_=>rfl
theorem qbd (n0:Nat) (H:qi) (seen:List Nat) (acc:qi):∀ (cs:List D),idFree.idFreeL cs = true→pack1.packs n0 H seen acc cs = some (cs,seen,acc)
 | [],_=>rfl
 | d :: l,h=>by
  simp only [idFree.idFreeL,Bool.and_eq_true] at h;simp only [pack1.packs,qok n0 H seen acc d h.1,qbd n0 H seen acc l h.2]
end
mutual
theorem qf3 (n:Nat):∀ (d:D),idFree d = true→shift n d = d
 | .agg cs,h=>by simp only [idFree] at h;simp only [shift,Yo n cs h]
 | .tup cs,h=>by simp only [idFree] at h;simp only [shift,Yo n cs h]
 | .fn f cs,h=>by simp only [idFree] at h;simp only [shift,Yo n cs h]
 | .iface t d,h=>by simp only [idFree] at h;simp only [shift,qf3 n d h]
 | .optr ..,h=>by simp [idFree] at h
 | .osl ..,h=>by simp [idFree] at h
 | .bool _,_=>rfl
 | .int _ _,_=>rfl
 | .str _,_=>rfl
 | .nilp,_=>rfl
 | .nilf,_=>rfl
 | .nili,_=>rfl
 | .raw _,_=>rfl
 | .vptr _,_=>rfl
 | .vsl ..,_=>rfl
theorem Yo (n:Nat):∀ (cs:List D),idFree.idFreeL cs = true→shift.shiftL n cs = cs
 | [],_=>rfl
 | d :: l,h=>by
  simp only [idFree.idFreeL,Bool.and_eq_true] at h;simp only [shift.shiftL,qf3 n d h.1,Yo n l h.2]
end
mutual
theorem qjM (n:Nat):∀ (d:D),idFree d = true→closed n d = true
 | .agg cs,h=>by simp only [idFree] at h;simp only [closed,ZJ n cs h]
 | .tup cs,h=>by simp only [idFree] at h;simp only [closed,ZJ n cs h]
 | .fn f cs,h=>by simp only [idFree] at h;simp only [closed,ZJ n cs h]
 | .iface t d,h=>by simp only [idFree] at h;simp only [closed,qjM n d h]
 | .optr ..,h=>by simp [idFree] at h
 | .osl ..,h=>by simp [idFree] at h
 | .bool _,_=>rfl
 | .int _ _,_=>rfl
 | .str _,_=>rfl
 | .nilp,_=>rfl
 | .nilf,_=>rfl
 | .nili,_=>rfl
 | .raw _,_=>rfl
 | .vptr _,_=>rfl
 | .vsl ..,_=>rfl
theorem ZJ (n:Nat):∀ (cs:List D),idFree.idFreeL cs = true→closed.closedL n cs = true
 | [],_=>rfl
 | d :: l,h=>by
  simp only [idFree.idFreeL,Bool.and_eq_true] at h;simp only [closed.closedL,qjM n d h.1,ZJ n l h.2,Bool.and_self]
end
theorem qbH (H:qi):∀ (cs:List D),idFree.idFreeL cs = true→freeze.freezeL H cs = some cs
 | [],_=>rfl
 | d :: l,h=>by
  simp only [idFree.idFreeL,Bool.and_eq_true] at h
  have hd:freeze H d = some d:=by
   cases d with
   | agg cs=>have h1:=h.1;simp only [idFree] at h1;simp only [freeze,qbH H cs h1,Option.map_some]
   | fn f cs=>have h1:=h.1;simp only [idFree] at h1;simp only [freeze,qbH H cs h1,Option.map_some]
   | osl _ _ _ _ _=>simp [idFree] at h
   | optr _ _ _=>simp [idFree] at h
   | _=>simp only [freeze,h.1,if_true]
  simp only [freeze.freezeL,hd,qbH H l h.2]
theorem XK:∀ (cs:List D),idFree.idFreeL cs = cs.all idFree
 | []=>rfl
 | d :: l=>by simp only [idFree.idFreeL,List.all_cons,XK l]
theorem KC (n:Nat):∀ (cs:List D),closed.closedL n cs = cs.all (closed n)
 | []=>rfl
 | d :: l=>by simp only [closed.closedL,List.all_cons,KC n l]
theorem qif:∀ (a b:List D),idFree.idFreeL (a ++ b) = (idFree.idFreeL a && idFree.idFreeL b)
 | [],b=>by simp [idFree.idFreeL]
 | x :: a,b=>by simp [idFree.idFreeL,qif a b,Bool.and_assoc]
theorem qjN (n:Nat):∀ (a b:List D),closed.closedL n (a ++ b) = (closed.closedL n a && closed.closedL n b)
 | [],b=>by simp [closed.closedL]
 | x :: a,b=>by simp [closed.closedL,qjN n a b,Bool.and_assoc]
theorem qeU:∀ (a b:List D),vFree.vFreeL (a ++ b) = (vFree.vFreeL a && vFree.vFreeL b)
 | [],b=>by simp [vFree.vFreeL]
 | x :: a,b=>by simp [vFree.vFreeL,qeU a b,Bool.and_assoc]
@[simp] theorem qo2 (s:List UInt8):(qd s).length = s.length:=by simp [qd]
@[simp] theorem qtb (s:List UInt8):idFree.idFreeL (qd s) = true:=by
 induction s with
 | nil=>rfl
 | cons a s ih=>simpa [qd,idFree.idFreeL,idFree] using ih
@[simp] theorem qwP (s:List UInt8):vFree.vFreeL (qd s) = true:=by
 induction s with
 | nil=>rfl
 | cons a s ih=>simpa [qd,vFree.vFreeL,vFree] using ih
@[simp] theorem q4o (n:Nat) (s:List UInt8):closed.closedL n (qd s) = true:=ZJ n _ (qtb s)
@[simp] theorem qw7 (s:List UInt8):(qd s).all idFree = true:=by simp [qd,idFree]
@[simp] theorem qw8 (n:Nat) (s:List UInt8):(qd s).all (closed n) = true:=by simp [qd,closed]
@[simp] theorem qw5 (s:List UInt8):(qd s).all vFree = true:=by simp [qd,vFree]
@[simp] theorem qx3 {s:List UInt8} {n:Nat} (h:s.length≤n):(qd s).take n = qd s:=List.take_of_length_le (by simpa using h)
@[simp] theorem q4t (s:List UInt8):(∀ x,x∈qd s→idFree x = true) = True:=eq_true (List.all_eq_true.1 (qw7 s))
@[simp] theorem q4u (s:List UInt8) (n:Nat):(∀ x,x∈qd s→closed n x = true) = True:=eq_true (List.all_eq_true.1 (qw8 n s))
@[simp] theorem q4s (s:List UInt8):(∀ x,x∈qd s→vFree x = true) = True:=eq_true (List.all_eq_true.1 (qw5 s))
attribute [simp] qbd Yo ZJ qbH qif qjN qeU
theorem wrap_i64 {n:Int} (h:-9223372036854775808≤n∧n < 9223372036854775808):IntKind.i64.wrap n = n:=by
 simp only [IntKind.wrap,IntKind.signed,IntKind.bits];simp;omega
theorem qK {n:Int} (h:0≤n∧n < 18446744073709551616):IntKind.u64.wrap n = n:=by
 simp only [IntKind.wrap,IntKind.signed,IntKind.bits];simp;omega
theorem Qd {n:Int} (h:0≤n∧n < 256):IntKind.u8.wrap n = n:=by
 simp only [IntKind.wrap,IntKind.signed,IntKind.bits];simp;omega
theorem Jx {n:Int} (h:0≤n∧n < 4294967296):IntKind.u32.wrap n = n:=by
 simp only [IntKind.wrap,IntKind.signed,IntKind.bits];simp;omega
theorem qkI {n:Int} (h:0≤n∧n < 65536):IntKind.u16.wrap n = n:=by
 simp only [IntKind.wrap,IntKind.signed,IntKind.bits];simp;omega
theorem qcn {n:Int} (h:-2147483648≤n∧n < 2147483648):IntKind.i32.wrap n = n:=by
 simp only [IntKind.wrap,IntKind.signed,IntKind.bits];simp;omega
theorem qkb {n x:Nat} (h:x < 2 ^ n):(BitVec.ofInt n (x:Int)).toNat = x:=by
 rw [BitVec.ofInt_natCast,BitVec.toNat_ofNat,Nat.mod_eq_of_lt h]
theorem qkJ {k:IntKind} (hk:k.signed = false) {x:Nat} (h:x < 2 ^ k.bits):k.wrap (x:Int) = (x:Int):=by
 have:((x:Int) % (2 ^ k.bits:Int)) = x:=Int.emod_eq_of_lt (by omega) (by exact_mod_cast h);simp only [IntKind.wrap,hk];simpa using this
theorem qgY {k:IntKind} (hk:k.signed = false) {x y:Nat} (hx:x < 2 ^ k.bits) (hy:y < 2 ^ k.bits):Ji k x y = ((x ||| y:Nat):Int):=by
 unfold Ji;rw [BitVec.toNat_or,qkb hx,qkb hy,qkJ hk (Nat.or_lt_two_pow hx hy)]
attribute [simp] wrap_i64 qK Qd Jx qkI qcn
end Go.Ev
namespace Go.Ev
open Go Go.Proofs
def V0:List D→Option (List Int)
 | []=>some []
 | .int .u8 n :: l=>(V0 l).map (n :: ·)
 | _=>none
def Vj:D→Option (List Int)
 | .vsl true [] 0=>some []
 | .vsl false cs len=>if cs.length = len then V0 cs else none
 | _=>none
def XS:List D→Option D
 | [x,y]=>match Vj x,Vj y with
  | some a,some b=>some (.int .i64 (Extern.BytealgCompare.cmp ⟨(Lib.bytesOf a).toArray⟩ ⟨(Lib.bytesOf b).toArray⟩))
  | _,_=>none
 | _=>none
theorem qjZ:∀ {cs:List D} {l:List Int},V0 cs = some l→cs.length = l.length∧∀ (j:Nat) x,l[j]? = some x→cs[j]? = some (.int .u8 x)
 | [],l,h=>by simp only [V0,Option.some.injEq] at h;subst h;simp
 | d :: cs,l,h=>by
  cases d with
  | int k n =>
   cases k with
   | u8 =>
    simp only [V0] at h;cases hb:V0 cs with
    | none=>simp [hb] at h
    | some l' =>
     simp only [hb,Option.map_some,Option.some.injEq] at h;subst h;obtain ⟨h1,h2⟩:=qjZ hb;refine ⟨by simp [h1],fun j x hj=>?_⟩;cases j with
     | zero=>simpa using hj
     | succ j=>simpa using h2 j x (by simpa using hj)
   | _=>simp [V0] at h
  | _=>simp [V0] at h
theorem qfy {P:Program} {ok:Nat→Prop} {w:World} {ι:qx} {H:qi} {d:D} {v:Value} {l:List Int} (h:Vj d = some l) (hr:Rep ok w ι H d v) :
  (Extern.Bytes.bytesOf v).run P w = .ok ⟨(Lib.bytesOf l).toArray⟩ w:=by
 cases hr with
 | vnil=>simp only [Vj,Option.some.injEq] at h;subst h;simp [Extern.Bytes.bytesOf,Lib.bytesOf];rfl
 | vsl a f ha hc hr hf qI =>
  rename_i ds len c;simp only [Vj] at h;split at h
  ·rename_i qZ;obtain ⟨h1,h2⟩:=qjZ h
   have:=Lib.run_loadBytesX (P:=P) w l a .empty (fun j x hj=>by
    have hd:=h2 j x hj;rw [hr j _ hd];have:=hf j _ hd;generalize f j = v at this;cases this;rfl)
   simp only [Extern.Bytes.bytesOf];rw [← qZ,h1,this];simp
  ·cases h
 | _=>simp [Vj] at h
theorem qvw {P : Program} {f : Nat} {fn : Func} (hf : P.funcs[f]? = some fn) (hn : fn.body = none) (hng : (fn.name == "runtime.NumGoroutine") = false)
  (h1:Extern.findNext fn = none) (h2:Extern.find fn = some Extern.BytealgCompare.compare) {ok:Nat→Prop} {w:World} {ι:qx} {H:qi} {args:List D} {d:D} {vs:List Value}
  (h:XS args = some d) (hv:RepL ok w ι H args vs):∃ v,(callFunc f vs.toArray).run P w = .ok (.value v) w∧Rep ok w ι H d v∧idFree d = true:=by
 rw [run_callFunc_extern hf hng (by rw [hn];rfl) h1 h2]
 match args,h with
 | [x,y],h =>
  simp only [XS] at h;cases hx:Vj x with
  | none=>simp [hx] at h
  | some a =>
   cases hy:Vj y with
   | none=>simp [hx,hy] at h
   | some b =>
    simp only [hx,hy,Option.some.injEq] at h;subst h
    obtain ⟨u,v,rfl,hu,hv⟩:∃ u v,vs = [u,v]∧Rep ok w ι H x u∧Rep ok w ι H y v:=by
     obtain ⟨hl,hh⟩:=hv
     match vs,hl with
     | [u,v],_=>exact ⟨u,v,rfl,hh 0 x rfl,hh 1 y rfl⟩
    refine ⟨_,?_,.int .i64 _,rfl⟩;have hc:Extern.BytealgCompare.compare [u,v].toArray = (do pure (goInt (Extern.BytealgCompare.cmp (← Extern.Bytes.bytesOf u) (← Extern.Bytes.bytesOf v)))):=rfl;rw [hc];simp only [Sem.run_bind,qfy hx hu,qfy hy hv,Result.andThen];rfl
def qt:List UInt8→List UInt8→Int
 | [],[]=>0
 | [],_ :: _=>-1
 | _ :: _,[]=>1
 | a :: x,b :: y=>if a = b then qt x y else if a < b then -1 else 1
theorem JG (l:List UInt8):(ByteArray.mk l.toArray).size = l.length:=by
 show l.toArray.size = _;simp
theorem qeB (l:List UInt8) (i:Nat):(ByteArray.mk l.toArray)[i]! = (l[i]?).getD 0:=by
 by_cases h:i < l.length
 ·have h':i < (ByteArray.mk l.toArray).size:=by rw [JG];exact h
  rw [getElem!_pos (ByteArray.mk l.toArray) i h',List.getElem?_eq_getElem h];rfl
 ·have h':¬ i < (ByteArray.mk l.toArray).size:=by rw [JG];exact h
  rw [getElem!_neg (ByteArray.mk l.toArray) i h',List.getElem?_eq_none (by omega)];rfl
theorem qvv (a:UInt8) (x:List UInt8) (b:UInt8) (y:List UInt8) :
  Extern.BytealgCompare.cmp ⟨(a :: x).toArray⟩ ⟨(b :: y).toArray⟩ = if a = b then Extern.BytealgCompare.cmp ⟨x.toArray⟩ ⟨y.toArray⟩ else if a < b then -1 else 1:=by
 have hs:min (ByteArray.mk (a :: x).toArray).size (ByteArray.mk (b :: y).toArray).size = min x.length y.length+1:=by
  show min (a :: x).toArray.size (b :: y).toArray.size = _;simp only [List.size_toArray,List.length_cons];omega
 have jN:min (ByteArray.mk x.toArray).size (ByteArray.mk y.toArray).size = min x.length y.length:=by
  show min x.toArray.size y.toArray.size = _;simp
 have hg:∀ (c:UInt8) (z:List UInt8) (i:Nat),(ByteArray.mk (c :: z).toArray)[i+1]! = (ByteArray.mk z.toArray)[i]!:=fun c z i=>by
  rw [qeB,qeB];rfl
 have hg0:∀ (c:UInt8) (z:List UInt8),(ByteArray.mk (c :: z).toArray)[0]! = c:=fun c z=>by rw [qeB];rfl
 unfold Extern.BytealgCompare.cmp;rw [hs,jN,List.range_succ_eq_map,List.find?_cons];simp only [hg0];by_cases hab:a = b
 ·subst hab;simp only [bne_self_eq_false,if_true,List.find?_map,Function.comp_def,hg,Nat.succ_eq_add_one];cases List.find? (fun i=>(ByteArray.mk x.toArray)[i]! != (ByteArray.mk y.toArray)[i]!) (List.range (min x.length y.length)) with
  | some i=>simp only [Option.map_some,hg]
  | none =>
   have e:∀ (c:UInt8) (z:List UInt8),(ByteArray.mk (c :: z).toArray).size = (ByteArray.mk z.toArray).size+1:=fun c z=>by
    show (c :: z).toArray.size = z.toArray.size+1;simp
   simp only [Option.map_none,e,Nat.add_lt_add_iff_right,gt_iff_lt]
 ·have:(a != b) = true:=by simp [hab]
  simp only [this,hab,if_false,hg0]
theorem qjJ:∀ (x y:List UInt8),Extern.BytealgCompare.cmp ⟨x.toArray⟩ ⟨y.toArray⟩ = qt x y
 | [],[]=>rfl
 | [],b :: y=>by
  unfold Extern.BytealgCompare.cmp;rw [JG,JG];simp [qt]
 | a :: x,[]=>by
  unfold Extern.BytealgCompare.cmp;rw [JG,JG];simp [qt]
 | a :: x,b :: y=>by rw [qvv,qt,qjJ x y]
theorem qvP (s:List UInt8):V0 (qd s) = some (s.map fun b=>(b.toNat:Int)):=by
 induction s with
 | nil=>rfl
 | cons a s ih=>simp only [qd,List.map_cons,V0] at ih ⊢;rw [ih];rfl
theorem qvO (s:List UInt8):Lib.bytesOf (s.map fun b=>(b.toNat:Int)) = s:=by
 simp [Lib.bytesOf,Function.comp_def]
theorem qvx (m n:Bool) (x y:List UInt8) (hm:m = true→x = []) (hn:n = true→y = []) :
  XS [.vsl m (qd x) x.length,.vsl n (qd y) y.length] = some (.int .i64 (qt x y)):=by
 have h:∀ (m:Bool) (x:List UInt8),(m = true→x = [])→Vj (.vsl m (qd x) x.length) = some (x.map fun b=>(b.toNat:Int)):=by
  intro m x hm;cases m with
  | true=>rw [hm rfl];rfl
  | false=>simp [Vj,qvP]
 simp only [XS,h m x hm,h n y hn,qvO,qjJ]
end Go.Ev
namespace Go.Ev
section
variable {X:Cx} {f nt n0:Nat}
structure SOp where
 dst:Option Tmp
 op:Op
 g:Option (Option Tmp × Bool)
def X3 (ops:Array Oper) (o:Oper):SOp:=⟨o.dst,o.op,match o.guard with
 | none=>none
 | some (j,want)=>some ((ops[j]?).bind (·.dst),want)⟩
def QV (ops:Array Oper):List Oper→List SOp
 | []=>[]
 | o :: l=>X3 ops o :: QV ops l
def Va (e:qp):Option (Option Tmp × Bool)→Option Bool
 | none=>some true
 | some (none,_)=>some false
 | some (some t,want)=>match qf e t with
  | some (.bool b)=>some (b == want)
  | some (.tup [])=>some false
  | _=>none
theorem qiu (ops:Array Oper) (e:qp) (g:Option (Nat × Bool)):jc ops e g = Va e (match g with
  | none=>none
  | some (j,want)=>some ((ops[j]?).bind (·.dst),want)):=by
 cases g with
 | none=>rfl
 | some q =>
  obtain ⟨j,want⟩:=q;simp only [jc,Va];cases (ops[j]?).bind (·.dst) <;> rfl
def VJ (X:Cx) (F:qY) (nt:Nat) (drw:Bool):List SOp→qp→qi→Option (qp × qi)
 | [],e,H=>some (e,H)
 | o :: l,e,H=>match jQ nt o.dst,Va e o.g with
  | true,some true=>match qE X F drw o.op e H with
   | some (d,H')=>VJ X F nt drw l (jH e o.dst d) H'
   | none=>none
  | true,some false=>VJ X F nt drw l (jH e o.dst (.tup [])) H
  | _,_=>none
theorem qeg {F:qY} {drw:Bool} (ops:Array Oper):∀ (l:List Oper) (e:qp) (H:qi),je X F nt drw ops l e H = VJ X F nt drw (QV ops l) e H
 | [],e,H=>rfl
 | o :: l,e,H=>by
  simp only [je,QV,VJ,qiu ops e o.guard]
  show _ = match jQ nt o.dst,Va e (X3 ops o).g with
   | true,some true=>match qE X F drw o.op e H with
    | some (d,H')=>VJ X F nt drw (QV ops l) (jH e o.dst d) H'
    | none=>none
   | true,some false=>VJ X F nt drw (QV ops l) (jH e o.dst (.tup [])) H
   | _,_=>none
  simp only [qeg ops l,X3];rfl
variable {Q:Ex→qp→qi→Prop} {fs:List Fr} {e:qp} {H:qi}
def QJ (X:Cx) (f nt n0:Nat) (Q:Ex→qp→qi→Prop) (fs:List Fr) (drw:Bool) (l:List SOp) (e:qp) (H:qi):Prop :=
 Run X f nt n0 Q fs ((VJ X (call X) nt drw l e H).map fun (e,H)=>(.normal,e,H))
def Vd (X:Cx) (f nt n0:Nat) (Q:Ex→qp→qi→Prop) (fs:List Fr) (drw:Bool) (l:List SOp) (e:qp) (dst:Option Tmp):Option (D × qi)→Prop
 | none=>False
 | some (d,H)=>QJ X f nt n0 Q fs drw l (jH e dst d) H
def VT (X:Cx) (f nt n0:Nat) (Q:Ex→qp→qi→Prop) (fs:List Fr) (drw:Bool) (dst:Option Tmp) (op:Op) (want:Bool) (l:List SOp) (e:qp) (H:qi):Option D→Prop
 | some (.bool b)=>if b = want then Vd X f nt n0 Q fs drw l e dst (qE X (call X) drw op e H) else QJ X f nt n0 Q fs drw l (jH e dst (.tup [])) H
 | some (.tup [])=>QJ X f nt n0 Q fs drw l (jH e dst (.tup [])) H
 | _=>False
theorem qmj {drw:Bool}:QJ X f nt n0 Q fs drw [] e H = Run X f nt n0 Q fs (some (.normal,e,H)):=rfl
theorem qmi {drw:Bool} {dst:Option Tmp} {op:Op} {l:List SOp}:QJ X f nt n0 Q fs drw (⟨dst,op,none⟩ :: l) e H =
  (jQ nt dst = true∧Vd X f nt n0 Q fs drw l e dst (qE X (call X) drw op e H)):=by
 unfold QJ;simp only [VJ,Va];cases jQ nt dst with
 | false=>simp [vJ]
 | true =>
  cases qE X (call X) drw op e H with
  | none=>simp [Vd,vJ]
  | some q=>simp [Vd,QJ]
theorem qmh {drw:Bool} {dst:Option Tmp} {op:Op} {l:List SOp} {t:Tmp} {want:Bool}:QJ X f nt n0 Q fs drw (⟨dst,op,some (some t,want)⟩ :: l) e H =
  (jQ nt dst = true∧VT X f nt n0 Q fs drw dst op want l e H (qf e t)):=by
 unfold QJ;simp only [VJ,Va];cases jQ nt dst with
 | false=>simp [vJ]
 | true =>
  cases qf e t with
  | none=>simp [VT,vJ]
  | some d =>
   cases d with
   | bool b =>
    by_cases hb:b = want
    ·subst hb;simp only [beq_self_eq_true,VT,if_true,true_and];cases qE X (call X) drw op e H with
     | none=>simp [Vd,vJ]
     | some q=>simp [Vd,QJ]
    ·have:(b == want) = false:=(by simpa using hb);simp [VT,hb,this,QJ]
   | tup cs =>
    cases cs with
    | nil=>simp [VT,QJ]
    | cons=>simp [VT,vJ]
   | _=>simp [VT,vJ]
theorem qmp {drw:Bool} {dst:Option Tmp} {l:List SOp} {d:D}:Vd X f nt n0 Q fs drw l e dst (some (d,H)) = QJ X f nt n0 Q fs drw l (jH e dst d) H:=rfl
theorem qmq {drw:Bool} {dst:Option Tmp} {l:List SOp}:Vd X f nt n0 Q fs drw l e dst none = False:=rfl
theorem qmu {drw:Bool} {dst:Option Tmp} {op:Op} {l:List SOp} {want b:Bool}:VT X f nt n0 Q fs drw dst op want l e H (some (.bool b)) =
  if b = want then Vd X f nt n0 Q fs drw l e dst (qE X (call X) drw op e H) else QJ X f nt n0 Q fs drw l (jH e dst (.tup [])) H:=rfl
theorem qmt {drw:Bool} {dst:Option Tmp} {op:Op} {l:List SOp} {want:Bool}:VT X f nt n0 Q fs drw dst op want l e H (some (.tup [])) = QJ X f nt n0 Q fs drw l (jH e dst (.tup [])) H:=rfl
def KI (X:Cx) (f nt n0:Nat) (Q:Ex→qp→qi→Prop) (fs:List Fr) (drw:Bool) (l:List SOp):Option (qp × qi)→Prop
 | none=>False
 | some (e,H)=>QJ X f nt n0 Q fs drw l e H
theorem qmx {drw:Bool} {l:List SOp}:KI X f nt n0 Q fs drw l (some (e,H)) = QJ X f nt n0 Q fs drw l e H:=rfl
theorem qme {id:Nat} {ops:Array Oper}:Run X f nt n0 Q fs (code X f nt n0 (.region id ops false) e H) = KI X f nt n0 Q fs (X.cv f id) (QV ops ops.toList) (enter X f n0 id e H):=by
 rw [qjC];cases enter X f n0 id e H with
 | none=>simp [vJ,KI]
 | some q=>simp only [KI,QJ,Ze,qeg,Y1]
section lp
variable {L:kt} {ow:List Nat}
noncomputable def Jp (X:Cx) (F:qY) (nt:Nat) (ow:List Nat) (L:kt):Nat→List (Nat × qi × qi)→List (Nat × List Nat)→List SOp→qp→qi→Option (qp × qi)
 | _,_,_,[],e,H=>some (e,H)
 | k,ws,rs,o :: l,e,H=>match jQ nt o.dst,Va e o.g with
  | true,some true=>match qE X F (Q5 ow o.dst) o.op e H with
   | some (d,H') =>
    @ite _ ((QB L k = true→Vc L k (vT (o.op.operands.toList.map (qH X e))) ws)∧(Q6 L k = true→H.length≤H'.length∧Vb L k H H' rs)) (Classical.propDecidable _)
     (Jp X F nt ow L (k+1) (if Q6 L k then (k,H,H') :: ws else ws) (if QB L k then (k,vT (o.op.operands.toList.map (qH X e))) :: rs else rs) l (jH e o.dst d) H') none
   | none=>none
  | true,some false=>Jp X F nt ow L (k+1) ws rs l (jH e o.dst (.tup [])) H
  | _,_=>none
theorem qiT {F:qY} (ops:Array Oper):∀ (l:List Oper) (k:Nat) (ws:List (Nat × qi × qi)) (rs:List (Nat × List Nat)) (e:qp) (H:qi),vG X F nt ow ops L k ws rs l e H = Jp X F nt ow L k ws rs (QV ops l) e H
 | [],k,ws,rs,e,H=>by simp only [QV,Jp,vG]
 | o :: l,k,ws,rs,e,H=>by
  have ih:=qiT (F:=F) ops l;rw [vG];show _ = Jp X F nt ow L k ws rs (X3 ops o :: QV ops l) e H;rw [Jp]
  show _ = match jQ nt o.dst,Va e (X3 ops o).g with
   | true,some true=>match qE X F (Q5 ow o.dst) o.op e H with
    | some (d,H') =>
     @ite _ ((QB L k = true→Vc L k (vT (o.op.operands.toList.map (qH X e))) ws)∧(Q6 L k = true→H.length≤H'.length∧Vb L k H H' rs)) (Classical.propDecidable _)
      (Jp X F nt ow L (k+1) (if Q6 L k then (k,H,H') :: ws else ws) (if QB L k then (k,vT (o.op.operands.toList.map (qH X e))) :: rs else rs) (QV ops l) (jH e o.dst d) H') none
    | none=>none
   | true,some false=>Jp X F nt ow L (k+1) ws rs (QV ops l) (jH e o.dst (.tup [])) H
   | _,_=>none
  have h3:Va e (X3 ops o).g = jc ops e o.guard:=(qiu ops e o.guard).symm;rw [h3];cases hd:jQ nt o.dst with
  | false=>simp only
  | true =>
   cases hg:jc ops e o.guard with
   | none=>simp only
   | some b =>
    cases b with
    | false=>simp only [ih]
    | true =>
     cases ho:qE X F (Q5 ow o.dst) o.op e H with
     | none=>simp only
     | some q =>
      obtain ⟨d,H1⟩:=q;simp only;by_cases hc:(QB L k = true→Vc L k (vT (o.op.operands.toList.map (qH X e))) ws)∧(Q6 L k = true→H.length≤H1.length∧Vb L k H H1 rs)
      ·rw [if_pos hc,if_pos hc];exact ih _ _ _ _ _
      ·rw [if_neg hc,if_neg hc]
def QS (X:Cx) (f nt n0:Nat) (Q:Ex→qp→qi→Prop) (fs:List Fr) (ow:List Nat) (L:kt) (k:Nat) (ws:List (Nat × qi × qi)) (rs:List (Nat × List Nat)) (l:List SOp) (e:qp) (H:qi):Prop :=
 Run X f nt n0 Q fs ((Jp X (call X) nt ow L k ws rs l e H).map fun (e,H)=>(.normal,e,H))
def KH (X:Cx) (f nt n0:Nat) (Q:Ex→qp→qi→Prop) (fs:List Fr) (ow:List Nat) (L:kt) (k:Nat) (ws:List (Nat × qi × qi)) (rs:List (Nat × List Nat)) (bs:List Nat) (l:List SOp) (e:qp) (dst:Option Tmp) (H:qi):Option (D × qi)→Prop
 | none=>False
 | some (d,H')=>(QB L k = true→Vc L k bs ws)∧(Q6 L k = true→H.length≤H'.length∧Vb L k H H' rs) ∧
   QS X f nt n0 Q fs ow L (k+1) (if Q6 L k then (k,H,H') :: ws else ws) (if QB L k then (k,bs) :: rs else rs) l (jH e dst d) H'
def VS (X:Cx) (f nt n0:Nat) (Q:Ex→qp→qi→Prop) (fs:List Fr) (ow:List Nat) (L:kt) (k:Nat) (ws:List (Nat × qi × qi)) (rs:List (Nat × List Nat)) (bs:List Nat) (dst:Option Tmp) (op:Op) (want:Bool) (l:List SOp) (e:qp) (H:qi):Option D→Prop
 | some (.bool b)=>if b = want then KH X f nt n0 Q fs ow L k ws rs bs l e dst H (qE X (call X) (Q5 ow dst) op e H) else QS X f nt n0 Q fs ow L (k+1) ws rs l (jH e dst (.tup [])) H
 | some (.tup [])=>QS X f nt n0 Q fs ow L (k+1) ws rs l (jH e dst (.tup [])) H
 | _=>False
variable {k:Nat} {ws:List (Nat × qi × qi)} {rs:List (Nat × List Nat)}
theorem qmm:QS X f nt n0 Q fs ow L k ws rs [] e H = Run X f nt n0 Q fs (some (.normal,e,H)):=by unfold QS;simp only [Jp];rfl
theorem qfI {dst:Option Tmp} {op:Op} {l:List SOp}:Run X f nt n0 Q fs (Option.map (fun (e,H)=>(Ex.normal,e,H)) (match qE X (call X) (Q5 ow dst) op e H with
   | some (d,H') =>
    @ite _ ((QB L k = true→Vc L k (vT (op.operands.toList.map (qH X e))) ws)∧(Q6 L k = true→H.length≤H'.length∧Vb L k H H' rs)) (Classical.propDecidable _)
     (Jp X (call X) nt ow L (k+1) (if Q6 L k then (k,H,H') :: ws else ws) (if QB L k then (k,vT (op.operands.toList.map (qH X e))) :: rs else rs) l (jH e dst d) H') none
   | none=>none)) = KH X f nt n0 Q fs ow L k ws rs (vT (op.operands.toList.map (qH X e))) l e dst H (qE X (call X) (Q5 ow dst) op e H):=by
 cases qE X (call X) (Q5 ow dst) op e H with
 | none=>simp [KH,vJ]
 | some q =>
  obtain ⟨d,H1⟩:=q;simp only [KH,QS];by_cases hc:(QB L k = true→Vc L k (vT (op.operands.toList.map (qH X e))) ws)∧(Q6 L k = true→H.length≤H1.length∧Vb L k H H1 rs)
  ·rw [if_pos hc];exact propext ⟨fun h=>⟨hc.1,hc.2,h⟩,fun h=>h.2.2⟩
  ·rw [if_neg hc];simp only [Option.map_none,vJ];exact propext ⟨fun h=>h.elim,fun h=>hc ⟨h.1,h.2.1⟩⟩
theorem qml {dst:Option Tmp} {op:Op} {l:List SOp}:QS X f nt n0 Q fs ow L k ws rs (⟨dst,op,none⟩ :: l) e H =
  (jQ nt dst = true∧KH X f nt n0 Q fs ow L k ws rs (vT (op.operands.toList.map (qH X e))) l e dst H (qE X (call X) (Q5 ow dst) op e H)):=by
 rw [← qfI];unfold QS;simp only [Jp,Va];cases jQ nt dst with
 | false=>simp [vJ]
 | true=>simp
theorem qmk {dst:Option Tmp} {op:Op} {l:List SOp} {t:Tmp} {want:Bool}:QS X f nt n0 Q fs ow L k ws rs (⟨dst,op,some (some t,want)⟩ :: l) e H =
  (jQ nt dst = true∧VS X f nt n0 Q fs ow L k ws rs (vT (op.operands.toList.map (qH X e))) dst op want l e H (qf e t)):=by
 unfold QS;simp only [Jp,Va];cases jQ nt dst with
 | false=>simp [vJ]
 | true =>
  cases qf e t with
  | none=>simp [VS,vJ]
  | some d =>
   cases d with
   | bool b =>
    by_cases hb:b = want
    ·subst hb;simp only [beq_self_eq_true,VS,if_true,true_and];rw [← qfI]
    ·have:(b == want) = false:=(by simpa using hb);simp [VS,hb,this,QS]
   | tup cs =>
    cases cs with
    | nil=>simp [VS,QS]
    | cons=>simp [VS,vJ]
   | _=>simp [VS,vJ]
theorem qmr {dst:Option Tmp} {l:List SOp} {d:D} {bs:List Nat} {H':qi}:KH X f nt n0 Q fs ow L k ws rs bs l e dst H (some (d,H')) = ((QB L k = true→Vc L k bs ws)∧(Q6 L k = true→H.length≤H'.length∧Vb L k H H' rs) ∧
   QS X f nt n0 Q fs ow L (k+1) (if Q6 L k then (k,H,H') :: ws else ws) (if QB L k then (k,bs) :: rs else rs) l (jH e dst d) H'):=rfl
theorem qms {dst:Option Tmp} {l:List SOp} {bs:List Nat}:KH X f nt n0 Q fs ow L k ws rs bs l e dst H none = False:=rfl
theorem qmw {dst:Option Tmp} {op:Op} {l:List SOp} {want b:Bool} {bs:List Nat}:VS X f nt n0 Q fs ow L k ws rs bs dst op want l e H (some (.bool b)) =
  if b = want then KH X f nt n0 Q fs ow L k ws rs bs l e dst H (qE X (call X) (Q5 ow dst) op e H) else QS X f nt n0 Q fs ow L (k+1) ws rs l (jH e dst (.tup [])) H:=rfl
theorem qmv {dst:Option Tmp} {op:Op} {l:List SOp} {want:Bool} {bs:List Nat}:VS X f nt n0 Q fs ow L k ws rs bs dst op want l e H (some (.tup [])) = QS X f nt n0 Q fs ow L (k+1) ws rs l (jH e dst (.tup [])) H:=rfl
def qaw (X:Cx) (f nt n0:Nat) (Q:Ex→qp→qi→Prop) (fs:List Fr) (drw:Bool):Option (kt × List Nat)→List SOp→Option (qp × qi)→Prop
 | none,l,o=>KI X f nt n0 Q fs drw l o
 | some (L,ow),l,some (e,H)=>QS X f nt n0 Q fs ow L 0 [] [] l e H
 | _,_,none=>False
theorem qmn {drw:Bool} {l:List SOp} {o:Option (qp × qi)}:qaw X f nt n0 Q fs drw none l o = KI X f nt n0 Q fs drw l o:=rfl
theorem qmo {drw:Bool} {l:List SOp}:qaw X f nt n0 Q fs drw (some (L,ow)) l (some (e,H)) = QS X f nt n0 Q fs ow L 0 [] [] l e H:=rfl
end lp
theorem qmd {id:Nat} {ops:Array Oper}:Run X f nt n0 Q fs (code X f nt n0 (.region id ops true) e H) = qaw X f nt n0 Q fs (!Kn ops.toList) (X.lp f id) (QV ops ops.toList) (enter X f n0 id e H):=by
 rw [qjC];cases vW:enter X f n0 id e H with
 | none=>cases hlp:X.lp f id <;> simp [vJ,KI,qaw]
 | some q=>cases hlp:X.lp f id <;> simp only [KI,QJ,qaw,QS,Ze,hlp,qeg,qiT,Y1]
theorem qlz (ops:Array Oper) (dst:Option Tmp) (op:Op) (ty:TypeId) (pos:String) (af:Array Edge) (l:List Oper):QV ops ({ dst:=dst,op:=op,type:=ty,pos:=pos,after:=af,guard:=none } :: l) = ⟨dst,op,none⟩ :: QV ops l:=rfl
theorem qly (ops:Array Oper) (dst:Option Tmp) (op:Op) (ty:TypeId) (pos:String) (af:Array Edge) (j:Nat) (want:Bool) (l:List Oper) :
  QV ops ({ dst:=dst,op:=op,type:=ty,pos:=pos,after:=af,guard:=some (j,want) } :: l) = ⟨dst,op,some ((ops[j]?).bind (·.dst),want)⟩ :: QV ops l:=rfl
theorem qlx (ops:Array Oper):QV ops [] = []:=rfl
end
attribute [simp] Q5 Op.operands Call.operands vT JI Q6 QB Vc Vb qmm qml qmk qmr qms qmw qmv qmn qmo qmj qmi qmh qmp qmq qmu qmt qmx qme qmd Kn qhO qlz qly qlx
end Go.Ev
namespace Go.Ev
@[simp] theorem qwt (H L:qi) (k:Nat):(H ++ L)[H.length+k]? = L[k]?:=by rw [List.getElem?_append_right (Nat.le_add_right _ _),Nat.add_sub_cancel_left]
@[simp] theorem q4w (H L:qi):(H ++ L)[H.length]? = L[0]?:=qwt H L 0
@[simp] theorem qws (H L:qi) (k:Nat) (x:Option (List D)):(H ++ L).set (H.length+k) x = H ++ L.set k x:=by
 rw [List.set_append_right _ _ (Nat.le_add_right _ _),Nat.add_sub_cancel_left]
@[simp] theorem q4v (H L:qi) (x:Option (List D)):(H ++ L).set H.length x = H ++ L.set 0 x:=qws H L 0 x
end Go.Ev
