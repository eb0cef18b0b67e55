import Derived.Test.YtjjofhpbbndccaaGreatDoorC1
import Derived.Scope
import Derived.LoopN
import Derived.Shelf.Abstract
import Derived.Orders
import Derived.Lib.BytesEntry
import Derived.Laws.Externs
namespace Go.Ev
section
variable {X:Cx} {ok ok':Nat→Prop} {w w':World} {ι:qz} {H H':qd}
def Goes (P:Program) (s:Sem Next) (w:World) (R:Value→World→Prop):Prop :=
 match s.run P w with
 | .ok (.value v) w'=>R v w'
 | .ok .skip w'=>R undef w'
 | .ok (.enter f args) w'=>Calls P f args w' fun e w''=>∃ v,e = .returned v∧R v w''
 | _=>False
theorem Goes.value {P:Program} {s:Sem Next} {v:Value} {R:Value→World→Prop} (h:s.run P w = .ok (.value v) w') (hr:R v w'):Goes P s w R:=by
 unfold Goes;rw [h];exact hr
theorem Goes.skip {P:Program} {s:Sem Next} {R:Value→World→Prop} (h:s.run P w = .ok .skip w') (hr:R undef w'):Goes P s w R:=by
 unfold Goes;rw [h];exact hr
theorem Goes.mono {P:Program} {s:Sem Next} {R R':Value→World→Prop} (h:Goes P s w R) (hr:∀ v w',R v w'→R' v w'):Goes P s w R':=by
 unfold Goes at *;split at h
 ·exact hr _ _ h
 ·exact hr _ _ h
 ·exact h.mono fun e w'' ⟨v,h1,h2⟩=>⟨v,h1,hr _ _ h2⟩
 ·exact h.elim
theorem Goes.upon {P:Program} {o:Oper} {a:Act} {s:Sem Next} {next:Act→World→Prop} {Q:Exit→Act→World→Prop} (h:Goes P s w fun v w'=>next (a.put o.dst v) w'):o.upon P a next Q (s.run P w):=by
 unfold Goes at h;split at h
 ·rename_i v w' hr;rw [hr];exact h
 ·rename_i w' hr;rw [hr];exact h
 ·rename_i f args w' hr;rw [hr];simp only [Oper.upon];exact h.mono fun e w'' ⟨v,h1,h2⟩=>by subst h1;exact h2
 ·exact h.elim
def CallPost (X:Cx) (ok:Nat→Prop) (w:World) (ι:qz) (H:qd) (r:D) (H':qd) (v:Value) (w':World):Prop :=
 ∃ ι' ok',Sim X ok' w' ι' H'∧Rep ok' w' ι' H' r v∧Evol H.length ok w ι H ok' w' ι' H'∧∀ i ds,H.length≤i→qe H' i = some ds→ds.all idFree = true
def qep (X:Cx) (g:Bool) (ok:Nat→Prop) (w:World) (ι:qz) (H:qd) (r:D) (H':qd) (v:Value) (w':World):Prop :=
 ∃ ι' ok',Sim X ok' w' ι' H'∧Rep ok' w' ι' H' r v∧Evol H.length ok w ι H ok' w' ι' H'∧(g = false→∀ i ds,H.length≤i→qe H' i = some ds→ds.all idFree = true)
theorem CallPost.g {ok:Nat→Prop} {w:World} {ι:qz} {H H':qd} {r:D} {v:Value} {w':World} (h:CallPost X ok w ι H r H' v w') (g:Bool):qep X g ok w ι H r H' v w':=by
 obtain ⟨ι',ok',h1,h2,h3,h4⟩:=h;exact ⟨ι',ok',h1,h2,h3,fun _=>h4⟩
def Zv (X:Cx) (F:qO):Prop :=
 ∀ (f:Nat) (args:List D) (H:qd) (r:D) (H':qd) (ok:Nat→Prop) (w:World) (ι:qz) (vs:List Value),F f args H = some (r,H')→Sim X ok w ι H→RepL ok w ι H args vs →
  Goes X.P (callFunc f vs.toArray) w (qep X (X.gr f && X.byRef f) ok w ι H r H')
structure Good (X:Cx):Prop where
 mixed:X.P.follows .mixedOrders = true
 okc:∀ (f:Nat) (fn:Func) (c:Code),X.P.funcs[f]? = some fn→fn.body = some c→X.bad f = false→kY X f c = true
 ng : ∀ (f : Nat) (fn : Func), X.P.funcs[f]? = some fn → (fn.name == "runtime.NumGoroutine") = false
 ext:∀ (f:Nat) (fn:Func) (args:List D) (d:D),X.P.funcs[f]? = some fn→fn.body = none→X.ext f args = some d →
  ∀ (ok:Nat→Prop) (w:World) (ι:qz) (H:qd) (vs:List Value),Sim X ok w ι H→RepL ok w ι H args vs→∃ v,(callFunc f vs.toArray).run X.P w = .ok (.value v) w∧Rep ok w ι H d v∧idFree d = true
 con:∀ (f:Nat) (args:List D) (H:qd) (r:D) (H':qd),X.con f args H = some (r,H')→∀ (ok:Nat→Prop) (w:World) (ι:qz) (vs:List Value),Sim X ok w ι H→RepL ok w ι H args vs →
  Goes X.P (callFunc f vs.toArray) w (CallPost X ok w ι H r H')
theorem qhf (hs:Sim X ok w ι H):Sim X ok w zo [] :=
 ⟨hs.okS,hs.glob,fun i j ds es b s s' hd=>by simp [qe] at hd,fun i ds hd=>by simp [qe] at hd⟩
theorem qmp (hs:Sim X ok w ι H):Sim X (qdk ok ι H) w zo [] :=
 ⟨fun b hb=>by
   rcases hb with hb | ⟨i,ds,s,hd,hi⟩
   ·exact hs.okS b hb
   ·exact hs.lt hd hi,fun g cs hg=>(hs.glob g cs hg).okMono fun b hb=>.inl hb,fun i j ds es b s s' hd=>by simp [qe] at hd,fun i ds hd=>by simp [qe] at hd⟩
theorem qfn (l:List D):noZ.noZL l = true↔∀ d,d∈l→noZ d = true:=by
 induction l with
 | nil=>simp [noZ.noZL]
 | cons d l ih=>simp [noZ.noZL,ih]
theorem qeG (n:Nat) (l:List D):shift.shiftL n l = l.map (shift n):=by
 induction l with
 | nil=>rfl
 | cons d l ih=>simp [shift.shiftL,ih]
theorem qst (n:Nat) (d:D):zn (shift n d) = zn d:=by cases d <;> rfl
theorem Rep.moved {m:Nat} {ι1 ι2:qz} {H1 H2:qd} (hm:∀ k,1≤k→k < H1.length→m+k < H2.length∧qe H2 (m+k) = qe H1 k∧ι2 (m+k) = ι1 k) {d:D} {v:Value} (h:Rep ok w ι1 H1 d v) (hz:noZ d = true):Rep ok w ι2 H2 (Ev.shift m d) v:=by
 induction h with
 | bool b=>exact .bool b
 | int k n=>exact .int k n
 | str s=>exact .str s
 | nilp=>exact .nilp
 | nilf=>exact .nilf
 | nili=>exact .nili
 | raw v=>exact .raw v
 | agg hl hc h ih =>
  simp only [noZ,qfn] at hz;simp only [Ev.shift,qeG];refine .agg (by simpa using hl) (fun d hd=>?_) fun j d hj=>?_
  ·obtain ⟨d',qS,rfl⟩:=List.mem_map.1 hd;rw [qst];exact hc d' qS
  ·rw [Zc,QF] at hj;obtain ⟨d',qS,rfl⟩:=hj;exact ih j d' qS hm (hz d' (mem_of_get? qS))
 | tup hl h ih =>
  simp only [noZ,qfn] at hz;simp only [Ev.shift,qeG];refine .tup (by simpa using hl) fun j d hj=>?_;rw [Zc,QF] at hj;obtain ⟨d',qS,rfl⟩:=hj;exact ih j d' qS hm (hz d' (mem_of_get? qS))
 | fn hl h ih =>
  simp only [noZ,qfn] at hz;simp only [Ev.shift,qeG];refine .fn (by simpa using hl) fun j d hj=>?_;rw [Zc,QF] at hj;obtain ⟨d',qS,rfl⟩:=hj;exact ih j d' qS hm (hz d' (mem_of_get? qS))
 | iface h ih=>exact .iface (ih hm (by simpa [noZ] using hz))
 | optr a hi h =>
  simp only [noZ,decide_eq_true_eq] at hz;obtain ⟨m1,m2,m3⟩:=hm _ hz hi;refine .optr a m1 fun ds hd=>?_;rw [m2] at hd;rw [m3];exact h ds hd
 | osl a hi h qJ =>
  simp only [noZ,decide_eq_true_eq] at hz;obtain ⟨m1,m2,m3⟩:=hm _ hz hi;refine .osl a m1 (fun ds hd=>?_) qJ;rw [m2] at hd;rw [m3];exact h ds hd
 | vptr a f ha hc hr h _=>exact .vptr a f ha hc hr h
 | vnil=>exact .vnil
 | vsl a f ha hc hr h qJ _=>exact .vsl a f ha hc hr h qJ
theorem qv6 {F:qO} (hF:Zv X F) {f:Nat} (hgr:(X.gr f && X.byRef f) = false) {args:List D} {r:D} {vs:List Value} (h:JM F f args H = some (r,H')) (hs:Sim X ok w ι H) (hv:RepL ok w ι H args vs) :
  Goes X.P (callFunc f vs.toArray) w (Post X H.length ok w ι H r H'):=by
 unfold JM at h;split at h
 ·rename_i i st off rest;split at h
  ·rename_i ds hd;split at h
   ·rename_i hfree;rw [zL] at hfree;split at h
    ·rename_i r0 ds' L hc;split at h
     ·rename_i hok;rw [zL] at hok;injection h with h;injection h with h1 h2;subst h1;subst h2;have qi:i < H.length:=qt hd
      let ι1:qz:=fun k=>if k = 0 then ι i else none
      have YI:∀ k es,qe [some ds] k = some es→k = 0∧es = ds:=by
       intro k es hk;cases k with
       | zero=>simp [qe] at hk;exact ⟨rfl,hk.symm⟩
       | succ k=>simp [qe] at hk
      have VU:Sim X ok w ι1 [some ds]:=by
       refine ⟨hs.okS,hs.glob,fun a b es es' c s s' ha hb _ _=>by rw [(YI a es ha).1,(YI b es' hb).1],fun k es hk=>?_⟩;obtain ⟨rfl,rfl⟩:=YI k es hk;obtain ⟨b,arr,e,fr,q1,q2,q3,q4,q5,q6,q7,q8⟩:=hs.blk i es hd;exact ⟨b,arr,e,fr,q1,q2,q3,q4,q5,q6,q7,fun j d hj=>(q8 j d hj).free (JO hfree.2 d (mem_of_get? hj)) _ _⟩
      have Ve:RepL ok w ι1 [some ds] (.optr 0 st off :: rest) vs:=by
       refine ⟨by simpa using hv.1,fun j d hj=>?_⟩;cases j with
       | zero =>
        simp only [Qh,qs] at hj;subst hj;have h0:=hv.2 0 (.optr i st off) rfl;generalize vs.getD 0 undef = v0 at h0 ⊢;cases h0 with
        | optr a hi hk =>
         refine .optr a (by simp) fun es he=>?_;obtain ⟨_,rfl⟩:=YI 0 es he;exact hk es hd
       | succ j =>
        have:=hv.2 (j+1) d (by simpa using hj);exact this.free (JO hfree.1 d (mem_of_get? (by simpa using hj))) _ _
      refine (hF f _ _ _ _ ok w ι1 vs hc VU Ve).mono fun v w' hp=>?_;obtain ⟨ι',ok',k1,k2,k3,k4⟩:=hp;replace k4:=k4 hgr
      have hfr:∀ b,b < w.heap.size→(∀ s,ι i≠some (b,s))→w'.heap[b]? = w.heap[b]?:=fun b hb zy=>k3.frame b hb fun k es s hk hi=>by
       obtain ⟨rfl,_⟩:=YI k es hk;exact zy s hi
      have VV:∀ k es b s,qe (some ds' :: L) k = some es→ι' k = some (b,s)→b < w.heap.size→∃ s',ι i = some (b,s'):=fun k es b s hk hb qq=>by
       obtain ⟨j,es',s',hj,hi⟩:=k3.own k es b s hk hb qq;obtain ⟨rfl,_⟩:=YI j es' hj;exact ⟨s',hi⟩
      have YC:∀ b,ok' b→b < w.heap.size→ok b∨∃ s,ι i = some (b,s):=fun b hb qq=>by
       rcases k3.okN b hb qq with h | ⟨k,es,s,hk,hi⟩
       ·exact .inl h
       ·obtain ⟨rfl,_⟩:=YI k es hk;exact .inr ⟨s,hi⟩
      let n:=H.length
      let ι2:qz:=fun j=>if j = i then ι' 0 else if j < n then ι j else ι' (j - n+1)
      have hn:(ql H i ds').length = n:=by simp [ql,n]
      have hH:∀ j es,qe (ql H i ds' ++ L) j = some es→(j = i∧es = ds'∧ι2 j = ι' 0)∨(j≠i∧j < n∧qe H j = some es∧ι2 j = ι j)∨(n≤j∧qe (some ds' :: L) (j - n+1) = some es∧ι2 j = ι' (j - n+1)):=by
       intro j es hj;by_cases Qd:j < n
       ·rw [KV (by rw [hn];exact Qd)] at hj;by_cases ZC:j = i
        ·subst ZC;refine .inl ⟨rfl,?_,by simp [ι2]⟩;simp only [qe,ql] at hj;rw [List.getElem?_set_self qi] at hj;simpa using hj.symm
        ·refine .inr (.inl ⟨ZC,Qd,?_,by simp [ι2,ZC,Qd]⟩);simp only [qe,ql] at hj ⊢
         rwa [List.getElem?_set_ne (Ne.symm ZC)] at hj
       ·obtain ⟨k,rfl⟩:∃ k,j = n+k:=⟨j - n,by omega⟩;have vG:qe (ql H i ds' ++ L) ((ql H i ds').length+k) = some es:=(by rw [hn];exact hj);rw [YH] at vG;have qH:n+k≠i:=(by omega);have e1:n+k - n+1 = k+1:=(by omega);refine .inr (.inr ⟨by omega,?_,?_⟩)
        ·rw [e1];simpa [qe] using vG
        ·show (if n+k = i then ι' 0 else if n+k < n then ι (n+k) else ι' (n+k - n+1)) = _;rw [if_neg qH,if_neg Qd]
      have hev:Evol n ok w ι H ok' w' ι2 (ql H i ds' ++ L):=by
       refine ⟨k3.os,k3.tape,k3.output,k3.size,fun b hb zy=>hfr b hb fun s=>zy i ds s hd,k3.okU,fun b hb qq=>?_,⟨qv _,by rw [qX,hn];omega⟩,?_,?_⟩
       ·rcases YC b hb qq with h | ⟨s,hi⟩
        ·exact .inl h
        ·exact .inr ⟨i,ds,s,hd,hi⟩
       ·intro j Qd es hj;rcases hH j es hj with ⟨rfl,rfl,e⟩ | ⟨_,_,q,e⟩ | ⟨q,_,_⟩
        ·obtain ⟨ds2,zN,j7,KU⟩:=k3.heap 0 (by simp) es rfl;obtain ⟨_,rfl⟩:=YI 0 ds2 zN;exact ⟨ds2,hd,j7,fun hl=>by rw [e,KU hl];rfl⟩
        ·exact ⟨es,q,qv _,fun _=>e⟩
        ·omega
       ·intro j es b s hj hb qq;rcases hH j es hj with ⟨rfl,rfl,e⟩ | ⟨_,_,q,e⟩ | ⟨q,hk,e⟩
        ·rw [e] at hb;obtain ⟨s',hi⟩:=VV 0 es b s rfl hb qq;exact ⟨j,ds,s',hd,hi⟩
        ·rw [e] at hb;exact ⟨j,es,s,q,hb⟩
        ·rw [e] at hb;obtain ⟨s',hi⟩:=VV _ es b s hk hb qq;exact ⟨i,ds,s',hd,hi⟩
      have Y7:∀ j es b s,j≠i→qe H j = some es→ι j = some (b,s)→b < w.heap.size∧∀ s',ι i≠some (b,s'):=fun j es b s ZC hj hb=>⟨hs.lt hj hb,fun s' hi=>ZC (hs.inj j i es ds b s s' hj hd hb hi)⟩
      have Zj:Sim X ok' w' ι2 (ql H i ds' ++ L):=by
       refine ⟨k1.okS,k1.glob,?_,?_⟩
       ·intro a c es es' b s s' ha hc hb qI
        have cross:∀ {j es b s k es' s'},j≠i→j < n→qe H j = some es→ι j = some (b,s)→qe (some ds' :: L) k = some es'→ι' k = some (b,s')→False:=by
         intro j es b s k es' s' ZC _ hj hb hk qI;obtain ⟨q1,q2⟩:=Y7 j es b s ZC hj hb;obtain ⟨s2,hi⟩:=VV k es' b s' hk qI q1;exact q2 s2 hi
        rcases hH a es ha with ⟨a1,rfl,ea⟩ | ⟨a1,a2,qa,ea⟩ | ⟨a1,qa,ea⟩ <;> rcases hH c es' hc with ⟨c1,rfl,ec⟩ | ⟨c1,c2,qc,ec⟩ | ⟨c1,qc,ec⟩ <;> rw [ea] at hb <;> rw [ec] at qI
        ·rw [a1,c1]
        ·exact (cross c1 c2 qc qI (k:=0) rfl hb).elim
        ·have:=k1.inj 0 _ _ _ b s s' rfl qc hb qI;omega
        ·exact (cross a1 a2 qa hb (k:=0) rfl qI).elim
        ·exact hs.inj a c es es' b s s' qa qc hb qI
        ·exact (cross a1 a2 qa hb qc qI).elim
        ·have:=k1.inj _ 0 _ _ b s s' qa rfl hb qI;omega
        ·exact (cross c1 c2 qc qI qa hb).elim
        ·have:=k1.inj _ _ _ _ b s s' qa qc hb qI;omega
       ·intro j es hj;rcases hH j es hj with ⟨rfl,rfl,e⟩ | ⟨j1,j2,qj,e⟩ | ⟨j1,qj,e⟩
        ·obtain ⟨b,arr,e1,fr,q1,q2,q3,q4,q5,q6,q7,q8⟩:=k1.blk 0 es rfl;exact ⟨b,arr,e1,fr,by rw [e];exact q1,q2,q3,q4,q5,q6,q7,fun m d hm=>(q8 m d hm).free (JO hok.2 d (mem_of_get? hm)) _ _⟩
        ·obtain ⟨b,arr,e1,fr,q1,q2,q3,q4,q5,q6,q7,q8⟩:=hs.blk j es qj;obtain ⟨p1,p2⟩:=Y7 j es b _ j1 qj q1;refine ⟨b,arr,e1,fr,by rw [e];exact q1,fun hb=>?_,by rw [hfr b p1 p2];exact q3,q4,q5,q6,q7,fun m d hm=>(q8 m d hm).evol hs hev (q8 m d hm).closed⟩;rcases YC b hb p1 with h | ⟨s,hi⟩
         ·exact q2 h
         ·exact p2 s hi
        ·obtain ⟨b,arr,e1,fr,q1,q2,q3,q4,q5,q6,q7,q8⟩:=k1.blk _ es qj;have hfr4:=k4 _ es (by simp) qj;exact ⟨b,arr,e1,fr,by rw [e];exact q1,q2,q3,q4,q5,q6,q7,fun m d hm=>(q8 m d hm).free (JO hfr4 d (mem_of_get? hm)) _ _⟩
      refine ⟨ι2,ok',Zj,?_,hev⟩;refine k2.moved (m:=H.length - 1) (fun k hk1 ZB=>?_) hok.1;have e1:H.length - 1+k = n+(k - 1):=(by show H.length - 1+k = H.length+(k - 1);omega);have e2:k = k - 1+1:=(by omega);refine ⟨?_,?_,?_⟩
      ·rw [e1,qX,hn];simp at ZB;omega
      ·rw [e1];have:qe (ql H i ds' ++ L) ((ql H i ds').length+(k - 1)) = qe L (k - 1):=YH;rw [hn] at this;rw [this]
       conv=>rhs;rw [e2]
       simp [qe]
      ·rw [e1];have qH:¬ n+(k - 1) = i:=(by omega);have zq:¬ n+(k - 1) < n:=(by omega);simp only [ι2,qH,zq,if_false];congr 1;omega
     ·cases h
    ·cases h
   ·cases h
  ·cases h
 ·cases h
theorem J1 (p:List Nat) (n:Nat) (l:List D):mv.mvL p n l = l.map (mv p n):=by
 induction l with
 | nil=>rfl
 | cons d l ih=>simp [mv.mvL,ih]
theorem qdz (p:List Nat) (n:Nat) (d:D):zn (mv p n d) = zn d:=by cases d <;> rfl
theorem Rep.back {p:List Nat} {n:Nat} {ι1 ι2:qz} {H1 H2:qd} (hm:∀ a,a < H1.length→kj p n a < H2.length∧(∀ ds2,qe H2 (kj p n a) = some ds2→∃ ds,qe H1 a = some ds∧ds.length = ds2.length)∧ι2 (kj p n a) = ι1 a) {d:D} {v:Value} (h:Rep ok w ι1 H1 d v):Rep ok w ι2 H2 (mv p n d) v:=by
 induction h with
 | bool b=>exact .bool b
 | int k n=>exact .int k n
 | str s=>exact .str s
 | nilp=>exact .nilp
 | nilf=>exact .nilf
 | nili=>exact .nili
 | raw v=>exact .raw v
 | agg hl hc h ih =>
  simp only [mv,J1];refine .agg (by simpa using hl) (fun d hd=>?_) fun j d hj=>?_
  ·obtain ⟨d',qS,rfl⟩:=List.mem_map.1 hd;rw [qdz];exact hc d' qS
  ·rw [Zc,QF] at hj;obtain ⟨d',qS,rfl⟩:=hj;exact ih j d' qS hm
 | tup hl h ih =>
  simp only [mv,J1];refine .tup (by simpa using hl) fun j d hj=>?_;rw [Zc,QF] at hj;obtain ⟨d',qS,rfl⟩:=hj;exact ih j d' qS hm
 | fn hl h ih =>
  simp only [mv,J1];refine .fn (by simpa using hl) fun j d hj=>?_;rw [Zc,QF] at hj;obtain ⟨d',qS,rfl⟩:=hj;exact ih j d' qS hm
 | iface h ih=>exact .iface (ih hm)
 | optr a hi h =>
  obtain ⟨m1,m2,m3⟩:=hm _ hi;refine .optr a m1 fun ds2 zN=>?_;obtain ⟨ds,r1,r2⟩:=m2 ds2 zN;obtain ⟨k1,k2⟩:=h ds r1;rw [r2] at k1 k2;rw [m3];exact ⟨k1,k2⟩
 | osl a hi h qJ =>
  obtain ⟨m1,m2,m3⟩:=hm _ hi;refine .osl a m1 (fun ds2 zN=>?_) qJ;obtain ⟨ds,r1,r2⟩:=m2 ds2 zN;obtain ⟨k1,k2⟩:=h ds r1;rw [r2] at k1 k2;rw [m3];exact ⟨k1,k2⟩
 | vptr a f ha hc hr h _=>exact .vptr a f ha hc hr h
 | vnil=>exact .vnil
 | vsl a f ha hc hr h qJ _=>exact .vsl a f ha hc hr h qJ
theorem qeI:∀ (p:List Nat) (T H:qd),(kU H p T).length = H.length
 | [],_,_=>by simp [kU]
 | _ :: _,[],_=>by simp [kU]
 | i :: p,b :: T,H=>by rw [kU,qeI p T,vt]
theorem qcT {i:Nat}:∀ (p:List Nat) (T H:qd),i ∉ p→qe (kU H p T) i = qe H i
 | [],_,_,_=>by simp [kU]
 | _ :: _,[],_,_=>by simp [kU]
 | a :: p,b :: T,H,h=>by
  rw [kU,qcT p T _ fun hp=>h (kS _ hp)];unfold qe;rw [List.getElem?_set_ne fun ha=>h (by rw [ha];exact Za ..)]
theorem qbJ {i:Nat}:∀ (p:List Nat) (T H:qd) (a:Nat),p.Nodup→i < H.length→p[a]? = some i→a < T.length→qe (kU H p T) i = qe T a
 | [],_,_,_,_,_,h,_=>by simp at h
 | _ :: _,[],_,_,_,_,_,h=>by simp at h
 | c :: p,b :: T,H,0,hn,hi,h,_=>by
  simp only [Qh,qs] at h;subst h;rw [kU,qcT p T _ (List.nodup_cons.1 hn).1];unfold qe;rw [List.getElem?_set_self hi];rfl
 | c :: p,b :: T,H,a+1,hn,hi,h,ha=>by
  rw [kU,qbJ p T _ a (List.nodup_cons.1 hn).2 (by rw [vt];exact hi) (by simpa using h) (by simpa using ha)];simp [qe]
theorem qf4:∀ {p:List Nat} {a i k:Nat},p.Nodup→p[a]? = some i→kZ p i k = some (k+a)
 | [],_,_,_,_,h=>by simp at h
 | c :: p,0,i,k,_,h=>by
  simp only [Qh,qs] at h;simp [kZ,h]
 | c :: p,a+1,i,k,hn,h=>by
  have hm:i∈p:=ZS (by simpa using h);have qH:c≠i:=fun he=>(List.nodup_cons.1 hn).1 (by rw [he];exact hm);rw [kZ,if_neg qH,qf4 (List.nodup_cons.1 hn).2 (by simpa using h)];congr 1;omega
theorem qd5 {p:List Nat} {i:Nat} (h:i ∉ p):kZ p i 0 = none:=by
 cases hx:kZ p i 0 with
 | none=>rfl
 | some a=>exact absurd (ZS (qf5 hx).2) h
theorem qeT {p:List Nat}:∀ {l l':List D},Yp p l = some l'→l'.length = l.length∧∀ {j:Nat} {d':D},l'[j]? = some d'→∃ d,l[j]? = some d∧Xr p d = some d'
 | [],l',h=>by
  simp only [Yp,qs] at h;subst h;exact ⟨rfl,fun {j d'} hj=>by simp at hj⟩
 | d :: l,l',h=>by
  simp only [Yp] at h;split at h
  ·rename_i d1 l1 h1 h2;injection h with h;subst h;obtain ⟨g1,g2⟩:=qeT h2;refine ⟨by simp [g1],fun {j d'} hj=>?_⟩;cases j with
   | zero =>
    simp only [Qh,qs] at hj;subst hj;exact ⟨d,rfl,h1⟩
   | succ j=>simpa using g2 (j:=j) (d':=d') (by simpa using hj)
  ·cases h
theorem qv2 {F:qO} (hF:Zv X F) {f i:Nat} (hgr:(X.gr f && X.byRef f) = false) {args:List D} {p:List Nat} (hp0:p[0]? = some i) {r:D} {vs:List Value} (h:qc3 F f args H p = some (r,H')) (hs:Sim X ok w ι H) (hv:RepL ok w ι H args vs) :
  Goes X.P (callFunc f vs.toArray) w (Post X H.length ok w ι H r H'):=by
 unfold qc3 at h;split at h
 ·rename_i args' H0 hA hH;split at h
  ·rename_i hfree;rw [zL,decide_eq_true_eq] at hfree;obtain ⟨hnd,hfr2⟩:=hfree;split at h
   ·rename_i r0 A T hc;split at h
    ·rename_i hT;injection h with h;injection h with h1 h2;subst h1;subst h2;obtain ⟨hl,hg⟩:=qdb hH;obtain ⟨vI,Zr⟩:=qeT hA;have hS:∀ {a j:Nat},p[a]? = some j→∃ ds ds2,qe H j = some ds∧V0 p ds = some ds2∧qe H0 a = some ds2:=fun h=>qda hH h
     have hret:∀ {d d':D},Xr p d = some d'→ZZ 0 p [(0,d)] H = some ([(0,d')],H0):=fun {d d'} hd=>by
      unfold ZZ;simp [VN,hd,hH,hnd,Ze]
     have hret0:ZZ 0 p [] H = some ([],H0):=by
      unfold ZZ;simp [VN,hH,hnd,Ze]
     obtain ⟨VU,-,-⟩:=qbO (tmps:= #[]) hret0 hs (fun t d ht=>by simp [qg] at ht)
     let ι0:qz:=fun j=>ι (p.getD j 0)
     have hι0:∀ {a j:Nat},p[a]? = some j→ι0 a = ι j:=fun {a j} h=>by
      show ι (p.getD a 0) = ι j;rw [jd,h];rfl
     have Ve:RepL ok w ι0 H0 args' vs:=by
      refine ⟨by rw [vI];exact hv.1,fun j d' hj=>?_⟩;obtain ⟨d,q1,q2⟩:=Zr hj;have h0:=hv.2 j d q1
      have he:EnvRep ok w ι H [(0,d)] #[vs.getD j undef]:=fun t c ht=>by
       simp only [qg] at ht;split at ht
       ·rename_i j9;injection ht with ht;subst ht;subst j9;exact ⟨by simp,h0⟩
       ·cases ht
      obtain ⟨-,he1,-⟩:=qbO (hret q2) hs he;exact (he1 0 d' (by simp [qg])).2
     refine (hF f _ _ _ _ ok w ι0 vs hc VU Ve).mono fun v w' hp=>?_;obtain ⟨ι',ok',k1,k2,k3,k4⟩:=hp;replace k4:=k4 hgr;have hkT:p.length≤(some A :: T).length:=(by rw [← hl];exact k3.nle.2);have Z8:0 < p.length:=(List.getElem?_eq_some_iff.1 hp0).1
     have hfr:∀ b,b < w.heap.size→(∀ a j s,p[a]? = some j→ι j≠some (b,s))→w'.heap[b]? = w.heap[b]?:=fun b hb zy=>k3.frame b hb fun a ds s ha hi=>by
      obtain ⟨j,_,q1,_⟩:=hg ha;exact zy a j s q1 (by rw [← hι0 q1];exact hi)
     have VV:∀ a es b s,qe (some A :: T) a = some es→ι' a = some (b,s)→b < w.heap.size→∃ c j s',p[c]? = some j∧ι j = some (b,s'):=fun a es b s hk hb qq=>by
      obtain ⟨c,es',s',hj,hi⟩:=k3.own a es b s hk hb qq;obtain ⟨j,_,q1,_⟩:=hg hj;exact ⟨c,j,s',q1,by rw [← hι0 q1];exact hi⟩
     have YC:∀ b,ok' b→b < w.heap.size→ok b∨∃ c j s,p[c]? = some j∧ι j = some (b,s):=fun b hb qq=>by
      rcases k3.okN b hb qq with h | ⟨c,es,s,hk,hi⟩
      ·exact .inl h
      ·obtain ⟨j,_,q1,_⟩:=hg hk;exact .inr ⟨c,j,s,q1,by rw [← hι0 q1];exact hi⟩
     have Vh:∀ {a j:Nat},p[a]? = some j→j < H.length:=fun h=>by
      obtain ⟨ds,_,q,_⟩:=hS h;exact qt q
     obtain ⟨B,hB⟩:∃ B:qd,B = some (mv.mvL p H.length A) :: T:=⟨_,rfl⟩;have JH:B.length = (some A :: T).length:=by rw [hB];rfl
     have Jp:∀ a es,qe B a = some es→∃ es1,qe (some A :: T) a = some es1∧es1.length = es.length∧((a = 0∧es = mv.mvL p H.length es1)∨(es = es1∧es.all idFree = true)):=by
      intro a es ha;rw [hB] at ha;cases a with
      | zero =>
       simp only [qe,Qh,Zw,qs] at ha;subst ha;exact ⟨A,rfl,by simp [J1],.inl ⟨rfl,rfl⟩⟩
      | succ a =>
       have ZD:qe T a = some es:=(by simpa [qe] using ha);refine ⟨es,by simpa [qe] using ha,rfl,.inr ⟨rfl,?_⟩⟩;have qi:=qt ZD
       have hm:some es∈T:=by
        unfold qe at ZD;rw [qU qi] at ZD;rw [← show T[a] = some es by simpa using ZD];exact vQ qi
       simpa [qc4] using List.all_eq_true.1 hT _ hm
     let n:=H.length
     let k:=p.length
     let H2:qd:=kU H p B ++ T.drop (k - 1)
     have hn:(kU H p B).length = n:=qeI _ _ _
     let ι2:qz:=fun j=>match kZ p j 0 with
      | some a=>ι' a
      | none=>if j < n then ι j else ι' (j - n+k)
     have i2a:∀ {a j:Nat},p[a]? = some j→ι2 j = ι' a:=fun {a j} h=>by
      have:=qf4 (k:=0) hnd h;show (match kZ p j 0 with | some a=>ι' a | none=>_) = _;rw [this,Zx]
     have i2b:∀ {j:Nat},j ∉ p→j < n→ι2 j = ι j:=fun {j} h hj=>by
      show (match kZ p j 0 with | some a=>ι' a | none=>if j < n then ι j else ι' (j - n+k)) = _;rw [qd5 h];simp only;rw [if_pos hj]
     have i2c:∀ {j:Nat},n≤j→ι2 j = ι' (j - n+k):=fun {j} hj=>by
      have hnp:j ∉ p:=fun h=>by
       obtain ⟨a,ha⟩:=List.mem_iff_getElem?.1 h;have:=Vh ha;omega
      show (match kZ p j 0 with | some a=>ι' a | none=>if j < n then ι j else ι' (j - n+k)) = _;rw [qd5 hnp];simp only;rw [if_neg (by omega)]
     have g3:∀ {j:Nat},n≤j→qe H2 j = qe (some A :: T) (j - n+k):=fun {j} hj=>by
      obtain ⟨m,rfl⟩:∃ m,j = n+m:=⟨j - n,by omega⟩;have e1:qe H2 ((kU H p B).length+m) = qe (T.drop (k - 1)) m:=YH;rw [hn] at e1;rw [e1];have e2:n+m - n+k = (k - 1+m)+1:=(by omega);rw [e2];simp [qe,ke]
     have hH:∀ j es,qe H2 j = some es→(∃ a,p[a]? = some j∧qe B a = some es∧ι2 j = ι' a)∨(j ∉ p∧j < n∧qe H j = some es∧ι2 j = ι j)∨(n≤j∧qe (some A :: T) (j - n+k) = some es∧ι2 j = ι' (j - n+k)):=by
      intro j es hj;by_cases Qd:j < n
      ·rw [KV (by rw [hn];exact Qd)] at hj;by_cases Zo:j∈p
       ·obtain ⟨a,ha⟩:=List.mem_iff_getElem?.1 Zo
        have vI:a < B.length:=by
         have:=(List.getElem?_eq_some_iff.1 ha).1;omega
        rw [qbJ p B H a hnd Qd ha vI] at hj;exact .inl ⟨a,ha,hj,i2a ha⟩
       ·rw [qcT p B H Zo] at hj;exact .inr (.inl ⟨Zo,Qd,hj,i2b Zo Qd⟩)
      ·have hjn':n≤j:=(by omega);rw [g3 hjn'] at hj;exact .inr (.inr ⟨hjn',hj,i2c hjn'⟩)
     have hev:Evol n ok w ι H ok' w' ι2 H2:=by
      refine ⟨k3.os,k3.tape,k3.output,k3.size,fun b hb zy=>hfr b hb fun a j s ha=>?_,k3.okU,fun b hb qq=>?_,⟨qv _,by rw [qX,hn];omega⟩,?_,?_⟩
      ·obtain ⟨ds,_,q,_⟩:=hS ha;exact zy j ds s q
      ·rcases YC b hb qq with h | ⟨c,j,s,hc,hi⟩
       ·exact .inl h
       ·obtain ⟨ds,_,q,_⟩:=hS hc;exact .inr ⟨j,ds,s,q,hi⟩
      ·intro j Qd es hj;rcases hH j es hj with ⟨a,ha,q,e⟩ | ⟨_,_,q,e⟩ | ⟨q,_,_⟩
       ·obtain ⟨es1,q1,q2,-⟩:=Jp a es q;obtain ⟨ds,ds2,d1,d2,d3⟩:=hS ha;obtain ⟨ds3,d4,j7,KU⟩:=k3.heap a (by rw [hl];exact (List.getElem?_eq_some_iff.1 ha).1) es1 q1;rw [d3] at d4;injection d4 with d4;subst d4;have hlen:=qbQ d2;exact ⟨ds,d1,by omega,fun hl'=>by rw [e,KU (by omega)];exact hι0 ha⟩
       ·exact ⟨es,q,qv _,fun _=>e⟩
       ·omega
      ·intro j es b s hj hb qq;rcases hH j es hj with ⟨a,ha,q,e⟩ | ⟨_,_,q,e⟩ | ⟨q,hk,e⟩
       ·rw [e] at hb;obtain ⟨es1,q1,-⟩:=Jp a es q;obtain ⟨c,j',s',hc,hi⟩:=VV a es1 b s q1 hb qq;obtain ⟨ds,_,d1,_⟩:=hS hc;exact ⟨j',ds,s',d1,hi⟩
       ·rw [e] at hb;exact ⟨j,es,s,q,hb⟩
       ·rw [e] at hb;obtain ⟨c,j',s',hc,hi⟩:=VV _ es b s hk hb qq;obtain ⟨ds,_,d1,_⟩:=hS hc;exact ⟨j',ds,s',d1,hi⟩
     have Y7:∀ j es b s,j ∉ p→qe H j = some es→ι j = some (b,s)→b < w.heap.size∧∀ a j' s',p[a]? = some j'→ι j'≠some (b,s'):=fun j es b s Zo hj hb=>⟨hs.lt hj hb,fun a j' s' ha hi=>by
      obtain ⟨ds,_,d1,_⟩:=hS ha;have:=hs.inj j j' es ds b s s' hj d1 hb hi;exact Zo (by rw [this];exact ZS ha)⟩
     have hback:∀ {d:D} {v:Value},Rep ok' w' ι' (some A :: T) d v→Rep ok' w' ι2 H2 (mv p n d) v:=fun h=>by
      refine h.back fun a ha=>?_;cases jT:p[a]? with
      | some j =>
       have e1:kj p n a = j:=(by unfold kj;rw [jT]);rw [e1];have hj:=Vh jT;refine ⟨by rw [qX,hn];omega,fun ds2 zN=>?_,i2a jT⟩;rw [KV (by rw [hn];exact hj),qbJ p B H a hnd hj jT (by rw [JH];exact ha)] at zN;obtain ⟨es1,q1,q2,-⟩:=Jp a ds2 zN;exact ⟨es1,q1,q2⟩
      | none =>
       have hak:k≤a:=List.getElem?_eq_none_iff.1 jT;have e1:kj p n a = n+(a - k):=(by unfold kj;rw [jT]);have e2:n+(a - k) - n+k = a:=(by omega);rw [e1];refine ⟨?_,fun ds2 zN=>?_,?_⟩
       ·rw [qX,hn,Zb];simp only [ju] at ha hkT;omega
       ·rw [g3 (by omega),e2] at zN;exact ⟨ds2,zN,rfl⟩
       ·rw [i2c (by omega),e2]
     have Zj:Sim X ok' w' ι2 H2:=by
      refine ⟨k1.okS,k1.glob,?_,?_⟩
      ·intro a c es es' b s s' ha hc hb qI
       have cross:∀ {j es b s a es' s'},j ∉ p→qe H j = some es→ι j = some (b,s)→qe (some A :: T) a = some es'→ι' a = some (b,s')→False:=by
        intro j es b s a es' s' Zo hj hb hk qI;obtain ⟨q1,q2⟩:=Y7 j es b s Zo hj hb;obtain ⟨c,j',s2,hc,hi⟩:=VV a es' b s' hk qI q1;exact q2 c j' s2 hc hi
       have old:∀ j es,((∃ a,p[a]? = some j∧qe B a = some es∧ι2 j = ι' a)∨(n≤j∧qe (some A :: T) (j - n+k) = some es∧ι2 j = ι' (j - n+k)))→∃ a es1,qe (some A :: T) a = some es1∧ι2 j = ι' a∧kj p n a = j:=by
        rintro j es (⟨a,q1,q2,q3⟩ | ⟨q1,q2,q3⟩)
        ·obtain ⟨es1,q4,-⟩:=Jp a es q2;exact ⟨a,es1,q4,q3,by unfold kj;rw [q1]⟩
        ·refine ⟨_,es,q2,q3,?_⟩;unfold kj;rw [List.getElem?_eq_none_iff.2 (show p.length≤j - n+k by omega)];show n+(j - n+k - k) = j;omega
       have split2:∀ j es,qe H2 j = some es→(∃ a es1,qe (some A :: T) a = some es1∧ι2 j = ι' a∧kj p n a = j)∨(j ∉ p∧qe H j = some es∧ι2 j = ι j):=fun j es hj=>by
        rcases hH j es hj with h | ⟨h1,_,h2,h3⟩ | h
        ·exact .inl (old j es (.inl h))
        ·exact .inr ⟨h1,h2,h3⟩
        ·exact .inl (old j es (.inr h))
       rcases split2 a es ha with ⟨a1,e1,qa,ea,ma⟩ | ⟨a1,qa,ea⟩ <;> rcases split2 c es' hc with ⟨c1,e2,qc,ec,mc⟩ | ⟨c1,qc,ec⟩ <;> rw [ea] at hb <;> rw [ec] at qI
       ·have:=k1.inj a1 c1 _ _ b s s' qa qc hb qI;rw [← ma,← mc,this]
       ·exact (cross c1 qc qI qa hb).elim
       ·exact (cross a1 qa hb qc qI).elim
       ·exact hs.inj a c es es' b s s' qa qc hb qI
      ·intro j es hj;rcases hH j es hj with ⟨a,ha,q,e⟩ | ⟨j1,j2,qj,e⟩ | ⟨j1,qj,e⟩
       ·obtain ⟨es1,q1,q2,q3⟩:=Jp a es q;obtain ⟨b,arr,ty,fr,u1,u2,u3,u4,u5,u6,u7,u8⟩:=k1.blk a es1 q1;refine ⟨b,arr,ty,fr,by rw [e];exact u1,u2,u3,by omega,u5,u6,?_,?_⟩
        ·rcases q3 with ⟨-,rfl⟩ | ⟨rfl,-⟩
         ·intro d hd;rw [J1] at hd;obtain ⟨d',qS,rfl⟩:=List.mem_map.1 hd;rw [qdz];exact u7 d' qS
         ·exact u7
        ·rcases q3 with ⟨-,rfl⟩ | ⟨rfl,hf⟩
         ·intro m d hm;rw [J1,Zc,QF] at hm;obtain ⟨d',qS,rfl⟩:=hm;exact hback (u8 m d' qS)
         ·exact fun m d hm=>(u8 m d hm).free (JO hf d (mem_of_get? hm)) _ _
       ·obtain ⟨b,arr,e1,fr,q1,q2,q3,q4,q5,q6,q7,q8⟩:=hs.blk j es qj;obtain ⟨p1,p2⟩:=Y7 j es b _ j1 qj q1;refine ⟨b,arr,e1,fr,by rw [e];exact q1,fun hb=>?_,by rw [hfr b p1 p2];exact q3,q4,q5,q6,q7,fun m d hm=>(q8 m d hm).evol hs hev (q8 m d hm).closed⟩;rcases YC b hb p1 with h | ⟨c,j',s,hc,hi⟩
        ·exact q2 h
        ·exact p2 c j' s hc hi
       ·obtain ⟨b,arr,e1,fr,q1,q2,q3,q4,q5,q6,q7,q8⟩:=k1.blk _ es qj;have hf:es.all idFree = true:=k4 _ es (by rw [hl];show k≤_;omega) qj;exact ⟨b,arr,e1,fr,by rw [e];exact q1,q2,q3,q4,q5,q6,q7,fun m d hm=>(q8 m d hm).free (JO hf d (mem_of_get? hm)) _ _⟩
     rw [← hB];exact ⟨ι2,ok',Zj,hback k2,hev⟩
    ·cases h
   ·cases h
  ·cases h
 ·cases h
theorem qv1 {F:qO} (hF:Zv X F) {f:Nat} {args:List D} {p:List Nat} {r:D} {vs:List Value} (h:qby F f args H p = some (r,H')) (hs:Sim X ok w ι H) (hv:RepL ok w ι H args vs) :
  Goes X.P (callFunc f vs.toArray) w (Post X H.length ok w ι H r H'):=by
 unfold qby at h;split at h
 ·rename_i args' H0 hA hH;split at h
  ·rename_i hnd;split at h
   ·rename_i r0 T hc
    ·injection h with h;injection h with h1 h2;subst h1;subst h2;obtain ⟨hl,hg⟩:=qdb hH;obtain ⟨vI,Zr⟩:=qeT hA;have hS:∀ {a j:Nat},p[a]? = some j→∃ ds ds2,qe H j = some ds∧V0 p ds = some ds2∧qe H0 a = some ds2:=fun h=>qda hH h
     have hret:∀ {d d':D},Xr p d = some d'→ZZ 0 p [(0,d)] H = some ([(0,d')],H0):=fun {d d'} hd=>by
      unfold ZZ;simp [VN,hd,hH,hnd,Ze]
     have hret0:ZZ 0 p [] H = some ([],H0):=by
      unfold ZZ;simp [VN,hH,hnd,Ze]
     obtain ⟨VU,-,-⟩:=qbO (tmps:= #[]) hret0 hs (fun t d ht=>by simp [qg] at ht)
     let ι0:qz:=fun j=>ι (p.getD j 0)
     have hι0:∀ {a j:Nat},p[a]? = some j→ι0 a = ι j:=fun {a j} h=>by
      show ι (p.getD a 0) = ι j;rw [jd,h];rfl
     have Ve:RepL ok w ι0 H0 args' vs:=by
      refine ⟨by rw [vI];exact hv.1,fun j d' hj=>?_⟩;obtain ⟨d,q1,q2⟩:=Zr hj;have h0:=hv.2 j d q1
      have he:EnvRep ok w ι H [(0,d)] #[vs.getD j undef]:=fun t c ht=>by
       simp only [qg] at ht;split at ht
       ·rename_i j9;injection ht with ht;subst ht;subst j9;exact ⟨by simp,h0⟩
       ·cases ht
      obtain ⟨-,he1,-⟩:=qbO (hret q2) hs he;exact (he1 0 d' (by simp [qg])).2
     refine (hF f _ _ _ _ ok w ι0 vs hc VU Ve).mono fun v w' hp=>?_;obtain ⟨ι',ok',k1,k2,k3,k4⟩:=hp;have hkT:p.length≤T.length:=by rw [← hl];exact k3.nle.2
     have hfr:∀ b,b < w.heap.size→(∀ a j s,p[a]? = some j→ι j≠some (b,s))→w'.heap[b]? = w.heap[b]?:=fun b hb zy=>k3.frame b hb fun a ds s ha hi=>by
      obtain ⟨j,_,q1,_⟩:=hg ha;exact zy a j s q1 (by rw [← hι0 q1];exact hi)
     have VV:∀ a es b s,qe T a = some es→ι' a = some (b,s)→b < w.heap.size→∃ c j s',p[c]? = some j∧ι j = some (b,s'):=fun a es b s hk hb qq=>by
      obtain ⟨c,es',s',hj,hi⟩:=k3.own a es b s hk hb qq;obtain ⟨j,_,q1,_⟩:=hg hj;exact ⟨c,j,s',q1,by rw [← hι0 q1];exact hi⟩
     have YC:∀ b,ok' b→b < w.heap.size→ok b∨∃ c j s,p[c]? = some j∧ι j = some (b,s):=fun b hb qq=>by
      rcases k3.okN b hb qq with h | ⟨c,es,s,hk,hi⟩
      ·exact .inl h
      ·obtain ⟨j,_,q1,_⟩:=hg hk;exact .inr ⟨c,j,s,q1,by rw [← hι0 q1];exact hi⟩
     have Vh:∀ {a j:Nat},p[a]? = some j→j < H.length:=fun h=>by
      obtain ⟨ds,_,q,_⟩:=hS h;exact qt q
     obtain ⟨B,hB⟩:∃ B:qd,B = T.map (JY p H.length):=⟨_,rfl⟩;have JH:B.length = T.length:=by rw [hB,List.length_map]
     have Jp:∀ a es,qe B a = some es→∃ es1,qe T a = some es1∧es1.length = es.length∧es = mv.mvL p H.length es1:=by
      intro a es ha;rw [hB] at ha;unfold qe at ha ⊢;rw [Zc] at ha;cases hT:T[a]? with
      | none=>rw [hT] at ha;simp at ha
      | some x =>
       rw [hT] at ha;cases x with
       | none=>simp [JY] at ha
       | some ds =>
        simp only [zT,JY,Zw,qs] at ha;subst ha;exact ⟨ds,by simp,by simp [J1],rfl⟩
     let n:=H.length
     let k:=p.length
     let H2:qd:=kU H p B ++ B.drop k
     have hn:(kU H p B).length = n:=qeI _ _ _
     let ι2:qz:=fun j=>match kZ p j 0 with
      | some a=>ι' a
      | none=>if j < n then ι j else ι' (j - n+k)
     have i2a:∀ {a j:Nat},p[a]? = some j→ι2 j = ι' a:=fun {a j} h=>by
      have:=qf4 (k:=0) hnd h;show (match kZ p j 0 with | some a=>ι' a | none=>_) = _;rw [this,Zx]
     have i2b:∀ {j:Nat},j ∉ p→j < n→ι2 j = ι j:=fun {j} h hj=>by
      show (match kZ p j 0 with | some a=>ι' a | none=>if j < n then ι j else ι' (j - n+k)) = _;rw [qd5 h];simp only;rw [if_pos hj]
     have i2c:∀ {j:Nat},n≤j→ι2 j = ι' (j - n+k):=fun {j} hj=>by
      have hnp:j ∉ p:=fun h=>by
       obtain ⟨a,ha⟩:=List.mem_iff_getElem?.1 h;have:=Vh ha;omega
      show (match kZ p j 0 with | some a=>ι' a | none=>if j < n then ι j else ι' (j - n+k)) = _;rw [qd5 hnp];simp only;rw [if_neg (by omega)]
     have g3:∀ {j:Nat},n≤j→qe H2 j = qe B (j - n+k):=fun {j} hj=>by
      obtain ⟨m,rfl⟩:∃ m,j = n+m:=⟨j - n,by omega⟩;have e1:qe H2 ((kU H p B).length+m) = qe (B.drop k) m:=YH;rw [hn] at e1;rw [e1];have e2:n+m - n+k = k+m:=(by omega);rw [e2];simp [qe,ke]
     have hH:∀ j es,qe H2 j = some es→(∃ a,p[a]? = some j∧qe B a = some es∧ι2 j = ι' a)∨(j ∉ p∧j < n∧qe H j = some es∧ι2 j = ι j)∨(n≤j∧qe B (j - n+k) = some es∧ι2 j = ι' (j - n+k)):=by
      intro j es hj;by_cases Qd:j < n
      ·rw [KV (by rw [hn];exact Qd)] at hj;by_cases Zo:j∈p
       ·obtain ⟨a,ha⟩:=List.mem_iff_getElem?.1 Zo
        have vI:a < B.length:=by
         have:=(List.getElem?_eq_some_iff.1 ha).1;omega
        rw [qbJ p B H a hnd Qd ha vI] at hj;exact .inl ⟨a,ha,hj,i2a ha⟩
       ·rw [qcT p B H Zo] at hj;exact .inr (.inl ⟨Zo,Qd,hj,i2b Zo Qd⟩)
      ·have hjn':n≤j:=(by omega);rw [g3 hjn'] at hj;exact .inr (.inr ⟨hjn',hj,i2c hjn'⟩)
     have hev:Evol n ok w ι H ok' w' ι2 H2:=by
      refine ⟨k3.os,k3.tape,k3.output,k3.size,fun b hb zy=>hfr b hb fun a j s ha=>?_,k3.okU,fun b hb qq=>?_,⟨qv _,by rw [qX,hn];omega⟩,?_,?_⟩
      ·obtain ⟨ds,_,q,_⟩:=hS ha;exact zy j ds s q
      ·rcases YC b hb qq with h | ⟨c,j,s,hc,hi⟩
       ·exact .inl h
       ·obtain ⟨ds,_,q,_⟩:=hS hc;exact .inr ⟨j,ds,s,q,hi⟩
      ·intro j Qd es hj;rcases hH j es hj with ⟨a,ha,q,e⟩ | ⟨_,_,q,e⟩ | ⟨q,_,_⟩
       ·obtain ⟨es1,q1,q2,-⟩:=Jp a es q;obtain ⟨ds,ds2,d1,d2,d3⟩:=hS ha;obtain ⟨ds3,d4,j7,KU⟩:=k3.heap a (by rw [hl];exact (List.getElem?_eq_some_iff.1 ha).1) es1 q1;rw [d3] at d4;injection d4 with d4;subst d4;have hlen:=qbQ d2;exact ⟨ds,d1,by omega,fun hl'=>by rw [e,KU (by omega)];exact hι0 ha⟩
       ·exact ⟨es,q,qv _,fun _=>e⟩
       ·omega
      ·intro j es b s hj hb qq;rcases hH j es hj with ⟨a,ha,q,e⟩ | ⟨_,_,q,e⟩ | ⟨q,hk,e⟩
       ·rw [e] at hb;obtain ⟨es1,q1,-⟩:=Jp a es q;obtain ⟨c,j',s',hc,hi⟩:=VV a es1 b s q1 hb qq;obtain ⟨ds,_,d1,_⟩:=hS hc;exact ⟨j',ds,s',d1,hi⟩
       ·rw [e] at hb;exact ⟨j,es,s,q,hb⟩
       ·rw [e] at hb;obtain ⟨es1,hk1,-⟩:=Jp _ es hk;obtain ⟨c,j',s',hc,hi⟩:=VV _ es1 b s hk1 hb qq;obtain ⟨ds,_,d1,_⟩:=hS hc;exact ⟨j',ds,s',d1,hi⟩
     have Y7:∀ j es b s,j ∉ p→qe H j = some es→ι j = some (b,s)→b < w.heap.size∧∀ a j' s',p[a]? = some j'→ι j'≠some (b,s'):=fun j es b s Zo hj hb=>⟨hs.lt hj hb,fun a j' s' ha hi=>by
      obtain ⟨ds,_,d1,_⟩:=hS ha;have:=hs.inj j j' es ds b s s' hj d1 hb hi;exact Zo (by rw [this];exact ZS ha)⟩
     have hback:∀ {d:D} {v:Value},Rep ok' w' ι' T d v→Rep ok' w' ι2 H2 (mv p n d) v:=fun h=>by
      refine h.back fun a ha=>?_;cases jT:p[a]? with
      | some j =>
       have e1:kj p n a = j:=(by unfold kj;rw [jT]);rw [e1];have hj:=Vh jT;refine ⟨by rw [qX,hn];omega,fun ds2 zN=>?_,i2a jT⟩;rw [KV (by rw [hn];exact hj),qbJ p B H a hnd hj jT (by rw [JH];exact ha)] at zN;obtain ⟨es1,q1,q2,-⟩:=Jp a ds2 zN;exact ⟨es1,q1,q2⟩
      | none =>
       have hak:k≤a:=List.getElem?_eq_none_iff.1 jT;have e1:kj p n a = n+(a - k):=(by unfold kj;rw [jT]);have e2:n+(a - k) - n+k = a:=(by omega);rw [e1];refine ⟨?_,fun ds2 zN=>?_,?_⟩
       ·rw [qX,hn,Zb,JH];omega
       ·rw [g3 (by omega),e2] at zN;obtain ⟨es1,q1,q2,-⟩:=Jp a ds2 zN;exact ⟨es1,q1,q2⟩
       ·rw [i2c (by omega),e2]
     have Zj:Sim X ok' w' ι2 H2:=by
      refine ⟨k1.okS,k1.glob,?_,?_⟩
      ·intro a c es es' b s s' ha hc hb qI
       have cross:∀ {j es b s a es' s'},j ∉ p→qe H j = some es→ι j = some (b,s)→qe T a = some es'→ι' a = some (b,s')→False:=by
        intro j es b s a es' s' Zo hj hb hk qI;obtain ⟨q1,q2⟩:=Y7 j es b s Zo hj hb;obtain ⟨c,j',s2,hc,hi⟩:=VV a es' b s' hk qI q1;exact q2 c j' s2 hc hi
       have old:∀ j es,((∃ a,p[a]? = some j∧qe B a = some es∧ι2 j = ι' a)∨(n≤j∧qe B (j - n+k) = some es∧ι2 j = ι' (j - n+k)))→∃ a es1,qe T a = some es1∧ι2 j = ι' a∧kj p n a = j:=by
        rintro j es (⟨a,q1,q2,q3⟩ | ⟨q1,q2,q3⟩)
        ·obtain ⟨es1,q4,-⟩:=Jp a es q2;exact ⟨a,es1,q4,q3,by unfold kj;rw [q1]⟩
        ·obtain ⟨es1,q4,-⟩:=Jp _ es q2;refine ⟨_,es1,q4,q3,?_⟩;unfold kj;rw [List.getElem?_eq_none_iff.2 (show p.length≤j - n+k by omega)];show n+(j - n+k - k) = j;omega
       have split2:∀ j es,qe H2 j = some es→(∃ a es1,qe T a = some es1∧ι2 j = ι' a∧kj p n a = j)∨(j ∉ p∧qe H j = some es∧ι2 j = ι j):=fun j es hj=>by
        rcases hH j es hj with h | ⟨h1,_,h2,h3⟩ | h
        ·exact .inl (old j es (.inl h))
        ·exact .inr ⟨h1,h2,h3⟩
        ·exact .inl (old j es (.inr h))
       rcases split2 a es ha with ⟨a1,e1,qa,ea,ma⟩ | ⟨a1,qa,ea⟩ <;> rcases split2 c es' hc with ⟨c1,e2,qc,ec,mc⟩ | ⟨c1,qc,ec⟩ <;> rw [ea] at hb <;> rw [ec] at qI
       ·have:=k1.inj a1 c1 _ _ b s s' qa qc hb qI;rw [← ma,← mc,this]
       ·exact (cross c1 qc qI qa hb).elim
       ·exact (cross a1 qa hb qc qI).elim
       ·exact hs.inj a c es es' b s s' qa qc hb qI
      ·intro j es hj;rcases hH j es hj with ⟨a,ha,q,e⟩ | ⟨j1,j2,qj,e⟩ | ⟨j1,qj,e⟩
       ·obtain ⟨es1,q1,q2,q3⟩:=Jp a es q;obtain ⟨b,arr,ty,fr,u1,u2,u3,u4,u5,u6,u7,u8⟩:=k1.blk a es1 q1;refine ⟨b,arr,ty,fr,by rw [e];exact u1,u2,u3,by omega,u5,u6,?_,?_⟩
        ·subst q3;intro d hd;rw [J1] at hd;obtain ⟨d',qS,rfl⟩:=List.mem_map.1 hd;rw [qdz];exact u7 d' qS
        ·subst q3;intro m d hm;rw [J1,Zc,QF] at hm;obtain ⟨d',qS,rfl⟩:=hm;exact hback (u8 m d' qS)
       ·obtain ⟨b,arr,e1,fr,q1,q2,q3,q4,q5,q6,q7,q8⟩:=hs.blk j es qj;obtain ⟨p1,p2⟩:=Y7 j es b _ j1 qj q1;refine ⟨b,arr,e1,fr,by rw [e];exact q1,fun hb=>?_,by rw [hfr b p1 p2];exact q3,q4,q5,q6,q7,fun m d hm=>(q8 m d hm).evol hs hev (q8 m d hm).closed⟩;rcases YC b hb p1 with h | ⟨c,j',s,hc,hi⟩
        ·exact q2 h
        ·exact p2 c j' s hc hi
       ·obtain ⟨es1,q1,q2,q3⟩:=Jp _ es qj;obtain ⟨b,arr,ty,fr,u1,u2,u3,u4,u5,u6,u7,u8⟩:=k1.blk _ es1 q1;refine ⟨b,arr,ty,fr,by rw [e];exact u1,u2,u3,by omega,u5,u6,?_,?_⟩
        ·subst q3;intro d hd;rw [J1] at hd;obtain ⟨d',qS,rfl⟩:=List.mem_map.1 hd;rw [qdz];exact u7 d' qS
        ·subst q3;intro m d hm;rw [J1,Zc,QF] at hm;obtain ⟨d',qS,rfl⟩:=hm;exact hback (u8 m d' qS)
     rw [← hB];exact ⟨ι2,ok',Zj,hback k2,hev⟩
   ·cases h
  ·cases h
 ·cases h
theorem qv3 {F:qO} (hF:Zv X F) {f:Nat} (hgr:(X.gr f && X.byRef f) = false) {args:List D} {r:D} {vs:List Value} (h:XV F f args H = some (r,H')) (hs:Sim X ok w ι H) (hv:RepL ok w ι H args vs) :
  Goes X.P (callFunc f vs.toArray) w (Post X H.length ok w ι H r H'):=by
 unfold XV at h;split at h
 ·cases h
 ·exact qv2 hF hgr rfl h hs hv
theorem qv9 {F:qO} (hF:Zv X F) {f:Nat} (hgr:(X.gr f && X.byRef f) = false) {args:List D} {r:D} {vs:List Value} (h:Xk X F f args H = some (r,H')) (hs:Sim X ok w ι H) (hv:RepL ok w ι H args vs) :
  Goes X.P (callFunc f vs.toArray) w (Post X H.length ok w ι H r H'):=by
 unfold Xk at h;split at h
 ·exact qv3 hF hgr h hs hv
 ·exact qv6 hF hgr h hs hv
theorem qgr {F:qO} (hF:Zv X F) {f:Nat} {args:List D} {r:D} {vs:List Value} (h:Vu X F f args H = some (r,H')) (hs:Sim X ok w ι H) (hv:RepL ok w ι H args vs) :
  Goes X.P (callFunc f vs.toArray) w (Post X H.length ok w ι H r H'):=by
 unfold Vu at h;split at h
 ·split at h
  ·split at h
   ·exact qv1 hF h hs hv
   ·rename_i hgr0;exact qv9 hF (by simp [hgr0]) h hs hv
  refine (hF f args H r H' ok w ι vs h hs hv).mono fun v w' hp=>?_;obtain ⟨ι',ok',h1,h2,h3,_⟩:=hp;exact ⟨ι',ok',h1,h2,h3⟩
 ·rename_i hbr;have hgr:(X.gr f && X.byRef f) = false:=by simp [hbr]
  split at h
  ·rename_i hfree;split at h
   ·cases h
   ·rename_i r0 L hc;injection h with h;injection h with h1 h2;subst h1;subst h2;refine (hF f args [] r0 L ok w zo vs hc (qhf hs) ⟨hv.1,fun j d hj=>(hv.2 j d hj).free (JO hfree d (mem_of_get? hj)) _ _⟩).mono fun v w' hp=>?_;obtain ⟨ι1,ok1,k1,k2,k3,k4⟩:=hp;replace k4:=k4 hgr;have hfr:∀ b,b < w.heap.size→w'.heap[b]? = w.heap[b]?:=fun b hb=>k3.frame b hb (fun i ds s hd=>by simp [qe] at hd)
    obtain ⟨j1,j2⟩:=qkD (L:=L) (ι1:=ι1) (ok2:=ok1) hs ⟨k3.os,k3.tape,k3.output⟩ k3.size hfr k3.okU (fun b hb qi=>(k3.okN b hb qi).resolve_right fun ⟨i,ds,s,hd,_⟩=>by simp [qe] at hd) k1.okS k1.inj (fun i ds hd=>by
     obtain ⟨b,arr,e,fr,q1,q2,q3,q4,q5,q6,q7,q8⟩:=k1.blk i ds hd;refine ⟨b,arr,e,fr,q1,?_,q2,q3,q4,q5,q6,q7,fun j d hj=>(q8 j d hj).free (JO (k4 i ds (vf _) hd) d (mem_of_get? hj)) _ _⟩;rcases Yg b w.heap.size with qi | vd
     ·obtain ⟨j,es,s',hj,_⟩:=k3.own i ds b _ hd q1 qi;simp [qe] at hj
     ·exact vd)
    exact ⟨_,ok1,j1,k2.shift ι H,j2⟩
  ·split at h
   ·cases h
   ·rename_i args' kF;split at h
    ·cases h
    ·rename_i r0 L hc;split at h
     ·rename_i hvf;rw [zL] at hvf;injection h with h;injection h with h1 h2;subst h1;subst h2;obtain ⟨l1,l2⟩:=freeze_rep.freezeL_rep hs args (vs:=fun j=>vs.getD j undef) hv.2 kF;refine (hF f args' [] r0 L (qdk ok ι H) w zo vs hc (qmp hs) ⟨by rw [hv.1,l1],l2⟩).mono fun v w' hp=>?_;obtain ⟨ι1,ok1,k1,k2,k3,k4⟩:=hp;replace k4:=k4 hgr;have hfr:∀ b,b < w.heap.size→w'.heap[b]? = w.heap[b]?:=fun b hb=>k3.frame b hb (fun i ds s hd=>by simp [qe] at hd)
      obtain ⟨j1,j2⟩:=qkD (L:=L) (ι1:=ι1) (ok2:=ok) hs ⟨k3.os,k3.tape,k3.output⟩ k3.size hfr (fun _ h=>h) (fun _ h _=>h) (fun b hb=>jr (hs.okS b hb) k3.size) k1.inj (fun i ds hd=>by
       obtain ⟨b,arr,e,fr,q1,q2,q3,q4,q5,q6,q7,q8⟩:=k1.blk i ds hd
       have vd:w.heap.size≤b:=by
        rcases Yg b w.heap.size with qi | vd
        ·obtain ⟨j,es,s',hj,_⟩:=k3.own i ds b _ hd q1 qi;simp [qe] at hj
        ·exact vd
       refine ⟨b,arr,e,fr,q1,vd,fun hb=>by have:=hs.okS b hb;omega,q3,q4,q5,q6,q7,fun j d hj=>?_⟩
       have XL:vFree d = true:=by
        have hl:=qt hd
        have Z9:some ds∈L:=by
         unfold qe at hd;rw [qU hl] at hd;simp only [Zw] at hd;rw [← hd];exact vQ hl
        have:=List.all_eq_true.1 hvf.2 _ Z9;simp only [qgs] at this;exact List.all_eq_true.1 this d (mem_of_get? hj)
       exact ((q8 j d hj).free (JO (k4 i ds (vf _) hd) d (mem_of_get? hj)) _ _).vfree XL ok)
      exact ⟨_,ok,j1,(k2.vfree hvf.1 ok).shift ι H,j2⟩
     ·cases h
mutual
theorem qcQ (n:Nat):∀ (d:D),idFree d = true→shift n d = d
 | .agg cs,h=>by simp only [idFree] at h;simp only [shift,qcR n cs h]
 | .tup cs,h=>by simp only [idFree] at h;simp only [shift,qcR n cs h]
 | .fn f cs,h=>by simp only [idFree] at h;simp only [shift,qcR n cs h]
 | .iface t d,h=>by simp only [idFree] at h;simp only [shift,qcQ n d h]
 | .optr ..,h=>by simp [idFree] at h
 | .osl ..,h=>by simp [idFree] at h
 | .bool _,_=>rfl
 | .int _ _,_=>rfl
 | .str _,_=>rfl
 | .nilp,_=>rfl
 | .nilf,_=>rfl
 | .nili,_=>rfl
 | .raw _,_=>rfl
 | .vptr _,_=>rfl
 | .vsl ..,_=>rfl
theorem qcR (n:Nat):∀ (cs:List D),idFree.idFreeL cs = true→shift.shiftL n cs = cs
 | [],_=>rfl
 | d :: l,h=>by
  simp only [idFree.idFreeL,zL] at h;simp only [shift.shiftL,qcQ n d h.1,qcR n l h.2]
end
theorem qc2 {F:qO} {f:Nat} {args:List D} {r:D × qd} (hp:(X.pureF f && !X.byRef f) = true) (h:Qg X F f args H = some r):r.2 = H∧idFree r.1 = true ∧
  ((args.all idFree = true∧F f args [] = some (r.1,[])) ∨
   (¬ args.all idFree = true∧X.perm f = true∧args.all (Xd H) = true∧vFree r.1 = true∧∃ args',XR H args = some args'∧F f args' [] = some (r.1,[]))):=by
 unfold Qg at h;rw [if_pos hp] at h;split at h
 ·rename_i ha;split at h
  ·rename_i r0 hc;split at h
   ·rename_i hi;injection h with h;subst h;exact ⟨rfl,hi,.inl ⟨ha,hc⟩⟩
   ·cases h
  ·cases h
 ·rename_i ha;split at h
  ·rename_i hpf;rw [zL] at hpf;split at h
   ·rename_i args' kF;split at h
    ·rename_i r0 hc;split at h
     ·rename_i hi;rw [zL] at hi;injection h with h;subst h;exact ⟨rfl,hi.1,.inr ⟨ha,hpf.1,hpf.2,hi.2,args',kF,hc⟩⟩
     ·cases h
    ·cases h
   ·cases h
  ·cases h
theorem qea {F:qO} {f:Nat} {args:List D} {r:D × qd} (h:Qg X F f args H = some r):Vu X F f args H = some r:=by
 by_cases hp:(X.pureF f && !X.byRef f) = true
 ·obtain ⟨h4,h3,h1⟩:=qc2 hp h
  have hb:¬ X.byRef f = true:=by
   rw [zL] at hp;simpa using hp.2
  obtain ⟨r,H'⟩:=r;simp only at h3 h4 h1;subst h4;unfold Vu;rcases h1 with ⟨h1,h2⟩ | ⟨h1,_,_,hv,args',kF,h2⟩
  ·rw [if_neg hb,if_pos h1,h2];simp only [qcQ _ _ h3,Xm]
  ·rw [if_neg hb,if_neg h1,kF];simp only [h2,hv,List.all_nil,Bool.and_self,if_true,qcQ _ _ h3,Xm]
 ·unfold Qg at h
  rwa [if_neg hp] at h
theorem qmn {i:Nat} {ds ds':List D} (hs:Sim X ok w ι H) (hd:qe H i = some ds) (hl:ds.length = ds'.length) (hr:∀ b arr e fr,ι i = some (b,arr.size)→w.heap[b]? = some (.cells arr e fr)→∀ (j:Nat) d,ds'[j]? = some d→Rep ok w zo [] d (arr.getD j undef)) :
  Sim X ok w ι (ql H i ds')∧Evol H.length ok w ι H ok w ι (ql H i ds'):=by
 have qi:i < H.length:=qt hd
 have hg:∀ j es,qe (ql H i ds') j = some es→(j = i∧es = ds')∨(j≠i∧qe H j = some es):=by
  intro j es hj;by_cases ZC:j = i
  ·subst ZC;simp only [qe,ql] at hj;rw [List.getElem?_set_self qi] at hj;exact .inl ⟨rfl,by simpa using hj.symm⟩
  ·refine .inr ⟨ZC,?_⟩;simp only [qe,ql] at hj ⊢
   rwa [List.getElem?_set_ne (Ne.symm ZC)] at hj
 have hg2:∀ j es,qe (ql H i ds') j = some es→∃ es0,qe H j = some es0:=by
  intro j es hj;rcases hg j es hj with ⟨rfl,_⟩ | ⟨_,h⟩
  ·exact ⟨ds,hd⟩
  ·exact ⟨es,h⟩
 have hev:Evol H.length ok w ι H ok w ι (ql H i ds'):=by
  refine ⟨rfl,rfl,rfl,qv _,fun _ _ _=>rfl,fun _ h=>h,fun b h _=>.inl h,⟨qv _,by simp [ql]⟩,?_,?_⟩
  ·intro j _ es hj;rcases hg j es hj with ⟨rfl,rfl⟩ | ⟨_,h⟩
   ·exact ⟨ds,hd,by rw [hl];exact qv _,fun _=>rfl⟩
   ·exact ⟨es,h,qv _,fun _=>rfl⟩
  ·intro j es b s hj hb _;obtain ⟨es0,h0⟩:=hg2 j es hj;exact ⟨j,es0,s,h0,hb⟩
 refine ⟨⟨hs.okS,hs.glob,?_,?_⟩,hev⟩
 ·intro a c es es' b s s' ha hc hb qI;obtain ⟨e1,h1⟩:=hg2 a es ha;obtain ⟨e2,h2⟩:=hg2 c es' hc;exact hs.inj a c e1 e2 b s s' h1 h2 hb qI
 ·intro j es hj;rcases hg j es hj with ⟨rfl,rfl⟩ | ⟨_,h⟩
  ·obtain ⟨b,arr,e,fr,k1,k2,k3,k4,k5,k6,k7,k8⟩:=hs.blk j ds hd;have Z6:=hr b arr e fr k1 k3;refine ⟨b,arr,e,fr,k1,k2,k3,by rw [← hl];exact k4,k5,k6,fun d hm=>?_,fun m d hm=>(Z6 m d hm).lift⟩;obtain ⟨m,jl,qW⟩:=List.mem_iff_getElem.1 hm;have hm3:es[m]? = some d:=(by rw [qU jl,qW]);exact qdy (Z6 m d hm3) (k6 m (by omega))
  ·obtain ⟨b,arr,e,fr,k1,k2,k3,k4,k5,k6,k7,k8⟩:=hs.blk j es h;exact ⟨b,arr,e,fr,k1,k2,k3,k4,k5,k6,k7,fun m d hm=>(k8 m d hm).evol hs hev (k8 m d hm).closed⟩
theorem qk3:Evol H.length ok w ι H ok w ι H :=
 ⟨rfl,rfl,rfl,qv _,fun _ _ _=>rfl,fun _ h=>h,fun _ h _=>.inl h,⟨qv _,qv _⟩,fun _ _ ds hd=>⟨ds,hd,qv _,fun _=>rfl⟩,fun i ds _ s hd hi _=>⟨i,ds,s,hd,hi⟩⟩
theorem qgU {i:Nat} (h:kh H i = some H') (hs:Sim X ok w ι H):∃ ok',Sim X ok' w ι H'∧Evol H.length ok w ι H ok' w ι H'∧H'.length = H.length:=by
 unfold kh at h;split at h
 ·rename_i ds hd;split at h
  ·injection h with h;subst h;exact ⟨ok,hs,qk3,rfl⟩
  split at h
  ·rename_i ds' l ko;split at h
   ·cases h
   ·rename_i QR;injection h with h;subst h
    have Qt:qe (jq H l) i = some ds:=by
     have:∀ (l:List Nat) (H:qd),qe H i = some ds→i ∉ l→qe (jq H l) i = some ds:=by
      intro l
      induction l with
      | nil=>intro H h _;exact h
      | cons a l ih =>
       intro H h hn;simp only [zA,not_or] at hn;refine ih _ ?_ hn.2;unfold qe at h ⊢
       rwa [List.getElem?_set_ne (Ne.symm hn.1)]
     exact this l H hd QR
    have hsc:=qc0 hs l
    have hst2:∀ b arr e fr,ι i = some (b,arr.size)→w.heap[b]? = some (.cells arr e fr)→ds.length = ds'.length∧∀ (j:Nat) d,ds'[j]? = some d→Rep (V1 ok ι H l) w zo [] d (arr.getD j undef):=by
     intro b arr e fr q1 q2;obtain ⟨b',arr',e',fr',k1,k2,k3,k4,k5,k6,k7,k8⟩:=hs.blk i ds hd;rw [q1] at k1;injection k1 with k1;injection k1 with k1a k1b;subst k1a;rw [q2] at k3;injection k3 with k3;injection k3 with k3a k3b k3c;subst k3a
     exact Ym (cond:=fun i=>∀ ds b s,qe H i = some ds→ι i = some (b,s)→V1 ok ι H l b) (fun d d' l' v hr hd hc=>qaM hs (okF:=V1 ok ι H l) (fun b hb=>.inl hb) 9 d d' l' v hr hd hc) ds (vs:=fun j=>arr.getD j undef) k8 ko
      (fun i hi ds b s hd hb=>.inr ⟨i,ds,s,hi,hd,hb⟩)
    obtain ⟨b,arr,e,fr,k1,k2,k3,-⟩:=hs.blk i ds hd;obtain ⟨s1,s2⟩:=qmn hsc Qt (hst2 b arr e fr k1 k3).1 (fun b arr e fr q1 q2=>(hst2 b arr e fr q1 q2).2);have hlen:(ql (jq H l) i ds').length = H.length:=(by rw [ql,vt,Qk]);rw [Qk] at s2;exact ⟨V1 ok ι H l,s1,(qaC (ok:=ok) (w:=w) (ι:=ι) (H:=H) l).trans s2,hlen⟩
  ·cases h
 ·cases h
theorem qeD {e:qn}:∀ {ss:List Nat} {H H':qd} {ok:Nat→Prop},Yn e ss H = some H'→Sim X ok w ι H→∃ ok',Sim X ok' w ι H'∧Evol H.length ok w ι H ok' w ι H'∧H'.length = H.length
 | [],H,H',ok,h,hs=>by
  injection h with h;subst h;exact ⟨ok,hs,qk3,rfl⟩
 | s :: ss,H,H',ok,h,hs=>by
  have go:∀ {i:Nat},(match kh H i with
   | some H'=>Yn e ss H'
   | none=>none) = some H'→∃ ok',Sim X ok' w ι H'∧Evol H.length ok w ι H ok' w ι H'∧H'.length = H.length:=by
   intro i h;split at h
   ·rename_i H1 h1;obtain ⟨ok1,k1,k2,k3⟩:=qgU h1 hs;obtain ⟨ok2,j1,j2,j3⟩:=qeD h k1;rw [k3] at j2 j3;exact ⟨ok2,j1,k2.trans j2,j3⟩
   ·cases h
  unfold Yn at h;split at h
  ·exact go h
  ·exact go h
  ·exact qeD h hs
theorem qvH {F:qO} (hF:Zv X F) {f:Nat} {args:List D} {r:D} {vs:List Value} (h:Vv X F f args H = some (r,H')) (hs:Sim X ok w ι H) (hv:RepL ok w ι H args vs) :
  Goes X.P (callFunc f vs.toArray) w (Post X H.length ok w ι H r H'):=by
 unfold Vv at h;split at h
 ·exact qgr hF (qea h) hs hv
 ·split at h
  ·rename_i H1 hst;unfold qeE at hst;split at hst
   ·obtain ⟨ok1,s1,hev,hlen⟩:=qgU hst hs;refine (qgr hF (qea h) s1 ⟨hv.1,fun j d hj=>(hv.2 j d hj).evol hs hev (hv.2 j d hj).closed⟩).mono ?_;rintro v w' ⟨ι',ok',h1,h2,h3⟩;rw [hlen] at h3;exact ⟨ι',ok',h1,h2,hev.trans h3⟩
   ·cases hst
  ·cases h
theorem qvE {F:qO} (hF:Zv X F) {f:Nat} {args:List D} {r:D} {vs:List Value} (h:ZP X F f args H = some (r,H')) (hs:Sim X ok w ι H) (hv:RepL ok w ι H args vs) :
  Goes X.P (callFunc f vs.toArray) w (Post X H.length ok w ι H r H'):=by
 unfold ZP at h;split at h
 ·exact qvH hF h hs hv
 ·split at h
  ·rename_i args' l hst
   obtain ⟨s1,s2⟩:=Ym (cond:=fun i=>∀ ds b s,qe H i = some ds→ι i = some (b,s)→V1 ok ι H l b) (fun d d' l' v hr hd hc=>qaM hs (okF:=V1 ok ι H l) (fun b hb=>.inl hb) 9 d d' l' v hr hd hc) args (vs:=fun j=>vs.getD j undef) hv.2 hst
    (fun i hi ds b s hd hb=>.inr ⟨i,ds,s,hi,hd,hb⟩)
   refine (qgr hF (qea h) (qc0 hs l) ⟨by rw [hv.1,s1],fun j d hj=>(s2 j d hj).lift⟩).mono ?_;rintro v w' ⟨ι',ok',h1,h2,h3⟩;rw [Qk] at h3;exact ⟨ι',ok',h1,h2,(qaC l).trans h3⟩
  ·cases h
theorem qeb {F:qO} {f:Nat} {args:List D} {H:qd} (hp:(X.perm f && !X.pureF f && !X.byRef f) = false) (hb:(X.perm f && X.byRef f) = false):ZP X F f args H = Qg X F f args H:=by
 unfold ZP Vv;rw [hp,hb]
theorem RepL.append {xs ys:List D} {vs us:List Value} (h1:RepL ok w ι H xs vs) (h2:RepL ok w ι H ys us):RepL ok w ι H (xs ++ ys) (vs ++ us):=by
 refine ⟨by simp [h1.1,h2.1],fun j d hj=>?_⟩;rw [jd];by_cases qi:j < xs.length
 ·rw [jX qi] at hj;rw [jX (by rw [h1.1];exact qi)];have:=h1.2 j d hj
  rwa [jd] at this
 ·rw [ku (by omega)] at hj;rw [ku (by rw [h1.1];omega),h1.1];have:=h2.2 _ d hj
  rwa [jd] at this
theorem qhA {ds:List D} {vs:Array Value} (hl:vs.size = ds.length) (h:∀ (j:Nat) d,ds[j]? = some d→Rep ok w ι H d (vs.getD j undef)):RepL ok w ι H ds vs.toList :=
 ⟨by simpa using hl,fun j d hj=>by
  have:=h j d hj;simpa [zw,jd] using this⟩
theorem Zz {d:D} {ds:List D} {vs:List Value} (h:RepL ok w ι H (d :: ds) vs):∃ v us,vs = v :: us∧Rep ok w ι H d v∧RepL ok w ι H ds us:=by
 cases vs with
 | nil=>have:=h.1;simp at this
 | cons v us=>exact ⟨v,us,rfl,h.2 0 d rfl,by have:=h.1;simpa using this,fun j x hj=>h.2 (j+1) x (by simpa using hj)⟩
theorem qau {vs:List Value} (h:RepL ok w ι H [] vs):vs = []:=qak (by simpa using h.1)
theorem kM {α:Type} {x:Option α} {H H':qd} {d:α} (h:x.map (·,H) = some (d,H')):x = some d∧H = H':=by
 cases x with
 | none=>simp at h
 | some y=>simp only [zT,qs,qK] at h;exact ⟨by rw [h.1],h.2⟩
theorem qix {mx:Bool} {args:List D} {d:D} {vs:List Value} (hv:RepL ok w ι H args vs) (h:qbY mx args = some d) {P:Program} {ts:Array TypeId} {t:TypeId} :
  ∃ v,((if mx then Builtin.max_ else Builtin.min_) ts t vs.toArray).run P w = .ok v w∧Rep ok w ι H d v:=by
 unfold qbY at h;split at h
 ·split at h
  ·rename_i k a k' b hk;subst hk;injection h with h;subst h;obtain ⟨v1,us,rfl,r1,h2⟩:=Zz hv;obtain ⟨v2,us,rfl,r2,h3⟩:=Zz h2;obtain rfl:=qau h3;cases r1;cases r2;cases mx
   ·exact ⟨_,by simp [Builtin.min_,Builtin.min2],.int _ _⟩
   ·exact ⟨_,by simp [Builtin.max_,Builtin.max2],.int _ _⟩
  ·cases h
 ·cases h
theorem qvL {b:Builtin} {ts:Array TypeId} {t:TypeId} {cst:Array Bool} {args:List D} {d:D} {vs:List Value} (hs:Sim X ok w ι H) (hv:RepL ok w ι H args vs) (h:qaa X b ts.toList args H = some (d,H')) :
  Goes X.P (builtin b ts t cst vs.toArray) w (Post X H.length ok w ι H d H'):=by
 unfold qaa at h;split at h
 ·rename_i t0 tr x xr Y5;cases hl:zj X.P t0 x with
  | none=>simp [hl] at h
  | some r =>
   simp only [hl,zT,qs,qK] at h;obtain ⟨rfl,rfl⟩:=h;obtain ⟨v,us,rfl,r1,_⟩:=Zz hv;obtain ⟨rv,q1,q2⟩:=qoQ (P:=X.P) (ty:=t) (ts:=ts) (vs:=(v :: us).toArray) (by rw [← Array.getElem?_toList,Y5];rfl) (by simp) r1 hl;exact Goes.value (by simp [builtin,q1]) (Post.same hs q2)
 ·rename_i t0 u tr s x xr Y5;obtain ⟨v1,us,rfl,r1,h2⟩:=Zz hv;obtain ⟨v2,us,rfl,r2,h3⟩:=Zz h2;obtain ⟨rv,w1,q1,q2⟩:=qwb (P:=X.P) (ty:=t) hs r1 r2 h;refine Goes.value (w':=w1) (v:=rv) ?_ q2;have e1:ts[0]? = some t0:=by rw [← Array.getElem?_toList,Y5];rfl
  have e2:ts[1]? = some u:=by rw [← Array.getElem?_toList,Y5];rfl
  have e3:Builtin.append_ ts t (v1 :: v2 :: us).toArray = Builtin.append_ #[t0,u] t #[v1,v2]:=by
   simp only [Builtin.append_,e1,e2];rfl
  simp [builtin,e3,q1]
 ·rename_i t0 u tr s x xr Y5;obtain ⟨v1,us,rfl,r1,h2⟩:=Zz hv;obtain ⟨v2,us,rfl,r2,h3⟩:=Zz h2;obtain ⟨rv,w1,q1,q2⟩:=quI (P:=X.P) (ty:=t) hs r1 r2 h;refine Goes.value (w':=w1) (v:=rv) ?_ q2;have e1:ts[0]? = some t0:=by rw [← Array.getElem?_toList,Y5];rfl
  have e3:Builtin.copy_ ts t (v1 :: v2 :: us).toArray = Builtin.copy_ #[t0,u] t #[v1,v2]:=by
   simp only [Builtin.copy_,e1];rfl
  simp [builtin,e3,q1]
 ·obtain ⟨hm,rfl⟩:=kM h;obtain ⟨v,q1,q2⟩:=qix (P:=X.P) (ts:=ts) (t:=t) hv hm;simp only [kB,if_false] at q1;exact Goes.value (by simp [builtin,q1]) (Post.same hs q2)
 ·obtain ⟨hm,rfl⟩:=kM h;obtain ⟨v,q1,q2⟩:=qix (P:=X.P) (ts:=ts) (t:=t) hv hm;simp only [if_true] at q1;exact Goes.value (by simp [builtin,q1]) (Post.same hs q2)
 ·rename_i t0 tr x xr Y5;obtain ⟨v,us,rfl,r1,_⟩:=Zz hv;obtain ⟨rv,w1,q1,q2⟩:=qvq (P:=X.P) (ty:=t) (ts:=ts) (us:=(v :: us).toArray) (by rw [← Array.getElem?_toList,Y5];rfl) (by simp) hs r1 h;exact Goes.value (w':=w1) (v:=rv) (by simp [builtin,q1]) q2
 ·cases h
theorem qlk {t:TypeId} {cs:List D} (hs:Sim X ok w ι H) (h:(JU X.P t).bind cellsOf = some cs):∃ v w',(Instr.alloc t true (.tuple #[])).run X.P w = .ok v w'∧Post X H.length ok w ι H (.optr H.length cs.length 0) (qo H cs) v w':=by
 cases hz:JU X.P t with
 | none=>simp [hz] at h
 | some z =>
  simp only [hz,VG] at h;obtain ⟨zv,z1,z2⟩:=qbA hz;obtain ⟨c1,c2,c3⟩:=Xj (z2 ok w ι H) h
  obtain ⟨ι',n1,n2,n3⟩:=qaY (e:=t) (arr:=zv.cells) (ds:=cs) hs w ⟨rfl,rfl,rfl⟩ rfl (by omega)
   (fun j hj=>by
    have vG:cs[j]? = some (cs[j]'(by omega)):=qU (by omega);exact (c3 j _ vG).oneCell (c2 _ (mem_of_get? vG)))
   c2 c3
  refine ⟨.pointer (some ⟨w.heap.size,0,none⟩),w.alloc (.cells zv.cells t),by simp [Instr.alloc,z1,newVar,newRow],ι',ok,n1,?_,n2⟩;refine .optr _ (by rw [zG];omega) fun ds hd=>?_;rw [qN] at hd;injection hd with hd;subst hd;exact ⟨qv _,fun _=>⟨_,_,n3,rfl⟩⟩
theorem qvQ {t:TypeId} {d:D} {v:Value} {cs:List D} (hs:Sim X ok w ι H) (hd:Rep ok w ι H d v) (h:cellsOf d = some cs):∃ v' w',(Instr.box t v).run X.P w = .ok v' w'∧Post X H.length ok w ι H (.optr H.length cs.length 0) (qo H cs) v' w':=by
 obtain ⟨c1,c2,c3⟩:=Xj hd h
 obtain ⟨ι',n1,n2,n3⟩:=qaY (e:=t) (arr:=v.cells) (ds:=cs) hs w ⟨rfl,rfl,rfl⟩ rfl (by omega)
  (fun j hj=>by
   have vG:cs[j]? = some (cs[j]'(by omega)):=qU (by omega);exact (c3 j _ vG).oneCell (c2 _ (mem_of_get? vG)))
  c2 c3
 refine ⟨.pointer (some ⟨w.heap.size,0,none⟩),w.alloc (.cells v.cells t),by simp [Instr.box,newVar,newRow],ι',ok,n1,?_,n2⟩;refine .optr _ (by rw [zG];omega) fun ds hd=>?_;rw [qN] at hd;injection hd with hd;subst hd;exact ⟨qv _,fun _=>⟨_,_,n3,rfl⟩⟩
theorem qdi (hs:Sim X ok w ι H) {e:qn} {a:Act} (he:EnvRep ok w ι H e a.tmps) {x:Operand} {d:D} (h:qB X e x = some d):∀ y,some d = some y→∃ v,(some x:Option Operand).map a.eval = some v∧Rep ok w ι H y v:=by
 intro y hy;injection hy with hy;subst hy;exact ⟨_,rfl,jk hs he h⟩
theorem qib {F:qO} (hF:Zv X F) {o:Oper} {e:qn} {a:Act} {d:D} (hs:Sim X ok w ι H) (he:EnvRep ok w ι H e a.tmps) (h:qT X F o.op e H = some (d,H')) :
  Goes X.P (execOp a.eval o) w (Post X H.length ok w ι H d H'):=by
 have pure_:∀ {v:Value} {d:D},Rep ok w ι H d v→∀ {s:Sem Next},s.run X.P w = .ok (.value v) w→Goes X.P s w (Post X H.length ok w ι H d H):=fun hr _ h=>Goes.value h (Post.same hs hr);unfold qT at h;split at h
 ·rename_i x ho;obtain ⟨h1,rfl⟩:=kM h;exact pure_ (jk hs he h1) (by simp [execOp,ho])
 ·rename_i x ho;obtain ⟨h1,rfl⟩:=kM h;exact pure_ (jk hs he h1) (by simp [execOp,ho])
 ·rename_i c x y ho;split at h
  ·rename_i t hc;obtain ⟨h1,rfl⟩:=kM h;have hb:=jk hs he hc;generalize Q5:a.eval c = cv at hb;cases hb;refine pure_ (v:=a.eval (if t then x else y)) (jk hs he h1) ?_;cases t <;> simp [execOp,ho,Q5,asBool]
  ·cases h
 ·rename_i t ho;split at h
  ·rename_i cs hz;injection h with h;injection h with h1 h2;subst h1;subst h2;obtain ⟨v,w1,q1,q2⟩:=qlk hs hz;exact Goes.value (by simp [execOp,ho,q1]) q2
  ·cases h
 ·rename_i t x ho;split at h
  ·rename_i cs hz;split at h
   ·injection h with h;injection h with h1 h2;subst h1;subst h2;cases hx:qB X e x with
    | none=>simp [hx] at hz
    | some dx =>
     simp only [hx,VG] at hz;obtain ⟨v,w1,q1,q2⟩:=qvQ (t:=t) hs (jk hs he hx) hz;exact Goes.value (by simp [execOp,ho,q1]) q2
   ·cases h
  ·cases h
 ·rename_i t parts ho;split at h
  ·rename_i ps KL;obtain ⟨h1,rfl⟩:=kM h;obtain ⟨v,q1,q2⟩:=qvN (P:=X.P) (vps:=parts.map fun (i,x)=>(i,a.eval x)) (by simpa using qdf hs he KL) h1;exact pure_ q2 (by simp [execOp,ho,q1])
  ·cases h
 ·rename_i t len parts ho;split at h
  ·rename_i ps KL;obtain ⟨v,w1,q1,q2⟩:=qvO (P:=X.P) (vps:=parts.map fun (i,x)=>(i,a.eval x)) hs (by simpa using qdf hs he KL) h;exact Goes.value (by simp [execOp,ho,q1]) q2
  ·cases h
 ·rename_i t p ho;split at h
  ·rename_i pd hp;obtain ⟨h1,rfl⟩:=kM h;obtain ⟨v,q1,q2⟩:=qiD hs (jk hs he hp) h1;exact pure_ q2 (by simp [execOp,ho,q1])
  ·cases h
 ·rename_i t p x ho;split at h
  ·rename_i pd xd hp hx;cases hst:stD X.P H t pd xd with
   | none=>simp [hst] at h
   | some H1 =>
    simp only [hst,zT,qs,qK] at h;obtain ⟨rfl,rfl⟩:=h;obtain ⟨w1,ι',q1,q2,q3⟩:=qlV hs (jk hs he hp) (jk hs he hx) hst;exact Goes.skip (by simp [execOp,ho,q1]) ⟨ι',ok,q2,.tup rfl (by simp),q3⟩
  ·cases h
 ·rename_i x ho;split at h
  ·rename_i cs hx;injection h with h;injection h with h1 h2;subst h1;subst h2;have hb:=jk hs he hx;generalize Q5:a.eval x = cv at hb;refine pure_ hb ?_;cases hb;simp [execOp,ho,Q5]
  ·rename_i i st off hx;injection h with h;injection h with h1 h2;subst h1;subst h2;have hb:=jk hs he hx;generalize Q5:a.eval x = cv at hb;refine pure_ hb ?_;cases hb;simp [execOp,ho,Q5]
  ·rename_i f caps hx;injection h with h;injection h with h1 h2;subst h1;subst h2;have hb:=jk hs he hx;generalize Q5:a.eval x = cv at hb;refine pure_ hb ?_;cases hb;simp [execOp,ho,Q5]
  ·rename_i t d hx;injection h with h;injection h with h1 h2;subst h1;subst h2;have hb:=jk hs he hx;generalize Q5:a.eval x = cv at hb;refine pure_ hb ?_;cases hb;simp [execOp,ho,Q5]
  ·cases h
 ·rename_i op t x y yt ho;split at h
  ·rename_i p q hx hy;obtain ⟨h1,rfl⟩:=kM h;obtain ⟨v,q1,q2⟩:=qvR (P:=X.P) (x:=x) (y:=y) (jk hs he hx) (jk hs he hy) h1;have e:execOp a.eval o = (do let r ← (do eqGuard op t x y (a.eval x) (a.eval y);binOp op t (a.eval x) (a.eval y):Sem Value);pure (.value r)):=(by simp only [execOp,ho]);exact pure_ q2 (by rw [e,Sem.run_bind,q1];rfl)
  ·cases h
 ·rename_i op t x ho;split at h
  ·rename_i p hx;obtain ⟨h1,rfl⟩:=kM h;obtain ⟨v,q1,q2⟩:=ql2 (P:=X.P) (jk hs he hx) h1;exact pure_ q2 (by simp [execOp,ho,q1])
  ·cases h
 ·rename_i s t x ho;split at h
  ·rename_i p hx;obtain ⟨v,w1,q1,q2⟩:=qks (P:=X.P) hs (jk hs he hx) h;exact Goes.value (by simp [execOp,ho,q1]) q2
  ·cases h
 ·rename_i t x ho;split at h
  ·cases h
  ·rename_i p u hu hx hni;injection h with h;injection h with h1 h2;subst h1;subst h2;refine pure_ (.iface (jk hs he hx)) ?_;simp only [execOp,ho,Instr.makeInterface,Sem.run_bind,run_underlying hni,Result.andThen_ok];cases u <;> first | rfl | exact absurd rfl (hu _)
  ·cases h
 ·rename_i f first caps ho
  split at h
  ·rename_i hfe;cases hcs:j5 X e caps.toList with
   | none=>simp [hcs] at h
   | some cs =>
    simp only [hcs,zT,qs,qK] at h;obtain ⟨rfl,rfl⟩:=h;obtain ⟨l1,l2⟩:=qbV hs he hcs;have hf0:first = #[]:=by simpa using hfe
    subst hf0;refine pure_ (v:=.func (.func f) #[] (caps.map a.eval)) (.fn (by simpa using l1) fun j d hj=>?_) (by simp [execOp,ho,Instr.makeFunc]);have:=l2 j d hj;simpa [zw,jd] using this
  ·cases h
 ·rename_i t l c ho;split at h
  ·rename_i ld cd hl hc;obtain ⟨v,w1,q1,q2⟩:=qoG (P:=X.P) hs (jk hs he hl) (jk hs he hc) h;exact Goes.value (by simp [execOp,ho,q1]) q2
  ·cases h
 ·rename_i t x lo hi ho;split at h
  ·rename_i p hx Zn VY;obtain ⟨h1,rfl⟩:=kM h;have e1:lo = none:=(by cases lo <;> simp_all);have e2:hi = none:=(by cases hi <;> simp_all);subst e1;subst e2;obtain ⟨v,q1,q2⟩:=qcP (P:=X.P) (lov:=none) (hiv:=none) hs (jk hs he hx) (fun _ h=>by cases h) (fun _=>rfl) (fun _ h=>by cases h) (fun _=>rfl) h1;exact pure_ q2 (by simp [execOp,ho,q1])
  ·rename_i p l hx Zn VY;obtain ⟨h1,rfl⟩:=kM h;have e2:hi = none:=(by cases hi <;> simp_all);subst e2;cases lo with
   | none=>simp at Zn
   | some lo =>
    simp only [zT,qs] at Zn;obtain ⟨v,q1,q2⟩:=qcP (P:=X.P) (lov:=some (a.eval lo)) (hiv:=none) hs (jk hs he hx) (qdi hs he Zn) (fun h=>by cases h) (fun _ h=>by cases h) (fun _=>rfl) h1;exact pure_ q2 (by simp [execOp,ho,q1])
  ·rename_i p l hx Zn VY;obtain ⟨h1,rfl⟩:=kM h;have e1:lo = none:=(by cases lo <;> simp_all);subst e1;cases hi with
   | none=>simp at VY
   | some hi =>
    simp only [zT,qs] at VY;obtain ⟨v,q1,q2⟩:=qcP (P:=X.P) (lov:=none) (hiv:=some (a.eval hi)) hs (jk hs he hx) (fun _ h=>by cases h) (fun _=>rfl) (qdi hs he VY) (fun h=>by cases h) h1;exact pure_ q2 (by simp [execOp,ho,q1])
  ·rename_i p l l' hx Zn VY;obtain ⟨h1,rfl⟩:=kM h;cases lo with
   | none=>simp at Zn
   | some lo =>
    cases hi with
    | none=>simp at VY
    | some hi =>
     simp only [zT,qs] at Zn VY;obtain ⟨v,q1,q2⟩:=qcP (P:=X.P) (lov:=some (a.eval lo)) (hiv:=some (a.eval hi)) hs (jk hs he hx) (qdi hs he Zn) (fun h=>by cases h) (qdi hs he VY) (fun h=>by cases h) h1;exact pure_ q2 (by simp [execOp,ho,q1])
  ·cases h
 ·rename_i s x f ho;split at h
  ·rename_i p hx;obtain ⟨h1,rfl⟩:=kM h;obtain ⟨v,q1,q2⟩:=qub (P:=X.P) (jk hs he hx) h1;exact pure_ q2 (by simp [execOp,ho,q1])
  ·cases h
 ·rename_i s x f ho;split at h
  ·rename_i p hx;obtain ⟨h1,rfl⟩:=kM h;obtain ⟨v,q1,q2⟩:=qua (P:=X.P) (jk hs he hx) h1;exact pure_ q2 (by simp [execOp,ho,q1])
  ·cases h
 ·rename_i t x i ho;split at h
  ·rename_i p q hx hy;obtain ⟨h1,rfl⟩:=kM h;obtain ⟨v,q1,q2⟩:=qsA (P:=X.P) (jk hs he hx) (jk hs he hy) h1;exact pure_ q2 (by simp [execOp,ho,q1])
  ·cases h
 ·rename_i t x i ho;split at h
  ·rename_i p q hx hy;obtain ⟨h1,rfl⟩:=kM h;obtain ⟨v,q1,q2⟩:=qsz (P:=X.P) (jk hs he hx) (jk hs he hy) h1;exact pure_ q2 (by simp [execOp,ho,q1])
  ·cases h
 ·rename_i x i ho;split at h
  ·rename_i cs hx;obtain ⟨h1,rfl⟩:=kM h;have hb:=jk hs he hx;generalize Q5:a.eval x = cv at hb;cases hb with
   | @tup _ _ _ vs hl hh =>
    have qi:i < vs.size:=(by rw [hl];exact (List.getElem?_eq_some_iff.1 h1).1);have hr:=hh i d h1;rw [zw,Qi qi] at hr;exact pure_ (v:=vs[i]) hr (by simp [execOp,ho,Q5,Instr.extract,qi])
  ·cases h
 ·rename_i c ho;split at h
  ·rename_i b args hcal XN;have hv:=qbV hs he XN;have:=qvL (t:=o.type) (cst:=c.args.map fun | .const _=>true | _=>false) hs hv h
   have e:execOp a.eval o = builtin b c.argTypes o.type (c.args.map fun | .const _=>true | _=>false) (c.args.toList.map a.eval).toArray:=by
    simp only [execOp,ho,resolve,hcal];simp only [pure_bind,invoke];congr 1;apply Array.ext';simp
   rw [e];exact this
  ·rename_i g args hcal XN;split at h
   ·rename_i f caps hg;have hv:=qbV hs he XN;have hb:=jk hs he hg;generalize Q5:a.eval g = cv at hb;cases hb with
    | @fn _ _ _ _ vs hl hh =>
     have:=qvE hF h hs (RepL.append hv (qhA hl hh))
     have e:execOp a.eval o = callFunc f ((c.args.toList.map a.eval) ++ vs.toList).toArray:=by
      simp only [execOp,ho,resolve,hcal,Q5,Deferred.ofValue];simp only [pure_bind,invoke];congr 1;apply Array.ext';simp
     rw [e];exact this
   ·cases h
  ·cases h
 ·cases h
end
end Go.Ev
namespace Go.Ev
section
variable {X:Cx} {P:Program} {ok ok':Nat→Prop} {w w':World} {ι:qz} {H H':qd}
theorem qgP {ds:List D} {b len c:Nat} {arr:Array Value} {e:TypeId} {fr:Nat × Nat} (hs:Sim X ok w ι H) (hw:Xl w w') (zx:w.heap.size≤w'.heap.size) (hfr:∀ c,c < w.heap.size→w'.heap[c]? = w.heap[c]?)
  (hb:w'.heap[b]? = some (.cells arr e fr)) (hloc:w.heap.size≤b) (XJ:ds.length≤arr.size) (Q8:∀ d,d∈ds→zn d = true) (hfree:ds.all idFree = true) (qJ:len≤c)
  (hrep:∀ (j:Nat) d,ds[j]? = some d→Rep ok w ι H d (arr.getD j undef)) :
  Post X H.length ok w ι H (.vsl false ds len) H (.slice (some ⟨b,0,none⟩) len c) w':=by
 have hblt:b < w'.heap.size:=(Array.getElem?_eq_some_iff.1 hb).1
 have hev:Evol H.length ok w ι H (fun x=>ok x∨x = b) w' ι H :=
  ⟨hw.1,hw.2.1,hw.2.2,zx,fun c hc _=>hfr c hc,fun _ h=>.inl h,fun x hx qi=>by
   rcases hx with hx | hx
   ·exact .inl hx
   ·omega,⟨qv _,qv _⟩,fun _ _ ds hd=>⟨ds,hd,qv _,fun _=>rfl⟩,fun i ds _ s hd hi _=>⟨i,ds,s,hd,hi⟩⟩
 have hsim:Sim X (fun x=>ok x∨x = b) w' ι H:=by
  refine ⟨fun x hx=>?_,fun g cs hg=>(((hs.glob g cs hg).lift (ι:=ι) (H:=H)).evol hs hev rfl).free rfl _ _,hs.inj,fun i es hd=>?_⟩
  ·rcases hx with hx | hx
   ·exact jr (hs.okS x hx) zx
   ·omega
  ·obtain ⟨b',arr',e',fr',q1,q2,q3,q4,q5,q6,q7,q8⟩:=hs.blk i es hd;have qi:=hs.lt hd q1;refine ⟨b',arr',e',fr',q1,fun h=>?_,by rw [hfr b' qi];exact q3,q4,q5,q6,q7,fun j d hj=>(q8 j d hj).evol hs hev (q8 j d hj).closed⟩;rcases h with h | h
   ·exact q2 h
   ·omega
 refine ⟨ι,_,hsim,.vsl _ (fun j=>arr.getD j undef) (fun _ _=>.inr rfl) Q8 (fun j d hj=>?_) (fun j d hj=>?_) qJ,hev⟩
 ·have qi:j < arr.size:=jr (List.getElem?_eq_some_iff.1 hj).1 XJ;rw [Jv,Zx,Km hb];simp [qi]
 ·exact ((hrep j d hj).evol hs hev (hrep j d hj).closed).free (JO hfree d (mem_of_get? hj)) _ _
theorem qoN {t:TypeId} {len:Nat} {parts:List (Nat × D)} {vps:Array (Nat × Value)} {i st o n k:Nat} {ds:List D} (hs:Sim X ok w ι H) (hp:qag ok w ι H parts vps.toList) (h:XW X.P [] t len parts = some (.osl i st o n k,[some ds])) :
  ∃ v w',(Instr.buildSlice t len vps).run X.P w = .ok v w'∧Post X H.length ok w ι H (.vsl false ds len) H v w':=by
 unfold XW at h;split at h
 ·rename_i e hu;split at h
  ·rename_i z hz;split at h
   ·rename_i hsmall;cases hf:VF (fun i=>some (i * qr X.P e,qr X.P e)) z parts with
    | none=>simp [hf] at h
    | some cs =>
     simp only [hf,VG] at h;split at h
     ·rename_i hcs0;have hcs:cs.all idFree = true∧cs.length = len * qr X.P e:=⟨hcs0.1.resolve_left (by simp),hcs0.2⟩;clear hcs0;simp only [qo,JP,qs,qK,List.cons.injEq,and_true] at h;obtain ⟨_,h2⟩:=h;subst h2;obtain ⟨zv,z1,z2,z3,z4,z5,z6,z7⟩:=Yh hz
      obtain ⟨zc,hzc1,hzc2,hzget⟩:∃ zc:Array Value,(len * qr X.P e = 0→zc = #[])∧(¬ len * qr X.P e = 0→zc = zv.cells) ∧
        ∀ j,j < len * qr X.P e→((Array.range (len * qr X.P e)).map (zc[· % zc.size]!)).getD j undef = zv.cells.getD (j % qr X.P e) undef:=by
       by_cases h0:len * qr X.P e = 0
       ·exact ⟨#[],fun _=>rfl,fun h=>absurd h0 h,fun j hj=>by omega⟩
       ·refine ⟨zv.cells,fun h=>absurd h h0,fun _=>rfl,fun j hj=>?_⟩;rw [qev (by omega) hj,z2]
      obtain ⟨arr,q1,q2,q3,q4,q5⟩:=qcl (place:=fun i=>some (i * qr X.P e,qr X.P e)) (arr:=(Array.range (len * qr X.P e)).map (zc[· % zc.size]!)) hp (by simp [z4]) z5
       (fun j d hj=>by
        rw [hzget j (by have:=(List.getElem?_eq_some_iff.1 hj).1;omega)];exact z7 ok w ι H j d hj) hf
      refine ⟨.slice (some ⟨w.heap.size,0,none⟩) len len,w.alloc (.cells arr e),?_,qgP hs ⟨rfl,rfl,rfl⟩ (by simp) (fun c hc=>heap_alloc_old w _ hc) (heap_alloc_new w _) (qv _) (by omega) q3 hcs.1 (qv _) q4⟩;simp only [Instr.buildSlice,Sem.run_bind,run_underlying hu,Result.andThen_ok,ki z3];rw [if_neg (by simpa using hsmall)];by_cases h0:len * qr X.P e = 0
      ·rw [hzc1 h0] at q1;rw [if_pos h0];simp only [Sem.run_bind,Sem.run_pure,Result.andThen_ok,q1];simp [newRow]
      ·rw [hzc2 h0] at q1;rw [if_neg h0];simp only [Sem.run_bind,Sem.run_pure,Result.andThen_ok,z1,q1];simp [newRow]
     ·cases h
   ·cases h
  ·cases h
 ·cases h
theorem qoO {src dst e:TypeId} {u:TypeDesc} {s:List UInt8} (hs:Sim X ok w ι H) (h1:X.P.underlying src = some u) (h2:X.P.underlying dst = some (.slice e)) (he:X.P.underlying e = some (.int .u8)) :
  ∃ v w',(convert src dst (.string ⟨s.toArray⟩)).run X.P w = .ok v w'∧Post X H.length ok w ι H (.vsl false (qf s) s.length) H v w':=by
 have zx:(⟨s.toArray⟩:ByteArray).size = s.length:=by simp [ByteArray.size]
 have vd:=grownCap_ge w s.length 0 e
 have hbs:(Lib.bytesCells w e ⟨s.toArray⟩).size = grownCap w s.length 0 e:=by
  unfold Lib.bytesCells;simp only [Array.size_append,Array.size_map,Array.size_replicate,zx];simp;omega
 have hbg:∀ j,j < s.length→(Lib.bytesCells w e ⟨s.toArray⟩).getD j undef = (VP s).getD j undef:=by
  intro j hj;unfold Lib.bytesCells VP;rw [zw,qcE (by simpa using hj),jd];simp
 have hrun:=Lib.run_convert_string_bytes w src dst e ⟨s.toArray⟩ h1 h2 he;rw [zx] at hrun
 refine ⟨_,_,hrun,qgP (w':=Lib.bytesWorld w e ⟨s.toArray⟩) (b:=w.heap.size) (arr:=Lib.bytesCells w e ⟨s.toArray⟩) (ds:=qf s) hs
  (by
   refine ⟨?_,?_,?_⟩ <;> (unfold Lib.bytesWorld World.freeze;split <;> rfl))
  (by rw [Lib.bytesWorld_size];omega) (fun c hc=>Lib.bytesWorld_at_old w e _ c hc) (Lib.bytesWorld_at_new w e _) (qv _) (by rw [hbs];simpa [qf] using vd)
  (fun d hd=>by
   simp only [qf,kI] at hd;obtain ⟨_,_,rfl⟩:=hd;rfl)
  (by
   rw [List.all_eq_true];intro d hd;simp only [qf,kI] at hd;obtain ⟨_,_,rfl⟩:=hd;rfl) vd
  (fun j d hj=>by
   have JA:j < s.length:=by
    have:=(List.getElem?_eq_some_iff.1 hj).1;simpa [qf] using this
   rw [hbg j JA];exact qfk s j d hj)⟩
theorem qfg {F:qO} (hF:Zv X F) {drw:Bool} {o:Oper} {e:qn} {a:Act} {d:D} (hs:Sim X ok w ι H) (he:EnvRep ok w ι H e a.tmps) (h:qD X F drw o.op e H = some (d,H')) :
  Goes X.P (execOp a.eval o) w (Post X H.length ok w ι H d H'):=by
 unfold qD at h;split at h
 ·rename_i t len parts ho;split at h
  ·rename_i ps KL;split at h
   ·rename_i ds hb;injection h with h;injection h with h1 h2;subst h1;subst h2;obtain ⟨v,w1,q1,q2⟩:=qoN (vps:=parts.map fun (i,x)=>(i,a.eval x)) hs (by simpa using qdf hs he KL) hb;exact Goes.value (by simp [execOp,ho,q1]) q2
   ·cases h
  ·cases h
 ·rename_i s t x ho;split at h
  ·rename_i b u hx hu;split at h
   ·rename_i us hus hu8;injection h with h;injection h with h1 h2;subst h1;subst h2;have hb:=jk hs he hx;generalize Q5:a.eval x = cv at hb;cases hb;obtain ⟨v,w1,q1,q2⟩:=qoO (s:=b) hs hus hu hu8;exact Goes.value (by simp [execOp,ho,Q5,q1]) q2
   ·cases h
  ·rename_i p _ hx;obtain ⟨v,w1,q1,q2⟩:=qks (P:=X.P) hs (jk hs he (by assumption)) h;exact Goes.value (by simp [execOp,ho,q1]) q2
  ·cases h
 ·rename_i c ho
  have hh:qT X F (.call c) e H = some (d,H'):=by
   split at h
   ·cases h
   ·exact h
  rw [← ho] at hh;exact qib hF hs he hh
 ·exact qib hF hs he h
end
end Go.Ev
namespace Go.Ev
section
variable {X:Cx} {ok ok':Nat→Prop} {w w':World} {ι:qz} {H H':qd}
def qbr (S:Nat→Prop) (o:Oper):Prop:= ∀ e,e∈o.after.toList→Region.binds .any e = true→S e.on
theorem qgu {ops:Array Oper} {S:Nat→Prop} (qY:∀ (i:Nat) (o:Oper),ops[i]? = some o→S i→qbr S o) {j i:Nat} {o:Oper} (hj:ops[j]? = some o)
  (hready:qbr S o) (hb:((Region.before ops).getD j 0).testBit i = true):S i:=by
 have gen:∀ (l pre:List Oper) (acc:Array Nat),ops.toList = pre ++ l→acc.size = pre.length→(∀ j i,(acc.getD j 0).testBit i = true→∀ o,ops[j]? = some o→qbr S o→S i) →
   ∀ j i,((l.foldl (fun acc o=>acc.push (o.after.foldl (fun s e=>if Region.binds .any e then s ||| 2 ^ e.on ||| acc.getD e.on 0 else s) 0)) acc).getD j 0).testBit i = true→∀ o,ops[j]? = some o→qbr S o→S i:=by
  intro l
  induction l with
  | nil=>intro pre acc _ _ h;exact h
  | cons o l ih =>
   intro pre acc he zx hacc;simp only [List.foldl_cons];refine ih (pre ++ [o]) _ (by rw [he];simp) (by simp [zx]) ?_;intro j i hi o' ho' YK;by_cases qi:j < acc.size
   ·have:(acc.push (o.after.foldl (fun s e=>if Region.binds .any e then s ||| 2 ^ e.on ||| acc.getD e.on 0 else s) 0)).getD j 0 = acc.getD j 0:=by
     simp only [zw];rw [Array.getElem?_push,if_neg (by omega)]
    rw [this] at hi;exact hacc j i hi o' ho' YK
   ·by_cases KR:j = acc.size
    ·subst KR
     have:(acc.push (o.after.foldl (fun s e=>if Region.binds .any e then s ||| 2 ^ e.on ||| acc.getD e.on 0 else s) 0)).getD acc.size 0 = o.after.foldl (fun s e=>if Region.binds .any e then s ||| 2 ^ e.on ||| acc.getD e.on 0 else s) 0:=by
      simp only [zw];rw [Array.getElem?_push,if_pos rfl];rfl
     rw [this] at hi
     have hoo:o' = o:=by
      have h1:ops.toList[acc.size]? = some o:=(by rw [he,zx];simp);rw [Array.getElem?_toList,ho'] at h1;injection h1
     subst hoo;rw [← Array.foldl_toList] at hi
     have inner:∀ (es:List Edge) (s:Nat),(∀ e,e∈es→e∈o'.after.toList)→(∀ i,s.testBit i = true→S i) →
       ∀ i,(es.foldl (fun s e=>if Region.binds .any e then s ||| 2 ^ e.on ||| acc.getD e.on 0 else s) s).testBit i = true→S i:=by
      intro es
      induction es with
      | nil=>intro s _ hs i hi;exact hs i hi
      | cons e es ih2 =>
       intro s hes hs i hi;simp only [List.foldl_cons] at hi;refine ih2 _ (fun x hx=>hes x (kS _ hx)) ?_ i hi;intro i hi;split at hi
       ·rename_i hbe;rw [Nat.testBit_or,Nat.testBit_or] at hi;simp only [qam] at hi;have hse:=YK e (hes e (Za ..)) hbe;rcases hi with (hi | hi) | hi
        ·exact hs i hi
        ·rw [Nat.testBit_two_pow] at hi;have:e.on = i:=(by simpa using hi);rw [← this];exact hse
        ·by_cases XB:e.on < acc.size
         ·have Zn:e.on < ops.size:=by
           have:ops.toList.length = pre.length+(o' :: l).length:=(by rw [he];simp);simp at this;omega
          have ho:=Qi Zn;exact hacc e.on i hi _ ho (qY e.on _ ho hse)
         ·simp only [zw,qcD (show acc.size≤e.on by omega)] at hi;simp at hi
       ·exact hs i hi
     exact inner _ 0 (fun _ h=>h) (fun i hi=>by simp at hi) i hi
    ·simp only [zw] at hi;rw [qcD (by simp;omega)] at hi;simp at hi
 have:=gen ops.toList [] #[] rfl rfl (fun j i hi=>by simp at hi) j i;unfold Region.before at hb;rw [← Array.foldl_toList] at hb;exact this hb o hj hready
def XZ (X:Cx) (F:qO) (nt:Nat) (bw:Option Tmp→Bool) (ops:Array Oper) (o:Oper) (e:qn) (H:qd) (e1:qn) (H1:qd):Prop :=
 jN nt o.dst = true∧((js ops e o.guard = some true∧∃ d,qD X F (bw o.dst) o.op e H = some (d,H1)∧e1 = zV e o.dst d)∨(js ops e o.guard = some false∧H1 = H∧e1 = zV e o.dst (.tup [])))
theorem qgI {F:qO} {nt:Nat} {drw:Bool} {ops:Array Oper}:∀ {l:List Oper} {e e':qn} {H H':qd},jw X F nt drw ops l e H = some (e',H') →
  ∃ (E:Nat→qn) (T:Nat→qd),E 0 = e∧T 0 = H∧E l.length = e'∧T l.length = H'∧∀ k o,l[k]? = some o→XZ X F nt (fun _=>drw) ops o (E k) (T k) (E (k+1)) (T (k+1))
 | [],e,e',H,H',h=>by
  simp only [jw,qs,qK] at h;obtain ⟨rfl,rfl⟩:=h;exact ⟨fun _=>e,fun _=>H,rfl,rfl,rfl,rfl,fun k o hk=>by simp at hk⟩
 | o :: l,e,e',H,H',h=>by
  simp only [jw] at h
  have key:∀ e1 H1,XZ X F nt (fun _=>drw) ops o e H e1 H1→jw X F nt drw ops l e1 H1 = some (e',H')→∃ (E:Nat→qn) (T:Nat→qd),E 0 = e∧T 0 = H∧E (o :: l).length = e'∧T (o :: l).length = H' ∧
    ∀ k x,(o :: l)[k]? = some x→XZ X F nt (fun _=>drw) ops x (E k) (T k) (E (k+1)) (T (k+1)):=by
   intro e1 H1 hst hl;obtain ⟨E,T,k1,k2,k3,k4,k5⟩:=qgI hl;refine ⟨fun k=>match k with | 0=>e | k+1=>E k,fun k=>match k with | 0=>H | k+1=>T k,rfl,rfl,k3,k4,fun k x hx=>?_⟩;cases k with
   | zero =>
    simp only [Qh,qs] at hx;subst hx;simp only [k1,k2];exact hst
   | succ k=>exact k5 k x (by simpa using hx)
  split at h
  ·rename_i hd hg;split at h
   ·rename_i d H1 ho;exact key _ H1 ⟨hd,.inl ⟨hg,d,ho,rfl⟩⟩ h
   ·cases h
  ·rename_i hd hg;exact key _ H ⟨hd,.inr ⟨hg,rfl,rfl⟩⟩ h
  ·cases h
def qwv (X:Cx) (ops:Array Oper) (L:kz) (E:Nat→qn) (T:Nat→qd):Prop :=
 ∀ i j x y,ops[i]? = some x→ops[j]? = some y→L.contains (i,j) = true→i≠j→js ops (E i) x.guard = some true→js ops (E j) y.guard = some true →
  (T i).length≤(T (i+1)).length∧∀ b,b∈kl (y.op.operands.toList.map (qB X (E j)))→qe (T (i+1)) b = qe (T i) b
theorem qgH {F:qO} {nt:Nat} {ow:List Nat} {ops:Array Oper} {L:kz}:∀ {l:List Oper} {k:Nat} {ws:List (Nat × qd × qd)} {rs:List (Nat × List Nat)} {e e':qn} {H H':qd},vP X F nt ow ops L k ws rs l e H = some (e',H') →
  ∃ (E:Nat→qn) (T:Nat→qd),E 0 = e∧T 0 = H∧E l.length = e'∧T l.length = H'∧∀ k o,l[k]? = some o→XZ X F nt (Qw ow) ops o (E k) (T k) (E (k+1)) (T (k+1))
 | [],k,ws,rs,e,e',H,H',h=>by
  simp only [vP,qs,qK] at h;obtain ⟨rfl,rfl⟩:=h;exact ⟨fun _=>e,fun _=>H,rfl,rfl,rfl,rfl,fun k o hk=>by simp at hk⟩
 | o :: l,k,ws,rs,e,e',H,H',h=>by
  simp only [vP] at h
  have key:∀ e1 H1 k ws rs,XZ X F nt (Qw ow) ops o e H e1 H1→vP X F nt ow ops L k ws rs l e1 H1 = some (e',H')→∃ (E:Nat→qn) (T:Nat→qd),E 0 = e∧T 0 = H∧E (o :: l).length = e'∧T (o :: l).length = H' ∧
    ∀ k x,(o :: l)[k]? = some x→XZ X F nt (Qw ow) ops x (E k) (T k) (E (k+1)) (T (k+1)):=by
   intro e1 H1 k ws rs hst hl;obtain ⟨E,T,k1,k2,k3,k4,k5⟩:=qgH hl;refine ⟨fun k=>match k with | 0=>e | k+1=>E k,fun k=>match k with | 0=>H | k+1=>T k,rfl,rfl,k3,k4,fun k x hx=>?_⟩;cases k with
   | zero =>
    simp only [Qh,qs] at hx;subst hx;simp only [k1,k2];exact hst
   | succ k=>exact k5 k x (by simpa using hx)
  cases hd:jN nt o.dst with
  | false=>simp [hd] at h
  | true =>
   cases hg:js ops e o.guard with
   | none=>simp [hd,hg] at h
   | some b =>
    cases b with
    | false =>
     simp only [hd,hg] at h;exact key _ H _ _ _ ⟨hd,.inr ⟨hg,rfl,rfl⟩⟩ h
    | true =>
     simp only [hd,hg] at h;cases ho:qD X F (Qw ow o.dst) o.op e H with
     | none=>simp [ho] at h
     | some q =>
      obtain ⟨d,H1⟩:=q;simp only [ho] at h;split at h
      ·exact key _ H1 _ _ _ ⟨hd,.inl ⟨hg,d,ho,rfl⟩⟩ h
      ·cases h
theorem qkQ {L:kz} {k:Nat} {bs:List Nat}:∀ {ws:List (Nat × qd × qd)},Kr L k bs ws→∀ {i:Nat} {A B:qd},(i,A,B)∈ws→L.contains (i,k) = true→∀ b,b∈bs→qe B b = qe A b
 | [],_,i,A,B,hm,_=>by cases hm
 | (i',A',B') :: ws,h,i,A,B,hm,hc=>by
  rcases List.mem_cons.1 hm with hm | hm
  ·injection hm with h1 h2;injection h2 with h2 h3;subst h1;subst h2;subst h3;exact h.1 hc
  ·exact qkQ h.2 hm hc
theorem qkP {L:kz} {k:Nat} {A B:qd}:∀ {rs:List (Nat × List Nat)},Kq L k A B rs→∀ {j:Nat} {bs:List Nat},(j,bs)∈rs→L.contains (k,j) = true→∀ b,b∈bs→qe B b = qe A b
 | [],_,j,bs,hm,_=>by cases hm
 | (j',bs') :: rs,h,j,bs,hm,hc=>by
  rcases List.mem_cons.1 hm with hm | hm
  ·injection hm with h1 h2;subst h1;subst h2;exact h.1 hc
  ·exact qkP h.2 hm hc
theorem qlw {L:kz} {i j:Nat} (h:L.contains (i,j) = true):Qx L i = true∧Q0 L j = true:=by
 rw [List.contains_iff_mem] at h;exact ⟨List.any_eq_true.2 ⟨_,h,by simp⟩,List.any_eq_true.2 ⟨_,h,by simp⟩⟩
theorem qe4 {F:qO} {nt:Nat} {ow:List Nat} {ops:Array Oper} {L:kz} {E:Nat→qn} {T:Nat→qd} (hst:∀ k o,ops[k]? = some o→XZ X F nt (Qw ow) ops o (E k) (T k) (E (k+1)) (T (k+1))) :
  ∀ (l:List Oper) (k:Nat) (ws:List (Nat × qd × qd)) (rs:List (Nat × List Nat)) (r:qn × qd),(∀ m,l[m]? = ops[k+m]?)→vP X F nt ow ops L k ws rs l (E k) (T k) = some r →
   (∀ i x,i < k→ops[i]? = some x→Qx L i = true→js ops (E i) x.guard = some true→(i,T i,T (i+1))∈ws∧(T i).length≤(T (i+1)).length) →
   (∀ j y,j < k→ops[j]? = some y→Q0 L j = true→js ops (E j) y.guard = some true→(j,kl (y.op.operands.toList.map (qB X (E j))))∈rs) →
   ∀ i j x y,ops[i]? = some x→ops[j]? = some y→L.contains (i,j) = true→i≠j→js ops (E i) x.guard = some true→js ops (E j) y.guard = some true→k≤max i j →
    (T i).length≤(T (i+1)).length∧∀ b,b∈kl (y.op.operands.toList.map (qB X (E j)))→qe (T (i+1)) b = qe (T i) b
 | [],k,ws,rs,r,hl,h,hws,hrs,i,j,x,y,hi,hj,hc,qH,gi,gj,hm=>by
  exfalso;have Qe:=(Array.getElem?_eq_some_iff.1 hi).1;have vG:=(Array.getElem?_eq_some_iff.1 hj).1;have:=hl (max i j - k);rw [show k+(max i j - k) = max i j by omega,Qi (by omega)] at this;simp at this
 | o :: l,k,ws,rs,r,hl,h,hws,hrs,i,j,x,y,hi,hj,hc,qH,gi,gj,hm=>by
  have ho:ops[k]? = some o:=by have:=hl 0;simpa using this.symm
  have hl':∀ m,l[m]? = ops[k+1+m]?:=by
   intro m;have:=hl (m+1);rw [show k+1+m = k+(m+1) by omega,← this];simp
  obtain ⟨hd,hcase⟩:=hst k o ho;obtain ⟨w1,w2⟩:=qlw hc;simp only [vP,hd] at h;rcases hcase with ⟨hg,d,kx,hE⟩ | ⟨hg,hT,hE⟩
  ·simp only [hg,kx] at h;split at h
   ·rename_i hchk;rw [← hE] at h
    have hws':∀ i x,i < k+1→ops[i]? = some x→Qx L i = true→js ops (E i) x.guard = some true→(i,T i,T (i+1))∈(if Qx L k then (k,T k,T (k+1)) :: ws else ws)∧(T i).length≤(T (i+1)).length:=by
     intro i x hik hi X3 vj;by_cases hik':i = k
     ·subst hik';rw [if_pos X3];exact ⟨Za ..,(hchk.2 X3).1⟩
     ·obtain ⟨q1,q2⟩:=hws i x (by omega) hi X3 vj;refine ⟨?_,q2⟩;split
      ·exact kS _ q1
      ·exact q1
    have hrs':∀ j y,j < k+1→ops[j]? = some y→Q0 L j = true→js ops (E j) y.guard = some true→(j,kl (y.op.operands.toList.map (qB X (E j))))∈(if Q0 L k then (k,kl (o.op.operands.toList.map (qB X (E k)))) :: rs else rs):=by
     intro j y XF hj hrj hgj;by_cases hjk':j = k
     ·subst hjk';rw [ho] at hj;injection hj with hj;subst hj;rw [if_pos hrj];exact Za ..
     ·have q1:=hrs j y (by omega) hj hrj hgj;split
      ·exact kS _ q1
      ·exact q1
    by_cases hmk:k+1≤max i j
    ·exact qe4 hst l (k+1) _ _ r hl' h hws' hrs' i j x y hi hj hc qH gi gj hmk
    ·obtain ⟨q1,q2⟩:=hws' i x (by omega) hi w1 gi;refine ⟨q2,?_⟩;by_cases hik:i = k
     ·subst hik;rw [ho] at hi;injection hi with hi;subst hi;exact qkP (hchk.2 w1).2 (hrs j y (by omega) hj w2 gj) hc
     ·have XF:j = k:=(by omega);subst XF;rw [ho] at hj;injection hj with hj;subst hj;exact qkQ (hchk.1 w2) (hws i x (by omega) hi w1 gi).1 hc
   ·cases h
  ·simp only [hg] at h;rw [← hE,← hT] at h
   have zy:∀ {q:Nat} {z:Oper},ops[q]? = some z→js ops (E q) z.guard = some true→q≠k:=by
    rintro q z hq gq rfl;rw [ho] at hq;injection hq with hq;subst hq;rw [hg] at gq;cases gq
   have n1:=zy hi gi;have n2:=zy hj gj;exact qe4 hst l (k+1) ws rs r hl' h (fun i x hik hi X3 vj=>hws i x (by have:=zy hi vj;omega) hi X3 vj) (fun j y XF hj hrj hgj=>hrs j y (by have:=zy hj hgj;omega) hj hrj hgj) i j x y hi hj hc qH gi gj (by omega)
theorem qnS {e1 e2:qn} {x:Operand} (h:∀ t,t∈qe5 x→qg e1 t = qg e2 t):qB X e1 x = qB X e2 x:=by
 cases x with
 | tmp t=>exact h t (by simp [qe5])
 | _=>rfl
theorem qff {e1 e2:qn}:∀ {l:List Operand},(∀ x,x∈l→qB X e1 x = qB X e2 x)→j5 X e1 l = j5 X e2 l
 | [],_=>rfl
 | x :: l,h=>by
  simp only [j5,h x (Za ..),qff (fun y hy=>h y (kS _ hy))]
theorem qdg {e1 e2:qn}:∀ {l:List (Nat × Operand)},(∀ x,x∈l.map (·.2)→qB X e1 x = qB X e2 x)→VO X e1 l = VO X e2 l
 | [],_=>rfl
 | (i,x) :: l,h=>by
  simp only [VO,h x (by simp),qdg (l:=l) (fun y hy=>h y (by simp only [List.map_cons,zA];exact .inr hy))]
theorem qjS {F:qO} {o:Op} {e1 e2:qn} (h:∀ x,x∈o.operands.toList→qB X e1 x = qB X e2 x):qT X F o e1 H = qT X F o e2 H:=by
 cases o with
 | build t parts =>
  simp only [qT];rw [qdg (e2:=e2) (fun x hx=>h x (by simpa [Op.operands] using hx))]
 | buildSlice t n parts =>
  simp only [qT];rw [qdg (e2:=e2) (fun x hx=>h x (by simpa [Op.operands] using hx))]
 | makeFunc fn first caps =>
  cases fn with
  | func f =>
   simp only [qT]
   rw [qff (e2:=e2) (fun x hx=>h x (by
    simp only [Op.operands,Array.toList_append,ji];exact .inr hx))]
  | _=>rfl
 | slice t x lo hi mx =>
  cases mx with
  | none =>
   have hx:=h x (by simp [Op.operands])
   have Zn:lo.map (qB X e1) = lo.map (qB X e2):=by
    cases lo with
    | none=>rfl
    | some l=>simp [h l (by simp [Op.operands])]
   have VY:hi.map (qB X e1) = hi.map (qB X e2):=by
    cases hi with
    | none=>rfl
    | some l=>simp [h l (by simp [Op.operands])]
   simp only [qT,hx,Zn,VY]
  | some m=>rfl
 | call c =>
  simp only [qT]
  have ha:j5 X e1 c.args.toList = j5 X e2 c.args.toList:=qff fun x hx=>h x (by
   simp only [Op.operands,Call.operands,Array.toList_append,ji];exact .inr hx)
  rw [ha];cases hc:c.callee with
  | builtin b=>cases j5 X e2 c.args.toList <;> rfl
  | value g =>
   have hg:=h g (by simp [Op.operands,Call.operands,hc]);cases j5 X e2 c.args.toList with
   | none=>rfl
   | some args=>simp only [hg]
  | invoke r m=>cases j5 X e2 c.args.toList <;> rfl
 | pick c a b =>
  simp only [qT];rw [h c (by simp [Op.operands])];split
  ·rename_i t _;cases t
   ·simp only [kB,if_false];rw [h b (by simp [Op.operands])]
   ·simp only [if_true];rw [h a (by simp [Op.operands])]
  ·rfl
 | move x=>simp only [qT,h x (by simp [Op.operands])]
 | assign x=>simp only [qT,h x (by simp [Op.operands])]
 | box t x=>simp only [qT,h x (by simp [Op.operands])]
 | load t x=>simp only [qT,h x (by simp [Op.operands])]
 | store t x y=>simp only [qT,h x (by simp [Op.operands]),h y (by simp [Op.operands])]
 | nilCheck x=>simp only [qT,h x (by simp [Op.operands])]
 | binOp op t x y u=>simp only [qT,h x (by simp [Op.operands]),h y (by simp [Op.operands])]
 | unOp op t x=>simp only [qT,h x (by simp [Op.operands])]
 | convert s d x=>simp only [qT,h x (by simp [Op.operands])]
 | makeInterface t x=>simp only [qT,h x (by simp [Op.operands])]
 | makeSlice t x y=>simp only [qT,h x (by simp [Op.operands]),h y (by simp [Op.operands])]
 | fieldAddr s x f=>simp only [qT,h x (by simp [Op.operands])]
 | field s x f=>simp only [qT,h x (by simp [Op.operands])]
 | indexAddr t x y=>simp only [qT,h x (by simp [Op.operands]),h y (by simp [Op.operands])]
 | index t x y=>simp only [qT,h x (by simp [Op.operands]),h y (by simp [Op.operands])]
 | extract x i=>simp only [qT,h x (by simp [Op.operands])]
 | _=>rfl
theorem qum {F:qO} {drw:Bool} {o:Op} {e1 e2:qn} (h:∀ x,x∈o.operands.toList→qB X e1 x = qB X e2 x):qD X F drw o e1 H = qD X F drw o e2 H:=by
 unfold qD;split
 ·rw [qdg (e2:=e2) (fun x hx=>h x (by simpa [Op.operands] using hx))]
 ·rw [h _ (by simp [Op.operands])]
 ·rename_i c;rw [qjS (o:=.call c) h]
  have hd:JK X c e1 = JK X c e2:=by
   unfold JK;cases X.dynV with
   | false=>rfl
   | true =>
    cases hc:c.callee with
    | value g =>
     cases g with
     | tmp t =>
      have hg:qg e1 t = qg e2 t:=h (.tmp t) (by simp [Op.operands,Call.operands,hc]);simp only [hg]
     | _=>rfl
    | _=>rfl
  rw [hd]
 ·exact qjS h
theorem qfu {x:Option D} {d:D} (h:x.map (·,H) = some (d,H')):H' = H∧∀ H2:qd,x.map (·,H2) = some (d,H2):=by
 obtain ⟨rfl,rfl⟩:=kM h;exact ⟨rfl,fun _=>rfl⟩
theorem qvM {b:Builtin} {ts:List TypeId} {args:List D} {d:D} (hb:b = .len∨b = .min∨b = .max) (h:qaa X b ts args H = some (d,H')):H' = H∧∀ H2,qaa X b ts args H2 = some (d,H2):=by
 rcases hb with rfl | rfl | rfl
 ·rcases ts with _ | ⟨t,ts⟩
  ·simp [qaa] at h
  ·rcases args with _ | ⟨x,args⟩
   ·simp [qaa] at h
   ·exact qfu h
 ·exact qfu h
 ·exact qfu h
theorem qpc {F:qO} {o:Op} {e:qn} {d:D} (hk:Zf X o = .v) (h:qD X F true o e H = some (d,H')):H' = H∧∀ H2,qD X F true o e H2 = some (d,H2):=by
 have mp:∀ {x:Option D},x.map (·,H) = some (d,H')→H' = H∧∀ H2:qd,x.map (·,H2) = some (d,H2):=by
  intro x hx;obtain ⟨rfl,rfl⟩:=kM hx;exact ⟨rfl,fun _=>rfl⟩
 cases o with
 | buildSlice t n parts =>
  simp only [qD] at h ⊢;split at h
  ·rename_i ps hp;split at h
   ·rename_i ds hb;injection h with h;injection h with h1 h2;subst h1;subst h2;exact ⟨rfl,fun H2=>rfl⟩
   ·cases h
  ·cases h
 | move x=>exact mp h
 | assign x=>exact mp h
 | pick c a b =>
  simp only [qD,qT] at h ⊢;split at h
  ·exact mp h
  ·cases h
 | build t parts =>
  simp only [qD,qT] at h ⊢;split at h
  ·exact mp h
  ·cases h
 | nilCheck x =>
  simp only [qD,qT] at h ⊢;split at h <;> first | (cases h;done) | skip
  all_goals
   injection h with h;injection h with h1 h2;subst h1;subst h2;exact ⟨rfl,fun _=>rfl⟩
 | binOp op t x y u =>
  simp only [qD,qT] at h ⊢;split at h
  ·exact mp h
  ·cases h
 | unOp op t x =>
  simp only [qD,qT] at h ⊢;split at h
  ·exact mp h
  ·cases h
 | makeInterface t x =>
  simp only [qD,qT] at h ⊢;split at h
  ·cases h
  ·injection h with h;injection h with h1 h2;subst h1;subst h2;exact ⟨rfl,fun _=>rfl⟩
  ·cases h
 | makeFunc fn first caps =>
  cases fn with
  | func f =>
   simp only [qD,qT] at h ⊢;split at h
   ·rename_i hf;cases hc:j5 X e caps.toList with
    | none=>simp [hc] at h
    | some cs =>
     simp only [hc,zT,qs,qK] at h;obtain ⟨rfl,rfl⟩:=h;exact ⟨rfl,fun _=>by simp [hf]⟩
   ·cases h
  | _=>simp [qD,qT] at h
 | slice t x lo hi mx =>
  cases mx with
  | none =>
   simp only [qD,qT] at h ⊢;split at h <;> first | (cases h;done) | exact mp h
  | some m=>simp [qD,qT] at h
 | fieldAddr s x f =>
  simp only [qD,qT] at h ⊢;split at h
  ·exact mp h
  ·cases h
 | field s x f =>
  simp only [qD,qT] at h ⊢;split at h
  ·exact mp h
  ·cases h
 | indexAddr t x y =>
  simp only [qD,qT] at h ⊢;split at h
  ·exact mp h
  ·cases h
 | index t x y =>
  simp only [qD,qT] at h ⊢;split at h
  ·exact mp h
  ·cases h
 | extract x i =>
  simp only [qD,qT] at h ⊢;split at h
  ·exact mp h
  ·cases h
 | call c =>
  have hc:(c.callee = .builtin .len∨c.callee = .builtin .min∨c.callee = .builtin .max)∨(∃ f,c.callee = .value (.func f)∧(X.pureF f && !X.byRef f && !X.perm f) = true)∨(∃ t,c.callee = .value (.tmp t)∧X.dynV = true):=by
   simp only [Zf] at hk;split at hk
   ·rename_i hc;exact .inl (.inl hc)
   ·rename_i hc;exact .inl (.inr (.inl hc))
   ·rename_i hc;exact .inl (.inr (.inr hc))
   ·rename_i f hc;refine .inr (.inl ⟨f,hc,?_⟩);split at hk
    ·cases hk
    ·rename_i hb;split at hk
     ·rename_i hp;split at hk
      ·cases hk
      ·rename_i Qm;rw [hp];simp [hb,Qm]
     ·split at hk <;> cases hk
   ·rename_i t hc;refine .inr (.inr ⟨t,hc,?_⟩);split at hk
    ·assumption
    ·cases hk
   ·cases hk
  have pureGo:∀ {f:Nat} {args:List D},(X.pureF f && !X.byRef f && !X.perm f) = true→ZP X F f args H = some (d,H')→H' = H∧∀ H2,ZP X F f args H2 = some (d,H2):=by
   intro f args hp0 h;rw [zL] at hp0;have hp:=hp0.1;have Vh:X.perm f = false:=by simpa using hp0.2
   have Qm:(X.perm f && !X.pureF f && !X.byRef f) = false:=by
    simp [Vh]
   have YA:(X.perm f && X.byRef f) = false:=(by simp [Vh]);rw [qeb Qm YA] at h;obtain ⟨h4,h3,h1⟩:=qc2 hp h;rcases h1 with ⟨h1,h2⟩ | ⟨_,h1,_⟩
   ·refine ⟨h4,fun H2=>?_⟩;rw [qeb Qm YA];unfold Qg;rw [if_pos hp,if_pos h1,h2];simp only at h3;simp only [h3,if_true]
   ·rw [Vh] at h1;cases h1
  rcases hc with hc | ⟨f,hc,hp⟩ | ⟨t,hc,hdy⟩
  rotate_left
  ·have hw:∀ H2,qD X F true (.call c) e H2 = qT X F (.call c) e H2:=fun H2=>by
    simp only [qD,JK,hc];cases X.dynV <;> rfl
   rw [hw] at h;simp only [hw];simp only [qT] at h ⊢;simp only [hc] at h ⊢;cases ha:j5 X e c.args.toList with
   | none=>simp [ha] at h
   | some args =>
    simp only [ha,qB] at h ⊢;exact pureGo hp h
  ·simp only [qD] at h ⊢;split at h
   ·cases h
   ·rename_i hb;have qI:JK X c e = false:=(by simpa using hb);simp only [qI,kB,if_false];unfold JK at qI;simp only [hc,hdy] at qI;split at qI
    ·rename_i f caps hl;have hp:(X.pureF f && !X.byRef f && !X.perm f) = true:=(by simpa using qI);simp only [qT,hc] at h ⊢;cases ha:j5 X e c.args.toList with
     | none=>simp [ha] at h
     | some args =>
      simp only [ha,qB,hl] at h ⊢;exact pureGo hp h
    ·cases qI
  have hw:∀ H2,qD X F true (.call c) e H2 = qT X F (.call c) e H2:=fun H2=>by
   simp only [qD,JK];rcases hc with hc | hc | hc <;> (simp only [hc];cases X.dynV <;> rfl)
  rw [hw] at h;simp only [hw];simp only [qT] at h ⊢;cases ha:j5 X e c.args.toList with
  | none=>rcases hc with hc | hc | hc <;> simp [hc,ha] at h
  | some args=>rcases hc with hc | hc | hc <;> (simp only [hc,ha] at h ⊢;exact qvM (by simp) h)
 | load _ _=>simp [Zf] at hk
 | convert _ _ _=>simp [Zf] at hk
 | alloc _=>simp [Zf] at hk
 | box _ _=>simp [Zf] at hk
 | makeSlice _ _ _=>simp [Zf] at hk
 | store _ _ _=>simp [Zf] at hk
 | _=>simp [qD,qT] at h
theorem qi0 {T1 T2:qd} {p:D} {cs:List D} (hg:∀ i,VJ p = some i→qe T1 i≠none→qe T2 i = qe T1 i) (h:VQ T1 p = some cs):VQ T2 p = some cs:=by
 cases p <;> simp only [VQ,reduceCtorEq] at h ⊢
 ·exact h
 ·rename_i i st off;split at h
  ·rename_i ds hd;have:=hg i rfl (by rw [hd];simp);rw [this,hd];exact h
  ·cases h
theorem qmj {T1 T2:qd} {p:D} {k:Nat} {r:List D × Nat} (hg:∀ i,VJ p = some i→qe T1 i≠none→qe T2 i = qe T1 i) (h:VL T1 k p = some r):VL T2 k p = some r:=by
 cases p <;> simp only [VL,reduceCtorEq] at h ⊢
 ·exact h
 ·rename_i i st off len k';split at h
  ·rename_i ds hd;have:=hg i rfl (by rw [hd];simp);rw [this,hd];exact h
  ·cases h
theorem qia {e:qn}:∀ {l:List Operand} {ds:List D},j5 X e l = some ds→∀ d,d∈ds→∃ x,x∈l∧qB X e x = some d
 | [],ds,h,d,hd=>by
  simp only [j5,qs] at h;subst h;cases hd
 | x :: l,ds,h,d,hd=>by
  simp only [j5] at h;split at h
  ·rename_i d0 ds0 h1 h2;injection h with h;subst h;rcases List.mem_cons.1 hd with rfl | hd
   ·exact ⟨x,Za ..,h1⟩
   ·obtain ⟨y,hy,hyd⟩:=qia h2 d hd;exact ⟨y,kS _ hy,hyd⟩
  ·cases h
mutual
theorem qj8 (T1 T2:qd):∀ (d:D),idFree d = true→freeze T2 d = freeze T1 d
 | .agg cs,h=>by simp only [idFree] at h;simp only [freeze,qfG T1 T2 cs h]
 | .fn f cs,h=>by simp only [idFree] at h;simp only [freeze,qfG T1 T2 cs h]
 | .tup _,_=>rfl
 | .iface _ _,_=>rfl
 | .optr ..,h=>by simp [idFree] at h
 | .osl ..,h=>by simp [idFree] at h
 | .bool _,_=>rfl
 | .int _ _,_=>rfl
 | .str _,_=>rfl
 | .nilp,_=>rfl
 | .nilf,_=>rfl
 | .nili,_=>rfl
 | .raw _,_=>rfl
 | .vptr _,_=>rfl
 | .vsl ..,_=>rfl
theorem qfG (T1 T2:qd):∀ (cs:List D),idFree.idFreeL cs = true→freeze.freezeL T2 cs = freeze.freezeL T1 cs
 | [],_=>rfl
 | d :: l,h=>by
  simp only [idFree.idFreeL,zL] at h;simp only [freeze.freezeL,qj8 T1 T2 d h.1,qfG T1 T2 l h.2]
end
theorem qtR {T1 T2:qd} {p:D} (hg:∀ i,VJ p = some i→qe T1 i≠none→qe T2 i = qe T1 i) (h:Xd T1 p = true):Xd T2 p = true∧freeze T2 p = freeze T1 p:=by
 cases p with
 | osl i st off len k =>
  simp only [Xd] at h;split at h
  ·rename_i ds hd;have e1:=hg i rfl (by rw [hd];simp);constructor
   ·simp only [Xd,e1,hd];exact h
   ·simp only [freeze,e1]
  ·cases h
 | optr i st off=>simp [Xd,idFree] at h
 | _=>exact ⟨h,qj8 T1 T2 _ h⟩
theorem qjB {T1 T2:qd}:∀ (args:List D),(∀ p,p∈args→∀ i,VJ p = some i→qe T1 i≠none→qe T2 i = qe T1 i)→args.all (Xd T1) = true→args.all (Xd T2) = true∧XR T2 args = XR T1 args
 | [],_,_=>⟨rfl,rfl⟩
 | p :: l,hg,h=>by
  simp only [qal,zL] at h;obtain ⟨a1,a2⟩:=qtR (hg p (Za ..)) h.1;obtain ⟨b1,b2⟩:=qjB l (fun q hq=>hg q (kS _ hq)) h.2;unfold XR at b2 ⊢;exact ⟨by simp [a1,b1],by simp only [freeze.freezeL,a2,b2]⟩
theorem qpd {F:qO} {o:Op} {e:qn} {d:D} {T1 T2:qd} (hk:Zf X o = .r) (h:qD X F true o e T1 = some (d,H'))
  (hg:∀ x,x∈o.operands.toList→∀ p i,qB X e x = some p→VJ p = some i→qe T1 i≠none→qe T2 i = qe T1 i):H' = T1∧qD X F true o e T2 = some (d,T2):=by
 cases o with
 | load t x =>
  simp only [qD,qT] at h ⊢;split at h
  ·rename_i p hp;obtain ⟨h1,rfl⟩:=kM h;refine ⟨rfl,?_⟩
   have hl:Yz X.P T2 t p = some d:=by
    unfold Yz at h1 ⊢;split at h1
    ·rename_i cs hq hm;rw [qi0 (hg x (by simp [Op.operands]) p · hp) hm];simp only [hq];exact h1
    ·rename_i x' l hq hm;rw [qi0 (hg x (by simp [Op.operands]) p · hp) hm];simp only [hq];exact h1
    ·cases h1
   rw [hl];rfl
  ·cases h
 | convert s t x =>
  simp only [qD] at h ⊢;split at h
  ·rename_i b u hx hu;split at h
   ·injection h with h;injection h with h1 h2;subst h1;subst h2;exact ⟨rfl,rfl⟩
   ·cases h
  ·rename_i a hx _;have hgx:∀ i,VJ a = some i→qe T1 i≠none→qe T2 i = qe T1 i:=fun i=>hg x (by simp [Op.operands]) a i hx;unfold YY at h ⊢;split at h
   ·rename_i k k' n h1 h2;injection h with h;injection h with h3 h4;subst h3;subst h4;exact ⟨rfl,rfl⟩
   ·rename_i b h1 h2;injection h with h;injection h with h3 h4;subst h3;subst h4;exact ⟨rfl,rfl⟩
   ·injection h with h;injection h with h3 h4;subst h3;subst h4;exact ⟨rfl,rfl⟩
   ·exfalso
    simp_all
   ·rename_i e' _ h1 h2;split at h
    ·rename_i cs n he ko
     obtain ⟨h3,rfl⟩:((ZQ cs).map fun s=>D.str s) = some d∧T1 = H':=by
      cases hb:ZQ cs with
      | none=>simp [hb] at h
      | some s =>
       simp only [hb,zT,qs,qK] at h;exact ⟨by simp [h.1],h.2⟩
     refine ⟨rfl,?_⟩;rw [qmj hgx ko];simp only [he];cases hb:ZQ cs with
     | none=>simp [hb] at h3
     | some s=>simpa [hb] using h3
    ·cases h
   ·rename_i i st off len k h1 _ h2;split at h
    ·rename_i ds he hd;have e1:=hgx i rfl (by rw [hd];simp);split at h
     ·rename_i hc;injection h with h;injection h with h3 h4;subst h3;subst h4;refine ⟨rfl,?_⟩;rw [e1,hd];simp only [he,hc,and_self,if_true]
     ·cases h
    ·cases h
   ·cases h
  ·cases h
 | call c =>
  simp only [Zf] at hk;split at hk <;> first | (cases hk;done) | skip
  ·rename_i f hc;split at hk
   ·cases hk
   ·rename_i hb;split at hk
    ·rename_i kr;split at hk
     ·rename_i Vi;have hp:(X.pureF f && !X.byRef f) = true:=(by simp [kr,hb]);have Qm:(X.perm f && !X.pureF f && !X.byRef f) = false:=by simp [kr]
      have hw:∀ T,qD X F true (.call c) e T = qT X F (.call c) e T:=fun T=>by
       simp only [qD,JK,hc];cases X.dynV <;> rfl
      rw [hw] at h;rw [hw];simp only [qT,hc] at h ⊢;cases ha:j5 X e c.args.toList with
      | none=>simp [ha] at h
      | some args =>
       simp only [ha,qB,Xm] at h ⊢;rw [qeb Qm (by simp [hb])] at h ⊢;obtain ⟨h4,h3,h1⟩:=qc2 hp h;simp only at h3 h4 h1;refine ⟨h4,?_⟩;unfold Qg;rw [if_pos hp];rcases h1 with ⟨h1,h2⟩ | ⟨h1,hpe2,Zq,hv,args',kF,h2⟩
       ·rw [if_pos h1,h2];simp only [h3,if_true]
       ·obtain ⟨g1,g2⟩:=qjB args (fun p Qm i hi qH=>by
         obtain ⟨x,hx,hxp⟩:=qia ha p Qm
         exact hg x (by
          simp only [Op.operands,Call.operands,Array.toList_append,ji];exact .inr hx) p i hxp hi qH) Zq
        rw [if_neg h1];simp only [hpe2,g1,Bool.and_self,if_true,g2,kF,h2,h3,hv]
     ·cases hk
    ·split at hk <;> cases hk
  ·split at hk <;> cases hk
 | _=>simp [Zf] at hk
theorem qpf {F:qO} {o:Op} {e:qn} {d:D} (hk:Zf X o = .e) (h:qD X F true o e H = some (d,H')):∃ N,H' = H ++ N:=by
 cases o with
 | alloc t =>
  simp only [qD,qT] at h;split at h
  ·injection h with h;injection h with h1 h2;exact ⟨_,h2.symm⟩
  ·cases h
 | box t x =>
  simp only [qD,qT] at h;split at h
  ·split at h
   ·injection h with h;injection h with h1 h2;exact ⟨_,h2.symm⟩
   ·cases h
  ·cases h
 | makeSlice t x y =>
  simp only [qD,qT] at h;split at h
  ·unfold qbZ at h;split at h
   ·split at h
    ·simp only [Option.bind_eq_some_iff] at h;obtain ⟨z,_,h⟩:=h;split at h
     ·injection h with h;injection h with h1 h2;exact ⟨_,h2.symm⟩
     ·cases h
    ·cases h
   ·cases h
  ·cases h
 | call c =>
  simp only [Zf] at hk;split at hk <;> first | (cases hk;done) | skip
  rotate_left
  ·split at hk <;> cases hk
  rename_i f hc;split at hk
  ·cases hk
  ·rename_i hnr
   have Qm:(X.perm f && !X.pureF f && !X.byRef f) = false:=by
    split at hk
    ·split at hk <;> cases hk
    ·split at hk
     ·cases hk
     ·rename_i hpp;simp [hpp]
   have hw:qD X F true (.call c) e H = qT X F (.call c) e H:=by
    simp only [qD,JK,hc];cases X.dynV <;> rfl
   rw [hw] at h;simp only [qT,hc] at h;cases ha:j5 X e c.args.toList with
   | none=>simp [ha] at h
   | some args =>
    simp only [ha,qB] at h;rw [qeb Qm (by simp [hnr])] at h;replace h:=qea h;unfold Vu at h;rw [if_neg hnr] at h;split at h
    ·split at h
     ·cases h
     ·injection h with h;injection h with h1 h2;exact ⟨_,h2.symm⟩
    ·split at h
     ·cases h
     ·split at h
      ·cases h
      ·split at h
       ·injection h with h;injection h with h1 h2;exact ⟨_,h2.symm⟩
       ·cases h
 | _=>simp [Zf] at hk
theorem qjT {F:qO} {o:Op} {e:qn}:qD X F false o e H = qT X F o e H:=by cases o <;> rfl
theorem qfx {bw:Bool} {F:qO} {o:Op}:(kL X bw o = Zf X o∧(∀ (e:qn) (H:qd),qD X F bw o e H = qD X F true o e H))∨(bw = false∧(kL X bw o = .e∧((∃ t n ps,o = .buildSlice t n ps)∨∃ s d x,o = .convert s d x))∨(kL X bw o = .m)):=by
 cases bw with
 | true=>exact .inl ⟨rfl,fun _ _=>rfl⟩
 | false =>
  cases o with
  | buildSlice t n ps=>exact .inr (.inl ⟨rfl,rfl,.inl ⟨t,n,ps,rfl⟩⟩)
  | convert s d x=>exact .inr (.inl ⟨rfl,rfl,.inr ⟨s,d,x,rfl⟩⟩)
  | call c =>
   cases hc:c.callee with
   | value g =>
    cases g with
    | tmp t=>exact .inr (.inr (by simp only [kL,hc]))
    | _=>exact .inl ⟨by simp only [kL,hc],fun e H=>by simp only [qD,JK,hc];cases X.dynV <;> rfl⟩
   | builtin b=>exact .inl ⟨by simp only [kL,hc],fun e H=>by simp only [qD,JK,hc];cases X.dynV <;> rfl⟩
   | invoke r m=>exact .inl ⟨by simp only [kL,hc],fun e H=>by simp only [qD,JK,hc];cases X.dynV <;> rfl⟩
  | _=>exact .inl ⟨rfl,fun _ _=>rfl⟩
theorem qiK {bw:Bool} {F:qO} {o:Op} {e:qn} {d:D} (hk:kL X bw o = .v) (h:qD X F bw o e H = some (d,H')):H' = H∧∀ H2,qD X F bw o e H2 = some (d,H2):=by
 rcases qfx (X:=X) (bw:=bw) (F:=F) (o:=o) with ⟨h1,h2⟩ | ⟨_,h1,_⟩ | h1
 ·rw [h1] at hk;rw [h2] at h;simp only [h2];exact qpc hk h
 ·rw [h1] at hk;cases hk
 ·rw [h1] at hk;cases hk
theorem qiL {bw:Bool} {F:qO} {o:Op} {e:qn} {d:D} {T1 T2:qd} (hk:kL X bw o = .r) (h:qD X F bw o e T1 = some (d,H'))
  (hg:∀ x,x∈o.operands.toList→∀ p i,qB X e x = some p→VJ p = some i→qe T1 i≠none→qe T2 i = qe T1 i):H' = T1∧qD X F bw o e T2 = some (d,T2):=by
 rcases qfx (X:=X) (bw:=bw) (F:=F) (o:=o) with ⟨h1,h2⟩ | ⟨_,h1,_⟩ | h1
 ·rw [h1] at hk;rw [h2] at h;rw [h2];exact qpd hk h hg
 ·rw [h1] at hk;cases hk
 ·rw [h1] at hk;cases hk
theorem quJ {P:Program} {s t:TypeId} {x d:D} (h:YY P H s t x = some (d,H')):∃ N,H' = H ++ N:=by
 unfold YY at h;split at h
 ·injection h with h;injection h with h1 h2;exact ⟨[],by simp [h2]⟩
 ·injection h with h;injection h with h1 h2;exact ⟨[],by simp [h2]⟩
 ·injection h with h;injection h with h1 h2;exact ⟨[],by simp [h2]⟩
 ·split at h
  ·injection h with h;injection h with h1 h2;exact ⟨_,h2.symm⟩
  ·cases h
 ·split at h
  ·rename_i cs n he ko;cases hb:ZQ cs with
   | none=>simp [hb] at h
   | some s =>
    simp only [hb,zT,qs,qK] at h;exact ⟨[],by simp [h.2]⟩
  ·cases h
 ·split at h
  ·split at h
   ·injection h with h;injection h with h1 h2;exact ⟨[],by simp [h2]⟩
   ·cases h
  ·cases h
 ·cases h
theorem qoM {P:Program} {t:TypeId} {n:Nat} {ps:List (Nat × D)} {d:D} (h:XW P H t n ps = some (d,H')):∃ N,H' = H ++ N:=by
 unfold XW at h;split at h
 ·split at h
  ·split at h
   ·simp only [Option.bind_eq_some_iff] at h;obtain ⟨cs,_,h⟩:=h;split at h
    ·injection h with h;injection h with h1 h2;exact ⟨_,h2.symm⟩
    ·cases h
   ·cases h
  ·cases h
 ·cases h
theorem qpe {bw:Bool} {F:qO} {o:Op} {e:qn} {d:D} (hk:kL X bw o = .e) (h:qD X F bw o e H = some (d,H')):∃ N,H' = H ++ N:=by
 rcases qfx (X:=X) (bw:=bw) (F:=F) (o:=o) with ⟨h1,h2⟩ | ⟨rfl,h1,⟨t,n,ps,rfl⟩ | ⟨s,t,x,rfl⟩⟩ | h1
 ·rw [h1] at hk;rw [h2] at h;exact qpf hk h
 ·rw [qjT] at h;simp only [qT] at h;split at h
  ·exact qoM h
  ·cases h
 ·rw [qjT] at h;simp only [qT] at h;split at h
  ·exact quJ h
  ·cases h
 ·rw [h1] at hk;cases hk
end
end Go.Ev
namespace Go.Ev
section
variable {X:Cx} {bw:Option Tmp→Bool} {L:kz} {al:Option Nat} {ok ok':Nat→Prop} {w w':World} {ι:qz} {H H':qd}
theorem qg4 {ops:Array Oper} {e:qn} {a:Act} {o:Oper} {b:Bool} (he:∀ k want t,o.guard = some (k,want)→(ops[k]?).bind (·.dst) = some t→∀ d,qg e t = some d→t < a.tmps.size∧Rep ok w ι H d (a.tmps.getD t undef))
  (h:js ops e o.guard = some b):Region.wanted o (yielded ops a.tmps) = b:=by
 unfold js at h;unfold Region.wanted;split at h
 ·rename_i hg;injection h with h;rw [hg];exact h
 ·rename_i j want hg;rw [hg];simp only;unfold yielded;cases hd:(ops[j]?).bind (·.dst) with
  | none =>
   simp only [hd,qs] at h;subst h;simp
  | some t =>
   simp only [hd] at h;simp only [VG];split at h
   ·rename_i v hl;injection h with h;obtain ⟨qi,hr⟩:=he j want t hg hd _ hl;rw [zw,Qi qi] at hr;rw [Qi qi];generalize a.tmps[t] = x at hr;cases hr;simp only;rw [← h];cases v <;> cases want <;> rfl
   ·rename_i hl;injection h with h;subst h;obtain ⟨qi,hr⟩:=he j want t hg hd _ hl;rw [zw,Qi qi] at hr;rw [Qi qi];generalize a.tmps[t] = x at hr;cases hr;simp
   ·cases h
theorem qax (a:Act) (dst:Option Tmp) (v:Value):(a.put dst v).tmps.size = a.tmps.size∧(a.put dst v).defers = a.defers:=by
 cases dst <;> simp [Act.put]
def Out (X:Cx) (n:Nat) (ok:Nat→Prop) (w:World) (ι:qz) (H:qd) (a:Act) (e':qn) (H':qd) (a':Act) (w':World):Prop :=
 a'.tmps.size = a.tmps.size∧a'.defers = a.defers∧∃ ι' ok',Sim X ok' w' ι' H'∧EnvRep ok' w' ι' H' e' a'.tmps∧Evol n ok w ι H ok' w' ι' H'
theorem qcJ:Rep ok w ι H (.tup []) undef:=.tup rfl (by simp)
theorem qdr {e:qn} {dst:Option Tmp} {d:D} {t:Nat}:qg (zV e dst d) t = if dst = some t then some d else qg e t:=by
 cases dst with
 | none=>simp [zV]
 | some s =>
  simp only [zV,qg,qs]
def Xq (l:List Nat) (e:qn):qn:=vC l e
theorem qdq:∀ {l:List Nat} {e:qn} {t:Nat},t∈l→qg (Xq l e) t = qg e t
 | k :: l,e,t,h=>by
  simp only [Xq,vC];by_cases V9:k = t
  ·subst V9;cases hk:qg e k with
   | some d=>simp [qg]
   | none =>
    simp only;by_cases hm:k∈l
    ·exact (qdq hm).trans hk
    ·have:∀ {l:List Nat} {t:Nat},t ∉ l→qg (vC l e) t = none:=by
      intro l
      induction l with
      | nil=>intro t _;rfl
      | cons x l ih =>
       intro t ht;simp only [zA,not_or] at ht;simp only [vC];split
       ·simp only [qg,Ne.symm ht.1,if_false];exact ih ht.2
       ·exact ih ht.2
     exact this hm
  ·have hm:t∈l:=by
    rcases List.mem_cons.1 h with h | h
    ·exact absurd h.symm V9
    ·exact h
   split
   ·simp only [qg,V9,if_false];exact qdq hm
   ·exact qdq hm
theorem qdp:∀ {l:List Nat} {e:qn} {t:Nat} {d:D},qg (Xq l e) t = some d→t∈l∧qg e t = some d
 | [],e,t,d,h=>by simp [Xq,vC,qg] at h
 | k :: l,e,t,d,h=>by
  simp only [Xq,vC] at h;split at h
  ·rename_i x hk;simp only [qg] at h;split at h
   ·rename_i V9;subst V9;exact ⟨Za ..,by rw [hk];exact h⟩
   ·obtain ⟨h1,h2⟩:=qdp h;exact ⟨kS _ h1,h2⟩
  ·obtain ⟨h1,h2⟩:=qdp h;exact ⟨kS _ h1,h2⟩
structure DrawFacts (X:Cx) (bw:Option Tmp→Bool) (L:kz) (al:Option Nat) (ops:Array Oper):Prop where
 edge:∀ (j:Nat) (o:Oper),ops[j]? = some o→∀ e,e∈o.after.toList→Region.binds .any e = true→e.on < j
 ord:∀ (i j:Nat) (x y:Oper),ops[i]? = some x→ops[j]? = some y→i < j→ZK X bw L al ops i x j y = true→((Region.before ops).getD j 0).testBit i = true
 alo:∀ j,al = some j→∃ o ty t,ops[j]? = some o∧o.op = .alloc ty∧o.dst = some t∧o.guard = none ∧
  ∀ (k:Nat) (y:Oper),ops[k]? = some y→k≠j→t∈QK ops y→j < k∧∀ (i:Nat) (x:Oper),ops[i]? = some x→i < j→zl X (bw x.dst) x.op = true→((Region.before ops).getD k 0).testBit i = true
theorem qkk {ops:Array Oper} (h:qdR X bw L al ops = true):DrawFacts X bw L al ops:=by
 unfold qdR at h;simp only [zL] at h;obtain ⟨vI,h⟩:=h;have jH:=List.all_eq_true.1 h
 have Z9:∀ (j:Nat) (o:Oper),ops[j]? = some o→(o,j)∈ops.toList.zipIdx:=by
  intro j o hj;rw [List.mem_zipIdx_iff_getElem?];simpa using hj
 constructor
 ·intro j o hj e he hb;have:=jH _ (Z9 j o hj);simp only [zL] at this;have h1:=Array.all_eq_true'.1 this.1 e (by simpa using he);simpa [hb] using h1
 ·intro i j x y hi hj qR hc;have:=jH _ (Z9 j y hj);simp only [zL] at this;have h1:=List.all_eq_true.1 this.2 _ (Z9 i x hi);simpa [qR,hc] using h1
 ·intro j hj;subst hj;simp only [qkX] at vI;cases ho:ops[j]? with
  | none=>simp [ho] at vI
  | some o =>
   simp only [ho] at vI;split at vI
   ·rename_i ty t h1 h2 h3;refine ⟨o,ty,t,rfl,h1,h2,h3,fun k y hk hkj ht=>?_⟩;have:=List.all_eq_true.1 vI _ (Z9 k y hk);have hc:(QK ops y).contains t = true:=(by simpa using ht);simp only [hc,beq_iff_eq,hkj,Bool.not_true,Bool.or_false,zL,decide_eq_true_eq,qam,false_or] at this;refine ⟨this.1,fun i x hi qR hk=>?_⟩;have h4:=List.all_eq_true.1 this.2 _ (Z9 i x hi);simpa [qR,hk] using h4
   ·cases vI
theorem qvr {ops:Array Oper} {i j:Nat} {x y:Oper} (h:ZK X bw L al ops i x j y = true):ZK X bw L al ops j y i x = true:=by
 unfold ZK at *;rw [Nat.max_comm j i];simp only [qam,zL] at *;rcases h with (((h | h) | h) | h) | h
 ·exact .inl (.inl (.inl (.inr h)))
 ·exact .inl (.inl (.inl (.inl h)))
 ·exact .inl (.inl (.inr ⟨⟨h.1.2,h.1.1⟩,h.2⟩))
 ·exact .inr ⟨⟨h.1.2,h.1.1⟩,h.2⟩
 ·exact .inl (.inr ⟨⟨h.1.2,h.1.1⟩,h.2⟩)
theorem qdX {ops:Array Oper} {i j:Nat} {x y:Oper} (hx:zl X (bw x.dst) x.op = true) (hy:zl X (bw y.dst) y.op = true) (vI:al≠some (max i j)):ZK X bw L al ops i x j y = true:=by
 unfold ZK;have:(al == some (max i j)) = false:=by simpa using vI
 simp only [hx,hy,this,Bool.not_false,Bool.and_true,Bool.or_true,Bool.true_or]
theorem qmo (hs:Sim X ok w ι H) (hw:Xl w w') (zx:w.heap.size≤w'.heap.size) (hfr:∀ c,c < w.heap.size→w'.heap[c]? = w.heap[c]?):Sim X ok w' ι H∧Evol H.length ok w ι H ok w' ι H:=by
 have hev:Evol H.length ok w ι H ok w' ι H :=
  ⟨hw.1,hw.2.1,hw.2.2,zx,fun c hc _=>hfr c hc,fun _ h=>h,fun _ h _=>.inl h,⟨qv _,qv _⟩,fun _ _ ds hd=>⟨ds,hd,qv _,fun _=>rfl⟩,
   fun i ds _ s hd hi _=>⟨i,ds,s,hd,hi⟩⟩
 refine ⟨⟨fun c hc=>jr (hs.okS c hc) zx,fun g cs hg=>?_,hs.inj,fun k es he=>?_⟩,hev⟩
 ·have h:=(hs.glob g cs hg).lift (ι:=ι) (H:=H);exact (h.evol hs hev rfl).free rfl _ _
 ·obtain ⟨c,arr2,e2,fr2,h1,h2,h3,h4,h5,h6,h7,h8⟩:=hs.blk k es he;exact ⟨c,arr2,e2,fr2,h1,h2,by rw [hfr c (hs.lt he h1)];exact h3,h4,h5,h6,h7,fun j d hj=>(h8 j d hj).evol hs hev (h8 j d hj).closed⟩
theorem qeR {ds:List D} {ι2:qz} (hι:∀ k,k < H.length→ι2 k = ι k) {ι1:qz} {H1:qd} {d:D} {v:Value} (h:Rep ok w ι1 H1 d v):ι1 = ι→H1 = H→Rep ok w ι2 (qo H ds) d v:=by
 induction h with
 | bool b=>intros;exact .bool b
 | int k n=>intros;exact .int k n
 | str s=>intros;exact .str s
 | nilp=>intros;exact .nilp
 | nilf=>intros;exact .nilf
 | nili=>intros;exact .nili
 | raw v=>intros;exact .raw v
 | agg hl hc h ih=>intro h1 h2;exact .agg hl hc fun j d hj=>ih j d hj h1 h2
 | tup hl h ih=>intro h1 h2;exact .tup hl fun j d hj=>ih j d hj h1 h2
 | fn hl h ih=>intro h1 h2;exact .fn hl fun j d hj=>ih j d hj h1 h2
 | iface h ih=>intro h1 h2;exact .iface (ih h1 h2)
 | optr a hi hk =>
  intro h1 h2;subst h1;subst h2;refine .optr a (by rw [zG];omega) fun ds' qS=>?_;rw [jF hi] at qS;obtain ⟨k1,k2⟩:=hk ds' qS;exact ⟨k1,fun e=>by obtain ⟨b,s,q1,q2⟩:=k2 e;exact ⟨b,s,by rw [hι _ hi];exact q1,q2⟩⟩
 | osl a hi hk qJ =>
  intro h1 h2;subst h1;subst h2;refine .osl a (by rw [zG];omega) (fun ds' qS=>?_) qJ;rw [jF hi] at qS;obtain ⟨k1,k2⟩:=hk ds' qS;exact ⟨k1,fun e=>by obtain ⟨b,s,q1,q2⟩:=k2 e;exact ⟨b,s,by rw [hι _ hi];exact q1,q2⟩⟩
 | vptr a f ha hc hr h ih=>intros;exact .vptr a f ha hc hr h
 | vnil=>intros;exact .vnil
 | vsl a f ha hc hr h qJ ih=>intros;exact .vsl a f ha hc hr h qJ
theorem qlX {ds:List D} {b:Nat} {arr:Array Value} {e:TypeId} {fr:Nat × Nat} (hs:Sim X ok w ι H) (hb:w.heap[b]? = some (.cells arr e fr)) (zy:¬ ok b) (hfree:∀ q es s,qe H q = some es→ι q≠some (b,s))
  (XJ:ds.length≤arr.size) (kF:fr.1 = fr.2∨arr.size≤fr.1) (Qn:∀ j,j < arr.size→(arr.getD j undef).oneCell' = true) (Q8:∀ d,d∈ds→zn d = true) (hrep:∀ (j:Nat) d,ds[j]? = some d→Rep ok w ι H d (arr.getD j undef)) :
  ∃ ι',Sim X ok w ι' (qo H ds)∧ι' H.length = some (b,arr.size)∧(∀ d v,Rep ok w ι H d v→Rep ok w ι' (qo H ds) d v) ∧
   ∀ (n:Nat) (ok0:Nat→Prop) (w0:World) (ι0:qz) (H0:qd),Evol n ok0 w0 ι0 H0 ok w ι H→w0.heap.size≤b→Evol n ok0 w0 ι0 H0 ok w ι' (qo H ds):=by
 have hι:∀ k,k < H.length→(fun k=>if k = H.length then some (b,arr.size) else ι k) k = ι k:=fun k hk=>by simp [Vy hk]
 have split:∀ k es,qe (qo H ds) k = some es→(k = H.length∧es = ds)∨(k < H.length∧qe H k = some es):=by
  intro k es he;by_cases vc:k = H.length
  ·subst vc;rw [qN] at he;injection he with he;exact .inl ⟨rfl,he.symm⟩
  ·have qi:k < H.length:=by
    have:=qt he;rw [zG] at this;omega
   rw [jF qi] at he;exact .inr ⟨qi,he⟩
 refine ⟨fun k=>if k = H.length then some (b,arr.size) else ι k,⟨hs.okS,hs.glob,?_,?_⟩,by simp,fun d v h=>qeR hι h rfl rfl,fun n ok0 w0 ι0 H0 he hb0=>⟨he.os,he.tape,he.output,he.size,he.frame,he.okU,he.okN,⟨he.nle.1,by have:=he.nle.2;rw [zG];omega⟩,fun i hi ds' qS=>?_,fun i ds' c s hd hi hc=>?_⟩⟩
 ·intro p q es fs c s s' hp hq hιp hιq;rcases split p es hp with ⟨rfl,_⟩ | ⟨vx,J9⟩ <;> rcases split q fs hq with ⟨rfl,_⟩ | ⟨Jf,jL⟩
  ·rfl
  ·simp only [if_true,Vy Jf,if_false,qs,qK] at hιp hιq;rw [← hιp.1] at hιq;exact absurd hιq (hfree q fs s' jL)
  ·simp only [if_true,Vy vx,if_false,qs,qK] at hιp hιq;rw [← hιq.1] at hιp;exact absurd hιp (hfree p es s J9)
  ·simp only [Vy vx,Vy Jf,if_false] at hιp hιq;exact hs.inj p q es fs c s s' J9 jL hιp hιq
 ·intro k es he;rcases split k es he with ⟨rfl,rfl⟩ | ⟨hk,he⟩
  ·exact ⟨b,arr,e,fr,by simp,zy,hb,XJ,kF,Qn,Q8,fun j d hj=>qeR hι (hrep j d hj) rfl rfl⟩
  ·obtain ⟨c,arr2,e2,fr2,h1,h2,h3,h4,h5,h6,h7,h8⟩:=hs.blk k es he;exact ⟨c,arr2,e2,fr2,by simp [Vy hk,h1],h2,h3,h4,h5,h6,h7,fun j d hj=>qeR hι (h8 j d hj) rfl rfl⟩
 ·have qi:i < H.length:=jr hi he.nle.2;rw [jF qi] at qS;obtain ⟨es,k1,k2,k3⟩:=he.heap i hi ds' qS;exact ⟨es,k1,k2,fun e=>by simp only [Vy qi,if_false];exact k3 e⟩
 ·rcases split i ds' hd with ⟨rfl,_⟩ | ⟨h1,h2⟩
  ·simp only [if_true,qs,qK] at hi;omega
  ·simp only [Vy h1,if_false] at hi;exact he.own i ds' c s h2 hi hc
theorem qwk {t:TypeId} {cs:List D} (h:(JU X.P t).bind cellsOf = some cs) (w:World):∃ (arr:Array Value),(Instr.alloc t true (.tuple #[])).run X.P w = .ok (.pointer (some ⟨w.heap.size,0,none⟩)) (w.alloc (.cells arr t)) ∧
  cs.length≤arr.size∧(∀ j,j < arr.size→(arr.getD j undef).oneCell' = true)∧(∀ d,d∈cs→zn d = true)∧∀ (ok:Nat→Prop) (w:World) (ι:qz) (H:qd) (j:Nat) d,cs[j]? = some d→Rep ok w ι H d (arr.getD j undef):=by
 cases hz:JU X.P t with
 | none=>simp [hz] at h
 | some z =>
  simp only [hz,VG] at h;obtain ⟨zv,z1,z2⟩:=qbA hz;have c0:=fun ok w ι H=>Xj (z2 ok w ι H) h;obtain ⟨c1,c2,c3⟩:=c0 (fun _=>True) w zo [];refine ⟨zv.cells,by simp [Instr.alloc,z1,newVar,newRow],by omega,fun j hj=>?_,c2,fun ok w ι H=>(c0 ok w ι H).2.2⟩;have vG:cs[j]? = some (cs[j]'(by omega)):=qU (by omega);exact (c3 j _ vG).oneCell (c2 _ (mem_of_get? vG))
theorem qft {p:D} {b:Nat} (hb:VJ p = some b):∀ {l:List (Option D)},some p∈l→b∈kl l
 | [],h=>by cases h
 | some d :: l,h=>by
  simp only [kl,ji];rcases List.mem_cons.1 h with h | h
  ·injection h with h;subst h;exact .inl (by simp [hb])
  ·exact .inr (qft hb h)
 | none :: l,h=>by
  rcases List.mem_cons.1 h with h | h
  ·cases h
  ·simp only [kl];exact qft hb h
theorem qkj {F:qO} (hF:Zv X F) {nt:Nat} {ops:Array Oper} {Q:Exit→Act→World→Prop} (hD:DrawFacts X bw L al ops) {e e':qn} {a:Act} {E:Nat→qn} {T:Nat→qd} (hE0:E 0 = e) (YO:T 0 = H) (hEn:E ops.toList.length = e') (hTn:T ops.toList.length = H')
  (Vf:∀ k o,ops.toList[k]? = some o→XZ X F nt bw ops o (E k) (T k) (E (k+1)) (T (k+1))) (hTr:qwv X ops L E T)
  (hs:Sim X ok w ι H) (he:EnvRep ok w ι H e a.tmps) (vZ:nt≤a.tmps.size) (hQ:∀ a' w',Out X H.length ok w ι H a e' H' a' w'→Q .normal a' w') :
  wpAny X.P .any ops Q ops.size (Array.replicate ops.size false) a w:=by
 have hstep':∀ (k:Nat) (o:Oper),ops[k]? = some o→XZ X F nt bw ops o (E k) (T k) (E (k+1)) (T (k+1)):=fun k o hk=>Vf k o (by simpa using hk);have hEn':E ops.size = e':=by simpa using hEn
 have hTn':T ops.size = H':=by simpa using hTn
 have hslot:∀ (t a b:Nat),a≤b→b≤ops.size→(∀ i o,ops[i]? = some o→o.dst = some t→¬ (a≤i∧i < b))→qg (E b) t = qg (E a) t:=by
  intro t a b hab
  induction b with
  | zero=>intro _ _;have:a = 0:=by omega
          subst this;rfl
  | succ b ih =>
   intro hb zy;by_cases hab':a = b+1
   ·rw [hab']
   ·have qi:b < ops.size:=(by omega);have ho:=Qi qi;have hih:=ih (by omega) (by omega) (fun i o hi hd h=>zy i o hi hd ⟨h.1,by omega⟩);rw [← hih];obtain ⟨_,h | h⟩:=hstep' b _ ho
    ·obtain ⟨_,d,_,h3⟩:=h;rw [h3,qdr,if_neg (fun hd=>zy b _ ho hd ⟨by omega,by omega⟩)]
    ·obtain ⟨_,_,h3⟩:=h;rw [h3,qdr,if_neg (fun hd=>zy b _ ho hd ⟨by omega,by omega⟩)]
 have hnoK:∀ (k:Nat) (o:Oper),ops[k]? = some o→zl X (bw o.dst) o.op = false→T (k+1) = T k:=by
  intro k o ho hk;obtain ⟨_,h | h⟩:=hstep' k o ho
  ·obtain ⟨_,d,h2,_⟩:=h;unfold zl at hk;cases Qc:kL X (bw o.dst) o.op with
   | v=>exact (qiK Qc h2).1
   | r=>exact (qiL (T2:=T k) Qc h2 (fun _ _ _ _ _ _ _=>rfl)).1
   | e=>simp [Qc] at hk
   | m=>simp [Qc] at hk
  ·exact h.2.1
 have Z9:∀ (a b:Nat),a≤b→b≤ops.size→(∀ i o,ops[i]? = some o→zl X (bw o.dst) o.op = true→¬ (a≤i∧i < b))→T b = T a:=by
  intro a b hab
  induction b with
  | zero=>intro _ _;have:a = 0:=by omega
          subst this;rfl
  | succ b ih =>
   intro hb zy;by_cases hab':a = b+1
   ·rw [hab']
   ·have qi:b < ops.size:=(by omega);have ho:=Qi qi;rw [← ih (by omega) (by omega) (fun i o hi hd h=>zy i o hi hd ⟨h.1,by omega⟩)];refine hnoK b _ ho ?_;cases hk:zl X (bw ops[b].dst) ops[b].op with
    | false=>rfl
    | true=>exact absurd ⟨by omega,by omega⟩ (zy b _ ho hk)
 have hread:∀ (q a b:Nat),a≤b→b≤ops.size→q < (T a).length →
   (∀ i o,ops[i]? = some o→kL X (bw o.dst) o.op = .m→js ops (E i) o.guard = some true→a≤i→i < b→(T i).length≤(T (i+1)).length∧qe (T (i+1)) q = qe (T i) q)→qe (T b) q = qe (T a) q∧q < (T b).length:=by
  intro q a b hab
  induction b with
  | zero=>intro _ hq _;have:a = 0:=by omega
          subst this;exact ⟨rfl,hq⟩
  | succ b ih =>
   intro hb hq zy;by_cases hab':a = b+1
   ·subst hab';exact ⟨rfl,hq⟩
   ·have qi:b < ops.size:=(by omega);have ho:=Qi qi;obtain ⟨h1,h2⟩:=ih (by omega) (by omega) hq (fun i o hi hd hg h3 h4=>zy i o hi hd hg h3 (by omega));cases Qc:kL X (bw ops[b].dst) ops[b].op with
    | v=>rw [hnoK b _ ho (by simp only [zl,Qc])];exact ⟨h1,h2⟩
    | r=>rw [hnoK b _ ho (by simp only [zl,Qc])];exact ⟨h1,h2⟩
    | m =>
     obtain ⟨_,h | h⟩:=hstep' b _ ho
     ·obtain ⟨k1,k2⟩:=zy b _ ho Qc h.1 (by omega) (by omega);exact ⟨k2.trans h1,by omega⟩
     ·rw [h.2.1];exact ⟨h1,h2⟩
    | e =>
     obtain ⟨_,h | h⟩:=hstep' b _ ho
     ·obtain ⟨_,d,h3,_⟩:=h;obtain ⟨M,hM⟩:=qpe Qc h3;rw [hM,KV h2];exact ⟨h1,by simp;omega⟩
     ·rw [h.2.1];exact ⟨h1,h2⟩
 have halK:∀ i,al = some i→∃ o,ops[i]? = some o∧kL X (bw o.dst) o.op = .e:=by
  intro i zf;obtain ⟨o,ty,t,g1,g2,-,-,-⟩:=hD.alo i zf;refine ⟨o,g1,?_⟩;rw [g2];cases bw o.dst <;> rfl
 let Pend:Array Bool→Act→World→Nat→qz→(Nat→Prop)→Prop:=fun listed a1 w1 m ι1 ok1=>∃ (i:Nat) (o:Oper) (t:Nat) (b:Nat) (arr:Array Value) (ty:TypeId) (fr:Nat × Nat) (cs:List D),al = some i∧ops[i]? = some o∧o.dst = some t∧m≤i ∧
  T (i+1) = qo (T i) cs∧E (i+1) = zV (E i) (some t) (.optr (T i).length cs.length 0)∧t < a1.tmps.size∧a1.tmps.getD t undef = .pointer (some ⟨b,0,none⟩)∧w1.heap[b]? = some (.cells arr ty fr)∧¬ ok1 b∧(∀ q es s,qe (T m) q = some es→ι1 q≠some (b,s))∧w.heap.size≤b ∧
  cs.length≤arr.size∧(fr.1 = fr.2∨arr.size≤fr.1)∧(∀ j,j < arr.size→(arr.getD j undef).oneCell' = true)∧(∀ d,d∈cs→zn d = true)∧(∀ (ok:Nat→Prop) (w:World) (ι:qz) (H:qd) (j:Nat) d,cs[j]? = some d→Rep ok w ι H d (arr.getD j undef)) ∧
  ∀ k y,ops[k]? = some y→k≠i→t∈QK ops y→listed.getD k false = false
 have main:∀ (fuel:Nat) (listed:Array Bool) (a1:Act) (w1:World) (m:Nat) (ι1:qz) (ok1:Nat→Prop) (pend:Bool),listed.size = ops.size →
   ((List.range ops.size).filter fun i=>!listed.getD i false).length≤fuel →
   (∀ i o,ops[i]? = some o→listed.getD i false = true→qbr (fun k=>listed.getD k false = true) o) →
   m≤ops.size→(∀ i o,ops[i]? = some o→zl X (bw o.dst) o.op = true→al≠some i→(listed.getD i false = true↔i < m))→(∀ i,al = some i→(listed.getD i false = true↔(i < m∨pend = true)))→(pend = true→Pend listed a1 w1 m ι1 ok1) →
   Sim X ok1 w1 ι1 (T m)→Evol H.length ok w ι H ok1 w1 ι1 (T m)→a1.tmps.size = a.tmps.size→a1.defers = a.defers →
   (∀ t k,k≤ops.size→(∀ i o,ops[i]? = some o→o.dst = some t→(listed.getD i false = true↔i < k))→(pend = true→∀ i o,al = some i→ops[i]? = some o→o.dst≠some t)→∀ d,qg (E k) t = some d→t < a1.tmps.size∧Rep ok1 w1 ι1 (T m) d (a1.tmps.getD t undef)) →
   wpAny X.P .any ops Q fuel listed a1 w1:=by
  have absorb:∀ (listed:Array Bool) (a1:Act) (w1:World) (m:Nat) (ι1:qz) (ok1:Nat→Prop) (pend:Bool),
   m≤ops.size→(∀ i o,ops[i]? = some o→zl X (bw o.dst) o.op = true→al≠some i→(listed.getD i false = true↔i < m))→(∀ i,al = some i→(listed.getD i false = true↔(i < m∨pend = true)))→(pend = true→Pend listed a1 w1 m ι1 ok1) →
   Sim X ok1 w1 ι1 (T m)→Evol H.length ok w ι H ok1 w1 ι1 (T m)→a1.tmps.size = a.tmps.size→a1.defers = a.defers →
   (∀ t k,k≤ops.size→(∀ i o,ops[i]? = some o→o.dst = some t→(listed.getD i false = true↔i < k))→(pend = true→∀ i o,al = some i→ops[i]? = some o→o.dst≠some t)→∀ d,qg (E k) t = some d→t < a1.tmps.size∧Rep ok1 w1 ι1 (T m) d (a1.tmps.getD t undef)) →
   (∀ i o k,al = some k→ops[i]? = some o→zl X (bw o.dst) o.op = true→i < k→listed.getD i false = true) →
   ∃ (m2:Nat) (ι2:qz),m2≤ops.size∧(∀ i o,ops[i]? = some o→zl X (bw o.dst) o.op = true→(listed.getD i false = true↔i < m2))∧Sim X ok1 w1 ι2 (T m2)∧Evol H.length ok w ι H ok1 w1 ι2 (T m2) ∧
    (∀ t k,k≤ops.size→(∀ i o,ops[i]? = some o→o.dst = some t→(listed.getD i false = true↔i < k))→∀ d,qg (E k) t = some d→t < a1.tmps.size∧Rep ok1 w1 ι2 (T m2) d (a1.tmps.getD t undef)):=by
   intro listed a1 w1 m ι1 ok1 pend hm hK hJ hP hsim hevol h1 h2 Vg jH;cases pend with
   | false =>
    refine ⟨m,ι1,hm,fun i o ho hk=>?_,hsim,hevol,fun t k hk Zr d hd=>Vg t k hk Zr (fun h=>by cases h) d hd⟩;by_cases zf:al = some i
    ·have:=hJ i zf;simpa using this
    ·exact hK i o ho hk zf
   | true =>
    obtain ⟨j0,o,t0,b,arr,ty,fr,cs,p1,p2,p3,p4,p5,p6,p7,p8,p9,p10,p11,p12,p13,p14,p15,p16,p17,p18⟩:=hP rfl;have hj0:=(Array.getElem?_eq_some_iff.1 p2).1
    have hTm:T j0 = T m:=Z9 m j0 p4 (by omega) fun i x hx hk hi=>by
     have qH:al≠some i:=(by rw [p1];intro h;injection h with h;omega);have:=(hK i x hx hk qH).1 (jH i x j0 p1 hx hk hi.2);omega
    obtain ⟨ι2,s1,s2,s3,s4⟩:=qlX (ds:=cs) hsim p9 p10 p11 p13 p14 p15 p16 (fun j d hj=>p17 _ _ _ _ j d hj);have ZE:T (j0+1) = qo (T m) cs:=(by rw [p5,hTm]);rw [hTm] at p6;refine ⟨j0+1,ι2,by omega,fun i x hx hk=>?_,by rw [ZE];exact s1,by rw [ZE];exact s4 _ _ _ _ _ hevol p12,fun t k hk Zr d hd=>?_⟩
    ·by_cases zf:al = some i
     ·have:i = j0:=(by rw [p1] at zf;injection zf with h;exact h.symm);subst this;exact ⟨fun _=>Nat.lt_succ_self _,fun _=>(hJ i zf).2 (.inr rfl)⟩
     ·have qH:i≠j0:=fun h=>zf (by rw [h];exact p1);have h3:=hK i x hx hk zf;exact ⟨fun hl=>by have:=h3.1 hl;omega,fun qi=>jH i x j0 p1 hx hk (by omega)⟩
    ·rw [ZE];by_cases ht:t0 = t
     ·subst ht;have XF:j0 < k:=(Zr j0 o p2 p3).1 ((hJ j0 p1).2 (.inr rfl))
      have hl:=hslot t0 (j0+1) k (by omega) hk fun i x hx vk hik=>by
       have:=p18 i x hx (by omega) (by simp [QK,vk]);rw [(Zr i x hx vk).2 hik.2] at this;cases this
      rw [hl,p6,qdr,if_pos rfl] at hd;injection hd with hd;subst hd;refine ⟨p7,?_⟩;rw [p8];refine .optr _ (by rw [zG];omega) fun ds JD=>?_;rw [qN] at JD;injection JD with JD;subst JD;exact ⟨qv _,fun _=>⟨_,_,s2,rfl⟩⟩
     ·obtain ⟨q1,q2⟩:=Vg t k hk Zr (fun _ i x zf hx=>by
       have:i = j0:=(by rw [p1] at zf;injection zf with h;exact h.symm);subst this;rw [p2] at hx;injection hx with hx;subst hx;rw [p3];intro h;injection h with h;exact ht h) d hd
      exact ⟨q1,s3 _ _ q2⟩
  have fin:∀ (listed:Array Bool) (a1:Act) (w1:World) (m:Nat) (ι1:qz) (ok1:Nat→Prop),(∀ i,i < ops.size→listed.getD i false = true)→m≤ops.size →
    (∀ i o,ops[i]? = some o→zl X (bw o.dst) o.op = true→(listed.getD i false = true↔i < m)) →
    Sim X ok1 w1 ι1 (T m)→Evol H.length ok w ι H ok1 w1 ι1 (T m)→a1.tmps.size = a.tmps.size→a1.defers = a.defers →
    (∀ t k,k≤ops.size→(∀ i o,ops[i]? = some o→o.dst = some t→(listed.getD i false = true↔i < k))→∀ d,qg (E k) t = some d→t < a1.tmps.size∧Rep ok1 w1 ι1 (T m) d (a1.tmps.getD t undef))→Q .normal a1 w1:=by
   intro listed a1 w1 m ι1 ok1 jH hm hK hsim hevol h1 h2 Vg
   have hT:T ops.size = T m:=Z9 m ops.size hm (qv _) (fun i o ho hk h=>by
    have:=(hK i o ho hk).1 (jH i h.2);omega)
   rw [hTn'] at hT;rw [← hT] at hsim hevol Vg;refine hQ a1 w1 ⟨h1,h2,ι1,ok1,hsim,fun t d ht=>?_,hevol⟩;rw [← hEn'] at ht;exact Vg t ops.size (qv _) (fun i o ho _=>⟨fun _=>(Array.getElem?_eq_some_iff.1 ho).1,fun h=>jH i h⟩) d ht
  have finA:∀ (listed:Array Bool) (a1:Act) (w1:World) (m:Nat) (ι1:qz) (ok1:Nat→Prop) (pend:Bool),(∀ i,i < ops.size→listed.getD i false = true) →
   m≤ops.size→(∀ i o,ops[i]? = some o→zl X (bw o.dst) o.op = true→al≠some i→(listed.getD i false = true↔i < m))→(∀ i,al = some i→(listed.getD i false = true↔(i < m∨pend = true)))→(pend = true→Pend listed a1 w1 m ι1 ok1) →
   Sim X ok1 w1 ι1 (T m)→Evol H.length ok w ι H ok1 w1 ι1 (T m)→a1.tmps.size = a.tmps.size→a1.defers = a.defers →
   (∀ t k,k≤ops.size→(∀ i o,ops[i]? = some o→o.dst = some t→(listed.getD i false = true↔i < k))→(pend = true→∀ i o,al = some i→ops[i]? = some o→o.dst≠some t)→∀ d,qg (E k) t = some d→t < a1.tmps.size∧Rep ok1 w1 ι1 (T m) d (a1.tmps.getD t undef)) →
   Q .normal a1 w1:=by
   intro listed a1 w1 m ι1 ok1 pend jH hm hK hJ hP hsim hevol h1 h2 Vg;obtain ⟨m2,ι2,q1,q2,q3,q4,q5⟩:=absorb listed a1 w1 m ι1 ok1 pend hm hK hJ hP hsim hevol h1 h2 Vg (fun i o k _ ho _ _=>jH i (Array.getElem?_eq_some_iff.1 ho).1);exact fin listed a1 w1 m2 ι2 ok1 jH q1 q2 q3 q4 h1 h2 q5
  intro fuel
  induction fuel with
  | zero =>
   intro listed a1 w1 m ι1 ok1 pend zx hcnt qY hm hK hJ hP hsim hevol h1 h2 Vg
   have jH:∀ i,i < ops.size→listed.getD i false = true:=by
    intro i hi;cases hl:listed.getD i false with
    | true=>rfl
    | false =>
     have:i∈(List.range ops.size).filter fun i=>!listed.getD i false:=by
      rw [List.mem_filter];exact ⟨List.mem_range.2 hi,by simp only [hl];rfl⟩
     have qH:=List.length_pos_of_mem this;omega
   refine ⟨?_,finA listed a1 w1 m ι1 ok1 pend jH hm hK hJ hP hsim hevol h1 h2 Vg⟩;unfold Region.ready;rw [List.filter_eq_nil_iff];intro i hi;have qi:=List.mem_range.1 hi;have:=jH i qi
   have h3:listed.getD i true = true:=by
    rw [zw,Qi (by omega)] at this ⊢;exact this
   simp [h3]
  | succ fuel ih =>
   intro listed a1 w1 m0 ι0 ok1 pend0 zx hcnt qY XA vm hJ0 hP0 hsim0 hevol0 h1 h2 hslots0
   obtain ⟨m,ι1,pend,hm,hK,hJ,hP,hsim,hevol,Vg,hwait⟩:∃ (m:Nat) (ι1:qz) (pend:Bool),m≤ops.size∧(∀ i o,ops[i]? = some o→zl X (bw o.dst) o.op = true→al≠some i→(listed.getD i false = true↔i < m))∧(∀ i,al = some i→(listed.getD i false = true↔(i < m∨pend = true)))∧(pend = true→Pend listed a1 w1 m ι1 ok1) ∧
     Sim X ok1 w1 ι1 (T m)∧Evol H.length ok w ι H ok1 w1 ι1 (T m) ∧
     (∀ t k,k≤ops.size→(∀ i o,ops[i]? = some o→o.dst = some t→(listed.getD i false = true↔i < k))→(pend = true→∀ i o,al = some i→ops[i]? = some o→o.dst≠some t)→∀ d,qg (E k) t = some d→t < a1.tmps.size∧Rep ok1 w1 ι1 (T m) d (a1.tmps.getD t undef)) ∧
     (pend = true→∃ i o k,al = some k∧ops[i]? = some o∧zl X (bw o.dst) o.op = true∧i < k∧listed.getD i false = false):=by
    by_cases jH:∀ i o k,al = some k→ops[i]? = some o→zl X (bw o.dst) o.op = true→i < k→listed.getD i false = true
    ·obtain ⟨m2,ι2,q1,q2,q3,q4,q5⟩:=absorb listed a1 w1 m0 ι0 ok1 pend0 XA vm hJ0 hP0 hsim0 hevol0 h1 h2 hslots0 jH;refine ⟨m2,ι2,false,q1,fun i o ho hk _=>q2 i o ho hk,fun i zf=>?_,(fun h=>by cases h),q3,q4,fun t k hk Zr _ d hd=>q5 t k hk Zr d hd,(fun h=>by cases h)⟩;obtain ⟨o,g1,g2⟩:=halK i zf;simpa using q2 i o g1 (by simp only [zl,g2])
    ·refine ⟨m0,ι0,pend0,XA,vm,hJ0,hP0,hsim0,hevol0,hslots0,fun _=>?_⟩;simp only [Classical.not_forall] at jH;obtain ⟨i,o,k,g1,g2,g3,g4,g5⟩:=jH;exact ⟨i,o,k,g1,g2,g3,g4,by simpa using g5⟩
   have hready:∀ j,j∈Region.ready .any ops listed↔∃ o,ops[j]? = some o∧listed.getD j false = false∧qbr (fun k=>listed.getD k false = true) o:=by
    intro j;unfold Region.ready;rw [List.mem_filter];constructor
    ·rintro ⟨hj,hc⟩;have qi:=List.mem_range.1 hj;simp only [Qi qi,zT,Zw,zL,Bool.not_eq_true'] at hc;refine ⟨_,Qi qi,?_,?_⟩
     ·rw [zw,Qi (by omega)] at hc ⊢;exact hc.1
     ·intro e he hb;have:=Array.all_eq_true'.1 hc.2 e (by simpa using he);simpa [hb] using this
    ·rintro ⟨o,ho,hl,YK⟩;have qi:=(Array.getElem?_eq_some_iff.1 ho).1;refine ⟨List.mem_range.2 qi,?_⟩;simp only [ho,zT,Zw,zL,Bool.not_eq_true'];refine ⟨?_,?_⟩
     ·rw [zw,Qi (by omega)] at hl ⊢;exact hl
     ·rw [Array.all_eq_true'];intro e he;cases hb:Region.binds .any e with
      | false=>simp
      | true=>simpa [hb] using YK e (by simpa using he) hb
   refine ⟨fun qQ=>?_,fun j hj=>?_⟩
   ·refine finA listed a1 w1 m ι1 ok1 pend ?_ hm hK hJ hP hsim hevol h1 h2 Vg;intro i
    induction i using Nat.strongRecOn with
    | _ i ihi =>
     intro hi;cases hl:listed.getD i false with
     | true=>rfl
     | false =>
      have ho:=Qi hi
      have:i∈Region.ready .any ops listed:=(hready i).2 ⟨_,ho,hl,fun e he hb=>by
       have qi:=hD.edge i _ ho e he hb;exact ihi e.on qi (by omega)⟩
      rw [qQ] at this;simp at this
   ·obtain ⟨o,ho,hunl,YK⟩:=(hready j).1 hj;have Qd:=(Array.getElem?_eq_some_iff.1 ho).1
    have hbef:∀ i x,ops[i]? = some x→i < j→ZK X bw L al ops i x j o = true→listed.getD i false = true:=fun i x hx qR hc =>
     qgu (S:=fun k=>listed.getD k false = true) qY ho YK (hD.ord i j x o hx ho qR hc)
    have YN:∀ i x,ops[i]? = some x→j < i→ZK X bw L al ops j o i x = true→listed.getD i false = false:=by
     intro i x hx qR hc;cases hl:listed.getD i false with
     | false=>rfl
     | true =>
      have:=qgu (S:=fun k=>listed.getD k false = true) qY hx (qY i x hx hl) (hD.ord j i o x ho hx qR hc);rw [hunl] at this;cases this
    have hagree:∀ i x,ops[i]? = some x→(i≠j→ZK X bw L al ops i x j o = true)→(listed.getD i false = true↔i < j):=by
     intro i x hx hc;rcases Nat.lt_trichotomy i j with h | h | h
     ·exact ⟨fun _=>h,fun _=>hbef i x hx h (hc (by omega))⟩
     ·subst h;exact ⟨fun h=>(by rw [hunl] at h;cases h),fun h=>(by omega)⟩
     ·exact ⟨fun hl=>(by rw [YN i x hx h (qvr (hc (by omega)))] at hl;cases hl),fun h=>(by omega)⟩
    have hnp:pend = true→al≠some j:=by
     intro hp hj;have:=(hJ j hj).2 (.inr hp);rw [hunl] at this;cases this
    have hnt0:pend = true→∀ i y,al = some i→ops[i]? = some y→∀ t,y.dst = some t→t ∉ QK ops o:=by
     intro hp i y zf hy t hyt ht;obtain ⟨y',ty,t',g1,g2,g3,g4,g5⟩:=hD.alo i zf;rw [hy] at g1;injection g1 with g1;subst g1;rw [hyt] at g3;injection g3 with g3;subst g3;have qH:j≠i:=fun h=>hnp hp (by rw [h];exact zf);obtain ⟨q,x,k,u1,u2,u3,u4,u5⟩:=hwait hp;have vc:k = i:=(by rw [zf] at u1;injection u1 with u1;exact u1.symm);subst vc;have:=qgu (S:=fun k=>listed.getD k false = true) qY ho YK ((g5 j o ho qH ht).2 q x u2 u4 u3);rw [u5] at this;cases this
    have hnames:∀ t,t∈QK ops o→∀ d,qg (E j) t = some d→t < a1.tmps.size∧Rep ok1 w1 ι1 (T m) d (a1.tmps.getD t undef):=by
     intro t ht d hd;refine Vg t j (by omega) (fun i x hx vk=>hagree i x hx (fun _=>?_)) (fun hp i y zf hy hyt=>hnt0 hp i y zf hy t hyt ht) d hd;unfold ZK;simp only [vk,Option.any_some,qam];exact .inl (.inl (.inl (.inl (by simpa using ht))))
    have ql:∀ i,(listed.setIfInBounds j true).getD i false = if i = j then true else listed.getD i false:=by
     intro i;rw [zw,zw];by_cases qR:i = j
     ·subst qR;simp [show i < listed.size by omega]
     ·rw [qb9 (Ne.symm qR),if_neg qR]
    have htmp:∀ (v:Value) t,o.dst≠some t→(a1.put o.dst v).tmps.getD t undef = a1.tmps.getD t undef:=by
     intro v t ht;cases hod:o.dst with
     | none=>rfl
     | some s =>
      have:s≠t:=fun e=>ht (by rw [hod,e]);simp only [Act.put,zw];rw [qb9 this]
    have hPk:∀ (v:Value) (w2:World) (ι2:qz) (ok2:Nat→Prop) (m':Nat),Evol (T m).length ok1 w1 ι1 (T m) ok2 w2 ι2 (T m')→(∀ i,al = some i→pend = true→m'≤i)→pend = true→Pend (listed.setIfInBounds j true) (a1.put o.dst v) w2 m' ι2 ok2:=by
     intro v w2 ι2 ok2 m' hev2 hmi hp;obtain ⟨j0,y,t0,b,arr,ty,fr,cs,p1,p2,p3,p4,p5,p6,p7,p8,p9,p10,p11,p12,p13,p14,p15,p16,p17,p18⟩:=hP hp;have zy:=hnt0 hp j0 y p1 p2 t0 p3;have hdn:o.dst≠some t0:=fun h=>zy (by simp [QK,h]);have hblt:b < w1.heap.size:=(Array.getElem?_eq_some_iff.1 p9).1;refine ⟨j0,y,t0,b,arr,ty,fr,cs,p1,p2,p3,hmi j0 p1 hp,p5,p6,by rw [(qax a1 o.dst v).1];exact p7,by rw [htmp v t0 hdn];exact p8,by rw [hev2.frame b hblt p11];exact p9,fun h=>?_,fun q es s hq h=>?_,p12,p13,p14,p15,p16,p17,fun k z hz hk hn=>?_⟩
     ·rcases hev2.okN b h hblt with h | ⟨i,ds,s,g1,g2⟩
      ·exact p10 h
      ·exact p11 i ds s g1 g2
     ·obtain ⟨q',ds,s',g1,g2⟩:=hev2.own q es b s hq h hblt;exact p11 _ _ _ g1 g2
     ·rw [ql]
      have hkj:k≠j:=by
       rintro rfl;rw [ho] at hz;injection hz with hz;subst hz;exact zy hn
      rw [if_neg hkj];exact p18 k z hz hk hn
    have finish:∀ (d:D) (v:Value) (w2:World) (ι2:qz) (ok2:Nat→Prop) (m':Nat) (pend':Bool),(pend = true→pend' = true)→E (j+1) = zV (E j) o.dst d→jN nt o.dst = true→Sim X ok2 w2 ι2 (T m')→((al = some j→pend' = false)→Rep ok2 w2 ι2 (T m') d v) →
      Evol (T m).length ok1 w1 ι1 (T m) ok2 w2 ι2 (T m')→m'≤ops.size→(∀ i x,ops[i]? = some x→zl X (bw x.dst) x.op = true→al≠some i→((listed.setIfInBounds j true).getD i false = true↔i < m')) →
      (∀ i,al = some i→((listed.setIfInBounds j true).getD i false = true↔(i < m'∨pend' = true)))→(pend' = true→Pend (listed.setIfInBounds j true) (a1.put o.dst v) w2 m' ι2 ok2) →
      wpAny X.P .any ops Q fuel (listed.setIfInBounds j true) (a1.put o.dst v) w2:=by
     intro d v w2 ι2 ok2 m' pend' Qm hE vk hsim2 hrep hev2 hm' hK' hJ' hP'
     have hset':∀ i,(listed.setIfInBounds j true).getD i false = if i = j then true else listed.getD i false:=by
      intro i;rw [zw,zw];by_cases qR:i = j
      ·subst qR;simp [show i < listed.size by omega]
      ·rw [qb9 (Ne.symm qR),if_neg qR]
     obtain ⟨p1,p2⟩:=qax a1 o.dst v;refine ih _ _ w2 m' ι2 ok2 pend' (by simpa using zx) ?_ ?_ hm' hK' hJ' hP' hsim2 (hevol.trans (hev2.mono hevol.nle.2)) (by omega) (by rw [p2,h2]) ?_
     ·have qi:((List.range ops.size).filter fun i=>!(listed.setIfInBounds j true).getD i false).length < ((List.range ops.size).filter fun i=>!listed.getD i false).length:=by
       have hcong:((List.range ops.size).filter fun i=>!(listed.setIfInBounds j true).getD i false) = (((List.range ops.size).filter fun i=>!listed.getD i false).filter fun i=>decide (i≠j)):=by
        rw [List.filter_filter];apply List.filter_congr;intro i _;rw [ql i];by_cases qR:i = j <;> simp [qR]
       rw [hcong];refine List.length_filter_lt_length_iff_exists.2 ⟨j,?_,by simp⟩;rw [List.mem_filter];exact ⟨List.mem_range.2 Qd,by simp only [hunl];rfl⟩
      omega
     ·intro i x hx hl e he hb;show (listed.setIfInBounds j true).getD e.on false = true;rw [ql] at hl ⊢;by_cases heo:e.on = j
      ·rw [if_pos heo]
      ·rw [if_neg heo];by_cases qR:i = j
       ·subst qR;rw [ho] at hx;injection hx with hx;subst hx;exact YK e he hb
       ·rw [if_neg qR] at hl;exact qY i x hx hl e he hb
     ·intro t k hk Zr hex d' qS;by_cases ht:o.dst = some t
      ·have XF:j < k:=(Zr j o ho ht).1 (by rw [ql,if_pos rfl])
       have hl:=hslot t (j+1) k (by omega) hk (fun i x hx vk hik=>by
        have h3:=(Zr i x hx vk).2 hik.2;rw [ql,if_neg (by omega)] at h3
        have h4:=YN i x hx (by omega) (by
         unfold ZK;simp only [ht,Option.any_some,qam];exact .inl (.inl (.inl (.inl (by simp [QK,vk])))))
        rw [h4] at h3;cases h3)
       rw [hl,hE,qdr,if_pos ht] at qS;injection qS with qS;subst qS;rw [ht] at vk ⊢;have qi:t < nt:=(by simpa [jN] using vk);have XB:t < a1.tmps.size:=jr qi (by omega);refine ⟨by simpa [Act.put] using XB,?_⟩
       have hrep:=hrep fun hj=>by
        cases hp':pend' with
        | false=>rfl
        | true=>exact absurd ht (hex hp' j o hj ho)
       simpa [Act.put,XB,zw] using hrep
      ·have hold:=Vg t k hk (fun i x hx vk=>by
        have h3:=Zr i x hx vk
        have qR:i≠j:=by
         rintro rfl;rw [ho] at hx;injection hx with hx;subst hx;exact ht vk
        rwa [ql,if_neg qR] at h3) (fun hp=>hex (Qm hp)) d' qS
       refine ⟨by have h:=hold.1;rw [p1];exact h,?_⟩
       have htm:(a1.put o.dst v).tmps.getD t undef = a1.tmps.getD t undef:=by
        cases hod:o.dst with
        | none=>rfl
        | some s =>
         have:s≠t:=fun e=>ht (by rw [hod,e]);simp only [Act.put,zw];rw [qb9 this]
       rw [htm];exact hold.2.evol hsim hev2 hold.2.closed
    have jv:zl X (bw o.dst) o.op = false→∀ i x,ops[i]? = some x→zl X (bw x.dst) x.op = true→al≠some i→((listed.setIfInBounds j true).getD i false = true↔i < m):=by
     intro hk i x hx kE zf
     have qR:i≠j:=by
      rintro rfl;rw [ho] at hx;injection hx with hx;subst hx;rw [hk] at kE;cases kE
     rw [ql,if_neg qR];exact hK i x hx kE zf
    have hJ1:zl X (bw o.dst) o.op = false→∀ i,al = some i→((listed.setIfInBounds j true).getD i false = true↔(i < m∨pend = true)):=by
     intro hk i zf
     have qR:i≠j:=by
      rintro rfl;obtain ⟨x,g1,g2⟩:=halK i zf;rw [ho] at g1;injection g1 with g1;subst g1;simp only [zl,g2] at hk;cases hk
     rw [ql,if_neg qR];exact hJ i zf
    have jl:∀ i,al = some i→pend = true→m≤i:=by
     intro i zf hp;obtain ⟨j0,y,t0,b,arr,ty,fr,cs,p1,p2,p3,p4,-⟩:=hP hp;rw [zf] at p1;injection p1 with p1;omega
    have hKj:zl X (bw o.dst) o.op = true→(al = some j→∀ i x,ops[i]? = some x→zl X (bw x.dst) x.op = true→i < j→listed.getD i false = true) →
      ∀ i x,ops[i]? = some x→zl X (bw x.dst) x.op = true→(i < m↔i < j)∧(al≠some i→(listed.getD i false = true↔i < j)):=by
     intro hk Qr i x hx kE
     have hord:al≠some i→(listed.getD i false = true↔i < j):=by
      intro zf;by_cases QS:al = some j
      ·rcases Nat.lt_trichotomy i j with h | h | h
       ·exact ⟨fun _=>h,fun _=>Qr QS i x hx kE h⟩
       ·subst h;exact absurd QS zf
       ·have hc:ZK X bw L al ops j o i x = true:=qdX hk kE (by rw [Nat.max_eq_right (by omega)];exact zf);exact ⟨fun hl=>(by rw [YN i x hx h hc] at hl;cases hl),fun h=>(by omega)⟩
      ·refine hagree i x hx fun _=>qdX kE hk ?_;rcases Nat.le_total i j with h | h
       ·rw [Nat.max_eq_right h];exact QS
       ·rw [Nat.max_eq_left h];exact zf
     refine ⟨?_,hord⟩;by_cases zf:al = some i
     ·by_cases qR:i = j
      ·subst qR
       have:¬ i < m:=fun h=>by
        have:=(hJ i zf).2 (.inl h);rw [hunl] at this;cases this
       exact ⟨fun h=>absurd h this,fun h=>absurd h (Nat.lt_irrefl _)⟩
      ·have QS:al≠some j:=fun h=>by rw [zf] at h;injection h with h;exact qR h
       have hjm:¬ j < m:=fun h=>by
        have:=(hK j o ho hk QS).2 h;rw [hunl] at this;cases this
       have qi:i < j→listed.getD i false = true:=fun h=>hbef i x hx h (qdX kE hk (by rw [Nat.max_eq_right (by omega)];exact QS));cases hp:pend with
       | false =>
        have h3:=hJ i zf;rw [hp] at h3;simp only [kB,or_false] at h3;refine ⟨fun h=>by omega,fun h=>h3.1 (qi h)⟩
       | true =>
        have h4:=jl i zf hp;obtain ⟨q,z,k,u1,u2,u3,u4,u5⟩:=hwait hp;have vc:k = i:=(by rw [zf] at u1;injection u1 with u1;exact u1.symm);subst vc;refine ⟨fun h=>by omega,fun h=>?_⟩;have hc:ZK X bw L al ops q z j o = true:=qdX u3 hk (by rw [Nat.max_eq_right (by omega)];exact QS);have:=hbef q z u2 (by omega) hc;rw [u5] at this;cases this
     ·exact (hK i x hx kE zf).symm.trans (hord zf)
    have jQ:zl X (bw o.dst) o.op = true→(al = some j→∀ i x,ops[i]? = some x→zl X (bw x.dst) x.op = true→i < j→listed.getD i false = true)→∀ i x,ops[i]? = some x→zl X (bw x.dst) x.op = true→al≠some i→((listed.setIfInBounds j true).getD i false = true↔i < j+1):=by
     intro hk Qr i x hx kE zf;rw [ql];by_cases qR:i = j
     ·subst qR;simp
     ·rw [if_neg qR,(hKj hk Qr i x hx kE).2 zf];omega
    have hJ2:zl X (bw o.dst) o.op = true→(al = some j→∀ i x,ops[i]? = some x→zl X (bw x.dst) x.op = true→i < j→listed.getD i false = true)→∀ i,al = some i→((listed.setIfInBounds j true).getD i false = true↔(i < j+1∨pend = true)):=by
     intro hk Qr i zf;rw [ql];by_cases qR:i = j
     ·subst qR;simp
     ·obtain ⟨x,g1,g2⟩:=halK i zf;have h3:=(hKj hk Qr i x g1 (by simp only [zl,g2])).1;rw [if_neg qR,hJ i zf];constructor
      ·rintro (h | h)
       ·exact .inl (by omega)
       ·exact .inr h
      ·rintro (h | h)
       ·exact .inl (by omega)
       ·exact .inr h
    have qW:zl X (bw o.dst) o.op = true→∀ i,al = some i→pend = true→j+1≤i:=by
     intro hk i zf hp;have QS:=hnp hp;have qR:i≠j:=fun h=>QS (by rw [← h];exact zf);obtain ⟨x,g1,g2⟩:=halK i zf;have h3:=(hKj hk (fun h=>absurd h QS) i x g1 (by simp only [zl,g2])).1;have:=jl i zf hp;omega
    have hTK:zl X (bw o.dst) o.op = true→(al = some j→∀ i x,ops[i]? = some x→zl X (bw x.dst) x.op = true→i < j→listed.getD i false = true)→T m = T j:=by
     intro hk Qr;have hmj:∀ i x,ops[i]? = some x→zl X (bw x.dst) x.op = true→(i < m↔i < j):=fun i x hx kE=>(hKj hk Qr i x hx kE).1;rcases Nat.le_total m j with h | h
     ·exact (Z9 m j h (by omega) (fun i x hx kE hi=>by have:=(hmj i x hx kE).2 hi.2;omega)).symm
     ·exact Z9 j m h hm (fun i x hx kE hi=>by have:=(hmj i x hx kE).1 hi.2;omega)
    unfold wpOp;simp only [ho];obtain ⟨vk,hcase⟩:=hstep' j o ho
    have hgn:∀ k want t,∀ o':Oper,o'.guard = some (k,want)→o' = o→(ops[k]?).bind (·.dst) = some t→t∈QK ops o:=by
     intro k want t o' hg he' hd;subst he';simp [QK,hg,hd]
    have hw:∀ b,js ops (E j) o.guard = some b→Region.wanted o (yielded ops a1.tmps) = b:=by
     intro b hb;exact qg4 (fun k want t hg hd d hl=>hnames t (hgn k want t o hg rfl hd) d hl) hb
    rcases hcase with ⟨hg,d,kx,hE⟩ | ⟨hg,hTj,hE⟩
    ·rw [if_pos (hw true hg)];refine .inl ?_;unfold Oper.wp
     have hopn:∀ x,x∈o.op.operands.toList→qB X (E j) x = qB X (Xq (QK ops o) (E j)) x:=fun x hx=>qnS fun t ht=>(qdq (by
      simp only [QK,ji,List.mem_flatMap];exact .inl (.inr ⟨x,hx,ht⟩))).symm
     rw [qum hopn] at kx;have henv:EnvRep ok1 w1 ι1 (T m) (Xq (QK ops o) (E j)) a1.tmps:=fun t d ht=>hnames t (qdp ht).1 d (qdp ht).2
     have go:∀ m',qD X F (bw o.dst) o.op (Xq (QK ops o) (E j)) (T m) = some (d,T m')→m'≤ops.size→(∀ i x,ops[i]? = some x→zl X (bw x.dst) x.op = true→al≠some i→((listed.setIfInBounds j true).getD i false = true↔i < m')) →
       (∀ i,al = some i→((listed.setIfInBounds j true).getD i false = true↔(i < m'∨pend = true)))→(∀ i,al = some i→pend = true→m'≤i) →
       o.upon X.P a1 (wpAny X.P .any ops Q fuel (listed.setIfInBounds j true)) Q ((execOp a1.eval o).run X.P w1):=by
      intro m' hop' hm' hK' hJ' hmi;refine Goes.upon ((qfg hF hsim henv hop').mono fun v w2 hp=>?_);obtain ⟨ι2,ok2,q1,q2,q3⟩:=hp;exact finish d v w2 ι2 ok2 m' pend (fun h=>h) hE vk q1 (fun _=>q2) q3 hm' hK' hJ' (hPk v w2 ι2 ok2 m' q3 hmi)
     cases Qc:kL X (bw o.dst) o.op with
     | v=>exact go m ((qiK Qc kx).2 (T m)) hm (jv (by simp only [zl,Qc])) (hJ1 (by simp only [zl,Qc])) jl
     | r =>
      refine go m (qiL Qc kx fun x hx p i hp hi qH=>?_).2 hm (jv (by simp only [zl,Qc])) (hJ1 (by simp only [zl,Qc])) jl
      have hMag:∀ i x,ops[i]? = some x→kL X (bw x.dst) x.op = .m→L.contains (i,j) = true∨(i < m↔i < j):=by
       intro i x hx kE;cases hc:L.contains (i,j) with
       | true=>exact .inl rfl
       | false =>
        have zf:al≠some i:=fun h=>by
         obtain ⟨z,g1,g2⟩:=halK i h;rw [hx] at g1;injection g1 with g1;subst g1;rw [kE] at g2;cases g2
        refine .inr ((hK i x hx (by simp only [zl,kE]) zf).symm.trans (hagree i x hx fun _=>?_));unfold ZK;simp only [kE,Qc,hc];simp
      have qi:i < (T m).length:=by
       have:=(jk hsim henv hp).closed;cases p <;> simp only [VJ,reduceCtorEq,qs] at hi
       ·subst hi;simpa [closed] using this
       ·subst hi;simpa [closed] using this
      have Vl:i∈kl (o.op.operands.toList.map (qB X (E j))):=qft hi (by
       rw [← hp,← hopn x hx];exact List.mem_map_of_mem hx)
      have vY:∀ i' x',ops[i']? = some x'→kL X (bw x'.dst) x'.op = .m→js ops (E i') x'.guard = some true→L.contains (i',j) = true→(T i').length≤(T (i'+1)).length∧qe (T (i'+1)) i = qe (T i') i:=by
       intro i' x' hx' YF hgx' hc
       have hne':i'≠j:=by
        rintro rfl;rw [ho] at hx';injection hx' with hx';subst hx';rw [Qc] at YF;cases YF
       obtain ⟨u1,u2⟩:=hTr i' j x' o hx' ho hc hne' hgx' hg;exact ⟨u1,u2 i Vl⟩
      rcases Nat.le_total m j with h | h
      ·exact (hread i m j h (by omega) qi (fun i' x' hx' YF hgx' h1 h2=>by
        rcases hMag i' x' hx' YF with hc | hc
        ·exact vY i' x' hx' YF hgx' hc
        ·omega)).1.symm
      ·have hltj:i < (T j).length:=by
        cases vj:qe (T j) i with
        | none=>exact absurd vj qH
        | some ds=>exact qt vj
       exact (hread i j m h hm hltj (fun i' x' hx' YF hgx' h1 h2=>by
        rcases hMag i' x' hx' YF with hc | hc
        ·exact vY i' x' hx' YF hgx' hc
        ·omega)).1
     | e =>
      have hk:zl X (bw o.dst) o.op = true:=(by simp only [zl,Qc]);by_cases Qr:al = some j→∀ i x,ops[i]? = some x→zl X (bw x.dst) x.op = true→i < j→listed.getD i false = true
      ·rw [← hTK hk Qr] at kx;exact go (j+1) kx (by omega) (jQ hk Qr) (hJ2 hk Qr) (qW hk)
      ·have QS:al = some j:=Classical.byContradiction fun h=>Qr fun h2=>absurd h2 h
       have hpf:pend = false:=by
        cases hp:pend with
        | false=>rfl
        | true=>exact absurd QS (hnp hp)
       obtain ⟨o',ty,t0,g1,g2,g3,g4,g5⟩:=hD.alo j QS;rw [ho] at g1;injection g1 with g1;subst g1
       have hjm:¬ j < m:=fun h=>by
        have:=(hJ j QS).2 (.inl h);rw [hunl] at this;cases this
       have hev0:qD X F (bw o.dst) o.op (Xq (QK ops o) (E j)) (T j) = match (JU X.P ty).bind cellsOf with
         | some cs=>some (.optr (T j).length cs.length 0,qo (T j) cs)
         | none=>none:=by
        rw [g2];cases bw o.dst <;> rfl
       rw [hev0] at kx;cases hz:(JU X.P ty).bind cellsOf with
       | none=>rw [hz] at kx;cases kx
       | some cs =>
        rw [hz] at kx;injection kx with kx;injection kx with hd hT1;obtain ⟨arr,r1,r2,r3,r4,r5⟩:=qwk hz w1;have hgr:=qmo (w':=w1.alloc (.cells arr ty)) hsim ⟨rfl,rfl,rfl⟩ (by simp) (fun c hc=>heap_alloc_old w1 _ hc);have qi:t0 < nt:=(by simpa [jN,g3] using vk);have hrun:Goes X.P (execOp a1.eval o) w1 (fun v w2=>v = .pointer (some ⟨w1.heap.size,0,none⟩)∧w2 = w1.alloc (.cells arr ty)):=Goes.value (by simp [execOp,g2,r1]) ⟨rfl,rfl⟩;refine Goes.upon (hrun.mono fun v w2 hp=>?_);obtain ⟨rfl,rfl⟩:=hp;refine finish d _ _ ι1 ok1 m true (fun _=>rfl) hE vk hgr.1 (fun h=>by cases h QS) hgr.2 hm (fun i x hx kE zf=>?_) (fun i zf=>?_) (fun _=>?_)
        ·have qR:i≠j:=fun h=>zf (by rw [h];exact QS);rw [ql,if_neg qR];exact hK i x hx kE zf
        ·have qR:i = j:=(by rw [QS] at zf;injection zf with h;exact h.symm);rw [ql,if_pos qR];simp
        ·refine ⟨j,o,t0,w1.heap.size,arr,ty,(0,0),cs,QS,ho,g3,by omega,hT1.symm,by rw [hE,← hd,g3],by rw [(qax a1 o.dst _).1];exact jr qi (by rw [h1];exact vZ),?_,heap_alloc_new w1 _,fun h=>?_,fun q es s hq h=>?_,hevol.size,r2,.inl rfl,r3,r4,r5,fun k y hy ZB hn=>?_⟩
         ·rw [g3];have:t0 < a1.tmps.size:=jr qi (by rw [h1];exact vZ);simp [Act.put,this,zw]
         ·exact absurd (hsim.okS _ h) (Nat.lt_irrefl _)
         ·exact absurd (hsim.lt hq h) (Nat.lt_irrefl _)
         ·rw [ql,if_neg ZB];refine YN k y hy (g5 k y hy ZB hn).1 ?_;unfold ZK;simp only [g3,Option.any_some,qam];exact .inl (.inl (.inl (.inl (by simpa using hn))))
     | m =>
      have hk:zl X (bw o.dst) o.op = true:=by simp only [zl,Qc]
      have Qr:al = some j→∀ i x,ops[i]? = some x→zl X (bw x.dst) x.op = true→i < j→listed.getD i false = true:=fun h=>by
       obtain ⟨z,g1,g2⟩:=halK j h;rw [ho] at g1;injection g1 with g1;subst g1;rw [Qc] at g2;cases g2
      rw [← hTK hk Qr] at kx;exact go (j+1) kx (by omega) (jQ hk Qr) (hJ2 hk Qr) (qW hk)
    ·rw [if_neg (by rw [hw false hg];simp)];cases hk:zl X (bw o.dst) o.op with
     | false=>exact finish (.tup []) undef w1 ι1 ok1 m pend (fun h=>h) hE vk hsim (fun _=>qcJ) (.refl _ (qv _)) hm (jv hk) (hJ1 hk) (hPk _ _ _ _ _ (.refl _ (qv _)) jl)
     | true =>
      have Qr:al = some j→∀ i x,ops[i]? = some x→zl X (bw x.dst) x.op = true→i < j→listed.getD i false = true:=fun h=>by
       obtain ⟨o',ty,t0,g1,g2,g3,g4,g5⟩:=hD.alo j h;rw [ho] at g1;injection g1 with g1;subst g1;rw [g4] at hg;simp [js] at hg
      have ZE:T (j+1) = T m:=(by rw [hTj,hTK hk Qr]);have hev2:Evol (T m).length ok1 w1 ι1 (T m) ok1 w1 ι1 (T (j+1)):=(by rw [ZE];exact .refl _ (qv _));exact finish (.tup []) undef w1 ι1 ok1 (j+1) pend (fun h=>h) hE vk (by rw [ZE];exact hsim) (fun _=>qcJ) hev2 (by omega) (jQ hk Qr) (hJ2 hk Qr) (hPk _ _ _ _ _ hev2 (qW hk))
 refine main ops.size (Array.replicate ops.size false) a w 0 ι ok false (by simp) ?_ ?_ (vf _) ?_ ?_ (fun h=>by cases h) (by rw [YO];exact hs) (by rw [YO];exact .refl _ (qv _)) rfl rfl ?_
 ·exact jA (List.length_filter_le _ _) (by simp)
 ·intro i o hi hl
  have:(Array.replicate ops.size false).getD i false = false:=by
   rw [zw,qeu];split <;> rfl
  rw [this] at hl;cases hl
 ·intro i o hi hk _
  have:(Array.replicate ops.size false).getD i false = false:=by
   rw [zw,qeu];split <;> rfl
  rw [this];simp
 ·intro i _
  have:(Array.replicate ops.size false).getD i false = false:=by
   rw [zw,qeu];split <;> rfl
  rw [this];simp
 ·intro t k hk Zr _ d hd;rw [YO]
  have hl:=hslot t 0 k (vf _) hk (fun i o hi vk hik=>by
   have h3:=(Zr i o hi vk).2 hik.2
   have:(Array.replicate ops.size false).getD i false = false:=by
    rw [zw,qeu];split <;> rfl
   rw [this] at h3;cases h3)
  rw [hl,hE0] at hd;exact he t d hd
theorem quA {F:qO} (hF:Zv X F) {nt:Nat} {ops:Array Oper} {drw:Bool} {Q:Exit→Act→World→Prop} (hD:DrawFacts X (fun _=>drw) [] al ops) {e e':qn} {a:Act} (hev:jw X F nt drw ops ops.toList e H = some (e',H'))
  (hs:Sim X ok w ι H) (he:EnvRep ok w ι H e a.tmps) (vZ:nt≤a.tmps.size) (hQ:∀ a' w',Out X H.length ok w ι H a e' H' a' w'→Q .normal a' w') :
  wpAny X.P .any ops Q ops.size (Array.replicate ops.size false) a w:=by
 obtain ⟨E,T,hE0,YO,hEn,hTn,Vf⟩:=qgI hev;exact qkj hF hD hE0 YO hEn hTn Vf (fun i j x y _ _ hc=>by simp at hc) hs he vZ hQ
theorem qu9 {F:qO} (hF:Zv X F) {nt:Nat} {ops:Array Oper} {ow:List Nat} {Q:Exit→Act→World→Prop} (hD:DrawFacts X (Qw ow) L al ops) {e e':qn} {a:Act} (hev:vP X F nt ow ops L 0 [] [] ops.toList e H = some (e',H'))
  (hs:Sim X ok w ι H) (he:EnvRep ok w ι H e a.tmps) (vZ:nt≤a.tmps.size) (hQ:∀ a' w',Out X H.length ok w ι H a e' H' a' w'→Q .normal a' w') :
  wpAny X.P .any ops Q ops.size (Array.replicate ops.size false) a w:=by
 obtain ⟨E,T,hE0,YO,hEn,hTn,Vf⟩:=qgH hev;refine qkj hF hD hE0 YO hEn hTn Vf ?_ hs he vZ hQ;rw [← hE0,← YO] at hev;intro i j x y hi hj hc qH gi gj;exact qe4 (fun k o hk=>Vf k o (by simpa using hk)) ops.toList 0 [] [] _ (fun m=>by simp) hev (fun i x hik=>by omega) (fun j y XF=>by omega) i j x y hi hj hc qH gi gj (vf _)
end
end Go.Ev
namespace Go.Ev
section
variable {X:Cx} {ok ok':Nat→Prop} {w w':World} {ι:qz} {H H':qd}
theorem qbB {ops:Array Oper} {e:qn} {a:Act} (he:EnvRep ok w ι H e a.tmps) {o:Oper} {b:Bool} (h:js ops e o.guard = some b):Region.wanted o (yielded ops a.tmps) = b :=
 qg4 (fun _ _ t _ _ d hd=>he t d hd) h
theorem qdd {e:qn} {a:Act} {dst:Option Tmp} {d:D} {v:Value} {nt:Nat} (he:EnvRep ok w ι H e a.tmps) (hd:Rep ok w ι H d v) (hn:nt≤a.tmps.size) (ht:jN nt dst = true):EnvRep ok w ι H (zV e dst d) (a.put dst v).tmps:=by
 cases dst with
 | none=>exact he
 | some t =>
  have ht':t < nt:=by simpa [jN] using ht
  exact he.put hd (jr ht' hn)
theorem qfP {F:qO} (hF:Zv X F) {nt:Nat} {drw:Bool} {ops:Array Oper} {Q:Exit→Act→World→Prop}:∀ {l:List Oper} {e e':qn} {H H':qd} {ok:Nat→Prop} {w:World} {ι:qz} {a:Act},jw X F nt drw ops l e H = some (e',H') →
  Sim X ok w ι H→EnvRep ok w ι H e a.tmps→nt≤a.tmps.size→(∀ a' w',Out X H.length ok w ι H a e' H' a' w'→Q .normal a' w')→wpList X.P ops Q l a w
 | [],e,e',H,H',ok,w,ι,a,h,hs,he,hn,hQ=>by
  simp only [jw,qs,qK] at h;obtain ⟨rfl,rfl⟩:=h;exact hQ a w ⟨rfl,rfl,ι,ok,hs,he,.refl _ (qv _)⟩
 | o :: l,e,e',H,H',ok,w,ι,a,h,hs,he,hn,hQ=>by
  simp only [jw] at h;split at h
  ·rename_i vk hg;split at h
   ·rename_i d H1 ho;have hw:=qbB he hg;simp only [wpList,hw,if_true];refine .inl ?_;unfold Oper.wp;refine Goes.upon ((qfg hF hs he ho).mono fun v w1 hp=>?_);obtain ⟨ι1,ok1,k1,k2,k3⟩:=hp;obtain ⟨s1,s2⟩:=qax a o.dst v;refine qfP hF h k1 (qdd (he.evol' hs k3) k2 hn vk) (by omega) fun a2 w2 jp=>hQ a2 w2 ?_;obtain ⟨t1,t2,ι2,ok2,u1,u2,u3⟩:=jp;exact ⟨by omega,by rw [t2,s2],ι2,ok2,u1,u2,k3.trans (u3.mono k3.nle.2)⟩
   ·cases h
  ·rename_i vk hg;have hw:=qbB he hg;simp only [wpList,hw,kB,if_false];obtain ⟨s1,s2⟩:=qax a o.dst undef;refine qfP hF h hs (qdd he qcJ hn vk) (by omega) fun a2 w2 jp=>hQ a2 w2 ?_;obtain ⟨t1,t2,rest⟩:=jp;exact ⟨by omega,by rw [t2,s2],rest⟩
  ·cases h
theorem qdt:∀ {ks:List Nat} {e:qn} {t:Nat} {d:D},qg (vC ks e) t = some d→qg e t = some d
 | [],e,t,d,h=>by simp [vC,qg] at h
 | k :: ks,e,t,d,h=>by
  simp only [vC] at h;split at h
  ·rename_i x hk;simp only [qg] at h;split at h
   ·rename_i V9;subst V9;rw [hk];exact h
   ·exact qdt h
  ·exact qdt h
theorem qi8 {n:Nat}:∀ {e:qn} {t:Nat} {d:D},XT n e = true→qg e t = some d→closed n d = true
 | [],t,d,_,h=>by simp [qg] at h
 | (s,x) :: e,t,d,hc,h=>by
  simp only [XT,zL] at hc;simp only [qg] at h;split at h
  ·injection h with h;subst h;exact hc.1
  ·exact qi8 hc.2 h
theorem qu2 {f n0 id:Nat} {e e':qn} {tmps:Array Value} (h:qfV X f n0 id e H = some (e',H')) (hn:n0≤H.length) (hs:Sim X ok w ι H) (he:EnvRep ok w ι H e tmps) :
  Sim X ok w ι H'∧EnvRep ok w ι H' e' tmps∧Evol n0 ok w ι H ok w ι H':=by
 unfold qfV at h;split at h
 ·simp only [qs,qK] at h;obtain ⟨rfl,rfl⟩:=h;exact ⟨hs,he,.refl _ hn⟩
 ·simp only [qs,qK] at h;obtain ⟨rfl,rfl⟩:=h;exact ⟨hs,fun t d ht=>he t d (qdt ht),.refl _ hn⟩
 ·rename_i ks k hk;have hkeep:EnvRep ok w ι H (vC ks e) tmps:=fun t d ht=>he t d (qdt ht);split at h
  ·simp only [qs,qK] at h;obtain ⟨rfl,rfl⟩:=h;exact ⟨hs,hkeep,.refl _ hn⟩
  ·rename_i hlen;split at h
   ·rename_i hc;rw [zL] at hc;simp only [qs,qK] at h;obtain ⟨rfl,rfl⟩:=h;have hm:n0+k≤H.length:=(by omega);exact ⟨quE hm hs hc.2,hkeep.evol hs (qga hm) (fun t d ht=>qi8 hc.1 ht),(qga hm).mono (by omega)⟩
   ·cases h
theorem qkd {f n0 id:Nat} {e e':qn} {tmps:Array Value} (h:qdM X f n0 id e H = some (e',H')) (hn:n0≤H.length) (hs:Sim X ok w ι H) (he:EnvRep ok w ι H e tmps) :
  ∃ ok' ι',Sim X ok' w ι' H'∧EnvRep ok' w ι' H' e' tmps∧Evol n0 ok w ι H ok' w ι' H':=by
 have stepC:∀ {e e':qn} {ok:Nat→Prop} {H H':qd},qdN X f n0 id e H = some (e',H')→n0≤H.length→Sim X ok w ι H→EnvRep ok w ι H e tmps →
   ∃ ι',Sim X ok w ι' H'∧EnvRep ok w ι' H' e' tmps∧Evol n0 ok w ι H ok w ι' H':=by
  intro e e' ok H H' h hn hs he;unfold qdN at h;split at h
  ·obtain ⟨h1,h2,h3⟩:=qu2 h hn hs he;exact ⟨ι,h1,h2,h3⟩
  ·exact qnh h hn hs he
 unfold qdM at h;split at h
 ·obtain ⟨ι',h1,h2,h3⟩:=stepC h hn hs he;exact ⟨ok,ι',h1,h2,h3⟩
 ·split at h
  ·rename_i e1 H1 kF;obtain ⟨ok',k1,k2,k3⟩:=qtM kF hs he;obtain ⟨ι',h1,h2,h3⟩:=stepC h (jA hn k3.nle.2) k1 k2;exact ⟨ok',ι',h1,h2,(k3.mono hn).trans h3⟩
  ·cases h
theorem qkc {f n0 id:Nat} {e e':qn} {tmps:Array Value} (h:enter X f n0 id e H = some (e',H')) (hn:n0≤H.length) (hs:Sim X ok w ι H) (he:EnvRep ok w ι H e tmps) :
  ∃ ok' ι',Sim X ok' w ι' H'∧EnvRep ok' w ι' H' e' tmps∧Evol n0 ok w ι H ok' w ι' H':=by
 unfold enter at h;split at h
 ·exact qkd h hn hs he
 ·split at h
  ·rename_i H1 hst;obtain ⟨ok1,k1,k2,k3⟩:=qeD hst hs;obtain ⟨ok2,ι',h1,h2,h3⟩:=qkd h (by rw [k3];exact hn) k1 (fun t d ht=>⟨(he t d ht).1,(he t d ht).2.evol hs k2 (he t d ht).2.closed⟩);exact ⟨ok2,ι',h1,h2,(k2.mono hn).trans h3⟩
  ·cases h
def qfN:Ex→Exit
 | .normal=>.normal
 | .exit id=>.exit id
 | .ret=>.ret
def CQ (X:Cx) (n:Nat) (ok:Nat→Prop) (w:World) (ι:qz) (H:qd) (a:Act) (ex:Ex) (e':qn) (H':qd) (x:Exit) (a':Act) (w':World):Prop :=
 x = qfN ex∧Out X n ok w ι H a e' H' a' w'
def qww (X:Cx) (n:Nat):Prop :=
 ∀ (f nt n0:Nat) (c:Code) (e e':qn) (H H':qd) (ex:Ex) (ok:Nat→Prop) (w:World) (ι:qz) (a:Act),qG X n f nt n0 c e H = some (ex,e',H')→kY X f c = true→n0≤H.length→Sim X ok w ι H→EnvRep ok w ι H e a.tmps→nt≤a.tmps.size →
  c.wp X.P (CQ X n0 ok w ι H a ex e' H') a w
theorem Out.trans {n:Nat} {a a1 a2:Act} {w1 w2:World} {H1 H2:qd} {ok1:Nat→Prop} {ι1:qz} {e2:qn} (h1:a1.tmps.size = a.tmps.size) (h2:a1.defers = a.defers) (h3:Evol n ok w ι H ok1 w1 ι1 H1)
  (h:Out X n ok1 w1 ι1 H1 a1 e2 H2 a2 w2):Out X n ok w ι H a e2 H2 a2 w2:=by
 obtain ⟨t1,t2,ι2,ok2,u1,u2,u3⟩:=h;exact ⟨by omega,by rw [t2,h2],ι2,ok2,u1,u2,h3.trans u3⟩
theorem qij {t:Bool} {c:Operand} {e:qn} {a:Act} (hs:Sim X ok w ι H) (he:EnvRep ok w ι H e a.tmps) (h:qB X e c = some (.bool t)):a.eval c = .bool t:=by
 have:=jk hs he h;generalize a.eval c = v at this ⊢;cases this;rfl
theorem qef:∀ (l:List D) (i t:Nat) (d:D),qg (jI i l) t = some d→i≤t∧l[t - i]? = some d
 | [],i,t,d,h=>by simp [jI,qg] at h
 | x :: l,i,t,d,h=>by
  simp only [jI,qg] at h;split at h
  ·rename_i hit;subst hit;injection h with h;subst h;exact ⟨qv _,by simp⟩
  ·obtain ⟨h1,h2⟩:=qef l (i+1) t d h;refine ⟨by omega,?_⟩;rw [show t - i = (t - (i+1))+1 by omega,qb8];exact h2
def qcY (tmps:Array Value):ResultVar→Sem Value
 | .tmp t=>pure (tmps.getD t undef)
 | .cell a t=>do loadVar t (← asAddr (tmps.getD a undef))
theorem qeP {e:qn} {tmps:Array Value} (hs:Sim X ok w ι H) (he:EnvRep ok w ι H e tmps):∀ {l:List ResultVar} {ds:List D},kv X e H l = some ds →
  ∃ vs:List Value,(l.mapM (qcY tmps)).run X.P w = .ok vs w∧RepL ok w ι H ds vs
 | [],ds,h=>by
  simp only [kv,qs] at h;subst h;exact ⟨[],by simp,rfl,by simp⟩
 | .tmp t :: l,ds,h=>by
  simp only [kv] at h;split at h
  ·rename_i d ds' h1 h2;injection h with h;subst h;obtain ⟨vs,q1,q2⟩:=qeP hs he h2;refine ⟨tmps.getD t undef :: vs,?_,by simp [q2.1],fun j x hx=>?_⟩
   ·rw [List.mapM_cons];simp only [qcY,Sem.run_bind,Sem.run_pure,Result.andThen_ok,q1]
   ·cases j with
    | zero =>
     simp only [Qh,qs] at hx;subst hx;exact (he t d h1).2
    | succ j=>exact q2.2 j x (by simpa using hx)
  ·cases h
 | .cell a t :: l,ds,h=>by
  simp only [kv] at h;split at h
  ·rename_i d ds' h1 h2;injection h with h;subst h;obtain ⟨vs,q1,q2⟩:=qeP hs he h2;cases hl:qg e a with
   | none=>simp [hl] at h1
   | some p =>
    simp only [hl,VG] at h1;obtain ⟨_,hr⟩:=he a p hl;obtain ⟨v,r1,r2⟩:=qiD hs hr h1
    have hptr:∃ ad,tmps.getD a undef = .pointer (some ad):=by
     unfold Yz at h1;split at h1
     ·rename_i hm;exact hr.ptr hm
     ·rename_i hm;exact hr.ptr hm
     ·cases h1
    obtain ⟨ad,had⟩:=hptr;rw [had] at r1;simp only [Instr.loadAt,Instr.sureAddr,Sem.run_bind,Sem.run_pure,Result.andThen_ok] at r1;refine ⟨v :: vs,?_,by simp [q2.1],fun j x hx=>?_⟩
    ·rw [List.mapM_cons];simp only [qcY,had,asAddr,Sem.run_bind,Sem.run_pure,Result.andThen_ok,r1,q1]
    ·cases j with
     | zero =>
      simp only [Qh,qs] at hx;subst hx;exact r2
     | succ j=>exact q2.2 j x (by simpa using hx)
  ·cases h
theorem qnU {ds:List D} {vs:List Value} (h:RepL ok w ι H ds vs):Rep ok w ι H (Z2 ds) (if hh:vs.toArray.size = 1 then vs.toArray[0] else .tuple vs.toArray):=by
 unfold Z2;split
 ·rename_i d;obtain ⟨v,us,rfl,r1,h2⟩:=Zz h;obtain rfl:=qau h2;simpa using r1
 ·rename_i qH
  have hl:vs.toArray.size≠1:=by
   intro e;have:ds.length = 1:=by rw [← h.1];simpa using e
   match ds,this with
   | [d],_=>exact qH d rfl
  rw [dif_neg hl]
  exact .tup (by simpa using h.1) fun j d hj=>by
   have:=h.2 j d hj;simpa [zw,jd] using this
theorem qni {fn:Func} {e:qn} {tmps:Array Value} {ds:List D} (hs:Sim X ok w ι H) (he:EnvRep ok w ι H e tmps) (h:kv X e H fn.results.toList = some ds) :
  ∃ v,(results fn tmps).run X.P w = .ok v w∧Rep ok w ι H (Z2 ds) v:=by
 obtain ⟨vs,q1,q2⟩:=qeP hs he h;refine ⟨_,?_,qnU q2⟩
 have hfun:results fn tmps = (do let vs ← fn.results.mapM (qcY tmps);pure (if h:vs.size = 1 then vs[0] else .tuple vs)):=by
  unfold results;congr 1
 rw [hfun,Sem.run_bind,Array.mapM_eq_mapM_toList,Sem.run_map,q1];rfl
theorem qeK {P:Program} {c:Code} {Q Q':Exit→Act→World→Prop} (hq:∀ x a w,Q x a w→Q' x a w):∀ (n:Nat) (a:Act) (w:World),Code.rounds P c Q n a w→Code.rounds P c Q' n a w
 | 0,_,_,h=>h
 | n+1,a,w,h=>by
  rw [rounds_succ] at h ⊢;refine wp_mono h fun x a w hx=>?_;cases x <;> first | exact hq _ _ _ hx | exact qeK hq n a w hx
theorem qha (hG:Good X):∀ n,Zv X (jx X n)∧qww X n:=by
 intro n
 induction n using Nat.strongRecOn with
 | _ n ih =>
  cases n with
  | zero =>
   refine ⟨fun f args H r H' ok w ι vs h=>by simp [jx] at h,fun f nt n0 c e e' H H' ex ok w ι a h=>by simp [qG] at h⟩
  | succ n =>
   have ihF:=(ih n (by omega)).1;have ihC:=(ih n (by omega)).2;constructor
   ·-- a function
    intro f args H r H' ok w ι vs h hs hv;simp only [jx] at h;split at h
    ·rename_i r0 Q7;injection h with h;subst h;exact (hG.con f args H r H' Q7 ok w ι vs hs hv).mono fun v w' hp=>hp.g _
    split at h
    ·cases h
    ·rename_i fn hf;split at h
     ·rename_i hb;obtain ⟨h1,rfl⟩:=kM h;obtain ⟨v,q1,q2,q3⟩:=hG.ext f fn args r hf hb h1 ok w ι H vs hs hv;exact Goes.value q1 ⟨ι,ok,hs,q2,.refl _ (qv _),fun _ i ds hi hd=>by have:=qt hd;omega⟩
     ·rename_i c hb;cases hbad:X.bad f with
      | true=>simp [hbad] at h
      | false =>
      simp only [hbad,kB,if_false] at h;have hokc:=hG.okc f fn c hf hb hbad;have JC:(callFunc f vs.toArray).run X.P w = .ok (.enter f vs.toArray) w:=Go.Proofs.enters_of hf (hG.ng f fn hf) hb _ _
      have key:∀ ex e H1 ds,(ex = .normal∨ex = .ret)→qG X n f fn.ntmps H.length c (jI 0 args) H = some (ex,e,H1)→kv X e H1 fn.results.toList = some ds→Xs (X.gr f && X.byRef f) (X.fzr f) H.length H1 (Z2 ds) = some (r,H') →
        Goes X.P (callFunc f vs.toArray) w (qep X (X.gr f && X.byRef f) ok w ι H r H'):=by
       intro ex e H1 ds hex hc hr hp;unfold Goes;rw [JC];simp only;refine calls_of_wp hf hb (wp_mono (ihC f fn.ntmps H.length c (jI 0 args) e H H1 ex ok w ι ⟨vs.toArray ++ Array.replicate (fn.ntmps - vs.toArray.size) undef,[]⟩ hc hokc (qv _) hs ?_ ?_) ?_)
       ·intro t d ht;obtain ⟨_,h2⟩:=qef args 0 t d ht;rw [Nat.sub_zero] at h2;have qi:t < vs.length:=(by rw [hv.1];exact (List.getElem?_eq_some_iff.1 h2).1);refine ⟨by simp;omega,?_⟩;have:=hv.2 t d h2;rw [zw,qcE (by simpa using qi)];simpa [jd] using this
       ·simp;omega
       ·rintro x a' w' ⟨rfl,k1,k2,ι1,ok1,k3,k4,k5⟩;obtain ⟨v,q1,q2⟩:=qni (fn:=fn) k3 k4 hr
        have hpost:qep X (X.gr f && X.byRef f) ok w ι H r H' v w':=by
         cases hgr:(X.gr f && X.byRef f) with
         | true =>
          rw [hgr] at hp;cases hz:X.fzr f with
          | false =>
           rw [hz] at hp;simp only [Xs,qay,qs,qK] at hp;obtain ⟨rfl,rfl⟩:=hp;exact ⟨ι1,ok1,k3,q2,k5,fun h=>by cases h⟩
          | true =>
           rw [hz] at hp;simp only [Xs,qay] at hp;split at hp
           ·rename_i r1 l hst;have h1:=qaM k3 (okF:=V1 ok1 ι1 H1 l) (fun b hb=>.inl hb) _ _ _ _ _ q2 hst (fun i hi ds b s hd hb=>.inr ⟨i,ds,s,hi,hd,hb⟩);simp only [qs,qK] at hp;obtain ⟨rfl,rfl⟩:=hp;exact ⟨ι1,_,qc0 k3 l,h1.lift (ι:=ι1) (H:=jq H1 l),k5.trans ((qaC l).mono k5.nle.2),fun h=>by cases h⟩
           ·cases hp
         | false =>
          rw [hgr] at hp;obtain ⟨ok2,ι2,p1,p2,p3,p4⟩:=qhQ k5.nle.2 k3 q2 hp;exact ⟨ι2,ok2,p1,p2,k5.trans p3,fun _=>p4⟩
        rcases hex with rfl | rfl
        ·exact ⟨k2,v,q1,v,rfl,hpost⟩
        ·exact ⟨k2,v,q1,v,rfl,hpost⟩
      split at h
      ·rename_i e H1 hc;split at h
       ·rename_i ds hr;exact key _ e H1 ds (.inl rfl) hc hr h
       ·cases h
      ·rename_i e H1 hc;split at h
       ·rename_i ds hr;exact key _ e H1 ds (.inr rfl) hc hr h
       ·cases h
      ·cases h
   ·-- qE
    intro f nt n0 c e e' H H' ex ok w ι a h hoc hn hs he vZ
    have again:∀ (ex1:Ex) (e1:qn) (H1:qd) (Q:Exit→Act→World→Prop) (c1:Code),qG X n f nt n0 c1 e H = some (ex1,e1,H1)→kY X f c1 = true→(∀ a' w',Out X n0 ok w ι H a e1 H1 a' w'→Q (qfN ex1) a' w')→c1.wp X.P Q a w:=by
     intro ex1 e1 H1 Q c1 h1 hoc1 hQ;refine wp_mono (ihC f nt n0 c1 e e1 H H1 ex1 ok w ι a h1 hoc1 hn hs he vZ) ?_;rintro x a' w' ⟨rfl,jp⟩;exact hQ a' w' jp
    have here:Out X n0 ok w ι H a e H a w:=⟨rfl,rfl,ι,ok,hs,he,.refl _ hn⟩;cases c with
    | skip =>
     simp only [qG,qs,qK] at h;obtain ⟨rfl,rfl,rfl⟩:=h;exact wp_skip ⟨rfl,here⟩
    | label l =>
     simp only [qG,qs,qK] at h;obtain ⟨rfl,rfl,rfl⟩:=h;exact wp_label ⟨rfl,here⟩
    | exit id =>
     simp only [qG,qs,qK] at h;obtain ⟨rfl,rfl,rfl⟩:=h;exact wp_exit ⟨rfl,here⟩
    | ret =>
     simp only [qG,qs,qK] at h;obtain ⟨rfl,rfl,rfl⟩:=h;exact wp_ret ⟨rfl,here⟩
    | region id ops draw =>
     simp only [qG] at h;split at h
     ·cases h
     ·rename_i e1 H1 zX;obtain ⟨ok1,ι1,s1,s2,s3⟩:=qkc zX hn hs he;cases ho:QC X (jx X n) f nt id draw ops e1 H1 with
      | none=>simp [ho] at h
      | some r =>
       obtain ⟨e2,H2⟩:=r;simp only [ho,zT,qs,qK] at h;obtain ⟨rfl,rfl,rfl⟩:=h;cases draw with
       | false =>
        simp only [QC] at ho;refine wp_region_list (qfP ihF ho s1 s2 vZ fun a' w' jp=>⟨rfl,?_⟩);obtain ⟨t1,t2,ι2,ok2,u1,u2,u3⟩:=jp;exact ⟨t1,t2,ι2,ok2,u1,u2,s3.trans (u3.mono s3.nle.2)⟩
       | true =>
        simp only [kY,Bool.not_true,Bool.false_or] at hoc;simp only [QC] at ho;obtain ⟨d1,d2⟩:=qlW (w':={ w with drawn:=w.drawn+1 }) s1 ⟨rfl,rfl,rfl⟩ rfl;cases KO:X.lp f id with
        | none =>
         rw [KO] at ho hoc;simp only [JX] at ho;refine wp_region_any hG.mixed (quA ihF (qkk hoc) ho d1 (s2.evol' s1 d2) vZ fun a' w' jp=>⟨rfl,?_⟩);obtain ⟨t1,t2,ι2,ok2,u1,u2,u3⟩:=jp;exact ⟨t1,t2,ι2,ok2,u1,u2,s3.trans ((d2.mono s3.nle.2).trans (u3.mono s3.nle.2))⟩
        | some q =>
         obtain ⟨L,ow⟩:=q;rw [KO] at ho hoc;refine wp_region_any hG.mixed (qu9 ihF (qkk hoc) ho d1 (s2.evol' s1 d2) vZ fun a' w' jp=>⟨rfl,?_⟩);obtain ⟨t1,t2,ι2,ok2,u1,u2,u3⟩:=jp;exact ⟨t1,t2,ι2,ok2,u1,u2,s3.trans ((d2.mono s3.nle.2).trans (u3.mono s3.nle.2))⟩
    | seq x y =>
     simp only [kY,zL] at hoc;simp only [qG] at h;refine wp_seq ?_;split at h
     ·rename_i e1 H1 hx;refine again _ e1 H1 _ x hx hoc.1 fun a1 w1 jp=>?_;obtain ⟨t1,t2,ι1,ok1,u1,u2,u3⟩:=jp;refine wp_mono (ihC f nt n0 y e1 e' H1 H' ex ok1 w1 ι1 a1 h hoc.2 u3.nle.2 u1 u2 (by omega)) ?_;rintro z a2 w2 ⟨rfl,hout2⟩;exact ⟨rfl,Out.trans t1 t2 u3 hout2⟩
     ·rename_i qH;refine again ex e' H' _ x h hoc.1 fun a1 w1 jp=>?_;cases ex with
      | normal=>exact absurd h (qH _ _)
      | exit id=>exact ⟨rfl,jp⟩
      | ret=>exact ⟨rfl,jp⟩
    | cond c x y =>
     simp only [kY,zL] at hoc;simp only [qG] at h;split at h
     ·rename_i t hc;refine wp_cond (qij hs he hc) (again ex e' H' _ _ h (by cases t;exact hoc.2;exact hoc.1) fun a1 w1 jp=>⟨rfl,jp⟩)
     ·cases h
    | block id c =>
     simp only [kY] at hoc;simp only [qG] at h;refine wp_block ?_;split at h
     ·rename_i i e1 H1 hc;refine again _ e1 H1 _ c hc hoc fun a1 w1 jp=>?_;simp only [qfN,Exit.inBlock];split at h
      ·rename_i hi;simp only [qs,qK] at h;obtain ⟨rfl,rfl,rfl⟩:=h;rw [if_pos hi];exact ⟨rfl,jp⟩
      ·rename_i hi;simp only [qs,qK] at h;obtain ⟨rfl,rfl,rfl⟩:=h;rw [if_neg hi];exact ⟨rfl,jp⟩
     ·rename_i qH;refine again ex e' H' _ c h hoc fun a1 w1 jp=>?_;cases ex with
      | normal=>exact ⟨rfl,jp⟩
      | exit i=>exact absurd h (qH _ _ _)
      | ret=>exact ⟨rfl,jp⟩
    | scope c =>
     simp only [kY] at hoc;simp only [qG] at h;refine wp_scope_straight (again ex e' H' _ c h hoc fun a1 w1 jp=>?_);cases ex <;> exact ⟨rfl,jp⟩
    | loop c =>
     simp only [kY] at hoc
     have key:∀ m,m≤n→∀ (e e':qn) (H H':qd) (ex:Ex) (ok:Nat→Prop) (w:World) (ι:qz) (a:Act),qG X (m+1) f nt n0 (.loop c) e H = some (ex,e',H')→n0≤H.length→Sim X ok w ι H→EnvRep ok w ι H e a.tmps→nt≤a.tmps.size →
       Code.rounds X.P c (CQ X n0 ok w ι H a ex e' H') (m+1) a w:=by
      intro m
      induction m with
      | zero =>
       intro _ e e' H H' ex ok w ι a h;simp only [qG] at h;simp at h
      | succ m ihm =>
       intro hm e e' H H' ex ok w ι a h hn hs he vZ;rw [rounds_succ];rw [qG] at h;split at h
       ·rename_i e1 H1 hc;refine wp_mono ((ih (m+1) (by omega)).2 f nt n0 c e e1 H H1 .normal ok w ι a hc hoc hn hs he vZ) ?_;rintro x a1 w1 ⟨rfl,t1,t2,ι1,ok1,u1,u2,u3⟩;have hrec:=ihm (by omega) e1 e' H1 H' ex ok1 w1 ι1 a1 h u3.nle.2 u1 u2 (by omega);refine qeK ?_ _ _ _ hrec;rintro x a2 w2 ⟨hx,jp⟩;exact ⟨hx,Out.trans t1 t2 u3 jp⟩
       ·rename_i qH;refine wp_mono ((ih (m+1) (by omega)).2 f nt n0 c e e' H H' ex ok w ι a h hoc hn hs he vZ) ?_;rintro x a1 w1 ⟨rfl,jp⟩;cases ex with
        | normal=>exact absurd h (qH _ _)
        | exit id=>exact ⟨rfl,jp⟩
        | ret=>exact ⟨rfl,jp⟩
     exact wp_loop_rounds _ (key n (qv _) e e' H H' ex ok w ι a h hn hs he vZ)
    | goto l=>simp [qG] at h
    | rangeFunc _ _ _ _=>simp [qG] at h
    | refuse _=>simp [qG] at h
end
end Go.Ev
namespace Go.Ev
section
variable {X:Cx}
def ZU (F G:qO):Prop:= ∀ f args H r,F f args H = some r→G f args H = some r
theorem qv7 {F G:qO} (h:ZU F G) {f:Nat} {args:List D} {H:qd} {r:D × qd} (hc:JM F f args H = some r):JM G f args H = some r:=by
 cases args with
 | nil=>simp [JM] at hc
 | cons a rest =>
  cases a with
  | optr i st off =>
   simp only [JM] at hc ⊢;cases hd:qe H i with
   | none=>simp [hd] at hc
   | some ds =>
    simp only [hd] at hc ⊢;split at hc
    ·rename_i hf;rw [if_pos hf];cases hF:F f (.optr 0 st off :: rest) [some ds] with
     | none=>simp [hF] at hc
     | some q=>rw [h _ _ _ _ hF];rw [hF] at hc;exact hc
    ·cases hc
  | _=>simp [JM] at hc
theorem qv4 {F G:qO} (h:ZU F G) {f:Nat} {args:List D} {H:qd} {r:D × qd} (hc:XV F f args H = some r):XV G f args H = some r:=by
 unfold XV at hc ⊢;split at hc
 ·cases hc
 ·unfold qc3 at hc ⊢;split at hc
  ·split at hc
   ·rename_i hf;rw [if_pos hf];split at hc
    ·rename_i hF;rw [h _ _ _ _ hF];exact hc
    ·cases hc
   ·cases hc
  ·cases hc
theorem qvA {F G:qO} (h:ZU F G) {f:Nat} {args:List D} {H:qd} {r:D × qd} (hc:Xk X F f args H = some r):Xk X G f args H = some r:=by
 unfold Xk at hc ⊢;split
 ·rename_i hl;rw [if_pos hl] at hc;exact qv4 h hc
 ·rename_i hl;rw [if_neg hl] at hc;exact qv7 h hc
theorem qvC {F G:qO} (h:ZU F G) {f:Nat} {args:List D} {H:qd} {r:D × qd} (hc:Kp F f args H = some r):Kp G f args H = some r:=by
 unfold Kp qby at hc ⊢;split at hc
 ·split at hc
  ·rename_i hf;rw [if_pos hf];split at hc
   ·rename_i hF;rw [h _ _ _ _ hF];exact hc
   ·cases hc
  ·cases hc
 ·cases hc
theorem qvz {F G:qO} (h:ZU F G) {f:Nat} {args:List D} {H:qd} {r:D × qd} (hc:Vu X F f args H = some r):Vu X G f args H = some r:=by
 unfold Vu at hc ⊢;split
 ·rename_i hb;rw [if_pos hb] at hc;split
  ·rename_i hl;rw [if_pos hl] at hc;split
   ·rename_i hg;rw [if_pos hg] at hc;exact qvC h hc
   ·rename_i hg;rw [if_neg hg] at hc;exact qvA h hc
  ·rename_i hl;rw [if_neg hl] at hc;exact h _ _ _ _ hc
 ·rename_i hb;rw [if_neg hb] at hc;split
  ·rename_i ha;rw [if_pos ha] at hc;cases hF:F f args [] with
   | none=>simp [hF] at hc
   | some q=>rw [h _ _ _ _ hF];rw [hF] at hc;exact hc
  ·rename_i ha;rw [if_neg ha] at hc;cases hz:XR H args with
   | none=>simp [hz] at hc
   | some args' =>
    simp only [hz] at hc ⊢;cases hF:F f args' [] with
    | none=>simp [hF] at hc
    | some q=>rw [h _ _ _ _ hF];rw [hF] at hc;exact hc
theorem qgp {F G:qO} (h:ZU F G) {f:Nat} {args:List D} {H:qd} {r:D × qd} (hc:Qg X F f args H = some r):Qg X G f args H = some r:=by
 by_cases hp:(X.pureF f && !X.byRef f) = true
 ·obtain ⟨h4,h3,h1⟩:=qc2 hp hc;unfold Qg;rw [if_pos hp];rcases h1 with ⟨h1,h2⟩ | ⟨h1,Vi,Zq,hv,args',kF,h2⟩
  ·rw [if_pos h1,h _ _ _ _ h2];simp only [h3,if_true,← h4]
  ·rw [if_neg h1];subst h4;simp only [Vi,Zq,Bool.and_self,if_true,kF,h _ _ _ _ h2,h3,hv]
 ·unfold Qg at hc ⊢;rw [if_neg hp] at hc ⊢;exact qvz h hc
theorem qvI {F G:qO} (h:ZU F G) {f:Nat} {args:List D} {H:qd} {r:D × qd} (hc:Vv X F f args H = some r):Vv X G f args H = some r:=by
 unfold Vv at hc ⊢;split at hc
 ·exact qgp h hc
 ·split at hc
  ·exact qgp h hc
  ·cases hc
theorem qvF {F G:qO} (h:ZU F G) {f:Nat} {args:List D} {H:qd} {r:D × qd} (hc:ZP X F f args H = some r):ZP X G f args H = some r:=by
 unfold ZP at hc ⊢;split at hc
 ·exact qvI h hc
 ·split at hc
  ·exact qgp h hc
  ·cases hc
theorem qjQ {F G:qO} (h:ZU F G) {o:Op} {e:qn} {H:qd} {r:D × qd} (ho:qT X F o e H = some r):qT X G o e H = some r:=by
 cases o with
 | call c =>
  simp only [qT] at ho ⊢;cases hc:c.callee with
  | builtin b=>cases ha:j5 X e c.args.toList <;> simp only [hc,ha] at ho ⊢ <;> first | exact ho | cases ho
  | invoke r m=>cases ha:j5 X e c.args.toList <;> simp only [hc,ha] at ho ⊢ <;> cases ho
  | value g =>
   simp only [hc] at ho ⊢;cases ha:j5 X e c.args.toList with
   | none=>simp [ha] at ho
   | some args =>
    simp only [ha] at ho ⊢;split at ho
    ·exact qvF h ho
    ·cases ho
 | makeFunc g _ _=>cases g <;> exact ho
 | slice _ _ _ _ m=>cases m <;> exact ho
 | _=>exact ho
theorem qdL {F G:qO} (h:ZU F G) {drw:Bool} {o:Op} {e:qn} {H:qd} {r:D × qd} (ho:qD X F drw o e H = some r):qD X G drw o e H = some r:=by
 unfold qD at ho ⊢;split at ho
 ·exact ho
 ·exact ho
 ·split at ho
  ·cases ho
  ·rename_i hb;rw [if_neg hb];exact qjQ h ho
 ·exact qjQ h ho
theorem qcn {F G:qO} (h:ZU F G) {nt:Nat} {drw:Bool} {ops:Array Oper}:∀ {l:List Oper} {e:qn} {H:qd} {r:qn × qd},jw X F nt drw ops l e H = some r→jw X G nt drw ops l e H = some r
 | [],_,_,_,ho=>ho
 | o :: l,e,H,r,ho=>by
  simp only [jw] at ho ⊢;cases hd:jN nt o.dst <;> simp only [hd] at ho ⊢
  ·cases ho
  ·cases hg:js ops e o.guard with
   | none=>simp [hg] at ho
   | some b =>
    cases b <;> simp only [hg] at ho ⊢
    ·exact qcn h ho
    ·cases hx:qD X F drw o.op e H with
     | none=>simp [hx] at ho
     | some q =>
      rw [qdL h hx];rw [hx] at ho;exact qcn h ho
theorem qco {F G:qO} (h:ZU F G) {nt:Nat} {ow:List Nat} {ops:Array Oper} {L:kz}:∀ {l:List Oper} {k:Nat} {ws:List (Nat × qd × qd)} {rs:List (Nat × List Nat)} {e:qn} {H:qd} {r:qn × qd},vP X F nt ow ops L k ws rs l e H = some r→vP X G nt ow ops L k ws rs l e H = some r
 | [],_,_,_,_,_,_,ho=>by simpa [vP] using ho
 | o :: l,k,ws,rs,e,H,r,ho=>by
  simp only [vP] at ho ⊢;cases hd:jN nt o.dst <;> simp only [hd] at ho ⊢
  ·cases ho
  ·cases hg:js ops e o.guard with
   | none=>simp [hg] at ho
   | some b =>
    cases b <;> simp only [hg] at ho ⊢
    ·exact qco h ho
    ·cases hx:qD X F (Qw ow o.dst) o.op e H with
     | none=>simp [hx] at ho
     | some q =>
      rw [qdL h hx];rw [hx] at ho;simp only at ho ⊢;split at ho
      ·rename_i hc;rw [if_pos hc];exact qco h ho
      ·cases ho
theorem que {F G:qO} (h:ZU F G) {f nt id:Nat} {draw:Bool} {ops:Array Oper} {e:qn} {H:qd} {r:qn × qd} (ho:QC X F f nt id draw ops e H = some r):QC X G f nt id draw ops e H = some r:=by
 unfold QC at ho ⊢;split at ho
 ·exact qco h ho
 ·exact qcn h ho
theorem qfO:∀ n,ZU (jx X n) (jx X (n+1))∧∀ f nt n0 c e H r,qG X n f nt n0 c e H = some r→qG X (n+1) f nt n0 c e H = some r
 | 0=>⟨fun f args H r h=>by simp [jx] at h,fun f nt n0 c e H r h=>by simp [qG] at h⟩
 | n+1=>by
  obtain ⟨ihF,ihC⟩:=qfO n;constructor
  ·intro f args H r h;simp only [jx] at h ⊢;cases Q7:X.con f args H with
   | some q=>simp only [Q7] at h ⊢;exact h
   | none =>
   simp only [Q7] at h ⊢;cases hf:X.P.funcs[f]? with
   | none=>simp [hf] at h
   | some fn =>
    simp only [hf] at h ⊢;cases hb:fn.body with
    | none=>simp only [hb] at h ⊢;exact h
    | some c =>
     simp only [hb] at h ⊢;cases hbad:X.bad f <;> simp only [hbad,kB,if_false,if_true] at h ⊢
     ·cases hc:qG X n f fn.ntmps H.length c (jI 0 args) H with
      | none=>simp [hc] at h
      | some q =>
       rw [ihC _ _ _ _ _ _ _ hc];rw [hc] at h;exact h
     ·cases h
  ·intro f nt n0 c e H r h;cases c with
   | region id ops draw =>
    rw [qG] at h ⊢;cases zX:enter X f n0 id e H with
    | none=>simp [zX] at h
    | some q =>
     obtain ⟨e1,H1⟩:=q;simp only [zX] at h ⊢;cases ho:QC X (jx X n) f nt id draw ops e1 H1 with
     | none=>simp [ho] at h
     | some q =>
      rw [que ihF ho];rw [ho] at h;exact h
   | seq a b =>
    rw [qG] at h ⊢;cases ha:qG X n f nt n0 a e H with
    | none=>simp [ha] at h
    | some q =>
     obtain ⟨ex,e1,H1⟩:=q;rw [ihC _ _ _ _ _ _ _ ha];rw [ha] at h;cases ex with
     | normal=>exact ihC _ _ _ _ _ _ _ h
     | exit i=>exact h
     | ret=>exact h
   | cond x a b =>
    rw [qG] at h ⊢;split at h
    ·exact ihC _ _ _ _ _ _ _ h
    ·cases h
   | block id c =>
    rw [qG] at h ⊢;cases ha:qG X n f nt n0 c e H with
    | none=>simp [ha] at h
    | some q =>
     rw [ihC _ _ _ _ _ _ _ ha];rw [ha] at h;exact h
   | scope c =>
    rw [qG] at h ⊢;exact ihC _ _ _ _ _ _ _ h
   | loop c =>
    rw [qG] at h ⊢;cases ha:qG X n f nt n0 c e H with
    | none=>simp [ha] at h
    | some q =>
     obtain ⟨ex,e1,H1⟩:=q;rw [ihC _ _ _ _ _ _ _ ha];rw [ha] at h;cases ex with
     | normal=>exact ihC _ _ _ _ _ _ _ h
     | exit i=>exact h
     | ret=>exact h
   | skip=>exact h
   | label l=>exact h
   | exit id=>exact h
   | ret=>exact h
   | goto l=>simp [qG] at h
   | rangeFunc a b c d=>simp [qG] at h
   | refuse w=>simp [qG] at h
theorem qcp {n m:Nat} (vF:n≤m):ZU (jx X n) (jx X m):=by
 induction m with
 | zero=>have:n = 0:=by omega
         subst this;exact fun _ _ _ _ h=>h
 | succ m ih =>
  by_cases h:n = m+1
  ·subst h;exact fun _ _ _ _ h=>h
  ·exact fun f args H r hr=>(qfO m).1 _ _ _ _ (ih (by omega) f args H r hr)
theorem qcq {n m:Nat} (vF:n≤m) {f nt n0:Nat} {c:Code} {e:qn} {H:qd} {r:Ex × qn × qd} (h:qG X n f nt n0 c e H = some r):qG X m f nt n0 c e H = some r:=by
 induction m with
 | zero=>have:n = 0:=by omega
         subst this;exact h
 | succ m ih =>
  by_cases hn:n = m+1
  ·subst hn;exact h
  ·exact (qfO m).2 _ _ _ _ _ _ _ (ih (by omega))
open Classical in
noncomputable def lim {α:Type} (g:Nat→Option α):Option α:=if h:∃ r,∃ n,g n = some r then some h.choose else none
theorem qfw {α:Type} {g:Nat→Option α} (hm:∀ n m r,n≤m→g n = some r→g m = some r) {r:α}:lim g = some r↔∃ n,g n = some r:=by
 unfold lim;constructor
 ·intro h;split at h
  ·rename_i hex;injection h with h;subst h;exact hex.choose_spec
  ·cases h
 ·rintro ⟨n,hn⟩;have hex:∃ r,∃ n,g n = some r:=⟨r,n,hn⟩;rw [dif_pos hex];obtain ⟨k,hk⟩:=hex.choose_spec;have h1:=hm n (max n k) _ (Nat.le_max_left _ _) hn;have h2:=hm k (max n k) _ (Nat.le_max_right _ _) hk;rw [h1] at h2;injection h2 with h2;rw [← h2]
noncomputable def call (X:Cx):qO:=fun f args H=>lim fun n=>jx X n f args H
noncomputable def qE (X:Cx) (f nt n0:Nat) (c:Code) (e:qn) (H:qd):Option (Ex × qn × qd):=lim fun n=>qG X n f nt n0 c e H
theorem call_some {f:Nat} {args:List D} {H:qd} {r:D × qd}:call X f args H = some r↔∃ n,jx X n f args H = some r:=qfw fun _ _ _ vF h=>qcp vF _ _ _ _ h
theorem code_some {f nt n0:Nat} {c:Code} {e:qn} {H:qd} {r:Ex × qn × qd}:qE X f nt n0 c e H = some r↔∃ n,qG X n f nt n0 c e H = some r:=qfw fun _ _ _ vF h=>qcq vF h
theorem qjV (n:Nat):ZU (jx X n) (call X):=fun _ _ _ _ h=>call_some.2 ⟨n,h⟩
theorem qv8 {f:Nat} {args:List D} {H:qd} {r:D × qd} (hc:JM (call X) f args H = some r):∃ n,JM (jx X n) f args H = some r:=by
 cases args with
 | nil=>simp [JM] at hc
 | cons a rest =>
  cases a with
  | optr i st off =>
   simp only [JM] at hc ⊢;cases hd:qe H i with
   | none=>simp [hd] at hc
   | some ds =>
    simp only [hd] at hc ⊢;split at hc
    ·rename_i hf;cases hF:call X f (.optr 0 st off :: rest) [some ds] with
     | none=>simp [hF] at hc
     | some q =>
      obtain ⟨n,hn⟩:=call_some.1 hF;refine ⟨n,?_⟩;rw [if_pos hf,hn];rw [hF] at hc;exact hc
    ·cases hc
  | _=>simp [JM] at hc
theorem qv5 {f:Nat} {args:List D} {H:qd} {r:D × qd} (hc:XV (call X) f args H = some r):∃ n,XV (jx X n) f args H = some r:=by
 unfold XV at hc ⊢;split at hc
 ·cases hc
 ·unfold qc3 at hc ⊢;split at hc
  ·split at hc
   ·rename_i hf;split at hc
    ·rename_i hF;obtain ⟨n,hn⟩:=call_some.1 hF;exact ⟨n,by rw [if_pos hf,hn];exact hc⟩
    ·cases hc
   ·cases hc
  ·cases hc
theorem qvB {f:Nat} {args:List D} {H:qd} {r:D × qd} (hc:Xk X (call X) f args H = some r):∃ n,Xk X (jx X n) f args H = some r:=by
 unfold Xk at hc ⊢;split at hc
 ·rename_i hl;obtain ⟨n,hn⟩:=qv5 hc;exact ⟨n,by rw [if_pos hl];exact hn⟩
 ·rename_i hl;obtain ⟨n,hn⟩:=qv8 hc;exact ⟨n,by rw [if_neg hl];exact hn⟩
theorem qvD {f:Nat} {args:List D} {H:qd} {r:D × qd} (hc:Kp (call X) f args H = some r):∃ n,Kp (jx X n) f args H = some r:=by
 unfold Kp qby at hc ⊢;split at hc
 ·split at hc
  ·rename_i hf;split at hc
   ·rename_i hF;obtain ⟨n,hn⟩:=call_some.1 hF;exact ⟨n,by rw [if_pos hf,hn];exact hc⟩
   ·cases hc
  ·cases hc
 ·cases hc
theorem qv0 {f:Nat} {args:List D} {H:qd} {r:D × qd} (hc:Vu X (call X) f args H = some r):∃ n,Vu X (jx X n) f args H = some r:=by
 unfold Vu at hc ⊢;split at hc
 ·rename_i hb;split at hc
  ·rename_i hl;split at hc
   ·rename_i hg;obtain ⟨n,hn⟩:=qvD hc;exact ⟨n,by rw [if_pos hb,if_pos hl,if_pos hg];exact hn⟩
   ·rename_i hg;obtain ⟨n,hn⟩:=qvB hc;exact ⟨n,by rw [if_pos hb,if_pos hl,if_neg hg];exact hn⟩
  ·rename_i hl;obtain ⟨n,hn⟩:=call_some.1 hc;exact ⟨n,by rw [if_pos hb,if_neg hl];exact hn⟩
 ·rename_i hb;split at hc
  ·rename_i ha;cases hF:call X f args [] with
   | none=>simp [hF] at hc
   | some q =>
    obtain ⟨n,hn⟩:=call_some.1 hF;exact ⟨n,by rw [if_neg hb,if_pos ha,hn];rw [hF] at hc;exact hc⟩
  ·rename_i ha;cases hz:XR H args with
   | none=>simp [hz] at hc
   | some args' =>
    simp only [hz] at hc;cases hF:call X f args' [] with
    | none=>simp [hF] at hc
    | some q =>
     obtain ⟨n,hn⟩:=call_some.1 hF;exact ⟨n,by rw [if_neg hb,if_neg ha];simp only [hn];rw [hF] at hc;exact hc⟩
theorem qgq {f:Nat} {args:List D} {H:qd} {r:D × qd} (hc:Qg X (call X) f args H = some r):∃ n,Qg X (jx X n) f args H = some r:=by
 by_cases hp:(X.pureF f && !X.byRef f) = true
 ·obtain ⟨h4,h3,h1⟩:=qc2 hp hc;rcases h1 with ⟨h1,h2⟩ | ⟨h1,Vi,Zq,hv,args',kF,h2⟩
  ·obtain ⟨n,hn⟩:=call_some.1 h2;refine ⟨n,?_⟩;unfold Qg;rw [if_pos hp,if_pos h1,hn];simp only [h3,if_true,← h4]
  ·obtain ⟨n,hn⟩:=call_some.1 h2;refine ⟨n,?_⟩;unfold Qg;rw [if_pos hp,if_neg h1];subst h4;simp only [Vi,Zq,Bool.and_self,if_true,kF,hn,h3,hv]
 ·unfold Qg at hc;rw [if_neg hp] at hc;obtain ⟨n,hn⟩:=qv0 hc;exact ⟨n,by unfold Qg;rw [if_neg hp];exact hn⟩
theorem qvJ {f:Nat} {args:List D} {H:qd} {r:D × qd} (hc:Vv X (call X) f args H = some r):∃ n,Vv X (jx X n) f args H = some r:=by
 unfold Vv at hc;split at hc
 ·rename_i hp;obtain ⟨n,hn⟩:=qgq hc;exact ⟨n,by unfold Vv;rw [hp];exact hn⟩
 ·rename_i hp;split at hc
  ·rename_i H1 hst;obtain ⟨n,hn⟩:=qgq hc;exact ⟨n,by unfold Vv;rw [hp];simp only [hst];exact hn⟩
  ·cases hc
theorem qvG {f:Nat} {args:List D} {H:qd} {r:D × qd} (hc:ZP X (call X) f args H = some r):∃ n,ZP X (jx X n) f args H = some r:=by
 unfold ZP at hc;split at hc
 ·rename_i hp;obtain ⟨n,hn⟩:=qvJ hc;exact ⟨n,by unfold ZP;rw [hp];exact hn⟩
 ·rename_i hp;split at hc
  ·rename_i args' l hst;obtain ⟨n,hn⟩:=qgq hc;exact ⟨n,by unfold ZP;rw [hp];simp only [hst];exact hn⟩
  ·cases hc
theorem qjR {o:Op} {e:qn} {H:qd} {r:D × qd} (ho:qT X (call X) o e H = some r):∃ n,qT X (jx X n) o e H = some r:=by
 cases o with
 | call c =>
  simp only [qT] at ho ⊢;cases hc:c.callee with
  | builtin b=>cases ha:j5 X e c.args.toList <;> simp only [hc,ha] at ho ⊢ <;> first | exact ⟨0,ho⟩ | cases ho
  | invoke r m=>cases ha:j5 X e c.args.toList <;> simp only [hc,ha] at ho <;> cases ho
  | value g =>
   simp only [hc] at ho ⊢;cases ha:j5 X e c.args.toList with
   | none=>simp [ha] at ho
   | some args =>
    simp only [ha] at ho ⊢;split at ho
    ·rename_i f caps hg;obtain ⟨n,hn⟩:=qvG ho;exact ⟨n,hn⟩
    ·cases ho
 | makeFunc g _ _=>cases g <;> exact ⟨0,ho⟩
 | slice _ _ _ _ m=>cases m <;> exact ⟨0,ho⟩
 | _=>exact ⟨0,ho⟩
theorem qjU {drw:Bool} {o:Op} {e:qn} {H:qd} {r:D × qd} (ho:qD X (call X) drw o e H = some r):∃ n,qD X (jx X n) drw o e H = some r:=by
 unfold qD at ho ⊢;split at ho
 ·exact ⟨0,ho⟩
 ·exact ⟨0,ho⟩
 ·split at ho
  ·cases ho
  ·rename_i hb;obtain ⟨n,hn⟩:=qjR ho;exact ⟨n,by simp only [hb];exact hn⟩
 ·exact qjR ho
theorem qfQ {nt:Nat} {drw:Bool} {ops:Array Oper}:∀ {l:List Oper} {e:qn} {H:qd} {r:qn × qd},jw X (call X) nt drw ops l e H = some r→∃ n,jw X (jx X n) nt drw ops l e H = some r
 | [],_,_,_,ho=>⟨0,ho⟩
 | o :: l,e,H,r,ho=>by
  simp only [jw] at ho;cases hd:jN nt o.dst <;> simp only [hd] at ho
  ·cases ho
  ·cases hg:js ops e o.guard with
   | none=>simp [hg] at ho
   | some b =>
    cases b <;> simp only [hg] at ho
    ·obtain ⟨n,hn⟩:=qfQ ho;exact ⟨n,by simp only [jw,hd,hg];exact hn⟩
    ·cases hx:qD X (call X) drw o.op e H with
     | none=>simp [hx] at ho
     | some q =>
      rw [hx] at ho;obtain ⟨n,hn⟩:=qjU hx;obtain ⟨m,hm⟩:=qfQ ho;refine ⟨max n m,?_⟩;simp only [jw,hd,hg];rw [qdL (qcp (Nat.le_max_left n m)) hn];exact qcn (qcp (Nat.le_max_right n m)) hm
theorem quk {nt:Nat} {drw:Bool} {ops:Array Oper} {l:List Oper} {e:qn} {H:qd} {r:qn × qd}:jw X (call X) nt drw ops l e H = some r↔∃ n,jw X (jx X n) nt drw ops l e H = some r :=
 ⟨qfQ,fun ⟨n,hn⟩=>qcn (qjV n) hn⟩
theorem qfS {nt:Nat} {ow:List Nat} {ops:Array Oper} {L:kz}:∀ {l:List Oper} {k:Nat} {ws:List (Nat × qd × qd)} {rs:List (Nat × List Nat)} {e:qn} {H:qd} {r:qn × qd},vP X (call X) nt ow ops L k ws rs l e H = some r→∃ n,vP X (jx X n) nt ow ops L k ws rs l e H = some r
 | [],_,_,_,_,_,_,ho=>⟨0,by simpa [vP] using ho⟩
 | o :: l,k,ws,rs,e,H,r,ho=>by
  simp only [vP] at ho;cases hd:jN nt o.dst <;> simp only [hd] at ho
  ·cases ho
  ·cases hg:js ops e o.guard with
   | none=>simp [hg] at ho
   | some b =>
    cases b <;> simp only [hg] at ho
    ·obtain ⟨n,hn⟩:=qfS ho;exact ⟨n,by simp only [vP,hd,hg];exact hn⟩
    ·cases hx:qD X (call X) (Qw ow o.dst) o.op e H with
     | none=>simp [hx] at ho
     | some q =>
      rw [hx] at ho;simp only at ho;split at ho
      ·rename_i hc;obtain ⟨n,hn⟩:=qjU hx;obtain ⟨m,hm⟩:=qfS ho;refine ⟨max n m,?_⟩;simp only [vP,hd,hg];rw [qdL (qcp (Nat.le_max_left n m)) hn];simp only;rw [if_pos hc];exact qco (qcp (Nat.le_max_right n m)) hm
      ·cases ho
theorem evR_lim {f nt id:Nat} {draw:Bool} {ops:Array Oper} {e:qn} {H:qd} {r:qn × qd}:QC X (call X) f nt id draw ops e H = some r↔∃ n,QC X (jx X n) f nt id draw ops e H = some r:=by
 unfold QC;split
 ·exact ⟨qfS,fun ⟨n,hn⟩=>qco (qjV n) hn⟩
 ·exact quk
theorem Yu {α:Type} {x y:Option α} (h:∀ r,x = some r↔y = some r):x = y:=by
 cases x with
 | none =>
  cases y with
  | none=>rfl
  | some b=>exact absurd ((h b).2 rfl) (by simp)
 | some a=>exact ((h a).1 rfl).symm
section eqs
variable {f nt n0:Nat} {e:qn} {H:qd}
theorem qku:qE X f nt n0 .skip e H = some (.normal,e,H):=code_some.2 ⟨1,rfl⟩
theorem qkw {l:Nat}:qE X f nt n0 (.label l) e H = some (.normal,e,H):=code_some.2 ⟨1,rfl⟩
theorem qkx {i:Nat}:qE X f nt n0 (.exit i) e H = some (.exit i,e,H):=code_some.2 ⟨1,rfl⟩
theorem qkv:qE X f nt n0 .ret e H = some (.ret,e,H):=code_some.2 ⟨1,rfl⟩
theorem qdU {id:Nat} {ops:Array Oper} {draw:Bool}:qE X f nt n0 (.region id ops draw) e H = match enter X f n0 id e H with
  | none=>none
  | some (e,H)=>(QC X (call X) f nt id draw ops e H).map fun (e,H)=>(.normal,e,H):=by
 refine Yu fun r=>?_;rw [code_some];cases zX:enter X f n0 id e H with
 | none =>
  simp only [reduceCtorEq,iff_false,not_exists];intro n h;cases n <;> simp [qG,zX] at h
 | some q =>
  obtain ⟨e1,H1⟩:=q;constructor
  ·rintro ⟨n,hn⟩;cases n with
   | zero=>simp [qG] at hn
   | succ n =>
    simp only [qG,zX] at hn;cases ho:QC X (jx X n) f nt id draw ops e1 H1 with
    | none=>simp [ho] at hn
    | some q =>
     simp only [evR_lim.2 ⟨n,ho⟩];rw [ho] at hn;exact hn
  ·intro h;simp only at h;cases ho:QC X (call X) f nt id draw ops e1 H1 with
   | none=>simp [ho] at h
   | some q =>
    obtain ⟨n,hn⟩:=evR_lim.1 ho;refine ⟨n+1,?_⟩;simp only [qG,zX,hn];rw [ho] at h;exact h
theorem qgd {a b:Code}:qE X f nt n0 (.seq a b) e H = match qE X f nt n0 a e H with
  | some (.normal,e,H)=>qE X f nt n0 b e H
  | r=>r:=by
 refine Yu fun r=>?_;rw [code_some];constructor
 ·rintro ⟨n,hn⟩;cases n with
  | zero=>simp [qG] at hn
  | succ n =>
   simp only [qG] at hn;cases ha:qG X n f nt n0 a e H with
   | none=>simp [ha] at hn
   | some q =>
    obtain ⟨ex,e1,H1⟩:=q;rw [code_some.2 ⟨n,ha⟩];rw [ha] at hn;cases ex with
    | normal=>exact code_some.2 ⟨n,hn⟩
    | exit i=>exact hn
    | ret=>exact hn
 ·intro h;cases ha:qE X f nt n0 a e H with
  | none=>simp [ha] at h
  | some q =>
   obtain ⟨n,hn⟩:=code_some.1 ha;obtain ⟨ex,e1,H1⟩:=q;rw [ha] at h;cases ex with
   | normal =>
    obtain ⟨m,hm⟩:=code_some.1 h;refine ⟨max n m+1,?_⟩;simp only [qG,qcq (Nat.le_max_left n m) hn];exact qcq (Nat.le_max_right n m) hm
   | exit i=>exact ⟨n+1,by simp only [qG,hn];exact h⟩
   | ret=>exact ⟨n+1,by simp only [qG,hn];exact h⟩
theorem qgf {c:Operand} {a b:Code}:qE X f nt n0 (.cond c a b) e H = match qB X e c with
  | some (.bool t)=>qE X f nt n0 (if t then a else b) e H
  | _=>none:=by
 refine Yu fun r=>?_;rw [code_some];constructor
 ·rintro ⟨n,hn⟩;cases n with
  | zero=>simp [qG] at hn
  | succ n =>
   simp only [qG] at hn;split at hn
   ·rename_i hc;rw [hc];exact code_some.2 ⟨n,hn⟩
   ·cases hn
 ·intro h;split at h
  ·rename_i t hc;obtain ⟨n,hn⟩:=code_some.1 h;exact ⟨n+1,by simp only [qG,hc];exact hn⟩
  ·cases h
theorem qgg {id:Nat} {c:Code}:qE X f nt n0 (.block id c) e H = match qE X f nt n0 c e H with
  | some (.exit i,e,H)=>if i = id then some (.normal,e,H) else some (.exit i,e,H)
  | r=>r:=by
 refine Yu fun r=>?_;rw [code_some];constructor
 ·rintro ⟨n,hn⟩;cases n with
  | zero=>simp [qG] at hn
  | succ n =>
   simp only [qG] at hn;cases ha:qG X n f nt n0 c e H with
   | none=>simp [ha] at hn
   | some q=>rw [code_some.2 ⟨n,ha⟩];rw [ha] at hn;exact hn
 ·intro h;cases ha:qE X f nt n0 c e H with
  | none=>simp [ha] at h
  | some q =>
   obtain ⟨n,hn⟩:=code_some.1 ha;exact ⟨n+1,by simp only [qG,hn];rw [ha] at h;exact h⟩
theorem qge {c:Code}:qE X f nt n0 (.scope c) e H = qE X f nt n0 c e H:=by
 refine Yu fun r=>?_;rw [code_some,code_some];constructor
 ·rintro ⟨n,hn⟩;cases n with
  | zero=>simp [qG] at hn
  | succ n=>exact ⟨n,hn⟩
 ·rintro ⟨n,hn⟩;exact ⟨n+1,hn⟩
theorem qcy {c:Code}:qE X f nt n0 (.loop c) e H = match qE X f nt n0 c e H with
  | some (.normal,e,H)=>qE X f nt n0 (.loop c) e H
  | r=>r:=by
 refine Yu fun r=>?_;rw [code_some];constructor
 ·rintro ⟨n,hn⟩;cases n with
  | zero=>simp [qG] at hn
  | succ n =>
   rw [qG] at hn;cases ha:qG X n f nt n0 c e H with
   | none=>simp [ha] at hn
   | some q =>
    obtain ⟨ex,e1,H1⟩:=q;rw [code_some.2 ⟨n,ha⟩];rw [ha] at hn;cases ex with
    | normal=>exact code_some.2 ⟨n,hn⟩
    | exit i=>exact hn
    | ret=>exact hn
 ·intro h;cases ha:qE X f nt n0 c e H with
  | none=>simp [ha] at h
  | some q =>
   obtain ⟨n,hn⟩:=code_some.1 ha;obtain ⟨ex,e1,H1⟩:=q;rw [ha] at h;cases ex with
   | normal =>
    obtain ⟨m,hm⟩:=code_some.1 h;refine ⟨max n m+1,?_⟩;rw [qG];simp only [qcq (Nat.le_max_left n m) hn];exact qcq (Nat.le_max_right n m) hm
   | exit i=>exact ⟨n+1,by rw [qG];simp only [hn];exact h⟩
   | ret=>exact ⟨n+1,by rw [qG];simp only [hn];exact h⟩
def qaq (o : Oper) : Oper := { dst := o.dst, op := o.op, type := 0, pos := "", after := #[], guard := o.guard }
def vT:List Oper→List Oper
 | []=>[]
 | o :: l=>qaq o :: vT l
def jj:Code→Code
 | .region id ops draw=>.region id (vT ops.toList).toArray draw
 | .seq a b=>.seq (jj a) (jj b)
 | .cond x a b=>.cond x (jj a) (jj b)
 | .block id c=>.block id (jj c)
 | .loop c=>.loop (jj c)
 | .scope c=>.scope (jj c)
 | c=>c
theorem qgM:∀ (l:List Oper) (j:Nat),((vT l)[j]?).bind (·.dst) = (l[j]?).bind (·.dst)
 | [],j=>by simp [vT]
 | o :: l,0=>by simp [vT,qaq]
 | o :: l,j+1=>by simp [vT,qgM l j]
theorem qf9 (ops:Array Oper) (e:qn) (g:Option (Nat × Bool)):js (vT ops.toList).toArray e g = js ops e g:=by
 cases g with
 | none=>rfl
 | some q =>
  obtain ⟨j,want⟩:=q;have h:=qgM ops.toList j;simp only [js];have e1:((vT ops.toList).toArray[j]?) = (vT ops.toList)[j]?:=by simp
  have e2:ops[j]? = ops.toList[j]?:=by simp
  rw [e1,e2,h]
theorem qjN {F:qO} {drw:Bool} (ops:Array Oper):∀ (l:List Oper) (e:qn) (H:qd),jw X F nt drw (vT ops.toList).toArray (vT l) e H = jw X F nt drw ops l e H
 | [],e,H=>rfl
 | o :: l,e,H=>by
  simp only [vT,jw,qaq,qf9,qjN ops l]
theorem qjO {F:qO} {ow:List Nat} (ops:Array Oper) {L:kz}:∀ (l:List Oper) (k:Nat) (ws:List (Nat × qd × qd)) (rs:List (Nat × List Nat)) (e:qn) (H:qd),vP X F nt ow (vT ops.toList).toArray L k ws rs (vT l) e H = vP X F nt ow ops L k ws rs l e H
 | [],k,ws,rs,e,H=>by simp only [vT,vP]
 | o :: l,k,ws,rs,e,H=>by
  simp only [vT,vP,qaq,qf9,qjO ops l]
theorem qhV:∀ (l:List Oper),Yt (vT l) = Yt l
 | []=>rfl
 | o :: l=>by simp only [vT,Yt,qaq,qhV l]
theorem qun:∀ (n:Nat) (c:Code) (e:qn) (H:qd),qG X n f nt n0 (jj c) e H = qG X n f nt n0 c e H:=by
 intro n
 induction n with
 | zero=>intro c e H;simp [qG]
 | succ n ih =>
  intro c e H;cases c with
  | region id ops draw =>
   simp only [jj,qG];cases enter X f n0 id e H with
   | none=>rfl
   | some q =>
    obtain ⟨e1,H1⟩:=q;have:(vT ops.toList).toArray.toList = vT ops.toList:=(by simp);cases draw <;> cases KO:X.lp f id <;> simp only [QC,KO,qjN,qjO,qhV,JX]
  | seq a b=>simp only [jj,qG,ih]
  | cond x a b =>
   simp only [jj,qG];split
   ·rename_i t _;cases t <;> simp only [ih,if_true,if_false,kB]
   ·rfl
  | block id c=>simp only [jj,qG,ih]
  | loop c =>
   have:=ih (.loop c);simp only [jj] at this;simp only [jj,qG,ih,this]
  | scope c=>simp only [jj,qG,ih]
  | _=>rfl
theorem qdT {c:Code}:qE X f nt n0 (jj c) e H = qE X f nt n0 c e H:=by
 unfold qE;congr 1;funext n;exact qun n c e H
theorem qbx {args:List D} {r:D × qd} (Q7:X.con f args H = some r):call X f args H = some r:=call_some.2 ⟨1,by simp only [jx,Q7]⟩
theorem qdZ {fn:Func} {c:Code} {args:List D} (Q7:X.con f args H = none) (hf:X.P.funcs[f]? = some fn) (hb:fn.body = some c) (hbad:X.bad f = false) :
  call X f args H = match qE X f fn.ntmps H.length c (jI 0 args) H with
   | some (.normal,e,H') | some (.ret,e,H')=>match kv X e H' fn.results.toList with
    | some ds=>Xs (X.gr f && X.byRef f) (X.fzr f) H.length H' (Z2 ds)
    | none=>none
   | _=>none:=by
 refine Yu fun r=>?_;rw [call_some];constructor
 ·rintro ⟨n,hn⟩;cases n with
  | zero=>simp [jx] at hn
  | succ n =>
   simp only [jx,Q7,hf,hb,hbad,kB,if_false] at hn;cases hc:qG X n f fn.ntmps H.length c (jI 0 args) H with
   | none=>simp [hc] at hn
   | some q=>rw [code_some.2 ⟨n,hc⟩];rw [hc] at hn;exact hn
 ·intro h;cases hc:qE X f fn.ntmps H.length c (jI 0 args) H with
  | none=>simp [hc] at h
  | some q =>
   obtain ⟨n,hn⟩:=code_some.1 hc;refine ⟨n+1,?_⟩;simp only [jx,Q7,hf,hb,hbad,kB,if_false,hn];rw [hc] at h;exact h
theorem qkE {fn:Func} {args:List D} (Q7:X.con f args H = none) (hf:X.P.funcs[f]? = some fn) (hb:fn.body = none):call X f args H = (X.ext f args).map (·,H):=by
 refine Yu fun r=>?_;rw [call_some];constructor
 ·rintro ⟨n,hn⟩;cases n with
  | zero=>simp [jx] at hn
  | succ n =>
   simp only [jx,Q7,hf,hb] at hn;exact hn
 ·intro h;exact ⟨1,by simp only [jx,Q7,hf,hb];exact h⟩
end eqs
theorem qgo (hG:Good X):Zv X (call X):=by
 intro f args H r H' ok w ι vs h hs hv;obtain ⟨n,hn⟩:=call_some.1 h;exact (qha hG n).1 f args H r H' ok w ι vs hn hs hv
end
end Go.Ev
namespace Go.Ev
def qbq (ks:List Nat):Nat→Nat→qn→qd→Option (qn × qd)
 | 0,_,e,H=>some (vC ks e,H)
 | k+1,n0,e,H=>if H.length≤n0+k then some (vC ks e,H)
  else if XT (n0+k) (vC ks e) && (H.take (n0+k)).all (qaD (n0+k)) then some (vC ks e,H.take (n0+k)) else none
def qcs (zs ks:List Nat) (k n0:Nat) (e:qn) (H:qd):Option (qn × qd) :=
 match qbm zs e H with
 | some (e,H)=>qbq ks k n0 e H
 | none=>none
def Xe (zs S ks:List Nat) (n0:Nat) (e:qn) (H:qd):Option (qn × qd) :=
 match zs with
 | []=>qaR n0 S ks e H
 | zs=>match qbm zs e H with
  | some (e,H)=>qaR n0 S ks e H
  | none=>none
def qfU (ss:List Nat) (g:qd→Option (qn × qd)) (e:qn) (H:qd):Option (qn × qd) :=
 match Yn e ss H with
 | some H=>g H
 | none=>none
def YZ:List Nat→Code→Code
 | [],c=>c
 | 0 :: p,.seq a _=>YZ p a
 | _ :: p,.seq _ b=>YZ p b
 | 0 :: p,.cond _ a _=>YZ p a
 | _ :: p,.cond _ _ b=>YZ p b
 | _ :: p,.block _ c=>YZ p c
 | _ :: p,.scope c=>YZ p c
 | _ :: p,.loop c=>YZ p c
 | _,c=>c
def kQ (f:Func):Code:=f.body.getD .skip
attribute [simp] qku qkw qkx qkv qgf
attribute [simp] qaq vT jj jN qT qD JK qB j5 VO qbX qa5 qa4 qg zV vC qbq qcs Xe qfU Yn kh jI kv Z2 qed unD qd1 qaa qdW ZP Vv qeE Qg Xd Vu Yz stD VQ qe ql cellsOf qdJ qdI qcm Kw qbS qd4 qd3 JW qab zj qbY YY Xk JM noZ noZ.noZL qec XW qbZ qaL VF Zd qbF Ku qM Xg eqD Ko jt qbH qo J3 VL ZQ idFree idFree.idFreeL vFree vFree.vFreeL closed closed.closedL qaD qgs XT qaz pack1 pack1.packs vB Ys Ze zF jJ jq qar qbm Kt JT qaR qcX qeO ZZ VN VM Xr V0 renD renD.renL Jd qbc Jw kZ shift shift.shiftL freeze freeze.freezeL XR qss YZ kQ QH
@[simp low] theorem qaP (ds:List D) (off:Nat) (xs:List D):qC ds off xs = ds.take off ++ xs ++ ds.drop (off+xs.length):=rfl
section
variable {X:Cx} {f nt n0:Nat}
inductive Fr where
 | seq (b:Code)
 | block (id:Nat)
def Run (X:Cx) (f nt n0:Nat) (Q:Ex→qn→qd→Prop):List Fr→Option (Ex × qn × qd)→Prop
 | _,none=>False
 | [],some (ex,e,H)=>Q ex e H
 | .seq b :: fs,some (.normal,e,H)=>Run X f nt n0 Q fs (qE X f nt n0 b e H)
 | .seq _ :: fs,some (ex,e,H)=>Run X f nt n0 Q fs (some (ex,e,H))
 | .block id :: fs,some (.exit i,e,H)=>if i = id then Run X f nt n0 Q fs (some (.normal,e,H)) else Run X f nt n0 Q fs (some (.exit i,e,H))
 | .block _ :: fs,some (ex,e,H)=>Run X f nt n0 Q fs (some (ex,e,H))
variable {Q:Ex→qn→qd→Prop} {fs:List Fr} {e:qn} {H:qd} {a b c:Code}
theorem vu:Run X f nt n0 Q fs none = False:=by unfold Run;rfl
theorem Zy {ex:Ex}:Run X f nt n0 Q [] (some (ex,e,H)) = Q ex e H:=by unfold Run;rfl
theorem qhm:Run X f nt n0 Q (.seq b :: fs) (some (.normal,e,H)) = Run X f nt n0 Q fs (qE X f nt n0 b e H):=by rw [Run]
theorem qhn {i:Nat}:Run X f nt n0 Q (.seq b :: fs) (some (.exit i,e,H)) = Run X f nt n0 Q fs (some (.exit i,e,H)):=by rw [Run];intro h;cases h
theorem qhl:Run X f nt n0 Q (.seq b :: fs) (some (.ret,e,H)) = Run X f nt n0 Q fs (some (.ret,e,H)):=by rw [Run];intro h;cases h
theorem qhp {id:Nat}:Run X f nt n0 Q (.block id :: fs) (some (.normal,e,H)) = Run X f nt n0 Q fs (some (.normal,e,H)):=by rw [Run];intro i h;cases h
theorem qho {id:Nat}:Run X f nt n0 Q (.block id :: fs) (some (.ret,e,H)) = Run X f nt n0 Q fs (some (.ret,e,H)):=by rw [Run];intro i h;cases h
theorem qhq {id i:Nat}:Run X f nt n0 Q (.block id :: fs) (some (.exit i,e,H)) = if i = id then Run X f nt n0 Q fs (some (.normal,e,H)) else Run X f nt n0 Q fs (some (.exit i,e,H)):=by rw [Run]
theorem qmy:Run X f nt n0 Q fs (qE X f nt n0 (.seq a b) e H) = Run X f nt n0 Q (.seq b :: fs) (qE X f nt n0 a e H):=by
 rw [qgd];cases h:qE X f nt n0 a e H with
 | none=>simp [vu]
 | some q =>
  obtain ⟨ex,e1,H1⟩:=q;cases ex with
  | normal=>rw [qhm]
  | exit i=>rw [qhn]
  | ret=>rw [qhl]
theorem qm2 {id:Nat}:Run X f nt n0 Q fs (qE X f nt n0 (.block id c) e H) = Run X f nt n0 Q (.block id :: fs) (qE X f nt n0 c e H):=by
 rw [qgg];cases h:qE X f nt n0 c e H with
 | none=>simp [vu]
 | some q =>
  obtain ⟨ex,e1,H1⟩:=q;cases ex with
  | normal=>rw [qhp]
  | exit i=>rw [qhq];by_cases hi:i = id <;> simp [hi]
  | ret=>rw [qho]
theorem qmz:Run X f nt n0 Q fs (qE X f nt n0 (.scope c) e H) = Run X f nt n0 Q fs (qE X f nt n0 c e H):=by rw [qge]
theorem Run.mono {o:Option (Ex × qn × qd)} {R:Ex→qn→qd→Prop} (h:Run X f nt n0 R [] o) (hq:∀ ex e H,R ex e H→Run X f nt n0 Q fs (some (ex,e,H))):Run X f nt n0 Q fs o:=by
 cases o with
 | none=>rw [vu] at h;exact h.elim
 | some q =>
  obtain ⟨ex,e1,H1⟩:=q;rw [Zy] at h;exact hq _ _ _ h
theorem Run.loop {σ:Type} (I:σ→qn→qd→Prop) (m:σ→Nat)
  (step:∀ s e H,I s e H→Run X f nt n0 (fun ex e' H'=>match ex with | .normal=>∃ s',m s' < m s∧I s' e' H' | ex=>Q ex e' H') [] (qE X f nt n0 c e H)) :
  ∀ s e H,I s e H→Run X f nt n0 Q [] (qE X f nt n0 (.loop c) e H):=by
 suffices h:∀ k s e H,m s < k→I s e H→Run X f nt n0 Q [] (qE X f nt n0 (.loop c) e H) from
  fun s e H hi=>h (m s+1) s e H (Nat.lt_succ_self _) hi
 intro k
 induction k with
 | zero=>intro s e H h;omega
 | succ k ih =>
  intro s e H hk hi;have hs:=step s e H hi;rw [qcy];cases ho:qE X f nt n0 c e H with
  | none=>rw [ho,vu] at hs;exact hs.elim
  | some q =>
   obtain ⟨ex,e1,H1⟩:=q;rw [ho,Zy] at hs;cases ex with
   | normal =>
    obtain ⟨s',qi,Qe⟩:=hs;exact ih s' e1 H1 (by omega) Qe
   | exit i=>exact hs
   | ret=>exact hs
def Fin (X:Cx) (z:Bool) (rs:List ResultVar) (n0:Nat) (r:D × qd):Ex→qn→qd→Prop
 | .exit _,_,_=>False
 | _,e,H=>(kv X e H rs).bind (fun ds=>vB z n0 H (Z2 ds)) = some r
theorem qfK {z:Bool} {rs:List ResultVar} {r:D × qd}:Fin X z rs n0 r .ret e H = ((kv X e H rs).bind (fun ds=>vB z n0 H (Z2 ds)) = some r):=rfl
theorem qfL {z:Bool} {rs:List ResultVar} {r:D × qd}:Fin X z rs n0 r .normal e H = ((kv X e H rs).bind (fun ds=>vB z n0 H (Z2 ds)) = some r):=rfl
theorem qA {fn:Func} {args:List D} {r:D × qd} (hf:X.P.funcs[f]? = some fn) (hb:fn.body.isSome = true) (hbad:X.bad f = false∧X.con f args H = none)
  (h:Run X f fn.ntmps H.length (Fin X (X.fzr f) fn.results.toList H.length r) [] (qE X f fn.ntmps H.length (jj (kQ fn)) (jI 0 args) H)) (hg:(X.gr f && X.byRef f) = false:=by rfl):call X f args H = some r:=by
 rw [qdT] at h;cases zY:fn.body with
 | none=>rw [zY] at hb;cases hb
 | some c =>
  have hc:kQ fn = c:=by simp only [kQ,zY,Zw]
  rw [hc] at h;rw [qdZ hbad.2 hf zY hbad.1,hg];cases ho:qE X f fn.ntmps H.length c (jI 0 args) H with
  | none=>rw [ho,vu] at h;exact h.elim
  | some q =>
   obtain ⟨ex,e1,H1⟩:=q;rw [ho,Zy] at h;cases ex with
   | exit i=>exact h.elim
   | normal =>
    rw [qfL] at h;cases hr:kv X e1 H1 fn.results.toList with
    | none=>rw [hr] at h;cases h
    | some ds=>rw [hr] at h;simpa [hr,Xs] using h
   | ret =>
    rw [qfK] at h;cases hr:kv X e1 H1 fn.results.toList with
    | none=>rw [hr] at h;cases h
    | some ds=>rw [hr] at h;simpa [hr,Xs] using h
end
attribute [simp] vu Zy qhm qhn qhl qhp qho qhq qmy qm2 qmz qfK qfL
end Go.Ev
namespace Go.Ev
mutual
theorem qnN (n0:Nat) (H:qd) (seen:List Nat) (acc:qd):∀ (d:D),idFree d = true→pack1 n0 H seen acc d = some (d,seen,acc)
 | .agg cs,h=>by simp only [idFree] at h;simp only [pack1,qdh n0 H seen acc cs h,zT]
 | .tup cs,h=>by simp only [idFree] at h;simp only [pack1,qdh n0 H seen acc cs h,zT]
 | .fn f cs,h=>by simp only [pack1,h,if_true]
 | .iface t d,h=>by simp only [pack1,h,if_true]
 | .optr ..,h=>by simp [idFree] at h
 | .osl ..,h=>by simp [idFree] at h
 | .bool _,_=>rfl
 | .int _ _,_=>rfl
 | .str _,_=>rfl
 | .nilp,_=>rfl
 | .nilf,_=>rfl
 | .nili,_=>rfl
 | .raw _,_=>rfl
 | .vptr _,_=>rfl
 | .vsl ..,_=>rfl
theorem qdh (n0:Nat) (H:qd) (seen:List Nat) (acc:qd):∀ (cs:List D),idFree.idFreeL cs = true→pack1.packs n0 H seen acc cs = some (cs,seen,acc)
 | [],_=>rfl
 | d :: l,h=>by
  simp only [idFree.idFreeL,zL] at h;simp only [pack1.packs,qnN n0 H seen acc d h.1,qdh n0 H seen acc l h.2]
end
mutual
theorem qhg (n:Nat):∀ (d:D),idFree d = true→shift n d = d
 | .agg cs,h=>by simp only [idFree] at h;simp only [shift,qas n cs h]
 | .tup cs,h=>by simp only [idFree] at h;simp only [shift,qas n cs h]
 | .fn f cs,h=>by simp only [idFree] at h;simp only [shift,qas n cs h]
 | .iface t d,h=>by simp only [idFree] at h;simp only [shift,qhg n d h]
 | .optr ..,h=>by simp [idFree] at h
 | .osl ..,h=>by simp [idFree] at h
 | .bool _,_=>rfl
 | .int _ _,_=>rfl
 | .str _,_=>rfl
 | .nilp,_=>rfl
 | .nilf,_=>rfl
 | .nili,_=>rfl
 | .raw _,_=>rfl
 | .vptr _,_=>rfl
 | .vsl ..,_=>rfl
theorem qas (n:Nat):∀ (cs:List D),idFree.idFreeL cs = true→shift.shiftL n cs = cs
 | [],_=>rfl
 | d :: l,h=>by
  simp only [idFree.idFreeL,zL] at h;simp only [shift.shiftL,qhg n d h.1,qas n l h.2]
end
mutual
theorem qbt (n:Nat):∀ (d:D),idFree d = true→closed n d = true
 | .agg cs,h=>by simp only [idFree] at h;simp only [closed,Kl n cs h]
 | .tup cs,h=>by simp only [idFree] at h;simp only [closed,Kl n cs h]
 | .fn f cs,h=>by simp only [idFree] at h;simp only [closed,Kl n cs h]
 | .iface t d,h=>by simp only [idFree] at h;simp only [closed,qbt n d h]
 | .optr ..,h=>by simp [idFree] at h
 | .osl ..,h=>by simp [idFree] at h
 | .bool _,_=>rfl
 | .int _ _,_=>rfl
 | .str _,_=>rfl
 | .nilp,_=>rfl
 | .nilf,_=>rfl
 | .nili,_=>rfl
 | .raw _,_=>rfl
 | .vptr _,_=>rfl
 | .vsl ..,_=>rfl
theorem Kl (n:Nat):∀ (cs:List D),idFree.idFreeL cs = true→closed.closedL n cs = true
 | [],_=>rfl
 | d :: l,h=>by
  simp only [idFree.idFreeL,zL] at h;simp only [closed.closedL,qbt n d h.1,Kl n l h.2,Bool.and_self]
end
theorem qdG (H:qd):∀ (cs:List D),idFree.idFreeL cs = true→freeze.freezeL H cs = some cs
 | [],_=>rfl
 | d :: l,h=>by
  simp only [idFree.idFreeL,zL] at h
  have hd:freeze H d = some d:=by
   cases d with
   | agg cs=>have h1:=h.1;simp only [idFree] at h1;simp only [freeze,qdG H cs h1,zT]
   | fn f cs=>have h1:=h.1;simp only [idFree] at h1;simp only [freeze,qdG H cs h1,zT]
   | osl _ _ _ _ _=>simp [idFree] at h
   | optr _ _ _=>simp [idFree] at h
   | _=>simp only [freeze,h.1,if_true]
  simp only [freeze.freezeL,hd,qdG H l h.2]
theorem kO:∀ (cs:List D),idFree.idFreeL cs = cs.all idFree
 | []=>rfl
 | d :: l=>by simp only [idFree.idFreeL,qal,kO l]
theorem qgh (n:Nat):∀ (cs:List D),closed.closedL n cs = cs.all (closed n)
 | []=>rfl
 | d :: l=>by simp only [closed.closedL,qal,qgh n l]
theorem qjc:∀ (a b:List D),idFree.idFreeL (a ++ b) = (idFree.idFreeL a && idFree.idFreeL b)
 | [],b=>by simp [idFree.idFreeL]
 | x :: a,b=>by simp [idFree.idFreeL,qjc a b,Bool.and_assoc]
theorem qk4 (n:Nat):∀ (a b:List D),closed.closedL n (a ++ b) = (closed.closedL n a && closed.closedL n b)
 | [],b=>by simp [closed.closedL]
 | x :: a,b=>by simp [closed.closedL,qk4 n a b,Bool.and_assoc]
theorem qg8:∀ (a b:List D),vFree.vFreeL (a ++ b) = (vFree.vFreeL a && vFree.vFreeL b)
 | [],b=>by simp [vFree.vFreeL]
 | x :: a,b=>by simp [vFree.vFreeL,qg8 a b,Bool.and_assoc]
@[simp] theorem Xv (s:List UInt8):(qf s).length = s.length:=by simp [qf]
@[simp] theorem qsK (s:List UInt8):idFree.idFreeL (qf s) = true:=by
 induction s with
 | nil=>rfl
 | cons a s ih=>simpa [qf,idFree.idFreeL,idFree] using ih
@[simp] theorem qw4 (s:List UInt8):vFree.vFreeL (qf s) = true:=by
 induction s with
 | nil=>rfl
 | cons a s ih=>simpa [qf,vFree.vFreeL,vFree] using ih
@[simp] theorem q5w (n:Nat) (s:List UInt8):closed.closedL n (qf s) = true:=Kl n _ (qsK s)
@[simp] theorem qwo (s:List UInt8):(qf s).all idFree = true:=by simp [qf,idFree]
@[simp] theorem qwq (n:Nat) (s:List UInt8):(qf s).all (closed n) = true:=by simp [qf,closed]
@[simp] theorem qwl (s:List UInt8):(qf s).all vFree = true:=by simp [qf,vFree]
@[simp] theorem qxk {s:List UInt8} {n:Nat} (h:s.length≤n):(qf s).take n = qf s:=qP (by simpa using h)
@[simp] theorem q51 (s:List UInt8):(∀ x,x∈qf s→idFree x = true) = True:=eq_true (List.all_eq_true.1 (qwo s))
@[simp] theorem q52 (s:List UInt8) (n:Nat):(∀ x,x∈qf s→closed n x = true) = True:=eq_true (List.all_eq_true.1 (qwq n s))
@[simp] theorem q50 (s:List UInt8):(∀ x,x∈qf s→vFree x = true) = True:=eq_true (List.all_eq_true.1 (qwl s))
attribute [simp] qdh qas Kl qdG qjc qk4 qg8
theorem wrap_i64 {n:Int} (h:-9223372036854775808≤n∧n < 9223372036854775808):IntKind.i64.wrap n = n:=by
 simp only [IntKind.wrap,IntKind.signed,IntKind.bits];simp;omega
theorem qF {n:Int} (h:0≤n∧n < 18446744073709551616):IntKind.u64.wrap n = n:=by
 simp only [IntKind.wrap,IntKind.signed,IntKind.bits];simp;omega
theorem ZV {n:Int} (h:0≤n∧n < 256):IntKind.u8.wrap n = n:=by
 simp only [IntKind.wrap,IntKind.signed,IntKind.bits];simp;omega
theorem qaI {n:Int} (h:0≤n∧n < 4294967296):IntKind.u32.wrap n = n:=by
 simp only [IntKind.wrap,IntKind.signed,IntKind.bits];simp;omega
theorem qlq {n:Int} (h:0≤n∧n < 65536):IntKind.u16.wrap n = n:=by
 simp only [IntKind.wrap,IntKind.signed,IntKind.bits];simp;omega
theorem qls {n:Int} (h:-2147483648≤n∧n < 2147483648):IntKind.i32.wrap n = n:=by
 simp only [IntKind.wrap,IntKind.signed,IntKind.bits];simp;omega
theorem qkI {n x:Nat} (h:x < 2 ^ n):(BitVec.ofInt n (x:Int)).toNat = x:=by
 rw [qet,qes,qc8 h]
theorem qlr {k:IntKind} (hk:k.signed = false) {x:Nat} (h:x < 2 ^ k.bits):k.wrap (x:Int) = (x:Int):=by
 have:((x:Int) % (2 ^ k.bits:Int)) = x:=Int.emod_eq_of_lt (by omega) (by exact_mod_cast h);simp only [IntKind.wrap,hk];simpa using this
theorem qfb {k:IntKind} (hk:k.signed = false) {x y:Nat} (hx:x < 2 ^ k.bits) (hy:y < 2 ^ k.bits):Z1 k x y = ((x ||| y:Nat):Int):=by
 unfold Z1;rw [BitVec.toNat_or,qkI hx,qkI hy,qlr hk (Nat.or_lt_two_pow hx hy)]
attribute [simp] wrap_i64 qF ZV qaI qlq qls
end Go.Ev
namespace Go.Ev
open Go Go.Proofs
end Go.Ev
namespace Go.Ev
section
variable {X:Cx} {f nt n0:Nat}
structure SOp where
 dst:Option Tmp
 op:Op
 g:Option (Option Tmp × Bool)
def Yl (ops:Array Oper) (o:Oper):SOp:=⟨o.dst,o.op,match o.guard with
 | none=>none
 | some (j,want)=>some ((ops[j]?).bind (·.dst),want)⟩
def kK (ops:Array Oper):List Oper→List SOp
 | []=>[]
 | o :: l=>Yl ops o :: kK ops l
def Jq (e:qn):Option (Option Tmp × Bool)→Option Bool
 | none=>some true
 | some (none,_)=>some false
 | some (some t,want)=>match qg e t with
  | some (.bool b)=>some (b == want)
  | some (.tup [])=>some false
  | _=>none
theorem qf8 (ops:Array Oper) (e:qn) (g:Option (Nat × Bool)):js ops e g = Jq e (match g with
  | none=>none
  | some (j,want)=>some ((ops[j]?).bind (·.dst),want)):=by
 cases g with
 | none=>rfl
 | some q =>
  obtain ⟨j,want⟩:=q;simp only [js,Jq];cases (ops[j]?).bind (·.dst) <;> rfl
def Vs (X:Cx) (F:qO) (nt:Nat) (drw:Bool):List SOp→qn→qd→Option (qn × qd)
 | [],e,H=>some (e,H)
 | o :: l,e,H=>match jN nt o.dst,Jq e o.g with
  | true,some true=>match qD X F drw o.op e H with
   | some (d,H')=>Vs X F nt drw l (zV e o.dst d) H'
   | none=>none
  | true,some false=>Vs X F nt drw l (zV e o.dst (.tup [])) H
  | _,_=>none
theorem qdK {F:qO} {drw:Bool} (ops:Array Oper):∀ (l:List Oper) (e:qn) (H:qd),jw X F nt drw ops l e H = Vs X F nt drw (kK ops l) e H
 | [],e,H=>rfl
 | o :: l,e,H=>by
  simp only [jw,kK,Vs,qf8 ops e o.guard]
  show _ = match jN nt o.dst,Jq e (Yl ops o).g with
   | true,some true=>match qD X F drw o.op e H with
    | some (d,H')=>Vs X F nt drw (kK ops l) (zV e o.dst d) H'
    | none=>none
   | true,some false=>Vs X F nt drw (kK ops l) (zV e o.dst (.tup [])) H
   | _,_=>none
  simp only [qdK ops l,Yl];rfl
variable {Q:Ex→qn→qd→Prop} {fs:List Fr} {e:qn} {H:qd}
def QE (X:Cx) (f nt n0:Nat) (Q:Ex→qn→qd→Prop) (fs:List Fr) (drw:Bool) (l:List SOp) (e:qn) (H:qd):Prop :=
 Run X f nt n0 Q fs ((Vs X (call X) nt drw l e H).map fun (e,H)=>(.normal,e,H))
def Yc (X:Cx) (f nt n0:Nat) (Q:Ex→qn→qd→Prop) (fs:List Fr) (drw:Bool) (l:List SOp) (e:qn) (dst:Option Tmp):Option (D × qd)→Prop
 | none=>False
 | some (d,H)=>QE X f nt n0 Q fs drw l (zV e dst d) H
def Ye (X:Cx) (f nt n0:Nat) (Q:Ex→qn→qd→Prop) (fs:List Fr) (drw:Bool) (dst:Option Tmp) (op:Op) (want:Bool) (l:List SOp) (e:qn) (H:qd):Option D→Prop
 | some (.bool b)=>if b = want then Yc X f nt n0 Q fs drw l e dst (qD X (call X) drw op e H) else QE X f nt n0 Q fs drw l (zV e dst (.tup [])) H
 | some (.tup [])=>QE X f nt n0 Q fs drw l (zV e dst (.tup [])) H
 | _=>False
theorem qm7 {drw:Bool}:QE X f nt n0 Q fs drw [] e H = Run X f nt n0 Q fs (some (.normal,e,H)):=rfl
theorem qm6 {drw:Bool} {dst:Option Tmp} {op:Op} {l:List SOp}:QE X f nt n0 Q fs drw (⟨dst,op,none⟩ :: l) e H =
  (jN nt dst = true∧Yc X f nt n0 Q fs drw l e dst (qD X (call X) drw op e H)):=by
 unfold QE;simp only [Vs,Jq];cases jN nt dst with
 | false=>simp [vu]
 | true =>
  cases qD X (call X) drw op e H with
  | none=>simp [Yc,vu]
  | some q=>simp [Yc,QE]
theorem qm5 {drw:Bool} {dst:Option Tmp} {op:Op} {l:List SOp} {t:Tmp} {want:Bool}:QE X f nt n0 Q fs drw (⟨dst,op,some (some t,want)⟩ :: l) e H =
  (jN nt dst = true∧Ye X f nt n0 Q fs drw dst op want l e H (qg e t)):=by
 unfold QE;simp only [Vs,Jq];cases jN nt dst with
 | false=>simp [vu]
 | true =>
  cases qg e t with
  | none=>simp [Ye,vu]
  | some d =>
   cases d with
   | bool b =>
    by_cases hb:b = want
    ·subst hb;simp only [beq_self_eq_true,Ye,if_true,true_and];cases qD X (call X) drw op e H with
     | none=>simp [Yc,vu]
     | some q=>simp [Yc,QE]
    ·have:(b == want) = false:=(by simpa using hb);simp [Ye,hb,this,QE]
   | tup cs =>
    cases cs with
    | nil=>simp [Ye,QE]
    | cons=>simp [Ye,vu]
   | _=>simp [Ye,vu]
theorem qmQ {drw:Bool} {dst:Option Tmp} {l:List SOp} {d:D}:Yc X f nt n0 Q fs drw l e dst (some (d,H)) = QE X f nt n0 Q fs drw l (zV e dst d) H:=rfl
theorem qmR {drw:Bool} {dst:Option Tmp} {l:List SOp}:Yc X f nt n0 Q fs drw l e dst none = False:=rfl
theorem qmV {drw:Bool} {dst:Option Tmp} {op:Op} {l:List SOp} {want b:Bool}:Ye X f nt n0 Q fs drw dst op want l e H (some (.bool b)) =
  if b = want then Yc X f nt n0 Q fs drw l e dst (qD X (call X) drw op e H) else QE X f nt n0 Q fs drw l (zV e dst (.tup [])) H:=rfl
theorem qmU {drw:Bool} {dst:Option Tmp} {op:Op} {l:List SOp} {want:Bool}:Ye X f nt n0 Q fs drw dst op want l e H (some (.tup [])) = QE X f nt n0 Q fs drw l (zV e dst (.tup [])) H:=rfl
def qaf (X:Cx) (f nt n0:Nat) (Q:Ex→qn→qd→Prop) (fs:List Fr) (drw:Bool) (l:List SOp):Option (qn × qd)→Prop
 | none=>False
 | some (e,H)=>QE X f nt n0 Q fs drw l e H
theorem qmY {drw:Bool} {l:List SOp}:qaf X f nt n0 Q fs drw l (some (e,H)) = QE X f nt n0 Q fs drw l e H:=rfl
theorem qm1 {id:Nat} {ops:Array Oper}:Run X f nt n0 Q fs (qE X f nt n0 (.region id ops false) e H) = qaf X f nt n0 Q fs (X.cv f id) (kK ops ops.toList) (enter X f n0 id e H):=by
 rw [qdU];cases enter X f n0 id e H with
 | none=>simp [vu,qaf]
 | some q=>simp only [qaf,QE,QC,qdK,JX]
section lp
variable {L:kz} {ow:List Nat}
noncomputable def Vr (X:Cx) (F:qO) (nt:Nat) (ow:List Nat) (L:kz):Nat→List (Nat × qd × qd)→List (Nat × List Nat)→List SOp→qn→qd→Option (qn × qd)
 | _,_,_,[],e,H=>some (e,H)
 | k,ws,rs,o :: l,e,H=>match jN nt o.dst,Jq e o.g with
  | true,some true=>match qD X F (Qw ow o.dst) o.op e H with
   | some (d,H') =>
    @ite _ ((Q0 L k = true→Kr L k (kl (o.op.operands.toList.map (qB X e))) ws)∧(Qx L k = true→H.length≤H'.length∧Kq L k H H' rs)) (Classical.propDecidable _)
     (Vr X F nt ow L (k+1) (if Qx L k then (k,H,H') :: ws else ws) (if Q0 L k then (k,kl (o.op.operands.toList.map (qB X e))) :: rs else rs) l (zV e o.dst d) H') none
   | none=>none
  | true,some false=>Vr X F nt ow L (k+1) ws rs l (zV e o.dst (.tup [])) H
  | _,_=>none
theorem qjP {F:qO} (ops:Array Oper):∀ (l:List Oper) (k:Nat) (ws:List (Nat × qd × qd)) (rs:List (Nat × List Nat)) (e:qn) (H:qd),vP X F nt ow ops L k ws rs l e H = Vr X F nt ow L k ws rs (kK ops l) e H
 | [],k,ws,rs,e,H=>by simp only [kK,Vr,vP]
 | o :: l,k,ws,rs,e,H=>by
  have ih:=qjP (F:=F) ops l;rw [vP];show _ = Vr X F nt ow L k ws rs (Yl ops o :: kK ops l) e H;rw [Vr]
  show _ = match jN nt o.dst,Jq e (Yl ops o).g with
   | true,some true=>match qD X F (Qw ow o.dst) o.op e H with
    | some (d,H') =>
     @ite _ ((Q0 L k = true→Kr L k (kl (o.op.operands.toList.map (qB X e))) ws)∧(Qx L k = true→H.length≤H'.length∧Kq L k H H' rs)) (Classical.propDecidable _)
      (Vr X F nt ow L (k+1) (if Qx L k then (k,H,H') :: ws else ws) (if Q0 L k then (k,kl (o.op.operands.toList.map (qB X e))) :: rs else rs) (kK ops l) (zV e o.dst d) H') none
    | none=>none
   | true,some false=>Vr X F nt ow L (k+1) ws rs (kK ops l) (zV e o.dst (.tup [])) H
   | _,_=>none
  have h3:Jq e (Yl ops o).g = js ops e o.guard:=(qf8 ops e o.guard).symm;rw [h3];cases hd:jN nt o.dst with
  | false=>simp only
  | true =>
   cases hg:js ops e o.guard with
   | none=>simp only
   | some b =>
    cases b with
    | false=>simp only [ih]
    | true =>
     cases ho:qD X F (Qw ow o.dst) o.op e H with
     | none=>simp only
     | some q =>
      obtain ⟨d,H1⟩:=q;simp only;by_cases hc:(Q0 L k = true→Kr L k (kl (o.op.operands.toList.map (qB X e))) ws)∧(Qx L k = true→H.length≤H1.length∧Kq L k H H1 rs)
      ·rw [if_pos hc,if_pos hc];exact ih _ _ _ _ _
      ·rw [if_neg hc,if_neg hc]
def QX (X:Cx) (f nt n0:Nat) (Q:Ex→qn→qd→Prop) (fs:List Fr) (ow:List Nat) (L:kz) (k:Nat) (ws:List (Nat × qd × qd)) (rs:List (Nat × List Nat)) (l:List SOp) (e:qn) (H:qd):Prop :=
 Run X f nt n0 Q fs ((Vr X (call X) nt ow L k ws rs l e H).map fun (e,H)=>(.normal,e,H))
def qae (X:Cx) (f nt n0:Nat) (Q:Ex→qn→qd→Prop) (fs:List Fr) (ow:List Nat) (L:kz) (k:Nat) (ws:List (Nat × qd × qd)) (rs:List (Nat × List Nat)) (bs:List Nat) (l:List SOp) (e:qn) (dst:Option Tmp) (H:qd):Option (D × qd)→Prop
 | none=>False
 | some (d,H')=>(Q0 L k = true→Kr L k bs ws)∧(Qx L k = true→H.length≤H'.length∧Kq L k H H' rs) ∧
   QX X f nt n0 Q fs ow L (k+1) (if Qx L k then (k,H,H') :: ws else ws) (if Q0 L k then (k,bs) :: rs else rs) l (zV e dst d) H'
def Yd (X:Cx) (f nt n0:Nat) (Q:Ex→qn→qd→Prop) (fs:List Fr) (ow:List Nat) (L:kz) (k:Nat) (ws:List (Nat × qd × qd)) (rs:List (Nat × List Nat)) (bs:List Nat) (dst:Option Tmp) (op:Op) (want:Bool) (l:List SOp) (e:qn) (H:qd):Option D→Prop
 | some (.bool b)=>if b = want then qae X f nt n0 Q fs ow L k ws rs bs l e dst H (qD X (call X) (Qw ow dst) op e H) else QX X f nt n0 Q fs ow L (k+1) ws rs l (zV e dst (.tup [])) H
 | some (.tup [])=>QX X f nt n0 Q fs ow L (k+1) ws rs l (zV e dst (.tup [])) H
 | _=>False
variable {k:Nat} {ws:List (Nat × qd × qd)} {rs:List (Nat × List Nat)}
theorem qmA:QX X f nt n0 Q fs ow L k ws rs [] e H = Run X f nt n0 Q fs (some (.normal,e,H)):=by unfold QX;simp only [Vr];rfl
theorem qhx {dst:Option Tmp} {op:Op} {l:List SOp}:Run X f nt n0 Q fs (Option.map (fun (e,H)=>(Ex.normal,e,H)) (match qD X (call X) (Qw ow dst) op e H with
   | some (d,H') =>
    @ite _ ((Q0 L k = true→Kr L k (kl (op.operands.toList.map (qB X e))) ws)∧(Qx L k = true→H.length≤H'.length∧Kq L k H H' rs)) (Classical.propDecidable _)
     (Vr X (call X) nt ow L (k+1) (if Qx L k then (k,H,H') :: ws else ws) (if Q0 L k then (k,kl (op.operands.toList.map (qB X e))) :: rs else rs) l (zV e dst d) H') none
   | none=>none)) = qae X f nt n0 Q fs ow L k ws rs (kl (op.operands.toList.map (qB X e))) l e dst H (qD X (call X) (Qw ow dst) op e H):=by
 cases qD X (call X) (Qw ow dst) op e H with
 | none=>simp [qae,vu]
 | some q =>
  obtain ⟨d,H1⟩:=q;simp only [qae,QX];by_cases hc:(Q0 L k = true→Kr L k (kl (op.operands.toList.map (qB X e))) ws)∧(Qx L k = true→H.length≤H1.length∧Kq L k H H1 rs)
  ·rw [if_pos hc];exact propext ⟨fun h=>⟨hc.1,hc.2,h⟩,fun h=>h.2.2⟩
  ·rw [if_neg hc];simp only [Option.map_none,vu];exact propext ⟨fun h=>h.elim,fun h=>hc ⟨h.1,h.2.1⟩⟩
theorem qm9 {dst:Option Tmp} {op:Op} {l:List SOp}:QX X f nt n0 Q fs ow L k ws rs (⟨dst,op,none⟩ :: l) e H =
  (jN nt dst = true∧qae X f nt n0 Q fs ow L k ws rs (kl (op.operands.toList.map (qB X e))) l e dst H (qD X (call X) (Qw ow dst) op e H)):=by
 rw [← qhx];unfold QX;simp only [Vr,Jq];cases jN nt dst with
 | false=>simp [vu]
 | true=>simp
theorem qm8 {dst:Option Tmp} {op:Op} {l:List SOp} {t:Tmp} {want:Bool}:QX X f nt n0 Q fs ow L k ws rs (⟨dst,op,some (some t,want)⟩ :: l) e H =
  (jN nt dst = true∧Yd X f nt n0 Q fs ow L k ws rs (kl (op.operands.toList.map (qB X e))) dst op want l e H (qg e t)):=by
 unfold QX;simp only [Vr,Jq];cases jN nt dst with
 | false=>simp [vu]
 | true =>
  cases qg e t with
  | none=>simp [Yd,vu]
  | some d =>
   cases d with
   | bool b =>
    by_cases hb:b = want
    ·subst hb;simp only [beq_self_eq_true,Yd,if_true,true_and];rw [← qhx]
    ·have:(b == want) = false:=(by simpa using hb);simp [Yd,hb,this,QX]
   | tup cs =>
    cases cs with
    | nil=>simp [Yd,QX]
    | cons=>simp [Yd,vu]
   | _=>simp [Yd,vu]
theorem qmS {dst:Option Tmp} {l:List SOp} {d:D} {bs:List Nat} {H':qd}:qae X f nt n0 Q fs ow L k ws rs bs l e dst H (some (d,H')) = ((Q0 L k = true→Kr L k bs ws)∧(Qx L k = true→H.length≤H'.length∧Kq L k H H' rs) ∧
   QX X f nt n0 Q fs ow L (k+1) (if Qx L k then (k,H,H') :: ws else ws) (if Q0 L k then (k,bs) :: rs else rs) l (zV e dst d) H'):=rfl
theorem qmT {dst:Option Tmp} {l:List SOp} {bs:List Nat}:qae X f nt n0 Q fs ow L k ws rs bs l e dst H none = False:=rfl
theorem qmX {dst:Option Tmp} {op:Op} {l:List SOp} {want b:Bool} {bs:List Nat}:Yd X f nt n0 Q fs ow L k ws rs bs dst op want l e H (some (.bool b)) =
  if b = want then qae X f nt n0 Q fs ow L k ws rs bs l e dst H (qD X (call X) (Qw ow dst) op e H) else QX X f nt n0 Q fs ow L (k+1) ws rs l (zV e dst (.tup [])) H:=rfl
theorem qmW {dst:Option Tmp} {op:Op} {l:List SOp} {want:Bool} {bs:List Nat}:Yd X f nt n0 Q fs ow L k ws rs bs dst op want l e H (some (.tup [])) = QX X f nt n0 Q fs ow L (k+1) ws rs l (zV e dst (.tup [])) H:=rfl
def qc6 (X:Cx) (f nt n0:Nat) (Q:Ex→qn→qd→Prop) (fs:List Fr) (drw:Bool):Option (kz × List Nat)→List SOp→Option (qn × qd)→Prop
 | none,l,o=>qaf X f nt n0 Q fs drw l o
 | some (L,ow),l,some (e,H)=>QX X f nt n0 Q fs ow L 0 [] [] l e H
 | _,_,none=>False
theorem qmB {drw:Bool} {l:List SOp} {o:Option (qn × qd)}:qc6 X f nt n0 Q fs drw none l o = qaf X f nt n0 Q fs drw l o:=rfl
theorem qmC {drw:Bool} {l:List SOp}:qc6 X f nt n0 Q fs drw (some (L,ow)) l (some (e,H)) = QX X f nt n0 Q fs ow L 0 [] [] l e H:=rfl
end lp
theorem qm0 {id:Nat} {ops:Array Oper}:Run X f nt n0 Q fs (qE X f nt n0 (.region id ops true) e H) = qc6 X f nt n0 Q fs (!Yt ops.toList) (X.lp f id) (kK ops ops.toList) (enter X f n0 id e H):=by
 rw [qdU];cases zX:enter X f n0 id e H with
 | none=>cases KO:X.lp f id <;> simp [vu,qaf,qc6]
 | some q=>cases KO:X.lp f id <;> simp only [qaf,QE,qc6,QX,QC,KO,qdK,qjP,JX]
theorem qlT (ops:Array Oper) (dst:Option Tmp) (op:Op) (ty:TypeId) (pos:String) (af:Array Edge) (l:List Oper):kK ops ({ dst:=dst,op:=op,type:=ty,pos:=pos,after:=af,guard:=none } :: l) = ⟨dst,op,none⟩ :: kK ops l:=rfl
theorem qlS (ops:Array Oper) (dst:Option Tmp) (op:Op) (ty:TypeId) (pos:String) (af:Array Edge) (j:Nat) (want:Bool) (l:List Oper) :
  kK ops ({ dst:=dst,op:=op,type:=ty,pos:=pos,after:=af,guard:=some (j,want) } :: l) = ⟨dst,op,some ((ops[j]?).bind (·.dst),want)⟩ :: kK ops l:=rfl
theorem qlR (ops:Array Oper):kK ops [] = []:=rfl
end
attribute [simp] Qw Op.operands Call.operands kl VJ Qx Q0 Kr Kq qmA qm9 qm8 qmS qmT qmX qmW qmB qmC qm7 qm6 qm5 qmQ qmR qmV qmU qmY qm1 qm0 Yt qiR qlT qlS qlR
end Go.Ev
namespace Go.Ev
@[simp] theorem qwf (H L:qd) (k:Nat):(H ++ L)[H.length+k]? = L[k]?:=by rw [ku (Nat.le_add_right _ _),Nat.add_sub_cancel_left]
@[simp] theorem q55 (H L:qd):(H ++ L)[H.length]? = L[0]?:=qwf H L 0
@[simp] theorem qwc (H L:qd) (k:Nat) (x:Option (List D)):(H ++ L).set (H.length+k) x = H ++ L.set k x:=by
 rw [List.set_append_right _ _ (Nat.le_add_right _ _),Nat.add_sub_cancel_left]
@[simp] theorem q54 (H L:qd) (x:Option (List D)):(H ++ L).set H.length x = H ++ L.set 0 x:=qwc H L 0 x
end Go.Ev
