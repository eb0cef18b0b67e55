import Derived.Test.YtglpgdajjpipgaaGreatDoorC2
import Derived.Lib.BytesEntry
import Derived.Laws.Externs
import Derived.ProofKit
import Derived.OpenShut
import Derived.Below
import Derived.WideKeyArgs
import Derived.Carry
import Derived.ChangeSame
import Derived.ChangeSlices
import Derived.DataReads
import Derived.DataElems
import Derived.ChangeArms
import Derived.Lib.LaidTab
import Derived.Stop.LaidErr
import Derived.LaidMore
import Derived.Shelf.Strconv.Itoa1
import Derived.Shelf.Strings.Search2
import Derived.Shelf.Strconv.Clone
import Derived.WalkSmall
import Derived.Shelf.Strings.Repeat
import Derived.Lib.Bytealg
import Derived.Shelf.SortG.Plain
import Derived.Shelf.SortG.SortNone
import Derived.Sort.OwnSorted
namespace Go.Ev
open Go Go.Proofs
def qb8:List D->Option (List Int)
 |[]=>some []
 | .int .u8 n::l=>(qb8 l).map (n:: ·)
 |_=>none
def VN:D->Option (List Int)
 | .vsl true [] 0=>some []
 | .vsl false cs a=>if cs.length=a then qb8 cs else none
 |_=>none
def qf0:List D->Option D
 |[x,y]=>match VN x,VN y with
  |some a,some b=>some (.int .i64 (Extern.BytealgCompare.cmp ⟨(Lib.bytesOf a).toArray⟩ ⟨(Lib.bytesOf b).toArray⟩))
  |_,_=>none
 |_=>none
theorem qvs:∀{cs:List D}{l:List Int},qb8 cs=some l->cs.length=l.length/\∀(j:Nat) x,l[j]?=some x->cs[j]?=some (.int .u8 x)
 |[],l,h=>by simp only[qb8,qy] at h;subst h;simp
 |d::cs,l,h=>by
  cases d with
  |int k n=>
   cases k with
   |u8=>
    simp only[qb8] at h;cases a:qb8 cs with
    |none=>simp[a] at h
    |some f=>
     simp only[a,j6,qy] at h;subst h;obtain⟨c,e⟩:=qvs a;refine⟨by simp[c],fun j x b=>?_⟩;cases j with
     |zero=>simpa using b
     |succ j=>simpa using e j x xQ
   |_=>simp[qb8] at h
  |_=>simp[qb8] at h
theorem qjv{P:Program}{ok:Nat->Prop}{w:World}{ι:qV}{H:qe}{d:D}{v:Value}{l:List Int}(h:VN d=some l)(e:Rep ok w ι H d v):
  (Extern.Bytes.bytesOf v).run P w=.ok ⟨(Lib.bytesOf l).toArray⟩ w:=by
 cases e with
 |vnil=>simp only[VN,qy] at h;subst h;simp[Extern.Bytes.bytesOf,Lib.bytesOf];rfl
 |vsl a f p hc e k q=>
  rename_i ds i c;simp only[VN] at h;split at h
  .rename_i b;obtain⟨m,o⟩:=qvs h
   have:=Lib.run_loadBytesX (P:=P) w l a .empty (fun j x n=>by
    have g:=o j x n;rw[e j _ g];have:=k j _ g;generalize f j=v at this;cases this;rfl)
   simp only[Extern.Bytes.bytesOf];rw[<-b,m,this];simp
  .cases h
 |_=>simp[VN] at h
theorem q57{P:Program}{f:Nat}{fn:Func}(hf:P.funcs[f]?=some fn)(hn:fn.body=none)(hng:(fn.name== "runtime.NumGoroutine")=false)
  (h1:Extern.findNext fn=none) (h2:Extern.find fn=some Extern.BytealgCompare.compare) {ok:Nat->Prop} {w:World} {ι:qV} {H:qe} {args:List D} {d:D} {vs:List Value}
  (h:qf0 args=some d) (hv:RepL ok w ι H args vs):∃v,(callFunc f vs.toArray).run P w=.ok (.value v) w/\Rep ok w ι H d v/\idFree d=true:=by
 rw[run_callFunc_extern hf hng (by rw[hn];rfl) h1 h2]
 match args,h with
 |[x,y],h=>
  simp only[qf0] at h;cases hx:VN x with
  |none=>simp[hx] at h
  |some a=>
   cases hy:VN y with
   |none=>simp[hx,hy] at h
   |some b=>
    simp only[hx,hy,qy] at h;subst h
    obtain⟨u,v,rfl,hu,hv⟩:∃u v,vs=[u,v]/\Rep ok w ι H x u/\Rep ok w ι H y v:=by
     obtain⟨hl,hh⟩:=hv
     match vs,hl with
     |[u,v],_=>exact⟨u,v,rfl,hh 0 x rfl,hh 1 y rfl⟩
    refine⟨_,?_,.int .i64 _,rfl⟩;have hc:Extern.BytealgCompare.compare [u,v].toArray=(do pure (goInt (Extern.BytealgCompare.cmp (<-Extern.Bytes.bytesOf u) (<-Extern.Bytes.bytesOf v)))):=rfl;rw[hc];simp only[Sem.run_bind,qjv hx hu,qjv hy hv,Result.andThen];rfl
def qI:List UInt8->List UInt8->Int
 |[],[]=>0
 |[],_::_=>-1
 |_::_,[]=>1
 |a::x,b::y=>if a=b then qI x y else if a<b then-1 else 1
theorem qf8(l:List UInt8):(ByteArray.mk l.toArray).size=l.length:=by
 show l.toArray.size=_;simp
theorem qlP(l:List UInt8)(i:Nat):(ByteArray.mk l.toArray)[i]! =(l[i]?).getD 0:=by
 by_cases h:i<l.length
 .have a:i<(ByteArray.mk l.toArray).size:=by rw[qf8];exact h
  rw[getElem!_pos (ByteArray.mk l.toArray) i a,qN h];rfl
 .have a:¬i<(ByteArray.mk l.toArray).size:=by rw[qf8];exact h
  rw[getElem!_neg (ByteArray.mk l.toArray) i a,List.getElem?_eq_none wC];rfl
theorem q56(a:UInt8)(x:List UInt8)(b:UInt8)(y:List UInt8):
  Extern.BytealgCompare.cmp ⟨(a::x).toArray⟩ ⟨(b::y).toArray⟩=if a=b then Extern.BytealgCompare.cmp ⟨x.toArray⟩ ⟨y.toArray⟩ else if a<b then-1 else 1:=by
 have j:min (ByteArray.mk (a::x).toArray).size (ByteArray.mk (b::y).toArray).size=min x.length y.length+1:=by
  show min (a::x).toArray.size (b::y).toArray.size=_;simp only[List.size_toArray,jA];omega
 have h:min (ByteArray.mk x.toArray).size (ByteArray.mk y.toArray).size=min x.length y.length:=by
  show min x.toArray.size y.toArray.size=_;simp
 have g:∀(c:UInt8)(z:List UInt8)(i:Nat),(ByteArray.mk (c::z).toArray)[i+1]! =(ByteArray.mk z.toArray)[i]!:=fun c z i=>by
  rw[qlP,qlP];rfl
 have d:∀(c:UInt8)(z:List UInt8),(ByteArray.mk (c::z).toArray)[0]! =c:=fun c z=>by rw[qlP];rfl
 unfold Extern.BytealgCompare.cmp;rw[j,h,List.range_succ_eq_map,List.find?_cons];simp only[d];by_cases f:a=b
 .subst f;simp only[bne_self_eq_false,if_true,List.find?_map,Function.comp_def,g,Nat.succ_eq_add_one];cases List.find? (fun i=>(ByteArray.mk x.toArray)[i]! !=(ByteArray.mk y.toArray)[i]!) (List.range (min x.length y.length)) with
  |some i=>simp only[j6,g]
  |none=>
   have e:∀(c:UInt8)(z:List UInt8),(ByteArray.mk (c::z).toArray).size=(ByteArray.mk z.toArray).size+1:=fun c z=>by
    show(c::z).toArray.size=z.toArray.size+1;simp
   simp only[Option.map_none,e,Nat.add_lt_add_iff_right,gt_iff_lt]
 .have:(a !=b)=true:=by simp[f]
  simp only[this,f,if_false,d]
theorem qvf:∀(x y:List UInt8),Extern.BytealgCompare.cmp ⟨x.toArray⟩ ⟨y.toArray⟩=qI x y
 |[],[]=>rfl
 |[],b::y=>by
  unfold Extern.BytealgCompare.cmp;rw[qf8,qf8];simp[qI]
 |a::x,[]=>by
  unfold Extern.BytealgCompare.cmp;rw[qf8,qf8];simp[qI]
 |a::x,b::y=>by rw[q56,qI,qvf x y]
theorem qvt(s:List UInt8):qb8 (qf s)=some (s.map fun b=>(b.toNat:Int)):=by
 induction s with
 |nil=>rfl
 |cons a s c=>simp only[qf,List.map_cons,qb8] at c⊢;rw[c];rfl
theorem q6c(s:List UInt8):Lib.bytesOf (s.map fun b=>(b.toNat:Int))=s:=by
 simp[Lib.bytesOf,Function.comp_def]
theorem q58(m n:Bool)(x y:List UInt8)(a:m=true->x=[])(c:n=true->y=[]):
  qf0 [.vsl m (qf x) x.length,.vsl n (qf y) y.length]=some (.int .i64 (qI x y)):=by
 have h:∀(m:Bool)(x:List UInt8),(m=true->x=[])->VN (.vsl m (qf x) x.length)=some (x.map fun b=>(b.toNat:Int)):=by
  intro m x a;cases m with
  |true=>rw[a rfl];rfl
  |false=>simp[VN,qvt]
 simp only[qf0,h m x a,h n y c,q6c,qvf]
end Go.Ev
namespace Go.Ev
section
variable {X:Cx} {f nt n0:Nat}
structure SOp where
 dst:Option Tmp
 op:Op
 g:Option (Option Tmp×Bool)
def qcP(b:Array Oper)(o:Oper):SOp:=⟨o.dst,o.op,match o.guard with
 |none=>none
 |some (j,a)=>some ((b[j]?).bind (·.dst),a)⟩
def Zq(a:Array Oper):List Oper->List SOp
 |[]=>[]
 |o::l=>qcP a o::Zq a l
def Ku(e:qu):Option (Option Tmp×Bool)->Option Bool
 |none=>some true
 |some (none,_)=>some false
 |some (some t,a)=>match qi e t with
  |some (.bool b)=>some (b==a)
  |some (.tup [])=>some false
  |_=>none
theorem qkK(b:Array Oper)(e:qu)(g:Option (Nat×Bool)):vP b e g=Ku e (match g with
  |none=>none
  |some (j,a)=>some ((b[j]?).bind (·.dst),a)):=by
 cases g with
 |none=>rfl
 |some q=>
  obtain⟨j,a⟩:=q;simp only[vP,Ku];cases(b[j]?).bind (·.dst)<;>rfl
def XT(X:Cx)(F:zF)(nt:Nat)(a:Bool):List SOp->qu->qe->Option (qu×qe)
 |[],e,H=>some (e,H)
 |o::l,e,H=>match ko nt o.dst,Ku e o.g with
  |true,some true=>match zf X F a o.op e H with
   |some (d,H')=>XT X F nt a l (jP e o.dst d) H'
   |none=>none
  |true,some false=>XT X F nt a l (jP e o.dst (.tup [])) H
  |_,_=>none
theorem qiq{F:zF}{b:Bool}(a:Array Oper):∀(l:List Oper)(e:qu)(H:qe),vX X F nt b a l e H=XT X F nt b (Zq a l) e H
 |[],e,H=>rfl
 |o::l,e,H=>by
  simp only[vX,Zq,XT,qkK a e o.guard]
  show _=match ko nt o.dst,Ku e (qcP a o).g with
   |true,some true=>match zf X F b o.op e H with
    |some (d,H')=>XT X F nt b (Zq a l) (jP e o.dst d) H'
    |none=>none
   |true,some false=>XT X F nt b (Zq a l) (jP e o.dst (.tup [])) H
   |_,_=>none
  simp only[qiq a l,qcP];rfl
variable {Q:Ex->qu->qe->Prop} {fs:List Fr} {e:qu} {H:qe}
def J1(X:Cx)(f nt n0:Nat)(Q:Ex->qu->qe->Prop)(fs:List Fr)(a:Bool)(l:List SOp)(e:qu)(H:qe):Prop:=
 Run X f nt n0 Q fs ((XT X (call X) nt a l e H).map fun(e,H)=>(.normal,e,H))
def qcE(X:Cx)(f nt n0:Nat)(Q:Ex->qu->qe->Prop)(fs:List Fr)(a:Bool)(l:List SOp)(e:qu)(dst:Option Tmp):Option (D×qe)->Prop
 |none=>False
 |some (d,H)=>J1 X f nt n0 Q fs a l (jP e dst d) H
def qcG(X:Cx)(f nt n0:Nat)(Q:Ex->qu->qe->Prop)(fs:List Fr)(a:Bool)(dst:Option Tmp)(op:Op)(c:Bool)(l:List SOp)(e:qu)(H:qe):Option D->Prop
 |some (.bool b)=>if b=c then qcE X f nt n0 Q fs a l e dst (zf X (call X) a op e H) else J1 X f nt n0 Q fs a l (jP e dst (.tup [])) H
 |some (.tup [])=>J1 X f nt n0 Q fs a l (jP e dst (.tup [])) H
 |_=>False
theorem qxF{a:Bool}:J1 X f nt n0 Q fs a [] e H=Run X f nt n0 Q fs (some (.normal,e,H)):=rfl
theorem qxE{a:Bool}{dst:Option Tmp}{op:Op}{l:List SOp}:J1 X f nt n0 Q fs a (⟨dst,op,none⟩::l) e H=
  (ko nt dst=true/\qcE X f nt n0 Q fs a l e dst (zf X (call X) a op e H)):=by
 unfold J1;simp only[XT,Ku];cases ko nt dst with
 |false=>simp[Qa]
 |true=>
  cases zf X (call X) a op e H with
  |none=>simp[qcE,Qa]
  |some q=>simp[qcE,J1]
theorem qxD{c:Bool}{dst:Option Tmp}{op:Op}{l:List SOp}{t:Tmp}{a:Bool}:J1 X f nt n0 Q fs c (⟨dst,op,some (some t,a)⟩::l) e H=
  (ko nt dst=true/\qcG X f nt n0 Q fs c dst op a l e H (qi e t)):=by
 unfold J1;simp only[XT,Ku];cases ko nt dst with
 |false=>simp[Qa]
 |true=>
  cases qi e t with
  |none=>simp[qcG,Qa]
  |some d=>
   cases d with
   |bool b=>
    by_cases g:b=a
    .subst g;simp only[beq_self_eq_true,qcG,if_true,true_and];cases zf X (call X) c op e H with
     |none=>simp[qcE,Qa]
     |some q=>simp[qcE,J1]
    .have:(b==a)=false:=xF;simp[qcG,g,this,J1]
   |tup cs=>
    cases cs with
    |nil=>simp[qcG,J1]
    |cons=>simp[qcG,Qa]
   |_=>simp[qcG,Qa]
theorem qxY{a:Bool}{dst:Option Tmp}{l:List SOp}{d:D}:qcE X f nt n0 Q fs a l e dst (some (d,H))=J1 X f nt n0 Q fs a l (jP e dst d) H:=rfl
theorem qxZ{a:Bool}{dst:Option Tmp}{l:List SOp}:qcE X f nt n0 Q fs a l e dst none=False:=rfl
theorem qyd{a:Bool}{dst:Option Tmp}{op:Op}{l:List SOp}{c b:Bool}:qcG X f nt n0 Q fs a dst op c l e H (some (.bool b))=
  if b=c then qcE X f nt n0 Q fs a l e dst (zf X (call X) a op e H) else J1 X f nt n0 Q fs a l (jP e dst (.tup [])) H:=rfl
theorem qyc{a:Bool}{dst:Option Tmp}{op:Op}{l:List SOp}{b:Bool}:qcG X f nt n0 Q fs a dst op b l e H (some (.tup []))=J1 X f nt n0 Q fs a l (jP e dst (.tup [])) H:=rfl
def qdP(X:Cx)(f nt n0:Nat)(Q:Ex->qu->qe->Prop)(fs:List Fr)(a:Bool)(l:List SOp):Option (qu×qe)->Prop
 |none=>False
 |some (e,H)=>J1 X f nt n0 Q fs a l e H
theorem qyg{a:Bool}{l:List SOp}:qdP X f nt n0 Q fs a l (some (e,H))=J1 X f nt n0 Q fs a l e H:=rfl
theorem qx7{id:Nat}{a:Array Oper}:Run X f nt n0 Q fs (zl X f nt n0 (.region id a false) e H)=qdP X f nt n0 Q fs (X.cv f id) (Zq a a.toList) (enter X f n0 id e H):=by
 rw[qi4];cases enter X f n0 id e H with
 |none=>simp[Qa,qdP]
 |some q=>simp only[qdP,J1,J0,qiq,YV]
section lp
variable {L:QX} {ow:List Nat}
noncomputable def XS(X:Cx)(F:zF)(nt:Nat)(ow:List Nat)(L:QX):Nat->List (Nat×qe×qe)->List (Nat×List Nat)->List SOp->qu->qe->Option (qu×qe)
 |_,_,_,[],e,H=>some (e,H)
 |k,ws,rs,o::l,e,H=>match ko nt o.dst,Ku e o.g with
  |true,some true=>match zf X F (Ja ow o.dst) o.op e H with
   |some (d,H')=>
    @ite _ ((Jl L k=true->qa7 L k (QG (o.op.operands.toList.map (qZ X e))) ws)/\(Jg L k=true->H.length<=H'.length/\qa6 L k H H' rs)) (Classical.propDecidable _)
     (XS X F nt ow L (k+1) (if Jg L k then(k,H,H')::ws else ws) (if Jl L k then(k,QG (o.op.operands.toList.map (qZ X e)))::rs else rs) l (jP e o.dst d) H') none
   |none=>none
  |true,some false=>XS X F nt ow L (k+1) ws rs l (jP e o.dst (.tup [])) H
  |_,_=>none
theorem quj{F:zF}(a:Array Oper):∀(l:List Oper)(k:Nat)(ws:List (Nat×qe×qe))(rs:List (Nat×List Nat))(e:qu)(H:qe),Qp X F nt ow a L k ws rs l e H=XS X F nt ow L k ws rs (Zq a l) e H
 |[],k,ws,rs,e,H=>by simp only[Zq,XS,Qp]
 |o::l,k,ws,rs,e,H=>by
  have c:=quj (F:=F) a l;rw[Qp];show _=XS X F nt ow L k ws rs (qcP a o::Zq a l) e H;rw[XS]
  show _=match ko nt o.dst,Ku e (qcP a o).g with
   |true,some true=>match zf X F (Ja ow o.dst) o.op e H with
    |some (d,H')=>
     @ite _ ((Jl L k=true->qa7 L k (QG (o.op.operands.toList.map (qZ X e))) ws)/\(Jg L k=true->H.length<=H'.length/\qa6 L k H H' rs)) (Classical.propDecidable _)
      (XS X F nt ow L (k+1) (if Jg L k then(k,H,H')::ws else ws) (if Jl L k then(k,QG (o.op.operands.toList.map (qZ X e)))::rs else rs) (Zq a l) (jP e o.dst d) H') none
    |none=>none
   |true,some false=>XS X F nt ow L (k+1) ws rs (Zq a l) (jP e o.dst (.tup [])) H
   |_,_=>none
  have h:Ku e (qcP a o).g=vP a e o.guard:=(qkK a e o.guard).symm;rw[h];cases m:ko nt o.dst with
  |false=>simp only
  |true=>
   cases j:vP a e o.guard with
   |none=>simp only
   |some b=>
    cases b with
    |false=>simp only[c]
    |true=>
     cases i:zf X F (Ja ow o.dst) o.op e H with
     |none=>simp only
     |some q=>
      obtain⟨d,f⟩:=q;simp only;by_cases hc:(Jl L k=true->qa7 L k (QG (o.op.operands.toList.map (qZ X e))) ws)/\(Jg L k=true->H.length<=f.length/\qa6 L k H f rs)
      .rw[if_pos hc,if_pos hc];exact c _ _ _ _ _
      .rw[if_neg hc,if_neg hc]
def JY(X:Cx)(f nt n0:Nat)(Q:Ex->qu->qe->Prop)(fs:List Fr)(ow:List Nat)(L:QX)(k:Nat)(ws:List (Nat×qe×qe))(rs:List (Nat×List Nat))(l:List SOp)(e:qu)(H:qe):Prop:=
 Run X f nt n0 Q fs ((XS X (call X) nt ow L k ws rs l e H).map fun(e,H)=>(.normal,e,H))
def qdO(X:Cx)(f nt n0:Nat)(Q:Ex->qu->qe->Prop)(fs:List Fr)(ow:List Nat)(L:QX)(k:Nat)(ws:List (Nat×qe×qe))(rs:List (Nat×List Nat))(a:List Nat)(l:List SOp)(e:qu)(dst:Option Tmp)(H:qe):Option (D×qe)->Prop
 |none=>False
 |some (d,H')=>(Jl L k=true->qa7 L k a ws)/\(Jg L k=true->H.length<=H'.length/\qa6 L k H H' rs)/\
   JY X f nt n0 Q fs ow L (k+1) (if Jg L k then(k,H,H')::ws else ws) (if Jl L k then(k,a)::rs else rs) l (jP e dst d) H'
def qcF(X:Cx)(f nt n0:Nat)(Q:Ex->qu->qe->Prop)(fs:List Fr)(ow:List Nat)(L:QX)(k:Nat)(ws:List (Nat×qe×qe))(rs:List (Nat×List Nat))(c:List Nat)(dst:Option Tmp)(op:Op)(a:Bool)(l:List SOp)(e:qu)(H:qe):Option D->Prop
 |some (.bool b)=>if b=a then qdO X f nt n0 Q fs ow L k ws rs c l e dst H (zf X (call X) (Ja ow dst) op e H) else JY X f nt n0 Q fs ow L (k+1) ws rs l (jP e dst (.tup [])) H
 |some (.tup [])=>JY X f nt n0 Q fs ow L (k+1) ws rs l (jP e dst (.tup [])) H
 |_=>False
variable {k:Nat} {ws:List (Nat×qe×qe)} {rs:List (Nat×List Nat)}
theorem qxI:JY X f nt n0 Q fs ow L k ws rs [] e H=Run X f nt n0 Q fs (some (.normal,e,H)):=by unfold JY;simp only[XS];rfl
theorem qni{dst:Option Tmp}{op:Op}{l:List SOp}:Run X f nt n0 Q fs (Option.map (fun(e,H)=>(Ex.normal,e,H)) (match zf X (call X) (Ja ow dst) op e H with
   |some (d,H')=>
    @ite _ ((Jl L k=true->qa7 L k (QG (op.operands.toList.map (qZ X e))) ws)/\(Jg L k=true->H.length<=H'.length/\qa6 L k H H' rs)) (Classical.propDecidable _)
     (XS X (call X) nt ow L (k+1) (if Jg L k then(k,H,H')::ws else ws) (if Jl L k then(k,QG (op.operands.toList.map (qZ X e)))::rs else rs) l (jP e dst d) H') none
   |none=>none))=qdO X f nt n0 Q fs ow L k ws rs (QG (op.operands.toList.map (qZ X e))) l e dst H (zf X (call X) (Ja ow dst) op e H):=by
 cases zf X (call X) (Ja ow dst) op e H with
 |none=>simp[qdO,Qa]
 |some q=>
  obtain⟨d,a⟩:=q;simp only[qdO,JY];by_cases hc:(Jl L k=true->qa7 L k (QG (op.operands.toList.map (qZ X e))) ws)/\(Jg L k=true->H.length<=a.length/\qa6 L k H a rs)
  .rw[if_pos hc];exact propext ⟨fun h=>⟨hc.1,hc.2,h⟩,fun h=>h.2.2⟩
  .rw[if_neg hc];simp only[Option.map_none,Qa];exact propext ⟨fun h=>h.elim,fun h=>hc ⟨h.1,h.2.1⟩⟩
theorem qxH{dst:Option Tmp}{op:Op}{l:List SOp}:JY X f nt n0 Q fs ow L k ws rs (⟨dst,op,none⟩::l) e H=
  (ko nt dst=true/\qdO X f nt n0 Q fs ow L k ws rs (QG (op.operands.toList.map (qZ X e))) l e dst H (zf X (call X) (Ja ow dst) op e H)):=by
 rw[<-qni];unfold JY;simp only[XS,Ku];cases ko nt dst with
 |false=>simp[Qa]
 |true=>simp
theorem qxG{dst:Option Tmp}{op:Op}{l:List SOp}{t:Tmp}{a:Bool}:JY X f nt n0 Q fs ow L k ws rs (⟨dst,op,some (some t,a)⟩::l) e H=
  (ko nt dst=true/\qcF X f nt n0 Q fs ow L k ws rs (QG (op.operands.toList.map (qZ X e))) dst op a l e H (qi e t)):=by
 unfold JY;simp only[XS,Ku];cases ko nt dst with
 |false=>simp[Qa]
 |true=>
  cases qi e t with
  |none=>simp[qcF,Qa]
  |some d=>
   cases d with
   |bool b=>
    by_cases c:b=a
    .subst c;simp only[beq_self_eq_true,qcF,if_true,true_and];rw[<-qni]
    .have:(b==a)=false:=wS;simp[qcF,c,this,JY]
   |tup cs=>
    cases cs with
    |nil=>simp[qcF,JY]
    |cons=>simp[qcF,Qa]
   |_=>simp[qcF,Qa]
theorem qya{dst:Option Tmp}{l:List SOp}{d:D}{a:List Nat}{H':qe}:qdO X f nt n0 Q fs ow L k ws rs a l e dst H (some (d,H'))=((Jl L k=true->qa7 L k a ws)/\(Jg L k=true->H.length<=H'.length/\qa6 L k H H' rs)/\
   JY X f nt n0 Q fs ow L (k+1) (if Jg L k then(k,H,H')::ws else ws) (if Jl L k then(k,a)::rs else rs) l (jP e dst d) H'):=rfl
theorem qyb{dst:Option Tmp}{l:List SOp}{a:List Nat}:qdO X f nt n0 Q fs ow L k ws rs a l e dst H none=False:=rfl
theorem qyf{dst:Option Tmp}{op:Op}{l:List SOp}{a b:Bool}{c:List Nat}:qcF X f nt n0 Q fs ow L k ws rs c dst op a l e H (some (.bool b))=
  if b=a then qdO X f nt n0 Q fs ow L k ws rs c l e dst H (zf X (call X) (Ja ow dst) op e H) else JY X f nt n0 Q fs ow L (k+1) ws rs l (jP e dst (.tup [])) H:=rfl
theorem qye{dst:Option Tmp}{op:Op}{l:List SOp}{a:Bool}{b:List Nat}:qcF X f nt n0 Q fs ow L k ws rs b dst op a l e H (some (.tup []))=JY X f nt n0 Q fs ow L (k+1) ws rs l (jP e dst (.tup [])) H:=rfl
def qgT(X:Cx)(f nt n0:Nat)(Q:Ex->qu->qe->Prop)(fs:List Fr)(a:Bool):Option (QX×List Nat)->List SOp->Option (qu×qe)->Prop
 |none,l,o=>qdP X f nt n0 Q fs a l o
 |some (L,ow),l,some (e,H)=>JY X f nt n0 Q fs ow L 0 [] [] l e H
 |_,_,none=>False
theorem qxJ{a:Bool}{l:List SOp}{o:Option (qu×qe)}:qgT X f nt n0 Q fs a none l o=qdP X f nt n0 Q fs a l o:=rfl
theorem qxK{a:Bool}{l:List SOp}:qgT X f nt n0 Q fs a (some (L,ow)) l (some (e,H))=JY X f nt n0 Q fs ow L 0 [] [] l e H:=rfl
end lp
theorem qx6{id:Nat}{a:Array Oper}:Run X f nt n0 Q fs (zl X f nt n0 (.region id a true) e H)=qgT X f nt n0 Q fs (!qcY a.toList) (X.lp f id) (Zq a a.toList) (enter X f n0 id e H):=by
 rw[qi4];cases c:enter X f n0 id e H with
 |none=>cases b:X.lp f id<;>simp[Qa,qdP,qgT]
 |some q=>cases b:X.lp f id<;>simp only[qdP,J1,qgT,JY,J0,b,qiq,quj,YV]
theorem qwP(a:Array Oper)(dst:Option Tmp)(op:Op)(ty:TypeId)(pos:String)(b:Array Edge)(l:List Oper):Zq a ({dst:=dst,op:=op,type:=ty,pos:=pos,after:=b,guard:=none}::l)=⟨dst,op,none⟩::Zq a l:=rfl
theorem qwO(b:Array Oper)(dst:Option Tmp)(op:Op)(ty:TypeId)(pos:String)(c:Array Edge)(j:Nat)(a:Bool)(l:List Oper):
  Zq b ({dst:=dst,op:=op,type:=ty,pos:=pos,after:=c,guard:=some (j,a)}::l)=⟨dst,op,some ((b[j]?).bind (·.dst),a)⟩::Zq b l:=rfl
theorem qwN(a:Array Oper):Zq a []=[]:=rfl
end
attribute [simp] Ja Op.operands Call.operands QG YN Jg Jl qa7 qa6 qxI qxH qxG qya qyb qyf qye qxJ qxK qxF qxE qxD qxY qxZ qyd qyc qyg qx7 qx6 qcY qsE qwP qwO qwN
end Go.Ev
namespace Go.Ev
@[simp] theorem q6y (H L:qe) (k:Nat):(H++L)[H.length+k]?=L[k]?:=by rw[jn (Nat.le_add_right _ _),Nat.add_sub_cancel_left]
@[simp] theorem qAu (H L:qe):(H++L)[H.length]?=L[0]?:=q6y H L 0
@[simp] theorem q6v (H L:qe) (k:Nat) (x:Option (List D)):(H++L).set (H.length+k) x=H++L.set k x:=by
 rw[List.set_append_right _ _ (Nat.le_add_right _ _),Nat.add_sub_cancel_left]
@[simp] theorem qAt (H L:qe) (x:Option (List D)):(H++L).set H.length x=H++L.set 0 x:=q6v H L 0 x
end Go.Ev
namespace Go.Ev
open Go Go.Proofs Go.ChangeShapes Go.WideShapes Go.ChangeAt Go.RowKit
theorem qyM{H:Type}{enc:TypeId×Value->H}{P:Program}{f:Func}{s:ChangeSpec}{apart l d k:Bool}{W m:World}{args:Array Value}{v:Value}{ds n:List (DataW H)}{a pa pv:List MemPlace}
  (u:DataW.Whole enc P f.params.toList s.vars apart W args.toList ds n a)
  (g:∀(b:Nat)(i:Nat->Bool)(E:Bool),DataW.TrodAll enc P m b i E f.resultTypes.toList (v.resultList f.resultTypes.size) (s.fn H (ds++n)).results [])
  (o:∀i:Nat->Bool,(∀p∈a,i p.block=true)->DataW.TrodAll enc P m 0 i true f.params.toList args.toList (s.fn H (ds++n)).args pa)
  (e:∀i:Nat->Bool,(∀p∈a,i p.block=true)->DataW.TrodVars enc P m i s.vars (s.fn H (ds++n)).vars pv)
  (q:a=pa++pv) (y:Below W.heap.size W m)
  (z:∀(j:Nat)(t:TypeId)(r:Value),f.resultTypes[j]?=some t->(v.resultList f.resultTypes.size)[j]?=some r->Value.okWide P m .any 0 t r):
  s.post enc P f apart l d k W args v m:=by
 have w:∀p∈a,p.block<W.heap.size:=fun p c=>u.lt p c;have h:∀p∈a,(fun b=>decide (b<W.heap.size)) p.block=true:=fun p c=>by simpa using w p c
 refine⟨ds,n,a,[],pa,pv,u,g _ _ _,o _ h,e _ h,World.keptBut_mono (fun p c=>⟨c,?_⟩) (y.frame (·∈a)),fun _=>?_⟩
 .rw[q,vj] at c;exact Or.inr c
 .obtain⟨_,_,_,_,_,B,A⟩:=u;refine⟨z,_,_,([]++pa)++pv,⟨[]++pa,pv,trodAll_append (o _ (fun _ _=>rfl)) (g _ _ _),e _ (fun _ _=>rfl),rfl,?_,?_⟩,?_⟩
  .intro b off c;have x:MemPlace.cell b off∈a:=(by rw[q];simpa using c);rw[y.frozen (w _ x)];exact B b off x
  .intro C;have:=A C;rw[q] at this;simpa using this
  .intro p c _;rw[q];simpa using c
theorem qms{H:Type}{enc:TypeId×Value->H}{P:Program}(g:laidOutB P=true){W d:World}{f:Nat->Bool}(i:Below W.heap.size W d):
  ∀{ts:List TypeId}{vs:List Value}{ds:List (DataW H)}{ps:List MemPlace},(ts.all fun t=>P.readableRec t&&decide (t<P.types.size))=true->
   DataW.TrodAll enc P W 0 (fun _=>true) true ts vs ds ps->(∀p∈ps,p.block<W.heap.size)->(∀p∈ps,f p.block=true)->DataW.TrodAll enc P d 0 f true ts vs ds ps
 |[],[],[],_,_,h,_,_=>h
 |_::_,_::_,_::_,_,a,⟨p,q,j,k,e⟩,b,c=>by
  simp only[Vc,zX,decide_eq_true_eq] at a;subst e
  exact⟨p,q,WideElems.Trod_stays g a.1.1 a.1.2 j (fun x hx=>i.same (b x (qaA _ hx))) (fun x hx=>c x (qaA _ hx)),
   qms g i (by simpa using a.2) k (fun x hx=>b x (List.mem_append_right _ hx)) (fun x hx=>c x (List.mem_append_right _ hx)),rfl⟩
theorem q0M{H:Type}{enc:TypeId×Value->H}{X:Cx}(O:Good X)(U:laidOutB X.P=true){f:Nat}{fn:Func}{Q:TypeId}(J:X.P.funcs[f]?=some fn)(Y:fn.body.isSome=true)
  (k:fn.resultTypes= #[Q]) (u:X.P.underlying Q=some .bool) (w:(fn.params.toList.all fun t=>X.P.readableRec t&&decide (t<X.P.types.size))=true)
  {s:ChangeSpec} (B:s.vars=[]) {W:World} {args:Array Value} {ds E:List (DataW H)} {h:List MemPlace}
  (m:∀g cs,X.glob g=some cs->Rep (· <W.heap.size) W jB [] (.vptr cs) (.pointer (some ⟨g,0,none⟩)))
  (M:DataW.Whole enc X.P fn.params.toList s.vars false W args.toList ds E h) (G:(s.fn H (ds++E)).results=[.lit (.bool true)]/\(s.fn H (ds++E)).args=ds/\(s.fn H (ds++E)).vars=[])
  {dd:List D} {L:qe} (V:RepL (· <W.heap.size) W jB [] dd args.toList) (hc:call X f dd []=some (.bool true,L)):
  Calls X.P f args W fun e I=>∃v,e=.returned v/\s.post enc X.P fn false true false false W args v I:=by
 have z:Sim X (· <W.heap.size) W jB []:=⟨fun b C=>C,m,fun i j ds es b s s' n=>by simp[qd] at n,fun i ds n=>by simp[qd] at n⟩;have d:=qlF O f dd [] _ _ _ W jB args.toList hc z V;obtain⟨c,C⟩:=Option.isSome_iff_exists.1 Y;have R:(callFunc f args.toList.toArray).run X.P W=.ok (.enter f args.toList.toArray) W:=Go.Proofs.enters_of J (O.ng f fn J) (by rw[C]) _ _;unfold Goes at d;rw[R] at d;simp only[Array.toArray_toList] at d;refine d.mono ?_;rintro e I ⟨v,rfl,ι',ok',_,y,a,_⟩;refine⟨v,rfl,?_⟩;cases y;have l:Below W.heap.size W I:=⟨a.os,a.tape,a.output,a.size,fun b C=>a.frame b C (fun i ds s n=>by simp[qd] at n)⟩;have A:=M;obtain⟨p,q,S,N,rfl,QK,Z⟩:=M;rw[B] at N;obtain⟨rfl,rfl⟩:=trodVars_none N;refine qyM (pa:=p) (pv:=[]) A (fun b K n=>?_) (fun K T=>?_) (fun K _=>?_) rfl l ?_
 .rw[G.1,k];exact trodAll_cons_mk (shut_bool u _) trodAll_mk0
 .rw[G.2.1];exact qms U l w S (fun x hx=>A.lt x (qaA _ hx)) (fun x hx=>T x (qaA _ hx))
 .rw[G.2.2,B];rfl
 .rw[k];intro j t r o F;cases j with
  |zero=>
   simp only[List.size_toArray,jA,kf] at o F;injection o with o;subst o
   have:r=.bool true:=by
    simp only[Value.resultList] at F;simpa using F.symm
   subst this;exact okWide_bool_mk u _
  |succ j=>simp at o
def Ze(k:IntKind)(l:List Int):List D:=l.map (.int k ·)
theorem qy7{H:Type}{enc:TypeId×Value->H}{P:Program}{W:World}{t e:TypeId}{k:IntKind}{v:Value}{d:DataW H}{ps:List MemPlace}{base:Nat}(m:P.underlying t=some (.slice e))(B:P.underlying e=some (.int k))(hc:P.cellsOf e=1)
  (l:Value.okWide P W .any base t v) (h:DataW.Trod enc P W 0 (fun _=>true) true t v d ps):
  ∃(nil:Bool)(zs:List Int),Rep (· <W.heap.size) W jB [] (.vsl nil (Ze k zs) zs.length) v/\(nil=true->zs=[])/\(∀n∈zs,(Lit.int k n).wf=true)/\zs.length<9223372036854775808:=by
 obtain⟨n,p⟩:=h;obtain⟨G,w,u,rfl⟩:=okWide_slice m l;rcases open_ints m B hc p with⟨b,hx⟩|⟨a,c,A,zs,b,I,z,F,C,hx,E,r⟩
 .simp only[Value.cells,qaB,and_true] at b;rw[b];exact⟨true,[],.vnil,fun _=>rfl,wE,wH⟩
 .simp only[Value.cells,qaB,and_true] at b;rw[b] at l⊢;simp only[if_true] at C;have f:(zs.take c).length=c:=by rw[jj];omega
  have i:a.block<W.heap.size:=by
   simp only[Value.okWide,m,Cell.okWide,Cell.ok] at l;obtain⟨_,_,_,_,row,o,q,_⟩:=l;unfold World.shape? at q;rcases KE a.block W.heap.size with h|h
   .exact h
   .rw[qfI h] at q;simp at q
  refine⟨false,zs.take c,?_,wE,fun n p=>r n (QZ p),by rw[f];unfold maxLen at F;omega⟩;rw[f];refine .vsl a (fun j=>.int k (zs.getD j 0)) (fun _ _=>i) (fun d x=>?_) (fun j d g=>?_) (fun j d g=>?_) z
  .simp only[Ze,ZM] at x;obtain⟨n,_,rfl⟩:=x;rfl
  .have s:j<c:=by
    have:=(List.getElem?_eq_some_iff.1 g).1;simp[Ze] at this;omega
   exact E j wC
  .have s:j<c:=by
    have:=(List.getElem?_eq_some_iff.1 g).1;simp[Ze] at this;omega
   have:d=.int k (zs.getD j 0):=by
    simp only[Ze,Vb,List.getElem?_take_of_lt s] at g;have y:j<zs.length:=wC;rw[qN y] at g;simp only[j6,qy] at g;rw[<-g,jv,qN y];rfl
   rw[this];exact .int _ _
end Go.Ev
namespace Go.Ev
open Go Go.Proofs
def qgf(X:Cx)(n:Nat):Bool:=match X.P.funcs[n]? with
 |some fn=>(fn.name != "runtime.NumGoroutine")&&match fn.body with
  |some c=>X.bad n||Z4 X n c
  |none=>true
 |none=>true
def Yj(X:Cx)(a:Nat):Nat->Bool
 |0=>true
 |k+1=>Yj X a k&&qgf X (a+k)
theorem qaS{X:Cx}{a:Nat}:∀{k:Nat},Yj X a k=true->∀{f:Nat},a<=f->f<a+k->qgf X f=true
 |0,_,f,b,d=>by omega
 |k+1,h,f,b,d=>by
  simp only[Yj,zX] at h;by_cases c:f=a+k
  .rw[c];exact h.2
  .exact qaS h.1 b wC
theorem qoj{X:Cx}{f:Nat}{fn:Func}(h:qgf X f=true)(hfn:X.P.funcs[f]?=some fn):(fn.name== "runtime.NumGoroutine")=false/\∀c,fn.body=some c->X.bad f=false->Z4 X f c=true:=by
 simp only[qgf,hfn,zX,bne_iff_ne,ne_eq] at h;refine⟨by simpa using h.1,fun c hc hb=>?_⟩;have h3:=h.2;simpa[hc,hb] using h3
class Enc (α:Type) where
 size:Nat
 cells:α->List D
 len:∀a,(cells a).length=size
 free:∀a,(cells a).all idFree=true
section
variable {α:Type} [Enc α]
def qt(l:List α):List D:=(l.map Enc.cells).flatten
@[simp] theorem qvm (a:α):(Enc.cells a).all idFree=true:=Enc.free a
@[simp] theorem qlC (a:α):idFree.idFreeL (Enc.cells a)=true:=by rw[Qv];exact Enc.free a
@[simp] theorem q5C (n:Nat) (a:α):(Enc.cells a).all (closed n)=true:=by
 rw[<-ql8];exact qa4 n _ (qlC a)
@[simp] theorem qAl (n:Nat) (a:α):closed.closedL n (Enc.cells a)=true:=qa4 n _ (qlC a)
@[simp] theorem qAm (a:α):(∀x,x∈Enc.cells a->idFree x=true)=True:=eq_true (List.all_eq_true.1 (qvm a))
@[simp] theorem qAn (n:Nat) (a:α):(∀x,x∈Enc.cells a->closed n x=true)=True:=eq_true (List.all_eq_true.1 (q5C n a))
@[simp] theorem q9E:qt ([]:List α)=[]:=rfl
theorem Ky(a:α)(l:List α):qt (a::l)=Enc.cells a++qt l:=rfl
theorem qfw(a:α):qt [a]=Enc.cells a:=by simp[qt]
theorem qiw(a b:List α):qt (a++b)=qt a++qt b:=by simp[qt]
theorem qc3(l:List α)(a:α):qt (l++[a])=qt l++Enc.cells a:=by rw[qiw,qfw]
theorem ZZ(l:List α):(qt l).length=l.length*Enc.size α:=by
 induction l with
 |nil=>simp
 |cons a l b=>rw[Ky,zp,Enc.len,b,jA,kt,Nat.one_mul];omega
theorem Kx{n:Nat}(a:n=Enc.size α)(l:List α):(qt l).length=l.length*n:=by rw[a,ZZ]
theorem qa3{n:Nat}(b:n=Enc.size α):∀(l:List α)(i:Nat),(qt l).drop (i*n)=qt (l.drop i)
 |[],i=>by simp
 |a::l,0=>by simp
 |a::l,i+1=>by
  have c:(i+1)*n=n+i*n:=yI
  rw[Ky,c,<-ky,KH (by rw[Enc.len,b]),List.drop_succ_cons,qa3 b l i]
theorem qa2{n:Nat}(c:n=Enc.size α):∀(l:List α)(i:Nat),(qt l).take (i*n)=qt (l.take i)
 |[],i=>by simp
 |a::l,0=>by simp
 |a::l,i+1=>by
  have d:(i+1)*n=n+i*n:=yI
  have b:(Enc.cells a).length=n:=by rw[Enc.len,c]
  rw[Ky,d,<-b,Zp,qJ (Nat.le_add_right _ _),Nat.add_sub_cancel_left,b,qa2 c l i,List.take_succ_cons,Ky]
theorem XW{n:Nat}(a:n=Enc.size α){l:List α}{i:Nat}(hi:i<l.length):(qt l).drop (i*n)=Enc.cells l[i]++qt (l.drop (i+1)):=by
 rw[qa3 a,zZ hi,Ky]
theorem qc6{n:Nat}(b:n=Enc.size α)(a:α)(r:List D):(Enc.cells a++r).take n=Enc.cells a:=List.take_left' (by rw[Enc.len,b])
theorem qc5{n:Nat}(b:n=Enc.size α)(a:α):(Enc.cells a).take n=Enc.cells a:=qJ (by rw[Enc.len,b];exact qA _)
theorem qc7{n:Nat}(b:n=Enc.size α)(a:α)(r:List D):(Enc.cells a++r).drop n=r:=KH (by rw[Enc.len,b])
theorem XV{n:Nat}(c:n=Enc.size α)(m:α):∀(l:List α){j:Nat},j<l.length->zU (qt l) (j*n) (Enc.cells m)=qt (l.set j m)
 |[],j,d=>by simp at d
 |a::l,j,d=>by
  have b:(Enc.cells a).length=n:=by rw[Enc.len,c]
  have f:(Enc.cells m).length=n:=by rw[Enc.len,c]
  cases j with
  |zero=>
   simp only[zU,Nat.zero_mul,List.take_zero,QY,J3,f,List.set_cons_zero,Ky];rw[KH b]
  |succ j=>
   have e:=XV c m l (j:=j) ww;have g:(j+1)*n=n+j*n:=yI;simp only[zU,f] at e⊢;rw[List.set_cons_succ,Ky,Ky,<-e,g,qgV,<-ky,KH b,<-b,Zp,qJ (Nat.le_add_right _ _),Nat.add_sub_cancel_left];simp
@[simp] theorem qu5 (l:List α):(qt l).all idFree=true:=by
 induction l with
 |nil=>rfl
 |cons a l b=>rw[Ky,List.all_append,b,qvm];rfl
@[simp] theorem qlj (l:List α):idFree.idFreeL (qt l)=true:=by rw[Qv];exact qu5 l
@[simp] theorem qiv (n:Nat) (l:List α):(qt l).all (closed n)=true:=by
 rw[<-ql8];exact qa4 n _ (qlj l)
@[simp] theorem q9F (n:Nat) (l:List α):closed.closedL n (qt l)=true:=qa4 n _ (qlj l)
@[simp] theorem q9G (l:List α):(∀x,x∈qt l->idFree x=true)=True:=eq_true (List.all_eq_true.1 (qu5 l))
@[simp] theorem q9H (n:Nat) (l:List α):(∀x,x∈qt l->closed n x=true)=True:=eq_true (List.all_eq_true.1 (qiv n l))
structure Sl (α:Type) where
 nil:Bool
 l:List α
 h:nil=true->l=[]
omit [Enc α] in
theorem Sl.nn{s:Sl α}{i:Nat}(h:i<s.l.length):s.nil=false:=by
 cases a:s.nil with
 |false=>rfl
 |true=>rw[s.h a] at h;simp at h
end
def Sl.of{α:Type}(l:List α):Sl α:=⟨false,l,wE⟩
def Sl.none{α:Type}:Sl α:=⟨true,[],wE⟩
@[simp] theorem Sl.of_l {α:Type} (l:List α):(Sl.of l).l=l:=rfl
@[simp] theorem Sl.of_nil {α:Type} (l:List α):(Sl.of l).nil=false:=rfl
@[simp] theorem Sl.none_l {α:Type}:(Sl.none:Sl α).l=[]:=rfl
@[simp] theorem Sl.none_nil {α:Type}:(Sl.none:Sl α).nil=true:=rfl
theorem qwY{H:qe}{n:Nat}{d:D}(h:idFree d=true):j8 H (n+1) d=some (d,[]):=by
 unfold j8;rw[if_pos h]
theorem qjq{H:qe}{n:Nat}:∀{l:List D},idFree.idFreeL l=true->kg (j8 H (n+1)) l=some (l,[])
 |[],_=>rfl
 |d::l,h=>by
  simp only[idFree.idFreeL,zX] at h;simp only[kg,qwY h.1,qjq h.2,Jd]
theorem qmA{g:D->Option (D×List Nat)}:∀(a b:List D),kg g (a++b)=match kg g a,kg g b with
  |some (x,p),some (y,q)=>some (x++y,p++q)
  |_,_=>none
 |[],b=>by
  simp only[QY,kg];cases kg g b with
  |none=>rfl
  |some q=>obtain⟨y,q⟩:=q;rfl
 |d::a,b=>by
  simp only[kC,kg,qmA a b];cases g d with
  |none=>rfl
  |some r=>
   obtain⟨r,i⟩:=r;cases kg g a with
   |none=>rfl
   |some p=>
    obtain⟨x,p⟩:=p;cases kg g b with
    |none=>rfl
    |some q=>obtain⟨y,q⟩:=q;simp
theorem qwZ{H:qe}{l:List D}(h:idFree.idFreeL l=true):kg (j8 H 8) l=some (l,[]):=qjq h
theorem qxa{H:qe}{l:List D}(h:idFree.idFreeL l=true):kg (j8 H 7) l=some (l,[]):=qjq h
attribute [simp] qmA qwZ qxa
theorem qfW{X:Cx}{f nt n0:Nat}{Q:Ex->qu->qe->Prop}{fs:List Fr}{e:qu}{H:qe}{c:Code}(h:Run X f nt n0 (fun a e H=>a≠.normal/\Run X f nt n0 Q fs (some (a,e,H))) [] (zl X f nt n0 c e H)):
  Run X f nt n0 Q fs (zl X f nt n0 (.loop c) e H):=by
 rw[qgH];cases b:zl X f nt n0 c e H with
 |none=>rw[b,Qa] at h;exact h.elim
 |some q=>
  obtain⟨a,g,d⟩:=q;rw[b,KK] at h;cases a with
  |normal=>exact absurd rfl h.1
  |exit i=>exact h.2
  |ret=>exact h.2
theorem Run.loopThen{X:Cx}{f nt n0:Nat}{Q:Ex->qu->qe->Prop}{fs:List Fr}{c:Code}{σ:Type}(I:σ->qu->qe->Prop)(m:σ->Nat)(s:σ){e:qu}{H:qe}(g:I s e H)
  (step:∀s e H,I s e H->Run X f nt n0 (fun ex b H'=>match ex with| .normal=>∃d,m d<m s/\I d b H'|ex=>Run X f nt n0 Q fs (some (ex,b,H'))) [] (zl X f nt n0 c e H)):
  Run X f nt n0 Q fs (zl X f nt n0 (.loop c) e H):=by
 have h:=Run.loop (Q:=fun ex e H=>ex≠.normal/\Run X f nt n0 Q fs (some (ex,e,H))) I m (fun s e H hi=>by
  refine Run.mono (step s e H hi) ?_;intro ex b H' a;rw[KK];cases ex with
  |normal=>exact a
  |exit i=>exact⟨wE,a⟩
  |ret=>exact⟨wE,a⟩) s e H g
 exact Run.mono h fun ex e H a=>a.2
theorem Vd{X:Cx}{f nt n0:Nat}{Q:Ex->qu->qe->Prop}{fs:List Fr}{c:Code}{e:qu}{H:qe}
  (h:Run X f nt n0 (fun ex b H'=>match ex with| .normal=>Run X f nt n0 Q fs (zl X f nt n0 (.loop c) b H')|ex=>Run X f nt n0 Q fs (some (ex,b,H'))) [] (zl X f nt n0 c e H)):
  Run X f nt n0 Q fs (zl X f nt n0 (.loop c) e H):=by
 rw[qgH];cases a:zl X f nt n0 c e H with
 |none=>rw[a,Qa] at h;exact h.elim
 |some q=>
  obtain⟨ex,g,d⟩:=q;rw[a,KK] at h;cases ex with
  |normal=>exact h
  |exit i=>exact h
  |ret=>exact h
def qlW(X:Cx)(z:Bool)(rs:List ResultVar)(n0:Nat)(P:D×qe->Prop):Ex->qu->qe->Prop
 | .exit _,_,_=>False
 |_,e,H=>∃r,(QL X e H rs).bind (fun ds=>Qb z n0 H (Vy ds))=some r/\P r
theorem q4h{X:Cx}{z:Bool}{rs:List ResultVar}{n0:Nat}{P:D×qe->Prop}{e:qu}{H:qe}:qlW X z rs n0 P .ret e H=∃r,(QL X e H rs).bind (fun ds=>Qb z n0 H (Vy ds))=some r/\P r:=rfl
theorem q4i{X:Cx}{z:Bool}{rs:List ResultVar}{n0:Nat}{P:D×qe->Prop}{e:qu}{H:qe}:qlW X z rs n0 P .normal e H=∃r,(QL X e H rs).bind (fun ds=>Qb z n0 H (Vy ds))=some r/\P r:=rfl
theorem Vp{X:Cx}{f:Nat}{H:qe}{fn:Func}{args:List D}(P:D×qe->Prop)(e:X.P.funcs[f]?=some fn)(j:fn.body.isSome=true)(a:X.bad f=false/\X.con f args H=none)
  (h:Run X f fn.ntmps H.length (qlW X (X.fzr f) fn.results.toList H.length P) [] (zl X f fn.ntmps H.length (jO (Q6 fn)) (kr 0 args) H)) (g:(X.gr f&&X.byRef f)=false:=by rfl):∃r,call X f args H=some r/\P r:=by
 cases b:zl X f fn.ntmps H.length (jO (Q6 fn)) (kr 0 args) H with
 |none=>rw[b,Qa] at h;exact h.elim
 |some q=>
  obtain⟨k,m,l⟩:=q;rw[b,KK] at h;cases k with
  |exit i=>exact h.elim
  |normal=>
   obtain⟨r,c,d⟩:=h;exact⟨r,qC e j a (by rw[b,KK,qkZ];exact c) g,d⟩
  |ret=>
   obtain⟨r,c,d⟩:=h;exact⟨r,qC e j a (by rw[b,KK,qkY];exact c) g,d⟩
attribute [simp] q4h q4i
def qiQ(X:Cx)(z:Bool)(rs:List ResultVar)(P:D×qe->Prop):Ex->qu->qe->Prop
 | .exit _,_,_=>False
 |_,e,H=>∃r,(QL X e H rs).bind (fun ds=>qeg z H (Vy ds))=some r/\P r
theorem q4f{X:Cx}{z:Bool}{rs:List ResultVar}{P:D×qe->Prop}{e:qu}{H:qe}:qiQ X z rs P .ret e H=∃r,(QL X e H rs).bind (fun ds=>qeg z H (Vy ds))=some r/\P r:=rfl
theorem q4g{X:Cx}{z:Bool}{rs:List ResultVar}{P:D×qe->Prop}{e:qu}{H:qe}:qiQ X z rs P .normal e H=∃r,(QL X e H rs).bind (fun ds=>qeg z H (Vy ds))=some r/\P r:=rfl
theorem vz{X:Cx}{f:Nat}{H:qe}{fn:Func}{args:List D}(P:D×qe->Prop)(n:X.P.funcs[f]?=some fn)(m:fn.body.isSome=true)(b:X.bad f=false/\X.con f args H=none)
  (h:Run X f fn.ntmps H.length (qiQ X (X.fzr f) fn.results.toList P) [] (zl X f fn.ntmps H.length (jO (Q6 fn)) (kr 0 args) H)) (p:(X.gr f&&X.byRef f)=true:=by rfl):∃r,call X f args H=some r/\P r:=by
 rw[qi3] at h;cases e:fn.body with
 |none=>rw[e] at m;cases m
 |some c=>
  have hc:Q6 fn=c:=by simp only[Q6,e,Va]
  rw[hc] at h;rw[qiB b.2 n e b.1,p];cases j:zl X f fn.ntmps H.length c (kr 0 args) H with
  |none=>rw[j,Qa] at h;exact h.elim
  |some q=>
   obtain⟨o,l,k⟩:=q;rw[j,KK] at h;cases o with
   |exit i=>exact h.elim
   |normal=>
    obtain⟨r,a,g⟩:=h;cases d:QL X l k fn.results.toList with
    |none=>rw[d] at a;cases a
    |some ds=>rw[d] at a;exact⟨r,by simpa[d,qbN] using a,g⟩
   |ret=>
    obtain⟨r,a,g⟩:=h;cases d:QL X l k fn.results.toList with
    |none=>rw[d] at a;cases a
    |some ds=>rw[d] at a;exact⟨r,by simpa[d,qbN] using a,g⟩
attribute [simp] q4f q4g qeg
end Go.Ev
namespace Go.Ev
open Go Go.Proofs
def qcX(P:Program)(g:TypeId->Bool):List Field->Nat->Nat->Bool
 |[],off,a=>off==a
 |f::fs,off,a=>f.offset==off&&g f.type&&qcX P g fs (off+P.cellsOf f.type) a
def qdR(P:Program):Nat->TypeId->Bool
 |0,_=>false
 |n+1,t=>match P.underlying t with
  |some .bool=>true
  |some (.int _)=>true
  |some .string=>true
  |some (.slice e)=>qdR P n e
  |some (.array m e)=>qdR P n e&&P.cellsOf t==m*P.cellsOf e
  |some (.struct fs)=>qcX P (qdR P n) fs.toList 0 (P.cellsOf t)
  |_=>false
def qlV(P:Program)(g:TypeId->List D->Prop):List Field->List D->Prop
 |[],cs=>cs=[]
 |f::fs,cs=>∃a b,cs=a++b/\a.length=P.cellsOf f.type/\g f.type a/\qlV P g fs b
def Je(P:Program):Nat->TypeId->List D->Prop
 |0,_,_=>False
 |n+1,t,cs=>match P.underlying t with
  |some .bool=>∃b,cs=[.bool b]
  |some (.int k)=>∃x,cs=[.int k x]/\(Lit.int k x).wf=true
  |some .string=>∃s,cs=[.str s]/\s.length<=maxLen
  |some (.slice e)=>cs=[.vsl true [] 0]\/∃a:List (List D),cs=[.vsl false a.flatten a.length]/\(a.length<=maxLen/\a.length*P.bytesOf e<=reachBytes)/\∀l,l∈a->l.length=P.cellsOf e/\Je P n e l
  |some (.array m e)=>∃a:List (List D),cs=a.flatten/\a.length=m/\∀l,l∈a->l.length=P.cellsOf e/\Je P n e l
  |some (.struct fs)=>qlV P (Je P n) fs.toList cs
  |_=>False
attribute [irreducible] Je
theorem qf2{W:World}{a:Addr}{v:Value}(h:W.cell? a=some v):a.block<W.heap.size:=by
 unfold World.cell? at h;rcases KE a.block W.heap.size with c|b
 .exact c
 .have:W.heap[a.block]?=none:=qfI b;simp[this] at h
def Cor(W:World)(ds:List D)(vs:List Value):Prop:=ds.length=vs.length/\(∀d,d∈ds->ju d=true)/\∀(j:Nat) d,ds[j]?=some d->Rep (· <W.heap.size) W jB [] d (vs.getD j undef)
theorem qgC{W:World}{d:D}{v:Value}(hc:ju d=true)(h:Rep (· <W.heap.size) W jB [] d v):Cor W [d] [v]:=by
 refine⟨rfl,fun x hx=>by rw[List.mem_singleton.1 hx];exact hc,fun j x a=>?_⟩;cases j with
 |zero=>simp at a;subst a;exact h
 |succ j=>simp at a
theorem quN{W:World}{a b:List D}{us vs:List Value}(c:Cor W a us)(f:Cor W b vs):Cor W (a++b) (us++vs):=by
 refine⟨by simp[c.1,f.1],fun d i=>?_,fun j d e=>?_⟩
 .rcases List.mem_append.1 i with h|h
  .exact c.2.1 d h
  .exact f.2.1 d h
 .by_cases g:j<a.length
  .rw[vJ g] at e;have:=c.2.2 j d e;rw[jv] at this⊢
   rwa [vJ (by rw[<-c.1];exact g)]
  .rw[jn wC] at e;have:=f.2.2 _ d e;rw[jv] at this⊢;rw[jn (by rw[<-c.1];omega),<-c.1];exact this
section
variable {H:Type} {enc:TypeId×Value->H} {P:Program} {W:World}
theorem quM{sz:Nat}{Q:List D->Prop}:∀(m off:Nat)(cs:List Value),cs.length=off+m*sz->
  (∀i,i<m->∃ds,Q ds/\Cor W ds ((cs.drop (off+i*sz)).take sz))->∃b:List (List D),b.length=m/\(∀l,l∈b->l.length=sz/\Q l)/\Cor W b.flatten (cs.drop off)
 |0,off,cs,a,_=>⟨[],rfl,wE,by
   rw[Jc wC];exact⟨rfl,wE,wE⟩⟩
 |m+1,off,cs,a,h=>by
  have g:(m+1)*sz=sz+m*sz:=yI
  rw[g] at a;obtain⟨ds,e,d⟩:=h 0 wC;rw[Nat.zero_mul,Nat.add_zero] at d
  obtain⟨b,f,j,k⟩:=quM (sz:=sz) (Q:=Q) m (off+sz) cs wC (fun i hi=>by
   have:=h (i+1) wC;rw[kt,Nat.one_mul] at this;rw[show off+sz+i*sz=off+(i*sz+sz) from wC];exact this)
  have c:ds.length=sz:=by
   rw[d.1,jj,vr];omega
  refine⟨ds::b,by simp[f],fun l a=>?_,?_⟩
  .rcases List.mem_cons.1 a with rfl|a
   .exact⟨c,e⟩
   .exact j l a
  .rw[qlU];have:=quN d k;rw[<-ky,ZK] at this;exact this
theorem qtB{g:TypeId->Bool}{Q:TypeId->List D->Prop}:∀(fs:List Field)(off:Nat)(cs:List Value),qcX P g fs off cs.length=true->
  (∀f,f∈fs->g f.type=true->∃ds,Q f.type ds/\Cor W ds ((cs.drop f.offset).take (P.cellsOf f.type)))->∃ds,qlV P Q fs ds/\Cor W ds (cs.drop off)
 |[],off,cs,c,_=>by
  simp only[qcX,beq_iff_eq] at c;exact⟨[],rfl,by rw[Jc wC];exact⟨rfl,wE,wE⟩⟩
 |f::fs,off,cs,c,h=>by
  simp only[qcX,zX,beq_iff_eq] at c;obtain⟨⟨m,o⟩,e⟩:=c;obtain⟨a,i,d⟩:=h f (Z1 ..) o;obtain⟨b,p,n⟩:=qtB fs (off+P.cellsOf f.type) cs e fun j k=>h j (vq _ k);rw[m] at d;have l:off+P.cellsOf f.type<=cs.length:=plainF_le e;refine⟨a++b,⟨a,b,rfl,?_,i,p⟩,?_⟩
  .rw[d.1,jj,vr];omega
  .have:=quN d n
   rwa [<-ky,ZK] at this
where plainF_le {g:TypeId->Bool}:∀{fs:List Field}{off n:Nat},qcX P g fs off n=true->off<=n
 |[],off,n,h=>by simp only[qcX,beq_iff_eq] at h;omega
 |f::fs,off,n,h=>by
  simp only[qcX,zX] at h;have:=plainF_le h.2;omega
def Wok(P:Program)(t:TypeId)(d:DataW H):Prop:=∀k,k∈d.weights P t->k<=reachBytes
theorem qjd{e:TypeId}:∀{l:List (DataW H)}{d:DataW H},d∈l->∀k,k∈d.weights P e->k∈DataW.weightsAll P e l
 |[],_,h,_,_=>by cases h
 |a::l,d,h,k,b=>by
  unfold DataW.weightsAll;rcases List.mem_cons.1 h with rfl|h
  .exact qaA _ b
  .exact List.mem_append_right _ (qjd h k b)
theorem qmg:∀{ts:List TypeId}{l:List (DataW H)}{i:Nat}{t:TypeId}{d:DataW H},ts[i]?=some t->l[i]?=some d->∀k,k∈d.weights P t->k∈DataW.weightsEach P ts l
 |[],_,i,_,_,h,_,_,_=>by simp at h
 |t::ts,[],i,_,_,_,h,_,_=>by simp at h
 |t::ts,a::l,0,u,d,h,g,k,b=>by
  simp at h g;subst h g;unfold DataW.weightsEach;exact qaA _ b
 |t::ts,a::l,i+1,u,d,h,g,k,b=>by
  unfold DataW.weightsEach;exact List.mem_append_right _ (qmg (i:=i) wQ xF k b)
theorem qmr:∀(n y:Nat)(t:TypeId)(cs:List Value)(x:DataW H×List MemPlace),qdR P n t=true->Wok P t x.1->DataW.trod enc P W 0 (fun _=>true) true y t cs=some x->
  ∃ds,Je P n t ds/\Cor W ds cs
 |0,_,_,_,_,h,_,_=>by simp[qdR] at h
 |n+1,y,t,cs,x,o,E,h=>by
  have V:=qmr n;unfold qdR at o;unfold Je;cases q:P.underlying t with
  |none=>rw[q] at o;simp at o
  |some u=>
  rw[q] at o;cases u with
  |bool=>
   obtain⟨b,rfl,_⟩:=DataW.trod_bool q h;exact⟨_,⟨b,rfl⟩,qgC rfl (.bool _)⟩
  |int k=>
   obtain⟨b,rfl,_,E⟩:=DataW.trod_int q h;exact⟨_,⟨b,rfl,E⟩,qgC rfl (.int _ _)⟩
  |string=>
   obtain⟨s,rfl,_,E⟩:=DataW.trod_string q h;refine⟨_,⟨s.data.toList,rfl,by simpa using E⟩,qgC rfl ?_⟩;have:=Rep.str (ok:=(· <W.heap.size)) (w:=W) (ι:=jB) (H:=[]) s.data.toList;simpa using this
  |slice e=>
   simp only at o⊢;rcases DataW.trod_slice q h with⟨rfl,_⟩|⟨a,C,ae,g,z,m,rfl,rfl,hx,_,zt,ac,zA,qd,_⟩
   .exact⟨_,.inl rfl,qgC rfl .vnil⟩
   .have S:∀k,k∈(g.length+z.length)*P.bytesOf e::(DataW.weightsAll P e (g.map (·.1))++DataW.weightsAll P e (z.map (·.1)))->k<=reachBytes:=by
     intro k T;refine E k ?_;rw[hx];unfold DataW.weights;rw[q];simp only[List.length_map];exact T
    have jW:=S _ (Z1 ..)
    have O:∀i,i<C->∃ds,Je P n e ds/\ds.length=P.cellsOf e/\(∀d,d∈ds->ju d=true)/\∀(j:Nat) d,ds[j]?=some d->∃v,W.cell? (a.add (i*P.cellsOf e+j))=some v/\Rep (· <W.heap.size) W jB [] d v:=by
     intro i hi;have r:=qd i hi;rw[qN wC] at r;cases A:W.cells? 0 (a.add (i*P.cellsOf e)) (P.cellsOf e) with
     |none=>rw[A] at r;simp at r
     |some cs=>
      rw[A,qa9] at r;have Yr:Wok P e g[i].1:=fun k T=>S k (vq _ (qaA _ (qjd (List.mem_map_of_mem (vQ _)) k T)));obtain⟨ds,G,B,d3,Y⟩:=V m e cs _ o Yr r;obtain⟨_,c2,c3⟩:=World.cells?_some A;refine⟨ds,G,by rw[B,c2],d3,fun j d c=>?_⟩;have zu:j<cs.length:=(by rw[<-B];exact(List.getElem?_eq_some_iff.1 c).1);refine⟨cs[j],?_,?_⟩
      .rw[<-Addr.add_add,c3 j wC,qN zu]
      .have:=Y j d c
       rwa [jv,qN zu,Va] at this
    have jd:∀k,k<=C->∃p:List (List D),p.length=k/\(∀l,l∈p->l.length=P.cellsOf e/\Je P n e l)/\(∀d,d∈p.flatten->ju d=true)/\p.flatten.length=k*P.cellsOf e/\
      ∀(j:Nat) d,p.flatten[j]?=some d->∃v,W.cell? (a.add j)=some v/\Rep (· <W.heap.size) W jB [] d v:=by
     intro k
     induction k with
     |zero=>intro _;exact⟨[],rfl,wE,wE,wE,wE⟩
     |succ k X=>
      intro T;obtain⟨p,F,M,N,Z,L⟩:=X wC;obtain⟨ds,G,B,d3,Y⟩:=O k wC;refine⟨p++[ds],by simp[F],fun l J=>?_,?_,?_,?_⟩
      .rcases List.mem_append.1 J with h|h
       .exact M l h
       .rw[List.mem_singleton.1 h];exact⟨B,G⟩
      .intro d U;rw[List.flatten_append] at U;rcases List.mem_append.1 U with h|h
       .exact N d h
       .exact d3 d wQ
      .rw[List.flatten_append,zp,Z,kt,Nat.one_mul];simp[B]
      .intro j d c;rw[List.flatten_append] at c;by_cases K:j<p.flatten.length
       .rw[vJ K] at c;exact L j d c
       .rw[jn wC] at c;rw[Z] at c K;have vU:ds[j-k*P.cellsOf e]?=some d:=wS;obtain⟨v,v1,v2⟩:=Y _ d vU;refine⟨v,?_,v2⟩;rw[<-v1];congr 2;omega
    obtain⟨p,F,M,N,Z,L⟩:=jd C (qA _);refine⟨_,.inr ⟨p,rfl,⟨by rw[F];omega,by rw[F,<-zA];exact zI (qb9 _ (Nat.le_add_right _ _)) jW⟩,M⟩,qgC rfl ?_⟩;rw[F];refine .vsl a (fun j=>(W.cell? (a.add j)).getD undef) (fun d U=>?_) N (fun j d c=>?_) (fun j d c=>?_) zt
    .obtain⟨j,c⟩:=List.mem_iff_getElem?.1 U;obtain⟨v,v1,_⟩:=L j d c;have:=qf2 v1
     rwa [qeA] at this
    .obtain⟨v,v1,_⟩:=L j d c;rw[v1];rfl
    .obtain⟨v,v1,v2⟩:=L j d c;rw[v1];exact v2
  |array m e=>
   simp only[zX,beq_iff_eq] at o⊢;obtain⟨xs,k,rfl,hx,J,R,r⟩:=DataW.trod_array q h
   have:=quM (W:=W) (sz:=P.cellsOf e) (Q:=Je P n e) m 0 cs (by rw[J,o.2];omega) (fun i hi=>by
    rw[J3];have I:=r i hi;rw[qN wC] at I;exact V k e _ _ o.1 (fun j c=>E j (by rw[hx];unfold DataW.weights;rw[q];exact qjd (List.mem_map_of_mem (vQ _)) j c)) I)
   obtain⟨p,F,M,N⟩:=this;exact⟨p.flatten,⟨p,rfl,F,M⟩,by simpa using N⟩
  |struct fs=>
   simp only at o⊢;obtain⟨xs,k,rfl,hx,J,R,r⟩:=DataW.trod_struct q h;rw[<-J] at o
   obtain⟨ds,G,B⟩:=qtB (W:=W) (Q:=Je P n) fs.toList 0 cs o (fun f hf aa=>by
    obtain⟨i,hi⟩:=List.mem_iff_getElem?.1 hf;have Qz:fs[i]?=some f:=xw;have I:=r i f Qz;have K:i<xs.length:=(by rw[R];exact(Array.getElem?_eq_some_iff.1 Qz).1);rw[qN K] at I
    exact V k f.type _ _ aa (fun j c=>E j (by
     rw[hx];unfold DataW.weights;rw[q];exact qmg (i:=i) (by rw[Vb,hi];rfl) (by rw[Vb,qN K];rfl) j c)) I)
   exact⟨ds,G,by simpa using B⟩
  |_=>simp at o
theorem qy6{n:Nat}{t:TypeId}{v:Value}{d:DataW H}{ps:List MemPlace}(b:qdR P n t=true)(h:DataW.Trod enc P W 0 (fun _=>true) true t v d ps/\Wok P t d):
  ∃ds,Je P n t ds/\Cor W ds v.cells.toList:=by
 obtain⟨⟨a,c⟩,e⟩:=h;exact qmr n a t _ _ b e c
end
end Go.Ev
namespace Go.Ev
open Go Go.Proofs Go.RowKit Go.ChangeShapes
theorem qiK(a:Addr):a.add 0=a:=by
 obtain⟨b,o,p⟩:=a;cases p<;>simp[Addr.add]
theorem qjE{P:Program}{W:World}{name:String}{k:IntKind}{zs:List Int}{g:Nat}(h:Lib.TabIs P W name k zs)(e:P.globalNamed name=some g):
  Rep (· <W.heap.size) W jB [] (.vptr (zs.map (.int k))) (.pointer (some ⟨g,0,none⟩)):=by
 have hc:∀i,i<zs.length->W.cell? ⟨g,i,none⟩=some (.int k (zs.getD i 0)):=fun i hi=>h.cell e i hi;refine .vptr _ (fun j=>.int k (zs.getD j 0)) (fun d c=>?_) (fun d c=>?_) (fun j d a=>?_) (fun j d a=>?_)
 .obtain⟨j,a⟩:=List.mem_iff_getElem?.1 c
  have b:j<zs.length:=by
   have:=(List.getElem?_eq_some_iff.1 a).1;simpa using this
  have:=qf2 (hc j b);exact this
 .obtain⟨z,_,rfl⟩:=List.mem_map.1 c;rfl
 .have b:j<zs.length:=by
   have:=(List.getElem?_eq_some_iff.1 a).1;simpa using this
  rw[Vq,J3];exact hc j b
 .have b:j<zs.length:=by
   have:=(List.getElem?_eq_some_iff.1 a).1;simpa using this
  rw[Vb,qN b,j6,qy] at a;subst a;rw[jv,qN b,Va];exact .int k _
theorem qn2{P:Program}{W:World}{name:String}{g:Nat}{tp:TypeId}{text:List UInt8}(l:P.globalNamed name=some g)
  (h:∃(a:Addr)(s:ByteArray),W.var? P name=some #[.iface tp (.pointer (some a))]/\W.cell? a=some (.string s)/\s.data.toList=text/\s.size<=maxLen):
  Rep (· <W.heap.size) W jB [] (.vptr [.iface tp (.vptr [.str text])]) (.pointer (some ⟨g,0,none⟩)):=by
 obtain⟨a,s,k,hc,rfl,_⟩:=h
 have i:W.cell? ⟨g,0,none⟩=some (.iface tp (.pointer (some a))):=by
  have:=World.var?_cell l k 0;simpa using this
 have c:∀{d e:D}{j:Nat},[e][j]?=some d->j=0/\d=e:=fun{d e j} b=>by
  cases j with
  |zero=>simp at b;exact⟨rfl,b.symm⟩
  |succ j=>simp at b
 have m:Rep (· <W.heap.size) W jB [] (.vptr [.str s.data.toList]) (.pointer (some a)):=by
  refine .vptr a (fun _=>.string s) (fun d f=>qf2 hc) (fun d f=>by rw[List.mem_singleton.1 f];rfl) (fun j d b=>?_) (fun j d b=>?_)
  .obtain⟨rfl,rfl⟩:=c b;rw[qiK];exact hc
  .obtain⟨rfl,rfl⟩:=c b;have:=Rep.str (ok:=(· <W.heap.size)) (w:=W) (ι:=jB) (H:=[]) s.data.toList;simpa using this
 refine .vptr _ (fun _=>.iface tp (.pointer (some a))) (fun d f=>qf2 i) (fun d f=>by rw[List.mem_singleton.1 f];rfl) (fun j d b=>?_) (fun j d b=>?_)
 .obtain⟨rfl,rfl⟩:=c b;rw[qiK];exact i
 .obtain⟨rfl,rfl⟩:=c b;exact .iface m
def qxb:String:=String.ofList [Char.ofNat 42]
theorem qur{P:Program}{nm base:String}{tp:TypeId}(f:qxb++base=nm)
  (b:((List.range P.types.size).all fun u=>P.typeName? 3 u !=some nm||u==tp)=true)
  (a:((List.range P.types.size).all fun e=>P.typeName? 2 e !=some base||(match(P.info? e).map (·.desc) with|some (TypeDesc.named _ _)=>true|_=>false))=true)
  (c:base.toList.head?≠some (Char.ofNat 42)):∀u,P.typeName? 3 u=some nm->u=tp:=by
 subst f;intro u d;exact typeName_ptr_named (nm:=base) b a c u d
end Go.Ev
namespace Go.Ev
open Go Go.Proofs Go.RowKit
section
variable {X:Cx} {ok:Nat->Prop} {w w':World} {ι:qV} {H:qe}
theorem qlN{n:Nat}(c:n<=H.length)(a:Below w.heap.size w w'):Evol n ok w ι H ok w' ι H where
 os:=a.os
 tape:=a.tape
 output:=a.output
 size:=a.size
 frame b qg _:=a.block b qg
 okU _ h:=h
 okN _ h _:=.inl h
 nle:=⟨c,c⟩
 heap _ _ ds h:=⟨ds,h,qA _,fun _=>rfl⟩
 own i ds _ s h1 h2 _:=⟨i,ds,s,h1,h2⟩
theorem qvw(a:Sim X ok w ι H)(k:Below w.heap.size w w'):Sim X ok w' ι H:=by
 have c:Evol H.length ok w ι H ok w' ι H:=qlN (qA _) k;refine⟨fun b h=>vh (a.okS b h) k.size,fun g cs t=>(((a.glob g cs t).lift (ι:=ι) (H:=H)).evol a c rfl).free rfl _ _,a.inj,fun i ds u=>?_⟩;obtain⟨b,arr,e,fr,n,v,f,p,s,q,r,l⟩:=a.blk i ds u
 have o:b<w.heap.size:=by
  rcases KE b w.heap.size with h|h
  .exact h
  .rw[qfI h] at f;cases f
 exact⟨b,arr,e,fr,n,v,by rw[k.block b o];exact f,p,s,q,r,fun j d m=>(l j d m).evol a c (l j d m).closed⟩
theorem qi2{f:Nat}{vs:List Value}{r:D}(g:Sim X ok w ι H)(d:(callFunc f vs.toArray).run X.P w=.ok (.enter f vs.toArray) w)
  (hc:Calls X.P f vs.toArray w fun e w'=>∃v,e=.returned v/\Rep ok w' ι H r v/\Below w.heap.size w w'):Goes X.P (callFunc f vs.toArray) w (CallPost X ok w ι H r H):=by
 unfold Goes;rw[d];refine hc.mono ?_;rintro e w' ⟨v,rfl,c,b⟩;exact⟨v,rfl,ι,ok,qvw g b,c,qlN (qA _) b,fun i ds hi a=>by rw[qd,List.getElem?_eq_none hi] at a;cases a⟩
theorem q37{g:Nat}{k:IntKind}{m:Int}(e:Sim X ok w ι H)(i:X.glob g=some [.int k m]):w.cell? ⟨g,0,none⟩=some (.int k m):=by
 have h:=e.glob g _ i;cases h with
 |vptr a f j hc d h=>
  have b:=d 0 (.int k m) rfl;have c:=h 0 (.int k m) rfl;rw[qiK] at b;generalize f 0=v at b c;cases c;exact b
theorem qy0{W:World}{g:Nat}{k:IntKind}{m:Int}(h:W.cell? ⟨g,0,none⟩=some (.int k m)):Rep (· <W.heap.size) W jB [] (.vptr [.int k m]) (.pointer (some ⟨g,0,none⟩)):=by
 refine .vptr _ (fun _=>.int k m) (fun d b=>qf2 h) (fun d b=>by rw[List.mem_singleton.1 b];rfl) (fun j d a=>?_) (fun j d a=>?_)
 .cases j with
  |zero=>rw[qiK];exact h
  |succ j=>simp at a
 .cases j with
  |zero=>simp at a;subst a;exact .int k m
  |succ j=>simp at a
end
class MaxL where
 m:Int
end Go.Ev
namespace Go.Ev
open Go Go.Proofs Go.RowKit Go.Shelf
section
variable {X:Cx} {ρ:Ren} {ok:Nat->Prop} {w:World} {ι:qV} {H H':qe} {r:D} {args:List D} {vs:List Value}
end
end Go.Ev
namespace Go.Ev
open Go Go.Proofs Go.RowKit Go.Shelf
def JF(a:List UInt8):List UInt8->Nat->Int
 |[],n=>if a.isEmpty then n else-1
 |b::l,n=>if a.isPrefixOf (b::l) then n else JF a l (n+1)
theorem qsT(a:List UInt8):∀(l:List UInt8)(n:Nat),JF a l n=if Lib.index l a= -1 then-1 else Lib.index l a+n
 |[],n=>by
  simp only[JF,Lib.index];by_cases h:a.isEmpty=true<;>simp[h]
 |b::l,n=>by
  have e:=Lib.index_ge l a;simp only[JF,Lib.index,qsT a l (n+1)];by_cases c:a.isPrefixOf (b::l)=true
  .simp[c]
  .by_cases h:Lib.index l a= -1
   .simp[h,c]
   .have d:¬Lib.index l a+1= -1:=wC;simp only[beq_iff_eq,h,d,c,if_false,kZ];omega
theorem q2L(a l:List UInt8):Lib.index l a=JF a l 0:=by
 rw[qsT];split
 .assumption
 .simp
def qgF:List D->qe->Option (D×qe)
 |[.str s,.str a],H=>if s.length<4294967281 then some (.int .i64 (JF a s 0),H) else none
 |_,_=>none
def qgG:List D->qe->Option (D×qe)
 |[.str s],H=>if s.length<=281474976710656 then some (.str s,H) else none
 |_,_=>none
section
variable {X:Cx} {ρ:Ren} {ok:Nat->Prop} {w:World} {ι:qV} {H H':qe} {r:D} {args:List D} {vs:List Value}
theorem qn5{s:List UInt8}(b:RepL ok w ι H [.str s] vs):vs=[.string ⟨s.toArray⟩]:=by
 obtain⟨v,us,rfl,c,a⟩:=J6 b;cases qcU a;cases c;rfl
theorem qy1{s t:List UInt8}(b:RepL ok w ι H [.str s,.str t] vs):vs=[.string ⟨s.toArray⟩,.string ⟨t.toArray⟩]:=by
 obtain⟨v,us,rfl,c,a⟩:=J6 b;cases qn5 a;cases c;rfl
theorem q5c{m:Int}(L:Lays.n219 X.P ρ)(k:X.glob (ρ.g 1)=some [.int .i64 m])(h:qgF args H=some (r,H'))(c:Sim X ok w ι H)(d:RepL ok w ι H args vs):
  Goes X.P (callFunc (ρ.f 219) vs.toArray) w (CallPost X ok w ι H r H'):=by
 have i:∀args w,(callFunc (ρ.f 219) args).run X.P w=.ok (.enter (ρ.f 219) args) w:=Go.Proofs.enters_of L.f219 wF rfl;unfold qgF at h;split at h
 .rename_i s b;split at h
  .rename_i a;injection h with h;injection h with j l;subst j;subst l;cases qy1 d;refine qi2 c (i _ _) ((Any.stringslite_Index L ⟨s.toArray⟩ ⟨b.toArray⟩ m w (by simpa[ByteArray.size] using a) (q37 c k)).mono ?_);rintro e w' ⟨rfl,rfl⟩;refine⟨_,rfl,?_,Below.refl _ _⟩;rw[q2L];exact .int .i64 _
  .cases h
 .cases h
theorem q5d(L:LaysM.n316 X.P ρ)(h:qgG args H=some (r,H'))(c:Sim X ok w ι H)(b:RepL ok w ι H args vs):
  Goes X.P (callFunc (ρ.f 316) vs.toArray) w (CallPost X ok w ι H r H'):=by
 have d:∀args w,(callFunc (ρ.f 316) args).run X.P w=.ok (.enter (ρ.f 316) args) w:=Go.Proofs.enters_of L.f316 wF rfl;unfold qgG at h;split at h
 .rename_i s;split at h
  .rename_i a;injection h with h;injection h with g j;subst g;subst j;cases qn5 b;refine qi2 c (d _ _) ((Any.stringslite_Clone L ⟨s.toArray⟩ w (by simpa[ByteArray.size] using a)).mono ?_);rintro e w' ⟨rfl,i⟩;exact⟨_,rfl,.str s,i⟩
  .cases h
 .cases h
end
end Go.Ev
namespace Go.Ev
open Go Go.Proofs Go.RowKit Go.Shelf
def QF(c:UInt8):List UInt8->Nat->Int
 |[],_=>-1
 |b::l,n=>if b=c then n else QF c l (n+1)
theorem qsW(c:UInt8):∀(l:List UInt8)(n:Nat),QF c l n=if Lib.indexByte l c= -1 then-1 else Lib.indexByte l c+n
 |[],n=>by simp[QF,Lib.indexByte]
 |b::l,n=>by
  have e:=Lib.indexByte_ge l c;simp only[QF,Lib.indexByte,qsW c l (n+1)];by_cases a:b=c
  .simp[a]
  .by_cases h:Lib.indexByte l c= -1
   .simp[h,a]
   .have d:¬Lib.indexByte l c+1= -1:=wC;simp only[beq_iff_eq,h,d,a,if_false];omega
theorem qsV(c:UInt8)(l:List UInt8):Lib.indexByte l c=QF c l 0:=by
 rw[qsW];split
 .assumption
 .simp
def qgt:List D->Option D
 |[.str s,.int .u8 c]=>some (.int .i64 (QF (UInt8.ofNat c.toNat) s 0))
 |_=>none
def qgI:List D->Option D
 |[.str s,.int .u8 c]=>some (.int .i64 (s.count (UInt8.ofNat c.toNat):Nat))
 |_=>none
def qgE:List D->qe->Option (D×qe)
 |[.str s,.int .i64 c],H=>if 0<=c/\c<=100000/\s.length*c.toNat<=140737488355328 then some (.str (Lib.repeatL s c.toNat),H) else none
 |_,_=>none
section
variable {X:Cx} {ρ:Ren} {ok:Nat->Prop} {w:World} {ι:qV} {H H':qe} {r:D} {args:List D} {vs:List Value}
theorem qjG{s:List UInt8}{k:IntKind}{c:Int}(a:RepL ok w ι H [.str s,.int k c] vs):vs=[.string ⟨s.toArray⟩,.int k c]:=by
 obtain⟨v,us,rfl,d,g⟩:=J6 a;obtain⟨h,e,rfl,b,f⟩:=J6 g;cases qcU f;cases d;cases b;rfl
theorem q2O{P:Program}{f:Nat}{fn:Func}(hf:P.funcs[f]?=some fn)(hn:fn.body=none)(hng:(fn.name== "runtime.NumGoroutine")=false)
  (h1:Extern.findNext fn=none) (h2:Extern.find fn=some Extern.BytealgIndexByte.indexByte) {d:D}
  (h:qgt args=some d) (hv:RepL ok w ι H args vs):∃v,(callFunc f vs.toArray).run P w=.ok (.value v) w/\Rep ok w ι H d v/\idFree d=true:=by
 unfold qgt at h;split at h
 .rename_i s c;injection h with h;subst h;cases qjG hv;refine⟨.int .i64 (QF (UInt8.ofNat c.toNat) s 0),?_,.int _ _,rfl⟩;rw[run_callFunc_extern hf hng (by rw[hn];rfl) h1 h2,Lib.run_indexByteString,qsV];rfl
 .cases h
theorem q54{P:Program}{f:Nat}{fn:Func}(hf:P.funcs[f]?=some fn)(hn:fn.body=none)(hng:(fn.name== "runtime.NumGoroutine")=false)
  (h1:Extern.findNext fn=none) (h2:Extern.find fn=some Extern.BytealgCount.count) {d:D}
  (h:qgI args=some d) (hv:RepL ok w ι H args vs):∃v,(callFunc f vs.toArray).run P w=.ok (.value v) w/\Rep ok w ι H d v/\idFree d=true:=by
 unfold qgI at h;split at h
 .rename_i s c;injection h with h;subst h;cases qjG hv;refine⟨.int .i64 (s.count (UInt8.ofNat c.toNat):Nat),?_,.int _ _,rfl⟩;rw[run_callFunc_extern hf hng (by rw[hn];rfl) h1 h2,Lib.run_countString];rfl
 .cases h
theorem q5b(L:Lays.n105 X.P ρ)(E:Builder.Extra X.P ρ)(h:qgE args H=some (r,H'))(b:Sim X ok w ι H)(a:RepL ok w ι H args vs):
  Goes X.P (callFunc (ρ.f 105) vs.toArray) w (CallPost X ok w ι H r H'):=by
 have d:∀args w,(callFunc (ρ.f 105) args).run X.P w=.ok (.enter (ρ.f 105) args) w:=Go.Proofs.enters_of L.f105 wF rfl;unfold qgE at h;split at h
 .rename_i s c;split at h
  .rename_i hc;injection h with h;injection h with g j;subst g;subst j;cases qjG a;obtain⟨n,rfl⟩:∃n:Nat,c=(n:Int):=⟨c.toNat,wC⟩;refine qi2 b (d _ _) ((Any.strings_Repeat L E ⟨s.toArray⟩ n w wC (by simpa[ByteArray.size] using hc.2.2)).mono ?_);rintro e w' ⟨rfl,i⟩;exact⟨_,rfl,.str _,i⟩
  .cases h
 .cases h
end
end Go.Ev
namespace Go.Ev
open Go Go.Proofs Go.RowKit
class TxtC where
 t:Nat->List D->qe->Option (D×qe)
def Cx.add(X:Cx)(T:Nat)(t:List D->qe->Option (D×qe)):Cx:=
 {X with con:=fun f=>if f=T then t else X.con f,bad:=fun f=>if f=T then true else X.bad f}
section
variable {X:Cx} {T:Nat} {t:List D->qe->Option (D×qe)}
end
end Go.Ev
namespace Go.Ev
open Go Go.Proofs Go.RowKit
section
variable {X:Cx} {ok:Nat->Prop} {w w':World} {ι:qV} {H H':qe}
theorem qvo{a:Addr}{j:Nat}{v:Value}(b:w'.heap[a.block]?=w.heap[a.block]?)(h:w.cell? (a.add j)=some v):w'.cell? (a.add j)=some v:=by
 rw[World.cell?_of_block (w:=w)]
 .exact h
 .rw[qeA];exact b
theorem Rep.same{d:D}{v:Value}(h:Rep ok w ι H d v)(o:∀b,ok b->w'.heap[b]?=w.heap[b]?):Rep ok w' ι H d v:=by
 induction h with
 |bool b=>exact .bool b
 |int k n=>exact .int k n
 |str s=>exact .str s
 |nilp=>exact .nilp
 |nilf=>exact .nilf
 |nili=>exact .nili
 |raw v=>exact .raw v
 |agg i hc h e=>exact .agg i hc fun j d c=>e j d c
 |tup i h e=>exact .tup i fun j d c=>e j d c
 |vptr a f g hc l h e=>exact .vptr a f g hc (fun j d c=>qvo (o _ (g d (mem_of_get? c))) (l j d c)) fun j d c=>e j d c
 |optr a hi h=>exact .optr a hi h
 |vnil=>exact .vnil
 |vsl a f g hc l h m e=>exact .vsl a f g hc (fun j d c=>qvo (o _ (g d (mem_of_get? c))) (l j d c)) (fun j d c=>e j d c) m
 |osl a hi h m=>exact .osl a hi h m
 |fn i h e=>exact .fn i fun j d c=>e j d c
 |iface h e=>exact .iface e
theorem qmR(a:Sim X ok w ι H)(t:w.heap.size<=w'.heap.size)(f:∀b,ok b->w'.heap[b]?=w.heap[b]?)(u:∀i ds b s,qd H i=some ds->ι i=some (b,s)->w'.heap[b]?=w.heap[b]?):Sim X ok w' ι H:=by
 refine⟨fun b h=>vh (a.okS b h) t,fun g cs r=>(a.glob g cs r).same f,a.inj,fun i ds k=>?_⟩;obtain⟨b,arr,e,fr,c,v,p,m,q,n,o,l⟩:=a.blk i ds k;exact⟨b,arr,e,fr,c,v,by rw[u i ds b _ k c];exact p,m,q,n,o,fun j d x=>(l j d x).same f⟩
theorem qlf{F:zF}(m:VF X F){nt:Nat}{t:Bool}{c:Array Oper}{Q:Exit->Act->World->Prop}{r:List Oper}:∀{l:List Oper}{e i:qu}{H H':qe}{ok:Nat->Prop}{w:World}{ι:qV}{a:Act},vX X F nt t c l e H=some (i,H')->
  Sim X ok w ι H->EnvRep ok w ι H e a.tmps->nt<=a.tmps.size->(∀B w',Out X H.length ok w ι H a i H' B w'->wpList X.P c Q r B w')->wpList X.P c Q (l++r) a w
 |[],e,i,H,H',ok,w,ι,a,h,f,b,n,j=>by
  simp only[vX,qy,zj] at h;obtain⟨rfl,rfl⟩:=h;exact j a w ⟨rfl,rfl,ι,ok,f,b,.refl _ (qA _)⟩
 |o::l,e,i,H,H',ok,w,ι,a,h,f,b,n,j=>by
  simp only[vX] at h;split at h
  .rename_i y A;split at h
   .rename_i d R L;have u:=qfN b A;simp only[kC,wpList,u,if_true];refine .inl ?_;unfold Oper.wp;refine Goes.upon ((qjZ m f b L).mono fun v S C=>?_);obtain⟨ι1,E,N,J,s⟩:=C;obtain⟨O,x⟩:=qed a o.dst v;refine qlf m h N (qhy (b.evol' f s) J n y) wC fun q k z=>j q k ?_;obtain⟨G,p,ι2,ok2,M,K,I⟩:=z;exact⟨wC,by rw[p,x],ι2,ok2,M,K,s.trans (I.mono s.nle.2)⟩
   .cases h
  .rename_i y A;have u:=qfN b A;simp only[kC,wpList,u,kZ,if_false];obtain⟨O,x⟩:=qed a o.dst undef;refine qlf m h f (qhy b qhe n y) wC fun q k z=>j q k ?_;obtain⟨G,p,g⟩:=z;exact⟨wC,by rw[p,x],g⟩
  .cases h
theorem quU(m:Good X){f nt n0:Nat}{c:Code}{e d:qu}{b:Ex}{a:Act}(h:zl X f nt n0 c e H=some (b,d,H'))(l:Z4 X f c=true)(o:n0<=H.length)(j:Sim X ok w ι H)(k:EnvRep ok w ι H e a.tmps)(g:nt<=a.tmps.size):
  c.wp X.P (CQ X n0 ok w ι H a b d H') a w:=by
 obtain⟨n,i⟩:=code_some.1 h;exact(qmI m n).2 f nt n0 c e d H H' b ok w ι a i l o j k g
end
end Go.Ev
namespace Go.Ev
open Go Go.Proofs Go.RowKit
def qvI(X:Cx)(P:Nat->Nat->Nat->Code->qu->D->Prop)(o:Op)(e:qu)(d:D):Prop:=
 (∃x t b,o=.panic x/\qZ X e x=some (.iface t b)/\d=.iface t b)\/
 (∃c g f a args fn h,o=.call c/\c.callee=.value g/\vR X e c.args.toList=some args/\qZ X e g=some (.fn f a)/\X.P.funcs[f]?=some fn/\fn.body=some h/\X.bad f=false/\(args++a).all idFree=true/\
  P f fn.ntmps 0 h (kr 0 (args++a)) d)
def PanC(X:Cx):Nat->Nat->Nat->Nat->Code->qu->qe->D->qe->Prop
 |0,_,_,_,_,_,_,_,_=>False
 |n+1,f,nt,n0,c,e,H,d,H'=>match c with
  | .region id g false=>∃i h j o k e2,enter X f n0 id e H=some (i,h)/\g.toList=j++o::k/\vX X (call X) nt (YV X f id false g) g j i h=some (e2,H')/\vP g e2 o.guard=some true/\idFree d=true/\vFree d=true/\
    qvI X (fun f nt n0 c e d=>∃L,PanC X n f nt n0 c e [] d L) o.op e2 d
  | .seq a b=>PanC X n f nt n0 a e H d H'\/∃i h,zl X f nt n0 a e H=some (.normal,i,h)/\PanC X n f nt n0 b i h d H'
  | .cond c a b=>∃t,qZ X e c=some (.bool t)/\PanC X n f nt n0 (if t then a else b) e H d H'
  | .block _ c| .scope c=>PanC X n f nt n0 c e H d H'
  | .loop c=>PanC X n f nt n0 c e H d H'\/∃i h,zl X f nt n0 c e H=some (.normal,i,h)/\PanC X n f nt n0 (.loop c) i h d H'
  |_=>False
section
variable {X:Cx} {ok ok':Nat->Prop} {w w':World} {ι:qV} {H H':qe}
def GoesP(P:Program)(s:Sem Next)(w:World)(R:Value->World->Prop):Prop:=
 match s.run P w with
 | .ok (.enter f args) w'=>Calls P f args w' fun e a=>∃v,e=.panicked [{v,recovered:=false}]/\R v a
 | .halt (.panic v) w'=>R v w'
 |_=>False
theorem GoesP.upon{P:Program}{o:Oper}{a:Act}{s:Sem Next}{next:Act->World->Prop}{Q:Exit->Act->World->Prop}(h:GoesP P s w fun v w'=>Q (.panic [{v,recovered:=false}]) a w'):o.upon P a next Q (s.run P w):=by
 unfold GoesP at h;split at h
 .rename_i f args w' b;rw[b];simp only[Oper.upon];exact h.mono fun e d ⟨v,g,c⟩=>by subst g;exact c
 .rename_i v w' b;rw[b];exact h
 .exact h.elim
theorem GoesP.mono{P:Program}{s:Sem Next}{R b:Value->World->Prop}(h:GoesP P s w R)(a:∀v w',R v w'->b v w'):GoesP P s w b:=by
 unfold GoesP at *;split at h
 .exact h.mono fun e d ⟨v,c,f⟩=>⟨v,c,a _ _ f⟩
 .exact a _ _ h
 .exact h.elim
def PQ(X:Cx)(n:Nat)(ok:Nat->Prop)(w:World)(ι:qV)(H:qe)(a:Act)(d:D)(H':qe)(x:Exit)(b:Act)(w':World):Prop:=
 b.defers=a.defers/\∃v ι' ok',x=.panic [{v,recovered:=false}]/\Sim X ok' w' ι' H'/\Rep ok' w' ι' H' d v/\Evol n ok w ι H ok' w' ι' H'
theorem qzm{f:Nat}{fn:Func}{c:Code}{args:List D}{d:D}{L:qe}{vs:List Value}(hf:X.P.funcs[f]?=some fn)(hb:fn.body=some c)(hng:(fn.name== "runtime.NumGoroutine")=false)
  (vN:args.all idFree=true) (hd:idFree d=true) (hvd:vFree d=true) (hs:Sim X ok w ι H) (hv:RepL ok w ι H args vs)
  (hC:∀a:Act,EnvRep ok w jB [] (kr 0 args) a.tmps->fn.ntmps<=a.tmps.size->c.wp X.P (PQ X 0 ok w jB [] a d L) a w):
  GoesP X.P (callFunc f vs.toArray) w fun v w'=>Sim X ok w' ι H/\Rep ok w' ι H d v/\Evol H.length ok w ι H ok w' ι H:=by
 have Xk:(callFunc f vs.toArray).run X.P w=.ok (.enter f vs.toArray) w:=Go.Proofs.enters_of hf hng hb _ _;have hv':RepL ok w jB [] args vs:=⟨hv.1,fun j d hj=>(hv.2 j d hj).free (qcA vN d (mem_of_get? hj)) _ _⟩;unfold GoesP;rw[Xk];simp only;refine calls_of_wp hf hb (wp_mono (hC ⟨vs.toArray++Array.replicate (fn.ntmps-vs.toArray.size) undef,[]⟩ ?_ ?_) ?_)
 .intro t d ht;obtain⟨_,h2⟩:=qiI args 0 t d ht;rw[Nat.sub_zero] at h2;have qg:t<vs.length:=by rw[hv.1];exact(List.getElem?_eq_some_iff.1 h2).1
  refine⟨wG,?_⟩;have:=hv'.2 t d h2;rw[j7,qhb (by simpa using qg)];simpa[jv] using this
 .simp;omega
 .rintro x a' w' ⟨hdf,v,ι1,ok1,rfl,k1,k2,k3⟩;refine⟨hdf,v,rfl,?_⟩;have hfr:∀b,b<w.heap.size->w'.heap[b]?=w.heap[b]?:=fun b hb=>k3.frame b hb (fun i ds s hd=>by simp[qd] at hd);refine⟨qmR hs k3.size (fun b h=>hfr b (hs.okS b h)) (fun i ds b s hd hi=>hfr b (hs.lt hd hi)),(k2.free hd ι H).vfree hvd ok,⟨k3.os,k3.tape,k3.output,k3.size,fun b hb _=>hfr b hb,fun _ h=>h,fun _ h _=>.inl h,⟨qA _,qA _⟩,fun i _ ds hd=>⟨ds,hd,qA _,fun _=>rfl⟩,fun i ds _ s hd hi _=>⟨i,ds,s,hd,hi⟩⟩⟩
theorem PQ.trans{n:Nat}{a c:Act}{i:World}{g:qe}{b:Nat->Prop}{ι1:qV}{d:D}(k:c.defers=a.defers)(l:Evol n ok w ι H b i ι1 g){x:Exit}{e:Act}{f:World}
  (h:PQ X n b i ι1 g c d H' x e f):PQ X n ok w ι H a d H' x e f:=by
 obtain⟨t,v,ι2,ok2,rfl,m,j,o⟩:=h;exact⟨by rw[t,k],v,ι2,ok2,rfl,m,j,l.trans o⟩
theorem qzq(M:Good X):∀(n f nt n0:Nat)(c:Code)(e:qu)(H:qe)(d:D)(H':qe)(ok:Nat->Prop)(w:World)(ι:qV)(a:Act),PanC X n f nt n0 c e H d H'->Z4 X f c=true->n0<=H.length->Sim X ok w ι H->EnvRep ok w ι H e a.tmps->nt<=a.tmps.size->
  c.wp X.P (PQ X n0 ok w ι H a d H') a w:=by
 intro n
 induction n using Nat.strongRecOn with
 |_ n J=>
 cases n with
 |zero=>intro f nt n0 c e H d H' ok w ι a h;exact h.elim
 |succ n=>
  have E:=J n wC;intro f nt n0 c e H d H' ok w ι a h b k i j q;cases c with
  |region id aj N=>
   cases N with
   |true=>exact h.elim
   |false=>
    obtain⟨O,R,l1,o,l2,e2,jX,U,S,hg,hd,ac,QS⟩:=h;obtain⟨u,ι1,s1,s2,Z⟩:=qu2 jX k i j;refine wp_region_list ?_;rw[U];refine qlf (qlF M) S s1 s2 q fun p w' vv=>?_;obtain⟨t1,F,ι2,ok2,s,C,B⟩:=vv;have hw:=qfN C hg;simp only[wpList,hw,if_true];refine .inl ?_;have A:=Z.trans (B.mono Z.nle.2);rcases QS with⟨x,t,d0,ho,hx,rfl⟩|⟨c,g,Q,ai,args,fn,cd,ho,hc,aa,ag,T,hb,G,vN,L,hP⟩
    .obtain⟨v,W,hr⟩:∃v,p.eval x=.iface t v/\Rep ok2 w' ι2 H' d0 v:=by
      have:=vm s C hx;generalize p.eval x=y at this;cases this;exact⟨_,rfl,by assumption⟩
     have I:(execOp p.eval o).run X.P w'=.halt (.panic (.iface t v)) w':=by
      simp only[execOp,ho,W];rfl
     unfold Oper.wp;rw[I,Oper.upon_panic];exact⟨F,_,ι2,ok2,rfl,s,.iface hr,A⟩
    .have W:=qge s C aa;have JR:=vm s C ag;generalize Jv:p.eval g=cv at JR;cases JR with
     | @fn _ _ _ _ vs U hh=>
      have e0:execOp p.eval o=callFunc Q ((c.args.toList.map p.eval)++vs.toList).toArray:=by
       simp only[execOp,ho,resolve,hc,Jv,Deferred.ofValue];simp only[pure_bind,invoke];congr 1;apply Array.ext';simp
      unfold Oper.wp;rw[e0];refine GoesP.upon ((qzm T hb (M.ng Q fn T) vN hd ac s (RepL.append W (qn6 U hh)) fun V ae Y=>E Q fn.ntmps 0 cd _ [] d L ok2 w' jB V hP (M.okc Q fn cd T hb G) (qA _) (qmS s) ae Y).mono fun v w2 K=>?_);obtain⟨q1,q2,q3⟩:=K;exact⟨F,v,ι2,ok2,rfl,q1,q2,A.trans (q3.mono (zI Z.nle.2 B.nle.2))⟩
  |seq x y=>
   simp only[Z4,zX] at b;refine wp_seq ?_;rcases h with h|⟨O,R,hx,h⟩
   .refine wp_mono (E f nt n0 x e H d H' ok w ι a h b.1 k i j q) ?_;rintro z p w' ⟨t,v,ι',ok',rfl,r⟩;exact⟨t,v,ι',ok',rfl,r⟩
   .refine wp_mono (quU M hx b.1 k i j q) ?_;rintro z a1 w1 ⟨rfl,t1,F,ι1,u,s,C,B⟩;refine wp_mono (E f nt n0 y O R d H' u w1 ι1 a1 h b.2 B.nle.2 s C wC) ?_;exact fun z V w2 K=>PQ.trans F B K
  |cond c x y=>
   simp only[Z4,zX] at b;obtain⟨t,hc,h⟩:=h;refine wp_cond (qoo i j hc) (E f nt n0 _ e H d H' ok w ι a h ?_ k i j q);cases t
   .exact b.2
   .exact b.1
  |block id c=>
   refine wp_block (wp_mono (E f nt n0 c e H d H' ok w ι a h b k i j q) ?_);rintro z p w' ⟨t,v,ι',ok',rfl,r⟩;exact⟨t,v,ι',ok',rfl,r⟩
  |scope c=>
   refine wp_scope_straight (wp_mono (E f nt n0 c e H d H' ok w ι a h b k i j q) ?_);rintro z p w' ⟨t,v,ι',ok',rfl,r⟩;exact⟨t,v,ι',ok',rfl,r⟩
  |loop c=>
   simp only[Z4] at b
   have key:∀m,m<=n->∀(e:qu)(H:qe)(ok:Nat->Prop)(w:World)(ι:qV)(a:Act),PanC X (m+1) f nt n0 (.loop c) e H d H'->n0<=H.length->Sim X ok w ι H->EnvRep ok w ι H e a.tmps->nt<=a.tmps.size->Code.rounds X.P c (PQ X n0 ok w ι H a d H') (m+1) a w:=by
    intro m
    induction m with
    |zero=>
     intro _ e H ok w ι a h;rcases h with h|⟨_,_,_,h⟩
     .exact h.elim
     .exact h.elim
    |succ m ah=>
     intro hm e H ok w ι a h k i j q;rw[rounds_succ];rcases h with h|⟨O,R,hx,h⟩
     .refine wp_mono (J (m+1) wC f nt n0 c e H d H' ok w ι a h b k i j q) ?_;rintro z p w' ⟨t,v,ι',ok',rfl,r⟩;exact⟨t,v,ι',ok',rfl,r⟩
     .refine wp_mono (quU M hx b k i j q) ?_;rintro z a1 w1 ⟨rfl,t1,F,ι1,u,s,C,B⟩;exact qj4 (fun z V w2 K=>PQ.trans F B K) _ _ _ (ah wC O R u w1 ι1 a1 h B.nle.2 s C wC)
   exact wp_loop_rounds _ (key n (qA _) e H ok w ι a h k i j q)
  |skip=>exact h.elim
  |label l=>exact h.elim
  |exit id=>exact h.elim
  |ret=>exact h.elim
  |_=>exact h.elim
def qvH(X:Cx)(f:Nat)(args:List D)(H:qe)(d:D)(H':qe):Prop:=
 ∃n fn c,X.P.funcs[f]?=some fn/\fn.body=some c/\X.bad f=false/\PanC X n f fn.ntmps H.length c (kr 0 args) H d H'
theorem qzd(i:Good X){f:Nat}{args:List D}{d:D}{vs:List Value}(h:qvH X f args H d H')(s:Sim X ok w ι H)(l:RepL ok w ι H args vs):
  GoesP X.P (callFunc f vs.toArray) w fun v w'=>∃ι' ok',Sim X ok' w' ι' H'/\Rep ok' w' ι' H' d v/\Evol H.length ok w ι H ok' w' ι' H':=by
 obtain⟨n,fn,c,b,j,a,u⟩:=h;have r:(callFunc f vs.toArray).run X.P w=.ok (.enter f vs.toArray) w:=Go.Proofs.enters_of b (i.ng f fn b) j _ _;unfold GoesP;rw[r];simp only;refine calls_of_wp b j (wp_mono (qzq i n f fn.ntmps H.length c (kr 0 args) H d H' ok w ι ⟨vs.toArray++Array.replicate (fn.ntmps-vs.toArray.size) undef,[]⟩ u (i.okc f fn c b j a) (qA _) s ?_ ?_) ?_)
 .intro t d m;obtain⟨_,k⟩:=qiI args 0 t d m;rw[Nat.sub_zero] at k;have q:t<vs.length:=by rw[l.1];exact(List.getElem?_eq_some_iff.1 k).1
  refine⟨wG,?_⟩;have:=l.2 t d k;rw[j7,qhb (by simpa using q)];simpa[jv] using this
 .simp;omega
 .rintro x z w' ⟨e,v,ι1,g,rfl,p,y,o⟩;exact⟨e,v,rfl,ι1,g,p,y,o⟩
end
end Go.Ev
namespace Go.Ev
open Go Go.Proofs
section
variable {X:Cx} {f nt n0:Nat} {e:qu} {H H':qe} {d:D}
end
end Go.Ev
namespace Go.Ev
open Go Go.Proofs Go.RowKit
def Z3(X:Cx)(P:Nat->List D->Option D)(o:Op)(e:qu):Option D:=
 match o with
 | .panic x=>match qZ X e x with
  |some (.iface t d)=>if idFree d&&vFree d then some (.iface t d) else none
  |_=>none
 | .call c=>match c.callee,vR X e c.args.toList with
  | .value g,some args=>match qZ X e g with
   |some (.fn f a)=>P f (args++a)
   |_=>none
  |_,_=>none
 |_=>none
noncomputable def Zb(X:Cx)(P:Nat->List D->Option D)(nt:Nat)(bw:Bool)(a:Array Oper):List Oper->qu->qe->Option (D×qe)
 |[],_,_=>none
 |o::l,e,H=>match ko nt o.dst,vP a e o.guard with
  |true,some true=>match zf X (call X) bw o.op e H with
   |some (d,H')=>Zb X P nt bw a l (jP e o.dst d) H'
   |none=>(Z3 X P o.op e).map (·,H)
  |true,some false=>Zb X P nt bw a l (jP e o.dst (.tup [])) H
  |_,_=>none
def Vw(X:Cx)(a:Nat->Nat->Nat->Code->qu->qe->Option (D×qe))(f:Nat)(args:List D):Option D:=
 match X.con f args [],X.P.funcs[f]? with
 |none,some fn=>match fn.body with
  |some c=>if X.bad f=false/\args.all idFree=true then match a f fn.ntmps 0 c (kr 0 args) [] with
    |some (d,_)=>if idFree d&&vFree d then some d else none
    |none=>none
   else none
  |none=>none
 |_,_=>none
noncomputable def evP(X:Cx):Nat->Nat->Nat->Nat->Code->qu->qe->Option (D×qe)
 |0,_,_,_,_,_,_=>none
 |n+1,f,nt,n0,c,e,H=>match c with
  | .region id d h=>match h,enter X f n0 id e H with
   |false,some (i,g)=>Zb X (Vw X (evP X n)) nt (YV X f id false d) d d.toList i g
   |_,_=>none
  | .seq a b=>match zl X f nt n0 a e H with
   |some (.normal,i,g)=>evP X n f nt n0 b i g
   |some _=>none
   |none=>evP X n f nt n0 a e H
  | .cond c a b=>match qZ X e c with
   |some (.bool t)=>evP X n f nt n0 (if t then a else b) e H
   |_=>none
  | .block _ c=>evP X n f nt n0 c e H
  | .scope c=>evP X n f nt n0 c e H
  | .loop c=>match zl X f nt n0 c e H with
   |some (.normal,i,g)=>evP X n f nt n0 (.loop c) i g
   |some _=>none
   |none=>evP X n f nt n0 c e H
  |_=>none
section
variable {X:Cx} {f nt n0:Nat} {e:qu} {H H':qe} {d:D}
theorem qzg{P Q:Nat->List D->Option D}(h:∀f args d,P f args=some d->Q f args=some d){o:Op}{d:D}(a:Z3 X P o e=some d):Z3 X Q o e=some d:=by
 unfold Z3 at a⊢;split at a
 .exact a
 .split at a
  .split at a
   .exact h _ _ _ a
   .cases a
  .cases a
 .cases a
theorem qh6{P Q:Nat->List D->Option D}(h:∀f args d,P f args=some d->Q f args=some d){bw:Bool}{b:Array Oper}:∀{l:List Oper}{e:qu}{H:qe}{r:D×qe},Zb X P nt bw b l e H=some r->Zb X Q nt bw b l e H=some r
 |[],_,_,_,a=>a
 |o::l,e,H,r,a=>by
  rw[Zb] at a⊢;split at a
  .split at a
   .exact qh6 h a
   .cases c:Z3 X P o.op e with
    |none=>rw[c] at a;cases a
    |some q=>rw[c] at a;simp only[qzg h c];exact a
  .exact qh6 h a
  .cases a
theorem qnV{E G:Nat->Nat->Nat->Code->qu->qe->Option (D×qe)}(h:∀f nt n0 c e H r,E f nt n0 c e H=some r->G f nt n0 c e H=some r){f:Nat}{args:List D}{d:D}(a:Vw X E f args=some d):Vw X G f args=some d:=by
 unfold Vw at a⊢;split at a
 .split at a
  .split at a
   .rename_i b;rw[if_pos b];split at a
    .rename_i g;rw[h _ _ _ _ _ _ _ g];exact a
    .cases a
   .cases a
  .cases a
 .cases a
theorem q4s:∀{n f nt n0:Nat}{c:Code}{e:qu}{H:qe}{r:D×qe},evP X n f nt n0 c e H=some r->evP X (n+1) f nt n0 c e H=some r:=by
 intro n
 induction n with
 |zero=>intro f nt n0 c e H r h;simp[evP] at h
 |succ n g=>
  intro f nt n0 c e H r h;rw[evP.eq_def] at h⊢;cases c with
  |region id m i=>
   simp only at h⊢;split at h
   .exact qh6 (fun f args d j=>qnV (fun f nt n0 c e H r k=>g k) j) h
   .cases h
  |seq a b=>
   simp only at h⊢;split at h
   .exact g h
   .cases h
   .exact g h
  |cond c a b=>
   simp only at h⊢;split at h
   .exact g h
   .cases h
  |block id c=>exact g h
  |scope c=>exact g h
  |loop c=>
   simp only at h⊢;split at h
   .exact g h
   .cases h
   .exact g h
  |skip=>cases h
  |label l=>cases h
  |exit id=>cases h
  |ret=>cases h
  |_=>cases h
theorem q4w{n m:Nat}(a:n<=m){c:Code}{r:D×qe}(h:evP X n f nt n0 c e H=some r):evP X m f nt n0 c e H=some r:=by
 induction a with
 |refl=>exact h
 |step _ b=>exact q4s b
noncomputable def jM(X:Cx)(f nt n0:Nat)(c:Code)(e:qu)(H:qe):Option (D×qe):=lim fun n=>evP X n f nt n0 c e H
theorem codeP_some{c:Code}{r:D×qe}:jM X f nt n0 c e H=some r↔∃n,evP X n f nt n0 c e H=some r:=qky fun _ _ _ a h=>q4w a h
noncomputable def QC(X:Cx)(f:Nat)(args:List D):Option D:=Vw X (jM X) f args
theorem qzp{f:Nat}{args:List D}{d:D}(h:QC X f args=some d):∃n,Vw X (evP X n) f args=some d:=by
 unfold QC Vw at h;split at h
 .rename_i hc e;split at h
  .rename_i c g;split at h
   .rename_i a;split at h
    .rename_i b;obtain⟨n,i⟩:=codeP_some.1 b;refine⟨n,?_⟩;unfold Vw;simp only[hc,e,g,if_pos a,i];exact h
    .cases h
   .cases h
  .cases h
 .cases h
theorem qzf{o:Op}{d:D}(h:Z3 X (QC X) o e=some d):∃n,Z3 X (Vw X (evP X n)) o e=some d:=by
 unfold Z3 at h;split at h
 .refine⟨0,?_⟩;unfold Z3;exact h
 .split at h
  .rename_i hc c;split at h
   .rename_i a;obtain⟨n,b⟩:=qzp h;refine⟨n,?_⟩;unfold Z3;simp only[hc,c,a];exact b
   .cases h
  .cases h
 .cases h
theorem qjX{bw:Bool}{b:Array Oper}:∀{l:List Oper}{e:qu}{H:qe}{r:D×qe},Zb X (QC X) nt bw b l e H=some r->∃n,Zb X (Vw X (evP X n)) nt bw b l e H=some r
 |[],_,_,_,a=>⟨0,a⟩
 |o::l,e,H,r,a=>by
  rw[Zb] at a;split at a
  .rename_i f d;split at a
   .rename_i g;obtain⟨n,c⟩:=qjX a;exact⟨n,by rw[Zb,f,d];simp only[g];exact c⟩
   .rename_i g;cases h:Z3 X (QC X) o.op e with
    |none=>rw[h] at a;cases a
    |some q=>
     rw[h] at a;obtain⟨n,c⟩:=qzf h;exact⟨n,by rw[Zb,f,d];simp only[g,c];exact a⟩
  .rename_i f d;obtain⟨n,c⟩:=qjX a;exact⟨n,by rw[Zb,f,d];exact c⟩
  .cases a
theorem q5p{id:Nat}{a:Array Oper}{c:qu}{b:qe}{r:D×qe}(d:enter X f n0 id e H=some (c,b))(h:Zb X (QC X) nt (YV X f id false a) a a.toList c b=some r):jM X f nt n0 (.region id a false) e H=some r:=by
 obtain⟨n,g⟩:=qjX h;exact codeP_some.2 ⟨n+1,by rw[evP.eq_def];simp only[d];exact g⟩
theorem q5s{c:Operand}{a b:Code}{t:Bool}{r:D×qe}(hc:qZ X e c=some (.bool t))(h:jM X f nt n0 (if t then a else b) e H=some r):jM X f nt n0 (.cond c a b) e H=some r:=by
 obtain⟨n,d⟩:=codeP_some.1 h;exact codeP_some.2 ⟨n+1,by rw[evP.eq_def];simp only[hc];exact d⟩
theorem q5t{id:Nat}{c:Code}{r:D×qe}(h:jM X f nt n0 c e H=some r):jM X f nt n0 (.block id c) e H=some r:=by
 obtain⟨n,a⟩:=codeP_some.1 h;exact codeP_some.2 ⟨n+1,a⟩
theorem q5o{c:Code}{r:D×qe}(h:jM X f nt n0 c e H=some r):jM X f nt n0 (.scope c) e H=some r:=by
 obtain⟨n,a⟩:=codeP_some.1 h;exact codeP_some.2 ⟨n+1,a⟩
theorem q5m{a b:Code}{d:qu}{c:qe}{r:D×qe}(i:zl X f nt n0 a e H=some (.normal,d,c))(h:jM X f nt n0 b d c=some r):jM X f nt n0 (.seq a b) e H=some r:=by
 obtain⟨n,g⟩:=codeP_some.1 h;exact codeP_some.2 ⟨n+1,by rw[evP.eq_def];simp only[i];exact g⟩
theorem q5q{c:Code}{b:qu}{a:qe}{r:D×qe}(g:zl X f nt n0 c e H=some (.normal,b,a))(h:jM X f nt n0 (.loop c) b a=some r):jM X f nt n0 (.loop c) e H=some r:=by
 obtain⟨n,d⟩:=codeP_some.1 h;exact codeP_some.2 ⟨n+1,by rw[evP.eq_def];simp only[g];exact d⟩
theorem qjW{P:Nat->List D->Option D}{bw:Bool}{b:Array Oper}:∀{l:List Oper}{e:qu}{H:qe}{r:D×qe},Zb X P nt bw b l e H=some r->vX X (call X) nt bw b l e H=none
 |[],_,_,_,a=>by cases a
 |o::l,e,H,r,a=>by
  rw[Zb] at a;rw[vX];split at a
  .rename_i f d;rw[f,d];simp only;split at a
   .rename_i c;rw[c];exact qjW a
   .rename_i c;rw[c]
  .rename_i f d;rw[f,d];exact qjW a
  .cases a
theorem q4v:∀{n f nt n0:Nat}{c:Code}{e:qu}{H:qe}{r:D×qe},evP X n f nt n0 c e H=some r->zl X f nt n0 c e H=none:=by
 intro n
 induction n with
 |zero=>intro f nt n0 c e H r h;simp[evP] at h
 |succ n d=>
  intro f nt n0 c e H r h;rw[evP.eq_def] at h;cases c with
  |region id j g=>
   simp only at h;split at h
   .rename_i i;rw[qi4,i];simp only[J0,qjW h];rfl
   .cases h
  |seq a b=>
   simp only at h;rw[ql1];split at h
   .rename_i hc;rw[hc];exact d h
   .cases h
   .rename_i hc;rw[hc]
  |cond c a b=>
   simp only at h;rw[ql3];split at h
   .rename_i hc;rw[hc];exact d h
   .cases h
  |block id c=>rw[ql4,d h]
  |scope c=>rw[ql2,d h]
  |loop c=>
   simp only at h;rw[qgH];split at h
   .rename_i hc;rw[hc];exact d h
   .cases h
   .rename_i hc;rw[hc]
  |skip=>cases h
  |label l=>cases h
  |exit id=>cases h
  |ret=>cases h
  |_=>cases h
theorem qi5{c:Code}{r:D×qe}(h:jM X f nt n0 c e H=some r):zl X f nt n0 c e H=none:=by
 obtain⟨n,a⟩:=codeP_some.1 h;exact q4v a
theorem q5n{a b:Code}{r:D×qe}(h:jM X f nt n0 a e H=some r):jM X f nt n0 (.seq a b) e H=some r:=by
 have hc:=qi5 h;obtain⟨n,c⟩:=codeP_some.1 h;exact codeP_some.2 ⟨n+1,by rw[evP.eq_def];simp only[hc];exact c⟩
theorem q5r{c:Code}{r:D×qe}(h:jM X f nt n0 c e H=some r):jM X f nt n0 (.loop c) e H=some r:=by
 have hc:=qi5 h;obtain⟨n,a⟩:=codeP_some.1 h;exact codeP_some.2 ⟨n+1,by rw[evP.eq_def];simp only[hc];exact a⟩
theorem qzo{args:List D}(h:QC X f args=some d):call X f args []=none:=by
 unfold QC Vw at h;split at h
 .rename_i hc e;split at h
  .rename_i c b;split at h
   .rename_i a;split at h
    .rename_i g;rw[qiB hc e b a.1];have:=qi5 g;simp only[kf,this]
    .cases h
   .cases h
  .cases h
 .cases h
theorem qjV{n:Nat}(s:∀{f nt n0:Nat}{c:Code}{e:qu}{H:qe}{d:D}{H':qe},evP X n f nt n0 c e H=some (d,H')->PanC X n f nt n0 c e H d H'){bw:Bool}{j:Array Oper}:
  ∀{l:List Oper}{e:qu}{H:qe}{d:D}{H':qe},Zb X (Vw X (evP X n)) nt bw j l e H=some (d,H')->
   ∃k o p e2,l=k++o::p/\vX X (call X) nt bw j k e H=some (e2,H')/\vP j e2 o.guard=some true/\idFree d=true/\vFree d=true/\qvI X (fun f nt n0 c e d=>∃L,PanC X n f nt n0 c e [] d L) o.op e2 d
 |[],_,_,_,_,h=>by cases h
 |o::l,e,H,d,H',h=>by
  rw[Zb] at h;split at h
  .rename_i B r;split at h
   .rename_i P R C;obtain⟨k,u,p,e2,w,z,v⟩:=qjV s h;exact⟨o::k,u,p,e2,by rw[w];rfl,by rw[vX,B,r];simp only[C];exact z,v⟩
   .rename_i C;cases a:Z3 X (Vw X (evP X n)) o.op e with
    |none=>rw[a] at h;cases h
    |some q=>
     rw[a] at h;injection h with h;injection h with G J;subst G;subst J;refine⟨[],o,l,e,rfl,rfl,r,?_⟩;unfold Z3 at a;split at a
     .rename_i x y;split at a
      .rename_i t N hx;split at a
       .rename_i b;injection a with a;subst a;rw[zX] at b;exact⟨b.1,b.2,.inl ⟨x,t,N,y,hx,rfl⟩⟩
       .cases a
      .cases a
     .rename_i c y;split at a
      .rename_i g args hc M;split at a
       .rename_i F m A;unfold Vw at a;split at a
        .rename_i fn S E;split at a
         .rename_i K O;split at a
          .rename_i i;split at a
           .rename_i Q L I;split at a
            .rename_i b;injection a with a;subst a;rw[zX] at b;exact⟨b.1,b.2,.inr ⟨c,g,F,m,args,fn,K,y,hc,M,A,E,O,i.1,i.2,L,s I⟩⟩
            .cases a
           .cases a
          .cases a
         .cases a
        .cases a
       .cases a
      .cases a
     .cases a
  .rename_i B r;obtain⟨k,u,p,e2,w,z,v⟩:=qjV s h;exact⟨o::k,u,p,e2,by rw[w];rfl,by rw[vX,B,r];exact z,v⟩
  .cases h
theorem q4u:∀{n f nt n0:Nat}{c:Code}{e:qu}{H:qe}{d:D}{H':qe},evP X n f nt n0 c e H=some (d,H')->PanC X n f nt n0 c e H d H':=by
 intro n
 induction n with
 |zero=>intro f nt n0 c e H d H' h;simp[evP] at h
 |succ n g=>
  intro f nt n0 c e H d H' h;rw[evP.eq_def] at h;rw[PanC.eq_def];cases c with
  |region id j i=>
   cases i with
   |true=>cases h
   |false=>
    simp only at h⊢;split at h
    .rename_i s r _ k;obtain⟨m,o,w,e2,v,y,q,x,p,u⟩:=qjV g h;exact⟨s,r,m,o,w,e2,k,v,y,q,x,p,u⟩
    .cases h
  |seq a b=>
   simp only at h⊢;split at h
   .rename_i hc;exact .inr ⟨_,_,hc,g h⟩
   .cases h
   .exact .inl (g h)
  |cond c a b=>
   simp only at h⊢;split at h
   .rename_i t hc;exact⟨t,hc,g h⟩
   .cases h
  |block id c=>exact g h
  |scope c=>exact g h
  |loop c=>
   simp only at h⊢;split at h
   .rename_i hc;exact .inr ⟨_,_,hc,g h⟩
   .cases h
   .exact .inl (g h)
  |skip=>cases h
  |label l=>cases h
  |exit id=>cases h
  |ret=>cases h
  |_=>cases h
noncomputable def YY(X:Cx)(f:Nat)(args:List D)(H:qe):Option (D×qe):=
 match X.P.funcs[f]? with
 |some fn=>match fn.body with
  |some c=>if X.bad f=false then jM X f fn.ntmps H.length c (kr 0 args) H else none
  |none=>none
 |none=>none
theorem qzi{args:List D}(h:YY X f args H=some (d,H')):qvH X f args H d H':=by
 unfold YY at h;split at h
 .rename_i fn e;split at h
  .rename_i c b;split at h
   .rename_i a;obtain⟨n,g⟩:=codeP_some.1 h;exact⟨n,fn,c,e,b,a,q4u g⟩
   .cases h
  .cases h
 .cases h
theorem qog{P:Nat->List D->Option D}{bw:Bool}(a:Array Oper):∀(l:List Oper)(e:qu)(H:qe),Zb X P nt bw (kI a.toList).toArray (kI l) e H=Zb X P nt bw a l e H
 |[],e,H=>rfl
 |o::l,e,H=>by
  simp only[kI,Zb,qaH,qkL,qog a l]
theorem q4t:∀(n:Nat)(c:Code)(e:qu)(H:qe),evP X n f nt n0 (jO c) e H=evP X n f nt n0 c e H:=by
 intro n
 induction n with
 |zero=>intro c e H;simp[evP]
 |succ n d=>
  intro c e H;cases c with
  |region id h g=>
   have i:(kI h.toList).toArray.toList=kI h.toList:=wE;cases g with
   |true=>simp only[jO,evP]
   |false=>
    simp only[jO,evP];cases enter X f n0 id e H with
    |none=>rfl
    |some q=>simp only[qog,YV]
  |seq a b=>simp only[jO,evP,d,qi3]
  |cond x a b=>
   simp only[jO,evP];split
   .rename_i t _;cases t<;>simp only[d,if_true,if_false,kZ]
   .rfl
  |block id c=>simp only[jO,evP,d]
  |loop c=>
   have:=d (.loop c);simp only[jO] at this;simp only[jO,evP,d,this,qi3]
  |scope c=>simp only[jO,evP,d]
  |_=>rfl
theorem quZ{c:Code}:jM X f nt n0 (jO c) e H=jM X f nt n0 c e H:=by
 unfold jM;congr 1;funext n;exact q4t n c e H
theorem qzn{fn:Func}{args:List D}{H':qe}(i:X.P.funcs[f]?=some fn)(g:fn.body.isSome=true)(a:X.bad f=false/\X.con f args []=none)(j:args.all idFree=true)(e:idFree d=true/\vFree d=true)
  (h:jM X f fn.ntmps 0 (jO (Q6 fn)) (kr 0 args) []=some (d,H')):QC X f args=some d:=by
 rw[quZ] at h;unfold QC Vw;cases b:fn.body with
 |none=>rw[b] at g;cases g
 |some c=>
  have hc:Q6 fn=c:=by simp only[Q6,b,Va]
  rw[hc] at h;simp only[a.2,i,b,if_pos (show X.bad f=false/\args.all idFree=true from⟨a.1,j⟩),h,e.1,e.2,Bool.and_self,if_true]
theorem qzj{fn:Func}{args:List D}{r:D×qe}(e:X.P.funcs[f]?=some fn)(d:fn.body.isSome=true)(a:X.bad f=false)
  (h:jM X f fn.ntmps H.length (jO (Q6 fn)) (kr 0 args) H=some r):YY X f args H=some r:=by
 rw[quZ] at h;unfold YY;cases b:fn.body with
 |none=>rw[b] at d;cases d
 |some c=>
  have hc:Q6 fn=c:=by simp only[Q6,b,Va]
  rw[hc] at h;simp only[e,b,a,if_true];exact h
theorem qzk{args:List D}{r:D×qe}(b:X.con f args H=none)(h:YY X f args H=some r):call X f args H=none:=by
 unfold YY at h;split at h
 .rename_i fn e;split at h
  .rename_i c d;split at h
   .rename_i a;rw[qiB b e d a,qi5 h]
   .cases h
  .cases h
 .cases h
end
end Go.Ev
namespace Go.Ev
open Go Go.Proofs
structure Ext (L:List Nat) (H T:qe):Prop where
 len:H.length<=T.length
 out:∀i,i<H.length->i∉L->qd T i=qd H i
theorem Ext.refl(L:List Nat)(H:qe):Ext L H H:=⟨qA _,fun _ _ _=>rfl⟩
def NewL(L M:List Nat)(n:Nat):Prop:=∀i,i∈M->i∈L\/n<=i
theorem NewL.refl(L:List Nat)(n:Nat):NewL L L n:=fun _ h=>.inl h
theorem NewL.trans{L M K:List Nat}{n m:Nat}(h:NewL L M n)(b:NewL M K m)(c:n<=m):NewL L K n:=fun i hi=>by
 rcases b i hi with a|a
 .exact h i a
 .exact .inr (zI c a)
theorem Ext.trans{L M:List Nat}{H T K:qe}(h:Ext L H T)(a:Ext M T K)(d:NewL L M H.length):Ext L H K:=
 ⟨zI h.len a.len,fun i hi b=>by
  rw[a.out i (vh hi h.len) fun hc=>(d i hc).elim b fun c=>absurd hi (Nat.not_lt.2 c),h.out i hi b]⟩
theorem Ext.mono{L M:List Nat}{H T:qe}(h:Ext L H T)(a:∀i,i∈L->i∈M):Ext M H T:=⟨h.len,fun i hi b=>h.out i hi fun hc=>b (a i hc)⟩
theorem Ext.get{L:List Nat}{H T:qe}(h:Ext L H T){i:Nat}{ds:List D}(a:qd H i=some ds)(hi:i∉L):qd T i=some ds:=by
 rw[h.out i (qx a) hi,a]
theorem Ext.new(H:qe)(ds:List D):Ext [] H (qr H ds):=⟨wX,fun i hi _=>vw hi⟩
theorem Ext.set(H:qe)(i:Nat)(ds:List D):Ext [i] H (qn H i ds):=⟨by rw[kK];omega,fun j _ a=>zW wr⟩
theorem Ext.app(H L:qe):Ext [] H (H++L):=⟨wE,fun i hi _=>qeu hi⟩
theorem Ext.lt{L:List Nat}{H T:qe}(h:Ext L H T){i:Nat}(hi:i<H.length):i<T.length:=vh hi h.len
theorem qdq{H:qe}{i:Nat}{ds:List D}(h:qd H i=some ds):qn H i ds=H:=by
 have a:=qx h;unfold qn;apply List.ext_getElem?;intro j;rw[List.getElem?_set];by_cases b:i=j
 .subst b;unfold qd at h;rw[qN a] at h;simp only[Va] at h;rw[if_pos rfl,if_pos a,qN a,h]
 .rw[if_neg b]
def RowA(H:qe)(k:Nat)(v:D)(cs:List D)(L:List Nat):Prop:=
 (v=.vsl true [] 0/\cs=[]/\L=[])\/∃r n,v=.osl r cs.length 0 n k/\cs.length=n*k/\qd H r=some cs/\L=[r]
theorem RowA.nil(H:qe)(k:Nat):RowA H k (.vsl true [] 0) [] []:=.inl ⟨rfl,rfl,rfl⟩
theorem RowA.ext{H T:qe}{k:Nat}{v:D}{cs:List D}{L M:List Nat}(h:RowA H k v cs L)(b:Ext M H T)(d:∀i,i∈L->i∉M):RowA T k v cs L:=by
 rcases h with h|⟨r,n,c,e,a,rfl⟩
 .exact .inl h
 .exact .inr ⟨r,n,c,e,b.get a (d r wE),rfl⟩
theorem RowA.lt{H:qe}{k:Nat}{v:D}{cs:List D}{L:List Nat}(h:RowA H k v cs L){i:Nat}(hi:i∈L):i<H.length:=by
 rcases h with⟨_,_,rfl⟩|⟨r,n,c,b,a,rfl⟩
 .simp at hi
 .rw[List.mem_singleton.1 hi];exact qx a
theorem RowA.append{P:Program}{H:qe}{st xt e:TypeId}{k:Nat}{v x:D}{cs xs:List D}{L:List Nat}{m:Nat}(h:RowA H k v cs L)(f:P.underlying st=some (.slice e))(g:qw P e=k)
  (q:qcS P H e xt x=some (xs,m)) (a:(VI P e 0).isSome=true) (u:m≠0) (p:xs.length=m*k) (t:0<k) (d:(cs.length+m)*bytesOf P e<=qF) (b:cs.length+m<=qF):
  ∃o T j,qG P H st xt v x=some (o,T)/\RowA T k o (cs++xs) j/\Ext L H T/\NewL L j H.length:=by
 obtain⟨z,a⟩:=Option.isSome_iff_exists.1 a;rcases h with⟨rfl,rfl,rfl⟩|⟨r,n,rfl,c,l,rfl⟩
 .simp only[kf,J3] at d b;refine⟨.osl H.length xs.length 0 m k,qr H xs,[H.length],?_,.inr ⟨H.length,m,?_,?_,?_,rfl⟩,Ext.new H xs,fun i hi=>.inr (Nat.le_of_eq (List.mem_singleton.1 hi).symm)⟩
  .unfold qG;simp only[f,g,q,a,if_neg u,if_pos (show m*bytesOf P e<=qF/\m<=qF from⟨d,b⟩)]
  .simp
  .simpa using p
  .simp
 .have s:n+m<=cs.length+m:=by
   rw[c];have:=Nat.le_mul_of_pos_right n t;omega
  refine⟨.osl r (cs.length+xs.length) 0 (n+m) k,qn H r (cs++xs),[r],?_,.inr ⟨r,n+m,?_,?_,?_,rfl⟩,Ext.set H r _,NewL.refl _ _⟩
  .unfold qG;simp only[f,g,q,a,l];rw[if_pos ⟨trivial,trivial,c.symm,zI (qb9 _ s) d,zI s b⟩]
  .rw[zp]
  .rw[zp,c,p,kt]
  .exact zk (qx l)
theorem RowA.own{H:qe}{k:Nat}{v:D}{cs:List D}{L:List Nat}(h:RowA H k v cs L)(hc:cs≠[]):∃r n,v=.osl r cs.length 0 n k/\cs.length=n*k/\qd H r=some cs/\L=[r]:=by
 rcases h with⟨_,a,_⟩|h
 .exact absurd a hc
 .exact h
theorem RowA.of{H:qe}{k r n:Nat}{cs:List D}(b:cs.length=n*k)(a:qd H r=some cs):RowA H k (.osl r cs.length 0 n k) cs [r]:=.inr ⟨r,n,rfl,b,a,rfl⟩
theorem jy{X:Cx}{f:Nat}{H:qe}{fn:Func}{args:List D}{r:D×qe}(b:X.P.funcs[f]?=some fn)(e:fn.body.isSome=true)(a:X.bad f=false/\X.con f args H=none)
  (h:Run X f fn.ntmps H.length (qiQ X (X.fzr f) fn.results.toList (· =r)) [] (zl X f fn.ntmps H.length (jO (Q6 fn)) (kr 0 args) H)) (d:(X.gr f&&X.byRef f)=true:=by rfl):call X f args H=some r:=by
 obtain⟨g,c,rfl⟩:=vz (· =r) b e a h d;exact c
theorem qz(a b:Int)(h:(-9223372036854775808<=a/\a<9223372036854775808)/\a=b:=by omega):IntKind.i64.wrap a=b:=by rw[wrap_i64 h.1,h.2]
theorem zg(a b:Int)(h:(0<=a/\a<18446744073709551616)/\a=b:=by omega):IntKind.u64.wrap a=b:=by rw[qaF h.1,h.2]
theorem qdT(a b:Int)(h:(0<=a/\a<4294967296)/\a=b:=by omega):IntKind.u32.wrap a=b:=by rw[qjb h.1,h.2]
theorem zu8(a b:Int)(h:(0<=a/\a<256)/\a=b:=by omega):IntKind.u8.wrap a=b:=by rw[qeJ h.1,h.2]
theorem ql{α:Type}(e:α):∃x,e=x:=⟨e,rfl⟩
theorem zJ{H K:qe}{l:List D}(h:qr H l=K):Ext [] H K:=h▸Ext.new H _
theorem vZ{H K:qe}{q:Nat}{l:List D}(h:qn H q l=K):Ext [q] H K:=h▸Ext.set H q _
theorem js{H K:qe}{l:List D}(h:qr H l=K):qd K H.length=some l:=by rw[<-h,zo]
theorem kc{H K:qe}{q:Nat}{l m:List D}(h:qn H q l=K)(g:qd H q=some m):qd K q=some l:=by rw[<-h];exact zk (qx g)
theorem zfl{l:List D}(h:l.all idFree=true):idFree.idFreeL l=true:=by rw[Qv];exact h
theorem zfa{l:List D}(h:l.all idFree=true):(∀x,x∈l->idFree x=true)=True:=eq_true (List.all_eq_true.1 h)
theorem zfb{l:List D}(h:idFree.idFreeL l=true):(∀x,x∈l->idFree x=true)=True:=zfa (by rw[<-Qv];exact h)
theorem zca{l:List D}(h:l.all idFree=true)(n:Nat):(∀x,x∈l->closed n x=true)=True:=eq_true fun x hx=>qi7 n x (List.all_eq_true.1 h x hx)
theorem zcb{l:List D}(h:idFree.idFreeL l=true)(n:Nat):(∀x,x∈l->closed n x=true)=True:=zca (by rw[<-Qv];exact h) n
theorem zsh{l:List D}(h:idFree.idFreeL l=true)(n:Nat):shift.shiftL n l=l:=qaK n l h
theorem VJ{a b:Int}(h:a≠b:=by omega):(a !=b)=true:=by simp only[bne_iff_ne,ne_eq];exact h
theorem zn{a b:Nat}(h:a<b):(a:Int)<(b:Int):=wC
theorem zq{a b:Nat}(h:¬a<b):¬(a:Int)<(b:Int):=wC
def leT(x y:List UInt8):Bool:=decide (x<=y)
def kh(l:List (List UInt8)):List (List UInt8):=l.mergeSort leT
theorem qmJ(l:List (List UInt8)):(kh l).Perm l:=List.mergeSort_perm l leT
@[simp] theorem qxl (l:List (List UInt8)):(kh l).length=l.length:=(qmJ l).length_eq
theorem sortL_mem{l:List (List UInt8)}{x:List UInt8}:x∈kh l↔x∈l:=(qmJ l).mem_iff
end Go.Ev
namespace Go.Ev
open Go Go.Proofs Go.RowKit Go.Shelf Go.Sort
def jN(l:List (List UInt8)):List D:=l.map .str
def qcO:List D->Option (List (List UInt8))
 |[]=>some []
 | .str s::l=>(qcO l).map (s:: ·)
 |_=>none
theorem qm1:∀l,qcO (jN l)=some l
 |[]=>rfl
 |s::l=>by simp only[jN,List.map_cons,qcO];rw[show List.map D.str l=jN l from rfl,qm1 l];rfl
theorem qmp:∀{ds l},qcO ds=some l->ds=jN l
 |[],l,h=>by simp only[qcO,qy] at h;subst h;rfl
 |d::ds,l,h=>by
  cases d<;>simp only[qcO] at h<;>try cases h
  cases a:qcO ds with
  |none=>rw[a] at h;cases h
  |some r=>
   rw[a] at h;simp only[j6,qy] at h;subst h;rw[qmp a];rfl
def qgD:List D->qe->Option (D×qe)
 |[.vsl true [] 0],H=>some (.tup [],H)
 |[.osl i st 0 a 1],H=>match qd H i with
  |some ds=>match qcO ds with
   |some l=>if l.length=st/\a=st/\st<4611686018427387904 then some (.tup [],qn H i (jN (kh l))) else none
   |none=>none
  |none=>none
 |_,_=>none
section
variable {X:Cx} {ρ:Ren} {ok:Nat->Prop} {w:World} {ι:qV} {H H':qe} {r:D} {args:List D} {vs:List Value}
theorem qyz{s:List UInt8}{v:Value}(h:Rep ok w ι H (.str s) v):v=encStr s:=by
 cases h;rfl
theorem q5a(L:SlLaysN.n54 X.P ρ)(N:∀args w,(callFunc (ρ.f 54) args).run X.P w=.ok (.enter (ρ.f 54) args) w)(h:qgD args H=some (r,H'))(F:Sim X ok w ι H)(O:RepL ok w ι H args vs):
  Goes X.P (callFunc (ρ.f 54) vs.toArray) w (CallPost X ok w ι H r H'):=by
 unfold qgD at h;split at h
 .injection h with h;injection h with B M;subst B;subst M;obtain⟨v,us,rfl,K,E⟩:=J6 O;cases qcU E;cases K;refine qi2 F (N _ _) ((AnyG.slices_Sort_string_none L none 0 w).mono ?_);rintro e w' ⟨rfl,rfl⟩;exact⟨_,rfl,.tup rfl (fun j d m=>by simp at m),Below.refl _ _⟩
 .rename_i H0 i st G;split at h
  .rename_i ds t;split at h
   .rename_i l T;split at h
    .rename_i hc;obtain⟨A,rfl,c3⟩:=hc;injection h with h;injection h with B M;subst B;subst M;have C:=qmp T;subst C;have V:(jN l).length=G:=(by simp[jN,A]);obtain⟨v,us,rfl,K,E⟩:=J6 O;cases qcU E;cases K with
     | @osl _ _ _ _ _ _ _ c a hi hh zt=>
      obtain⟨b,s,R,rfl,q3⟩:=(hh _ t).2 V;obtain⟨b',arr,e2,fr,q,k2,z,k4,Q,k6,k7,W⟩:=F.blk i _ t;rw[R] at q;injection q with q;injection q with q I;subst q;subst I;have Y:b<w.heap.size:=(Array.getElem?_eq_some_iff.1 z).1
      have kP:∀j,j<l.length->arr.getD j undef=encStr (l.getD j []):=by
       intro j m;have:(jN l)[j]?=some (.str (l.getD j [])):=(by simp[jN,m]);exact qyz (W j _ this)
      have Z:Holds encStr w b 0 l.toArray:=by
       intro j m;have S:j<l.length:=(by simpa using m);have J:j<arr.size:=wC;refine⟨?_,?_⟩
       .rw[J3,YI z,ZN J];have:=kP j S;rw[j7,ZN J] at this;simp only[Va] at this;rw[this];simp[S]
       .rw[J3,qij z];have:=qih Q j J;simp only[Bool.and_eq_false_iff,decide_eq_false_iff_not];omega
      unfold Goes;rw[N];simp only;have u:(kh l).length=l.length:=(by simp[kh]);have o:=AnyG.slices_Sort_string L b 0 c l w Z Y wC;rw[A] at o;refine o.mono ?_;rintro e w' ⟨rfl,n,os,rfl⟩;refine⟨_,rfl,?_⟩;have x:=grownBy_sorted (w:=w) (g:=b) (n:=n) (os:=os) (kh l).toArray;have U:=heap_sorted (n:=n) (os:=os) (kh l).toArray z;have y:(putCells encStr 0 (kh l).toArray arr).size=arr.size:=by simp[putCells]
      have qd:∀j,j<arr.size->(putCells encStr 0 (kh l).toArray arr).getD j undef=if j<l.length then encStr ((kh l).getD j []) else arr.getD j undef:=by
       intro j m;rw[j7,ZN wC,j7,ZN m];simp only[putCells,Array.getElem_mapIdx,Va];by_cases p:j<l.length
       .have:j<(kh l).length:=wC;simp[p,u]
       .simp[p,u]
      obtain⟨ι',s1,s2,s3⟩:=qfP (i:=i) (ds:=jN l) (ds':=jN (kh l)) (b:=b) (sz:=arr.size) (b':=b) (arr':=putCells encStr 0 (kh l).toArray arr) (w':=grow (putRow encStr (Sort.ahead w n) b 0 (kh l).toArray) os) F t R ⟨x.os,x.tape,x.output⟩ x.size
       (fun c hc qQ=>x.block c hc (fun e=>qQ (by injection e))) U (.inl ⟨rfl,y⟩) (by simp[jN,u]) (by rw[y];simpa[jN,u,A] using k4) (by rw[y];exact Q)
       (fun j m=>by
        rw[y] at m;rw[qd j m];by_cases p:j<l.length
        .rw[if_pos p];rfl
        .rw[if_neg p];exact k6 j m)
       (fun d t=>by
        simp only[jN,ZM] at t;obtain⟨s,_,rfl⟩:=t;rfl)
       (fun j d m=>by
        have p:j<l.length:=by
         have:=(List.getElem?_eq_some_iff.1 m).1;simpa[jN,u] using this
        rw[qd j wC,if_pos p]
        have:(jN (kh l))[j]?=some (.str ((kh l).getD j [])):=by
         unfold jN;rw[Vb,jv,qN (show j<(kh l).length from wC)];rfl
        rw[this] at m;injection m with m;subst m;exact .str _)
      refine⟨ι',ok,s1,.tup rfl (fun j d m=>by simp at m),s2,fun k ds hk vn=>?_⟩;have:=qx vn;rw[kK] at this;omega
    .cases h
   .cases h
  .cases h
 .cases h
end
end Go.Ev
namespace Go.Ev
open Go Go.Proofs Go.RowKit Go.Shelf
def qes:List D->Option D
 |[x,.int .u8 c]=>(VN x).map fun a=>.int .i64 (QF (UInt8.ofNat c.toNat) (Lib.bytesOf a) 0)
 |_=>none
section
variable {ok:Nat->Prop} {w:World} {ι:qV} {H:qe} {args:List D} {vs:List Value}
theorem q2N{P:Program}{f:Nat}{fn:Func}(hf:P.funcs[f]?=some fn)(hn:fn.body=none)(hng:(fn.name== "runtime.NumGoroutine")=false)
  (h1:Extern.findNext fn=none) (h2:Extern.find fn=some Extern.BytealgIndexByte.indexByte) {d:D}
  (h:qes args=some d) (hv:RepL ok w ι H args vs):∃v,(callFunc f vs.toArray).run P w=.ok (.value v) w/\Rep ok w ι H d v/\idFree d=true:=by
 unfold qes at h;split at h
 .rename_i x c;cases hx:VN x with
  |none=>simp[hx] at h
  |some a=>
   simp only[hx,j6,qy] at h;subst h;obtain⟨u,us,rfl,hu,jD⟩:=J6 hv;obtain⟨v2,us2,rfl,h3,h4⟩:=J6 jD;cases qcU h4;cases h3;refine⟨.int .i64 (QF (UInt8.ofNat c.toNat) (Lib.bytesOf a) 0),?_,.int _ _,rfl⟩;rw[run_callFunc_extern hf hng (by rw[hn];rfl) h1 h2,<-qsV];have hs:=Lib.run_indexByteString (P:=P) ⟨(Lib.bytesOf a).toArray⟩ c w;have hl:=qjv (P:=P) hx hu
   have key:(Extern.BytealgIndexByte.indexByte #[u,.int .u8 c]).run P w=.ok (.int .i64 (Lib.indexByte (Lib.bytesOf a) c.toNat.toUInt8)) w:=by
    change Sem.run P (do
     let b<-Extern.Bytes.bytesOf u
     let c<-Extern.Bytes.asByte (.int .u8 c)
     match(List.range b.size).find? fun i=>b[i]! ==c with
     |some i=>pure (goInt i)
     |none=>pure (goInt (-1))) w=_
    change Sem.run P (do
     let b<-Extern.Bytes.bytesOf (.string ⟨(Lib.bytesOf a).toArray⟩)
     let c<-Extern.Bytes.asByte (.int .u8 c)
     match(List.range b.size).find? fun i=>b[i]! ==c with
     |some i=>pure (goInt i)
     |none=>pure (goInt (-1))) w=_ at hs
    have hstr:(Extern.Bytes.bytesOf (.string ⟨(Lib.bytesOf a).toArray⟩)).run P w=.ok ⟨(Lib.bytesOf a).toArray⟩ w:=rfl;simp only[Sem.run_bind,hl,hstr,Result.andThen] at hs⊢;exact hs
   rw[show([u,Value.int .u8 c]:List Value).toArray= #[u,.int .u8 c] from rfl,key];rfl
 .cases h
end
theorem qxn(s:List UInt8):VN (.vsl false (qf s) s.length)=some (s.map fun b=>(b.toNat:Int)):=by
 simp only[VN,qf,List.length_map,if_true];exact qvt s
theorem q2M(a:Bool)(l:List UInt8)(h:a=true->l=[])(c:Nat):qes [.vsl a (qf l) l.length,.int .u8 c]=some (.int .i64 (QF (UInt8.ofNat c) l 0)):=by
 have d:Lib.bytesOf (l.map fun b=>(b.toNat:Int))=l:=by simp[Lib.bytesOf,List.map_map,Function.comp_def]
 cases a with
 |false=>
  simp only[qes,qxn,j6,d,Int.toNat_natCast]
 |true=>
  obtain rfl:=h rfl;simp[qes,VN,qf,Lib.bytesOf]
end Go.Ev
