import Derived.Test.YtglpgdajjpipgaaGreatDoorC2
import Derived.Lib.BytesEntry
import Derived.Laws.Externs
import Derived.ProofKit
import Derived.OpenShut
import Derived.Below
import Derived.WideKeyArgs
import Derived.Carry
import Derived.ChangeSame
import Derived.ChangeSlices
import Derived.DataReads
import Derived.DataElems
import Derived.ChangeArms
import Derived.Lib.LaidTab
import Derived.Stop.LaidErr
import Derived.LaidMore
import Derived.Shelf.Strconv.Itoa1
import Derived.Shelf.Strings.Search2
import Derived.Shelf.Strconv.Clone
import Derived.WalkSmall
import Derived.Shelf.Strings.Repeat
import Derived.Lib.Bytealg
import Derived.Shelf.SortG.Plain
import Derived.Shelf.SortG.SortNone
import Derived.Sort.OwnSorted
namespace Go.Ev
open Go Go.Proofs
def qbz:List D->Option (List Int)
 |[]=>some []
 | .int .u8 n::l=>(qbz l).map (n:: ·)
 |_=>none
def VL:D->Option (List Int)
 | .vsl true [] 0=>some []
 | .vsl false cs a=>if cs.length=a then qbz cs else none
 |_=>none
def qf4:List D->Option D
 |[x,y]=>match VL x,VL y with
  |some a,some b=>some (.int .i64 (Extern.BytealgCompare.cmp ⟨(Lib.bytesOf a).toArray⟩ ⟨(Lib.bytesOf b).toArray⟩))
  |_,_=>none
 |_=>none
theorem qvA:∀{cs:List D}{l:List Int},qbz cs=some l->cs.length=l.length/\∀(j:Nat) x,l[j]?=some x->cs[j]?=some (.int .u8 x)
 |[],l,h=>by simp only[qbz,qy] at h;subst h;simp
 |d::cs,l,h=>by
  cases d with
  |int k n=>
   cases k with
   |u8=>
    simp only[qbz] at h;cases a:qbz cs with
    |none=>simp[a] at h
    |some f=>
     simp only[a,jn,qy] at h;subst h;obtain⟨e,c⟩:=qvA a;refine⟨by simp[e],fun j x b=>?_⟩;cases j with
     |zero=>simpa using b
     |succ j=>simpa using c j x wv
   |_=>simp[qbz] at h
  |_=>simp[qbz] at h
theorem qjx{P:Program}{ok:Nat->Prop}{w:World}{ι:qU}{H:qe}{d:D}{v:Value}{l:List Int}(h:VL d=some l)(e:Rep ok w ι H d v):
  (Extern.Bytes.bytesOf v).run P w=.ok ⟨(Lib.bytesOf l).toArray⟩ w:=by
 cases e with
 |vnil=>simp only[VL,qy] at h;subst h;simp[Extern.Bytes.bytesOf,Lib.bytesOf];rfl
 |vsl a f q hc e i p=>
  rename_i ds o c;simp only[VL] at h;split at h
  .rename_i b;obtain⟨n,m⟩:=qvA h
   have:=Lib.run_loadBytesX (P:=P) w l a .empty (fun j x k=>by
    have g:=m j x k;rw[e j _ g];have:=i j _ g;generalize f j=v at this;cases this;rfl)
   simp only[Extern.Bytes.bytesOf];rw[<-b,n,this];simp
  .cases h
 |_=>simp[VL] at h
theorem q5R{P:Program}{f:Nat}{fn:Func}(hf:P.funcs[f]?=some fn)(hn:fn.body=none)(hng:(fn.name== "runtime.NumGoroutine")=false)
  (h1:Extern.findNext fn=none) (h2:Extern.find fn=some Extern.BytealgCompare.compare) {ok:Nat->Prop} {w:World} {ι:qU} {H:qe} {args:List D} {d:D} {vs:List Value}
  (h:qf4 args=some d) (hv:RepL ok w ι H args vs):∃v,(callFunc f vs.toArray).run P w=.ok (.value v) w/\Rep ok w ι H d v/\idFree d=true:=by
 rw[run_callFunc_extern hf hng (by rw[hn];rfl) h1 h2]
 match args,h with
 |[x,y],h=>
  simp only[qf4] at h;cases hx:VL x with
  |none=>simp[hx] at h
  |some a=>
   cases hy:VL y with
   |none=>simp[hx,hy] at h
   |some b=>
    simp only[hx,hy,qy] at h;subst h
    obtain⟨u,v,rfl,hu,hv⟩:∃u v,vs=[u,v]/\Rep ok w ι H x u/\Rep ok w ι H y v:=by
     obtain⟨hl,hh⟩:=hv
     match vs,hl with
     |[u,v],_=>exact⟨u,v,rfl,hh 0 x rfl,hh 1 y rfl⟩
    refine⟨_,?_,.int .i64 _,rfl⟩;have hc:Extern.BytealgCompare.compare [u,v].toArray=(do pure (goInt (Extern.BytealgCompare.cmp (<-Extern.Bytes.bytesOf u) (<-Extern.Bytes.bytesOf v)))):=rfl;rw[hc];simp only[Sem.run_bind,qjx hx hu,qjx hy hv,Result.andThen];rfl
def zn:List UInt8->List UInt8->Int
 |[],[]=>0
 |[],_::_=>-1
 |_::_,[]=>1
 |a::x,b::y=>if a=b then zn x y else if a<b then-1 else 1
theorem qfC(l:List UInt8):(ByteArray.mk l.toArray).size=l.length:=by
 show l.toArray.size=_;simp
theorem qlU(l:List UInt8)(i:Nat):(ByteArray.mk l.toArray)[i]! =(l[i]?).getD 0:=by
 by_cases h:i<l.length
 .have a:i<(ByteArray.mk l.toArray).size:=by rw[qfC];exact h
  rw[getElem!_pos (ByteArray.mk l.toArray) i a,qM h];rfl
 .have a:¬i<(ByteArray.mk l.toArray).size:=by rw[qfC];exact h
  rw[getElem!_neg (ByteArray.mk l.toArray) i a,List.getElem?_eq_none wC];rfl
theorem q5Q(a:UInt8)(x:List UInt8)(b:UInt8)(y:List UInt8):
  Extern.BytealgCompare.cmp ⟨(a::x).toArray⟩ ⟨(b::y).toArray⟩=if a=b then Extern.BytealgCompare.cmp ⟨x.toArray⟩ ⟨y.toArray⟩ else if a<b then-1 else 1:=by
 have j:min (ByteArray.mk (a::x).toArray).size (ByteArray.mk (b::y).toArray).size=min x.length y.length+1:=by
  show min (a::x).toArray.size (b::y).toArray.size=_;simp only[List.size_toArray,jJ];omega
 have g:min (ByteArray.mk x.toArray).size (ByteArray.mk y.toArray).size=min x.length y.length:=by
  show min x.toArray.size y.toArray.size=_;simp
 have h:∀(c:UInt8)(z:List UInt8)(i:Nat),(ByteArray.mk (c::z).toArray)[i+1]! =(ByteArray.mk z.toArray)[i]!:=fun c z i=>by
  rw[qlU,qlU];rfl
 have d:∀(c:UInt8)(z:List UInt8),(ByteArray.mk (c::z).toArray)[0]! =c:=fun c z=>by rw[qlU];rfl
 unfold Extern.BytealgCompare.cmp;rw[j,g,List.range_succ_eq_map,List.find?_cons];simp only[d];by_cases f:a=b
 .subst f;simp only[bne_self_eq_false,if_true,List.find?_map,Function.comp_def,h,Nat.succ_eq_add_one];cases List.find? (fun i=>(ByteArray.mk x.toArray)[i]! !=(ByteArray.mk y.toArray)[i]!) (List.range (min x.length y.length)) with
  |some i=>simp only[jn,h]
  |none=>
   have e:∀(c:UInt8)(z:List UInt8),(ByteArray.mk (c::z).toArray).size=(ByteArray.mk z.toArray).size+1:=fun c z=>by
    show(c::z).toArray.size=z.toArray.size+1;simp
   simp only[Option.map_none,e,Nat.add_lt_add_iff_right,gt_iff_lt]
 .have:(a !=b)=true:=by simp[f]
  simp only[this,f,if_false,d]
theorem qvx:∀(x y:List UInt8),Extern.BytealgCompare.cmp ⟨x.toArray⟩ ⟨y.toArray⟩=zn x y
 |[],[]=>rfl
 |[],b::y=>by
  unfold Extern.BytealgCompare.cmp;rw[qfC,qfC];simp[zn]
 |a::x,[]=>by
  unfold Extern.BytealgCompare.cmp;rw[qfC,qfC];simp[zn]
 |a::x,b::y=>by rw[q5Q,zn,qvx x y]
theorem qvB(s:List UInt8):qbz (qf s)=some (s.map fun b=>(b.toNat:Int)):=by
 induction s with
 |nil=>rfl
 |cons a s c=>simp only[qf,List.map_cons,qbz] at c⊢;rw[c];rfl
theorem q6v(s:List UInt8):Lib.bytesOf (s.map fun b=>(b.toNat:Int))=s:=by
 simp[Lib.bytesOf,Function.comp_def]
theorem q5S(m n:Bool)(x y:List UInt8)(a:m=true->x=[])(c:n=true->y=[]):
  qf4 [.vsl m (qf x) x.length,.vsl n (qf y) y.length]=some (.int .i64 (zn x y)):=by
 have h:∀(m:Bool)(x:List UInt8),(m=true->x=[])->VL (.vsl m (qf x) x.length)=some (x.map fun b=>(b.toNat:Int)):=by
  intro m x a;cases m with
  |true=>rw[a rfl];rfl
  |false=>simp[VL,qvB]
 simp only[qf4,h m x a,h n y c,q6v,qvx]
end Go.Ev
namespace Go.Ev
section
variable {X:Cx} {f nt n0:Nat}
structure SOp where
 dst:Option Tmp
 op:Op
 g:Option (Option Tmp×Bool)
def qcI(b:Array Oper)(o:Oper):SOp:=⟨o.dst,o.op,match o.guard with
 |none=>none
 |some (j,a)=>some ((b[j]?).bind (·.dst),a)⟩
def Zl(a:Array Oper):List Oper->List SOp
 |[]=>[]
 |o::l=>qcI a o::Zl a l
def Kq(e:qu):Option (Option Tmp×Bool)->Option Bool
 |none=>some true
 |some (none,_)=>some false
 |some (some t,a)=>match qi e t with
  |some (.bool b)=>some (b==a)
  |some (.tup [])=>some false
  |_=>none
theorem qkN(b:Array Oper)(e:qu)(g:Option (Nat×Bool)):vM b e g=Kq e (match g with
  |none=>none
  |some (j,a)=>some ((b[j]?).bind (·.dst),a)):=by
 cases g with
 |none=>rfl
 |some q=>
  obtain⟨j,a⟩:=q;simp only[vM,Kq];cases(b[j]?).bind (·.dst)<;>rfl
def XP(X:Cx)(F:zG)(nt:Nat)(a:Bool):List SOp->qu->qe->Option (qu×qe)
 |[],e,H=>some (e,H)
 |o::l,e,H=>match km nt o.dst,Kq e o.g with
  |true,some true=>match qZ X F a o.op e H with
   |some (d,H')=>XP X F nt a l (jN e o.dst d) H'
   |none=>none
  |true,some false=>XP X F nt a l (jN e o.dst (.tup [])) H
  |_,_=>none
theorem qis{F:zG}{b:Bool}(a:Array Oper):∀(l:List Oper)(e:qu)(H:qe),vU X F nt b a l e H=XP X F nt b (Zl a l) e H
 |[],e,H=>rfl
 |o::l,e,H=>by
  simp only[vU,Zl,XP,qkN a e o.guard]
  show _=match km nt o.dst,Kq e (qcI a o).g with
   |true,some true=>match qZ X F b o.op e H with
    |some (d,H')=>XP X F nt b (Zl a l) (jN e o.dst d) H'
    |none=>none
   |true,some false=>XP X F nt b (Zl a l) (jN e o.dst (.tup [])) H
   |_,_=>none
  simp only[qis a l,qcI];rfl
variable {Q:Ex->qu->qe->Prop} {fs:List Fr} {e:qu} {H:qe}
def J1(X:Cx)(f nt n0:Nat)(Q:Ex->qu->qe->Prop)(fs:List Fr)(a:Bool)(l:List SOp)(e:qu)(H:qe):Prop:=
 Run X f nt n0 Q fs ((XP X (call X) nt a l e H).map fun(e,H)=>(.normal,e,H))
def qc5(X:Cx)(f nt n0:Nat)(Q:Ex->qu->qe->Prop)(fs:List Fr)(a:Bool)(l:List SOp)(e:qu)(dst:Option Tmp):Option (D×qe)->Prop
 |none=>False
 |some (d,H)=>J1 X f nt n0 Q fs a l (jN e dst d) H
def qc7(X:Cx)(f nt n0:Nat)(Q:Ex->qu->qe->Prop)(fs:List Fr)(a:Bool)(dst:Option Tmp)(op:Op)(c:Bool)(l:List SOp)(e:qu)(H:qe):Option D->Prop
 |some (.bool b)=>if b=c then qc5 X f nt n0 Q fs a l e dst (qZ X (call X) a op e H) else J1 X f nt n0 Q fs a l (jN e dst (.tup [])) H
 |some (.tup [])=>J1 X f nt n0 Q fs a l (jN e dst (.tup [])) H
 |_=>False
theorem qyb{a:Bool}:J1 X f nt n0 Q fs a [] e H=Run X f nt n0 Q fs (some (.normal,e,H)):=rfl
theorem qya{a:Bool}{dst:Option Tmp}{op:Op}{l:List SOp}:J1 X f nt n0 Q fs a (⟨dst,op,none⟩::l) e H=
  (km nt dst=true/\qc5 X f nt n0 Q fs a l e dst (qZ X (call X) a op e H)):=by
 unfold J1;simp only[XP,Kq];cases km nt dst with
 |false=>simp[kV]
 |true=>
  cases qZ X (call X) a op e H with
  |none=>simp[qc5,kV]
  |some q=>simp[qc5,J1]
theorem qxZ{c:Bool}{dst:Option Tmp}{op:Op}{l:List SOp}{t:Tmp}{a:Bool}:J1 X f nt n0 Q fs c (⟨dst,op,some (some t,a)⟩::l) e H=
  (km nt dst=true/\qc7 X f nt n0 Q fs c dst op a l e H (qi e t)):=by
 unfold J1;simp only[XP,Kq];cases km nt dst with
 |false=>simp[kV]
 |true=>
  cases qi e t with
  |none=>simp[qc7,kV]
  |some d=>
   cases d with
   |bool b=>
    by_cases g:b=a
    .subst g;simp only[beq_self_eq_true,qc7,if_true,true_and];cases qZ X (call X) c op e H with
     |none=>simp[qc5,kV]
     |some q=>simp[qc5,J1]
    .have:(b==a)=false:=xD;simp[qc7,g,this,J1]
   |tup cs=>
    cases cs with
    |nil=>simp[qc7,J1]
    |cons=>simp[qc7,kV]
   |_=>simp[qc7,kV]
theorem qyu{a:Bool}{dst:Option Tmp}{l:List SOp}{d:D}:qc5 X f nt n0 Q fs a l e dst (some (d,H))=J1 X f nt n0 Q fs a l (jN e dst d) H:=rfl
theorem qyv{a:Bool}{dst:Option Tmp}{l:List SOp}:qc5 X f nt n0 Q fs a l e dst none=False:=rfl
theorem qyz{a:Bool}{dst:Option Tmp}{op:Op}{l:List SOp}{c b:Bool}:qc7 X f nt n0 Q fs a dst op c l e H (some (.bool b))=
  if b=c then qc5 X f nt n0 Q fs a l e dst (qZ X (call X) a op e H) else J1 X f nt n0 Q fs a l (jN e dst (.tup [])) H:=rfl
theorem qyy{a:Bool}{dst:Option Tmp}{op:Op}{l:List SOp}{b:Bool}:qc7 X f nt n0 Q fs a dst op b l e H (some (.tup []))=J1 X f nt n0 Q fs a l (jN e dst (.tup [])) H:=rfl
def qdR(X:Cx)(f nt n0:Nat)(Q:Ex->qu->qe->Prop)(fs:List Fr)(a:Bool)(l:List SOp):Option (qu×qe)->Prop
 |none=>False
 |some (e,H)=>J1 X f nt n0 Q fs a l e H
theorem qy2{a:Bool}{l:List SOp}:qdR X f nt n0 Q fs a l (some (e,H))=J1 X f nt n0 Q fs a l e H:=rfl
theorem qxT{id:Nat}{a:Array Oper}:Run X f nt n0 Q fs (zk X f nt n0 (.region id a false) e H)=qdR X f nt n0 Q fs (X.cv f id) (Zl a a.toList) (enter X f n0 id e H):=by
 rw[qi6];cases enter X f n0 id e H with
 |none=>simp[kV,qdR]
 |some q=>simp only[qdR,J1,Jz,qis,YM]
section lp
variable {L:QV} {ow:List Nat}
noncomputable def XO(X:Cx)(F:zG)(nt:Nat)(ow:List Nat)(L:QV):Nat->List (Nat×qe×qe)->List (Nat×List Nat)->List SOp->qu->qe->Option (qu×qe)
 |_,_,_,[],e,H=>some (e,H)
 |k,ws,rs,o::l,e,H=>match km nt o.dst,Kq e o.g with
  |true,some true=>match qZ X F (Jb ow o.dst) o.op e H with
   |some (d,H')=>
    @ite _ ((Jl L k=true->qa0 L k (QH (o.op.operands.toList.map (qY X e))) ws)/\(Jh L k=true->H.length<=H'.length/\qaz L k H H' rs)) (Classical.propDecidable _)
     (XO X F nt ow L (k+1) (if Jh L k then(k,H,H')::ws else ws) (if Jl L k then(k,QH (o.op.operands.toList.map (qY X e)))::rs else rs) l (jN e o.dst d) H') none
   |none=>none
  |true,some false=>XO X F nt ow L (k+1) ws rs l (jN e o.dst (.tup [])) H
  |_,_=>none
theorem quy{F:zG}(a:Array Oper):∀(l:List Oper)(k:Nat)(ws:List (Nat×qe×qe))(rs:List (Nat×List Nat))(e:qu)(H:qe),Qu X F nt ow a L k ws rs l e H=XO X F nt ow L k ws rs (Zl a l) e H
 |[],k,ws,rs,e,H=>by simp only[Zl,XO,Qu]
 |o::l,k,ws,rs,e,H=>by
  have f:=quy (F:=F) a l;rw[Qu];show _=XO X F nt ow L k ws rs (qcI a o::Zl a l) e H;rw[XO]
  show _=match km nt o.dst,Kq e (qcI a o).g with
   |true,some true=>match qZ X F (Jb ow o.dst) o.op e H with
    |some (d,H')=>
     @ite _ ((Jl L k=true->qa0 L k (QH (o.op.operands.toList.map (qY X e))) ws)/\(Jh L k=true->H.length<=H'.length/\qaz L k H H' rs)) (Classical.propDecidable _)
      (XO X F nt ow L (k+1) (if Jh L k then(k,H,H')::ws else ws) (if Jl L k then(k,QH (o.op.operands.toList.map (qY X e)))::rs else rs) (Zl a l) (jN e o.dst d) H') none
    |none=>none
   |true,some false=>XO X F nt ow L (k+1) ws rs (Zl a l) (jN e o.dst (.tup [])) H
   |_,_=>none
  have h:Kq e (qcI a o).g=vM a e o.guard:=(qkN a e o.guard).symm;rw[h];cases j:km nt o.dst with
  |false=>simp only
  |true=>
   cases i:vM a e o.guard with
   |none=>simp only
   |some b=>
    cases b with
    |false=>simp only[f]
    |true=>
     cases m:qZ X F (Jb ow o.dst) o.op e H with
     |none=>simp only
     |some q=>
      obtain⟨d,c⟩:=q;simp only;by_cases hc:(Jl L k=true->qa0 L k (QH (o.op.operands.toList.map (qY X e))) ws)/\(Jh L k=true->H.length<=c.length/\qaz L k H c rs)
      .rw[if_pos hc,if_pos hc];exact f _ _ _ _ _
      .rw[if_neg hc,if_neg hc]
def JY(X:Cx)(f nt n0:Nat)(Q:Ex->qu->qe->Prop)(fs:List Fr)(ow:List Nat)(L:QV)(k:Nat)(ws:List (Nat×qe×qe))(rs:List (Nat×List Nat))(l:List SOp)(e:qu)(H:qe):Prop:=
 Run X f nt n0 Q fs ((XO X (call X) nt ow L k ws rs l e H).map fun(e,H)=>(.normal,e,H))
def qdQ(X:Cx)(f nt n0:Nat)(Q:Ex->qu->qe->Prop)(fs:List Fr)(ow:List Nat)(L:QV)(k:Nat)(ws:List (Nat×qe×qe))(rs:List (Nat×List Nat))(a:List Nat)(l:List SOp)(e:qu)(dst:Option Tmp)(H:qe):Option (D×qe)->Prop
 |none=>False
 |some (d,H')=>(Jl L k=true->qa0 L k a ws)/\(Jh L k=true->H.length<=H'.length/\qaz L k H H' rs)/\
   JY X f nt n0 Q fs ow L (k+1) (if Jh L k then(k,H,H')::ws else ws) (if Jl L k then(k,a)::rs else rs) l (jN e dst d) H'
def qc6(X:Cx)(f nt n0:Nat)(Q:Ex->qu->qe->Prop)(fs:List Fr)(ow:List Nat)(L:QV)(k:Nat)(ws:List (Nat×qe×qe))(rs:List (Nat×List Nat))(c:List Nat)(dst:Option Tmp)(op:Op)(a:Bool)(l:List SOp)(e:qu)(H:qe):Option D->Prop
 |some (.bool b)=>if b=a then qdQ X f nt n0 Q fs ow L k ws rs c l e dst H (qZ X (call X) (Jb ow dst) op e H) else JY X f nt n0 Q fs ow L (k+1) ws rs l (jN e dst (.tup [])) H
 |some (.tup [])=>JY X f nt n0 Q fs ow L (k+1) ws rs l (jN e dst (.tup [])) H
 |_=>False
variable {k:Nat} {ws:List (Nat×qe×qe)} {rs:List (Nat×List Nat)}
theorem qye:JY X f nt n0 Q fs ow L k ws rs [] e H=Run X f nt n0 Q fs (some (.normal,e,H)):=by unfold JY;simp only[XO];rfl
theorem qno{dst:Option Tmp}{op:Op}{l:List SOp}:Run X f nt n0 Q fs (Option.map (fun(e,H)=>(Ex.normal,e,H)) (match qZ X (call X) (Jb ow dst) op e H with
   |some (d,H')=>
    @ite _ ((Jl L k=true->qa0 L k (QH (op.operands.toList.map (qY X e))) ws)/\(Jh L k=true->H.length<=H'.length/\qaz L k H H' rs)) (Classical.propDecidable _)
     (XO X (call X) nt ow L (k+1) (if Jh L k then(k,H,H')::ws else ws) (if Jl L k then(k,QH (op.operands.toList.map (qY X e)))::rs else rs) l (jN e dst d) H') none
   |none=>none))=qdQ X f nt n0 Q fs ow L k ws rs (QH (op.operands.toList.map (qY X e))) l e dst H (qZ X (call X) (Jb ow dst) op e H):=by
 cases qZ X (call X) (Jb ow dst) op e H with
 |none=>simp[qdQ,kV]
 |some q=>
  obtain⟨d,a⟩:=q;simp only[qdQ,JY];by_cases hc:(Jl L k=true->qa0 L k (QH (op.operands.toList.map (qY X e))) ws)/\(Jh L k=true->H.length<=a.length/\qaz L k H a rs)
  .rw[if_pos hc];exact propext ⟨fun h=>⟨hc.1,hc.2,h⟩,fun h=>h.2.2⟩
  .rw[if_neg hc];simp only[Option.map_none,kV];exact propext ⟨fun h=>h.elim,fun h=>hc ⟨h.1,h.2.1⟩⟩
theorem qyd{dst:Option Tmp}{op:Op}{l:List SOp}:JY X f nt n0 Q fs ow L k ws rs (⟨dst,op,none⟩::l) e H=
  (km nt dst=true/\qdQ X f nt n0 Q fs ow L k ws rs (QH (op.operands.toList.map (qY X e))) l e dst H (qZ X (call X) (Jb ow dst) op e H)):=by
 rw[<-qno];unfold JY;simp only[XO,Kq];cases km nt dst with
 |false=>simp[kV]
 |true=>simp
theorem qyc{dst:Option Tmp}{op:Op}{l:List SOp}{t:Tmp}{a:Bool}:JY X f nt n0 Q fs ow L k ws rs (⟨dst,op,some (some t,a)⟩::l) e H=
  (km nt dst=true/\qc6 X f nt n0 Q fs ow L k ws rs (QH (op.operands.toList.map (qY X e))) dst op a l e H (qi e t)):=by
 unfold JY;simp only[XO,Kq];cases km nt dst with
 |false=>simp[kV]
 |true=>
  cases qi e t with
  |none=>simp[qc6,kV]
  |some d=>
   cases d with
   |bool b=>
    by_cases c:b=a
    .subst c;simp only[beq_self_eq_true,qc6,if_true,true_and];rw[<-qno]
    .have:(b==a)=false:=wo;simp[qc6,c,this,JY]
   |tup cs=>
    cases cs with
    |nil=>simp[qc6,JY]
    |cons=>simp[qc6,kV]
   |_=>simp[qc6,kV]
theorem qyw{dst:Option Tmp}{l:List SOp}{d:D}{a:List Nat}{H':qe}:qdQ X f nt n0 Q fs ow L k ws rs a l e dst H (some (d,H'))=((Jl L k=true->qa0 L k a ws)/\(Jh L k=true->H.length<=H'.length/\qaz L k H H' rs)/\
   JY X f nt n0 Q fs ow L (k+1) (if Jh L k then(k,H,H')::ws else ws) (if Jl L k then(k,a)::rs else rs) l (jN e dst d) H'):=rfl
theorem qyx{dst:Option Tmp}{l:List SOp}{a:List Nat}:qdQ X f nt n0 Q fs ow L k ws rs a l e dst H none=False:=rfl
theorem qy1{dst:Option Tmp}{op:Op}{l:List SOp}{a b:Bool}{c:List Nat}:qc6 X f nt n0 Q fs ow L k ws rs c dst op a l e H (some (.bool b))=
  if b=a then qdQ X f nt n0 Q fs ow L k ws rs c l e dst H (qZ X (call X) (Jb ow dst) op e H) else JY X f nt n0 Q fs ow L (k+1) ws rs l (jN e dst (.tup [])) H:=rfl
theorem qy0{dst:Option Tmp}{op:Op}{l:List SOp}{a:Bool}{b:List Nat}:qc6 X f nt n0 Q fs ow L k ws rs b dst op a l e H (some (.tup []))=JY X f nt n0 Q fs ow L (k+1) ws rs l (jN e dst (.tup [])) H:=rfl
def qgS(X:Cx)(f nt n0:Nat)(Q:Ex->qu->qe->Prop)(fs:List Fr)(a:Bool):Option (QV×List Nat)->List SOp->Option (qu×qe)->Prop
 |none,l,o=>qdR X f nt n0 Q fs a l o
 |some (L,ow),l,some (e,H)=>JY X f nt n0 Q fs ow L 0 [] [] l e H
 |_,_,none=>False
theorem qyf{a:Bool}{l:List SOp}{o:Option (qu×qe)}:qgS X f nt n0 Q fs a none l o=qdR X f nt n0 Q fs a l o:=rfl
theorem qyg{a:Bool}{l:List SOp}:qgS X f nt n0 Q fs a (some (L,ow)) l (some (e,H))=JY X f nt n0 Q fs ow L 0 [] [] l e H:=rfl
end lp
theorem qxS{id:Nat}{a:Array Oper}:Run X f nt n0 Q fs (zk X f nt n0 (.region id a true) e H)=qgS X f nt n0 Q fs (!qcT a.toList) (X.lp f id) (Zl a a.toList) (enter X f n0 id e H):=by
 rw[qi6];cases c:enter X f n0 id e H with
 |none=>cases b:X.lp f id<;>simp[kV,qdR,qgS]
 |some q=>cases b:X.lp f id<;>simp only[qdR,J1,qgS,JY,Jz,b,qis,quy,YM]
theorem qxd(a:Array Oper)(dst:Option Tmp)(op:Op)(ty:TypeId)(pos:String)(b:Array Edge)(l:List Oper):Zl a ({dst:=dst,op:=op,type:=ty,pos:=pos,after:=b,guard:=none}::l)=⟨dst,op,none⟩::Zl a l:=rfl
theorem qxc(b:Array Oper)(dst:Option Tmp)(op:Op)(ty:TypeId)(pos:String)(c:Array Edge)(j:Nat)(a:Bool)(l:List Oper):
  Zl b ({dst:=dst,op:=op,type:=ty,pos:=pos,after:=c,guard:=some (j,a)}::l)=⟨dst,op,some ((b[j]?).bind (·.dst),a)⟩::Zl b l:=rfl
theorem qxb(a:Array Oper):Zl a []=[]:=rfl
end
attribute [simp] Jb Op.operands Call.operands QH YD Jh Jl qa0 qaz qye qyd qyc qyw qyx qy1 qy0 qyf qyg qyb qya qxZ qyu qyv qyz qyy qy2 qxT qxS qcT qsK qxd qxc qxb
end Go.Ev
namespace Go.Ev
@[simp] theorem q6I (H L:qe) (k:Nat):(H++L)[H.length+k]?=L[k]?:=by rw[jl (Nat.le_add_right _ _),Nat.add_sub_cancel_left]
@[simp] theorem qAF (H L:qe):(H++L)[H.length]?=L[0]?:=q6I H L 0
@[simp] theorem q6F (H L:qe) (k:Nat) (x:Option (List D)):(H++L).set (H.length+k) x=H++L.set k x:=by
 rw[List.set_append_right _ _ (Nat.le_add_right _ _),Nat.add_sub_cancel_left]
@[simp] theorem qAE (H L:qe) (x:Option (List D)):(H++L).set H.length x=H++L.set 0 x:=q6F H L 0 x
end Go.Ev
namespace Go.Ev
open Go Go.Proofs Go.ChangeShapes Go.WideShapes Go.ChangeAt Go.RowKit
theorem qzd{H:Type}{enc:TypeId×Value->H}{P:Program}{f:Func}{s:ChangeSpec}{apart l c i:Bool}{W m:World}{args:Array Value}{v:Value}{ds o:List (DataW H)}{a pa pv:List MemPlace}
  (u:DataW.Whole enc P f.params.toList s.vars apart W args.toList ds o a)
  (h:∀(b:Nat)(k:Nat->Bool)(E:Bool),DataW.TrodAll enc P m b k E f.resultTypes.toList (v.resultList f.resultTypes.size) (s.fn H (ds++o)).results [])
  (n:∀k:Nat->Bool,(∀p∈a,k p.block=true)->DataW.TrodAll enc P m 0 k true f.params.toList args.toList (s.fn H (ds++o)).args pa)
  (e:∀k:Nat->Bool,(∀p∈a,k p.block=true)->DataW.TrodVars enc P m k s.vars (s.fn H (ds++o)).vars pv)
  (q:a=pa++pv) (y:Below W.heap.size W m)
  (z:∀(j:Nat)(t:TypeId)(r:Value),f.resultTypes[j]?=some t->(v.resultList f.resultTypes.size)[j]?=some r->Value.okWide P m .any 0 t r):
  s.post enc P f apart l c i W args v m:=by
 have w:∀p∈a,p.block<W.heap.size:=fun p d=>u.lt p d;have g:∀p∈a,(fun b=>decide (b<W.heap.size)) p.block=true:=fun p d=>by simpa using w p d
 refine⟨ds,o,a,[],pa,pv,u,h _ _ _,n _ g,e _ g,World.keptBut_mono (fun p d=>⟨d,?_⟩) (y.frame (·∈a)),fun _=>?_⟩
 .rw[q,jW] at d;exact Or.inr d
 .obtain⟨_,_,_,_,_,A,B⟩:=u;refine⟨z,_,_,([]++pa)++pv,⟨[]++pa,pv,trodAll_append (n _ (fun _ _=>rfl)) (h _ _ _),e _ (fun _ _=>rfl),rfl,?_,?_⟩,?_⟩
  .intro b off d;have x:MemPlace.cell b off∈a:=(by rw[q];simpa using d);rw[y.frozen (w _ x)];exact A b off x
  .intro C;have:=B C;rw[q] at this;simpa using this
  .intro p d _;rw[q];simpa using d
theorem qmx{H:Type}{enc:TypeId×Value->H}{P:Program}(d:laidOutB P=true){W b:World}{c:Nat->Bool}(i:Below W.heap.size W b):
  ∀{ts:List TypeId}{vs:List Value}{ds:List (DataW H)}{ps:List MemPlace},(ts.all fun t=>P.readableRec t&&decide (t<P.types.size))=true->
   DataW.TrodAll enc P W 0 (fun _=>true) true ts vs ds ps->(∀p∈ps,p.block<W.heap.size)->(∀p∈ps,c p.block=true)->DataW.TrodAll enc P b 0 c true ts vs ds ps
 |[],[],[],_,_,h,_,_=>h
 |_::_,_::_,_::_,_,a,⟨p,q,k,j,e⟩,f,g=>by
  simp only[Va,zY,decide_eq_true_eq] at a;subst e
  exact⟨p,q,WideElems.Trod_stays d a.1.1 a.1.2 k (fun x hx=>i.same (f x (Xr _ hx))) (fun x hx=>g x (Xr _ hx)),
   qmx d i (by simpa using a.2) j (fun x hx=>f x (List.mem_append_right _ hx)) (fun x hx=>g x (List.mem_append_right _ hx)),rfl⟩
theorem q1i{H:Type}{enc:TypeId×Value->H}{X:Cx}(K:Good X)(U:laidOutB X.P=true){f:Nat}{fn:Func}{J:TypeId}(N:X.P.funcs[f]?=some fn)(V:fn.body.isSome=true)
  (l:fn.resultTypes= #[J]) (y:X.P.underlying J=some .bool) (B:(fn.params.toList.all fun t=>X.P.readableRec t&&decide (t<X.P.types.size))=true)
  {s:ChangeSpec} (A:s.vars=[]) {W:World} {args:Array Value} {ds E:List (DataW H)} {d:List MemPlace}
  (m:∀g cs,X.glob g=some cs->Rep (· <W.heap.size) W jA [] (.vptr cs) (.pointer (some ⟨g,0,none⟩)))
  (M:DataW.Whole enc X.P fn.params.toList s.vars false W args.toList ds E d) (I:(s.fn H (ds++E)).results=[.lit (.bool true)]/\(s.fn H (ds++E)).args=ds/\(s.fn H (ds++E)).vars=[])
  {dd:List D} {L:qe} (T:RepL (· <W.heap.size) W jA [] dd args.toList) (hc:call X f dd []=some (.bool true,L)):
  Calls X.P f args W fun e F=>∃v,e=.returned v/\s.post enc X.P fn false true false false W args v F:=by
 have o:Sim X (· <W.heap.size) W jA []:=⟨fun b C=>C,m,fun i j ds es b s s' n=>by simp[qd] at n,fun i ds n=>by simp[qd] at n⟩;have h:=qlL K f dd [] _ _ _ W jA args.toList hc o T;obtain⟨c,C⟩:=Option.isSome_iff_exists.1 V;have R:(callFunc f args.toList.toArray).run X.P W=.ok (.enter f args.toList.toArray) W:=Go.Proofs.enters_of N (K.ng f fn N) (by rw[C]) _ _;unfold Goes at h;rw[R] at h;simp only[Array.toArray_toList] at h;refine h.mono ?_;rintro e F ⟨v,rfl,ι',ok',_,w,a,_⟩;refine⟨v,rfl,?_⟩;cases w;have k:Below W.heap.size W F:=⟨a.os,a.tape,a.output,a.size,fun b C=>a.frame b C (fun i ds s n=>by simp[qd] at n)⟩;have u:=M;obtain⟨p,q,Z,O,rfl,QL,S⟩:=M;rw[A] at O;obtain⟨rfl,rfl⟩:=trodVars_none O;refine qzd (pa:=p) (pv:=[]) u (fun b Q n=>?_) (fun Q Y=>?_) (fun Q _=>?_) rfl k ?_
 .rw[I.1,l];exact trodAll_cons_mk (shut_bool y _) trodAll_mk0
 .rw[I.2.1];exact qmx U k B Z (fun x hx=>u.lt x (Xr _ hx)) (fun x hx=>Y x (Xr _ hx))
 .rw[I.2.2,A];rfl
 .rw[l];intro j t r z G;cases j with
  |zero=>
   simp only[List.size_toArray,jJ,kt] at z G;injection z with z;subst z
   have:r=.bool true:=by
    simp only[Value.resultList] at G;simpa using G.symm
   subst this;exact okWide_bool_mk y _
  |succ j=>simp at z
def Zb(k:IntKind)(l:List Int):List D:=l.map (.int k ·)
theorem qyP{H:Type}{enc:TypeId×Value->H}{P:Program}{W:World}{t e:TypeId}{k:IntKind}{v:Value}{d:DataW H}{ps:List MemPlace}{base:Nat}(m:P.underlying t=some (.slice e))(A:P.underlying e=some (.int k))(hc:P.cellsOf e=1)
  (l:Value.okWide P W .any base t v) (h:DataW.Trod enc P W 0 (fun _=>true) true t v d ps):
  ∃(nil:Bool)(zs:List Int),Rep (· <W.heap.size) W jA [] (.vsl nil (Zb k zs) zs.length) v/\(nil=true->zs=[])/\(∀n∈zs,(Lit.int k n).wf=true)/\zs.length<9223372036854775808:=by
 obtain⟨n,q⟩:=h;obtain⟨G,s,w,rfl⟩:=okWide_slice m l;rcases open_ints m A hc q with⟨b,hx⟩|⟨a,c,z,zs,b,I,C,F,B,hx,E,o⟩
 .simp only[Value.cells,qa2,and_true] at b;rw[b];exact⟨true,[],.vnil,fun _=>rfl,wE,wH⟩
 .simp only[Value.cells,qa2,and_true] at b;rw[b] at l⊢;simp only[if_true] at B;have f:(zs.take c).length=c:=by rw[jc];omega
  have i:a.block<W.heap.size:=by
   simp only[Value.okWide,m,Cell.okWide,Cell.ok] at l;obtain⟨_,_,_,_,row,p,r,_⟩:=l;unfold World.shape? at r;rcases Kx a.block W.heap.size with h|h
   .exact h
   .rw[qfL h] at r;simp at r
  refine⟨false,zs.take c,?_,wE,fun n q=>o n (QX q),by rw[f];unfold maxLen at F;omega⟩;rw[f];refine .vsl a (fun j=>.int k (zs.getD j 0)) (fun _ _=>i) (fun d y=>?_) (fun j d g=>?_) (fun j d g=>?_) C
  .simp only[Zb,ZI] at y;obtain⟨n,_,rfl⟩:=y;rfl
  .have u:j<c:=by
    have:=(List.getElem?_eq_some_iff.1 g).1;simp[Zb] at this;omega
   exact E j wC
  .have u:j<c:=by
    have:=(List.getElem?_eq_some_iff.1 g).1;simp[Zb] at this;omega
   have:d=.int k (zs.getD j 0):=by
    simp only[Zb,Je,List.getElem?_take_of_lt u] at g;have x:j<zs.length:=wC;rw[qM x] at g;simp only[jn,qy] at g;rw[<-g,jy,qM x];rfl
   rw[this];exact .int _ _
end Go.Ev
namespace Go.Ev
open Go Go.Proofs
def qgi(X:Cx)(n:Nat):Bool:=match X.P.funcs[n]? with
 |some fn=>(fn.name != "runtime.NumGoroutine")&&match fn.body with
  |some c=>X.bad n||Z5 X n c
  |none=>true
 |none=>true
def Yd(X:Cx)(a:Nat):Nat->Bool
 |0=>true
 |k+1=>Yd X a k&&qgi X (a+k)
theorem qaG{X:Cx}{a:Nat}:∀{k:Nat},Yd X a k=true->∀{f:Nat},a<=f->f<a+k->qgi X f=true
 |0,_,f,b,c=>by omega
 |k+1,h,f,b,c=>by
  simp only[Yd,zY] at h;by_cases d:f=a+k
  .rw[d];exact h.2
  .exact qaG h.1 b wC
theorem qom{X:Cx}{f:Nat}{fn:Func}(h:qgi X f=true)(hfn:X.P.funcs[f]?=some fn):(fn.name== "runtime.NumGoroutine")=false/\∀c,fn.body=some c->X.bad f=false->Z5 X f c=true:=by
 simp only[qgi,hfn,zY,bne_iff_ne,ne_eq] at h;refine⟨by simpa using h.1,fun c hc hb=>?_⟩;have h3:=h.2;simpa[hc,hb] using h3
class Enc (α:Type) where
 size:Nat
 cells:α->List D
 len:∀a,(cells a).length=size
 free:∀a,(cells a).all idFree=true
section
variable {α:Type} [Enc α]
def qt(l:List α):List D:=(l.map Enc.cells).flatten
@[simp] theorem qv4 (a:α):(Enc.cells a).all idFree=true:=Enc.free a
@[simp] theorem qlI (a:α):idFree.idFreeL (Enc.cells a)=true:=by rw[Q0];exact Enc.free a
@[simp] theorem q5V (n:Nat) (a:α):(Enc.cells a).all (closed n)=true:=by
 rw[<-qlE];exact qax n _ (qlI a)
@[simp] theorem qA6 (n:Nat) (a:α):closed.closedL n (Enc.cells a)=true:=qax n _ (qlI a)
@[simp] theorem qA7 (a:α):(∀x,x∈Enc.cells a->idFree x=true)=True:=eq_true (List.all_eq_true.1 (qv4 a))
@[simp] theorem qA8 (n:Nat) (a:α):(∀x,x∈Enc.cells a->closed n x=true)=True:=eq_true (List.all_eq_true.1 (q5V n a))
@[simp] theorem qAb:qt ([]:List α)=[]:=rfl
theorem qaw(a:α)(l:List α):qt (a::l)=Enc.cells a++qt l:=rfl
theorem qix(a:α):qt [a]=Enc.cells a:=by simp[qt]
theorem q5e(a b:List α):qt (a++b)=qt a++qt b:=by simp[qt]
theorem qe8(l:List α)(a:α):qt (l++[a])=qt l++Enc.cells a:=by rw[q5e,qix]
theorem Ja(l:List α):(qt l).length=l.length*Enc.size α:=by
 induction l with
 |nil=>simp
 |cons a l b=>rw[qaw,zo,Enc.len,b,jJ,ZH,Nat.one_mul];omega
theorem Ks{n:Nat}(a:n=Enc.size α)(l:List α):(qt l).length=l.length*n:=by rw[a,Ja]
theorem qav{n:Nat}(b:n=Enc.size α):∀(l:List α)(i:Nat),(qt l).drop (i*n)=qt (l.drop i)
 |[],i=>by simp
 |a::l,0=>by simp
 |a::l,i+1=>by
  have c:(i+1)*n=n+i*n:=yE
  rw[qaw,c,<-kz,VD (by rw[Enc.len,b]),List.drop_succ_cons,qav b l i]
theorem qau{n:Nat}(b:n=Enc.size α):∀(l:List α)(i:Nat),(qt l).take (i*n)=qt (l.take i)
 |[],i=>by simp
 |a::l,0=>by simp
 |a::l,i+1=>by
  have d:(i+1)*n=n+i*n:=yE
  have c:(Enc.cells a).length=n:=by rw[Enc.len,b]
  rw[qaw,d,<-c,Zk,qH (Nat.le_add_right _ _),Nat.add_sub_cancel_left,c,qau b l i,List.take_succ_cons,qaw]
theorem XS{n:Nat}(a:n=Enc.size α){l:List α}{i:Nat}(hi:i<l.length):(qt l).drop (i*n)=Enc.cells l[i]++qt (l.drop (i+1)):=by
 rw[qav a,jo hi,qaw]
theorem qcx{n:Nat}(b:n=Enc.size α)(a:α)(r:List D):(Enc.cells a++r).take n=Enc.cells a:=List.take_left' (by rw[Enc.len,b])
theorem qcw{n:Nat}(b:n=Enc.size α)(a:α):(Enc.cells a).take n=Enc.cells a:=qH (by rw[Enc.len,b];exact qA _)
theorem qcy{n:Nat}(b:n=Enc.size α)(a:α)(r:List D):(Enc.cells a++r).drop n=r:=VD (by rw[Enc.len,b])
theorem XR{n:Nat}(c:n=Enc.size α)(m:α):∀(l:List α){j:Nat},j<l.length->zT (qt l) (j*n) (Enc.cells m)=qt (l.set j m)
 |[],j,b=>by simp at b
 |a::l,j,b=>by
  have d:(Enc.cells a).length=n:=by rw[Enc.len,c]
  have e:(Enc.cells m).length=n:=by rw[Enc.len,c]
  cases j with
  |zero=>
   simp only[zT,Nat.zero_mul,List.take_zero,QW,J3,e,List.set_cons_zero,qaw];rw[VD d]
  |succ j=>
   have f:=XR c m l (j:=j) wv;have g:(j+1)*n=n+j*n:=yE;simp only[zT,e] at f⊢;rw[List.set_cons_succ,qaw,qaw,<-f,g,qiQ,<-kz,VD d,<-d,Zk,qH (Nat.le_add_right _ _),Nat.add_sub_cancel_left];simp
@[simp] theorem quJ (l:List α):(qt l).all idFree=true:=by
 induction l with
 |nil=>rfl
 |cons a l b=>rw[qaw,List.all_append,b,qv4];rfl
@[simp] theorem qlo (l:List α):idFree.idFreeL (qt l)=true:=by rw[Q0];exact quJ l
@[simp] theorem qiy (n:Nat) (l:List α):(qt l).all (closed n)=true:=by
 rw[<-qlE];exact qax n _ (qlo l)
@[simp] theorem qAc (n:Nat) (l:List α):closed.closedL n (qt l)=true:=qax n _ (qlo l)
@[simp] theorem qAd (l:List α):(∀x,x∈qt l->idFree x=true)=True:=eq_true (List.all_eq_true.1 (quJ l))
@[simp] theorem qAe (n:Nat) (l:List α):(∀x,x∈qt l->closed n x=true)=True:=eq_true (List.all_eq_true.1 (qiy n l))
structure Sl (α:Type) where
 nil:Bool
 l:List α
 h:nil=true->l=[]
omit [Enc α] in
theorem Sl.nn{s:Sl α}{i:Nat}(h:i<s.l.length):s.nil=false:=by
 cases a:s.nil with
 |false=>rfl
 |true=>rw[s.h a] at h;simp at h
end
def Sl.of{α:Type}(l:List α):Sl α:=⟨false,l,wE⟩
def Sl.none{α:Type}:Sl α:=⟨true,[],wE⟩
@[simp] theorem Sl.of_l {α:Type} (l:List α):(Sl.of l).l=l:=rfl
@[simp] theorem Sl.of_nil {α:Type} (l:List α):(Sl.of l).nil=false:=rfl
@[simp] theorem Sl.none_l {α:Type}:(Sl.none:Sl α).l=[]:=rfl
@[simp] theorem Sl.none_nil {α:Type}:(Sl.none:Sl α).nil=true:=rfl
theorem qxn{H:qe}{n:Nat}{d:D}(h:idFree d=true):j9 H (n+1) d=some (d,[]):=by
 unfold j9;rw[if_pos h]
theorem qjt{H:qe}{n:Nat}:∀{l:List D},idFree.idFreeL l=true->kc (j9 H (n+1)) l=some (l,[])
 |[],_=>rfl
 |d::l,h=>by
  simp only[idFree.idFreeL,zY] at h;simp only[kc,qxn h.1,qjt h.2,J4]
theorem qmE{g:D->Option (D×List Nat)}:∀(a b:List D),kc g (a++b)=match kc g a,kc g b with
  |some (x,p),some (y,q)=>some (x++y,p++q)
  |_,_=>none
 |[],b=>by
  simp only[QW,kc];cases kc g b with
  |none=>rfl
  |some q=>obtain⟨y,q⟩:=q;rfl
 |d::a,b=>by
  simp only[Qc,kc,qmE a b];cases g d with
  |none=>rfl
  |some r=>
   obtain⟨r,i⟩:=r;cases kc g a with
   |none=>rfl
   |some p=>
    obtain⟨x,p⟩:=p;cases kc g b with
    |none=>rfl
    |some q=>obtain⟨y,q⟩:=q;simp
theorem qxo{H:qe}{l:List D}(h:idFree.idFreeL l=true):kc (j9 H 8) l=some (l,[]):=qjt h
theorem qxp{H:qe}{l:List D}(h:idFree.idFreeL l=true):kc (j9 H 7) l=some (l,[]):=qjt h
attribute [simp] qmE qxo qxp
theorem qfY{X:Cx}{f nt n0:Nat}{Q:Ex->qu->qe->Prop}{fs:List Fr}{e:qu}{H:qe}{c:Code}(h:Run X f nt n0 (fun a e H=>a≠.normal/\Run X f nt n0 Q fs (some (a,e,H))) [] (zk X f nt n0 c e H)):
  Run X f nt n0 Q fs (zk X f nt n0 (.loop c) e H):=by
 rw[qgI];cases b:zk X f nt n0 c e H with
 |none=>rw[b,kV] at h;exact h.elim
 |some q=>
  obtain⟨a,g,d⟩:=q;rw[b,KC] at h;cases a with
  |normal=>exact absurd rfl h.1
  |exit i=>exact h.2
  |ret=>exact h.2
theorem Run.loopThen{X:Cx}{f nt n0:Nat}{Q:Ex->qu->qe->Prop}{fs:List Fr}{c:Code}{σ:Type}(I:σ->qu->qe->Prop)(m:σ->Nat)(s:σ){e:qu}{H:qe}(g:I s e H)
  (step:∀s e H,I s e H->Run X f nt n0 (fun ex b H'=>match ex with| .normal=>∃d,m d<m s/\I d b H'|ex=>Run X f nt n0 Q fs (some (ex,b,H'))) [] (zk X f nt n0 c e H)):
  Run X f nt n0 Q fs (zk X f nt n0 (.loop c) e H):=by
 have h:=Run.loop (Q:=fun ex e H=>ex≠.normal/\Run X f nt n0 Q fs (some (ex,e,H))) I m (fun s e H hi=>by
  refine Run.mono (step s e H hi) ?_;intro ex b H' a;rw[KC];cases ex with
  |normal=>exact a
  |exit i=>exact⟨wE,a⟩
  |ret=>exact⟨wE,a⟩) s e H g
 exact Run.mono h fun ex e H a=>a.2
theorem Vb{X:Cx}{f nt n0:Nat}{Q:Ex->qu->qe->Prop}{fs:List Fr}{c:Code}{e:qu}{H:qe}
  (h:Run X f nt n0 (fun ex b H'=>match ex with| .normal=>Run X f nt n0 Q fs (zk X f nt n0 (.loop c) b H')|ex=>Run X f nt n0 Q fs (some (ex,b,H'))) [] (zk X f nt n0 c e H)):
  Run X f nt n0 Q fs (zk X f nt n0 (.loop c) e H):=by
 rw[qgI];cases a:zk X f nt n0 c e H with
 |none=>rw[a,kV] at h;exact h.elim
 |some q=>
  obtain⟨ex,g,d⟩:=q;rw[a,KC] at h;cases ex with
  |normal=>exact h
  |exit i=>exact h
  |ret=>exact h
def qmc(X:Cx)(z:Bool)(rs:List ResultVar)(n0:Nat)(P:D×qe->Prop):Ex->qu->qe->Prop
 | .exit _,_,_=>False
 |_,e,H=>∃r,(QM X e H rs).bind (fun ds=>kW z n0 H (Vt ds))=some r/\P r
theorem q43{X:Cx}{z:Bool}{rs:List ResultVar}{n0:Nat}{P:D×qe->Prop}{e:qu}{H:qe}:qmc X z rs n0 P .ret e H=∃r,(QM X e H rs).bind (fun ds=>kW z n0 H (Vt ds))=some r/\P r:=rfl
theorem q44{X:Cx}{z:Bool}{rs:List ResultVar}{n0:Nat}{P:D×qe->Prop}{e:qu}{H:qe}:qmc X z rs n0 P .normal e H=∃r,(QM X e H rs).bind (fun ds=>kW z n0 H (Vt ds))=some r/\P r:=rfl
theorem Vk{X:Cx}{f:Nat}{H:qe}{fn:Func}{args:List D}(P:D×qe->Prop)(e:X.P.funcs[f]?=some fn)(j:fn.body.isSome=true)(a:X.bad f=false/\X.con f args H=none)
  (h:Run X f fn.ntmps H.length (qmc X (X.fzr f) fn.results.toList H.length P) [] (zk X f fn.ntmps H.length (vi (Zx fn)) (kr 0 args) H)) (g:(X.gr f&&X.byRef f)=false:=by rfl):∃r,call X f args H=some r/\P r:=by
 cases b:zk X f fn.ntmps H.length (vi (Zx fn)) (kr 0 args) H with
 |none=>rw[b,kV] at h;exact h.elim
 |some q=>
  obtain⟨k,m,l⟩:=q;rw[b,KC] at h;cases k with
  |exit i=>exact h.elim
  |normal=>
   obtain⟨r,d,c⟩:=h;exact⟨r,qC e j a (by rw[b,KC,qle];exact d) g,c⟩
  |ret=>
   obtain⟨r,d,c⟩:=h;exact⟨r,qC e j a (by rw[b,KC,qld];exact d) g,c⟩
attribute [simp] q43 q44
def qiS(X:Cx)(z:Bool)(rs:List ResultVar)(P:D×qe->Prop):Ex->qu->qe->Prop
 | .exit _,_,_=>False
 |_,e,H=>∃r,(QM X e H rs).bind (fun ds=>qej z H (Vt ds))=some r/\P r
theorem q41{X:Cx}{z:Bool}{rs:List ResultVar}{P:D×qe->Prop}{e:qu}{H:qe}:qiS X z rs P .ret e H=∃r,(QM X e H rs).bind (fun ds=>qej z H (Vt ds))=some r/\P r:=rfl
theorem q42{X:Cx}{z:Bool}{rs:List ResultVar}{P:D×qe->Prop}{e:qu}{H:qe}:qiS X z rs P .normal e H=∃r,(QM X e H rs).bind (fun ds=>qej z H (Vt ds))=some r/\P r:=rfl
theorem vx{X:Cx}{f:Nat}{H:qe}{fn:Func}{args:List D}(P:D×qe->Prop)(n:X.P.funcs[f]?=some fn)(k:fn.body.isSome=true)(b:X.bad f=false/\X.con f args H=none)
  (h:Run X f fn.ntmps H.length (qiS X (X.fzr f) fn.results.toList P) [] (zk X f fn.ntmps H.length (vi (Zx fn)) (kr 0 args) H)) (o:(X.gr f&&X.byRef f)=true:=by rfl):∃r,call X f args H=some r/\P r:=by
 rw[qi5] at h;cases g:fn.body with
 |none=>rw[g] at k;cases k
 |some c=>
  have hc:Zx fn=c:=by simp only[Zx,g,Vm]
  rw[hc] at h;rw[qiD b.2 n g b.1,o];cases m:zk X f fn.ntmps H.length c (kr 0 args) H with
  |none=>rw[m,kV] at h;exact h.elim
  |some q=>
   obtain⟨p,l,j⟩:=q;rw[m,KC] at h;cases p with
   |exit i=>exact h.elim
   |normal=>
    obtain⟨r,a,e⟩:=h;cases d:QM X l j fn.results.toList with
    |none=>rw[d] at a;cases a
    |some ds=>rw[d] at a;exact⟨r,by simpa[d,qbD] using a,e⟩
   |ret=>
    obtain⟨r,a,e⟩:=h;cases d:QM X l j fn.results.toList with
    |none=>rw[d] at a;cases a
    |some ds=>rw[d] at a;exact⟨r,by simpa[d,qbD] using a,e⟩
attribute [simp] q41 q42 qej
end Go.Ev
namespace Go.Ev
open Go Go.Proofs
def qcS(P:Program)(g:TypeId->Bool):List Field->Nat->Nat->Bool
 |[],off,a=>off==a
 |f::fs,off,a=>f.offset==off&&g f.type&&qcS P g fs (off+P.cellsOf f.type) a
def qc8(P:Program):Nat->TypeId->Bool
 |0,_=>false
 |n+1,t=>match P.underlying t with
  |some .bool=>true
  |some (.int _)=>true
  |some .string=>true
  |some (.slice e)=>qc8 P n e
  |some (.array m e)=>qc8 P n e&&P.cellsOf t==m*P.cellsOf e
  |some (.struct fs)=>qcS P (qc8 P n) fs.toList 0 (P.cellsOf t)
  |_=>false
def qmb(P:Program)(g:TypeId->List D->Prop):List Field->List D->Prop
 |[],cs=>cs=[]
 |f::fs,cs=>∃a b,cs=a++b/\a.length=P.cellsOf f.type/\g f.type a/\qmb P g fs b
def Jf(P:Program):Nat->TypeId->List D->Prop
 |0,_,_=>False
 |n+1,t,cs=>match P.underlying t with
  |some .bool=>∃b,cs=[.bool b]
  |some (.int k)=>∃x,cs=[.int k x]/\(Lit.int k x).wf=true
  |some .string=>∃s,cs=[.str s]/\s.length<=maxLen
  |some (.slice e)=>cs=[.vsl true [] 0]\/∃a:List (List D),cs=[.vsl false a.flatten a.length]/\(a.length<=maxLen/\a.length*P.bytesOf e<=reachBytes)/\∀l,l∈a->l.length=P.cellsOf e/\Jf P n e l
  |some (.array m e)=>∃a:List (List D),cs=a.flatten/\a.length=m/\∀l,l∈a->l.length=P.cellsOf e/\Jf P n e l
  |some (.struct fs)=>qmb P (Jf P n) fs.toList cs
  |_=>False
attribute [irreducible] Jf
theorem qf6{W:World}{a:Addr}{v:Value}(h:W.cell? a=some v):a.block<W.heap.size:=by
 unfold World.cell? at h;rcases Kx a.block W.heap.size with b|c
 .exact b
 .have:W.heap[a.block]?=none:=qfL c;simp[this] at h
def Cor(W:World)(ds:List D)(vs:List Value):Prop:=ds.length=vs.length/\(∀d,d∈ds->jt d=true)/\∀(j:Nat) d,ds[j]?=some d->Rep (· <W.heap.size) W jA [] d (vs.getD j undef)
theorem qgD{W:World}{d:D}{v:Value}(hc:jt d=true)(h:Rep (· <W.heap.size) W jA [] d v):Cor W [d] [v]:=by
 refine⟨rfl,fun x hx=>by rw[List.mem_singleton.1 hx];exact hc,fun j x a=>?_⟩;cases j with
 |zero=>simp at a;subst a;exact h
 |succ j=>simp at a
theorem qvf{W:World}{a b:List D}{us vs:List Value}(c:Cor W a us)(f:Cor W b vs):Cor W (a++b) (us++vs):=by
 refine⟨by simp[c.1,f.1],fun d i=>?_,fun j d e=>?_⟩
 .rcases List.mem_append.1 i with h|h
  .exact c.2.1 d h
  .exact f.2.1 d h
 .by_cases g:j<a.length
  .rw[vD g] at e;have:=c.2.2 j d e;rw[jy] at this⊢
   rwa [vD (by rw[<-c.1];exact g)]
  .rw[jl wC] at e;have:=f.2.2 _ d e;rw[jy] at this⊢;rw[jl (by rw[<-c.1];omega),<-c.1];exact this
section
variable {H:Type} {enc:TypeId×Value->H} {P:Program} {W:World}
theorem qvd{sz:Nat}{Q:List D->Prop}:∀(m off:Nat)(cs:List Value),cs.length=off+m*sz->
  (∀i,i<m->∃ds,Q ds/\Cor W ds ((cs.drop (off+i*sz)).take sz))->∃b:List (List D),b.length=m/\(∀l,l∈b->l.length=sz/\Q l)/\Cor W b.flatten (cs.drop off)
 |0,off,cs,a,_=>⟨[],rfl,wE,by
   rw[Vn wC];exact⟨rfl,wE,wE⟩⟩
 |m+1,off,cs,a,h=>by
  have f:(m+1)*sz=sz+m*sz:=yE
  rw[f] at a;obtain⟨ds,e,d⟩:=h 0 wC;rw[Nat.zero_mul,Nat.add_zero] at d
  obtain⟨b,g,k,j⟩:=qvd (sz:=sz) (Q:=Q) m (off+sz) cs wC (fun i hi=>by
   have:=h (i+1) wC;rw[ZH,Nat.one_mul] at this;rw[show off+sz+i*sz=off+(i*sz+sz) from wC];exact this)
  have c:ds.length=sz:=by
   rw[d.1,jc,vg];omega
  refine⟨ds::b,by simp[g],fun l a=>?_,?_⟩
  .rcases List.mem_cons.1 a with rfl|a
   .exact⟨c,e⟩
   .exact k l a
  .rw[qma];have:=qvf d j;rw[<-kz,Zy] at this;exact this
theorem qtM{g:TypeId->Bool}{Q:TypeId->List D->Prop}:∀(fs:List Field)(off:Nat)(cs:List Value),qcS P g fs off cs.length=true->
  (∀f,f∈fs->g f.type=true->∃ds,Q f.type ds/\Cor W ds ((cs.drop f.offset).take (P.cellsOf f.type)))->∃ds,qmb P Q fs ds/\Cor W ds (cs.drop off)
 |[],off,cs,c,_=>by
  simp only[qcS,beq_iff_eq] at c;exact⟨[],rfl,by rw[Vn wC];exact⟨rfl,wE,wE⟩⟩
 |f::fs,off,cs,c,h=>by
  simp only[qcS,zY,beq_iff_eq] at c;obtain⟨⟨l,j⟩,e⟩:=c;obtain⟨a,o,d⟩:=h f (Jd ..) j;obtain⟨b,n,k⟩:=qtM fs (off+P.cellsOf f.type) cs e fun p i=>h p (vy _ i);rw[l] at d;have m:off+P.cellsOf f.type<=cs.length:=plainF_le e;refine⟨a++b,⟨a,b,rfl,?_,o,n⟩,?_⟩
  .rw[d.1,jc,vg];omega
  .have:=qvf d k
   rwa [<-kz,Zy] at this
where plainF_le {g:TypeId->Bool}:∀{fs:List Field}{off n:Nat},qcS P g fs off n=true->off<=n
 |[],off,n,h=>by simp only[qcS,beq_iff_eq] at h;omega
 |f::fs,off,n,h=>by
  simp only[qcS,zY] at h;have:=plainF_le h.2;omega
def Wok(P:Program)(t:TypeId)(d:DataW H):Prop:=∀k,k∈d.weights P t->k<=reachBytes
theorem qjg{e:TypeId}:∀{l:List (DataW H)}{d:DataW H},d∈l->∀k,k∈d.weights P e->k∈DataW.weightsAll P e l
 |[],_,h,_,_=>by cases h
 |a::l,d,h,k,b=>by
  unfold DataW.weightsAll;rcases List.mem_cons.1 h with rfl|h
  .exact Xr _ b
  .exact List.mem_append_right _ (qjg h k b)
theorem qmm:∀{ts:List TypeId}{l:List (DataW H)}{i:Nat}{t:TypeId}{d:DataW H},ts[i]?=some t->l[i]?=some d->∀k,k∈d.weights P t->k∈DataW.weightsEach P ts l
 |[],_,i,_,_,h,_,_,_=>by simp at h
 |t::ts,[],i,_,_,_,h,_,_=>by simp at h
 |t::ts,a::l,0,u,d,h,g,k,b=>by
  simp at h g;subst h g;unfold DataW.weightsEach;exact Xr _ b
 |t::ts,a::l,i+1,u,d,h,g,k,b=>by
  unfold DataW.weightsEach;exact List.mem_append_right _ (qmm (i:=i) wQ xD k b)
theorem qmw:∀(n y:Nat)(t:TypeId)(cs:List Value)(x:DataW H×List MemPlace),qc8 P n t=true->Wok P t x.1->DataW.trod enc P W 0 (fun _=>true) true y t cs=some x->
  ∃ds,Jf P n t ds/\Cor W ds cs
 |0,_,_,_,_,h,_,_=>by simp[qc8] at h
 |n+1,y,t,cs,x,o,F,h=>by
  have ih:=qmw n;unfold qc8 at o;unfold Jf;cases q:P.underlying t with
  |none=>rw[q] at o;simp at o
  |some u=>
  rw[q] at o;cases u with
  |bool=>
   obtain⟨b,rfl,_⟩:=DataW.trod_bool q h;exact⟨_,⟨b,rfl⟩,qgD rfl (.bool _)⟩
  |int k=>
   obtain⟨b,rfl,_,F⟩:=DataW.trod_int q h;exact⟨_,⟨b,rfl,F⟩,qgD rfl (.int _ _)⟩
  |string=>
   obtain⟨s,rfl,_,F⟩:=DataW.trod_string q h;refine⟨_,⟨s.data.toList,rfl,by simpa using F⟩,qgD rfl ?_⟩;have:=Rep.str (ok:=(· <W.heap.size)) (w:=W) (ι:=jA) (H:=[]) s.data.toList;simpa using this
  |slice e=>
   simp only at o⊢;rcases DataW.trod_slice q h with⟨rfl,_⟩|⟨a,C,aa,g,z,m,rfl,rfl,hx,_,zt,ac,zH,qd,_⟩
   .exact⟨_,.inl rfl,qgD rfl .vnil⟩
   .have M:∀k,k∈(g.length+z.length)*P.bytesOf e::(DataW.weightsAll P e (g.map (·.1))++DataW.weightsAll P e (z.map (·.1)))->k<=reachBytes:=by
     intro k T;refine F k ?_;rw[hx];unfold DataW.weights;rw[q];simp only[List.length_map];exact T
    have jM:=M _ (Jd ..)
    have K:∀i,i<C->∃ds,Jf P n e ds/\ds.length=P.cellsOf e/\(∀d,d∈ds->jt d=true)/\∀(j:Nat) d,ds[j]?=some d->∃v,W.cell? (a.add (i*P.cellsOf e+j))=some v/\Rep (· <W.heap.size) W jA [] d v:=by
     intro i hi;have r:=qd i hi;rw[qM wC] at r;cases A:W.cells? 0 (a.add (i*P.cellsOf e)) (P.cellsOf e) with
     |none=>rw[A] at r;simp at r
     |some cs=>
      rw[A,Y9] at r;have Yk:Wok P e g[i].1:=fun k T=>M k (vy _ (Xr _ (qjg (List.mem_map_of_mem (vC _)) k T)));obtain⟨ds,L,B,V,d4⟩:=ih m e cs _ o Yk r;obtain⟨_,c2,c3⟩:=World.cells?_some A;refine⟨ds,L,by rw[B,c2],V,fun j d c=>?_⟩;have zp:j<cs.length:=(by rw[<-B];exact(List.getElem?_eq_some_iff.1 c).1);refine⟨cs[j],?_,?_⟩
      .rw[<-Addr.add_add,c3 j wC,qM zp]
      .have:=d4 j d c
       rwa [jy,qM zp,Vm] at this
    have ja:∀k,k<=C->∃p:List (List D),p.length=k/\(∀l,l∈p->l.length=P.cellsOf e/\Jf P n e l)/\(∀d,d∈p.flatten->jt d=true)/\p.flatten.length=k*P.cellsOf e/\
      ∀(j:Nat) d,p.flatten[j]?=some d->∃v,W.cell? (a.add j)=some v/\Rep (· <W.heap.size) W jA [] d v:=by
     intro k
     induction k with
     |zero=>intro _;exact⟨[],rfl,wE,wE,wE,wE⟩
     |succ k Z=>
      intro T;obtain⟨p,E,N,G,l4,R⟩:=Z wC;obtain⟨ds,L,B,V,d4⟩:=K k wC;refine⟨p++[ds],by simp[E],fun l O=>?_,?_,?_,?_⟩
      .rcases List.mem_append.1 O with h|h
       .exact N l h
       .rw[List.mem_singleton.1 h];exact⟨B,L⟩
      .intro d U;rw[List.flatten_append] at U;rcases List.mem_append.1 U with h|h
       .exact G d h
       .exact V d wQ
      .rw[List.flatten_append,zo,l4,ZH,Nat.one_mul];simp[B]
      .intro j d c;rw[List.flatten_append] at c;by_cases J:j<p.flatten.length
       .rw[vD J] at c;exact R j d c
       .rw[jl wC] at c;rw[l4] at c J;have vR:ds[j-k*P.cellsOf e]?=some d:=wo;obtain⟨v,v1,Y⟩:=d4 _ d vR;refine⟨v,?_,Y⟩;rw[<-v1];congr 2;omega
    obtain⟨p,E,N,G,l4,R⟩:=ja C (qA _);refine⟨_,.inr ⟨p,rfl,⟨by rw[E];omega,by rw[E,<-zH];exact zJ (qb0 _ (Nat.le_add_right _ _)) jM⟩,N⟩,qgD rfl ?_⟩;rw[E];refine .vsl a (fun j=>(W.cell? (a.add j)).getD undef) (fun d U=>?_) G (fun j d c=>?_) (fun j d c=>?_) zt
    .obtain⟨j,c⟩:=List.mem_iff_getElem?.1 U;obtain⟨v,v1,_⟩:=R j d c;have:=qf6 v1
     rwa [qeG] at this
    .obtain⟨v,v1,_⟩:=R j d c;rw[v1];rfl
    .obtain⟨v,v1,Y⟩:=R j d c;rw[v1];exact Y
  |array m e=>
   simp only[zY,beq_iff_eq] at o⊢;obtain⟨xs,k,rfl,hx,O,S,r⟩:=DataW.trod_array q h
   have:=qvd (W:=W) (sz:=P.cellsOf e) (Q:=Jf P n e) m 0 cs (by rw[O,o.2];omega) (fun i hi=>by
    rw[J3];have I:=r i hi;rw[qM wC] at I;exact ih k e _ _ o.1 (fun j c=>F j (by rw[hx];unfold DataW.weights;rw[q];exact qjg (List.mem_map_of_mem (vC _)) j c)) I)
   obtain⟨p,E,N,G⟩:=this;exact⟨p.flatten,⟨p,rfl,E,N⟩,by simpa using G⟩
  |struct fs=>
   simp only at o⊢;obtain⟨xs,k,rfl,hx,O,S,r⟩:=DataW.trod_struct q h;rw[<-O] at o
   obtain⟨ds,L,B⟩:=qtM (W:=W) (Q:=Jf P n) fs.toList 0 cs o (fun f hf X=>by
    obtain⟨i,hi⟩:=List.mem_iff_getElem?.1 hf;have kO:fs[i]?=some f:=xl;have I:=r i f kO;have J:i<xs.length:=(by rw[S];exact(Array.getElem?_eq_some_iff.1 kO).1);rw[qM J] at I
    exact ih k f.type _ _ X (fun j c=>F j (by
     rw[hx];unfold DataW.weights;rw[q];exact qmm (i:=i) (by rw[Je,hi];rfl) (by rw[Je,qM J];rfl) j c)) I)
   exact⟨ds,L,by simpa using B⟩
  |_=>simp at o
theorem qnD{n:Nat}{t:TypeId}{v:Value}{d:DataW H}{ps:List MemPlace}(e:qc8 P n t=true)(h:DataW.Trod enc P W 0 (fun _=>true) true t v d ps/\Wok P t d):
  ∃ds,Jf P n t ds/\Cor W ds v.cells.toList:=by
 obtain⟨⟨a,c⟩,b⟩:=h;exact qmw n a t _ _ e b c
end
end Go.Ev
namespace Go.Ev
open Go Go.Proofs Go.RowKit Go.ChangeShapes
theorem qiM(a:Addr):a.add 0=a:=by
 obtain⟨b,o,p⟩:=a;cases p<;>simp[Addr.add]
theorem qjD{P:Program}{W:World}{name:String}{k:IntKind}{zs:List Int}{g:Nat}(h:Lib.TabIs P W name k zs)(e:P.globalNamed name=some g):
  Rep (· <W.heap.size) W jA [] (.vptr (zs.map (.int k))) (.pointer (some ⟨g,0,none⟩)):=by
 have hc:∀i,i<zs.length->W.cell? ⟨g,i,none⟩=some (.int k (zs.getD i 0)):=fun i hi=>h.cell e i hi;refine .vptr _ (fun j=>.int k (zs.getD j 0)) (fun d c=>?_) (fun d c=>?_) (fun j d a=>?_) (fun j d a=>?_)
 .obtain⟨j,a⟩:=List.mem_iff_getElem?.1 c
  have b:j<zs.length:=by
   have:=(List.getElem?_eq_some_iff.1 a).1;simpa using this
  have:=qf6 (hc j b);exact this
 .obtain⟨z,_,rfl⟩:=List.mem_map.1 c;rfl
 .have b:j<zs.length:=by
   have:=(List.getElem?_eq_some_iff.1 a).1;simpa using this
  rw[Vl,J3];exact hc j b
 .have b:j<zs.length:=by
   have:=(List.getElem?_eq_some_iff.1 a).1;simpa using this
  rw[Je,qM b,jn,qy] at a;subst a;rw[jy,qM b,Vm];exact .int k _
theorem qn5{P:Program}{W:World}{name:String}{g:Nat}{tp:TypeId}{text:List UInt8}(l:P.globalNamed name=some g)
  (h:∃(a:Addr)(s:ByteArray),W.var? P name=some #[.iface tp (.pointer (some a))]/\W.cell? a=some (.string s)/\s.data.toList=text/\s.size<=maxLen):
  Rep (· <W.heap.size) W jA [] (.vptr [.iface tp (.vptr [.str text])]) (.pointer (some ⟨g,0,none⟩)):=by
 obtain⟨a,s,k,hc,rfl,_⟩:=h
 have i:W.cell? ⟨g,0,none⟩=some (.iface tp (.pointer (some a))):=by
  have:=World.var?_cell l k 0;simpa using this
 have c:∀{d e:D}{j:Nat},[e][j]?=some d->j=0/\d=e:=fun{d e j} b=>by
  cases j with
  |zero=>simp at b;exact⟨rfl,b.symm⟩
  |succ j=>simp at b
 have m:Rep (· <W.heap.size) W jA [] (.vptr [.str s.data.toList]) (.pointer (some a)):=by
  refine .vptr a (fun _=>.string s) (fun d f=>qf6 hc) (fun d f=>by rw[List.mem_singleton.1 f];rfl) (fun j d b=>?_) (fun j d b=>?_)
  .obtain⟨rfl,rfl⟩:=c b;rw[qiM];exact hc
  .obtain⟨rfl,rfl⟩:=c b;have:=Rep.str (ok:=(· <W.heap.size)) (w:=W) (ι:=jA) (H:=[]) s.data.toList;simpa using this
 refine .vptr _ (fun _=>.iface tp (.pointer (some a))) (fun d f=>qf6 i) (fun d f=>by rw[List.mem_singleton.1 f];rfl) (fun j d b=>?_) (fun j d b=>?_)
 .obtain⟨rfl,rfl⟩:=c b;rw[qiM];exact i
 .obtain⟨rfl,rfl⟩:=c b;exact .iface m
def qxq:String:=String.ofList [Char.ofNat 42]
theorem qu5{P:Program}{nm base:String}{tp:TypeId}(f:qxq++base=nm)
  (c:((List.range P.types.size).all fun u=>P.typeName? 3 u !=some nm||u==tp)=true)
  (a:((List.range P.types.size).all fun e=>P.typeName? 2 e !=some base||(match(P.info? e).map (·.desc) with|some (TypeDesc.named _ _)=>true|_=>false))=true)
  (b:base.toList.head?≠some (Char.ofNat 42)):∀u,P.typeName? 3 u=some nm->u=tp:=by
 subst f;intro u d;exact typeName_ptr_named (nm:=base) c a b u d
end Go.Ev
namespace Go.Ev
open Go Go.Proofs Go.RowKit
section
variable {X:Cx} {ok:Nat->Prop} {w w':World} {ι:qU} {H:qe}
theorem qlS{n:Nat}(c:n<=H.length)(a:Below w.heap.size w w'):Evol n ok w ι H ok w' ι H where
 os:=a.os
 tape:=a.tape
 output:=a.output
 size:=a.size
 frame b qg _:=a.block b qg
 okU _ h:=h
 okN _ h _:=.inl h
 nle:=⟨c,c⟩
 heap _ _ ds h:=⟨ds,h,qA _,fun _=>rfl⟩
 own i ds _ s h1 h2 _:=⟨i,ds,s,h1,h2⟩
theorem qvE(a:Sim X ok w ι H)(k:Below w.heap.size w w'):Sim X ok w' ι H:=by
 have c:Evol H.length ok w ι H ok w' ι H:=qlS (qA _) k;refine⟨fun b h=>vd (a.okS b h) k.size,fun g cs n=>(((a.glob g cs n).lift (ι:=ι) (H:=H)).evol a c rfl).free rfl _ _,a.inj,fun i ds u=>?_⟩;obtain⟨b,arr,e,fr,t,o,f,r,s,v,p,m⟩:=a.blk i ds u
 have q:b<w.heap.size:=by
  rcases Kx b w.heap.size with h|h
  .exact h
  .rw[qfL h] at f;cases f
 exact⟨b,arr,e,fr,t,o,by rw[k.block b q];exact f,r,s,v,p,fun j d l=>(m j d l).evol a c (m j d l).closed⟩
theorem qi4{f:Nat}{vs:List Value}{r:D}(d:Sim X ok w ι H)(g:(callFunc f vs.toArray).run X.P w=.ok (.enter f vs.toArray) w)
  (hc:Calls X.P f vs.toArray w fun e w'=>∃v,e=.returned v/\Rep ok w' ι H r v/\Below w.heap.size w w'):Goes X.P (callFunc f vs.toArray) w (CallPost X ok w ι H r H):=by
 unfold Goes;rw[g];refine hc.mono ?_;rintro e w' ⟨v,rfl,c,a⟩;exact⟨v,rfl,ι,ok,qvE d a,c,qlS (qA _) a,fun i ds hi b=>by rw[qd,List.getElem?_eq_none hi] at b;cases b⟩
theorem q3W{g:Nat}{k:IntKind}{m:Int}(i:Sim X ok w ι H)(d:X.glob g=some [.int k m]):w.cell? ⟨g,0,none⟩=some (.int k m):=by
 have h:=i.glob g _ d;cases h with
 |vptr a f j hc e h=>
  have b:=e 0 (.int k m) rfl;have c:=h 0 (.int k m) rfl;rw[qiM] at b;generalize f 0=v at b c;cases c;exact b
theorem qyJ{W:World}{g:Nat}{k:IntKind}{m:Int}(h:W.cell? ⟨g,0,none⟩=some (.int k m)):Rep (· <W.heap.size) W jA [] (.vptr [.int k m]) (.pointer (some ⟨g,0,none⟩)):=by
 refine .vptr _ (fun _=>.int k m) (fun d b=>qf6 h) (fun d b=>by rw[List.mem_singleton.1 b];rfl) (fun j d a=>?_) (fun j d a=>?_)
 .cases j with
  |zero=>rw[qiM];exact h
  |succ j=>simp at a
 .cases j with
  |zero=>simp at a;subst a;exact .int k m
  |succ j=>simp at a
end
class MaxL where
 m:Int
end Go.Ev
namespace Go.Ev
open Go Go.Proofs Go.RowKit Go.Shelf
section
variable {X:Cx} {ρ:Ren} {ok:Nat->Prop} {w:World} {ι:qU} {H H':qe} {r:D} {args:List D} {vs:List Value}
end
end Go.Ev
namespace Go.Ev
open Go Go.Proofs Go.RowKit Go.Shelf
def JG(a:List UInt8):List UInt8->Nat->Int
 |[],n=>if a.isEmpty then n else-1
 |b::l,n=>if a.isPrefixOf (b::l) then n else JG a l (n+1)
theorem qta(a:List UInt8):∀(l:List UInt8)(n:Nat),JG a l n=if Lib.index l a= -1 then-1 else Lib.index l a+n
 |[],n=>by
  simp only[JG,Lib.index];by_cases h:a.isEmpty=true<;>simp[h]
 |b::l,n=>by
  have e:=Lib.index_ge l a;simp only[JG,Lib.index,qta a l (n+1)];by_cases c:a.isPrefixOf (b::l)=true
  .simp[c]
  .by_cases h:Lib.index l a= -1
   .simp[h,c]
   .have d:¬Lib.index l a+1= -1:=wC;simp only[beq_iff_eq,h,d,c,if_false,Qd];omega
theorem q3o(a l:List UInt8):Lib.index l a=JG a l 0:=by
 rw[qta];split
 .assumption
 .simp
def qgG:List D->qe->Option (D×qe)
 |[.str s,.str a],H=>if s.length<4294967281 then some (.int .i64 (JG a s 0),H) else none
 |_,_=>none
def qgH:List D->qe->Option (D×qe)
 |[.str s],H=>if s.length<=281474976710656 then some (.str s,H) else none
 |_,_=>none
section
variable {X:Cx} {ρ:Ren} {ok:Nat->Prop} {w:World} {ι:qU} {H H':qe} {r:D} {args:List D} {vs:List Value}
theorem qn8{s:List UInt8}(a:RepL ok w ι H [.str s] vs):vs=[.string ⟨s.toArray⟩]:=by
 obtain⟨v,us,rfl,c,b⟩:=J7 a;cases qcO b;cases c;rfl
theorem qyK{s t:List UInt8}(a:RepL ok w ι H [.str s,.str t] vs):vs=[.string ⟨s.toArray⟩,.string ⟨t.toArray⟩]:=by
 obtain⟨v,us,rfl,c,b⟩:=J7 a;cases qn8 b;cases c;rfl
theorem q5w{m:Int}(L:Lays.n219 X.P ρ)(j:X.glob (ρ.g 1)=some [.int .i64 m])(h:qgG args H=some (r,H'))(c:Sim X ok w ι H)(d:RepL ok w ι H args vs):
  Goes X.P (callFunc (ρ.f 219) vs.toArray) w (CallPost X ok w ι H r H'):=by
 have i:∀args w,(callFunc (ρ.f 219) args).run X.P w=.ok (.enter (ρ.f 219) args) w:=Go.Proofs.enters_of L.f219 wF rfl;unfold qgG at h;split at h
 .rename_i s b;split at h
  .rename_i a;injection h with h;injection h with l k;subst l;subst k;cases qyK d;refine qi4 c (i _ _) ((Any.stringslite_Index L ⟨s.toArray⟩ ⟨b.toArray⟩ m w (by simpa[ByteArray.size] using a) (q3W c j)).mono ?_);rintro e w' ⟨rfl,rfl⟩;refine⟨_,rfl,?_,Below.refl _ _⟩;rw[q3o];exact .int .i64 _
  .cases h
 .cases h
theorem q5x(L:LaysM.n316 X.P ρ)(h:qgH args H=some (r,H'))(i:Sim X ok w ι H)(b:RepL ok w ι H args vs):
  Goes X.P (callFunc (ρ.f 316) vs.toArray) w (CallPost X ok w ι H r H'):=by
 have c:∀args w,(callFunc (ρ.f 316) args).run X.P w=.ok (.enter (ρ.f 316) args) w:=Go.Proofs.enters_of L.f316 wF rfl;unfold qgH at h;split at h
 .rename_i s;split at h
  .rename_i a;injection h with h;injection h with g d;subst g;subst d;cases qn8 b;refine qi4 i (c _ _) ((Any.stringslite_Clone L ⟨s.toArray⟩ w (by simpa[ByteArray.size] using a)).mono ?_);rintro e w' ⟨rfl,j⟩;exact⟨_,rfl,.str s,j⟩
  .cases h
 .cases h
end
end Go.Ev
namespace Go.Ev
open Go Go.Proofs Go.RowKit Go.Shelf
def QG(c:UInt8):List UInt8->Nat->Int
 |[],_=>-1
 |b::l,n=>if b=c then n else QG c l (n+1)
theorem qtd(c:UInt8):∀(l:List UInt8)(n:Nat),QG c l n=if Lib.indexByte l c= -1 then-1 else Lib.indexByte l c+n
 |[],n=>by simp[QG,Lib.indexByte]
 |b::l,n=>by
  have e:=Lib.indexByte_ge l c;simp only[QG,Lib.indexByte,qtd c l (n+1)];by_cases a:b=c
  .simp[a]
  .by_cases h:Lib.indexByte l c= -1
   .simp[h,a]
   .have d:¬Lib.indexByte l c+1= -1:=wC;simp only[beq_iff_eq,h,d,a,if_false];omega
theorem qtc(c:UInt8)(l:List UInt8):Lib.indexByte l c=QG c l 0:=by
 rw[qtd];split
 .assumption
 .simp
def qgx:List D->Option D
 |[.str s,.int .u8 c]=>some (.int .i64 (QG (UInt8.ofNat c.toNat) s 0))
 |_=>none
def qgJ:List D->Option D
 |[.str s,.int .u8 c]=>some (.int .i64 (s.count (UInt8.ofNat c.toNat):Nat))
 |_=>none
def qgF:List D->qe->Option (D×qe)
 |[.str s,.int .i64 c],H=>if 0<=c/\c<=100000/\s.length*c.toNat<=140737488355328 then some (.str (Lib.repeatL s c.toNat),H) else none
 |_,_=>none
section
variable {X:Cx} {ρ:Ren} {ok:Nat->Prop} {w:World} {ι:qU} {H H':qe} {r:D} {args:List D} {vs:List Value}
theorem qjF{s:List UInt8}{k:IntKind}{c:Int}(a:RepL ok w ι H [.str s,.int k c] vs):vs=[.string ⟨s.toArray⟩,.int k c]:=by
 obtain⟨v,us,rfl,e,d⟩:=J7 a;obtain⟨h,g,rfl,b,f⟩:=J7 d;cases qcO f;cases e;cases b;rfl
theorem q3r{P:Program}{f:Nat}{fn:Func}(hf:P.funcs[f]?=some fn)(hn:fn.body=none)(hng:(fn.name== "runtime.NumGoroutine")=false)
  (h1:Extern.findNext fn=none) (h2:Extern.find fn=some Extern.BytealgIndexByte.indexByte) {d:D}
  (h:qgx args=some d) (hv:RepL ok w ι H args vs):∃v,(callFunc f vs.toArray).run P w=.ok (.value v) w/\Rep ok w ι H d v/\idFree d=true:=by
 unfold qgx at h;split at h
 .rename_i s c;injection h with h;subst h;cases qjF hv;refine⟨.int .i64 (QG (UInt8.ofNat c.toNat) s 0),?_,.int _ _,rfl⟩;rw[run_callFunc_extern hf hng (by rw[hn];rfl) h1 h2,Lib.run_indexByteString,qtc];rfl
 .cases h
theorem q5O{P:Program}{f:Nat}{fn:Func}(hf:P.funcs[f]?=some fn)(hn:fn.body=none)(hng:(fn.name== "runtime.NumGoroutine")=false)
  (h1:Extern.findNext fn=none) (h2:Extern.find fn=some Extern.BytealgCount.count) {d:D}
  (h:qgJ args=some d) (hv:RepL ok w ι H args vs):∃v,(callFunc f vs.toArray).run P w=.ok (.value v) w/\Rep ok w ι H d v/\idFree d=true:=by
 unfold qgJ at h;split at h
 .rename_i s c;injection h with h;subst h;cases qjF hv;refine⟨.int .i64 (s.count (UInt8.ofNat c.toNat):Nat),?_,.int _ _,rfl⟩;rw[run_callFunc_extern hf hng (by rw[hn];rfl) h1 h2,Lib.run_countString];rfl
 .cases h
theorem q5v(L:Lays.n105 X.P ρ)(E:Builder.Extra X.P ρ)(h:qgF args H=some (r,H'))(i:Sim X ok w ι H)(a:RepL ok w ι H args vs):
  Goes X.P (callFunc (ρ.f 105) vs.toArray) w (CallPost X ok w ι H r H'):=by
 have b:∀args w,(callFunc (ρ.f 105) args).run X.P w=.ok (.enter (ρ.f 105) args) w:=Go.Proofs.enters_of L.f105 wF rfl;unfold qgF at h;split at h
 .rename_i s c;split at h
  .rename_i hc;injection h with h;injection h with g d;subst g;subst d;cases qjF a;obtain⟨n,rfl⟩:∃n:Nat,c=(n:Int):=⟨c.toNat,wC⟩;refine qi4 i (b _ _) ((Any.strings_Repeat L E ⟨s.toArray⟩ n w wC (by simpa[ByteArray.size] using hc.2.2)).mono ?_);rintro e w' ⟨rfl,j⟩;exact⟨_,rfl,.str _,j⟩
  .cases h
 .cases h
end
end Go.Ev
namespace Go.Ev
open Go Go.Proofs Go.RowKit
class TxtC where
 t:Nat->List D->qe->Option (D×qe)
def Cx.add(X:Cx)(T:Nat)(t:List D->qe->Option (D×qe)):Cx:=
 {X with con:=fun f=>if f=T then t else X.con f,bad:=fun f=>if f=T then true else X.bad f}
section
variable {X:Cx} {T:Nat} {t:List D->qe->Option (D×qe)}
end
end Go.Ev
namespace Go.Ev
open Go Go.Proofs Go.RowKit
section
variable {X:Cx} {ok:Nat->Prop} {w w':World} {ι:qU} {H H':qe}
theorem qv6{a:Addr}{j:Nat}{v:Value}(b:w'.heap[a.block]?=w.heap[a.block]?)(h:w.cell? (a.add j)=some v):w'.cell? (a.add j)=some v:=by
 rw[World.cell?_of_block (w:=w)]
 .exact h
 .rw[qeG];exact b
theorem Rep.same{d:D}{v:Value}(h:Rep ok w ι H d v)(o:∀b,ok b->w'.heap[b]?=w.heap[b]?):Rep ok w' ι H d v:=by
 induction h with
 |bool b=>exact .bool b
 |int k n=>exact .int k n
 |str s=>exact .str s
 |nilp=>exact .nilp
 |nilf=>exact .nilf
 |nili=>exact .nili
 |raw v=>exact .raw v
 |agg g hc h e=>exact .agg g hc fun j d c=>e j d c
 |tup g h e=>exact .tup g fun j d c=>e j d c
 |vptr a f i hc m h e=>exact .vptr a f i hc (fun j d c=>qv6 (o _ (i d (mem_of_get? c))) (m j d c)) fun j d c=>e j d c
 |optr a hi h=>exact .optr a hi h
 |vnil=>exact .vnil
 |vsl a f i hc m h l e=>exact .vsl a f i hc (fun j d c=>qv6 (o _ (i d (mem_of_get? c))) (m j d c)) (fun j d c=>e j d c) l
 |osl a hi h l=>exact .osl a hi h l
 |fn g h e=>exact .fn g fun j d c=>e j d c
 |iface h e=>exact .iface e
theorem qmX(a:Sim X ok w ι H)(q:w.heap.size<=w'.heap.size)(k:∀b,ok b->w'.heap[b]?=w.heap[b]?)(r:∀i ds b s,qd H i=some ds->ι i=some (b,s)->w'.heap[b]?=w.heap[b]?):Sim X ok w' ι H:=by
 refine⟨fun b h=>vd (a.okS b h) q,fun g cs n=>(a.glob g cs n).same k,a.inj,fun i ds f=>?_⟩;obtain⟨b,arr,e,fr,c,o,l,t,u,x,p,v⟩:=a.blk i ds f;exact⟨b,arr,e,fr,c,o,by rw[r i ds b _ f c];exact l,t,u,x,p,fun j d m=>(v j d m).same k⟩
theorem qlk{F:zG}(n:VC X F){nt:Nat}{k:Bool}{c:Array Oper}{Q:Exit->Act->World->Prop}{r:List Oper}:∀{l:List Oper}{e i:qu}{H H':qe}{ok:Nat->Prop}{w:World}{ι:qU}{a:Act},vU X F nt k c l e H=some (i,H')->
  Sim X ok w ι H->EnvRep ok w ι H e a.tmps->nt<=a.tmps.size->(∀B w',Out X H.length ok w ι H a i H' B w'->wpList X.P c Q r B w')->wpList X.P c Q (l++r) a w
 |[],e,i,H,H',ok,w,ι,a,h,g,b,A,j=>by
  simp only[vU,qy,zi] at h;obtain⟨rfl,rfl⟩:=h;exact j a w ⟨rfl,rfl,ι,ok,g,b,.refl _ (qA _)⟩
 |o::l,e,i,H,H',ok,w,ι,a,h,g,b,A,j=>by
  simp only[vU] at h;split at h
  .rename_i p x;split at h
   .rename_i d S O;have t:=qfP b x;simp only[Qc,wpList,t,if_true];refine .inl ?_;unfold Oper.wp;refine Goes.upon ((qjZ n g b O).mono fun v R J=>?_);obtain⟨ι1,N,L,K,q⟩:=J;obtain⟨I,u⟩:=qei a o.dst v;refine qlk n h L (qhx (b.evol' g q) K A p) wC fun m z y=>j m z ?_;obtain⟨M,s,ι2,ok2,C,E,G⟩:=y;exact⟨wC,by rw[s,u],ι2,ok2,C,E,q.trans (G.mono q.nle.2)⟩
   .cases h
  .rename_i p x;have t:=qfP b x;simp only[Qc,wpList,t,Qd,if_false];obtain⟨I,u⟩:=qei a o.dst undef;refine qlk n h g (qhx b qhd A p) wC fun m z y=>j m z ?_;obtain⟨M,s,f⟩:=y;exact⟨wC,by rw[s,u],f⟩
  .cases h
theorem qvm(g:Good X){f nt n0:Nat}{c:Code}{e d:qu}{b:Ex}{a:Act}(h:zk X f nt n0 c e H=some (b,d,H'))(i:Z5 X f c=true)(k:n0<=H.length)(l:Sim X ok w ι H)(j:EnvRep ok w ι H e a.tmps)(o:nt<=a.tmps.size):
  c.wp X.P (CQ X n0 ok w ι H a b d H') a w:=by
 obtain⟨n,m⟩:=code_some.1 h;exact(qmO g n).2 f nt n0 c e d H H' b ok w ι a m i k l j o
end
end Go.Ev
namespace Go.Ev
open Go Go.Proofs Go.RowKit
def qvY(X:Cx)(P:Nat->Nat->Nat->Code->qu->D->Prop)(o:Op)(e:qu)(d:D):Prop:=
 (∃x t h,o=.panic x/\qY X e x=some (.iface t h)/\d=.iface t h)\/
 (∃c g f a args fn b,o=.call c/\c.callee=.value g/\vO X e c.args.toList=some args/\qY X e g=some (.fn f a)/\X.P.funcs[f]?=some fn/\fn.body=some b/\X.bad f=false/\(args++a).all idFree=true/\
  P f fn.ntmps 0 b (kr 0 (args++a)) d)
def PanC(X:Cx):Nat->Nat->Nat->Nat->Code->qu->qe->D->qe->Prop
 |0,_,_,_,_,_,_,_,_=>False
 |n+1,f,nt,n0,c,e,H,d,H'=>match c with
  | .region id g false=>∃i h j o k e2,enter X f n0 id e H=some (i,h)/\g.toList=j++o::k/\vU X (call X) nt (YM X f id false g) g j i h=some (e2,H')/\vM g e2 o.guard=some true/\idFree d=true/\vFree d=true/\
    qvY X (fun f nt n0 c e d=>∃L,PanC X n f nt n0 c e [] d L) o.op e2 d
  | .seq a b=>PanC X n f nt n0 a e H d H'\/∃i h,zk X f nt n0 a e H=some (.normal,i,h)/\PanC X n f nt n0 b i h d H'
  | .cond c a b=>∃t,qY X e c=some (.bool t)/\PanC X n f nt n0 (if t then a else b) e H d H'
  | .block _ c| .scope c=>PanC X n f nt n0 c e H d H'
  | .loop c=>PanC X n f nt n0 c e H d H'\/∃i h,zk X f nt n0 c e H=some (.normal,i,h)/\PanC X n f nt n0 (.loop c) i h d H'
  |_=>False
section
variable {X:Cx} {ok ok':Nat->Prop} {w w':World} {ι:qU} {H H':qe}
def GoesP(P:Program)(s:Sem Next)(w:World)(R:Value->World->Prop):Prop:=
 match s.run P w with
 | .ok (.enter f args) w'=>Calls P f args w' fun e a=>∃v,e=.panicked [{v,recovered:=false}]/\R v a
 | .halt (.panic v) w'=>R v w'
 |_=>False
theorem GoesP.upon{P:Program}{o:Oper}{a:Act}{s:Sem Next}{next:Act->World->Prop}{Q:Exit->Act->World->Prop}(h:GoesP P s w fun v w'=>Q (.panic [{v,recovered:=false}]) a w'):o.upon P a next Q (s.run P w):=by
 unfold GoesP at h;split at h
 .rename_i f args w' b;rw[b];simp only[Oper.upon];exact h.mono fun e g ⟨v,d,c⟩=>by subst d;exact c
 .rename_i v w' b;rw[b];exact h
 .exact h.elim
theorem GoesP.mono{P:Program}{s:Sem Next}{R a:Value->World->Prop}(h:GoesP P s w R)(b:∀v w',R v w'->a v w'):GoesP P s w a:=by
 unfold GoesP at *;split at h
 .exact h.mono fun e f ⟨v,d,c⟩=>⟨v,d,b _ _ c⟩
 .exact b _ _ h
 .exact h.elim
def PQ(X:Cx)(n:Nat)(ok:Nat->Prop)(w:World)(ι:qU)(H:qe)(a:Act)(d:D)(H':qe)(x:Exit)(b:Act)(w':World):Prop:=
 b.defers=a.defers/\∃v ι' ok',x=.panic [{v,recovered:=false}]/\Sim X ok' w' ι' H'/\Rep ok' w' ι' H' d v/\Evol n ok w ι H ok' w' ι' H'
theorem qz3{f:Nat}{fn:Func}{c:Code}{args:List D}{d:D}{L:qe}{vs:List Value}(hf:X.P.funcs[f]?=some fn)(hb:fn.body=some c)(hng:(fn.name== "runtime.NumGoroutine")=false)
  (vK:args.all idFree=true) (hd:idFree d=true) (hvd:vFree d=true) (hs:Sim X ok w ι H) (hv:RepL ok w ι H args vs)
  (hC:∀a:Act,EnvRep ok w jA [] (kr 0 args) a.tmps->fn.ntmps<=a.tmps.size->c.wp X.P (PQ X 0 ok w jA [] a d L) a w):
  GoesP X.P (callFunc f vs.toArray) w fun v w'=>Sim X ok w' ι H/\Rep ok w' ι H d v/\Evol H.length ok w ι H ok w' ι H:=by
 have Xe:(callFunc f vs.toArray).run X.P w=.ok (.enter f vs.toArray) w:=Go.Proofs.enters_of hf hng hb _ _;have hv':RepL ok w jA [] args vs:=⟨hv.1,fun j d hj=>(hv.2 j d hj).free (qc1 vK d (mem_of_get? hj)) _ _⟩;unfold GoesP;rw[Xe];simp only;refine calls_of_wp hf hb (wp_mono (hC ⟨vs.toArray++Array.replicate (fn.ntmps-vs.toArray.size) undef,[]⟩ ?_ ?_) ?_)
 .intro t d ht;obtain⟨_,h2⟩:=qiK args 0 t d ht;rw[Nat.sub_zero] at h2;have qg:t<vs.length:=by rw[hv.1];exact(List.getElem?_eq_some_iff.1 h2).1
  refine⟨wG,?_⟩;have:=hv'.2 t d h2;rw[j8,qgZ (by simpa using qg)];simpa[jy] using this
 .simp;omega
 .rintro x a' w' ⟨hdf,v,ι1,ok1,rfl,k1,k2,k3⟩;refine⟨hdf,v,rfl,?_⟩;have hfr:∀b,b<w.heap.size->w'.heap[b]?=w.heap[b]?:=fun b hb=>k3.frame b hb (fun i ds s hd=>by simp[qd] at hd);refine⟨qmX hs k3.size (fun b h=>hfr b (hs.okS b h)) (fun i ds b s hd hi=>hfr b (hs.lt hd hi)),(k2.free hd ι H).vfree hvd ok,⟨k3.os,k3.tape,k3.output,k3.size,fun b hb _=>hfr b hb,fun _ h=>h,fun _ h _=>.inl h,⟨qA _,qA _⟩,fun i _ ds hd=>⟨ds,hd,qA _,fun _=>rfl⟩,fun i ds _ s hd hi _=>⟨i,ds,s,hd,hi⟩⟩⟩
theorem PQ.trans{n:Nat}{a i:Act}{c:World}{f:qe}{b:Nat->Prop}{ι1:qU}{d:D}(l:i.defers=a.defers)(j:Evol n ok w ι H b c ι1 f){x:Exit}{e:Act}{g:World}
  (h:PQ X n b c ι1 f i d H' x e g):PQ X n ok w ι H a d H' x e g:=by
 obtain⟨t,v,ι2,ok2,rfl,k,o,m⟩:=h;exact⟨by rw[t,l],v,ι2,ok2,rfl,k,o,j.trans m⟩
theorem qz7(I:Good X):∀(n f nt n0:Nat)(c:Code)(e:qu)(H:qe)(d:D)(H':qe)(ok:Nat->Prop)(w:World)(ι:qU)(a:Act),PanC X n f nt n0 c e H d H'->Z5 X f c=true->n0<=H.length->Sim X ok w ι H->EnvRep ok w ι H e a.tmps->nt<=a.tmps.size->
  c.wp X.P (PQ X n0 ok w ι H a d H') a w:=by
 intro n
 induction n using Nat.strongRecOn with
 |_ n J=>
 cases n with
 |zero=>intro f nt n0 c e H d H' ok w ι a h;exact h.elim
 |succ n=>
  have F:=J n wC;intro f nt n0 c e H d H' ok w ι a h b s j i p;cases c with
  |region id aj K=>
   cases K with
   |true=>exact h.elim
   |false=>
    obtain⟨Q,R,l1,o,l2,e2,jV,hl,ah,hg,hd,aa,QR⟩:=h;obtain⟨u,ι1,s1,s2,s3⟩:=quG jV s j i;refine wp_region_list ?_;rw[hl];refine qlk (qlL I) ah s1 s2 p fun q w' vu=>?_;obtain⟨t1,E,ι2,ok2,k,B,C⟩:=vu;have hw:=qfP B hg;simp only[wpList,hw,if_true];refine .inl ?_;have A:=s3.trans (C.mono s3.nle.2);rcases QR with⟨x,t,d0,Y,hx,rfl⟩|⟨c,g,S,ai,args,fn,cd,Y,hc,ag,V,Z,hb,O,vK,L,hP⟩
    .obtain⟨v,T,hr⟩:∃v,q.eval x=.iface t v/\Rep ok2 w' ι2 H' d0 v:=by
      have:=vj k B hx;generalize q.eval x=y at this;cases this;exact⟨_,rfl,by assumption⟩
     have N:(execOp q.eval o).run X.P w'=.halt (.panic (.iface t v)) w':=by
      simp only[execOp,Y,T];rfl
     unfold Oper.wp;rw[N,Oper.upon_panic];exact⟨E,_,ι2,ok2,rfl,k,.iface hr,A⟩
    .have T:=qgh k B ag;have G:=vj k B V;generalize Ju:q.eval g=cv at G;cases G with
     | @fn _ _ _ _ vs hl hh=>
      have e0:execOp q.eval o=callFunc S ((c.args.toList.map q.eval)++vs.toList).toArray:=by
       simp only[execOp,Y,resolve,hc,Ju,Deferred.ofValue];simp only[pure_bind,invoke];congr 1;apply Array.ext';simp
      unfold Oper.wp;rw[e0];refine GoesP.upon ((qz3 Z hb (I.ng S fn Z) vK hd aa k (RepL.append T (qn9 hl hh)) fun W ac ae=>F S fn.ntmps 0 cd _ [] d L ok2 w' jA W hP (I.okc S fn cd Z hb O) (qA _) (qmY k) ac ae).mono fun v w2 M=>?_);obtain⟨q1,q2,q3⟩:=M;exact⟨E,v,ι2,ok2,rfl,q1,q2,A.trans (q3.mono (zJ s3.nle.2 C.nle.2))⟩
  |seq x y=>
   simp only[Z5,zY] at b;refine wp_seq ?_;rcases h with h|⟨Q,R,hx,h⟩
   .refine wp_mono (F f nt n0 x e H d H' ok w ι a h b.1 s j i p) ?_;rintro z q w' ⟨t,v,ι',ok',rfl,r⟩;exact⟨t,v,ι',ok',rfl,r⟩
   .refine wp_mono (qvm I hx b.1 s j i p) ?_;rintro z a1 w1 ⟨rfl,t1,E,ι1,u,k,B,C⟩;refine wp_mono (F f nt n0 y Q R d H' u w1 ι1 a1 h b.2 C.nle.2 k B wC) ?_;exact fun z W w2 M=>PQ.trans E C M
  |cond c x y=>
   simp only[Z5,zY] at b;obtain⟨t,hc,h⟩:=h;refine wp_cond (qor j i hc) (F f nt n0 _ e H d H' ok w ι a h ?_ s j i p);cases t
   .exact b.2
   .exact b.1
  |block id c=>
   refine wp_block (wp_mono (F f nt n0 c e H d H' ok w ι a h b s j i p) ?_);rintro z q w' ⟨t,v,ι',ok',rfl,r⟩;exact⟨t,v,ι',ok',rfl,r⟩
  |scope c=>
   refine wp_scope_straight (wp_mono (F f nt n0 c e H d H' ok w ι a h b s j i p) ?_);rintro z q w' ⟨t,v,ι',ok',rfl,r⟩;exact⟨t,v,ι',ok',rfl,r⟩
  |loop c=>
   simp only[Z5] at b
   have key:∀m,m<=n->∀(e:qu)(H:qe)(ok:Nat->Prop)(w:World)(ι:qU)(a:Act),PanC X (m+1) f nt n0 (.loop c) e H d H'->n0<=H.length->Sim X ok w ι H->EnvRep ok w ι H e a.tmps->nt<=a.tmps.size->Code.rounds X.P c (PQ X n0 ok w ι H a d H') (m+1) a w:=by
    intro m
    induction m with
    |zero=>
     intro _ e H ok w ι a h;rcases h with h|⟨_,_,_,h⟩
     .exact h.elim
     .exact h.elim
    |succ m U=>
     intro hm e H ok w ι a h s j i p;rw[rounds_succ];rcases h with h|⟨Q,R,hx,h⟩
     .refine wp_mono (J (m+1) wC f nt n0 c e H d H' ok w ι a h b s j i p) ?_;rintro z q w' ⟨t,v,ι',ok',rfl,r⟩;exact⟨t,v,ι',ok',rfl,r⟩
     .refine wp_mono (qvm I hx b s j i p) ?_;rintro z a1 w1 ⟨rfl,t1,E,ι1,u,k,B,C⟩;exact qj4 (fun z W w2 M=>PQ.trans E C M) _ _ _ (U wC Q R u w1 ι1 a1 h C.nle.2 k B wC)
   exact wp_loop_rounds _ (key n (qA _) e H ok w ι a h s j i p)
  |skip=>exact h.elim
  |label l=>exact h.elim
  |exit id=>exact h.elim
  |ret=>exact h.elim
  |_=>exact h.elim
def qvX(X:Cx)(f:Nat)(args:List D)(H:qe)(d:D)(H':qe):Prop:=
 ∃n fn c,X.P.funcs[f]?=some fn/\fn.body=some c/\X.bad f=false/\PanC X n f fn.ntmps H.length c (kr 0 args) H d H'
theorem qzu(e:Good X){f:Nat}{args:List D}{d:D}{vs:List Value}(h:qvX X f args H d H')(q:Sim X ok w ι H)(l:RepL ok w ι H args vs):
  GoesP X.P (callFunc f vs.toArray) w fun v w'=>∃ι' ok',Sim X ok' w' ι' H'/\Rep ok' w' ι' H' d v/\Evol H.length ok w ι H ok' w' ι' H':=by
 obtain⟨n,fn,c,b,j,a,y⟩:=h;have s:(callFunc f vs.toArray).run X.P w=.ok (.enter f vs.toArray) w:=Go.Proofs.enters_of b (e.ng f fn b) j _ _;unfold GoesP;rw[s];simp only;refine calls_of_wp b j (wp_mono (qz7 e n f fn.ntmps H.length c (kr 0 args) H d H' ok w ι ⟨vs.toArray++Array.replicate (fn.ntmps-vs.toArray.size) undef,[]⟩ y (e.okc f fn c b j a) (qA _) q ?_ ?_) ?_)
 .intro t d r;obtain⟨_,g⟩:=qiK args 0 t d r;rw[Nat.sub_zero] at g;have p:t<vs.length:=by rw[l.1];exact(List.getElem?_eq_some_iff.1 g).1
  refine⟨wG,?_⟩;have:=l.2 t d g;rw[j8,qgZ (by simpa using p)];simpa[jy] using this
 .simp;omega
 .rintro x z w' ⟨k,v,ι1,i,rfl,o,m,u⟩;exact⟨k,v,rfl,ι1,i,o,m,u⟩
end
end Go.Ev
namespace Go.Ev
open Go Go.Proofs
section
variable {X:Cx} {f nt n0:Nat} {e:qu} {H H':qe} {d:D}
end
end Go.Ev
namespace Go.Ev
open Go Go.Proofs Go.RowKit
def Z4(X:Cx)(P:Nat->List D->Option D)(o:Op)(e:qu):Option D:=
 match o with
 | .panic x=>match qY X e x with
  |some (.iface t d)=>if idFree d&&vFree d then some (.iface t d) else none
  |_=>none
 | .call c=>match c.callee,vO X e c.args.toList with
  | .value g,some args=>match qY X e g with
   |some (.fn f a)=>P f (args++a)
   |_=>none
  |_,_=>none
 |_=>none
noncomputable def QZ(X:Cx)(P:Nat->List D->Option D)(nt:Nat)(bw:Bool)(a:Array Oper):List Oper->qu->qe->Option (D×qe)
 |[],_,_=>none
 |o::l,e,H=>match km nt o.dst,vM a e o.guard with
  |true,some true=>match qZ X (call X) bw o.op e H with
   |some (d,H')=>QZ X P nt bw a l (jN e o.dst d) H'
   |none=>(Z4 X P o.op e).map (·,H)
  |true,some false=>QZ X P nt bw a l (jN e o.dst (.tup [])) H
  |_,_=>none
def Vr(X:Cx)(a:Nat->Nat->Nat->Code->qu->qe->Option (D×qe))(f:Nat)(args:List D):Option D:=
 match X.con f args [],X.P.funcs[f]? with
 |none,some fn=>match fn.body with
  |some c=>if X.bad f=false/\args.all idFree=true then match a f fn.ntmps 0 c (kr 0 args) [] with
    |some (d,_)=>if idFree d&&vFree d then some d else none
    |none=>none
   else none
  |none=>none
 |_,_=>none
noncomputable def evP(X:Cx):Nat->Nat->Nat->Nat->Code->qu->qe->Option (D×qe)
 |0,_,_,_,_,_,_=>none
 |n+1,f,nt,n0,c,e,H=>match c with
  | .region id d h=>match h,enter X f n0 id e H with
   |false,some (g,i)=>QZ X (Vr X (evP X n)) nt (YM X f id false d) d d.toList g i
   |_,_=>none
  | .seq a b=>match zk X f nt n0 a e H with
   |some (.normal,g,i)=>evP X n f nt n0 b g i
   |some _=>none
   |none=>evP X n f nt n0 a e H
  | .cond c a b=>match qY X e c with
   |some (.bool t)=>evP X n f nt n0 (if t then a else b) e H
   |_=>none
  | .block _ c=>evP X n f nt n0 c e H
  | .scope c=>evP X n f nt n0 c e H
  | .loop c=>match zk X f nt n0 c e H with
   |some (.normal,g,i)=>evP X n f nt n0 (.loop c) g i
   |some _=>none
   |none=>evP X n f nt n0 c e H
  |_=>none
section
variable {X:Cx} {f nt n0:Nat} {e:qu} {H H':qe} {d:D}
theorem qzx{P Q:Nat->List D->Option D}(h:∀f args d,P f args=some d->Q f args=some d){o:Op}{d:D}(a:Z4 X P o e=some d):Z4 X Q o e=some d:=by
 unfold Z4 at a⊢;split at a
 .exact a
 .split at a
  .split at a
   .exact h _ _ _ a
   .cases a
  .cases a
 .cases a
theorem qh5{P Q:Nat->List D->Option D}(h:∀f args d,P f args=some d->Q f args=some d){bw:Bool}{b:Array Oper}:∀{l:List Oper}{e:qu}{H:qe}{r:D×qe},QZ X P nt bw b l e H=some r->QZ X Q nt bw b l e H=some r
 |[],_,_,_,a=>a
 |o::l,e,H,r,a=>by
  rw[QZ] at a⊢;split at a
  .split at a
   .exact qh5 h a
   .cases c:Z4 X P o.op e with
    |none=>rw[c] at a;cases a
    |some q=>rw[c] at a;simp only[qzx h c];exact a
  .exact qh5 h a
  .cases a
theorem qnY{E G:Nat->Nat->Nat->Code->qu->qe->Option (D×qe)}(h:∀f nt n0 c e H r,E f nt n0 c e H=some r->G f nt n0 c e H=some r){f:Nat}{args:List D}{d:D}(a:Vr X E f args=some d):Vr X G f args=some d:=by
 unfold Vr at a⊢;split at a
 .split at a
  .split at a
   .rename_i b;rw[if_pos b];split at a
    .rename_i g;rw[h _ _ _ _ _ _ _ g];exact a
    .cases a
   .cases a
  .cases a
 .cases a
theorem q4E:∀{n f nt n0:Nat}{c:Code}{e:qu}{H:qe}{r:D×qe},evP X n f nt n0 c e H=some r->evP X (n+1) f nt n0 c e H=some r:=by
 intro n
 induction n with
 |zero=>intro f nt n0 c e H r h;simp[evP] at h
 |succ n g=>
  intro f nt n0 c e H r h;rw[evP.eq_def] at h⊢;cases c with
  |region id m i=>
   simp only at h⊢;split at h
   .exact qh5 (fun f args d j=>qnY (fun f nt n0 c e H r k=>g k) j) h
   .cases h
  |seq a b=>
   simp only at h⊢;split at h
   .exact g h
   .cases h
   .exact g h
  |cond c a b=>
   simp only at h⊢;split at h
   .exact g h
   .cases h
  |block id c=>exact g h
  |scope c=>exact g h
  |loop c=>
   simp only at h⊢;split at h
   .exact g h
   .cases h
   .exact g h
  |skip=>cases h
  |label l=>cases h
  |exit id=>cases h
  |ret=>cases h
  |_=>cases h
theorem q4I{n m:Nat}(a:n<=m){c:Code}{r:D×qe}(h:evP X n f nt n0 c e H=some r):evP X m f nt n0 c e H=some r:=by
 induction a with
 |refl=>exact h
 |step _ b=>exact q4E b
noncomputable def jL(X:Cx)(f nt n0:Nat)(c:Code)(e:qu)(H:qe):Option (D×qe):=lim fun n=>evP X n f nt n0 c e H
theorem codeP_some{c:Code}{r:D×qe}:jL X f nt n0 c e H=some r↔∃n,evP X n f nt n0 c e H=some r:=qk0 fun _ _ _ a h=>q4I a h
noncomputable def QE(X:Cx)(f:Nat)(args:List D):Option D:=Vr X (jL X) f args
theorem qz6{f:Nat}{args:List D}{d:D}(h:QE X f args=some d):∃n,Vr X (evP X n) f args=some d:=by
 unfold QE Vr at h;split at h
 .rename_i hc b;split at h
  .rename_i c i;split at h
   .rename_i a;split at h
    .rename_i g;obtain⟨n,e⟩:=codeP_some.1 g;refine⟨n,?_⟩;unfold Vr;simp only[hc,b,i,if_pos a,e];exact h
    .cases h
   .cases h
  .cases h
 .cases h
theorem qzw{o:Op}{d:D}(h:Z4 X (QE X) o e=some d):∃n,Z4 X (Vr X (evP X n)) o e=some d:=by
 unfold Z4 at h;split at h
 .refine⟨0,?_⟩;unfold Z4;exact h
 .split at h
  .rename_i hc a;split at h
   .rename_i b;obtain⟨n,c⟩:=qz6 h;refine⟨n,?_⟩;unfold Z4;simp only[hc,a,b];exact c
   .cases h
  .cases h
 .cases h
theorem qjX{bw:Bool}{c:Array Oper}:∀{l:List Oper}{e:qu}{H:qe}{r:D×qe},QZ X (QE X) nt bw c l e H=some r->∃n,QZ X (Vr X (evP X n)) nt bw c l e H=some r
 |[],_,_,_,a=>⟨0,a⟩
 |o::l,e,H,r,a=>by
  rw[QZ] at a;split at a
  .rename_i f d;split at a
   .rename_i g;obtain⟨n,b⟩:=qjX a;exact⟨n,by rw[QZ,f,d];simp only[g];exact b⟩
   .rename_i g;cases h:Z4 X (QE X) o.op e with
    |none=>rw[h] at a;cases a
    |some q=>
     rw[h] at a;obtain⟨n,b⟩:=qzw h;exact⟨n,by rw[QZ,f,d];simp only[g,b];exact a⟩
  .rename_i f d;obtain⟨n,b⟩:=qjX a;exact⟨n,by rw[QZ,f,d];exact b⟩
  .cases a
theorem q59{id:Nat}{a:Array Oper}{c:qu}{b:qe}{r:D×qe}(g:enter X f n0 id e H=some (c,b))(h:QZ X (QE X) nt (YM X f id false a) a a.toList c b=some r):jL X f nt n0 (.region id a false) e H=some r:=by
 obtain⟨n,d⟩:=qjX h;exact codeP_some.2 ⟨n+1,by rw[evP.eq_def];simp only[g];exact d⟩
theorem q5C{c:Operand}{a b:Code}{t:Bool}{r:D×qe}(hc:qY X e c=some (.bool t))(h:jL X f nt n0 (if t then a else b) e H=some r):jL X f nt n0 (.cond c a b) e H=some r:=by
 obtain⟨n,d⟩:=codeP_some.1 h;exact codeP_some.2 ⟨n+1,by rw[evP.eq_def];simp only[hc];exact d⟩
theorem q5D{id:Nat}{c:Code}{r:D×qe}(h:jL X f nt n0 c e H=some r):jL X f nt n0 (.block id c) e H=some r:=by
 obtain⟨n,a⟩:=codeP_some.1 h;exact codeP_some.2 ⟨n+1,a⟩
theorem q58{c:Code}{r:D×qe}(h:jL X f nt n0 c e H=some r):jL X f nt n0 (.scope c) e H=some r:=by
 obtain⟨n,a⟩:=codeP_some.1 h;exact codeP_some.2 ⟨n+1,a⟩
theorem q56{a b:Code}{d:qu}{c:qe}{r:D×qe}(g:zk X f nt n0 a e H=some (.normal,d,c))(h:jL X f nt n0 b d c=some r):jL X f nt n0 (.seq a b) e H=some r:=by
 obtain⟨n,i⟩:=codeP_some.1 h;exact codeP_some.2 ⟨n+1,by rw[evP.eq_def];simp only[g];exact i⟩
theorem q5A{c:Code}{b:qu}{a:qe}{r:D×qe}(d:zk X f nt n0 c e H=some (.normal,b,a))(h:jL X f nt n0 (.loop c) b a=some r):jL X f nt n0 (.loop c) e H=some r:=by
 obtain⟨n,g⟩:=codeP_some.1 h;exact codeP_some.2 ⟨n+1,by rw[evP.eq_def];simp only[d];exact g⟩
theorem qjW{P:Nat->List D->Option D}{bw:Bool}{b:Array Oper}:∀{l:List Oper}{e:qu}{H:qe}{r:D×qe},QZ X P nt bw b l e H=some r->vU X (call X) nt bw b l e H=none
 |[],_,_,_,a=>by cases a
 |o::l,e,H,r,a=>by
  rw[QZ] at a;rw[vU];split at a
  .rename_i d c;rw[d,c];simp only;split at a
   .rename_i f;rw[f];exact qjW a
   .rename_i f;rw[f]
  .rename_i d c;rw[d,c];exact qjW a
  .cases a
theorem q4H:∀{n f nt n0:Nat}{c:Code}{e:qu}{H:qe}{r:D×qe},evP X n f nt n0 c e H=some r->zk X f nt n0 c e H=none:=by
 intro n
 induction n with
 |zero=>intro f nt n0 c e H r h;simp[evP] at h
 |succ n d=>
  intro f nt n0 c e H r h;rw[evP.eq_def] at h;cases c with
  |region id i g=>
   simp only at h;split at h
   .rename_i j;rw[qi6,j];simp only[Jz,qjW h];rfl
   .cases h
  |seq a b=>
   simp only at h;rw[ql7];split at h
   .rename_i hc;rw[hc];exact d h
   .cases h
   .rename_i hc;rw[hc]
  |cond c a b=>
   simp only at h;rw[ql9];split at h
   .rename_i hc;rw[hc];exact d h
   .cases h
  |block id c=>rw[qlA,d h]
  |scope c=>rw[ql8,d h]
  |loop c=>
   simp only at h;rw[qgI];split at h
   .rename_i hc;rw[hc];exact d h
   .cases h
   .rename_i hc;rw[hc]
  |skip=>cases h
  |label l=>cases h
  |exit id=>cases h
  |ret=>cases h
  |_=>cases h
theorem qi7{c:Code}{r:D×qe}(h:jL X f nt n0 c e H=some r):zk X f nt n0 c e H=none:=by
 obtain⟨n,a⟩:=codeP_some.1 h;exact q4H a
theorem q57{a b:Code}{r:D×qe}(h:jL X f nt n0 a e H=some r):jL X f nt n0 (.seq a b) e H=some r:=by
 have hc:=qi7 h;obtain⟨n,c⟩:=codeP_some.1 h;exact codeP_some.2 ⟨n+1,by rw[evP.eq_def];simp only[hc];exact c⟩
theorem q5B{c:Code}{r:D×qe}(h:jL X f nt n0 c e H=some r):jL X f nt n0 (.loop c) e H=some r:=by
 have hc:=qi7 h;obtain⟨n,a⟩:=codeP_some.1 h;exact codeP_some.2 ⟨n+1,by rw[evP.eq_def];simp only[hc];exact a⟩
theorem qz5{args:List D}(h:QE X f args=some d):call X f args []=none:=by
 unfold QE Vr at h;split at h
 .rename_i hc b;split at h
  .rename_i c e;split at h
   .rename_i a;split at h
    .rename_i g;rw[qiD hc b e a.1];have:=qi7 g;simp only[kt,this]
    .cases h
   .cases h
  .cases h
 .cases h
theorem qjV{n:Nat}(B:∀{f nt n0:Nat}{c:Code}{e:qu}{H:qe}{d:D}{H':qe},evP X n f nt n0 c e H=some (d,H')->PanC X n f nt n0 c e H d H'){bw:Bool}{j:Array Oper}:
  ∀{l:List Oper}{e:qu}{H:qe}{d:D}{H':qe},QZ X (Vr X (evP X n)) nt bw j l e H=some (d,H')->
   ∃k o p e2,l=k++o::p/\vU X (call X) nt bw j k e H=some (e2,H')/\vM j e2 o.guard=some true/\idFree d=true/\vFree d=true/\qvY X (fun f nt n0 c e d=>∃L,PanC X n f nt n0 c e [] d L) o.op e2 d
 |[],_,_,_,_,h=>by cases h
 |o::l,e,H,d,H',h=>by
  rw[QZ] at h;split at h
  .rename_i A r;split at h
   .rename_i R S C;obtain⟨k,s,p,e2,z,w,u⟩:=qjV B h;exact⟨o::k,s,p,e2,by rw[z];rfl,by rw[vU,A,r];simp only[C];exact w,u⟩
   .rename_i C;cases a:Z4 X (Vr X (evP X n)) o.op e with
    |none=>rw[a] at h;cases h
    |some q=>
     rw[a] at h;injection h with h;injection h with G F;subst G;subst F;refine⟨[],o,l,e,rfl,rfl,r,?_⟩;unfold Z4 at a;split at a
     .rename_i x y;split at a
      .rename_i t E hx;split at a
       .rename_i b;injection a with a;subst a;rw[zY] at b;exact⟨b.1,b.2,.inl ⟨x,t,E,y,hx,rfl⟩⟩
       .cases a
      .cases a
     .rename_i c y;split at a
      .rename_i g args hc J;split at a
       .rename_i O m v;unfold Vr at a;split at a
        .rename_i fn P I;split at a
         .rename_i K M;split at a
          .rename_i i;split at a
           .rename_i Q L N;split at a
            .rename_i b;injection a with a;subst a;rw[zY] at b;exact⟨b.1,b.2,.inr ⟨c,g,O,m,args,fn,K,y,hc,J,v,I,M,i.1,i.2,L,B N⟩⟩
            .cases a
           .cases a
          .cases a
         .cases a
        .cases a
       .cases a
      .cases a
     .cases a
  .rename_i A r;obtain⟨k,s,p,e2,z,w,u⟩:=qjV B h;exact⟨o::k,s,p,e2,by rw[z];rfl,by rw[vU,A,r];exact w,u⟩
  .cases h
theorem q4G:∀{n f nt n0:Nat}{c:Code}{e:qu}{H:qe}{d:D}{H':qe},evP X n f nt n0 c e H=some (d,H')->PanC X n f nt n0 c e H d H':=by
 intro n
 induction n with
 |zero=>intro f nt n0 c e H d H' h;simp[evP] at h
 |succ n g=>
  intro f nt n0 c e H d H' h;rw[evP.eq_def] at h;rw[PanC.eq_def];cases c with
  |region id s i=>
   cases i with
   |true=>cases h
   |false=>
    simp only at h⊢;split at h
    .rename_i u m _ y;obtain⟨v,o,x,e2,p,k,j,r,w,q⟩:=qjV g h;exact⟨u,m,v,o,x,e2,y,p,k,j,r,w,q⟩
    .cases h
  |seq a b=>
   simp only at h⊢;split at h
   .rename_i hc;exact .inr ⟨_,_,hc,g h⟩
   .cases h
   .exact .inl (g h)
  |cond c a b=>
   simp only at h⊢;split at h
   .rename_i t hc;exact⟨t,hc,g h⟩
   .cases h
  |block id c=>exact g h
  |scope c=>exact g h
  |loop c=>
   simp only at h⊢;split at h
   .rename_i hc;exact .inr ⟨_,_,hc,g h⟩
   .cases h
   .exact .inl (g h)
  |skip=>cases h
  |label l=>cases h
  |exit id=>cases h
  |ret=>cases h
  |_=>cases h
noncomputable def YO(X:Cx)(f:Nat)(args:List D)(H:qe):Option (D×qe):=
 match X.P.funcs[f]? with
 |some fn=>match fn.body with
  |some c=>if X.bad f=false then jL X f fn.ntmps H.length c (kr 0 args) H else none
  |none=>none
 |none=>none
theorem qzz{args:List D}(h:YO X f args H=some (d,H')):qvX X f args H d H':=by
 unfold YO at h;split at h
 .rename_i fn b;split at h
  .rename_i c e;split at h
   .rename_i a;obtain⟨n,g⟩:=codeP_some.1 h;exact⟨n,fn,c,b,e,a,q4G g⟩
   .cases h
  .cases h
 .cases h
theorem qoj{P:Nat->List D->Option D}{bw:Bool}(a:Array Oper):∀(l:List Oper)(e:qu)(H:qe),QZ X P nt bw (Qy a.toList).toArray (Qy l) e H=QZ X P nt bw a l e H
 |[],e,H=>rfl
 |o::l,e,H=>by
  simp only[Qy,QZ,qec,qkO,qoj a l]
theorem q4F:∀(n:Nat)(c:Code)(e:qu)(H:qe),evP X n f nt n0 (vi c) e H=evP X n f nt n0 c e H:=by
 intro n
 induction n with
 |zero=>intro c e H;simp[evP]
 |succ n d=>
  intro c e H;cases c with
  |region id h g=>
   have i:(Qy h.toList).toArray.toList=Qy h.toList:=wE;cases g with
   |true=>simp only[vi,evP]
   |false=>
    simp only[vi,evP];cases enter X f n0 id e H with
    |none=>rfl
    |some q=>simp only[qoj,YM]
  |seq a b=>simp only[vi,evP,d,qi5]
  |cond x a b=>
   simp only[vi,evP];split
   .rename_i t _;cases t<;>simp only[d,if_true,if_false,Qd]
   .rfl
  |block id c=>simp only[vi,evP,d]
  |loop c=>
   have:=d (.loop c);simp only[vi] at this;simp only[vi,evP,d,this,qi5]
  |scope c=>simp only[vi,evP,d]
  |_=>rfl
theorem qvr{c:Code}:jL X f nt n0 (vi c) e H=jL X f nt n0 c e H:=by
 unfold jL;congr 1;funext n;exact q4F n c e H
theorem qz4{fn:Func}{args:List D}{H':qe}(i:X.P.funcs[f]?=some fn)(e:fn.body.isSome=true)(a:X.bad f=false/\X.con f args []=none)(j:args.all idFree=true)(g:idFree d=true/\vFree d=true)
  (h:jL X f fn.ntmps 0 (vi (Zx fn)) (kr 0 args) []=some (d,H')):QE X f args=some d:=by
 rw[qvr] at h;unfold QE Vr;cases b:fn.body with
 |none=>rw[b] at e;cases e
 |some c=>
  have hc:Zx fn=c:=by simp only[Zx,b,Vm]
  rw[hc] at h;simp only[a.2,i,b,if_pos (show X.bad f=false/\args.all idFree=true from⟨a.1,j⟩),h,g.1,g.2,Bool.and_self,if_true]
theorem qz0{fn:Func}{args:List D}{r:D×qe}(e:X.P.funcs[f]?=some fn)(d:fn.body.isSome=true)(a:X.bad f=false)
  (h:jL X f fn.ntmps H.length (vi (Zx fn)) (kr 0 args) H=some r):YO X f args H=some r:=by
 rw[qvr] at h;unfold YO;cases b:fn.body with
 |none=>rw[b] at d;cases d
 |some c=>
  have hc:Zx fn=c:=by simp only[Zx,b,Vm]
  rw[hc] at h;simp only[e,b,a,if_true];exact h
theorem qz1{args:List D}{r:D×qe}(d:X.con f args H=none)(h:YO X f args H=some r):call X f args H=none:=by
 unfold YO at h;split at h
 .rename_i fn b;split at h
  .rename_i c e;split at h
   .rename_i a;rw[qiD d b e a,qi7 h]
   .cases h
  .cases h
 .cases h
end
end Go.Ev
namespace Go.Ev
open Go Go.Proofs
structure Ext (L:List Nat) (H T:qe):Prop where
 len:H.length<=T.length
 out:∀i,i<H.length->i∉L->qd T i=qd H i
theorem Ext.refl(L:List Nat)(H:qe):Ext L H H:=⟨qA _,fun _ _ _=>rfl⟩
def NewL(L M:List Nat)(n:Nat):Prop:=∀i,i∈M->i∈L\/n<=i
theorem NewL.refl(L:List Nat)(n:Nat):NewL L L n:=fun _ h=>.inl h
theorem NewL.trans{L M K:List Nat}{n m:Nat}(h:NewL L M n)(b:NewL M K m)(c:n<=m):NewL L K n:=fun i hi=>by
 rcases b i hi with a|a
 .exact h i a
 .exact .inr (zJ c a)
theorem Ext.trans{L M:List Nat}{H T K:qe}(h:Ext L H T)(a:Ext M T K)(c:NewL L M H.length):Ext L H K:=
 ⟨zJ h.len a.len,fun i hi b=>by
  rw[a.out i (vd hi h.len) fun hc=>(c i hc).elim b fun d=>absurd hi (Nat.not_lt.2 d),h.out i hi b]⟩
theorem Ext.mono{L M:List Nat}{H T:qe}(h:Ext L H T)(a:∀i,i∈L->i∈M):Ext M H T:=⟨h.len,fun i hi b=>h.out i hi fun hc=>b (a i hc)⟩
theorem Ext.get{L:List Nat}{H T:qe}(h:Ext L H T){i:Nat}{ds:List D}(a:qd H i=some ds)(hi:i∉L):qd T i=some ds:=by
 rw[h.out i (qx a) hi,a]
theorem Ext.new(H:qe)(ds:List D):Ext [] H (qr H ds):=⟨wW,fun i hi _=>vv hi⟩
theorem Ext.set(H:qe)(i:Nat)(ds:List D):Ext [i] H (qn H i ds):=⟨by rw[kL];omega,fun j _ a=>zV wZ⟩
theorem Ext.app(H L:qe):Ext [] H (H++L):=⟨wE,fun i hi _=>qez hi⟩
theorem Ext.lt{L:List Nat}{H T:qe}(h:Ext L H T){i:Nat}(hi:i<H.length):i<T.length:=vd hi h.len
theorem qdl{H:qe}{i:Nat}{ds:List D}(h:qd H i=some ds):qn H i ds=H:=by
 have a:=qx h;unfold qn;apply List.ext_getElem?;intro j;rw[List.getElem?_set];by_cases b:i=j
 .subst b;unfold qd at h;rw[qM a] at h;simp only[Vm] at h;rw[if_pos rfl,if_pos a,qM a,h]
 .rw[if_neg b]
def RowA(H:qe)(k:Nat)(v:D)(cs:List D)(L:List Nat):Prop:=
 (v=.vsl true [] 0/\cs=[]/\L=[])\/∃r n,v=.osl r cs.length 0 n k/\cs.length=n*k/\qd H r=some cs/\L=[r]
theorem RowA.nil(H:qe)(k:Nat):RowA H k (.vsl true [] 0) [] []:=.inl ⟨rfl,rfl,rfl⟩
theorem RowA.ext{H T:qe}{k:Nat}{v:D}{cs:List D}{L M:List Nat}(h:RowA H k v cs L)(a:Ext M H T)(e:∀i,i∈L->i∉M):RowA T k v cs L:=by
 rcases h with h|⟨r,n,d,c,b,rfl⟩
 .exact .inl h
 .exact .inr ⟨r,n,d,c,a.get b (e r wE),rfl⟩
theorem RowA.lt{H:qe}{k:Nat}{v:D}{cs:List D}{L:List Nat}(h:RowA H k v cs L){i:Nat}(hi:i∈L):i<H.length:=by
 rcases h with⟨_,_,rfl⟩|⟨r,n,c,b,a,rfl⟩
 .simp at hi
 .rw[List.mem_singleton.1 hi];exact qx a
theorem RowA.append{P:Program}{H:qe}{st xt e:TypeId}{k:Nat}{v x:D}{cs xs:List D}{L:List Nat}{m:Nat}(h:RowA H k v cs L)(f:P.underlying st=some (.slice e))(s:qw P e=k)
  (q:qcL P H e xt x=some (xs,m)) (a:(VG P e 0).isSome=true) (t:m≠0) (l:xs.length=m*k) (u:0<k) (d:(cs.length+m)*bytesOf P e<=qF) (c:cs.length+m<=qF):
  ∃j T p,qJ P H st xt v x=some (j,T)/\RowA T k j (cs++xs) p/\Ext L H T/\NewL L p H.length:=by
 obtain⟨z,a⟩:=Option.isSome_iff_exists.1 a;rcases h with⟨rfl,rfl,rfl⟩|⟨r,n,rfl,b,g,rfl⟩
 .simp only[kt,J3] at d c;refine⟨.osl H.length xs.length 0 m k,qr H xs,[H.length],?_,.inr ⟨H.length,m,?_,?_,?_,rfl⟩,Ext.new H xs,fun i hi=>.inr (Nat.le_of_eq (List.mem_singleton.1 hi).symm)⟩
  .unfold qJ;simp only[f,s,q,a,if_neg t,if_pos (show m*bytesOf P e<=qF/\m<=qF from⟨d,c⟩)]
  .simp
  .simpa using l
  .simp
 .have o:n+m<=cs.length+m:=by
   rw[b];have:=Nat.le_mul_of_pos_right n u;omega
  refine⟨.osl r (cs.length+xs.length) 0 (n+m) k,qn H r (cs++xs),[r],?_,.inr ⟨r,n+m,?_,?_,?_,rfl⟩,Ext.set H r _,NewL.refl _ _⟩
  .unfold qJ;simp only[f,s,q,a,g];rw[if_pos ⟨trivial,trivial,b.symm,zJ (qb0 _ o) d,zJ o c⟩]
  .rw[zo]
  .rw[zo,b,l,ZH]
  .exact zj (qx g)
theorem RowA.own{H:qe}{k:Nat}{v:D}{cs:List D}{L:List Nat}(h:RowA H k v cs L)(hc:cs≠[]):∃r n,v=.osl r cs.length 0 n k/\cs.length=n*k/\qd H r=some cs/\L=[r]:=by
 rcases h with⟨_,a,_⟩|h
 .exact absurd a hc
 .exact h
theorem RowA.of{H:qe}{k r n:Nat}{cs:List D}(b:cs.length=n*k)(a:qd H r=some cs):RowA H k (.osl r cs.length 0 n k) cs [r]:=.inr ⟨r,n,rfl,b,a,rfl⟩
theorem j6{X:Cx}{f:Nat}{H:qe}{fn:Func}{args:List D}{r:D×qe}(b:X.P.funcs[f]?=some fn)(e:fn.body.isSome=true)(a:X.bad f=false/\X.con f args H=none)
  (h:Run X f fn.ntmps H.length (qiS X (X.fzr f) fn.results.toList (· =r)) [] (zk X f fn.ntmps H.length (vi (Zx fn)) (kr 0 args) H)) (c:(X.gr f&&X.byRef f)=true:=by rfl):call X f args H=some r:=by
 obtain⟨g,d,rfl⟩:=vx (· =r) b e a h c;exact d
theorem qz(a b:Int)(h:(-9223372036854775808<=a/\a<9223372036854775808)/\a=b:=by omega):IntKind.i64.wrap a=b:=by rw[wrap_i64 h.1,h.2]
theorem zf(a b:Int)(h:(0<=a/\a<18446744073709551616)/\a=b:=by omega):IntKind.u64.wrap a=b:=by rw[qcC h.1,h.2]
theorem qdX(a b:Int)(h:(0<=a/\a<4294967296)/\a=b:=by omega):IntKind.u32.wrap a=b:=by rw[qjd h.1,h.2]
theorem zu8(a b:Int)(h:(0<=a/\a<256)/\a=b:=by omega):IntKind.u8.wrap a=b:=by rw[qeO h.1,h.2]
theorem ql{α:Type}(e:α):∃x,e=x:=⟨e,rfl⟩
theorem zL{H K:qe}{l:List D}(h:qr H l=K):Ext [] H K:=h▸Ext.new H _
theorem vZ{H K:qe}{q:Nat}{l:List D}(h:qn H q l=K):Ext [q] H K:=h▸Ext.set H q _
theorem js{H K:qe}{l:List D}(h:qr H l=K):qd K H.length=some l:=by rw[<-h,zF]
theorem vV{H K:qe}{q:Nat}{l m:List D}(h:qn H q l=K)(g:qd H q=some m):qd K q=some l:=by rw[<-h];exact zj (qx g)
theorem zfl{l:List D}(h:l.all idFree=true):idFree.idFreeL l=true:=by rw[Q0];exact h
theorem zfa{l:List D}(h:l.all idFree=true):(∀x,x∈l->idFree x=true)=True:=eq_true (List.all_eq_true.1 h)
theorem zfb{l:List D}(h:idFree.idFreeL l=true):(∀x,x∈l->idFree x=true)=True:=zfa (by rw[<-Q0];exact h)
theorem zca{l:List D}(h:l.all idFree=true)(n:Nat):(∀x,x∈l->closed n x=true)=True:=eq_true fun x hx=>qi9 n x (List.all_eq_true.1 h x hx)
theorem zcb{l:List D}(h:idFree.idFreeL l=true)(n:Nat):(∀x,x∈l->closed n x=true)=True:=zca (by rw[<-Q0];exact h) n
theorem zsh{l:List D}(h:idFree.idFreeL l=true)(n:Nat):shift.shiftL n l=l:=qcM n l h
theorem VH{a b:Int}(h:a≠b:=by omega):(a !=b)=true:=by simp only[bne_iff_ne,ne_eq];exact h
theorem zq{a b:Nat}(h:a<b):(a:Int)<(b:Int):=wC
theorem zw{a b:Nat}(h:¬a<b):¬(a:Int)<(b:Int):=wC
def Zq(x y:List UInt8):Bool:=decide (x<=y)
def vN(l:List (List UInt8)):List (List UInt8):=l.mergeSort Zq
theorem q1e(a b c:List UInt8)(e:Zq a b=true)(d:Zq b c=true):Zq a c=true:=by
 simp only[Zq,decide_eq_true_eq] at *;exact List.le_trans e d
theorem q1f(a b:List UInt8):(Zq a b||Zq b a)=true:=by
 simp only[Zq,qdV,decide_eq_true_eq];exact List.le_total a b
theorem q1g(a b:List UInt8)(d:Zq a b=true)(c:Zq b a=true):a=b:=by
 simp only[Zq,decide_eq_true_eq] at d c;exact List.le_antisymm d c
theorem qhl(l:List (List UInt8)):(vN l).Perm l:=List.mergeSort_perm l Zq
@[simp] theorem qx5 (l:List (List UInt8)):(vN l).length=l.length:=(qhl l).length_eq
theorem sortL_mem{l:List (List UInt8)}{x:List UInt8}:x∈vN l↔x∈l:=(qhl l).mem_iff
theorem qmP(l:List (List UInt8)):(vN l).Pairwise fun a b=>Zq a b=true:=List.pairwise_mergeSort q1e q1f l
theorem qx2{a b:List (List UInt8)}(d:a.Pairwise fun a b=>Zq a b=true)(f:b.Pairwise fun a b=>Zq a b=true)(h:a.Perm b):a=b:=
 List.Perm.eq_of_pairwise (le:=fun a b=>Zq a b=true) (fun a b _ _ e c=>q1g a b e c) d f h
end Go.Ev
namespace Go.Ev
open Go Go.Proofs Go.RowKit Go.Shelf Go.Sort
def jG(l:List (List UInt8)):List D:=l.map .str
def qcH:List D->Option (List (List UInt8))
 |[]=>some []
 | .str s::l=>(qcH l).map (s:: ·)
 |_=>none
theorem qm6:∀l,qcH (jG l)=some l
 |[]=>rfl
 |s::l=>by simp only[jG,List.map_cons,qcH];rw[show List.map D.str l=jG l from rfl,qm6 l];rfl
theorem qmu:∀{ds l},qcH ds=some l->ds=jG l
 |[],l,h=>by simp only[qcH,qy] at h;subst h;rfl
 |d::ds,l,h=>by
  cases d<;>simp only[qcH] at h<;>try cases h
  cases a:qcH ds with
  |none=>rw[a] at h;cases h
  |some r=>
   rw[a] at h;simp only[jn,qy] at h;subst h;rw[qmu a];rfl
def qgE:List D->qe->Option (D×qe)
 |[.vsl true [] 0],H=>some (.tup [],H)
 |[.osl i st 0 a 1],H=>match qd H i with
  |some ds=>match qcH ds with
   |some l=>if l.length=st/\a=st/\st<4611686018427387904 then some (.tup [],qn H i (jG (vN l))) else none
   |none=>none
  |none=>none
 |_,_=>none
section
variable {X:Cx} {ρ:Ren} {ok:Nat->Prop} {w:World} {ι:qU} {H H':qe} {r:D} {args:List D} {vs:List Value}
theorem qyI{s:List UInt8}{v:Value}(h:Rep ok w ι H (.str s) v):v=encStr s:=by
 cases h;rfl
theorem q5u(L:SlLaysN.n54 X.P ρ)(O:∀args w,(callFunc (ρ.f 54) args).run X.P w=.ok (.enter (ρ.f 54) args) w)(h:qgE args H=some (r,H'))(M:Sim X ok w ι H)(S:RepL ok w ι H args vs):
  Goes X.P (callFunc (ρ.f 54) vs.toArray) w (CallPost X ok w ι H r H'):=by
 unfold qgE at h;split at h
 .injection h with h;injection h with K G;subst K;subst G;obtain⟨v,us,rfl,I,C⟩:=J7 S;cases qcO C;cases I;refine qi4 M (O _ _) ((AnyG.slices_Sort_string_none L none 0 w).mono ?_);rintro e w' ⟨rfl,rfl⟩;exact⟨_,rfl,.tup rfl (fun j d m=>by simp at m),Below.refl _ _⟩
 .rename_i H0 i st F;split at h
  .rename_i ds t;split at h
   .rename_i l hl;split at h
    .rename_i hc;obtain⟨J,rfl,c3⟩:=hc;injection h with h;injection h with K G;subst K;subst G;have E:=qmu hl;subst E;have jv:(jG l).length=F:=(by simp[jG,J]);obtain⟨v,us,rfl,I,C⟩:=J7 S;cases qcO C;cases I with
     | @osl _ _ _ _ _ _ _ c a hi hh zt=>
      obtain⟨b,s,Q,rfl,q3⟩:=(hh _ t).2 jv;obtain⟨b',arr,e2,fr,q,k2,y,T,N,k6,k7,U⟩:=M.blk i _ t;rw[Q] at q;injection q with q;injection q with q A;subst q;subst A;have hb:b<w.heap.size:=(Array.getElem?_eq_some_iff.1 y).1
      have Q7:∀j,j<l.length->arr.getD j undef=encStr (l.getD j []):=by
       intro j m;have:(jG l)[j]?=some (.str (l.getD j [])):=(by simp[jG,m]);exact qyI (U j _ this)
      have V:Holds encStr w b 0 l.toArray:=by
       intro j m;have R:j<l.length:=(by simpa using m);have B:j<arr.size:=wC;refine⟨?_,?_⟩
       .rw[J3,Y6 y,ZJ B];have:=Q7 j R;rw[j8,ZJ B] at this;simp only[Vm] at this;rw[this];simp[R]
       .rw[J3,qij y];have:=qih N j B;simp only[Bool.and_eq_false_iff,decide_eq_false_iff_not];omega
      unfold Goes;rw[O];simp only;have u:(vN l).length=l.length:=(by simp[vN]);have o:=AnyG.slices_Sort_string L b 0 c l w V hb wC;rw[J] at o;refine o.mono ?_;rintro e w' ⟨rfl,n,os,rfl⟩;refine⟨_,rfl,?_⟩;have x:=grownBy_sorted (w:=w) (g:=b) (n:=n) (os:=os) (vN l).toArray;have Z:=heap_sorted (n:=n) (os:=os) (vN l).toArray y;have z:(putCells encStr 0 (vN l).toArray arr).size=arr.size:=by simp[putCells]
      have qd:∀j,j<arr.size->(putCells encStr 0 (vN l).toArray arr).getD j undef=if j<l.length then encStr ((vN l).getD j []) else arr.getD j undef:=by
       intro j m;rw[j8,ZJ wC,j8,ZJ m];simp only[putCells,Array.getElem_mapIdx,Vm];by_cases p:j<l.length
       .have:j<(vN l).length:=wC;simp[p,u]
       .simp[p,u]
      obtain⟨ι',W,s2,s3⟩:=qfR (i:=i) (ds:=jG l) (ds':=jG (vN l)) (b:=b) (sz:=arr.size) (b':=b) (arr':=putCells encStr 0 (vN l).toArray arr) (w':=grow (putRow encStr (Sort.ahead w n) b 0 (vN l).toArray) os) M t Q ⟨x.os,x.tape,x.output⟩ x.size
       (fun c hc Y=>x.block c hc (fun e=>Y (by injection e))) Z (.inl ⟨rfl,z⟩) (by simp[jG,u]) (by rw[z];simpa[jG,u,J] using T) (by rw[z];exact N)
       (fun j m=>by
        rw[z] at m;rw[qd j m];by_cases p:j<l.length
        .rw[if_pos p];rfl
        .rw[if_neg p];exact k6 j m)
       (fun d t=>by
        simp only[jG,ZI] at t;obtain⟨s,_,rfl⟩:=t;rfl)
       (fun j d m=>by
        have p:j<l.length:=by
         have:=(List.getElem?_eq_some_iff.1 m).1;simpa[jG,u] using this
        rw[qd j wC,if_pos p]
        have:(jG (vN l))[j]?=some (.str ((vN l).getD j [])):=by
         unfold jG;rw[Je,jy,qM (show j<(vN l).length from wC)];rfl
        rw[this] at m;injection m with m;subst m;exact .str _)
      refine⟨ι',ok,W,.tup rfl (fun j d m=>by simp at m),s2,fun k ds hk vk=>?_⟩;have:=qx vk;rw[kL] at this;omega
    .cases h
   .cases h
  .cases h
 .cases h
end
end Go.Ev
namespace Go.Ev
open Go Go.Proofs Go.RowKit Go.Shelf
def qex:List D->Option D
 |[x,.int .u8 c]=>(VL x).map fun a=>.int .i64 (QG (UInt8.ofNat c.toNat) (Lib.bytesOf a) 0)
 |_=>none
section
variable {ok:Nat->Prop} {w:World} {ι:qU} {H:qe} {args:List D} {vs:List Value}
theorem q3q{P:Program}{f:Nat}{fn:Func}(hf:P.funcs[f]?=some fn)(hn:fn.body=none)(hng:(fn.name== "runtime.NumGoroutine")=false)
  (h1:Extern.findNext fn=none) (h2:Extern.find fn=some Extern.BytealgIndexByte.indexByte) {d:D}
  (h:qex args=some d) (hv:RepL ok w ι H args vs):∃v,(callFunc f vs.toArray).run P w=.ok (.value v) w/\Rep ok w ι H d v/\idFree d=true:=by
 unfold qex at h;split at h
 .rename_i x c;cases hx:VL x with
  |none=>simp[hx] at h
  |some a=>
   simp only[hx,jn,qy] at h;subst h;obtain⟨u,us,rfl,hu,jE⟩:=J7 hv;obtain⟨v2,us2,rfl,h3,h4⟩:=J7 jE;cases qcO h4;cases h3;refine⟨.int .i64 (QG (UInt8.ofNat c.toNat) (Lib.bytesOf a) 0),?_,.int _ _,rfl⟩;rw[run_callFunc_extern hf hng (by rw[hn];rfl) h1 h2,<-qtc];have hs:=Lib.run_indexByteString (P:=P) ⟨(Lib.bytesOf a).toArray⟩ c w;have hl:=qjx (P:=P) hx hu
   have key:(Extern.BytealgIndexByte.indexByte #[u,.int .u8 c]).run P w=.ok (.int .i64 (Lib.indexByte (Lib.bytesOf a) c.toNat.toUInt8)) w:=by
    change Sem.run P (do
     let b<-Extern.Bytes.bytesOf u
     let c<-Extern.Bytes.asByte (.int .u8 c)
     match(List.range b.size).find? fun i=>b[i]! ==c with
     |some i=>pure (goInt i)
     |none=>pure (goInt (-1))) w=_
    change Sem.run P (do
     let b<-Extern.Bytes.bytesOf (.string ⟨(Lib.bytesOf a).toArray⟩)
     let c<-Extern.Bytes.asByte (.int .u8 c)
     match(List.range b.size).find? fun i=>b[i]! ==c with
     |some i=>pure (goInt i)
     |none=>pure (goInt (-1))) w=_ at hs
    have hstr:(Extern.Bytes.bytesOf (.string ⟨(Lib.bytesOf a).toArray⟩)).run P w=.ok ⟨(Lib.bytesOf a).toArray⟩ w:=rfl;simp only[Sem.run_bind,hl,hstr,Result.andThen] at hs⊢;exact hs
   rw[show([u,Value.int .u8 c]:List Value).toArray= #[u,.int .u8 c] from rfl,key];rfl
 .cases h
end
theorem qx7(s:List UInt8):VL (.vsl false (qf s) s.length)=some (s.map fun b=>(b.toNat:Int)):=by
 simp only[VL,qf,List.length_map,if_true];exact qvB s
theorem q3p(a:Bool)(l:List UInt8)(h:a=true->l=[])(c:Nat):qex [.vsl a (qf l) l.length,.int .u8 c]=some (.int .i64 (QG (UInt8.ofNat c) l 0)):=by
 have d:Lib.bytesOf (l.map fun b=>(b.toNat:Int))=l:=by simp[Lib.bytesOf,List.map_map,Function.comp_def]
 cases a with
 |false=>
  simp only[qex,qx7,jn,d,Int.toNat_natCast]
 |true=>
  obtain rfl:=h rfl;simp[qex,VL,qf,Lib.bytesOf]
end Go.Ev
