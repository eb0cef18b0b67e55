import Derived.WalkKit
import Derived.Scope
import Derived.Laws.AppendOwn
import Derived.Laws.Append
import Derived.Lib.ConvBytes
import Derived.Laws.BytesArg
import Derived.ChangeKeysEq
import Derived.Laws.StructEq
namespace Go
theorem wC{P:Prop}(h:P:=by omega):P:=h
theorem wE{P:Prop}(h:P:=by simp):P:=h
theorem wF{P:Prop}(h:P:=by kernel_rfl):P:=h
theorem wG{P:Prop}(h:P:=by simp;omega):P:=h
theorem wH{P:Prop}(h:P:=by decide):P:=h
theorem wI{P:Prop}(h:P:=by cases h):P:=h
theorem wJ{P:Prop}(h:P:=by simp only;omega):P:=h
theorem wL{P:Prop}(h:P:=by and_intros<;>rfl):P:=h
theorem wM{P:Prop}(h:P:=by simp[qF];omega):P:=h
theorem wO{P:Prop}(h:P:=by simp[Op.operands]):P:=h
theorem wP{P:Prop}(h:P:=by simp at h):P:=h
theorem wQ{P:Prop}(h:P:=by simpa using h):P:=h
theorem wS{P:Prop}(h:P:=by simpa using c):P:=h
theorem wT{P:Prop}(h:P:=by and_intros<;>show _=_<;>kernel_rfl):P:=h
theorem wU{P:Prop}(h:P:=by rw[J];exact a.symm):P:=h
theorem wV{P:Prop}(h:P:=by simp at hi):P:=h
theorem wW{P:Prop}(h:P:=by simp[qf]):P:=h
theorem wX{P:Prop}(h:P:=by rw[jg];omega):P:=h
theorem wY{P:Prop}(h:P:=by simp[execOp,n,B]):P:=h
theorem wZ{P:Prop}(h:P:=by simp[jz,f,g]):P:=h
theorem wo{P:Prop}(h:P:=by simpa using hx):P:=h
theorem wr{P:Prop}(h:P:=by simpa using a):P:=h
theorem wu{P:Prop}(h:P:=by rw[jj];omega):P:=h
theorem wv{P:Prop}(h:P:=by rw[vr];omega):P:=h
theorem ww{P:Prop}(h:P:=by simpa using d):P:=h
theorem xA{P:Prop}(h:P:=by simp[a]):P:=h
theorem xB{P:Prop}(h:P:=by simp at a):P:=h
theorem xC{P:Prop}(h:P:=by simp[idFree]):P:=h
theorem xD{P:Prop}(h:P:=by rw[QP hc hi];omega):P:=h
theorem xE{P:Prop}(h:P:=by simp[Mk.cells]):P:=h
theorem xF{P:Prop}(h:P:=by simpa using g):P:=h
theorem xG{P:Prop}(h:P:=by simp[h]):P:=h
theorem xH{P:Prop}(h:P:=by rw[p]):P:=h
theorem xI{P:Prop}(h:P:=by simp only;rw[List.take_set_of_le (by omega)];exact h.file):P:=h
theorem xJ{P:Prop}(h:P:=by simp only;rw[vI];exact h.len):P:=h
theorem xL{P:Prop}(h:P:=by rw[h.len];omega):P:=h
theorem xM{P:Prop}(h:P:=by simp only[jm,ZB]):P:=h
theorem xN{P:Prop}(h:P:=by rw[qb4];exact vL):P:=h
theorem xO{P:Prop}(h:P:=by simp[Inf.cells]):P:=h
theorem xP{P:Prop}(h:P:=by simp[qd] at a):P:=h
theorem xQ{P:Prop}(h:P:=by simpa using b):P:=h
theorem xR{P:Prop}(h:P:=by simp at y):P:=h
theorem xU{P:Prop}(h:P:=by simp[d]):P:=h
theorem xV{P:Prop}(h:P:=by simp[k]):P:=h
theorem xW{P:Prop}(h:P:=by simp[It.cells,jf,vY]):P:=h
theorem xX{P:Prop}(h:P:=by simp only[qF];omega):P:=h
theorem xY{P:Prop}(h:P:=by simp only;rw[List.getElem?_set_self l]):P:=h
theorem xZ{P:Prop}(h:P:=by rw[<-List.mem_singleton.1 e];exact l):P:=h
theorem xf{P:Prop}(h:P:=by rw[<-List.mem_singleton.1 e];exact i):P:=h
theorem xi{P:Prop}(h:P:=by simp[Qd,idFree,vFree]):P:=h
theorem xj{P:Prop}(h:P:=by simpa[noZ] using h):P:=h
theorem xk{P:Prop}(h:P:=by rw[<-f];exact n):P:=h
theorem xl{P:Prop}(h:P:=by unfold Q9;omega):P:=h
theorem xo{P:Prop}(h:P:=by simpa using f):P:=h
theorem xp{P:Prop}(h:P:=by simp[Mk.cells,jf,vY]):P:=h
theorem xq{P:Prop}(h:P:=by simp[FSv.names,hc]):P:=h
theorem xr{P:Prop}(h:P:=by simp[HdP.cells]):P:=h
theorem xu{P:Prop}(h:P:=by simp[idFree,qW]):P:=h
theorem xw{P:Prop}(h:P:=by simpa using hi):P:=h
theorem xy{P:Prop}(h:P:=by obtain⟨x,hx,f⟩:=h.c141;exact⟨x,d (by omega) hx,f⟩):P:=h
theorem yA{P:Prop}(h:P:=by obtain⟨x,hx,f⟩:=h.c142;exact⟨x,d (by omega) hx,f⟩):P:=h
theorem yB{P:Prop}(h:P:=by rw[QU];simp[jf,List.drop_of_length_le,la,lb,ls]):P:=h
theorem yC{P:Prop}(h:P:=by simp only[jz];rw[vJ (by omega),k];simp[m,n,o]):P:=h
theorem yD{P:Prop}(h:P:=by(try simp only[aheadL,dsh,behindL,jA,kf]);omega):P:=h
theorem yE{P:Prop}(h:P:=by rw[<-List.mem_singleton.1 e];exact k):P:=h
theorem yF{P:Prop}(h:P:=by rw[List.mem_singleton.1 hi];exact VV):P:=h
theorem yG{P:Prop}(h:P:=by rw[<-List.mem_singleton.1 e];exact g):P:=h
theorem yH{P:Prop}(h:P:=by(try simp only[dsh,jA,kf]);omega):P:=h
theorem yI{P:Prop}(h:P:=by rw[kt,Nat.one_mul,Nat.add_comm]):P:=h
theorem yJ{P:Prop}(h:P:=by unfold jx Vi;simp only;omega):P:=h
theorem yK{P:Prop}(h:P:=by simp[NxV.c,KP,Yh,jf,vY,li]):P:=h
theorem yL{P:Prop}(h:P:=by rw[Vo];exact vu (by omega)):P:=h
theorem yM{P:Prop}(h:P:=by rw[<-Q];exact zk (qx XQ)):P:=h
theorem yN{P:Prop}(h:P:=by rw[<-Z];exact zk (qx k1)):P:=h
theorem yO{P:Prop}(h:P:=by simpa[idFree] using h):P:=h
theorem yP{P:Prop}(h:P:=by unfold ZJ;rw[e];rfl):P:=h
theorem yQ{P:Prop}(h:P:=by simp only[a];omega):P:=h
theorem yR{P:Prop}(h:P:=by simp[Builtin.len_,b,c,run_underlying a,goInt]):P:=h
theorem yS{P:Prop}(h:P:=by simp only[zf,Xs,hc];cases X.dynV<;>rfl):P:=h
theorem yT{P:Prop}(h:P:=by simp only;rw[List.getElem?_set_self p]):P:=h
theorem yU{P:Prop}(h:P:=by rw[<-Array.getElem?_toList,e];rfl):P:=h
theorem yV{P:Prop}(h:P:=by unfold World.freeze;split<;>rfl):P:=h
theorem yW{P:Prop}(h:P:=by simp[Act.eval,Array.replicate]):P:=h
theorem yX{P:Prop}(h:P:=by by_cases l:k=0;exact .inl ⟨eq_true l,eq_false (by omega)⟩;exact .inr ⟨eq_false l,eq_true (by omega)⟩):P:=h
theorem yY{P:Prop}(h:P:=by have:=YM n (show 256>0 by decide);simp only[UInt8.size];omega):P:=h
theorem yZ{P:Prop}(h:P:=by intro h;have:=congrArg List.length h;simp at this;exact c this):P:=h
theorem ya{P:Prop}(h:P:=by obtain⟨b,s,p,y⟩:=x e;exact⟨b,s,by rw[B _ hi];exact p,y⟩):P:=h
end Go
namespace Go.Ev
theorem j7:type_of% @Array.getD_eq_getD_getElem?:=@Array.getD_eq_getD_getElem?
theorem qhb:type_of% @Array.getElem?_append_left:=@Array.getElem?_append_left
theorem ZN:type_of% @Array.getElem?_eq_getElem:=@Array.getElem?_eq_getElem
theorem qfI:type_of% @Array.getElem?_eq_none:=@Array.getElem?_eq_none
theorem qlX:type_of% @Array.getElem?_modify:=@Array.getElem?_modify
theorem qiW:type_of% @Array.getElem?_replicate:=@Array.getElem?_replicate
theorem qfH:type_of% @Array.getElem?_setIfInBounds_ne:=@Array.getElem?_setIfInBounds_ne
theorem qiV:type_of% @BitVec.ofInt_natCast:=@BitVec.ofInt_natCast
theorem qiU:type_of% @BitVec.toNat_ofNat:=@BitVec.toNat_ofNat
theorem zX:type_of% @Bool.and_eq_true:=@Bool.and_eq_true
theorem qbA:type_of% @Bool.false_and:=@Bool.false_and
theorem kZ:type_of% @Bool.false_eq_true:=@Bool.false_eq_true
theorem qeH:type_of% @Bool.or_eq_true:=@Bool.or_eq_true
theorem Yd:type_of% @Bool.true_and:=@Bool.true_and
theorem Vc:type_of% @List.all_cons:=@List.all_cons
theorem qgX:type_of% @List.all_eq_true:=@List.all_eq_true
theorem jY:type_of% @List.append_assoc:=@List.append_assoc
theorem Jd:type_of% @List.append_nil:=@List.append_nil
theorem qaB:type_of% @List.cons.injEq:=@List.cons.injEq
theorem kC:type_of% @List.cons_append:=@List.cons_append
theorem jf:type_of% @List.drop_append:=@List.drop_append
theorem ky:type_of% @List.drop_drop:=@List.drop_drop
theorem zZ:type_of% @List.drop_eq_getElem_cons:=@List.drop_eq_getElem_cons
theorem Jc:type_of% @List.drop_eq_nil_of_le:=@List.drop_eq_nil_of_le
theorem KH:type_of% @List.drop_left':=@List.drop_left'
theorem kx:type_of% @List.eq_nil_of_length_eq_zero:=@List.eq_nil_of_length_eq_zero
theorem qlU:type_of% @List.flatten_cons:=@List.flatten_cons
theorem jv:type_of% @List.getD_eq_getElem?_getD:=@List.getD_eq_getElem?_getD
theorem vJ:type_of% @List.getElem?_append_left:=@List.getElem?_append_left
theorem jn:type_of% @List.getElem?_append_right:=@List.getElem?_append_right
theorem qeF:type_of% @List.getElem?_cons_succ:=@List.getElem?_cons_succ
theorem kY:type_of% @List.getElem?_cons_zero:=@List.getElem?_cons_zero
theorem kX:type_of% @List.getElem?_drop:=@List.getElem?_drop
theorem qN:type_of% @List.getElem?_eq_getElem:=@List.getElem?_eq_getElem
theorem Vb:type_of% @List.getElem?_map:=@List.getElem?_map
theorem Xw:type_of% @List.getElem?_take:=@List.getElem?_take
theorem vQ:type_of% @List.getElem_mem:=@List.getElem_mem
theorem zp:type_of% @List.length_append:=@List.length_append
theorem jA:type_of% @List.length_cons:=@List.length_cons
theorem vr:type_of% @List.length_drop:=@List.length_drop
theorem kf:type_of% @List.length_nil:=@List.length_nil
theorem vI:type_of% @List.length_set:=@List.length_set
theorem jj:type_of% @List.length_take:=@List.length_take
theorem vj:type_of% @List.mem_append:=@List.mem_append
theorem qaA:type_of% @List.mem_append_left:=@List.mem_append_left
theorem jI:type_of% @List.mem_cons:=@List.mem_cons
theorem vq:type_of% @List.mem_cons_of_mem:=@List.mem_cons_of_mem
theorem Z1:type_of% @List.mem_cons_self:=@List.mem_cons_self
theorem ZM:type_of% @List.mem_map:=@List.mem_map
theorem jH:type_of% @List.mem_of_getElem?:=@List.mem_of_getElem?
theorem Z0:type_of% @List.mem_of_mem_drop:=@List.mem_of_mem_drop
theorem QZ:type_of% @List.mem_of_mem_take:=@List.mem_of_mem_take
theorem qcH:type_of% @List.mem_or_eq_of_mem_set:=@List.mem_or_eq_of_mem_set
theorem qfG:type_of% @List.mem_singleton:=@List.mem_singleton
theorem QY:type_of% @List.nil_append:=@List.nil_append
theorem qdS:type_of% @List.replicate_succ:=@List.replicate_succ
theorem qgW:type_of% @List.set_eq_take_append_cons_drop:=@List.set_eq_take_append_cons_drop
theorem Zp:type_of% @List.take_append:=@List.take_append
theorem ZK:type_of% @List.take_append_drop:=@List.take_append_drop
theorem qJ:type_of% @List.take_of_length_le:=@List.take_of_length_le
theorem Vs:type_of% @List.take_succ_eq_append_getElem:=@List.take_succ_eq_append_getElem
theorem qgV:type_of% @Nat.add_assoc:=@Nat.add_assoc
theorem kt:type_of% @Nat.add_mul:=@Nat.add_mul
theorem qfF:type_of% @Nat.le_of_lt:=@Nat.le_of_lt
theorem qA:type_of% @Nat.le_refl:=@Nat.le_refl
theorem zI:type_of% @Nat.le_trans:=@Nat.le_trans
theorem vh:type_of% @Nat.lt_of_lt_of_le:=@Nat.lt_of_lt_of_le
theorem KE:type_of% @Nat.lt_or_ge:=@Nat.lt_or_ge
theorem qeE:type_of% @Nat.mod_eq_of_lt:=@Nat.mod_eq_of_lt
theorem YM:type_of% @Nat.mod_lt:=@Nat.mod_lt
theorem qb9:type_of% @Nat.mul_le_mul_right:=@Nat.mul_le_mul_right
theorem Jb:type_of% @Nat.ne_of_lt:=@Nat.ne_of_lt
theorem qfE:type_of% @Nat.pow_le_pow_right:=@Nat.pow_le_pow_right
theorem qeD:type_of% @Nat.pow_succ:=@Nat.pow_succ
theorem J3:type_of% @Nat.zero_add:=@Nat.zero_add
theorem vg:type_of% @Nat.zero_le:=@Nat.zero_le
theorem qa9:type_of% @Option.bind_some:=@Option.bind_some
theorem Va:type_of% @Option.getD_some:=@Option.getD_some
theorem KD:type_of% @Option.map_eq_some_iff:=@Option.map_eq_some_iff
theorem j6:type_of% @Option.map_some:=@Option.map_some
theorem qy:type_of% @Option.some.injEq:=@Option.some.injEq
theorem zj:type_of% @Prod.mk.injEq:=@Prod.mk.injEq
theorem qfD:type_of% @UInt8.toNat_ofNat_of_lt':=@UInt8.toNat_ofNat_of_lt'
inductive D where
 |bool (b:Bool)
 |int (k:IntKind) (n:Int)
 |str (s:List UInt8)
 |nilp
 |nilf
 |nili
 |agg (cs:List D)
 |tup (cs:List D)
 |vptr (cs:List D)
 |optr (id st off:Nat)
 |vsl (nil:Bool) (cs:List D) (len:Nat)
 |osl (id st off len k:Nat)
 |fn (f:Nat) (caps:List D)
 |iface (t:Nat) (d:D)
 |raw (v:Value)
 deriving Inhabited
abbrev qe:=List (Option (List D))
abbrev qu:=List (Nat×D)
def qd(H:qe)(i:Nat):Option (List D):=(H[i]?).getD none
def qn(H:qe)(i:Nat)(ds:List D):qe:=H.set i (some ds)
def qi:qu->Nat->Option D
 |[],_=>none
 |(s,d)::e,t=>if s=t then some d else qi e t
def jP(e:qu):Option Tmp->D->qu
 |none,_=>e
 |some t,d=>(t,d)::e
def qel:Value->Option D
 | .bool b=>some (.bool b)
 | .int k n=>some (.int k n)
 | .string s=>some (.str s.data.toList)
 | .pointer none=>some .nilp
 | .slice none 0 0=>some (.vsl true [] 0)
 | .nilFunc=>some .nilf
 | .nilIface=>some .nili
 |_=>none
def qek:List Value->Option (List D)
 |[]=>some []
 |v::l=>match qel v,qek l with
  |some d,some ds=>some (d::ds)
  |_,_=>none
def qgg:Value->Option D
 | .agg cs=>(qek cs.toList).map .agg
 |v=>qel v
structure Cx where
 P:Program
 /-- what the package-level variables hold that are read -/
 glob:Nat->Option (List D)
 /-- function,region: the slots that are kept at its head,and how many blocks of the call's own -/
 keep:Nat->Nat->Option (List Nat×Nat)
 /-- functions that work on their caller's own memory -/
 byRef:Nat->Bool
 /-- functions that make nothing and are handed nothing of the run's own -/
 pureF:Nat->Bool
 /-- functions without a body -/
 ext:Nat->List D->Option D
 /-- functions that are not taken -/
 bad:Nat->Bool
 /-- function,region: the slots that are told by value for good at its head -/
 frz:Nat->Nat->List Nat
 /-- function,region: slots whose blocks alone are kept at its head -/
 ret:Nat->Nat->List Nat
 /-- functions whose result is told by value for good -/
 fzr:Nat->Bool
 /-- functions that are met by a contract -/
 con:Nat->List D->qe->Option (D×qe)
 /-- functions to which what is handed is told by value for good -/
 perm:Nat->Bool
 /-- in a region that draws its order,a function value must be one that makes nothing -/
 dynV:Bool
 /-- function,region: texts of bytes and of slices are told by value there,though it draws no order -/
 cv:Nat->Nat->Bool:=fun _ _=>false
 frb:Nat->Nat->List Nat:=fun _ _=>[]
 /-- function,region that draws its order: places of what writes and what reads that no order binds,looked at as they run;slots of texts that are the run's own (the others are told by value) -/
 lp:Nat->Nat->Option (List (Nat×Nat)×List Nat):=fun _ _=>none
 /-- functions (of byRef) that are run on their first argument's block alone -/
 loc:Nat->Bool:=fun _=>false
 /-- functions (of loc) that are run on their first argument's block and those that it names -/
 lom:Nat->Bool:=fun _=>false
 /-- function,region that draws its order: a variable's place that no order binds to what writes ahead of it -/
 al:Nat->Nat->Option Nat:=fun _ _=>none
 /-- functions (of byRef) that are run on all blocks that can be come to from what they are handed -/
 gr:Nat->Bool:=fun _=>false
def qZ(X:Cx)(e:qu):Operand->Option D
 | .tmp t=>qi e t
 | .const v=>qgg v
 | .func f=>some (.fn f [])
 | .global g=>(X.glob g).map .vptr
def idFree:D->Bool
 | .agg cs| .tup cs| .fn _ cs=>idFreeL cs
 | .iface _ d=>idFree d
 | .optr .. | .osl ..=>false
 |_=>true
where idFreeL:List D->Bool
 |[]=>true
 |d::l=>idFree d&&idFreeL l
def vFree:D->Bool
 | .agg cs| .tup cs| .fn _ cs=>vFreeL cs
 | .iface _ d=>vFree d
 | .vptr ..=>false
 | .vsl n _ _=>n
 |_=>true
where vFreeL:List D->Bool
 |[]=>true
 |d::l=>vFree d&&vFreeL l
def closed(n:Nat):D->Bool
 | .agg cs| .tup cs| .fn _ cs=>closedL n cs
 | .iface _ d=>closed n d
 | .optr i _ _| .osl i _ _ _ _=>decide (i<n)
 |_=>true
where closedL (n:Nat):List D->Bool
 |[]=>true
 |d::l=>closed n d&&closedL n l
def qw(P:Program)(t:TypeId):Nat:=((P.info? t).map (·.size)).getD 0
def bytesOf(P:Program)(t:TypeId):Nat:=((P.info? t).map (·.bytes)).getD 0
def Xy(P:Program)(t:TypeId):Option D:=((P.info? t).bind (·.zero)).bind qgg
def KC(P:Program)(t:TypeId):Option Bool:=
 match P.underlying t with
 |some (.struct _)|some (.array _ _)=>some true
 |some _=>some false
 |none=>none
def cellsOf:D->Option (List D)
 | .agg cs=>some cs
 | .tup _| .raw _=>none
 |d=>some [d]
def mem(H:qe):D->Option (List D)
 | .vptr cs=>some cs
 | .optr i st off=>match qd H i with
  |some ds=>if ds.length=st then some (ds.drop off) else none
  |none=>none
 |_=>none
def ldD(P:Program)(H:qe)(t:TypeId)(p:D):Option D:=
 match KC P t,mem H p with
 |some true,some cs=>if qw P t<=cs.length then some (.agg (cs.take (qw P t))) else none
 |some false,some (d::_)=>some d
 |_,_=>none
def zU(ds:List D)(off:Nat)(xs:List D):List D:=ds.take off++xs++ds.drop (off+xs.length)
def stD(P:Program)(H:qe)(t:TypeId)(p x:D):Option qe:=
 match p,cellsOf x with
 | .optr i st off,some xs=>match qd H i with
  |some ds=>if ds.length=st/\xs.length=qw P t/\0<qw P t/\off+xs.length<=ds.length/\xs.all (closed H.length) then some (qn H i (zU ds off xs)) else none
  |none=>none
 |_,_=>none
def YQ(H:qe)(k:Nat):D->Option (List D×Nat)
 | .vsl _ cs a=>if cs.length=a*k then some (cs,a) else none
 | .osl i st off a k'=>match qd H i with
  |some ds=>if ds.length=st/\k'=k/\off+a*k<=ds.length then some ((ds.drop off).take (a*k),a) else none
  |none=>none
 |_=>none
def qg4(P:Program)(s:TypeId)(f:Nat):Option Field:=
 match P.underlying s with
 |some (.struct fs)=>fs[f]?
 |_=>none
def qgb(k:Nat):D->Option D
 | .vptr cs=>some (.vptr (cs.drop k))
 | .optr i st off=>some (.optr i st (off+k))
 |_=>none
def qip(P:Program)(s:TypeId)(p:D)(f:Nat):Option D:=
 match qg4 P s f with
 |some a=>if qw P a.type=0 then none else qgb a.offset p
 |none=>none
def qaR(P:Program)(t:TypeId)(cs:List D)(off:Nat):Option D:=
 match KC P t with
 |some true=>if off+qw P t<=cs.length then some (.agg ((cs.drop off).take (qw P t))) else none
 |some false=>cs[off]?
 |none=>none
def qio(P:Program)(s:TypeId)(x:D)(f:Nat):Option D:=
 match qg4 P s f,x with
 |some a,.agg cs=>qaR P a.type cs a.offset
 |_,_=>none
def qhY(P:Program)(t:TypeId)(x i:D):Option D:=
 match P.underlying t,x,i with
 |some (.array n e),p,.int _ i=>if 0<=i/\i<n/\0<qw P e then qgb (i.toNat*qw P e) p else none
 |some (.slice e),.vsl false cs a,.int _ i=>if 0<=i/\i<a/\0<qw P e then some (.vptr (cs.drop (i.toNat*qw P e))) else none
 |some (.slice e),.osl id st off a _,.int _ i=>if 0<=i/\i<a/\0<qw P e then some (.optr id st (off+i.toNat*qw P e)) else none
 |_,_,_=>none
def qhX(P:Program)(t:TypeId)(x i:D):Option D:=
 match P.underlying t,x,i with
 |some (.array n e),.agg cs,.int _ i=>if 0<=i/\i<n then qaR P e cs (i.toNat*qw P e) else none
 |some .string,.str s,.int _ i=>if 0<=i then(s[i.toNat]?).map fun b=>.int .u8 b.toNat else none
 |_,_,_=>none
def qdM(n:Nat):Option D->Option D->Option (Nat×Nat)
 |none,none=>some (0,n)
 |some (.int _ l),none=>if 0<=l/\l<=n then some (l.toNat,n) else none
 |none,some (.int _ h)=>if 0<=h/\h<=n then some (0,h.toNat) else none
 |some (.int _ l),some (.int _ h)=>if 0<=h/\h<=n/\0<=l/\l<=h then some (l.toNat,h.toNat) else none
 |_,_=>none
def qaJ(P:Program)(t:TypeId)(x:D)(b hi:Option D):Option D:=
 match P.underlying t,x with
 |some .string,.str s=>match qdM s.length b hi with
  |some (l,h)=>some (.str ((s.drop l).take (h-l)))
  |none=>none
 |some (.slice e),.vsl nil cs a=>match qdM a b hi with
  |some (l,h)=>if cs.length=a*qw P e/\0<qw P e then some (.vsl nil ((cs.drop (l*qw P e)).take ((h-l)*qw P e)) (h-l)) else none
  |none=>none
 |some (.slice e),.osl id st off a k=>match qdM a b hi with
  |some (l,h)=>if k=qw P e/\0<k/\(l=0\/l<a) then some (.osl id st (off+l*k) (h-l) k) else none
  |none=>none
 |some (.array n e),.vptr cs=>match qdM n b hi with
  |some (l,h)=>if h*qw P e<=cs.length/\0<qw P e/\(l=0\/l<n) then some (.vsl false ((cs.drop (l*qw P e)).take ((h-l)*qw P e)) (h-l)) else none
  |none=>none
 |some (.array n e),.optr id st off=>match qdM n b hi with
  |some (l,h)=>if(l=0\/l<n)/\off+n*qw P e<=st/\0<qw P e then some (.osl id st (off+l*qw P e) (h-l) (qw P e)) else none
  |none=>none
 |_,_=>none
def YK(k:IntKind)(a b:Int):Int:=k.wrap (BitVec.ofInt k.bits a&&&BitVec.ofInt k.bits b).toNat
def Vx(k:IntKind)(a b:Int):Int:=k.wrap (BitVec.ofInt k.bits a|||BitVec.ofInt k.bits b).toNat
def qO(k:IntKind)(a b:Int):Int:=k.wrap (BitVec.ofInt k.bits a^^^BitVec.ofInt k.bits b).toNat
def qe9(k:IntKind)(a b:Int):Int:=k.wrap (BitVec.ofInt k.bits a&&& ~~~BitVec.ofInt k.bits b).toNat
def jQ(op:BinOp)(k:IntKind)(a b:Int):Option D:=
 match op with
 | .add=>some (.int k (k.wrap (a+b)))
 | .sub=>some (.int k (k.wrap (a-b)))
 | .mul=>some (.int k (k.wrap (a*b)))
 | .quo=>if b=0 then none else some (.int k (k.wrap (a.tdiv b)))
 | .rem=>if b=0 then none else some (.int k (a.tmod b))
 | .and=>some (.int k (YK k a b))
 | .or=>some (.int k (Vx k a b))
 | .xor=>some (.int k (qO k a b))
 | .andNot=>some (.int k (qe9 k a b))
 | .eql=>some (.bool (a==b))
 | .neq=>some (.bool (a !=b))
 | .lss=>some (.bool (decide (a<b)))
 | .leq=>some (.bool (decide (a<=b)))
 | .gtr=>some (.bool (decide (a>b)))
 | .geq=>some (.bool (decide (a>=b)))
 |_=>none
def qfT(op:BinOp)(k:IntKind)(a b:Int):Option D:=
 if b<0 then none else
 match op with
 | .shl=>some (.int k (k.wrap (a*2^(min b.toNat k.bits))))
 | .shr=>some (.int k (a.fdiv (2^(min b.toNat k.bits))))
 |_=>none
def strD(op:BinOp)(x y:List UInt8):Option D:=
 match op with
 | .add=>if x.length+y.length<=4611686018427387904 then some (.str (x++y)) else none
 | .eql=>some (.bool (x==y))
 | .neq=>some (.bool !(x==y))
 | .lss=>some (.bool (Op.bytesLess x y))
 | .leq=>some (.bool (Op.bytesLess x y||x==y))
 | .gtr=>some (.bool !(Op.bytesLess x y||x==y))
 | .geq=>some (.bool !(Op.bytesLess x y))
 |_=>none
inductive CK where
 |b|i|s
 deriving DecidableEq
def qgO:CK->D->D->Option Bool
 | .i,.int k a,.int k' b=>if k=k' then some (a==b) else none
 | .b,.bool a,.bool b=>some (a==b)
 | .s,.str a,.str b=>some (a==b)
 |_,_,_=>none
def ZH:List CK->List D->List D->Option Bool
 |[],[],[]=>some true
 |k::ks,x::xs,y::c=>match qgO k x y,ZH ks xs c with
  |some a,some b=>some (a&&b)
  |_,_=>none
 |_,_,_=>none
def qcW(P:Program)(g:TypeId->Option (List CK)):List Field->List CK->Option (List CK)
 |[],acc=>some acc
 |f::fs,acc=>match g f.type with
  |some ks=>if f.offset=acc.length/\f.name≠ "_" /\qw P f.type=ks.length/\0<ks.length then qcW P g fs (acc++ks) else none
  |none=>none
def ZQ(P:Program):Nat->TypeId->Option (List CK)
 |0,_=>none
 |d+1,t=>match P.underlying t with
  |some .bool=>some [.b]
  |some (.int _)=>some [.i]
  |some .string=>some [.s]
  |some (.array n e)=>match ZQ P d e with
   |some ks=>if qw P e=ks.length/\0<ks.length then some (List.replicate n ks).flatten else none
   |none=>none
  |some (.struct fs)=>if P.stoodInHeld t then none else qcW P (ZQ P d) fs.toList []
  |_=>none
def q29:D->Option Bool
 | .vsl n _ _=>some n
 | .osl ..=>some false
 |_=>none
def KW:Operand->Bool
 | .const _=>true
 |_=>false
def ql6(P:Program)(t:TypeId):Bool:=((P.info? t).map (·.comparable)).getD false
def eqD(P:Program)(t:TypeId)(cst:Bool)(x y:D):Option Bool:=
 match x,y with
 | .bool a,.bool b=>match P.underlying t with
  |some .bool=>some (a==b)
  |_=>none
 | .agg xs,.agg c=>match ZQ P 50 t with
  |some ks=>if KC P t=some true/\P.eqGuardType P.depth t=false then ZH ks xs c else none
  |none=>none
 | .vsl true _ _,.vsl n _ _=>match P.underlying t with
  |some (.slice _)=>some n
  |_=>none
 | .vsl n _ _,.vsl true _ _=>match P.underlying t with
  |some (.slice _)=>some n
  |_=>none
 | .osl ..,.vsl true _ _=>match P.underlying t with
  |some (.slice _)=>some false
  |_=>none
 | .nili,.nili=>match P.underlying t with
  |some (.interface _)=>if cst then some true else none
  |_=>none
 | .iface s (.int k a),.iface d (.int k' b)=>match P.underlying t,P.underlying s with
  |some (.interface _),some (.int _)=>if s=d/\k=k'/\ql6 P s=true then some (a==b) else none
  |_,_=>none
 | .iface _ _,.nili=>match P.underlying t with
  |some (.interface _)=>some false
  |_=>none
 | .nilp,.nilp=>match P.underlying t with
  |some (.pointer _)=>some true
  |_=>none
 | .vptr _,.nilp=>match P.underlying t with
  |some (.pointer _)=>some false
  |_=>none
 | .optr ..,.nilp=>match P.underlying t with
  |some (.pointer _)=>some false
  |_=>none
 |_,_=>none
def qiG(P:Program)(op:BinOp)(t:TypeId)(cst:Bool)(x y:D):Option D:=
 match op,x,y with
 | .shl,.int k a,.int _ b=>qfT .shl k a b
 | .shr,.int k a,.int _ b=>qfT .shr k a b
 |op,.int k a,.int k' b=>if k=k' then jQ op k a b else none
 |op,.str a,.str b=>strD op a b
 | .eql,x,y=>(eqD P t cst x y).map .bool
 | .neq,x,y=>(eqD P t cst x y).map fun b=>.bool !b
 |_,_,_=>none
def unD(op:UnOp)(x:D):Option D:=
 match op,x with
 | .neg,.int k n=>some (.int k (k.wrap (0-n)))
 | .xor,.int k n=>some (.int k (k.wrap (BitVec.ofInt k.bits (if k.signed then-1 else k.max)^^^BitVec.ofInt k.bits n).toNat))
 | .not,.bool b=>some (.bool !b)
 |_,_=>none
def qr(H:qe)(ds:List D):qe:=H++[some ds]
def JP(H:qe)(i:Nat):qe:=H.set i none
def VE:List D->Option (List UInt8)
 |[]=>some []
 | .int .u8 n::l=>(VE l).map fun r=>UInt8.ofNat n.toNat::r
 |_=>none
def qf(s:List UInt8):List D:=s.map fun b=>.int .u8 (b.toNat:Int)
def qF:Nat:=140737488355328
def qdJ(P:Program)(H:qe)(a dst:TypeId)(x:D):Option (D×qe):=
 match P.underlying a,P.underlying dst,x with
 |some _,some (.int k),.int _ n=>some (.int k (k.wrap n),H)
 |some .string,some .string,.str s=>some (.str s,H)
 |some (.int _),some .string,.int _ n=>some (.str (Utf8.encode n).data.toList,H)
 |some _,some (.slice e),.str s=>match P.underlying e with
  |some (.int .u8)=>some (.osl H.length s.length 0 s.length 1,qr H (qf s))
  |_=>none
 |some (.slice e),some .string,x=>match P.underlying e,YQ H 1 x with
  |some (.int .u8),some (cs,_)=>(VE cs).map fun s=>(.str s,H)
  |_,_=>none
 |some (.slice _),some (.slice e),.osl i st off b k=>match P.underlying e,qd H i with
  |some (.int .u8),some ds=>if a=dst/\ds.length=st then some (.osl i st off b k,H) else none
  |_,_=>none
 |_,_,_=>none
def YH(place:Nat->Option (Nat×Nat)):List D->List (Nat×D)->Option (List D)
 |a,[]=>some a
 |a,(i,d)::c=>match place i,cellsOf d with
  |some (off,b),some xs=>if xs.length=b/\off+xs.length<=a.length then YH place (zU a off xs) c else none
  |_,_=>none
def YX(X:Cx)(e:qu):List (Nat×Operand)->Option (List (Nat×D))
 |[]=>some []
 |(i,x)::l=>match qZ X e x,YX X e l with
  |some d,some ds=>some ((i,d)::ds)
  |_,_=>none
def vR(X:Cx)(e:qu):List Operand->Option (List D)
 |[]=>some []
 |x::l=>match qZ X e x,vR X e l with
  |some d,some ds=>some (d::ds)
  |_,_=>none
def qeO(P:Program)(fs:Array Field)(i:Nat):Option (Nat×Nat):=(fs[i]?).map fun f=>(f.offset,qw P f.type)
def qiF(P:Program)(t:TypeId)(a:List (Nat×D)):Option D:=
 match Xy P t,P.underlying t with
 |some (.agg z),some (.struct fs)=>if fs.all (fun f=>decide (0<qw P f.type)) then(YH (qeO P fs) z a).map .agg else none
 |some (.agg z),some (.array _ e)=>if 0<qw P e then(YH (fun i=>some (i*qw P e,qw P e)) z a).map .agg else none
 |_,_=>none
def VI(P:Program)(e:TypeId)(n:Nat):Option (List D):=
 match(Xy P e).bind cellsOf with
 |some z=>if z.length=qw P e/\0<qw P e then some ((List.replicate n z).flatten) else none
 |none=>none
def qc8(P:Program)(H:qe)(t:TypeId)(a:Nat)(b:List (Nat×D)):Option (D×qe):=
 match P.underlying t with
 |some (.slice e)=>match VI P e a with
  |some z=>if a*qw P e<=16777216 then(YH (fun i=>some (i*qw P e,qw P e)) z b).bind fun cs=>
    if(H.isEmpty=false\/cs.all idFree)/\cs.length=a*qw P e then some (.osl H.length cs.length 0 a (qw P e),qr H cs) else none
   else none
  |none=>none
 |_=>none
def qgn(P:Program)(H:qe)(t:TypeId)(l c:D):Option (D×qe):=
 match P.underlying t,l,c with
 |some (.slice e),.int .i64 l,.int .i64 c=>if 0<=l/\l<=c/\bytesOf P e*c<=qF/\c<=qF then
   (VI P e l.toNat).bind fun z=>if z.length=l.toNat*qw P e/\z.all idFree then some (.osl H.length z.length 0 l.toNat (qw P e),qr H z) else none
  else none
 |_,_,_=>none
def qfR(P:Program)(H:qe)(k:Nat)(xt:TypeId)(x:D):Option (List D×Nat):=
 match P.underlying xt,x with
 |some .string,.str b=>if k=1 then some (qf b,b.length) else none
 |some (.slice _),x=>YQ H k x
 |_,_=>none
def qcS(P:Program)(H:qe)(e xt:TypeId)(x:D):Option (List D×Nat):=
 match P.underlying xt,x with
 |some (.int _),.int .i64 n=>if 0<=n/\n<=qF/\n.toNat*bytesOf P e<=qF then(VI P e n.toNat).map (·,n.toNat) else none
 |_,x=>qfR P H (qw P e) xt x
def qG(P:Program)(H:qe)(st xt:TypeId)(s x:D):Option (D×qe):=
 match P.underlying st with
 |some (.slice e)=>match qcS P H e xt x,VI P e 0,s with
  |some (xs,m),some _,.vsl true [] 0=>
   if m=0 then some (.vsl true [] 0,H)
   else if m*bytesOf P e<=qF/\m<=qF then some (.osl H.length xs.length 0 m (qw P e),qr H xs) else none
  |some (xs,m),some _,.osl i b 0 a k=>match qd H i with
   |some ds=>if ds.length=b/\k=qw P e/\a*k=b/\(a+m)*bytesOf P e<=qF/\a+m<=qF
     then some (.osl i (b+xs.length) 0 (a+m) k,qn H i (ds++xs))
     else if ds.length=b/\k=qw P e/\a*k<b/\(a+m)*bytesOf P e<=qF/\a+m<=qF
     then some (.osl H.length (a*k+xs.length) 0 (a+m) k,qr (JP H i) (ds.take (a*k)++xs)) else none
   |none=>none
  |_,_,_=>none
 |_=>none
def qc4(P:Program)(H:qe)(c xt:TypeId)(d x:D):Option (D×qe):=
 match P.underlying c with
 |some (.slice e)=>match qfR P H (qw P e) xt x,d with
  |some (xs,m),.osl i b off a k=>match qd H i with
   |some ds=>if ds.length=b/\k=qw P e/\0<k/\off+a*k<=b
     then some (.int .i64 (min m a:Nat),qn H i (zU ds off (xs.take (min m a*k)))) else none
   |none=>none
  |_,_=>none
 |_=>none
def qi8(P:Program)(H:qe)(t:TypeId)(x:D):Option (D×qe):=
 match P.underlying t,x with
 |some (.slice e),.osl i b off a k=>match VI P e a,qd H i with
  |some z,some ds=>if ds.length=b/\k=qw P e/\off+a*k<=b/\0<a
    then some (.tup [],qn H i (zU ds off z)) else none
  |_,_=>none
 |_,_=>none
def qK(P:Program)(t:TypeId)(x:D):Option D:=
 match P.underlying t,x with
 |some .string,.str s=>some (.int .i64 s.length)
 |some (.array n _),_=>some (.int .i64 n)
 |some (.slice _),.vsl _ _ a=>some (.int .i64 a)
 |some (.slice _),.osl _ _ _ a _=>some (.int .i64 a)
 |_,_=>none
def qgl(c:Bool):List D->Option D
 |[.int k a,.int k' b]=>if k=k' then some (.int k (if c then(if a<b then b else a) else(if b<a then b else a))) else none
 |_=>none
def freeze(H:qe):D->Option D
 | .osl i st off a k=>match qd H i with
  |some ds=>if ds.length=st/\off+a*k<=st/\(ds.all idFree\/((ds.drop off).take (a*k)).all idFree) then some (.vsl false ((ds.drop off).take (a*k)) a) else none
  |none=>none
 | .optr i st off=>match qd H i with
  |some ds=>if ds.length=st/\ds.all idFree then some (.vptr (ds.drop off)) else none
  |none=>none
 | .fn f b=>(freezeL H b).map (.fn f)
 | .agg cs=>(freezeL H cs).map .agg
 |d=>if idFree d then some d else none
where freezeL (H:qe):List D->Option (List D)
 |[]=>some []
 |d::l=>match freeze H d,freezeL H l with
  |some d,some l=>some (d::l)
  |_,_=>none
def qcy(H:qe)(args:List D):Option (List D):=freeze.freezeL H args
def shift(n:Nat):D->D
 | .agg cs=>.agg (shiftL n cs)
 | .tup cs=>.tup (shiftL n cs)
 | .fn f cs=>.fn f (shiftL n cs)
 | .iface t d=>.iface t (shift n d)
 | .optr i st off=>.optr (n+i) st off
 | .osl i st off a k=>.osl (n+i) st off a k
 |d=>d
where shiftL (n:Nat):List D->List D
 |[]=>[]
 |d::l=>shift n d::shiftL n l
def pack1(n0:Nat)(H:qe)(seen:List Nat)(acc:qe):D->Option (D×List Nat×qe)
 | .osl i st off b k=>
  if i<n0 then some (.osl i st off b k,seen,acc)
  else match qd H i with
   |some ds=>if ds.all idFree/\i∉seen then some (.osl (n0+acc.length) st off b k,seen++[i],acc++[some ds]) else none
   |none=>none
 | .optr i st off=>
  if i<n0 then some (.optr i st off,seen,acc)
  else match qd H i with
   |some ds=>if ds.all idFree/\i∉seen then some (.optr (n0+acc.length) st off,seen++[i],acc++[some ds]) else none
   |none=>none
 | .agg cs=>(packs n0 H seen acc cs).map fun(cs,s,a)=>(.agg cs,s,a)
 | .tup cs=>(packs n0 H seen acc cs).map fun(cs,s,a)=>(.tup cs,s,a)
 |d=>if idFree d then some (d,seen,acc) else none
where packs (n0:Nat) (H:qe) (seen:List Nat) (acc:qe):List D->Option (List D×List Nat×qe)
 |[]=>some ([],seen,acc)
 |d::l=>match pack1 n0 H seen acc d with
  |some (d,seen,acc)=>match packs n0 H seen acc l with
   |some (l,seen,acc)=>some (d::l,seen,acc)
   |none=>none
  |none=>none
def Xu(n:Nat):Option (List D)->Bool
 |some ds=>ds.all (closed n)
 |none=>true
def qeh(n0:Nat)(H:qe)(r:D):Option (D×qe):=
 match pack1 n0 H [] [] r with
 |some (r,_,acc)=>if(H.take n0).all (Xu n0) then some (r,H.take n0++acc) else none
 |none=>none
def Qf:List Nat->qu->qu
 |[],_=>[]
 |k::ks,e=>match qi e k with
  |some d=>(k,d)::Qf ks e
  |none=>Qf ks e
def qc1(n:Nat):qu->Bool
 |[]=>true
 |(_,d)::e=>closed n d&&qc1 n e
def kg(g:D->Option (D×List Nat)):List D->Option (List D×List Nat)
 |[]=>some ([],[])
 |d::l=>match g d,kg g l with
  |some (d,a),some (l,b)=>some (d::l,a++b)
  |_,_=>none
def j8(H:qe):Nat->D->Option (D×List Nat)
 |0,_=>none
 |n+1,d=>if idFree d then some (d,[]) else match d with
  | .osl i st off a k=>match qd H i with
   |some ds=>if ds.length=st/\off+a*k<=st then
     if idFree.idFreeL ds then some (.vsl false ((ds.drop off).take (a*k)) a,[i])
     else match kg (j8 H n) ds with
      |some (ds',l)=>some (.vsl false ((ds'.drop off).take (a*k)) a,i::l)
      |none=>none
    else none
   |none=>none
  | .optr i st off=>match qd H i with
   |some ds=>if ds.length=st then
     if idFree.idFreeL ds then some (.vptr (ds.drop off),[i])
     else match kg (j8 H n) ds with
      |some (ds',l)=>some (.vptr (ds'.drop off),i::l)
      |none=>none
    else none
   |none=>none
  | .agg cs=>(kg (j8 H n) cs).map fun(cs,l)=>(.agg cs,l)
  | .tup cs=>(kg (j8 H n) cs).map fun(cs,l)=>(.tup cs,l)
  | .fn f cs=>(kg (j8 H n) cs).map fun(cs,l)=>(.fn f cs,l)
  | .iface t d=>(j8 H n d).map fun(d,l)=>(.iface t d,l)
  |d=>some (d,[])
def jT:qe->List Nat->qe
 |H,[]=>H
 |H,i::l=>jT (H.set i none) l
def qdY(H:qe)(e:qu):List Nat->Option (qu×List Nat)
 |[]=>some ([],[])
 |s::c=>match qi e s with
  |none=>qdY H e c
  |some d=>match j8 H 9 d,qdY H e c with
   |some (d,a),some (f,b)=>some ((s,d)::f,a++b)
   |_,_=>none
def qfr(a:List Nat)(e:qu)(H:qe):Option (qu×qe):=
 match qdY H e a with
 |some (b,l)=>some (b++e,jT H l)
 |none=>none
def qli(X:Cx)(f n0 id:Nat)(e:qu)(H:qe):Option (qu×qe):=
 match X.keep f id with
 |none=>some (e,H)
 |some (ks,0)=>some (Qf ks e,H)
 |some (ks,k+1)=>
  if H.length<=n0+k then some (Qf ks e,H)
  else if qc1 (n0+k) (Qf ks e)&&(H.take (n0+k)).all (Xu (n0+k)) then some (Qf ks e,H.take (n0+k)) else none
def qaG(e:qu):List Nat->Option (List D)
 |[]=>some []
 |s::a=>match qi e s,qaG e a with
  |some d,some ds=>some (d::ds)
  |_,_=>none
def Xx:List Nat->List D->qu
 |s::a,d::ds=>(s,d)::Xx a ds
 |_,_=>[]
def qhu(n0:Nat)(S ks:List Nat)(e:qu)(H:qe):Option (qu×qe):=
 match qaG e S with
 |none=>none
 |some ds=>match qeh n0 H (.tup ds) with
  |some (.tup ds',H')=>if qc1 n0 (Qf ks e) then some (Xx S ds'++Qf ks e,H') else none
  |_=>none
def JE:List Nat->Nat->Nat->Option Nat
 |[],_,_=>none
 |a::l,i,k=>if a=i then some k else JE l i (k+1)
def renD(p:List Nat):D->Option D
 | .optr i st off=>(JE p i 0).map fun j=>.optr j st off
 | .osl i st off a k=>(JE p i 0).map fun j=>.osl j st off a k
 | .agg cs=>(renL p cs).map .agg
 | .tup cs=>(renL p cs).map .tup
 | .fn f cs=>(renL p cs).map (.fn f)
 | .iface t d=>(renD p d).map (.iface t)
 |d=>some d
where renL (p:List Nat):List D->Option (List D)
 |[]=>some []
 |d::l=>match renD p d,renL p l with
  |some d,some l=>some (d::l)
  |_,_=>none
def qaO(p:List Nat)(d:D):Option D:=if idFree d then some d else renD p d
def Yg(p:List Nat)(ds:List D):Option (List D):=if idFree.idFreeL ds then some ds else renD.renL p ds
def qbL(p:List Nat):qu->Option qu
 |[]=>some []
 |(s,d)::e=>match qaO p d,qbL p e with
  |some d,some e=>some ((s,d)::e)
  |_,_=>none
def Yf(p:List Nat)(H:qe):List Nat->Option qe
 |[]=>some []
 |i::l=>match qd H i with
  |none=>none
  |some ds=>match Yg p ds,Yf p H l with
   |some ds,some L=>some (some ds::L)
   |_,_=>none
def Yq:List D->List Nat
 |[]=>[]
 | .optr i _ _::l=>i::Yq l
 | .osl i _ _ _ _::l=>i::Yq l
 |_::l=>Yq l
def qgi(H:qe):List Nat->List Nat
 |[]=>[]
 |i::l=>(match qd H i with
  |some ds=>if idFree.idFreeL ds then[] else Yq ds
  |none=>[])++qgi H l
def YL:List Nat->List Nat->List Nat
 |p,[]=>p
 |p,i::l=>if i∈p then YL p l else YL (p++[i]) l
def VL:Nat->List Nat
 |0=>[]
 |n+1=>VL n++[n]
def YT(n0:Nat)(p:List Nat)(e:qu)(H:qe):Option (qu×qe):=
 match qbL p e,Yf p H p with
 |some a,some H'=>if p.Nodup/\p.take n0=VL n0 then some (a,H') else none
 |_,_=>none
def qjC(n0:Nat)(S ks:List Nat)(e:qu)(H:qe):Option (qu×qe):=
 match qaG e S with
 |some ds=>YT n0 (YL (YL (VL n0) (Yq ds)) (qgi H (YL (VL n0) (Yq ds)))) (Xx S ds++Qf ks e) H
 |none=>none
def qsY:D->List Nat
 | .tup cs=>Yq cs
 |d=>Yq [d]
def qf6:Option (List D)->Bool
 |some ds=>ds.all idFree
 |none=>true
def qnY(n0:Nat)(H:qe)(r:D):Option (D×qe):=
 match YT n0 (YL (YL (VL n0) (qsY r)) (qgi H (YL (VL n0) (qsY r)))) [(0,r)] H with
 |some ([(_,a)],H')=>if(H'.drop n0).all qf6 then some (a,H') else none
 |_=>none
def orP{α:Type}:Option α->Option α->Option α
 |some q,_=>some q
 |none,x=>x
@[simp] theorem qzz {α:Type} (q:α) (x:Option α):orP (some q) x=some q:=rfl
@[simp] theorem qz0 {α:Type} (x:Option α):orP none x=x:=rfl
theorem qjT{α β:Type}{c:Prop}[Decidable c]{r:α}{A B:β}{Z:Option (α×β)}(h:c/\A=B):orP (if c then some (r,A) else none) Z=some (r,B):=by
 obtain⟨hc,rfl⟩:=h;rw[if_pos hc];rfl
def qbO(n0:Nat)(H:qe)(r:D):Option (D×qe):=orP (qeh n0 H r) (qnY n0 H r)
def qeW(n0:Nat)(S ks:List Nat)(e:qu)(H:qe):Option (qu×qe):=
 match qhu n0 S ks e H with
 |some r=>some r
 |none=>qjC n0 S ks e H
def q1p(X:Cx)(f id:Nat):List Nat:=match X.keep f id with
 |some (ks,_)=>ks
 |none=>[]
def qiu(X:Cx)(f n0 id:Nat)(e:qu)(H:qe):Option (qu×qe):=
 match X.ret f id with
 |[]=>qli X f n0 id e H
 |S=>qeW n0 S (q1p X f id) e H
def qit(X:Cx)(f n0 id:Nat)(e:qu)(H:qe):Option (qu×qe):=
 match X.frz f id with
 |[]=>qiu X f n0 id e H
 |ss=>match qfr ss e H with
  |some (e,H)=>qiu X f n0 id e H
  |none=>none
def ZO(H:qe)(i:Nat):Option qe:=
 match qd H i with
 |some ds=>if ds.all idFree then some H else match kg (j8 H 9) ds with
  |some (ds',l)=>if i∈l then none else some (qn (jT H l) i ds')
  |none=>none
 |none=>none
def qcR(e:qu):List Nat->qe->Option qe
 |[],H=>some H
 |s::a,H=>match qi e s with
  |some (.osl i _ _ _ _)|some (.optr i _ _)=>match ZO H i with
   |some H'=>qcR e a H'
   |none=>none
  |_=>qcR e a H
def enter(X:Cx)(f n0 id:Nat)(e:qu)(H:qe):Option (qu×qe):=
 match X.frb f id with
 |[]=>qit X f n0 id e H
 |ss=>match qcR e ss H with
  |some H'=>qit X f n0 id e H'
  |none=>none
def Qb(z:Bool)(n0:Nat)(H:qe)(r:D):Option (D×qe):=
 match z with
 |false=>qbO n0 H r
 |true=>match j8 H 9 r with
  |some (r,l)=>qbO n0 (jT H l) r
  |none=>none
def qeg(z:Bool)(H:qe)(r:D):Option (D×qe):=
 match z with
 |false=>some (r,H)
 |true=>match j8 H 9 r with
  |some (r,l)=>some (r,jT H l)
  |none=>none
def qbN(g z:Bool)(n0:Nat)(H:qe)(r:D):Option (D×qe):=
 match g with
 |true=>qeg z H r
 |false=>Qb z n0 H r
abbrev zF:=Nat->List D->qe->Option (D×qe)
def qlM:Option (List D)->Bool
 |some ds=>ds.all vFree
 |none=>true
def noZ:D->Bool
 | .agg cs| .tup cs| .fn _ cs=>noZL cs
 | .iface _ d=>noZ d
 | .optr i _ _| .osl i _ _ _ _=>decide (1<=i)
 |_=>true
where noZL:List D->Bool
 |[]=>true
 |d::l=>noZ d&&noZL l
def KB(F:zF)(f:Nat)(args:List D)(H:qe):Option (D×qe):=
 match args with
 | .optr i st off::a=>match qd H i with
  |some ds=>if a.all idFree&&ds.all idFree then match F f (.optr 0 st off::a) [some ds] with
    |some (r,some ds'::L)=>if noZ r&&ds'.all idFree&&L.all qf6 then some (shift (H.length-1) r,qn H i ds'++L) else none
    |_=>none
   else none
  |none=>none
 |_=>none
def ZR(p:List Nat)(n j:Nat):Nat:=match p[j]? with
 |some i=>i
 |none=>n+(j-p.length)
def mv(p:List Nat)(n:Nat):D->D
 | .optr i st off=>.optr (ZR p n i) st off
 | .osl i st off a k=>.osl (ZR p n i) st off a k
 | .agg cs=>.agg (mvL p n cs)
 | .tup cs=>.tup (mvL p n cs)
 | .fn f cs=>.fn f (mvL p n cs)
 | .iface t d=>.iface t (mv p n d)
 |d=>d
where mvL (p:List Nat) (n:Nat):List D->List D
 |[]=>[]
 |d::l=>mv p n d::mvL p n l
def J5:qe->List Nat->qe->qe
 |H,i::p,b::T=>J5 (H.set i b) p T
 |H,_,_=>H
def YU(p:List Nat):List D->Option (List D)
 |[]=>some []
 |d::l=>match qaO p d,YU p l with
  |some d,some l=>some (d::l)
  |_,_=>none
def qf4(_:zF)(_:Nat)(_:List D)(_:qe):Option (D×qe):=none
def qlA(H:qe):Nat->List Nat->List Nat
 |0,p=>p
 |n+1,p=>qlA H n (YL p (qgi H p))
def X6(p:List Nat)(n:Nat)(b:Option (List D)):Option (List D):=b.map (mv.mvL p n)
def qdK(F:zF)(f:Nat)(args:List D)(H:qe)(p:List Nat):Option (D×qe):=
 match YU p args,Yf p H p with
 |some a,some b=>if p.Nodup then match F f a b with
   |some (r,T)=>some (mv p H.length r,J5 H p (T.map (X6 p H.length))++(T.map (X6 p H.length)).drop p.length)
   |none=>none
  else none
 |_,_=>none
def qb7(F:zF)(f:Nat)(args:List D)(H:qe):Option (D×qe):=qdK F f args H (qlA H 6 (YL [] (Yq args)))
def qb6(X:Cx)(F:zF)(f:Nat)(args:List D)(H:qe):Option (D×qe):=
 if X.lom f then qf4 F f args H else KB F f args H
def Ya(X:Cx)(F:zF)(f:Nat)(args:List D)(H:qe):Option (D×qe):=
 if X.byRef f then(if X.loc f then(if X.gr f then qb7 F f args H else qb6 X F f args H) else F f args H)
 else if args.all idFree then match F f args [] with
  |none=>none
  |some (r,L)=>some (shift H.length r,H++L)
 else match qcy H args with
  |none=>none
  |some a=>match F f a [] with
   |none=>none
   |some (r,L)=>if vFree r&&L.all qlM then some (shift H.length r,H++L) else none
def qb0(H:qe):D->Bool
 | .osl i _ _ _ _=>match qd H i with
  |some ds=>ds.all idFree
  |none=>false
 |d=>idFree d
def ZI(X:Cx)(F:zF)(f:Nat)(args:List D)(H:qe):Option (D×qe):=
 if X.pureF f&& !X.byRef f then
  if args.all idFree then match F f args [] with
   |some (r,[])=>if idFree r then some (r,H) else none
   |_=>none
  else if X.perm f&&args.all (qb0 H) then match qcy H args with
   |some a=>match F f a [] with
    |some (r,[])=>if idFree r&&vFree r then some (r,H) else none
    |_=>none
   |none=>none
  else none
 else Ya X F f args H
def qjs(H:qe):List D->Option qe
 | .optr i _ _::_=>ZO H i
 |_=>none
def Yb(X:Cx)(F:zF)(f:Nat)(args:List D)(H:qe):Option (D×qe):=
 match X.perm f&&X.byRef f with
 |false=>ZI X F f args H
 |true=>match qjs H args with
  |some H'=>ZI X F f args H'
  |none=>none
def VD(X:Cx)(F:zF)(f:Nat)(args:List D)(H:qe):Option (D×qe):=
 match X.perm f&& !X.pureF f&& !X.byRef f with
 |false=>Yb X F f args H
 |true=>match kg (j8 H 9) args with
  |some (a,l)=>ZI X F f a (jT H l)
  |none=>none
def qdL(X:Cx)(b:Builtin)(ts:List TypeId)(args:List D)(H:qe):Option (D×qe):=
 match b,ts,args with
 | .len,t::_,x::_=>(qK X.P t x).map (·,H)
 | .append,t::u::_,s::x::_=>qG X.P H t u s x
 | .copy,t::u::_,d::x::_=>qc4 X.P H t u d x
 | .min,_,args=>(qgl false args).map (·,H)
 | .max,_,args=>(qgl true args).map (·,H)
 | .clear,t::_,x::_=>qi8 X.P H t x
 |_,_,_=>none
def zH(X:Cx)(F:zF)(o:Op)(e:qu)(H:qe):Option (D×qe):=
 match o with
 | .move x| .assign x=>(qZ X e x).map (·,H)
 | .pick c a b=>match qZ X e c with
  |some (.bool t)=>(qZ X e (if t then a else b)).map (·,H)
  |_=>none
 | .alloc t=>match(Xy X.P t).bind cellsOf with
  |some cs=>some (.optr H.length cs.length 0,qr H cs)
  |none=>none
 | .box _ x=>match(qZ X e x).bind cellsOf with
  |some cs=>if cs.all (closed H.length) then some (.optr H.length cs.length 0,qr H cs) else none
  |none=>none
 | .build t k=>match YX X e k.toList with
  |some ps=>(qiF X.P t ps).map (·,H)
  |none=>none
 | .buildSlice t m k=>match YX X e k.toList with
  |some ps=>qc8 X.P H t m ps
  |none=>none
 | .load t p=>match qZ X e p with
  |some p=>(ldD X.P H t p).map (·,H)
  |none=>none
 | .store t p x=>match qZ X e p,qZ X e x with
  |some p,some x=>(stD X.P H t p x).map (.tup [],·)
  |_,_=>none
 | .nilCheck x=>match qZ X e x with
  |some (.vptr cs)=>some (.vptr cs,H)
  |some (.optr i st off)=>some (.optr i st off,H)
  |some (.fn f j)=>some (.fn f j,H)
  |some (.iface t d)=>some (.iface t d,H)
  |_=>none
 | .binOp op t x y _=>match qZ X e x,qZ X e y with
  |some a,some b=>(qiG X.P op t (KW x||KW y) a b).map (·,H)
  |_,_=>none
 | .unOp op _ x=>match qZ X e x with
  |some a=>(unD op a).map (·,H)
  |none=>none
 | .convert s d x=>match qZ X e x with
  |some a=>qdJ X.P H s d a
  |none=>none
 | .makeInterface t x=>match qZ X e x,X.P.underlying t with
  |some _,some (.interface _)=>none
  |some a,some _=>some (.iface t a,H)
  |_,_=>none
 | .makeFunc (.func f) first j=>if first.isEmpty then(vR X e j.toList).map fun cs=>(.fn f cs,H) else none
 | .makeSlice t l c=>match qZ X e l,qZ X e c with
  |some l,some c=>qgn X.P H t l c
  |_,_=>none
 | .slice t x n hi none=>match qZ X e x,n.map (qZ X e),hi.map (qZ X e) with
  |some a,none,none=>(qaJ X.P t a none none).map (·,H)
  |some a,some (some l),none=>(qaJ X.P t a (some l) none).map (·,H)
  |some a,none,some (some h)=>(qaJ X.P t a none (some h)).map (·,H)
  |some a,some (some l),some (some h)=>(qaJ X.P t a (some l) (some h)).map (·,H)
  |_,_,_=>none
 | .fieldAddr s x f=>match qZ X e x with
  |some p=>(qip X.P s p f).map (·,H)
  |none=>none
 | .field s x f=>match qZ X e x with
  |some a=>(qio X.P s a f).map (·,H)
  |none=>none
 | .indexAddr t x i=>match qZ X e x,qZ X e i with
  |some a,some i=>(qhY X.P t a i).map (·,H)
  |_,_=>none
 | .index t x i=>match qZ X e x,qZ X e i with
  |some a,some i=>(qhX X.P t a i).map (·,H)
  |_,_=>none
 | .extract x i=>match qZ X e x with
  |some (.tup cs)=>(cs[i]?).map (·,H)
  |_=>none
 | .call c=>match c.callee,vR X e c.args.toList with
  | .builtin b,some args=>qdL X b c.argTypes.toList args H
  | .value g,some args=>match qZ X e g with
   |some (.fn f j)=>VD X F f (args++j) H
   |_=>none
  |_,_=>none
 |_=>none
def vP(c:Array Oper)(e:qu):Option (Nat×Bool)->Option Bool
 |none=>some true
 |some (j,a)=>match(c[j]?).bind (·.dst) with
  |none=>some false
  |some t=>match qi e t with
   |some (.bool b)=>some (b==a)
   |some (.tup [])=>some false
   |_=>none
def ko(nt:Nat):Option Tmp->Bool
 |none=>true
 |some t=>decide (t<nt)
def Xs(X:Cx)(c:Call)(e:qu):Bool:=
 match X.dynV,c.callee with
 |true,.value (.tmp t)=>match qi e t with
  |some (.fn f _)=>!(X.pureF f&& !X.byRef f&& !X.perm f)
  |_=>true
 |_,_=>false
def zf(X:Cx)(F:zF)(h:Bool)(o:Op)(e:qu)(H:qe):Option (D×qe):=
 match h,o with
 |true,.buildSlice t g f=>match YX X e f.toList with
  |some ps=>match qc8 X.P [] t g ps with
   |some (.osl _ _ _ _ _,[some ds])=>some (.vsl false ds g,H)
   |_=>none
  |none=>none
 |true,.convert s d x=>match qZ X e x,X.P.underlying d with
  |some (.str b),some (.slice t)=>match X.P.underlying s,X.P.underlying t with
   |some _,some (.int .u8)=>some (.vsl false (qf b) b.length,H)
   |_,_=>none
  |some a,_=>qdJ X.P H s d a
  |_,_=>none
 |true,.call c=>if Xs X c e then none else zH X F (.call c) e H
 |_,o=>zH X F o e H
def vX(X:Cx)(F:zF)(nt:Nat)(a:Bool)(b:Array Oper):List Oper->qu->qe->Option (qu×qe)
 |[],e,H=>some (e,H)
 |o::l,e,H=>match ko nt o.dst,vP b e o.guard with
  |true,some true=>match zf X F a o.op e H with
   |some (d,H')=>vX X F nt a b l (jP e o.dst d) H'
   |none=>none
  |true,some false=>vX X F nt a b l (jP e o.dst (.tup [])) H
  |_,_=>none
def YN:D->Option Nat
 | .optr i _ _=>some i
 | .osl i _ _ _ _=>some i
 |_=>none
def QG:List (Option D)->List Nat
 |[]=>[]
 |some d::l=>(YN d).toList++QG l
 |none::l=>QG l
abbrev QX:=List (Nat×Nat)
def Jg(L:QX)(k:Nat):Bool:=L.any fun p=>p.1==k
def Jl(L:QX)(k:Nat):Bool:=L.any fun p=>p.2==k
def qa7(L:QX)(k:Nat)(a:List Nat):List (Nat×qe×qe)->Prop
 |[]=>True
 |(i,A,B)::l=>(L.contains (i,k)=true->∀b,b∈a->qd B b=qd A b)/\qa7 L k a l
def qa6(L:QX)(k:Nat)(A B:qe):List (Nat×List Nat)->Prop
 |[]=>True
 |(j,a)::l=>(L.contains (k,j)=true->∀b,b∈a->qd B b=qd A b)/\qa6 L k A B l
def Ja(ow:List Nat):Option Tmp->Bool
 |some t=>!ow.contains t
 |none=>true
open Classical in
noncomputable def Qp(X:Cx)(F:zF)(nt:Nat)(ow:List Nat)(a:Array Oper)(L:QX):Nat->List (Nat×qe×qe)->List (Nat×List Nat)->List Oper->qu->qe->Option (qu×qe)
 |_,_,_,[],e,H=>some (e,H)
 |k,ws,rs,o::l,e,H=>match ko nt o.dst,vP a e o.guard with
  |true,some true=>match zf X F (Ja ow o.dst) o.op e H with
   |some (d,H')=>
    if(Jl L k=true->qa7 L k (QG (o.op.operands.toList.map (qZ X e))) ws)/\(Jg L k=true->H.length<=H'.length/\qa6 L k H H' rs) then
     Qp X F nt ow a L (k+1) (if Jg L k then(k,H,H')::ws else ws) (if Jl L k then(k,QG (o.op.operands.toList.map (qZ X e)))::rs else rs) l (jP e o.dst d) H'
    else none
   |none=>none
  |true,some false=>Qp X F nt ow a L (k+1) ws rs l (jP e o.dst (.tup [])) H
  |_,_=>none
inductive Ex where
 |normal
 |exit (id:Nat)
 |ret
def QL(X:Cx)(e:qu)(H:qe):List ResultVar->Option (List D)
 |[]=>some []
 | .tmp t::l=>match qi e t,QL X e H l with
  |some d,some ds=>some (d::ds)
  |_,_=>none
 | .cell a t::l=>match(qi e a).bind (ldD X.P H t),QL X e H l with
  |some d,some ds=>some (d::ds)
  |_,_=>none
def Vy:List D->D
 |[d]=>d
 |l=>.tup l
def kr:Nat->List D->qu
 |_,[]=>[]
 |i,d::l=>(i,d)::kr (i+1) l
inductive OpKind where
 |v|r|e|m
 deriving DecidableEq
def Vg(X:Cx):Op->OpKind
 | .load .. | .convert ..=>.r
 | .alloc .. | .box .. | .makeSlice ..=>.e
 | .store ..=>.m
 | .call c=>match c.callee with
  | .builtin .len| .builtin .min| .builtin .max=>.v
  | .value (.func f)=>if X.byRef f then .m else if X.pureF f then(if X.perm f then .r else .v) else if X.perm f then .m else .e
  | .value (.tmp _)=>if X.dynV then .v else .m
  |_=>.m
 |_=>.v
def Zs(X:Cx)(bw:Bool)(o:Op):OpKind:=
 match bw,o with
 |false,.buildSlice .. |false,.convert ..=>.e
 |false,.call c=>match c.callee with
  | .value (.tmp _)=>.m
  |_=>Vg X (.call c)
 |_,o=>Vg X o
def qsE:Op->Bool
 | .call c=>match c.callee with
  | .builtin .append=>true
  |_=>false
 |_=>false
def qcY:List Oper->Bool
 |[]=>false
 |o::l=>qsE o.op||qcY l
def YV(X:Cx)(f id:Nat)(a:Bool)(b:Array Oper):Bool:=match a with
 |true=>!qcY b.toList
 |false=>X.cv f id
def jm(X:Cx)(bw:Bool)(o:Op):Bool:=match Zs X bw o with
 | .e| .m=>true
 |_=>false
def qjj:Operand->List Tmp
 | .tmp t=>[t]
 |_=>[]
def J9(a:Array Oper)(o:Oper):List Tmp:=
 o.dst.toList++o.op.operands.toList.flatMap qjj++(match o.guard with
  |some (k,_)=>((a[k]?).bind (·.dst)).toList
  |none=>[])
def VC(X:Cx)(bw:Option Tmp->Bool)(L:QX)(al:Option Nat)(a:Array Oper)(i:Nat)(x:Oper)(j:Nat)(y:Oper):Bool:=
 x.dst.any (fun t=>(J9 a y).contains t)||y.dst.any (fun t=>(J9 a x).contains t)||(jm X (bw x.dst) x.op&&jm X (bw y.dst) y.op&& !(al==some (max i j)))||
  (Zs X (bw x.dst) x.op==.m&&Zs X (bw y.dst) y.op==.r&& !L.contains (i,j))||(Zs X (bw x.dst) x.op==.r&&Zs X (bw y.dst) y.op==.m&& !L.contains (j,i))
def qvA(X:Cx)(bw:Option Tmp->Bool)(al:Option Nat)(a:Array Oper):Bool:=
 match al with
 |none=>true
 |some j=>match a[j]? with
  |none=>false
  |some o=>match o.op,o.dst,o.guard with
   | .alloc _,some t,none=>
    let b:=Region.before a
    a.toList.zipIdx.all fun(y,k)=>k==j|| !(J9 a y).contains t||(decide (j<k)&&a.toList.zipIdx.all fun(x,i)=>!decide (i<j)|| !jm X (bw x.dst) x.op||(b.getD k 0).testBit i)
   |_,_,_=>false
def qi1(X:Cx)(bw:Option Tmp->Bool)(L:QX)(al:Option Nat)(a:Array Oper):Bool:=
 let b:=Region.before a
 qvA X bw al a&&a.toList.zipIdx.all fun(y,j)=>
  y.after.all (fun e=>!Region.binds .any e||decide (e.on<j))&&
  a.toList.zipIdx.all fun(x,i)=>!decide (i<j)||(b.getD j 0).testBit i|| !VC X bw L al a i x j y
def Z4(X:Cx)(f:Nat):Code->Bool
 | .region id d e=>!e||match X.lp f id with
  |none=>qi1 X (fun _=>!qcY d.toList) [] (X.al f id) d
  |some (L,ow)=>qi1 X (Ja ow) L (X.al f id) d
 | .seq a b=>Z4 X f a&&Z4 X f b
 | .cond _ a b=>Z4 X f a&&Z4 X f b
 | .block _ c| .loop c| .scope c=>Z4 X f c
 |_=>true
noncomputable def J0(X:Cx)(F:zF)(f nt id:Nat)(b:Bool)(a:Array Oper)(e:qu)(H:qe):Option (qu×qe):=
 match b,X.lp f id with
 |true,some (L,ow)=>Qp X F nt ow a L 0 [] [] a.toList e H
 |_,_=>vX X F nt (YV X f id b a) a a.toList e H
mutual
noncomputable def zm(X:Cx):Nat->Nat->Nat->Nat->Code->qu->qe->Option (Ex×qu×qe)
 |0,_,_,_,_,_,_=>none
 |n+1,f,nt,n0,c,e,H=>match c with
  | .skip=>some (.normal,e,H)
  | .label _=>some (.normal,e,H)
  | .region id g d=>match enter X f n0 id e H with
   |none=>none
   |some (e,H)=>(J0 X (vH X n) f nt id d g e H).map fun(e,H)=>(.normal,e,H)
  | .seq a b=>match zm X n f nt n0 a e H with
   |some (.normal,e,H)=>zm X n f nt n0 b e H
   |r=>r
  | .cond c a b=>match qZ X e c with
   |some (.bool t)=>zm X n f nt n0 (if t then a else b) e H
   |_=>none
  | .block id c=>match zm X n f nt n0 c e H with
   |some (.exit i,e,H)=>if i=id then some (.normal,e,H) else some (.exit i,e,H)
   |r=>r
  | .loop c=>match zm X n f nt n0 c e H with
   |some (.normal,e,H)=>zm X n f nt n0 (.loop c) e H
   |r=>r
  | .exit id=>some (.exit id,e,H)
  | .scope c=>zm X n f nt n0 c e H
  | .ret=>some (.ret,e,H)
  |_=>none
noncomputable def vH(X:Cx):Nat->zF
 |0,_,_,_=>none
 |n+1,f,args,H=>match X.con f args H with
 |some r=>some r
 |none=>match X.P.funcs[f]? with
  |none=>none
  |some fn=>match fn.body with
   |none=>(X.ext f args).map (·,H)
   |some c=>if X.bad f then none else match zm X n f fn.ntmps H.length c (kr 0 args) H with
    |some (.normal,e,H')|some (.ret,e,H')=>match QL X e H' fn.results.toList with
     |some ds=>qbN (X.gr f&&X.byRef f) (X.fzr f) H.length H' (Vy ds)
     |none=>none
    |_=>none
end
@[simp] abbrev zb8 (t:List D):List D:=.int .u8 0::.int .u8 0::.int .u8 0::.int .u8 0::.int .u8 0::.int .u8 0::.int .u8 0::.int .u8 0::t
@[simp] abbrev qM (t:List D):List D:=.int .u8 0::.int .u8 0::.int .u8 0::.int .u8 0::.int .u8 0::.int .u8 0::.int .u8 0::.int .u8 0::.int .u8 0::.int .u8 0::.int .u8 0::.int .u8 0::.int .u8 0::.int .u8 0::.int .u8 0::.int .u8 0::t
@[simp] abbrev VH (t:List D):List D:=.int .u64 0::.int .u64 0::.int .u64 0::.int .u64 0::t
@[simp] abbrev ku (t:List D):List D:=.int .u64 0::.int .u64 0::.int .u64 0::.int .u64 0::.int .u64 0::.int .u64 0::.int .u64 0::.int .u64 0::.int .u64 0::.int .u64 0::t
@[simp] abbrev qvl (t:List CK):List CK:=.i::.i::.i::.i::.i::.i::.i::.i::.i::.i::.i::.i::.i::.i::.i::.i::t
@[simp] abbrev qa5 (g l j i k m h o p n e c a d f b:UInt8) (t:List D):List D:=.int .u8 (g.toNat:Int)::.int .u8 (l.toNat:Int)::.int .u8 (j.toNat:Int)::.int .u8 (i.toNat:Int)::.int .u8 (k.toNat:Int)::.int .u8 (m.toNat:Int)::.int .u8 (h.toNat:Int)::.int .u8 (o.toNat:Int)::.int .u8 (p.toNat:Int)::.int .u8 (n.toNat:Int)::.int .u8 (e.toNat:Int)::.int .u8 (c.toNat:Int)::.int .u8 (a.toNat:Int)::.int .u8 (d.toNat:Int)::.int .u8 (f.toNat:Int)::.int .u8 (b.toNat:Int)::t
abbrev qV:=Nat->Option (Nat×Nat)
def jB:qV:=fun _=>none
def ju:D->Bool
 | .agg _| .tup _=>false
 | .raw v=>v.oneCell'
 |_=>true
inductive Rep (ok:Nat->Prop) (w:World):qV->qe->D->Value->Prop
 |bool {ι H} (b:Bool):Rep ok w ι H (.bool b) (.bool b)
 |int {ι H} (k:IntKind) (n:Int):Rep ok w ι H (.int k n) (.int k n)
 |str {ι H} (s:List UInt8):Rep ok w ι H (.str s) (.string ⟨s.toArray⟩)
 |nilp {ι H}:Rep ok w ι H .nilp (.pointer none)
 |nilf {ι H}:Rep ok w ι H .nilf .nilFunc
 |nili {ι H}:Rep ok w ι H .nili .nilIface
 |agg {ι H} {ds:List D} {vs:Array Value} (hl:vs.size=ds.length) (hc:∀d,d∈ds->ju d=true)
   (h:∀(j:Nat) d,ds[j]?=some d->Rep ok w ι H d (vs.getD j undef)):Rep ok w ι H (.agg ds) (.agg vs)
 |tup {ι H} {ds:List D} {vs:Array Value} (hl:vs.size=ds.length)
   (h:∀(j:Nat) d,ds[j]?=some d->Rep ok w ι H d (vs.getD j undef)):Rep ok w ι H (.tup ds) (.tuple vs)
 |vptr {ι H} {ds:List D} (a:Addr) (f:Nat->Value) (ha:∀d,d∈ds->ok a.block) (hc:∀d,d∈ds->ju d=true)
   (hr:∀(j:Nat) d,ds[j]?=some d->w.cell? (a.add j)=some (f j))
   (h:∀(j:Nat) d,ds[j]?=some d->Rep ok w jB [] d (f j)):Rep ok w ι H (.vptr ds) (.pointer (some a))
 |optr {ι H} {i st off:Nat} (a:Addr) (hi:i<H.length)
   (h:∀ds,qd H i=some ds->st<=ds.length/\(ds.length=st->∃b s,ι i=some (b,s)/\a=⟨b,off,none⟩)):Rep ok w ι H (.optr i st off) (.pointer (some a))
 |vnil {ι H}:Rep ok w ι H (.vsl true [] 0) (.slice none 0 0)
 |vsl {ι H} {ds:List D} {len c:Nat} (a:Addr) (f:Nat->Value) (ha:∀d,d∈ds->ok a.block) (hc:∀d,d∈ds->ju d=true)
   (hr:∀(j:Nat) d,ds[j]?=some d->w.cell? (a.add j)=some (f j))
   (h:∀(j:Nat) d,ds[j]?=some d->Rep ok w jB [] d (f j)) (zt:len<=c):Rep ok w ι H (.vsl false ds len) (.slice (some a) len c)
 |osl {ι H} {i st off len k c:Nat} (a:Addr) (hi:i<H.length)
   (h:∀ds,qd H i=some ds->st<=ds.length/\(ds.length=st->∃b s,ι i=some (b,s)/\a=⟨b,off,none⟩/\off+c*k<=s)) (zt:len<=c):
   Rep ok w ι H (.osl i st off len k) (.slice (some a) len c)
 |fn {ι H} {f:Nat} {ds:List D} {vs:Array Value} (hl:vs.size=ds.length)
   (h:∀(j:Nat) d,ds[j]?=some d->Rep ok w ι H d (vs.getD j undef)):Rep ok w ι H (.fn f ds) (.func (.func f) #[] vs)
 |iface {ι H} {t:Nat} {d:D} {v:Value} (h:Rep ok w ι H d v):Rep ok w ι H (.iface t d) (.iface t v)
 |raw {ι H} (v:Value):Rep ok w ι H (.raw v) v
section
variable {ok ok':Nat->Prop} {w w':World} {ι ι':qV} {H H':qe}
theorem Rep.oneCell{d:D}{v:Value}(h:Rep ok w ι H d v)(hc:ju d=true):v.oneCell'=true:=by
 cases h<;>first|rfl|exact hc|simp[ju] at hc
theorem qdi(l:List D):idFree.idFreeL l=true↔∀d,d∈l->idFree d=true:=by
 induction l with
 |nil=>simp[idFree.idFreeL]
 |cons d l a=>simp[idFree.idFreeL,a]
theorem qhd(l:List D):vFree.vFreeL l=true↔∀d,d∈l->vFree d=true:=by
 induction l with
 |nil=>simp[vFree.vFreeL]
 |cons d l a=>simp[vFree.vFreeL,a]
theorem qe7(n:Nat)(l:List D):closed.closedL n l=true↔∀d,d∈l->closed n d=true:=by
 induction l with
 |nil=>simp[closed.closedL]
 |cons d l a=>simp[closed.closedL,a]
theorem mem_of_get?{ds:List D}{j:Nat}{d:D}(h:ds[j]?=some d):d∈ds:=jH h
theorem Rep.closed{d:D}{v:Value}(h:Rep ok w ι H d v):Ev.closed H.length d=true:=by
 induction h with
 |agg c hc h b|tup c h b|fn c h b=>
  simp only[Ev.closed,qe7];intro d e;obtain⟨j,f⟩:=List.mem_iff_getElem?.1 e;exact b j d f
 |iface h b=>simpa[Ev.closed] using b
 |optr a hi h=>simpa[Ev.closed] using hi
 |osl a hi h=>simpa[Ev.closed] using hi
 |_=>rfl
theorem jr{n m:Nat}(a:n<=m):∀d,closed n d=true->closed m d=true
 | .agg cs,h| .tup cs,h| .fn _ cs,h=>by
  simp only[closed,qe7] at h⊢;intro d b;exact jr a d (h d b)
 | .iface _ d,h=>by simp only[closed] at h⊢;exact jr a d h
 | .optr i _ _,h| .osl i _ _ _ _,h=>by simp only[closed,decide_eq_true_eq] at h⊢;omega
 | .bool _,_| .int _ _,_| .str _,_| .nilp,_| .nilf,_| .nili,_| .vptr _,_| .vsl _ _ _,_| .raw _,_=>rfl
theorem Vj{n:Nat}:∀d,idFree d=true->closed n d=true
 | .agg cs,h| .tup cs,h| .fn _ cs,h=>by
  simp only[closed,qe7,idFree,qdi] at h⊢;intro d a;exact Vj d (h d a)
 | .iface _ d,h=>by simp only[closed,idFree] at h⊢;exact Vj d h
 | .optr i _ _,h| .osl i _ _ _ _,h=>by simp[idFree] at h
 | .bool _,_| .int _ _,_| .str _,_| .nilp,_| .nilf,_| .nili,_| .vptr _,_| .vsl _ _ _,_| .raw _,_=>rfl
theorem Rep.free{d:D}{v:Value}(h:Rep ok w ι H d v)(c:idFree d=true)(ι':qV)(H':qe):Rep ok w ι' H' d v:=by
 induction h with
 |bool b=>exact .bool b
 |int k n=>exact .int k n
 |str s=>exact .str s
 |nilp=>exact .nilp
 |nilf=>exact .nilf
 |nili=>exact .nili
 |raw v=>exact .raw v
 |agg i hc h g=>
  simp only[idFree,qdi] at c;exact .agg i hc fun j d e=>g j d e (c d (mem_of_get? e))
 |tup i h g=>
  simp only[idFree,qdi] at c;exact .tup i fun j d e=>g j d e (c d (mem_of_get? e))
 |fn i h g=>
  simp only[idFree,qdi] at c;exact .fn i fun j d e=>g j d e (c d (mem_of_get? e))
 |iface h g=>exact .iface (g c)
 |optr a hi h=>simp[idFree] at c
 |osl a hi h=>simp[idFree] at c
 |vptr a f m hc l h _=>exact .vptr a f m hc l h
 |vnil=>exact .vnil
 |vsl a f m hc l h o _=>exact .vsl a f m hc l h o
structure Evol (n:Nat) (ok:Nat->Prop) (w:World) (ι:qV) (H:qe) (ok':Nat->Prop) (w':World) (ι':qV) (H':qe):Prop where
 os:w'.os=w.os
 tape:w'.tape=w.tape
 output:w'.output=w.output
 size:w.heap.size<=w'.heap.size
 frame:∀b,b<w.heap.size->(∀i ds s,qd H i=some ds->ι i≠some (b,s))->w'.heap[b]?=w.heap[b]?
 okU:∀b,ok b->ok' b
 okN:∀b,ok' b->b<w.heap.size->ok b\/∃i ds s,qd H i=some ds/\ι i=some (b,s)
 nle:n<=H.length/\n<=H'.length
 heap:∀i,i<n->∀ds',qd H' i=some ds'->∃ds,qd H i=some ds/\ds.length<=ds'.length/\(ds.length=ds'.length->ι' i=ι i)
 own:∀i ds' b s,qd H' i=some ds'->ι' i=some (b,s)->b<w.heap.size->∃j ds s',qd H j=some ds/\ι j=some (b,s')
structure Sim (X:Cx) (ok:Nat->Prop) (w:World) (ι:qV) (H:qe):Prop where
 okS:∀b,ok b->b<w.heap.size
 glob:∀g cs,X.glob g=some cs->Rep ok w jB [] (.vptr cs) (.pointer (some ⟨g,0,none⟩))
 inj:∀i j ds es b s s',qd H i=some ds->qd H j=some es->ι i=some (b,s)->ι j=some (b,s')->i=j
 blk:∀i ds,qd H i=some ds->∃b arr e fr,ι i=some (b,arr.size)/\¬ok b/\w.heap[b]?=some (.cells arr e fr)/\ds.length<=arr.size/\
  (fr.1=fr.2\/arr.size<=fr.1)/\(∀j,j<arr.size->(arr.getD j undef).oneCell'=true)/\(∀d,d∈ds->ju d=true)/\
  (∀(j:Nat) d,ds[j]?=some d->Rep ok w ι H d (arr.getD j undef))
theorem qih{fr:Nat×Nat}{n:Nat}(h:fr.1=fr.2\/n<=fr.1):∀j,j<n->¬(fr.1<=j/\j<fr.2):=by
 intro j a;omega
theorem Sim.notOwn{X:Cx}(c:Sim X ok w ι H){b:Nat}(f:ok b):∀i ds s,qd H i=some ds->ι i≠some (b,s):=by
 intro i ds s hi d;obtain⟨b',arr,e,fr,a,g,_⟩:=c.blk i ds hi;rw[d] at a;injection a with a;injection a with a;subst a;exact g f
theorem qeA(a:Addr)(j:Nat):(a.add j).block=a.block:=by unfold Addr.add;split<;>rfl
theorem Rep.evol{X:Cx}{n:Nat}{d:D}{v:Value}(h:Rep ok w ι H d v)(J:Sim X ok w ι H)(t:Evol n ok w ι H ok' w' ι' H')(hc:Ev.closed n d=true):Rep ok' w' ι' H' d v:=by
 have z:∀a:Addr,∀j v,ok a.block->w.cell? (a.add j)=some v->w'.cell? (a.add j)=some v:=by
  intro a j v o K;rw[World.cell?_of_block (w:=w)]
  .exact K
  .rw[qeA];exact t.frame _ (J.okS _ o) (J.notOwn o)
 have q:∀{ι1:qV}{x:qe}{d:D}{v:Value},Rep ok w ι1 x d v->ι1=jB->x=[]->Rep ok' w' jB [] d v:=by
  intro ι1 x d v h
  induction h with
  |bool b=>intros;exact .bool b
  |int k n=>intros;exact .int k n
  |str s=>intros;exact .str s
  |nilp=>intros;exact .nilp
  |nilf=>intros;exact .nilf
  |nili=>intros;exact .nili
  |raw v=>intros;exact .raw v
  |agg p hc h i=>intro l g;exact .agg p hc fun j d c=>i j d c l g
  |tup p h i=>intro l g;exact .tup p fun j d c=>i j d c l g
  |fn p h i=>intro l g;exact .fn p fun j d c=>i j d c l g
  |iface h i=>intro l g;exact .iface (i l g)
  |optr a hi h=>intro l g;subst g;simp at hi
  |osl a hi h=>intro l g;subst g;simp at hi
  |vptr a f o hc u h i=>intros;exact .vptr a f (fun d r=>t.okU _ (o d r)) hc (fun j d c=>z a j _ (o d (mem_of_get? c)) (u j d c)) fun j d c=>i j d c rfl rfl
  |vnil=>intros;exact .vnil
  |vsl a f o hc u h y i=>intros;exact .vsl a f (fun d r=>t.okU _ (o d r)) hc (fun j d c=>z a j _ (o d (mem_of_get? c)) (u j d c)) (fun j d c=>i j d c rfl rfl) y
 have main:∀{ι1:qV}{x:qe}{d:D}{v:Value},Rep ok w ι1 x d v->ι1=ι->x=H->Ev.closed n d=true->Rep ok' w' ι' H' d v:=by
  intro ι1 x d v h
  induction h with
  |bool b=>intros;exact .bool b
  |int k n=>intros;exact .int k n
  |str s=>intros;exact .str s
  |nilp=>intros;exact .nilp
  |nilf=>intros;exact .nilf
  |nili=>intros;exact .nili
  |raw v=>intros;exact .raw v
  |agg p hc h i=>
   intro l g m;simp only[Ev.closed,qe7] at m;exact .agg p hc fun j d c=>i j d c l g (m d (mem_of_get? c))
  |tup p h i=>
   intro l g m;simp only[Ev.closed,qe7] at m;exact .tup p fun j d c=>i j d c l g (m d (mem_of_get? c))
  |fn p h i=>
   intro l g m;simp only[Ev.closed,qe7] at m;exact .fn p fun j d c=>i j d c l g (m d (mem_of_get? c))
  |iface h i=>intro l g m;exact .iface (i l g m)
  |optr a hi A=>
   intro l g m;subst l;subst g;simp only[Ev.closed,decide_eq_true_eq] at m;refine .optr a (vh m t.nle.2) fun ds' G=>?_;obtain⟨ds,r,I,E⟩:=t.heap _ m ds' G;obtain⟨L,C⟩:=A ds r;refine⟨wC,fun e=>?_⟩;obtain⟨b,s,F,B⟩:=C wC;exact⟨b,s,by rw[E wC];exact F,B⟩
  |osl a hi A y=>
   intro l g m;subst l;subst g;simp only[Ev.closed,decide_eq_true_eq] at m;refine .osl a (vh m t.nle.2) (fun ds' G=>?_) y;obtain⟨ds,r,I,E⟩:=t.heap _ m ds' G;obtain⟨L,C⟩:=A ds r;refine⟨wC,fun e=>?_⟩;obtain⟨b,s,F,B⟩:=C wC;exact⟨b,s,by rw[E wC];exact F,B⟩
  |vptr a f o hc u h i=>intros;exact .vptr a f (fun d r=>t.okU _ (o d r)) hc (fun j d c=>z a j _ (o d (mem_of_get? c)) (u j d c)) fun j d c=>q (h j d c) rfl rfl
  |vnil=>intros;exact .vnil
  |vsl a f o hc u h y i=>intros;exact .vsl a f (fun d r=>t.okU _ (o d r)) hc (fun j d c=>z a j _ (o d (mem_of_get? c)) (u j d c)) (fun j d c=>q (h j d c) rfl rfl) y
 exact main h rfl rfl hc
theorem Evol.refl(n:Nat)(b:n<=H.length):Evol n ok w ι H ok w ι H:=
 ⟨rfl,rfl,rfl,qA _,fun _ _ _=>rfl,fun _ h=>h,fun _ h _=>.inl h,⟨b,b⟩,fun _ _ ds a=>⟨ds,a,qA _,fun _=>rfl⟩,fun i ds _ s a hi _=>⟨i,ds,s,a,hi⟩⟩
theorem Evol.mono{n m:Nat}(a:Evol n ok w ι H ok' w' ι' H')(b:m<=n):Evol m ok w ι H ok' w' ι' H':=
 ⟨a.os,a.tape,a.output,a.size,a.frame,a.okU,a.okN,⟨by have:=a.nle;omega,by have:=a.nle;omega⟩,fun i hi=>a.heap i wC,a.own⟩
theorem Evol.trans{c:Nat->Prop}{l:World}{ι'':qV}{g:qe}{n:Nat}(h:Evol n ok w ι H ok' w' ι' H')(k:Evol n ok' w' ι' H' c l ι'' g):Evol n ok w ι H c l ι'' g where
 os:=k.os.trans h.os
 tape:=k.tape.trans h.tape
 output:=k.output.trans h.output
 size:=zI h.size k.size
 frame b a jc:=by
  rw[k.frame b (vh a h.size),h.frame b a jc];intro i ds s d hi;obtain⟨j,f,m,p,o⟩:=h.own i ds b s d hi a;exact jc j f m p o
 okU b a:=k.okU b (h.okU b a)
 okN b a qg:=by
  rcases k.okN b a (vh qg h.size) with a|⟨i,ds,s,d,hi⟩
  .exact h.okN b a qg
  .exact .inr (h.own i ds b s d hi qg)
 nle:=⟨h.nle.1,k.nle.2⟩
 heap i hi ds'' hd'':=by
  obtain⟨ds',q,v,t⟩:=k.heap i hi ds'' hd'';obtain⟨ds,d,r,u⟩:=h.heap i hi ds' q;exact⟨ds,d,wC,fun e=>by rw[t wC,u wC]⟩
 own i ds' b s d hi a:=by
  obtain⟨j,f,m,p,o⟩:=k.own i ds' b s d hi (vh a h.size);exact h.own j f b m p o a
def EnvRep(ok:Nat->Prop)(w:World)(ι:qV)(H:qe)(e:qu)(tmps:Array Value):Prop:=
 ∀t d,qi e t=some d->t<tmps.size/\Rep ok w ι H d (tmps.getD t undef)
def RepL(ok:Nat->Prop)(w:World)(ι:qV)(H:qe)(ds:List D)(vs:List Value):Prop:=
 vs.length=ds.length/\∀(j:Nat) d,ds[j]?=some d->Rep ok w ι H d (vs.getD j undef)
theorem EnvRep.put{e:qu}{tmps:Array Value}{t:Nat}{d:D}{v:Value}(c:EnvRep ok w ι H e tmps)(g:Rep ok w ι H d v)(b:t<tmps.size):
  EnvRep ok w ι H ((t,d)::e) (tmps.setIfInBounds t v):=by
 intro u d' a;simp only[qi] at a;by_cases h:t=u
 .subst h;simp only[if_true,qy] at a;subst a;simp[b,g,Array.getD]
 .simp only[h,if_false] at a;obtain⟨f,i⟩:=c u d' a;refine⟨xo,?_⟩
  have:(tmps.setIfInBounds t v).getD u undef=tmps.getD u undef:=by
   simp only[j7,qfH h]
  rw[this];exact i
theorem EnvRep.evol{X:Cx}{n:Nat}{e:qu}{tmps:Array Value}(b:EnvRep ok w ι H e tmps)(c:Sim X ok w ι H)(f:Evol n ok w ι H ok' w' ι' H')
  (hc:∀t d,qi e t=some d->Ev.closed n d=true):EnvRep ok' w' ι' H' e tmps:=
 fun t d a=>⟨(b t d a).1,(b t d a).2.evol c f (hc t d a)⟩
theorem EnvRep.evol'{X:Cx}{e:qu}{tmps:Array Value}(a:EnvRep ok w ι H e tmps)(c:Sim X ok w ι H)(f:Evol H.length ok w ι H ok' w' ι' H'):EnvRep ok' w' ι' H' e tmps:=
 a.evol c f fun t d b=>(a t d b).2.closed
end
end Go.Ev
namespace Go.Ev
section
variable {X:Cx} {P:Program} {ok:Nat->Prop} {w w':World} {ι:qV} {H:qe}
theorem ql9:∀d,closed 0 d=true->idFree d=true
 | .agg cs,h| .tup cs,h| .fn _ cs,h=>by
  simp only[closed,qe7,idFree,qdi] at h⊢;intro d a;exact ql9 d (h d a)
 | .iface _ d,h=>by simp only[closed,idFree] at h⊢;exact ql9 d h
 | .optr i _ _,h| .osl i _ _ _ _,h=>by simp[closed] at h
 | .bool _,_| .int _ _,_| .str _,_| .nilp,_| .nilf,_| .nili,_| .vptr _,_| .vsl _ _ _,_| .raw _,_=>rfl
theorem Rep.lift{d:D}{v:Value}(h:Rep ok w jB [] d v):Rep ok w ι H d v:=h.free (ql9 d h.closed) _ _
theorem qx{i:Nat}{ds:List D}(h:qd H i=some ds):i<H.length:=by
 unfold qd at h;rcases KE i H.length with b|a
 .exact b
 .rw[List.getElem?_eq_none a] at h;simp at h
theorem zk{i:Nat}{ds:List D}(h:i<H.length):qd (qn H i ds) i=some ds:=by
 simp[qd,qn,h]
theorem zW{i j:Nat}{ds:List D}(h:j≠i):qd (qn H i ds) j=qd H j:=by
 simp[qd,qn,Ne.symm h]
theorem kK{i:Nat}{ds:List D}:(qn H i ds).length=H.length:=by simp[qn]
theorem zo{ds:List D}:qd (qr H ds) H.length=some ds:=by simp[qd,qr]
theorem vw{ds:List D}{i:Nat}(h:i<H.length):qd (qr H ds) i=qd H i:=by
 simp[qd,qr,vJ h]
theorem jg{ds:List D}:(qr H ds).length=H.length+1:=by simp[qr]
def qa8(w w':World):Prop:=w'.os=w.os/\w'.tape=w.tape/\w'.output=w.output
theorem Sim.lt(d:Sim X ok w ι H){i:Nat}{ds:List D}{b s:Nat}(c:qd H i=some ds)(hi:ι i=some (b,s)):b<w.heap.size:=by
 obtain⟨b',arr,e,fr,a,g,f,_⟩:=d.blk i ds c;rw[hi] at a;injection a with a;injection a with a _;subst a;exact(Array.getElem?_eq_some_iff.1 f).1
theorem qfP{i:Nat}{ds ds':List D}{b sz b':Nat}{arr':Array Value}{e:TypeId}{fr:Nat×Nat}(r:Sim X ok w ι H)(A:qd H i=some ds)(C:ι i=some (b,sz))
  (M:qa8 w w') (P:w.heap.size<=w'.heap.size) (E:∀c,c<w.heap.size->c≠b->w'.heap[c]?=w.heap[c]?)
  (Y:w'.heap[b']?=some (.cells arr' e fr)) (x:(b'=b/\arr'.size=sz)\/(w.heap.size<=b'/\ds.length<ds'.length)) (G:ds.length<=ds'.length)
  (L:ds'.length<=arr'.size) (U:fr.1=fr.2\/arr'.size<=fr.1) (V:∀j,j<arr'.size->(arr'.getD j undef).oneCell'=true)
  (kP:∀d,d∈ds'->ju d=true) (y:∀(j:Nat) d,ds'[j]?=some d->Rep ok w ι H d (arr'.getD j undef)):
  ∃ι',Sim X ok w' ι' (qn H i ds')/\Evol H.length ok w ι H ok w' ι' (qn H i ds')/\ι' i=some (b',arr'.size):=by
 have hi:=qx A
 have T:¬ok b:=by
  intro hb;exact r.notOwn hb i ds sz A C
 refine⟨fun k=>if k=i then some (b',arr'.size) else ι k,?_⟩
 have v:Evol H.length ok w ι H ok w' (fun k=>if k=i then some (b',arr'.size) else ι k) (qn H i ds'):=by
  refine⟨M.1,M.2.1,M.2.2,P,?_,fun _ h=>h,fun _ h _=>.inl h,⟨qA _,by rw[kK];exact qA _⟩,?_,?_⟩
  .intro c hc R;exact E c hc (fun e=>R i ds sz A (by rw[C,e]))
  .intro k z t a;by_cases u:k=i
   .subst u;rw[zk hi] at a;injection a with a;subst a;refine⟨ds,A,G,fun O=>?_⟩;rcases x with⟨m,B⟩|⟨_,B⟩
    .simp only[if_true,m,B,C]
    .omega
   .rw[zW u] at a;exact⟨t,a,qA _,fun _=>by simp[u]⟩
  .intro k t c s a z hc;by_cases u:k=i
   .subst u;simp only[if_true,qy,zj] at z;rcases x with⟨m,B⟩|⟨m,_⟩
    .exact⟨k,ds,sz,A,by rw[C,<-z.1,m]⟩
    .omega
   .rw[zW u] at a;simp only[u,if_false] at z;exact⟨k,t,s,a,z⟩
 refine⟨⟨fun c hc=>vh (r.okS c hc) P,?_,?_,?_⟩,v,wE⟩
 .intro g cs hg;have h:=(r.glob g cs hg).lift (ι:=ι) (H:=H);have B:=h.evol r v rfl;exact B.free rfl _ _
 .intro p q t fs c s N I J o n
  have old:∀k,k≠i->∀t c s,qd H k=some t->ι k=some (c,s)->c≠b':=by
   intro k z t c s a hc O;rcases x with⟨m,_⟩|⟨m,_⟩
   .exact z (r.inj k i t ds c s sz a A hc (by rw[C,O,m]))
   .have:=r.lt a hc;omega
  by_cases f:p=i<;>by_cases l:q=i
  .rw[f,l]
  .subst f;rw[zW l] at J;simp only[if_true,l,if_false,qy,zj] at o n;exact absurd o.1.symm (old q l fs c N J n)
  .subst l;rw[zW f] at I;simp only[if_true,f,if_false,qy,zj] at o n;exact absurd n.1.symm (old p f t c s I o)
  .rw[zW f] at I;rw[zW l] at J;simp only[f,l,if_false] at o n;exact r.inj p q t fs c s N I J o n
 .intro k t a;by_cases u:k=i
  .subst u;rw[zk hi] at a;injection a with a;subst a;refine⟨b',arr',e,fr,wE,?_,Y,L,U,V,kP,fun j d F=>(y j d F).evol r v (y j d F).closed⟩;rcases x with⟨m,_⟩|⟨m,_⟩
   .rw[m];exact T
   .intro h;have:=r.okS _ h;omega
  .rw[zW u] at a;obtain⟨c,arr,e2,K,m,B,S,Z,h5,h6,W,Q⟩:=r.blk k t a;refine⟨c,arr,e2,K,by simp[u,m],B,?_,Z,h5,h6,W,fun j d F=>(Q j d F).evol r v (Q j d F).closed⟩;rw[E c (r.lt a m)]
   .exact S
   .rintro rfl;exact u (r.inj k i t ds c arr.size sz a A m C)
theorem qm5{ds:List D}{b':Nat}{arr:Array Value}{e:TypeId}{fr:Nat×Nat}(l:Sim X ok w ι H)
  (A:qa8 w w') (G:w.heap.size<=w'.heap.size) (r:∀c,c<w.heap.size->w'.heap[c]?=w.heap[c]?)
  (T:w'.heap[b']?=some (.cells arr e fr)) (M:w.heap.size<=b')
  (z:ds.length<=arr.size) (P:fr.1=fr.2\/arr.size<=fr.1) (R:∀j,j<arr.size->(arr.getD j undef).oneCell'=true)
  (Y:∀d,d∈ds->ju d=true) (o:∀(j:Nat) d,ds[j]?=some d->Rep ok w ι H d (arr.getD j undef)):
  ∃ι',Sim X ok w' ι' (qr H ds)/\Evol H.length ok w ι H ok w' ι' (qr H ds)/\ι' H.length=some (b',arr.size):=by
 refine⟨fun k=>if k=H.length then some (b',arr.size) else ι k,?_⟩
 have m:Evol H.length ok w ι H ok w' (fun k=>if k=H.length then some (b',arr.size) else ι k) (qr H ds):=by
  refine⟨A.1,A.2.1,A.2.2,G,fun c hc _=>r c hc,fun _ h=>h,fun _ h _=>.inl h,⟨qA _,wX⟩,?_,?_⟩
  .intro k n b a;rw[vw n] at a;exact⟨b,a,qA _,fun _=>by simp[Jb n]⟩
  .intro k b c s a n hc;by_cases x:k=H.length
   .subst x;simp only[if_true,qy,zj] at n;omega
   .have v:k<H.length:=by
     have:=qx a;rw[jg] at this;omega
    rw[vw v] at a;simp only[x,if_false] at n;exact⟨k,b,s,a,n⟩
 have split:∀k b,qd (qr H ds) k=some b->(k=H.length/\b=ds)\/(k<H.length/\qd H k=some b):=by
  intro k b a;by_cases x:k=H.length
  .subst x;rw[zo] at a;injection a with a;exact .inl ⟨rfl,a.symm⟩
  .have v:k<H.length:=by
    have:=qx a;rw[jg] at this;omega
   rw[vw v] at a;exact .inr ⟨v,a⟩
 refine⟨⟨fun c hc=>vh (l.okS c hc) G,?_,?_,?_⟩,m,wE⟩
 .intro g cs Z;have h:=(l.glob g cs Z).lift (ι:=ι) (H:=H);have B:=h.evol l m rfl;exact B.free rfl _ _
 .intro p q b fs c s O L Q i f;rcases split p b L with⟨rfl,_⟩|⟨F,I⟩<;>rcases split q fs Q with⟨rfl,_⟩|⟨C,K⟩
  .rfl
  .simp only[if_true,Jb C,if_false,qy,zj] at i f;have:=l.lt K f;omega
  .simp only[if_true,Jb F,if_false,qy,zj] at i f;have:=l.lt I i;omega
  .simp only[Jb F,Jb C,if_false] at i f;exact l.inj p q b fs c s O I K i f
 .intro k b a;rcases split k b a with⟨rfl,rfl⟩|⟨n,a⟩
  .exact⟨b',arr,e,fr,wE,fun h=>by have:=l.okS _ h;omega,T,z,P,R,Y,fun j d u=>(o j d u).evol l m (o j d u).closed⟩
  .obtain⟨c,t,e2,y,E,B,N,U,V,W,S,J⟩:=l.blk k b a;refine⟨c,t,e2,y,by simp[Jb n,E],B,?_,U,V,W,S,fun j d u=>(J j d u).evol l m (J j d u).closed⟩;rw[r c (l.lt a E)];exact N
theorem q3d{i:Nat}:qd (JP H i) i=none:=by
 unfold qd JP;by_cases h:i<H.length
 .simp[h]
 .rw[List.getElem?_eq_none (by rw[vI];omega)];rfl
theorem qtg{i j:Nat}(h:j≠i):qd (JP H i) j=qd H j:=by
 unfold qd JP;rw[List.getElem?_set_ne (fun e=>h e.symm)]
theorem qaW{i:Nat}:(JP H i).length=H.length:=by simp[JP]
theorem qm6{i:Nat}{ds ds':List D}{b sz b':Nat}{arr':Array Value}{e:TypeId}{fr:Nat×Nat}(o:Sim X ok w ι H)(y:qd H i=some ds)(A:ι i=some (b,sz))
  (G:qa8 w w') (N:w.heap.size<=w'.heap.size) (z:∀c,c<w.heap.size->c≠b->w'.heap[c]?=w.heap[c]?)
  (zR:w'.heap[b']?=some (.cells arr' e fr)) (x:b'=b\/w.heap.size<=b')
  (F:ds'.length<=arr'.size) (V:fr.1=fr.2\/arr'.size<=fr.1) (Y:∀j,j<arr'.size->(arr'.getD j undef).oneCell'=true)
  (kP:∀d,d∈ds'->ju d=true) (v:∀(j:Nat) d,ds'[j]?=some d->Rep ok w ι H d (arr'.getD j undef)):
  ∃ι',Sim X ok w' ι' (qr (JP H i) ds')/\Evol H.length ok w ι H ok w' ι' (qr (JP H i) ds')/\ι' H.length=some (b',arr'.size):=by
 have hi:=qx y
 have U:¬ok b:=by
  intro hb;exact o.notOwn hb i ds sz y A
 have split:∀k f,qd (qr (JP H i) ds') k=some f->(k=H.length/\f=ds')\/(k<H.length/\k≠i/\qd H k=some f):=by
  intro k f a;by_cases I:k=H.length
  .subst I;rw[<-qaW (H:=H) (i:=i),zo] at a;injection a with a;exact .inl ⟨rfl,a.symm⟩
  .have L:k<H.length:=by
    have:=qx a;rw[jg,qaW] at this;omega
   rw[vw (by rw[qaW];exact L)] at a;by_cases r:k=i
   .subst r;rw[q3d] at a;cases a
   .rw[qtg r] at a;exact .inr ⟨L,r,a⟩
 refine⟨fun k=>if k=H.length then some (b',arr'.size) else ι k,?_⟩
 have u:Evol H.length ok w ι H ok w' (fun k=>if k=H.length then some (b',arr'.size) else ι k) (qr (JP H i) ds'):=by
  refine⟨G.1,G.2.1,G.2.2,N,?_,fun _ h=>h,fun _ h _=>.inl h,⟨qA _,by rw[jg,qaW];omega⟩,?_,?_⟩
  .intro c hc S;exact z c hc (fun e=>S i ds sz y (by rw[A,e]))
  .intro k t f a;rcases split k f a with⟨rfl,_⟩|⟨_,_,r⟩
   .omega
   .exact⟨f,r,qA _,fun _=>by simp[Jb t]⟩
  .intro k f c s a t hc;rcases split k f a with⟨rfl,_⟩|⟨l,_,r⟩
   .simp only[if_true,qy,zj] at t;rcases x with l|l
    .exact⟨i,ds,sz,y,by rw[A,<-t.1,l]⟩
    .omega
   .simp only[Jb l,if_false] at t;exact⟨k,f,s,r,t⟩
 refine⟨⟨fun c hc=>vh (o.okS c hc) N,?_,?_,?_⟩,u,wE⟩
 .intro g cs hg;have h:=(o.glob g cs hg).lift (ι:=ι) (H:=H);have r:=h.evol o u rfl;exact r.free rfl _ _
 .intro p q f fs c s K R W n m
  have old:∀k,k≠i->∀f c s,qd H k=some f->ι k=some (c,s)->c≠b':=by
   intro k t f c s a hc Z;rcases x with l|l
   .exact t (o.inj k i f ds c s sz a y hc (by rw[A,Z,l]))
   .have:=o.lt a hc;omega
  rcases split p f R with⟨rfl,_⟩|⟨M,E,O⟩<;>rcases split q fs W with⟨rfl,_⟩|⟨J,Vl,Q⟩
  .rfl
  .simp only[if_true,Jb J,if_false,qy,zj] at n m;exact absurd n.1.symm (old q Vl fs c K Q m)
  .simp only[if_true,Jb M,if_false,qy,zj] at n m;exact absurd m.1.symm (old p E f c s O n)
  .simp only[Jb M,Jb J,if_false] at n m;exact o.inj p q f fs c s K O Q n m
 .intro k f a;rcases split k f a with⟨rfl,rfl⟩|⟨t,I,a⟩
  .refine⟨b',arr',e,fr,wE,?_,zR,F,V,Y,kP,fun j d B=>(v j d B).evol o u (v j d B).closed⟩;rcases x with l|l
   .rw[l];exact U
   .intro h;have:=o.okS _ h;omega
  .obtain⟨c,arr,e2,C,l,r,T,h4,h5,h6,h7,P⟩:=o.blk k f a;refine⟨c,arr,e2,C,by simp[Jb t,l],r,?_,h4,h5,h6,h7,fun j d B=>(P j d B).evol o u (P j d B).closed⟩;rw[z c (o.lt a l)]
   .exact T
   .rintro rfl;exact I (o.inj k i f ds c arr.size sz a y l A)
theorem qwT(b:Sim X ok w ι H)(m:qa8 w w')(f:w'.heap=w.heap):Sim X ok w' ι H/\Evol H.length ok w ι H ok w' ι H:=by
 have a:Evol H.length ok w ι H ok w' ι H:=
  ⟨m.1,m.2.1,m.2.2,by rw[f];exact qA _,fun _ _ _=>by rw[f],fun _ h=>h,fun _ h _=>.inl h,⟨qA _,qA _⟩,fun _ _ ds n=>⟨ds,n,qA _,fun _=>rfl⟩,
   fun i ds _ s n hi _=>⟨i,ds,s,n,hi⟩⟩
 refine⟨⟨fun c hc=>by rw[f];exact b.okS c hc,fun g cs A=>?_,b.inj,fun k t u=>?_⟩,a⟩
 .have h:=(b.glob g cs A).lift (ι:=ι) (H:=H);exact(h.evol b a rfl).free rfl _ _
 .obtain⟨c,e,e2,l,r,B,q,x,y,z,v,p⟩:=b.blk k t u;exact⟨c,e,e2,l,r,B,by rw[f];exact q,x,y,z,v,fun j d o=>(p j d o).evol b a (p j d o).closed⟩
theorem Vq(b o j:Nat):(⟨b,o,none⟩:Addr).add j=⟨b,o+j,none⟩:=by
 unfold Addr.add;split
 .simp_all
 .rfl
theorem qiL(a:Addr)(i j:Nat):(a.add i).add j=a.add (i+j):=by
 unfold Addr.add;by_cases hi:i=0<;>by_cases b:j=0<;>simp[hi,b,qgV]
theorem qoO{p:D}{cs:List D}{a:Addr}(x:Sim X ok w ι H)(n:Rep ok w ι H p (.pointer (some a)))(c:mem H p=some cs):
  (∀d,d∈cs->ju d=true)/\∃f:Nat->Value,∀(j:Nat) d,cs[j]?=some d->w.cell? (a.add j)=some (f j)/\Rep ok w ι H d (f j):=by
 cases n with
 |raw v=>simp[mem] at c
 |vptr a f A hc q h=>
  simp only[mem,qy] at c;subst c;exact⟨hc,f,fun j d k=>⟨q j d k,(h j d k).lift⟩⟩
 |optr a hi h=>
  rename_i i st off;simp only[mem] at c;split at c
  .rename_i ds l;split at c
   .rename_i m;injection c with c;subst c;obtain⟨b,s,z,rfl⟩:=(h ds l).2 m;obtain⟨b',arr,e,fr,g,B,o,u,E,C,r,y⟩:=x.blk i ds l;rw[z] at g;injection g with g;injection g with g _;subst g;refine⟨fun d l=>r d (Z0 l),fun j=>arr.getD (off+j) undef,fun j d k=>?_⟩;rw[kX] at k;refine⟨?_,y _ d k⟩;have t:off+j<arr.size:=vh (List.getElem?_eq_some_iff.1 k).1 u;rw[Vq];simp[World.cell?,o,t]
   .cases c
  .cases c
theorem qhV{t:TypeId}{q:Bool}(h:KC P t=some q)(w:World):(isAgg t).run P w=.ok q w:=by
 unfold KC at h;unfold isAgg;rw[Sem.run_bind];cases a:P.underlying t with
 |none=>simp[a] at h
 |some d=>rw[run_underlying a w];cases d<;>simp_all
theorem q2D{t:TypeId}{d:TypeDesc}(h:P.underlying t=some d):∃i,P.info? t=some i:=by
 cases hi:P.info? t with
 |some i=>exact⟨i,rfl⟩
 |none=>
  unfold Program.underlying at h;rw[hi] at h;simp at h
end
end Go.Ev
namespace Go.Ev
section
variable {X:Cx} {P:Program} {ok:Nat->Prop} {w w':World} {ι:qV} {H H':qe}
theorem QB{t:TypeId}(h:0<qw P t)(w:World):(sizeOf t).run P w=.ok (qw P t) w:=by
 unfold qw at h⊢;cases hi:P.info? t with
 |none=>simp[hi] at h
 |some i=>simp[sizeOf,typeInfo,hi]
theorem qjw{t:TypeId}{d:TypeDesc}(h:P.underlying t=some d)(w:World):(sizeOf t).run P w=.ok (qw P t) w:=by
 obtain⟨i,hi⟩:=q2D h;simp[sizeOf,typeInfo,hi,qw]
theorem qgs{t:TypeId}(h:0<qw P t):∃i,P.info? t=some i/\i.size=qw P t/\i.bytes=bytesOf P t:=by
 unfold qw bytesOf at *;cases hi:P.info? t with
 |none=>simp[hi] at h
 |some i=>exact⟨i,rfl,wE,wE⟩
theorem qom{v:Value}{d:D}(h:qel v=some d):Rep ok w ι H d v:=by
 unfold qel at h;split at h<;>cases h
 .exact .bool _
 .exact .int _ _
 .rename_i s;have:s=⟨s.data.toList.toArray⟩:=by simp
  rw[this];exact .str _
 .exact .nilp
 .exact .vnil
 .exact .nilf
 .exact .nili
theorem qzE{v:Value}{d:D}(h:qel v=some d):ju d=true:=by
 unfold qel at h;split at h<;>cases h<;>rfl
theorem qok:∀{l:List Value}{ds:List D},qek l=some ds->l.length=ds.length/\(∀d,d∈ds->ju d=true)/\∀(j:Nat) d,ds[j]?=some d->Rep ok w ι H d (l.getD j undef)
 |[],ds,h=>by
  simp only[qek,qy] at h;subst h;simp
 |v::l,ds,h=>by
  simp only[qek] at h;split at h
  .rename_i d ds' a e;injection h with h;subst h;obtain⟨c,f,b⟩:=qok e;refine⟨by simp[c],?_,?_⟩
   .intro x hx;rcases List.mem_cons.1 hx with rfl|hx
    .exact qzE a
    .exact f x hx
   .intro j x hx;cases j with
    |zero=>
     simp only[kY,qy] at hx;subst hx;exact qom a
    |succ j=>exact b j x wo
  .cases h
theorem qol{v:Value}{d:D}(h:qgg v=some d):Rep ok w ι H d v:=by
 unfold qgg at h;split at h
 .rename_i cs;cases a:qek cs.toList with
  |none=>simp[a] at h
  |some ds=>
   simp only[a,j6,qy] at h;subst h;obtain⟨c,e,b⟩:=qok (ok:=ok) (w:=w) (ι:=ι) (H:=H) a;refine .agg wS e fun j d f=>?_;have:=b j d f;simpa[j7,jv] using this
 .exact qom h
theorem vm(c:Sim X ok w ι H){e:qu}{a:Act}(i:EnvRep ok w ι H e a.tmps){x:Operand}{d:D}(h:qZ X e x=some d):Rep ok w ι H d (a.eval x):=by
 cases x with
 |tmp t=>exact(i t d h).2
 |const v=>exact qol h
 |func f=>
  simp only[qZ,qy] at h;subst h;exact .fn rfl wE
 |global g=>
  simp only[qZ] at h;cases b:X.glob g with
  |none=>simp[b] at h
  |some cs=>
   simp only[b,j6,qy] at h;subst h;exact(c.glob g cs b).lift
theorem qge(b:Sim X ok w ι H){e:qu}{a:Act}(c:EnvRep ok w ι H e a.tmps):∀{l:List Operand}{ds:List D},vR X e l=some ds->RepL ok w ι H ds (l.map a.eval)
 |[],ds,h=>by
  simp only[vR,qy] at h;subst h;exact⟨rfl,wE⟩
 |x::l,ds,h=>by
  simp only[vR] at h;split at h
  .rename_i d ds' g i;injection h with h;subst h;obtain⟨f,k⟩:=qge b c i;refine⟨xo,fun j x hx=>?_⟩;cases j with
   |zero=>
    simp only[kY,qy] at hx;subst hx;exact vm b c g
   |succ j=>exact k j x wo
  .cases h
def Post(X:Cx)(n:Nat)(ok:Nat->Prop)(w:World)(ι:qV)(H:qe)(d:D)(H':qe)(v:Value)(w':World):Prop:=
 ∃ι' ok',Sim X ok' w' ι' H'/\Rep ok' w' ι' H' d v/\Evol n ok w ι H ok' w' ι' H'
theorem Post.same(a:Sim X ok w ι H){d:D}{v:Value}(h:Rep ok w ι H d v):Post X H.length ok w ι H d H v w:=
 ⟨ι,ok,a,h,.refl _ (qA _)⟩
theorem qb5{d:D}{v:Value}{cs:List D}(h:Rep ok w ι H d v)(hc:cellsOf d=some cs):
  v.cells.size=cs.length/\(∀d,d∈cs->ju d=true)/\∀(j:Nat) d,cs[j]?=some d->Rep ok w ι H d (v.cells.getD j undef):=by
 have c:∀{d:D}{v:Value},Rep ok w ι H d v->ju d=true->v.cells= #[v]->(#[v]:Array Value).size=[d].length/\(∀x,x∈[d]->ju x=true)/\∀(j:Nat) x,[d][j]?=some x->Rep ok w ι H x ((#[v]:Array Value).getD j undef):=by
  intro d v h p _;refine⟨rfl,by simpa using p,fun j x hx=>?_⟩;cases j with
  |zero=>
   simp only[kY,qy] at hx;subst hx;exact h
  |succ j=>simp at hx
 cases h with
 |agg e l h=>
  simp only[cellsOf,qy] at hc;subst hc;exact⟨e,l,h⟩
 |tup e h=>simp[cellsOf] at hc
 |raw v=>simp[cellsOf] at hc
 |bool b=>simp only[cellsOf,qy] at hc;subst hc;exact c (.bool b) rfl rfl
 |int k n=>simp only[cellsOf,qy] at hc;subst hc;exact c (.int k n) rfl rfl
 |str s=>simp only[cellsOf,qy] at hc;subst hc;exact c (.str s) rfl rfl
 |nilp=>simp only[cellsOf,qy] at hc;subst hc;exact c .nilp rfl rfl
 |nilf=>simp only[cellsOf,qy] at hc;subst hc;exact c .nilf rfl rfl
 |nili=>simp only[cellsOf,qy] at hc;subst hc;exact c .nili rfl rfl
 |vptr a f i m g h=>simp only[cellsOf,qy] at hc;subst hc;exact c (.vptr a f i m g h) rfl rfl
 |optr a hi h=>simp only[cellsOf,qy] at hc;subst hc;exact c (.optr a hi h) rfl rfl
 |vnil=>simp only[cellsOf,qy] at hc;subst hc;exact c .vnil rfl rfl
 |vsl a f i m g h o=>simp only[cellsOf,qy] at hc;subst hc;exact c (.vsl a f i m g h o) rfl rfl
 |osl a hi h o=>simp only[cellsOf,qy] at hc;subst hc;exact c (.osl a hi h o) rfl rfl
 |fn e h=>simp only[cellsOf,qy] at hc;subst hc;exact c (.fn e h) rfl rfl
 |iface h=>simp only[cellsOf,qy] at hc;subst hc;exact c (.iface h) rfl rfl
theorem Rep.ptr{p:D}{v:Value}{cs:List D}(h:Rep ok w ι H p v)(b:mem H p=some cs):∃a,v=.pointer (some a):=by
 cases h<;>first|(simp[mem] at b;done)|exact⟨_,rfl⟩
theorem q39{f:Nat->Value}{n j:Nat}(h:j<n):(((List.range n).map f).toArray).getD j undef=f j:=by
 simp[h]
theorem qpa{p d:D}{pv:Value}{t:TypeId}(n:Sim X ok w ι H)(k:Rep ok w ι H p pv)(h:ldD P H t p=some d):
  ∃v,(Instr.loadAt t pv).run P w=.ok v w/\Rep ok w ι H d v:=by
 unfold ldD at h;split at h
 .rename_i cs i g;split at h
  .rename_i s;injection h with h;subst h;obtain⟨a,rfl⟩:=k.ptr g;obtain⟨hc,f,l⟩:=qoO n k g;have r:∀j,j<qw P t->∃d,cs[j]?=some d:=fun j b=>⟨cs[j],qN wC⟩
   have u:=run_loadCells (P:=P) w a (qw P t) f (fun j b=>by
    obtain⟨d,m⟩:=r j b;exact(l j d m).1)
   have e:∃c,P.underlying t=some c:=by
    unfold KC at i;cases e:P.underlying t with
    |none=>simp[e] at i
    |some x=>exact⟨x,rfl⟩
   obtain⟨c,e⟩:=e;refine⟨.agg ((List.range (qw P t)).map f).toArray,?_,?_⟩
   .simp[Instr.loadAt,Instr.sureAddr,loadVar,qhV i,qjw e,u]
   .refine .agg wG (fun d m=>hc d (QZ m)) fun j d b=>?_;rw[Xw] at b;split at b
    .rename_i y;rw[q39 y];exact(l j d b).2
    .cases b
  .cases h
 .rename_i d' q i g;injection h with h;subst h;obtain⟨a,rfl⟩:=k.ptr g;obtain⟨hc,f,l⟩:=qoO n k g;obtain⟨o,z⟩:=l 0 d' rfl;refine⟨f 0,?_,z⟩;have:a.add 0=a:=rfl;rw[this] at o;simp[Instr.loadAt,Instr.sureAddr,loadVar,qhV i,o]
 .cases h
theorem YI{b o:Nat}{arr:Array Value}{e:TypeId}{fr:Nat×Nat}(h:w.heap[b]?=some (.cells arr e fr)):w.cell? ⟨b,o,none⟩=arr[o]?:=by
 simp[World.cell?,h]
theorem qij{b o:Nat}{arr:Array Value}{e:TypeId}{fr:Nat×Nat}(h:w.heap[b]?=some (.cells arr e fr)):w.frozen? ⟨b,o,none⟩=(decide (fr.1<=o)&&decide (o<fr.2)):=by
 simp[World.frozen?,h]
theorem qhj(b o:Nat)(e:TypeId)(fr:Nat×Nat):∀(vs:List Value)(i:Nat)(arr:Array Value)(w:World),w.heap[b]?=some (.cells arr e fr)->o+i+vs.length<=arr.size->
  (∀v,v∈vs->v.oneCell'=true)->(∀j,j<arr.size->¬(fr.1<=j/\j<fr.2))->
  ∃w' arr',(storeCells ⟨b,o,none⟩ vs i).run P w=.ok () w'/\qa8 w w'/\w'.heap.size=w.heap.size/\(∀c,c≠b->w'.heap[c]?=w.heap[c]?)/\w'.heap[b]?=some (.cells arr' e fr)/\arr'.size=arr.size/\
   ∀j,arr'[j]?=if o+i<=j/\j<o+i+vs.length then vs[j-(o+i)]? else arr[j]?
 |[],i,arr,w,a,k,d,g=>by
  refine⟨w,arr,rfl,⟨rfl,rfl,rfl⟩,rfl,fun _ _=>rfl,a,rfl,fun j=>?_⟩;rw[if_neg wE]
 |v::vs,i,arr,w,a,k,d,g=>by
  simp only[jA] at k;have f:o+i<arr.size:=wC
  have A:w.cell? ⟨b,o+i,none⟩=some arr[o+i]:=by rw[YI a];simp[f]
  have n:w.frozen? ⟨b,o+i,none⟩=false:=by
   rw[qij a];have:=g _ f;simp only[Bool.and_eq_false_iff,decide_eq_false_iff_not];omega
  have x:(w.setCell ⟨b,o+i,none⟩ v).heap[b]?=some (.cells (arr.setIfInBounds (o+i) v) e fr):=by
   simp[World.setCell,qlX,a]
  obtain⟨w',arr',y,h,q,z,s,t,r⟩:=qhj b o e fr vs (i+1) (arr.setIfInBounds (o+i) v) (w.setCell ⟨b,o+i,none⟩ v) x wG
   (fun u p=>d u (vq _ p)) xF
  refine⟨w',arr',?_,⟨h.1,h.2.1,h.2.2⟩,by simpa[World.setCell] using q,?_,s,by simpa using t,?_⟩
  .simp only[storeCells,Sem.run_bind,Vq,run_store P w _ v .plain (d v (Z1 ..)),A,n,kZ,if_false,Result.andThen_ok];exact y
  .intro c hc;rw[z c hc];simp[World.setCell,qlX,Ne.symm hc]
  .intro j;rw[r j];simp only[jA];by_cases m:j=o+i
   .subst m;rw[if_neg wC,if_pos wC];simp[f]
   .by_cases l:o+(i+1)<=j/\j<o+(i+1)+vs.length
    .rw[if_pos l,if_pos wC];have:j-(o+i)=(j-(o+(i+1)))+1:=wC;rw[this,qeF]
    .rw[if_neg l,if_neg wC];rw[qfH wC]
theorem qeQ{ds xs:List D}{off:Nat}(h:off+xs.length<=ds.length):(zU ds off xs).length=ds.length:=by
 simp[zU];omega
theorem qmX{ds xs:List D}{off:Nat}(h:off+xs.length<=ds.length)(j:Nat):(zU ds off xs)[j]?=if off<=j/\j<off+xs.length then xs[j-off]? else ds[j]?:=by
 unfold zU;have a:(ds.take off).length=off:=wG
 by_cases b:j<off
 .rw[if_neg wC,jY,vJ wC,Xw,if_pos b]
 .by_cases c:j<off+xs.length
  .rw[if_pos wC,jY,jn wC,vJ wC,a]
  .rw[if_neg wC,jn wG,kX];congr 1;simp;omega
theorem qoM{ds xs:List D}{off:Nat}{d:D}(h:d∈zU ds off xs):d∈ds\/d∈xs:=by
 unfold zU at h;simp only[vj] at h;rcases h with(h|h)|h
 .exact .inl (QZ h)
 .exact .inr h
 .exact .inl (Z0 h)
theorem qja{i st off b sz:Nat}{ds xs:List D}{vs:List Value}{a:Addr}(n:Sim X ok w ι H)(s:qd H i=some ds)(_hst:ds.length=st)(m:ι i=some (b,sz))(G:a=⟨b,off,none⟩)
  (g:off+xs.length<=ds.length) (t:vs.length=xs.length) (hc:∀d,d∈xs->ju d=true) (hx:∀(j:Nat) d,xs[j]?=some d->Rep ok w ι H d (vs.getD j undef)):
  ∃w' ι',(storeCells a vs).run P w=.ok () w'/\Sim X ok w' ι' (qn H i (zU ds off xs))/\Evol H.length ok w ι H ok w' ι' (qn H i (zU ds off xs)):=by
 obtain⟨b',arr,e,fr,l,O,B,R,r,I,C,z⟩:=n.blk i ds s;rw[m] at l;injection l with l;injection l with l E;subst l;subst G
 have p:∀v,v∈vs->v.oneCell'=true:=by
  intro v x;obtain⟨j,f⟩:=List.mem_iff_getElem?.1 x;have u:j<vs.length:=(List.getElem?_eq_some_iff.1 f).1;have o:xs[j]?=some (xs[j]' wC):=qN wC;have h:=hx j _ o;rw[jv,f] at h;exact h.oneCell (hc _ (mem_of_get? o))
 obtain⟨w',arr',J,M,S,y,L,q,F⟩:=qhj (P:=P) b off e fr vs 0 arr w B wC p (qih r)
 have qd:∀j,j<arr.size->arr'.getD j undef=if off<=j/\j<off+xs.length then vs.getD (j-off) undef else arr.getD j undef:=by
  intro j f;simp only[j7,F j,jv,Nat.add_zero,t];split<;>rfl
 obtain⟨ι',N,A,Q⟩:=qfP (i:=i) (ds:=ds) (ds':=zU ds off xs) (b:=b) (sz:=sz) (b':=b) (arr':=arr') (e:=e) (fr:=fr) (w':=w') n s m M wC (fun c _ hc=>y c hc) L (.inl ⟨rfl,wC⟩)
  (by rw[qeQ g];exact qA _) (by rw[qeQ g];omega) (by rw[q];exact r)
  (by
   intro j f;rw[q] at f;rw[qd j f];by_cases k:off<=j/\j<off+xs.length
   .rw[if_pos k];have:j-off<vs.length:=wC;rw[jv,qN this];exact p _ (vQ this)
   .rw[if_neg k];exact I j f)
  (by
   intro d K;rcases qoM K with h|h
   .exact C d h
   .exact hc d h)
  (by
   intro j d f
   have u:j<ds.length:=by
    have:=(List.getElem?_eq_some_iff.1 f).1
    rwa [qeQ g] at this
   rw[qd j wC];rw[qmX g] at f;split at f
   .rename_i k;rw[if_pos k];exact hx _ d f
   .rename_i k;rw[if_neg k];exact z j d f)
 exact⟨w',ι',J,N,A⟩
theorem qwR{p x:D}{pv f:Value}{t:TypeId}(r:Sim X ok w ι H)(m:Rep ok w ι H p pv)(hx:Rep ok w ι H x f)(h:stD P H t p x=some H'):
  ∃w' ι',(Instr.storeAt t pv f).run P w=.ok () w'/\Sim X ok w' ι' H'/\Evol H.length ok w ι H ok w' ι' H':=by
 unfold stD at h;split at h
 .rename_i i st off xs e;split at h
  .rename_i ds l;split at h
   .rename_i c;obtain⟨k,y,n,z,_⟩:=c;injection h with h;subst h;cases m with
    |optr a hi u=>
     obtain⟨b,s,o,rfl⟩:=(u ds l).2 k;obtain⟨g,v,B⟩:=qb5 hx e
     obtain⟨w',ι',A,E,C⟩:=qja (P:=P) (vs:=f.cells.toList) r l k o rfl z xF v (fun j d q=>by
      have:=B j d q;simpa[j7,jv] using this)
     refine⟨w',ι',?_,E,C⟩;simp[Instr.storeAt,Instr.sureAddr,storeVar,QB n,g,y,A]
   .cases h
  .cases h
 .cases h
end
end Go.Ev
namespace Go.Ev
section
variable {X:Cx} {P:Program} {ok:Nat->Prop} {w w':World} {ι:qV} {H H':qe}
theorem qnM{p m:D}{v:Value}{k:Nat}(n:Rep ok w ι H p v)(h:qgb k p=some m):∃a,v=.pointer (some a)/\Rep ok w ι H m (.pointer (some (a.add k))):=by
 cases n<;>simp only[qgb,reduceCtorEq] at h
 .rename_i ds a f q hc o g;injection h with h;subst h;refine⟨a,rfl,.vptr (a.add k) (fun j=>f (k+j)) (fun d c=>by rw[qeA];exact q d (Z0 c)) (fun d c=>hc d (Z0 c)) (fun j d l=>?_) (fun j d l=>?_)⟩
  .rw[qiL];exact o _ d (by simpa[kX] using l)
  .exact g _ d (by simpa[kX] using l)
 .rename_i i st off a hi g;injection h with h;subst h;refine⟨a,rfl,.optr _ hi fun ds c=>⟨(g ds c).1,fun e=>?_⟩⟩;obtain⟨b,s,r,rfl⟩:=(g ds c).2 e;exact⟨b,s,r,Vq _ _ _⟩
theorem q4m{s:TypeId}{p g:D}{v:Value}{f:Nat}(j:Rep ok w ι H p v)(h:qip P s p f=some g):
  ∃e,(Instr.fieldAt s v f).run P w=.ok e w/\Rep ok w ι H g e:=by
 unfold qip qg4 at h;cases b:P.underlying s with
 |none=>simp[b] at h
 |some d=>
  cases d<;>simp only[b,reduceCtorEq] at h;rename_i fs;cases c:fs[f]? with
  |none=>simp[c] at h
  |some l=>
   simp only[c] at h;split at h
   .cases h
   .rename_i i;obtain⟨a,rfl,k⟩:=qnM j h;refine⟨_,?_,k⟩;simp[Instr.fieldAt,run_underlying b,c,Instr.sureAddr,fieldPlace,QB (Nat.pos_of_ne_zero i),i]
theorem q2I{t:TypeId}{x i u:D}{v q:Value}(hx:Rep ok w ι H x v)(hi:Rep ok w ι H i q)(h:qhY P t x i=some u):
  ∃r,(Instr.indexAt t v q).run P w=.ok r w/\Rep ok w ι H u r:=by
 unfold qhY at h;split at h
 .rename_i n e k i g;split at h
  .rename_i hc;obtain⟨a,rfl,o⟩:=qnM hx h;cases hi;refine⟨_,?_,o⟩;simp[Instr.indexAt,asIntOf,run_underlying g,Instr.sureAddr,hc.1,hc.2.1,QB hc.2.2]
  .cases h
 .rename_i e cs m k i g;split at h
  .rename_i hc;injection h with h;subst h;cases hi;cases hx with
   |vsl a f y A o l B=>
    refine⟨.pointer (some (a.add (i.toNat*qw P e))),?_,.vptr _ (fun j=>f (i.toNat*qw P e+j)) (fun d c=>by rw[qeA];exact y d (Z0 c)) (fun d c=>A d (Z0 c)) (fun j d p=>?_) (fun j d p=>?_)⟩
    .simp[Instr.indexAt,asIntOf,run_underlying g,hc.1,hc.2.1,QB hc.2.2]
    .rw[qiL];exact o _ d (by simpa[kX] using p)
    .exact l _ d (by simpa[kX] using p)
  .cases h
 .rename_i e id st off m k' k i g;split at h
  .rename_i hc;injection h with h;subst h;cases hi;cases hx with
   |osl a hi l B=>
    refine⟨.pointer (some (a.add (i.toNat*qw P e))),?_,.optr _ hi fun ds c=>⟨(l ds c).1,fun e=>?_⟩⟩
    .simp[Instr.indexAt,asIntOf,run_underlying g,hc.1,hc.2.1,QB hc.2.2]
    .obtain⟨b,s,z,rfl,_⟩:=(l ds c).2 e;exact⟨b,s,z,Vq _ _ _⟩
  .cases h
 .cases h
theorem qfa{t:TypeId}{cs:List D}{vs:Array Value}{off:Nat}{d:D}(hx:Rep ok w ι H (.agg cs) (.agg vs))(h:qaR P t cs off=some d):
  ∃v,(part t vs off).run P w=.ok v w/\Rep ok w ι H d v:=by
 cases hx with
 |agg l hc g=>
  unfold qaR at h;split at h
  .rename_i b;split at h
   .rename_i k;injection h with h;subst h
    obtain⟨a,e⟩:∃a,P.underlying t=some a:=by
     unfold KC at b;cases e:P.underlying t with
     |none=>simp[e] at b
     |some x=>exact⟨x,rfl⟩
    refine⟨.agg (vs.extract off (off+qw P t)),by simp[part,qhV b,qjw e],?_⟩;refine .agg wG (fun d i=>hc d (Z0 (QZ i))) fun j d c=>?_;rw[Xw] at c;split at c
    .rename_i m;rw[kX] at c;have:=g _ d c;rw[j7] at this⊢;rw[Array.getElem?_extract];rw[if_pos wC];exact this
    .cases c
   .cases h
  .rename_i b;have f:off<vs.size:=(by rw[l];exact(List.getElem?_eq_some_iff.1 h).1);refine⟨vs[off],by simp[part,qhV b,f],?_⟩;have:=g _ d h;rw[j7,ZN f] at this;exact this
  .cases h
theorem q4l{s:TypeId}{x d:D}{v:Value}{f:Nat}(hx:Rep ok w ι H x v)(h:qio P s x f=some d):
  ∃a,(Instr.field s v f).run P w=.ok a w/\Rep ok w ι H d a:=by
 unfold qio qg4 at h;cases b:P.underlying s with
 |none=>simp[b] at h
 |some dd=>
  cases dd<;>simp only[b,reduceCtorEq] at h;rename_i fs;cases c:fs[f]? with
  |none=>simp[c] at h
  |some k=>
   simp only[c] at h;cases hx<;>simp only[reduceCtorEq] at h;rename_i ds vs e hc i;obtain⟨a,g,j⟩:=qfa (Rep.agg e hc i) h;exact⟨a,by simp[Instr.field,run_underlying b,c,asAgg,g],j⟩
theorem q2G{t:TypeId}{x i d:D}{v g:Value}(hx:Rep ok w ι H x v)(hi:Rep ok w ι H i g)(h:qhX P t x i=some d):
  ∃c,(Instr.index t v g).run P w=.ok c w/\Rep ok w ι H d c:=by
 unfold qhX at h;split at h
 .rename_i n e cs k i a;split at h
  .rename_i hc;cases hi;cases hx with
   |agg m q r=>
    obtain⟨c,o,u⟩:=qfa (Rep.agg m q r) h;refine⟨c,?_,u⟩
    have y:(sizeOf e).run P w=.ok (qw P e) w:=by
     unfold qaR KC at h;cases a:P.underlying e with
     |none=>simp[a] at h
     |some x=>exact qjw a w
    simp[Instr.index,asIntOf,run_underlying a,hc.1,hc.2,y,o]
  .cases h
 .rename_i s k i a;split at h
  .rename_i hc;cases hi;cases hx;cases f:s[i.toNat]? with
   |none=>simp[f] at h
   |some b=>
    simp only[f,j6,qy] at h;subst h;have j:i.toNat<s.length:=(List.getElem?_eq_some_iff.1 f).1;refine⟨.int .u8 b.toNat,?_,.int _ _⟩
    have p:(⟨s.toArray⟩:ByteArray)[i.toNat]?=some b:=by
     have l:s[i.toNat]=b:=(List.getElem?_eq_some_iff.1 f).2;rw[getElem?_pos (⟨s.toArray⟩:ByteArray) i.toNat (by simpa[ByteArray.size] using j)];rw[<-l];rfl
    simp[Instr.index,asIntOf,run_underlying a,hc,p]
  .cases h
 .cases h
theorem q2B{op:BinOp}{t:TypeId}{k:IntKind}{a b:Int}{d:D}(e:op≠.shl)(f:op≠.shr)(h:jQ op k a b=some d):
  ∃v,(binOp op t (.int k a) (.int k b)).run P w=.ok v w/\Rep ok w ι H d v:=by
 cases op<;>simp only[jQ,YK,Vx,qO,qe9,reduceCtorEq,qy,ne_eq] at h e f
 case quo=>
  split at h
  .cases h
  .rename_i c;injection h with h;subst h;exact⟨_,by simp[binOp,Op.intDiv,c],.int _ _⟩
 case rem=>
  split at h
  .cases h
  .rename_i c;injection h with h;subst h;exact⟨_,by simp[binOp,Op.intDiv,c],.int _ _⟩
 case add|sub|mul=>
  subst h;exact⟨_,by simp[binOp,Op.intArith],.int _ _⟩
 case and|or|xor|andNot=>
  subst h;exact⟨_,by simp only[binOp,ne_eq,not_true_eq_false,if_false];rfl,.int _ _⟩
 all_goals
  subst h;exact⟨_,by simp[binOp,Op.intCmp],.bool _⟩
theorem qmU{op:BinOp}{t:TypeId}{k k':IntKind}{a b:Int}{d:D}(e:op=.shl\/op=.shr)(h:qfT op k a b=some d):
  ∃v,(binOp op t (.int k a) (.int k' b)).run P w=.ok v w/\Rep ok w ι H d v:=by
 unfold qfT at h;split at h
 .cases h
 .rename_i c;rcases e with rfl|rfl<;>simp only[qy] at h<;>subst h
  .exact⟨_,by simp[binOp,Op.shift,c],.int _ _⟩
  .exact⟨_,by simp[binOp,Op.shift,c],.int _ _⟩
theorem qwQ{op:BinOp}{t:TypeId}{x y:List UInt8}{d:D}(h:strD op x y=some d):
  ∃v,(binOp op t (.string ⟨x.toArray⟩) (.string ⟨y.toArray⟩)).run P w=.ok v w/\Rep ok w ι H d v:=by
 cases op<;>simp only[strD,reduceCtorEq] at h
 case add=>
  split at h
  .rename_i a;injection h with h;subst h;refine⟨.string ⟨(x++y).toArray⟩,?_,.str _⟩
   have e:(⟨x.toArray⟩:ByteArray)++⟨y.toArray⟩=⟨(x++y).toArray⟩:=by
    apply ByteArray.ext;simp
   simp only[binOp,Op.stringOp,e];rw[if_neg]
   .rfl
   .simp[ByteArray.size,IntKind.max,IntKind.bits,IntKind.signed];omega
  .cases h
 all_goals
  injection h with h;subst h;exact⟨_,by simp[binOp,Op.stringOp],.bool _⟩
theorem qwx{op:UnOp}{x d:D}{v:Value}(hx:Rep ok w ι H x v)(h:unD op x=some d):
  ∃a,(Op.unary op v).run P w=.ok a w/\Rep ok w ι H d a:=by
 unfold unD at h;split at h<;>cases h<;>cases hx
 .exact⟨_,by simp[Op.unary,Op.intArith],.int _ _⟩
 .exact⟨_,by simp[Op.unary,Op.intBits],.int _ _⟩
 .exact⟨_,by simp[Op.unary],.bool _⟩
end
end Go.Ev
namespace Go.Ev
section
variable {X:Cx} {P:Program} {ok:Nat->Prop} {w w':World} {ι:qV} {H H':qe}
theorem qlE{w b:World}(h:b.heap=w.heap)(a:Addr):b.cell? a=w.cell? a:=by simp[World.cell?,h]
theorem qmL{k n:Nat}{x:D}{v:Value}{cs:List D}(B:Sim X ok w ι H)(hx:Rep ok w ι H x v)(h:YQ H k x=some (cs,n)):
  cs.length=n*k/\(∀d,d∈cs->ju d=true)/\∃A c,v=.slice A n c/\n<=c/\(A=none->n=0)/\
   ∃f:Nat->Value,∀(j:Nat) d,cs[j]?=some d->∃a,A=some a/\w.cell? (a.add j)=some (f j)/\Rep ok w ι H d (f j):=by
 cases hx with
 |vnil=>
  simp only[YQ] at h;split at h
  .rename_i r;injection h with h;injection h with o q;subst o;subst q;exact⟨r,wE,none,0,rfl,qA _,fun _=>rfl,fun _=>undef,wE⟩
  .cases h
 |vsl a f O hc y u t=>
  simp only[YQ] at h;split at h
  .rename_i r;injection h with h;injection h with o q;subst o;subst q;exact⟨r,hc,some a,_,rfl,t,fun h=>by(cases h),f,fun j d g=>⟨a,rfl,y j d g,(u j d g).lift⟩⟩
  .cases h
 | @osl _ _ i st off E k' c a hi u t=>
  simp only[YQ] at h;split at h
  .rename_i ds p;split at h
   .rename_i l;obtain⟨o,q,M⟩:=l;injection h with h;injection h with I K;subst I;subst K;obtain⟨b,s,J,rfl,R⟩:=(u ds p).2 o;obtain⟨b',arr,e,fr,m,N,F,L,P,Q,G,C⟩:=B.blk i ds p;rw[J] at m;injection m with m;injection m with m _;subst m;refine⟨wG,fun d p=>G d (Z0 (QZ p)),some ⟨b,off,none⟩,c,rfl,t,(fun h=>wI),fun j=>arr.getD (off+j) undef,fun j d g=>⟨_,rfl,?_⟩⟩;rw[Xw] at g;split at g
    .rw[kX] at g;have z:off+j<arr.size:=vh (List.getElem?_eq_some_iff.1 g).1 L;refine⟨?_,C _ d g⟩;rw[Vq,YI F];simp[z]
    .cases g
   .cases h
  .cases h
 |_=>simp[YQ] at h
def YZ(s:List UInt8):List Value:=s.map fun b=>.int .u8 (b.toNat:Int)
theorem qkc(s:List UInt8)(j:Nat)(d:D)(h:(qf s)[j]?=some d):Rep ok w ι H d (((YZ s)).getD j undef):=by
 unfold qf at h;rw[Vb] at h;cases a:s[j]? with
 |none=>simp[a] at h
 |some b=>
  simp only[a,j6,qy] at h;subst h
  have:(YZ s).getD j undef=.int .u8 (b.toNat:Int):=by
   unfold YZ;simp[a]
  rw[this];exact .int _ _
theorem qmC{k m:Nat}{xt:TypeId}{x:D}{v:Value}{xs:List D}(I:Sim X ok w ι H)(hx:Rep ok w ι H x v)(h:qfR P H k xt x=some (xs,m)):
  xs.length=m*k/\(∀d,d∈xs->ju d=true)/\(∃o,P.underlying xt=some o/\∀q,o≠.int q)/\
  (∀g:World,(Builtin.lenOf v).run P g=.ok m g)/\
  ∀n,n<=m->∃vs:List Value,vs.length=n*k/\(∀g:World,g.heap=w.heap->(Builtin.firstCells k n v).run P g=.ok vs.toArray g)/\
   ∀(j:Nat) d,j<n*k->xs[j]?=some d->Rep ok w ι H d (vs.getD j undef):=by
 unfold qfR at h;split at h
 .rename_i b r;split at h
  .rename_i G;subst G;injection h with h;injection h with p t;subst p;subst t;cases hx;refine⟨wW,?_,⟨_,r,fun q=>wE⟩,fun g=>by simp[Builtin.lenOf,ByteArray.size],fun n y=>⟨(YZ b).take n,by simp[YZ];omega,fun g _=>?_,fun j d l i=>?_⟩⟩
   .intro d i;simp only[qf,ZM] at i;obtain⟨_,_,rfl⟩:=i;rfl
   .have J:(⟨b.toArray⟩:ByteArray).extract 0 n=⟨(b.take n).toArray⟩:=by
     apply ByteArray.ext;simp
    simp[Builtin.firstCells,J,YZ,List.map_take]
   .have h:=qkc (ok:=ok) (w:=w) (ι:=ι) (H:=H) b j d i;rw[jv] at h⊢;rw[Xw,if_pos wC];exact h
  .cases h
 .rename_i e r;obtain⟨p,t,A,c,rfl,M,z,f,u⟩:=qmL I hx h;refine⟨p,t,⟨_,r,fun q=>wE⟩,fun g=>by simp[Builtin.lenOf],fun n y=>?_⟩;have F:∀j,j<n*k->∃d,xs[j]?=some d:=fun j l=>⟨xs[j]'(by have:=qb9 k y;omega),qN _⟩;cases A with
  |none=>
   have L:m=0:=z rfl;subst L;have K:n=0:=wC;subst K;exact⟨[],wE,fun g _=>by simp[Builtin.firstCells],fun j d l _=>by simp at l⟩
  |some a=>
   refine⟨(List.range (n*k)).map f,wE,fun g C=>?_,fun j d l i=>?_⟩
   .have B:=run_loadCells (P:=P) g a (n*k) f (fun j l=>by
     obtain⟨d,i⟩:=F j l;obtain⟨N,s,hc,_⟩:=u j d i;injection s with s;subst s;rw[qlE C];exact hc)
    simp[Builtin.firstCells,B]
   .obtain⟨_,_,_,E⟩:=u j d i;rw[jv];simpa[l] using E
 .cases h
theorem qfL{t:TypeId}{z:D}(h:Xy P t=some z):∃v,(∀a:World,(zeroValue t).run P a=.ok v a)/\∀(ok:Nat->Prop)(w:World)(ι:qV)(H:qe),Rep ok w ι H z v:=by
 unfold Xy at h;cases hi:P.info? t with
 |none=>simp[hi] at h
 |some i=>
  cases b:i.zero with
  |none=>simp[hi,b] at h
  |some v=>
   simp only[hi,b,qa9] at h;exact⟨v,fun a=>by simp[zeroValue,typeInfo,hi,b],fun ok w ι H=>qol h⟩
theorem q3X{z:List D}{n j:Nat}(h:j<n*z.length):((List.replicate n z).flatten)[j]?=z[j % z.length]?:=by
 induction n generalizing j with
 |zero=>omega
 |succ n c=>
  rw[qdS,qlU];by_cases b:j<z.length
  .rw[vJ b,qeE b]
  .have a:z.length<=j:=wC;have d:j<n*z.length+z.length:=(by rw[<-Nat.succ_mul];exact h);rw[jn a,c wC];congr 1;rw[Nat.mod_eq_sub_mod a]
theorem qbB{t:TypeId}{n:Nat}{zs:List D}(h:VI P t n=some zs):∃v,(∀o:World,(zeroValue t).run P o=.ok v o)/\v.cells.size=qw P t/\0<qw P t/\zs.length=n*qw P t/\
  (∀d,d∈zs->ju d=true)/\(∀j,j<qw P t->(v.cells.getD j undef).oneCell'=true)/\
  ∀(ok:Nat->Prop)(w:World)(ι:qV)(H:qe)(j:Nat) d,zs[j]?=some d->Rep ok w ι H d (v.cells.getD (j % qw P t) undef):=by
 unfold VI at h;split at h
 .rename_i z b;split at h
  .rename_i e;obtain⟨e,s⟩:=e;injection h with h;subst h;cases a:Xy P t with
   |none=>simp[a] at b
   |some x=>
    simp only[a,qa9] at b;obtain⟨v,q,g⟩:=qfL a;obtain⟨y,i,_⟩:=qb5 (g (fun _=>True) default jB []) b;refine⟨v,q,wC,s,by simp[e],?_,?_,?_⟩
    .intro d m;rw[List.mem_flatten] at m;obtain⟨l,r,p⟩:=m;rw[(List.mem_replicate.1 r).2] at p;exact i d p
    .intro j f;obtain⟨_,i,k⟩:=qb5 (g (fun _=>True) default jB []) b;have c:z[j]?=some (z[j]' wC):=qN wC;exact(k j _ c).oneCell (i _ (mem_of_get? c))
    .intro ok w ι H j d f
     have u:j<n*z.length:=by
      have:=(List.getElem?_eq_some_iff.1 f).1;simpa using this
     rw[q3X u,e] at f;obtain⟨_,_,k⟩:=qb5 (g ok w ι H) b;exact k _ d f
  .cases h
 .cases h
theorem qiY{z:Array Value}{n j:Nat}(h:j<n*z.size):(Builtin.zeroCells z n)[j]?=some (z.getD (j % z.size) undef):=by
 unfold Builtin.zeroCells
 have c:0<z.size:=by
  rcases Nat.eq_zero_or_pos z.size with a|a
  .rw[a] at h;omega
  .exact a
 have b:=YM j c;rw[Array.getElem?_map,Array.getElem?_range];simp only[h,if_true,j6,qy];rw[j7,ZN b];simp[b]
theorem qfd{ds:List D}{arr:Array Value}{e:TypeId}(h:Sim X ok w ι H)(a:World)(f:qa8 w a)(b:a.heap=w.heap)(i:ds.length<=arr.size)
  (k:∀j,j<arr.size->(arr.getD j undef).oneCell'=true) (hc:∀d,d∈ds->ju d=true) (g:∀(j:Nat) d,ds[j]?=some d->Rep ok w ι H d (arr.getD j undef)):
  ∃ι',Sim X ok (a.alloc (.cells arr e)) ι' (qr H ds)/\Evol H.length ok w ι H ok (a.alloc (.cells arr e)) ι' (qr H ds)/\ι' H.length=some (w.heap.size,arr.size):=by
 refine qm5 (fr:=(0,0)) (e:=e) h f (by simp[b]) (fun c l=>?_) ?_ (qA _) i (.inl rfl) k hc g
 .rw[<-b];exact heap_alloc_old a _ (by rw[b];exact l)
 .rw[<-b];exact heap_alloc_new a _
theorem qlr(w:World):qa8 w w.drew:=⟨rfl,rfl,rfl⟩
theorem qxC{st xt ty e:TypeId}{h:TypeDesc}{o n:Value}{base:Option Addr}{a b m:Nat}{d news:List Value}(z:P.underlying st=some (.slice e))(u:P.underlying xt=some h)
  (s:∀q,h≠.int q) (y:∀c:World,(zeroValue e).run P c=.ok o c) (p:0<qw P e) (k:∀c:World,(Builtin.lenOf n).run P c=.ok m c)
  (f:∀c:World,c.heap=w.heap->(Builtin.firstCells (qw P e) a (.slice base a b)).run P c=.ok d.toArray c)
  (A:∀c:World,c.heap=w.heap->(Builtin.firstCells (qw P e) m n).run P c=.ok news.toArray c)
  (E:b<a+m) (v:a+m<=qF) (r:(a+m)*bytesOf P e<=qF):
  (Builtin.append_ #[st,xt] ty #[.slice base a b,n]).run P w=
   .ok (.slice (some ⟨w.heap.size,0,none⟩) (a+m) (grownCap w (a+m) b e))
    (w.drew.alloc (.cells (d.toArray++news.toArray++Builtin.zeroCells o.cells (grownCap w (a+m) b e-(a+m))) e)):=by
 obtain⟨i,hi,F,B⟩:=qgs p;have x:¬(a+m<=b):=wC
 simp only[qF] at v r;have g:¬(9223372036854775807<((a:Int)+(m:Int))):=wC
 have C:=growslice_fits (need:=a+m) (old:=b) wC r;have j:¬(281474976710656<Builtin.nextslicecap (a+m) b*i.bytes):=by rw[B];omega
 have t:=A w.drew rfl;have l:=f w.drew rfl;simp[Builtin.append_,run_underlying z,run_underlying u,QB p,k,typeInfo,hi,x,g,j,Question.forced,y,t,l,newRow,grownCap];congr 2;apply Array.ext';simp
theorem qkM{e:TypeId}{a:Value}{old news:List Value}{xs:List D}{n:Nat}(i:a.cells.size=qw P e)(p:0<qw P e)(l:∀j,j<qw P e->(a.cells.getD j undef).oneCell'=true)
  (k:∀d,d∈xs->ju d=true) (m:(old++news).length=xs.length) (f:∀(j:Nat) d,xs[j]?=some d->Rep ok w ι H d ((old++news).getD j undef)):
  (∀j,j<(old.toArray++news.toArray++Builtin.zeroCells a.cells n).size->((old.toArray++news.toArray++Builtin.zeroCells a.cells n).getD j undef).oneCell'=true)/\
  ∀(j:Nat) d,xs[j]?=some d->Rep ok w ι H d ((old.toArray++news.toArray++Builtin.zeroCells a.cells n).getD j undef):=by
 have h:∀j,j<xs.length->(old.toArray++news.toArray++Builtin.zeroCells a.cells n).getD j undef=(old++news).getD j undef:=by
  intro j b;rw[j7,qhb (by simp at m⊢;omega),jv];simp
 constructor
 .intro j b;by_cases c:j<xs.length
  .rw[h j c];have g:xs[j]?=some (xs[j]' wC):=qN wC;exact(f j _ g).oneCell (k _ (mem_of_get? g))
  .have o:(old++news).length=old.length+news.length:=zp;rw[j7,Array.getElem?_append_right wG];simp only[Array.size_append,List.size_toArray,size_zeroCells] at b⊢;rw[qiY wC];exact l _ (by rw[<-i];exact YM _ wC)
 .intro j d b;rw[h j (List.getElem?_eq_some_iff.1 b).1];exact f j d b
theorem qwe{n:Int}(a:0<=n)(b:n<9223372036854775808):IntKind.i64.wrap n=n:=by
 simp only[IntKind.wrap,IntKind.signed,IntKind.bits];simp;omega
structure AppOk (P:Program) (ok:Nat->Prop) (w:World) (ι:qV) (H:qe) (st xt ty e:TypeId) (xv:Value) (xs:List D) (m:Nat) (vs:List Value):Prop where
 len:xs.length=m*qw P e
 cell:∀d,d∈xs->ju d=true
 vlen:vs.length=m*qw P e
 rep:∀(j:Nat) d,xs[j]?=some d->Rep ok w ι H d (vs.getD j undef)
 nil:m=0->(Builtin.append_ #[st,xt] ty #[.slice none 0 0,xv]).run P w=.ok (.slice none 0 0) w
 inp:∀(a:Addr)(sLen sCap:Nat)(w':World),sLen+m<=sCap->(storeCells (a.add (sLen*qw P e)) vs).run P w=.ok () w'->
  (Builtin.append_ #[st,xt] ty #[.slice (some a) sLen sCap,xv]).run P w=.ok (.slice (some a) (sLen+m) sCap) w'
 grow:∀(zv:Value)(base:Option Addr)(sLen sCap:Nat)(olds:List Value),(∀w1:World,(zeroValue e).run P w1=.ok zv w1)->
  (∀w1:World,w1.heap=w.heap->(Builtin.firstCells (qw P e) sLen (.slice base sLen sCap)).run P w1=.ok olds.toArray w1)->sCap<sLen+m->sLen+m<=qF->(sLen+m)*bytesOf P e<=qF->
  (Builtin.append_ #[st,xt] ty #[.slice base sLen sCap,xv]).run P w=
   .ok (.slice (some ⟨w.heap.size,0,none⟩) (sLen+m) (grownCap w (sLen+m) sCap e))
    (w.drew.alloc (.cells (olds.toArray++vs.toArray++Builtin.zeroCells zv.cells (grownCap w (sLen+m) sCap e-(sLen+m))) e))
theorem qjt{st xt ty e:TypeId}{x:D}{xv:Value}{xs z0:List D}{m:Nat}(s:P.underlying st=some (.slice e))(hz:VI P e 0=some z0)(hs:Sim X ok w ι H)(hx:Rep ok w ι H x xv)(h:qcS P H e xt x=some (xs,m)):
  ∃vs,AppOk P ok w ι H st xt ty e xv xs m vs:=by
 obtain⟨_,_,_,o,_⟩:=qbB hz;obtain⟨C,G,i2,E⟩:=qgs o;unfold qcS at h;split at h
 .rename_i q n l;split at h
  .rename_i hc;obtain⟨n1,n2,n3⟩:=hc;cases Z:VI P e n.toNat with
   |none=>rw[Z] at h;cases h
   |some z=>
    rw[Z] at h;simp only[j6,qy,zj] at h;obtain⟨rfl,rfl⟩:=h;obtain⟨v,Q,M,y3,y4,y5,y6,y7⟩:=qbB Z;simp only[qF] at n2 n3;cases hx;have F:IntKind.i64.wrap n=n:=qwe n1 wC;have f:¬n<0:=wC
    have u:n*(bytesOf P e:Int)=((n.toNat*bytesOf P e:Nat):Int):=by
     rw[Int.natCast_mul,Int.toNat_of_nonneg n1]
    have O:¬(281474976710656<n*(bytesOf P e:Int)):=(by rw[u];omega);have W:((Builtin.zeroCells v.cells n.toNat).toList).length=n.toNat*qw P e:=by rw[Array.length_toList,size_zeroCells,M]
    have S:n.toNat*qw P e=0->(Builtin.zeroCells v.cells n.toNat)= #[]:=by
     intro g;apply Array.eq_empty_of_size_eq_zero;rw[size_zeroCells,M,g]
    have ae:∀V:World,(if n.toNat*qw P e=0 then(pure #[]:Sem (Array Value)) else do pure (Builtin.zeroCells (<-zeroValue e).cells n.toNat)).run P V=.ok (Builtin.zeroCells v.cells n.toNat) V:=by
     intro V;by_cases g:n.toNat*qw P e=0
     .rw[if_pos g,S g];rfl
     .rw[if_neg g];simp[Q]
    refine⟨(Builtin.zeroCells v.cells n.toNat).toList,y4,y5,W,fun j d A=>?_,fun hm=>?_,fun a b c w' J k=>?_,fun R base b c B y i hg T L=>?_⟩
    .have zu:j<n.toNat*qw P e:=(by rw[<-y4];exact(List.getElem?_eq_some_iff.1 A).1);have:=y7 ok w ι H j d A;rw[jv,Array.getElem?_toList,qiY (by rw[M];exact zu),M];exact this
    .have kM:n=0:=wC;subst kM;simp[Builtin.append_,run_underlying s,run_underlying l,QB o,typeInfo,G,E,asInt,asIntOf,F]
    .by_cases g:n.toNat*qw P e=0
     .rw[S g] at k;simp[Builtin.append_,run_underlying s,run_underlying l,QB o,typeInfo,G,E,asInt,asIntOf,F,f,O,J,g];rw[show(storeCells (a.add (b*qw P e)) []).run P w=.ok () w' from by simpa using k];rfl
     .simp[Builtin.append_,run_underlying s,run_underlying l,QB o,typeInfo,G,E,asInt,asIntOf,F,f,O,J,g,Q];rw[k];rfl
    .have U:R=v:=by
      have K:=y w;rw[Q w] at K;injection K with K;exact K.symm
     subst U;have hn:¬(b+n.toNat<=c):=wC;simp only[qF] at T L;have r:¬(9223372036854775807<((b:Int)+max n 0)):=wC;have p:¬(281474976710656<n*(C.bytes:Int)):=(by rw[E];exact O);have aa:=growslice_fits (need:=b+n.toNat) (old:=c) wC L;have t:¬(281474976710656<Builtin.nextslicecap (b+n.toNat) c*C.bytes):=(by rw[E];omega);have I:=i w.drew rfl;by_cases g:n.toNat*qw P e=0
     .simp[Builtin.append_,run_underlying s,run_underlying l,QB o,typeInfo,G,asInt,asIntOf,F,f,hn,p,r,t,Question.forced,y,I,newRow,grownCap,S g]
     .simp[Builtin.append_,run_underlying s,run_underlying l,QB o,typeInfo,G,asInt,asIntOf,F,f,g,hn,p,r,t,Question.forced,y,I,newRow,grownCap]
  .cases h
 .obtain⟨c1,c2,⟨ac,l,N⟩,c3,c4⟩:=qmC (P:=P) hs hx h;obtain⟨vs,v1,Y,v3⟩:=c4 m (qA _);refine⟨vs,c1,c2,v1,fun j d A=>v3 j d (by have:=(List.getElem?_eq_some_iff.1 A).1;omega) A,fun hm=>?_,fun a b c w' J k=>?_,fun v base b c B y i hg T L=>qxC s l N y o c3 i Y hg T L⟩
  .subst hm;simp[Builtin.append_,run_underlying s,run_underlying l,QB o,c3,Y w rfl]
  .simp[Builtin.append_,run_underlying s,run_underlying l,QB o,c3,J,Y w rfl,k]
theorem q6u{st xt ty:TypeId}{s x d:D}{sv xv:Value}(C:Sim X ok w ι H)(R:Rep ok w ι H s sv)(hx:Rep ok w ι H x xv)(h:qG P H st xt s x=some (d,H')):
  ∃v w',(Builtin.append_ #[st,xt] ty #[sv,xv]).run P w=.ok v w'/\Post X H.length ok w ι H d H' v w':=by
 unfold qG at h;split at h
 .rename_i e hu;split at h
  .rename_i xs m _ XD O;obtain⟨vs,p⟩:=qjt (P:=P) (ty:=ty) hu O C hx XD;have c1:=p.len;have J:=p.cell;have v1:=p.vlen;have F:=p.rep;obtain⟨E,z1,G,I,_,_,Z,_⟩:=qbB O;obtain⟨ae,i1,i2,i3⟩:=qgs I;cases R;split at h
   .rename_i Y;injection h with h;injection h with M S;subst M;subst S;exact⟨.slice none 0 0,w,p.nil Y,Post.same C .vnil⟩
   .rename_i Y;split at h
    .rename_i o;obtain⟨N,b2⟩:=o;injection h with h;injection h with M S;subst M;subst S;obtain⟨g1,g2⟩:=qkM (old:=[]) (news:=vs) (n:=grownCap w (0+m) 0 e-(0+m)) G I Z J wG (fun j d g=>F j d g);obtain⟨ι',n1,n2,n3⟩:=qfd (e:=e) (ds:=xs) C w.drew (qlr w) rfl wG g1 J g2;refine⟨_,_,p.grow E none 0 0 [] z1 (fun y _=>by simp[Builtin.firstCells]) wC wC (by rw[J3];exact N),ι',ok,n1,?_,n2⟩;have K:=grownCap_ge w (0+m) 0 e;rw[J3] at K⊢;refine .osl _ wX (fun ds r=>?_) K;rw[zo] at r;injection r with r;subst r;refine⟨qA _,fun _=>⟨_,_,n3,rfl,?_⟩⟩;simp only[Array.size_append,List.size_toArray,size_zeroCells,G,v1,kf,J3,<-kt];rw[show m+(grownCap w m 0 e-m)=grownCap w m 0 e from wC];exact qA _
    .cases h
  .rename_i xs m _ i sm f k XD O;split at h
   .rename_i ds r;split at h
    .rename_i o;obtain⟨N,b2,b3,b4,b5⟩:=o;injection h with h;injection h with M S;subst M;subst S;obtain⟨vs,p⟩:=qjt (P:=P) (ty:=ty) hu O C hx XD;have c1:=p.len;have J:=p.cell;have v1:=p.vlen;have F:=p.rep;obtain⟨E,z1,G,I,_,_,Z,_⟩:=qbB O;subst b2;cases R with
     | @osl _ _ _ _ _ _ _ c a hi hh zt=>
      obtain⟨b,s,U,rfl,q3⟩:=(hh ds r).2 N;obtain⟨b',arr,e2,fr,u,k2,k3,k4,k5,k6,k7,k8⟩:=C.blk i ds r;rw[U] at u;injection u with u;injection u with u aa;subst u;have B:ds.length=f*qw P e:=wC
      have t:∀d,d∈ds++xs->ju d=true:=by
       intro d r;rcases List.mem_append.1 r with h|h
       .exact k7 d h
       .exact J d h
      by_cases L:f+m<=c
      ·-- in place
       have A:(f+m)*qw P e<=c*qw P e:=qb9 _ L;rw[kt] at A
       have QJ:∀v,v∈vs->v.oneCell'=true:=by
        intro v hv;obtain⟨j,g⟩:=List.mem_iff_getElem?.1 hv;have zu:j<vs.length:=(List.getElem?_eq_some_iff.1 g).1;have Xb:xs[j]?=some (xs[j]' wC):=qN wC;have h:=F j _ Xb;rw[jv,g] at h;exact h.oneCell (J _ (mem_of_get? Xb))
       obtain⟨w',arr',r1,r2,r3,r4,r5,r6,r7⟩:=qhj (P:=P) b (f*qw P e) e2 fr vs 0 arr w k3 wC QJ (qih k5)
       have qd:∀j,j<arr.size->arr'.getD j undef=if f*qw P e<=j/\j<f*qw P e+m*qw P e then vs.getD (j-f*qw P e) undef else arr.getD j undef:=by
        intro j g;simp only[j7,r7 j,jv,Nat.add_zero,v1];split<;>rfl
       obtain⟨ι',W,T,Q⟩:=qfP (i:=i) (ds:=ds) (ds':=ds++xs) (b:=b) (sz:=s) (b':=b) (arr':=arr') (e:=e2) (fr:=fr) (w':=w') C r U r2 wC (fun c _ hc=>r4 c hc) r5 (.inl ⟨rfl,wC⟩)
        wE wG (by rw[r6];exact k5)
        (by
         intro j g;rw[r6] at g;rw[qd j g];by_cases hr:f*qw P e<=j/\j<f*qw P e+m*qw P e
         .rw[if_pos hr];have:j-f*qw P e<vs.length:=wC;rw[jv,qN this];exact QJ _ (vQ this)
         .rw[if_neg hr];exact k6 j g)
        t
        (by
         intro j d g
         have zu:j<ds.length+xs.length:=by
          have:=(List.getElem?_eq_some_iff.1 g).1;simpa using this
         rw[qd j wC];by_cases V:j<ds.length
         .rw[if_neg wC];rw[vJ V] at g;exact k8 j d g
         .rw[if_pos wC];rw[jn wC] at g;rw[<-B];exact F _ d g)
       refine⟨.slice (some ⟨b,0,none⟩) (f+m) c,w',?_,ι',ok,W,?_,T⟩
       .exact p.inp _ _ _ _ L (by simpa[Vq] using r1)
       .refine .osl _ (by rw[kK];exact hi) (fun ds' q=>?_) L;rw[zk hi] at q;injection q with q;subst q;refine⟨by simp[N],fun _=>⟨b,arr'.size,Q,rfl,wC⟩⟩
      ·-- a new block
       have z:∀y:World,y.heap=w.heap->(Builtin.firstCells (qw P e) f (.slice (some ⟨b,0,none⟩) f c)).run P y=.ok ((List.range (f*qw P e)).map fun j=>arr.getD j undef).toArray y:=by
        intro y jW
        have hl:=run_loadCells (P:=P) y ⟨b,0,none⟩ (f*qw P e) (fun j=>arr.getD j undef) (fun j g=>by
         rw[Vq,qlE jW,YI k3];have:j<arr.size:=wC;simp[this])
        simp only[Builtin.firstCells];exact hl
       obtain⟨g1,g2⟩:=qkM (xs:=ds++xs) (old:=(List.range (f*qw P e)).map fun j=>arr.getD j undef) (news:=vs) (n:=grownCap w (f+m) c e-(f+m)) G I Z t wG
        (fun j d g=>by
         have zu:j<ds.length+xs.length:=by
          have:=(List.getElem?_eq_some_iff.1 g).1;simpa using this
         rw[jv];by_cases V:j<ds.length
         .rw[vJ V] at g;rw[vJ wG];have:=k8 j d g;simpa[show j<f*qw P e from wC] using this
         .rw[jn wC] at g;rw[jn wG];have:=F _ d g;rw[jv] at this;simpa[B] using this)
       have l:(((List.range (f*qw P e)).map fun j=>arr.getD j undef).toArray++vs.toArray++Builtin.zeroCells E.cells (grownCap w (f+m) c e-(f+m))).size=grownCap w (f+m) c e*qw P e:=by
        have K:=grownCap_ge w (f+m) c e;simp only[Array.size_append,List.size_toArray,size_zeroCells,G,v1,List.length_map,List.length_range,<-kt];rw[show f+m+(grownCap w (f+m) c e-(f+m))=grownCap w (f+m) c e from wC]
       have Y:0<m:=wC;have ac:0<m*qw P e:=Nat.mul_pos Y I
       obtain⟨ι',W,T,Q⟩:=qfP (i:=i) (ds:=ds) (ds':=ds++xs) (b:=b) (sz:=s) (b':=w.heap.size) (w':=w.drew.alloc (.cells (((List.range (f*qw P e)).map fun j=>arr.getD j undef).toArray++vs.toArray++Builtin.zeroCells E.cells (grownCap w (f+m) c e-(f+m))) e))
        (e:=e) (fr:=(0,0)) C r U (qlr w) wE (fun c hc _=>heap_alloc_old w.drew _ hc) (heap_alloc_new w.drew _) (.inr ⟨qA _,wG⟩) wE
        (by
         rw[l];have K:=qb9 (qw P e) (grownCap_ge w (f+m) c e);rw[kt] at K;simp;omega) (.inl rfl) g1 t g2
       refine⟨_,_,p.grow E _ _ _ _ z1 z wC b5 b4,ι',ok,W,?_,T⟩;refine .osl _ (by rw[kK];exact hi) (fun ds' q=>?_) (grownCap_ge w (f+m) c e);rw[zk hi] at q;injection q with q;subst q;refine⟨by simp[N],fun _=>⟨_,_,Q,rfl,by rw[l];omega⟩⟩
    .split at h
     .rename_i o;obtain⟨N,b2,b3,b4,b5⟩:=o;injection h with h;injection h with M S;subst M;subst S;obtain⟨vs,p⟩:=qjt (P:=P) (ty:=ty) hu O C hx XD;have c1:=p.len;have J:=p.cell;have v1:=p.vlen;have F:=p.rep;obtain⟨E,z1,G,I,_,_,Z,_⟩:=qbB O;subst b2;cases R with
      | @osl _ _ _ _ _ _ _ c a hi hh zt=>
       obtain⟨b,s,U,rfl,q3⟩:=(hh ds r).2 N;obtain⟨b',arr,e2,fr,u,k2,k3,k4,k5,k6,k7,k8⟩:=C.blk i ds r;rw[U] at u;injection u with u;injection u with u aa;subst u;have B:(ds.take (f*qw P e)).length=f*qw P e:=wG
       have t:∀d,d∈ds.take (f*qw P e)++xs->ju d=true:=by
        intro d r;rcases List.mem_append.1 r with h|h
        .exact k7 d (QZ h)
        .exact J d h
       by_cases L:f+m<=c
       ·-- in place
        have A:(f+m)*qw P e<=c*qw P e:=qb9 _ L;rw[kt] at A
        have QJ:∀v,v∈vs->v.oneCell'=true:=by
         intro v hv;obtain⟨j,g⟩:=List.mem_iff_getElem?.1 hv;have zu:j<vs.length:=(List.getElem?_eq_some_iff.1 g).1;have Xb:xs[j]?=some (xs[j]' wC):=qN wC;have h:=F j _ Xb;rw[jv,g] at h;exact h.oneCell (J _ (mem_of_get? Xb))
        obtain⟨w',arr',r1,r2,r3,r4,r5,r6,r7⟩:=qhj (P:=P) b (f*qw P e) e2 fr vs 0 arr w k3 wC QJ (qih k5)
        have qd:∀j,j<arr.size->arr'.getD j undef=if f*qw P e<=j/\j<f*qw P e+m*qw P e then vs.getD (j-f*qw P e) undef else arr.getD j undef:=by
         intro j g;simp only[j7,r7 j,jv,Nat.add_zero,v1];split<;>rfl
        obtain⟨ι',W,T,Q⟩:=qm6 (i:=i) (ds:=ds) (ds':=ds.take (f*qw P e)++xs) (b:=b) (sz:=s) (b':=b) (arr':=arr') (e:=e2) (fr:=fr) (w':=w') C r U r2 wC (fun c _ hc=>r4 c hc) r5 (.inl rfl)
         (by rw[zp,B];omega) (by rw[r6];exact k5)
         (by
          intro j g;rw[r6] at g;rw[qd j g];by_cases hr:f*qw P e<=j/\j<f*qw P e+m*qw P e
          .rw[if_pos hr];have:j-f*qw P e<vs.length:=wC;rw[jv,qN this];exact QJ _ (vQ this)
          .rw[if_neg hr];exact k6 j g)
         t
         (by
          intro j d g
          have zu:j<f*qw P e+xs.length:=by
           have:=(List.getElem?_eq_some_iff.1 g).1;rw[zp,B] at this;exact this
          rw[qd j wC];by_cases V:j<f*qw P e
          .rw[if_neg wC];rw[vJ wC,List.getElem?_take_of_lt V] at g;exact k8 j d g
          .rw[if_pos wC];rw[jn wC] at g;rw[<-B];exact F _ d g)
        refine⟨.slice (some ⟨b,0,none⟩) (f+m) c,w',?_,ι',ok,W,?_,T⟩
        .exact p.inp _ _ _ _ L (by simpa[Vq] using r1)
        .refine .osl _ (by rw[jg,qaW];omega) (fun ds' q=>?_) L;rw[<-qaW (H:=H) (i:=i),zo] at q;injection q with q;subst q;refine⟨by rw[zp,B];exact qA _,fun _=>⟨b,arr'.size,Q,rfl,wC⟩⟩
       ·-- a new block
        have z:∀y:World,y.heap=w.heap->(Builtin.firstCells (qw P e) f (.slice (some ⟨b,0,none⟩) f c)).run P y=.ok ((List.range (f*qw P e)).map fun j=>arr.getD j undef).toArray y:=by
         intro y jW
         have hl:=run_loadCells (P:=P) y ⟨b,0,none⟩ (f*qw P e) (fun j=>arr.getD j undef) (fun j g=>by
          rw[Vq,qlE jW,YI k3];have:j<arr.size:=wC;simp[this])
         simp only[Builtin.firstCells];exact hl
        obtain⟨g1,g2⟩:=qkM (xs:=ds.take (f*qw P e)++xs) (old:=(List.range (f*qw P e)).map fun j=>arr.getD j undef) (news:=vs) (n:=grownCap w (f+m) c e-(f+m)) G I Z t wG
         (fun j d g=>by
          have zu:j<f*qw P e+xs.length:=by
           have:=(List.getElem?_eq_some_iff.1 g).1;rw[zp,B] at this;exact this
          rw[jv];by_cases V:j<f*qw P e
          .rw[vJ wC,List.getElem?_take_of_lt V] at g;rw[vJ wG];have:=k8 j d g;simpa[show j<f*qw P e from wC] using this
          .rw[jn wC] at g;rw[jn wG];have:=F _ d g;rw[jv] at this;simpa[B] using this)
        have l:(((List.range (f*qw P e)).map fun j=>arr.getD j undef).toArray++vs.toArray++Builtin.zeroCells E.cells (grownCap w (f+m) c e-(f+m))).size=grownCap w (f+m) c e*qw P e:=by
         have K:=grownCap_ge w (f+m) c e;simp only[Array.size_append,List.size_toArray,size_zeroCells,G,v1,List.length_map,List.length_range,<-kt];rw[show f+m+(grownCap w (f+m) c e-(f+m))=grownCap w (f+m) c e from wC]
        have Y:0<m:=wC;have ac:0<m*qw P e:=Nat.mul_pos Y I
        obtain⟨ι',W,T,Q⟩:=qm6 (i:=i) (ds:=ds) (ds':=ds.take (f*qw P e)++xs) (b:=b) (sz:=s) (b':=w.heap.size) (w':=w.drew.alloc (.cells (((List.range (f*qw P e)).map fun j=>arr.getD j undef).toArray++vs.toArray++Builtin.zeroCells E.cells (grownCap w (f+m) c e-(f+m))) e))
         (e:=e) (fr:=(0,0)) C r U (qlr w) wE (fun c hc _=>heap_alloc_old w.drew _ hc) (heap_alloc_new w.drew _) (.inr (qA _))
         (by
          rw[l];have K:=qb9 (qw P e) (grownCap_ge w (f+m) c e);rw[kt] at K;rw[zp,B];omega) (.inl rfl) g1 t g2
        refine⟨_,_,p.grow E _ _ _ _ z1 z wC b5 b4,ι',ok,W,?_,T⟩;refine .osl _ (by rw[jg,qaW];omega) (fun ds' q=>?_) (grownCap_ge w (f+m) c e);rw[<-qaW (H:=H) (i:=i),zo] at q;injection q with q;subst q;refine⟨by rw[zp,B];exact qA _,fun _=>⟨_,_,Q,rfl,by rw[l];omega⟩⟩
     .cases h
   .cases h
  .cases h
 .cases h
end
end Go.Ev
namespace Go.Ev
section
variable {X:Cx} {P:Program} {ok:Nat->Prop} {w w':World} {ι:qV} {H H':qe}
theorem qhm{n:Nat}{l:Int}{k:IntKind}{c:BoundsCode}(h:0<=l/\l<=n)(w:World):(Instr.sliceBound (.int k l) n c).run P w=.ok l.toNat w:=by
 simp[Instr.sliceBound,asIntOf,h]
theorem qf5{isSlice:Bool}{n c l h:Nat}{m hi:Option D}{lov hiv:Option Value}(q:∀d,m=some d->∃v,lov=some v/\Rep ok w ι H d v)(p:m=none->lov=none)
  (r:∀d,hi=some d->∃v,hiv=some v/\Rep ok w ι H d v) (i:hi=none->hiv=none) (s:n<=c) (b:qdM n m hi=some (l,h)) (w:World):
  l<=h/\h<=n/\(Instr.sliceBounds isSlice n c lov hiv none).run P w=.ok (l,h,c) w:=by
 unfold qdM at b;split at b
 .injection b with b;injection b with e f;subst e;subst f;rw[p rfl,i rfl];exact⟨vg _,qA _,by simp[Instr.sliceBounds]⟩
 .rename_i k a;split at b
  .rename_i hc;injection b with b;injection b with e f;subst e;subst f;obtain⟨v,rfl,g⟩:=q _ rfl;cases g;rw[i rfl];exact⟨wC,qA _,by simp[Instr.sliceBounds,qhm hc]⟩
  .cases b
 .rename_i k a;split at b
  .rename_i hc;injection b with b;injection b with e f;subst e;subst f;obtain⟨v,rfl,g⟩:=r _ rfl;cases g;rw[p rfl];refine⟨vg _,wC,?_⟩;simp[Instr.sliceBounds,qhm (show 0<=a/\a<=(c:Int) from⟨hc.1,wC⟩)]
  .cases b
 .rename_i k a k' o;split at b
  .rename_i hc;injection b with b;injection b with e f;subst e;subst f;obtain⟨v,rfl,g⟩:=q _ rfl;obtain⟨t,rfl,j⟩:=r _ rfl;cases g;cases j;refine⟨wC,wC,?_⟩;simp[Instr.sliceBounds,qhm (show 0<=o/\o<=(c:Int) from⟨hc.1,wC⟩),qhm (show 0<=a/\a<=(o.toNat:Int) from⟨hc.2.2.1,wC⟩)]
  .cases b
 .cases b
theorem qhn{t:TypeId}{x d:D}{xv:Value}{Y hi:Option D}{lov hiv:Option Value}(hs:Sim X ok w ι H)(hx:Rep ok w ι H x xv)(A:∀d,Y=some d->∃v,lov=some v/\Rep ok w ι H d v)(C:Y=none->lov=none)
  (B:∀d,hi=some d->∃v,hiv=some v/\Rep ok w ι H d v) (q:hi=none->hiv=none) (h:qaJ P t x Y hi=some d):
  ∃v,(Instr.sliceAt t xv lov hiv none).run P w=.ok v w/\Rep ok w ι H d v:=by
 unfold qaJ at h;split at h
 ·-- a text
  rename_i s y;split at h
  .rename_i l o u;injection h with h;subst h;cases hx;obtain⟨I,J,r⟩:=qf5 (P:=P) (isSlice:=false) (c:=s.length) A C B q (qA _) u w;refine⟨.string ⟨((s.drop l).take (o-l)).toArray⟩,?_,.str _⟩;have jp:(⟨s.toArray⟩:ByteArray).size=s.length:=by simp[ByteArray.size]
   have G:(⟨s.toArray⟩:ByteArray).extract l o=⟨((s.drop l).take (o-l)).toArray⟩:=by
    apply ByteArray.ext;simp[List.extract_eq_take_drop]
   simp[Instr.sliceAt,run_underlying y,Instr.slice,jp,r,G]
  .cases h
 ·-- a slice of others
  rename_i e nil cs T y;split at h
  .rename_i l o u;split at h
   .rename_i hc;obtain⟨aa,z⟩:=hc;injection h with h;subst h;cases hx with
    |vnil=>
     obtain⟨I,J,r⟩:=qf5 (P:=P) (isSlice:=true) (c:=0) A C B q (qA _) u w;have S:o=0:=wC;have p:l=0:=wC;subst S;subst p;refine⟨.slice none 0 0,?_,by simpa using Rep.vnil⟩;simp[Instr.sliceAt,run_underlying y,Instr.slice,r,QB z]
    | @vsl _ _ _ _ c a f V N R i Q=>
     obtain⟨I,J,r⟩:=qf5 (P:=P) (isSlice:=true) (c:=c) A C B q Q u w;refine⟨.slice (some (if c=l then a else a.add (l*qw P e))) (o-l) (c-l),?_,?_⟩
     .simp only[Instr.sliceAt,Sem.run_bind,run_underlying y,Result.andThen_ok,Instr.slice,r,QB z,Sem.run_pure];split<;>rfl
     .refine .vsl _ (fun j=>f (l*qw P e+j)) (fun d m=>by have:=V d (Z0 (QZ m));split<;>simp[qeA,this]) (fun d m=>N d (Z0 (QZ m))) (fun j d g=>?_) (fun j d g=>?_) wC
      .rw[Xw] at g;split at g
       .rename_i O;rw[kX] at g
        have E:c≠l:=by
         rintro rfl;have:o-c=0:=wC;rw[this] at O;omega
        rw[if_neg E,qiL];exact R _ d g
       .cases g
      .rw[Xw] at g;split at g
       .rw[kX] at g;exact i _ d g
       .cases g
   .cases h
  .cases h
 ·-- a slice of the run's own
  rename_i e id st off T k y;split at h
  .rename_i l o u;split at h
   .rename_i hc;obtain⟨rfl,z,p⟩:=hc;injection h with h;subst h;cases hx with
    | @osl _ _ _ _ _ _ _ c a W i Q=>
     obtain⟨I,J,r⟩:=qf5 (P:=P) (isSlice:=true) (c:=c) A C B q Q u w;refine⟨.slice (some (if c=l then a else a.add (l*qw P e))) (o-l) (c-l),?_,?_⟩
     .simp only[Instr.sliceAt,Sem.run_bind,run_underlying y,Result.andThen_ok,Instr.slice,r,QB z,Sem.run_pure];split<;>rfl
     .refine .osl _ W (fun ds m=>⟨(i ds m).1,fun G=>?_⟩) wC;obtain⟨b,s,M,rfl,q3⟩:=(i ds m).2 G;have Z:l<=c:=wC;have F:l*qw P e+(c-l)*qw P e=c*qw P e:=(by rw[<-kt];congr 1;omega);refine⟨b,s,M,?_,wC⟩;split
      .rename_i E;rcases p with L|L
       .subst L;simp
       .omega
      .rw[Vq]
   .cases h
  .cases h
 ·-- an array of others
  rename_i n e cs y;split at h
  .rename_i l o u;split at h
   .rename_i hc;obtain⟨U,z,p⟩:=hc;injection h with h;subst h;cases hx with
    |vptr a f V N R i=>
     obtain⟨I,J,r⟩:=qf5 (P:=P) (isSlice:=false) (c:=n) A C B q (qA _) u w;refine⟨.slice (some (if n=l then a else a.add (l*qw P e))) (o-l) (n-l),?_,?_⟩
     .simp only[Instr.sliceAt,Sem.run_bind,run_underlying y,Result.andThen_ok,Instr.sureAddr,r,QB z,Sem.run_pure]
     .refine .vsl _ (fun j=>f (l*qw P e+j)) (fun d m=>by have:=V d (Z0 (QZ m));split<;>simp[qeA,this]) (fun d m=>N d (Z0 (QZ m))) (fun j d g=>?_) (fun j d g=>?_) wC
      .rw[Xw] at g;split at g
       .rename_i O;rw[kX] at g
        have E:n≠l:=by
         rintro rfl;have:o-n=0:=wC;rw[this] at O;omega
        rw[if_neg E,qiL];exact R _ d g
       .cases g
      .rw[Xw] at g;split at g
       .rw[kX] at g;exact i _ d g
       .cases g
   .cases h
  .cases h
 ·-- an array of the run's own
  rename_i n e id st off y;split at h
  .rename_i l o u;split at h
   .rename_i hc;obtain⟨p,U,z⟩:=hc;injection h with h;subst h;cases hx with
    |optr a W i=>
     obtain⟨I,J,r⟩:=qf5 (P:=P) (isSlice:=false) (c:=n) A C B q (qA _) u w;refine⟨.slice (some (if n=l then a else a.add (l*qw P e))) (o-l) (n-l),?_,?_⟩
     .simp only[Instr.sliceAt,Sem.run_bind,run_underlying y,Result.andThen_ok,Instr.sureAddr,r,QB z,Sem.run_pure]
     .refine .osl _ W (fun ds m=>⟨(i ds m).1,fun G=>?_⟩) wC;obtain⟨b,s,M,rfl⟩:=(i ds m).2 G;have Z:l<=n:=wC;have F:l*qw P e+(n-l)*qw P e=n*qw P e:=(by rw[<-kt];congr 1;omega);obtain⟨b',arr,e',fr,K,k2,k3,k4,_⟩:=hs.blk id ds m;rw[M] at K;injection K with K;injection K with K ac;refine⟨b,s,M,?_,wC⟩;split
      .rename_i E;rcases p with L|L
       .subst L;simp
       .omega
      .rw[Vq]
   .cases h
  .cases h
 .cases h
theorem q4X{u xt ty:TypeId}{x y d:D}{dv z:Value}(r:Sim X ok w ι H)(o:Rep ok w ι H y dv)(hx:Rep ok w ι H x z)(h:qc4 P H u xt y x=some (d,H')):
  ∃v w',(Builtin.copy_ #[u,xt] ty #[dv,z]).run P w=.ok v w'/\Post X H.length ok w ι H d H' v w':=by
 unfold qc4 at h;split at h
 .rename_i e L;split at h
  .rename_i xs m i sm off c k V;split at h
   .rename_i ds l;split at h
    .rename_i f;obtain⟨n,rfl,G,U⟩:=f;injection h with h;injection h with E O;subst E;subst O;obtain⟨Y,M,⟨I,Z,B⟩,T,C⟩:=qmC (P:=P) r hx V;obtain⟨vs,v1,R,N⟩:=C (min m c) (Nat.min_le_left _ _);cases o with
     |osl a hi K zt=>
      obtain⟨b,s,S,rfl,q3⟩:=(K ds l).2 n;have p:min m c*qw P e<=c*qw P e:=qb9 _ (Nat.min_le_right _ _);have A:min m c*qw P e<=m*qw P e:=qb9 _ (Nat.min_le_left _ _);have t:(xs.take (min m c*qw P e)).length=min m c*qw P e:=wG
      obtain⟨w',ι',W,J,Q⟩:=qja (P:=P) (vs:=vs) (xs:=xs.take (min m c*qw P e)) r l n S rfl (by rw[t];exact zI (Nat.add_le_add_left p off) (by rw[n];exact U)) (by rw[t,v1]) (fun d l=>M d (QZ l))
       (fun j d g=>by
        rw[Xw] at g;split at g
        .rename_i F;exact N j d F g
        .cases g)
      refine⟨.int .i64 (min m c:Nat),w',?_,ι',ok,J,.int _ _,Q⟩;have q:=R w rfl;rw[show min m c=Nat.min m c from rfl] at q;simp[Builtin.copy_,run_underlying L,T,QB G,q,goInt];rw[W];rfl
    .cases h
   .cases h
  .cases h
 .cases h
theorem q5A{t ty:TypeId}{x d:D}{y:Value}{ts:Array TypeId}{us:Array Value}(A:ts[0]?=some t)(g:us[0]?=some y)(F:Sim X ok w ι H)(hx:Rep ok w ι H x y)(h:qi8 P H t x=some (d,H')):
  ∃v w',(Builtin.clear_ ts ty us).run P w=.ok v w'/\Post X H.length ok w ι H d H' v w':=by
 unfold qi8 at h;split at h
 .rename_i e i U off c k K;split at h
  .rename_i z ds L u;split at h
   .rename_i f;obtain⟨m,rfl,Q,V⟩:=f;injection h with h;injection h with B R;subst B;subst R;obtain⟨q,E,p,Z,l,J,W,N⟩:=qbB L;cases hx with
    |osl a hi I T=>
     obtain⟨b,s,O,rfl,Y⟩:=(I ds u).2 m;have o:((Builtin.zeroCells q.cells c).toList).length=c*qw P e:=by rw[Array.length_toList,size_zeroCells,p]
     obtain⟨w',ι',S,G,M⟩:=qja (P:=P) (vs:=(Builtin.zeroCells q.cells c).toList) (xs:=z) F u m O rfl (by rw[l,m];exact Q) (by rw[o,l]) J (fun j d r=>by
      have C:j<c*qw P e:=(by rw[<-l];exact(List.getElem?_eq_some_iff.1 r).1);have:=N ok w ι H j d r;rw[jv,Array.getElem?_toList,qiY (by rw[p];exact C),p];exact this)
     refine⟨.tuple #[],w',?_,ι',ok,G,.tup rfl wE,M⟩;obtain⟨n,rfl⟩:∃n,c=n+1:=⟨c-1,wC⟩;simp[Builtin.clear_,A,g,run_underlying K,E];rw[S];rfl
   .cases h
  .cases h
 .cases h
theorem q0D{t ty:TypeId}{x d:D}{v:Value}{ts:Array TypeId}{vs:Array Value}(b:ts[0]?=some t)(c:vs[0]?=some v)(hx:Rep ok w ι H x v)(h:qK P t x=some d):
  ∃r,(Builtin.len_ ts ty vs).run P w=.ok r w/\Rep ok w ι H d r:=by
 unfold qK at h;split at h<;>first|(cases h;done)|injection h with h
 .rename_i s a;subst h;cases hx;have f:(⟨s.toArray⟩:ByteArray).size=s.length:=by simp[ByteArray.size]
  exact⟨.int .i64 s.length,by simp[Builtin.len_,b,c,run_underlying a,goInt,f],.int _ _⟩
 .rename_i n e a;subst h;exact⟨_,yR,.int _ _⟩
 .rename_i a;subst h;cases hx<;>exact⟨_,yR,.int _ _⟩
 .rename_i a;subst h;cases hx<;>exact⟨_,yR,.int _ _⟩
end
end Go.Ev
namespace Go.Ev
section
variable {X:Cx} {P:Program} {ok:Nat->Prop} {w w':World} {ι:qV} {H H':qe}
theorem qvr:∀{cs:List D}{s:List UInt8},VE cs=some s->∃a:List Int,cs=a.map (D.int .u8)/\s=a.map fun n=>UInt8.ofNat n.toNat
 |[],s,h=>by
  simp only[VE,qy] at h;exact⟨[],rfl,h.symm⟩
 | .int .u8 n::l,s,h=>by
  simp only[VE] at h;cases b:VE l with
  |none=>simp[b] at h
  |some r=>
   simp only[b,j6,qy] at h;obtain⟨a,d,c⟩:=qvr b;exact⟨n::a,xU,by simp[<-h,c]⟩
 | .int .i8 _::_,_,h| .int .i16 _::_,_,h| .int .i32 _::_,_,h| .int .i64 _::_,_,h| .int .u16 _::_,_,h| .int .u32 _::_,_,h| .int .u64 _::_,_,h
 | .bool _::_,_,h| .str _::_,_,h| .nilp::_,_,h| .nilf::_,_,h| .nili::_,_,h| .raw _::_,_,h| .agg _::_,_,h| .tup _::_,_,h| .vptr _::_,_,h| .optr _ _ _::_,_,h| .vsl _ _ _::_,_,h
 | .osl _ _ _ _ _::_,_,h| .fn _ _::_,_,h| .iface _ _::_,_,h=>by simp[VE] at h
theorem q00{i:Nat}{ds:List D}{b o:Nat}{arr:Array Value}{e:TypeId}{fr:Nat×Nat}(s:Sim X ok w ι H)(g:qd H i=some ds)(r:ι i=some (b,arr.size))(l:w.heap[b]?=some (.cells arr e fr)):
  ∃w' ι',(markStringish ⟨b,o,none⟩).run P w=.ok () w'/\Sim X ok w' ι' H/\Evol H.length ok w ι H ok w' ι' H:=by
 obtain⟨J,u,K,C,d,M,k,B,G,E,F,z⟩:=s.blk i ds g;rw[r] at d;injection d with d;injection d with d x;subst d;rw[l] at k;injection k with k;injection k with n q m;subst n;subst q;subst m;have I:b<w.heap.size:=(Array.getElem?_eq_some_iff.1 l).1
 have qn:qn H i ds=H:=by
  unfold qn;have hi:=qx g;rw[qd,qN hi,Va] at g;rw[<-g,List.set_getElem_self]
 obtain⟨a,f,p⟩:∃a:Nat×Nat,(a.1=a.2\/arr.size<=a.1)/\(w.freeze ⟨b,arr.size,none⟩ 1).heap[b]?=some (.cells arr e a):=by
  obtain⟨j,hi⟩:=fr;refine⟨if j==hi then(arr.size,arr.size+1) else(min j arr.size,max hi (arr.size+1)),?_,?_⟩
  .simp only at G;by_cases h:j=hi
   .simp[h]
   .have:arr.size<=j:=wC;simp[h];omega
  .unfold World.freeze;simp only[Nat.one_ne_zero,if_false];rw[qlX];simp[l]
 obtain⟨ι',v,t,L⟩:=qfP (w':=w.freeze ⟨b,arr.size,none⟩ 1) (ds':=ds) s g r ⟨yV,yV,yV⟩ (by unfold World.freeze;split<;>simp)
  (fun c _ hc=>by
   unfold World.freeze;simp only[Nat.one_ne_zero,if_false];rw[qlX];simp[Ne.symm hc]) p (.inl ⟨rfl,rfl⟩) (qA _) B f E F z
 rw[qn] at v t;refine⟨_,ι',?_,v,t⟩;have y:(shape b).run P w=.ok (w.shape? b) w:=rfl;have e2:w.shape? b=some (e,arr.size):=by unfold World.shape?;rw[l]
 have A:(Go.freeze ⟨b,arr.size,none⟩ 1).run P w=.ok () (w.freeze ⟨b,arr.size,none⟩ 1):=rfl;unfold markStringish;rw[Sem.run_bind,y,Result.andThen_ok,e2];exact A
theorem quO{r dst:TypeId}{x d:D}{v:Value}(y:Sim X ok w ι H)(hx:Rep ok w ι H x v)(h:qdJ P H r dst x=some (d,H')):
  ∃S w',(convert r dst v).run P w=.ok S w'/\Post X H.length ok w ι H d H' S w':=by
 unfold qdJ at h;split at h
 .rename_i k k' n p g;injection h with h;injection h with q t;subst q;subst t;cases hx;exact⟨.int k (k.wrap n),w,by simp[convert,run_underlying p,run_underlying g,Conv.intToInt],Post.same y (.int _ _)⟩
 .rename_i s p g;injection h with h;injection h with q t;subst q;subst t;cases hx;exact⟨.string ⟨s.toArray⟩,w,by simp[convert,run_underlying p,run_underlying g],Post.same y (.str _)⟩
 .rename_i k k' n p g;injection h with h;injection h with q t;subst q;subst t;cases hx;refine⟨.string (Utf8.encode n),w,by simp[convert,run_underlying p,run_underlying g,Conv.intToString],Post.same y ?_⟩;have:=Rep.str (ok:=ok) (w:=w) (ι:=ι) (H:=H) (Utf8.encode n).data.toList;simpa using this
 .rename_i e s p g;split at h
  .rename_i B;injection h with h;injection h with q t;subst q;subst t;cases hx;have L:(⟨s.toArray⟩:ByteArray).size=s.length:=(by simp[ByteArray.size]);have W:=grownCap_ge w s.length 0 e
   have I:(Lib.bytesCells w e ⟨s.toArray⟩).size=grownCap w s.length 0 e:=by
    unfold Lib.bytesCells;simp only[Array.size_append,Array.size_map,Array.size_replicate,L];simp;omega
   have F:∀j,j<s.length->(Lib.bytesCells w e ⟨s.toArray⟩).getD j undef=(YZ s).getD j undef:=by
    intro j l;unfold Lib.bytesCells YZ;rw[j7,qhb (by simpa using l),jv];simp
   have Q:∀j,s.length<=j->j<grownCap w s.length 0 e->(Lib.bytesCells w e ⟨s.toArray⟩).getD j undef=.int .u8 0:=by
    intro j l zu;unfold Lib.bytesCells;rw[j7,Array.getElem?_append_right (by simpa using l)];simp only[L];rw[qiW,if_pos wG];rfl
   obtain⟨ι',n1,n2,n3⟩:=qm5 (w':=Lib.bytesWorld w e ⟨s.toArray⟩) (b':=w.heap.size) (arr:=Lib.bytesCells w e ⟨s.toArray⟩) (ds:=qf s) y
    (by
     refine⟨?_,?_,?_⟩<;>(unfold Lib.bytesWorld World.freeze;split<;>rfl))
    (by rw[Lib.bytesWorld_size];omega) (fun c hc=>Lib.bytesWorld_at_old w e _ c hc) (Lib.bytesWorld_at_new w e _) (qA _) (by rw[I];simpa[qf] using W)
    (.inr (qA _))
    (fun j l=>by
     rw[I] at l;by_cases G:j<s.length
     .rw[F j G];unfold YZ;simp[G,Value.oneCell']
     .rw[Q j wC l];rfl)
    (fun d u=>by
     simp only[qf,ZM] at u;obtain⟨_,_,rfl⟩:=u;rfl)
    (fun j d l=>by
     have G:j<s.length:=by
      have:=(List.getElem?_eq_some_iff.1 l).1;simpa[qf] using this
     rw[F j G];exact qkc s j d l)
   refine⟨_,_,Lib.run_convert_string_bytes w r dst e ⟨s.toArray⟩ p g B,ι',ok,n1,?_,n2⟩;rw[L];refine .osl _ wX (fun ds u=>?_) W;rw[zo] at u;injection u with u;subst u;refine⟨wW,fun _=>⟨_,_,n3,rfl,by rw[I];omega⟩⟩
  .cases h
 .rename_i _ e p g;split at h
  .rename_i cs n B kv;cases R:VE cs with
   |none=>simp[R] at h
   |some s=>
    simp only[R,j6,qy,zj] at h;obtain⟨q,t⟩:=h;subst q;subst t;obtain⟨E,rfl,rfl⟩:=qvr R;obtain⟨M,k2,A,c,rfl,zt,hA,f,Z⟩:=qmL y hx kv;simp only[List.length_map,Nat.mul_one] at M;cases A with
    |none=>
     have hn:n=0:=hA rfl;subst hn;have:E=[]:=kx M;subst this;refine⟨.string ByteArray.empty,w,run_convert_bytes_nil w r e p B _ _ dst g,Post.same y ?_⟩;exact .str []
    |some a=>
     have hl:(loadCells a n).run P w=.ok (E.map (Value.int .u8)).toArray w:=by
      have:=run_loadCells_list (P:=P) w a (E.map (Value.int .u8)) (fun j v l=>by
       rw[Vb] at l;cases O:E[j]? with
       |none=>simp[O] at l
       |some m=>
        simp only[O,j6,qy] at l;subst l;obtain⟨a',N,hc,U⟩:=Z j (.int .u8 m) (by simp[O]);injection N with N;subst N;rw[hc];generalize f j=fv at U;cases U;rfl)
      simpa[M] using this
     refine⟨_,w,?_,Post.same y (.str _)⟩;rw[run_convert_bytes_string w r dst e _ n c p B g,run_bytesToString w _ n c E hl,foldl_push_bytes];simp[ByteArray.empty,ByteArray.emptyWithCapacity];rfl
  .cases h
 .rename_i _ e i st off aa k p g;split at h
  .rename_i ds B u;split at h
   .rename_i hc;obtain⟨rfl,K⟩:=hc;injection h with h;injection h with q t;subst q;subst t;have z:=hx;rw[p] at g;injection g with g;injection g with g;subst g;cases hx with
    |osl a hi hh zt=>
     obtain⟨b,sz,T,g2,g3⟩:=(hh ds u).2 K;subst g2;obtain⟨b',arr,e',fr,C,q2,q3,_⟩:=y.blk i ds u;rw[T] at C;injection C with C;injection C with C J;subst C;subst J;obtain⟨w',ι',Y,m2,V⟩:=q00 (P:=P) (o:=off) y u T q3;refine⟨_,w',?_,ι',ok,m2,z.evol y V z.closed,V⟩;simp[convert,run_underlying p,run_underlying B,Y]
   .cases h
  .cases h
 .cases h
theorem qtH(off:Nat):∀(l:List Value)(n:Nat)(cs:Array Value),
  ((l.zipIdx n).foldl (fun cs(c,j)=>cs.setIfInBounds (off+j) c) cs).size=cs.size/\
  ∀j,((l.zipIdx n).foldl (fun cs(c,j)=>cs.setIfInBounds (off+j) c) cs)[j]?=if off+n<=j/\j<off+n+l.length/\j<cs.size then l[j-(off+n)]? else cs[j]?
 |[],n,cs=>by
  refine⟨rfl,fun j=>?_⟩;rw[if_neg wG];rfl
 |v::l,n,cs=>by
  obtain⟨d,e⟩:=qtH off l (n+1) (cs.setIfInBounds (off+n) v);simp only[List.zipIdx_cons,List.foldl_cons];refine⟨by rw[d];simp,fun j=>?_⟩;rw[e j];simp only[Array.size_setIfInBounds,jA];by_cases f:j=off+n
  .subst f;rw[if_neg wC];by_cases b:off+n<cs.size
   .rw[if_pos wC];simp[b]
   .rw[if_neg wC,qfI wG,qfI wC]
  .rw[qfH wC];by_cases a:off+(n+1)<=j/\j<off+(n+1)+l.length/\j<cs.size
   .rw[if_pos a,if_pos wC];rw[show j-(off+n)=(j-(off+(n+1)))+1 from wC,qeF]
   .rw[if_neg a,if_neg wC]
def qdQ(ok:Nat->Prop)(w:World)(ι:qV)(H:qe):List (Nat×D)->List (Nat×Value)->Prop
 |[],[]=>True
 |(i,d)::ds,(j,v)::vs=>i=j/\Rep ok w ι H d v/\qdQ ok w ι H ds vs
 |_,_=>False
theorem qg2{place:Nat->Option (Nat×Nat)}:∀{b:List (Nat×D)}{vps:List (Nat×Value)}{cs a:List D}{arr:Array Value},qdQ ok w ι H b vps->arr.size=cs.length->
  (∀d,d∈cs->ju d=true)->(∀(j:Nat) d,cs[j]?=some d->Rep ok w ι H d (arr.getD j undef))->YH place cs b=some a->
  ∃arr',Instr.fill place arr vps=some arr'/\arr'.size=a.length/\(∀d,d∈a->ju d=true)/\(∀(j:Nat) d,a[j]?=some d->Rep ok w ι H d (arr'.getD j undef))/\a.length=cs.length
 |[],[],cs,a,arr,_,n,hc,p,h=>by
  simp only[YH,qy] at h;subst h;exact⟨arr,rfl,n,hc,p,rfl⟩
 |(i,d)::ps,(L,v)::vps,cs,a,arr,k,n,hc,p,h=>by
  obtain⟨rfl,t,k⟩:=k;simp only[YH] at h;split at h
  .rename_i off r xs o q;split at h
   .rename_i l;obtain⟨J,A⟩:=l;obtain⟨s,y,C⟩:=qb5 t q;obtain⟨x,z⟩:=qtH off v.cells.toList 0 arr
    have e:v.cells.zipIdx.foldl (fun cs(c,j)=>cs.setIfInBounds (off+j) c) arr=(v.cells.toList.zipIdx 0).foldl (fun cs(c,j)=>cs.setIfInBounds (off+j) c) arr:=by
     rw[<-Array.foldl_toList];simp
    have g:off+xs.length<=cs.length:=A
    obtain⟨arr',B,I,F,u,E⟩:=qg2 (place:=place) (arr:=v.cells.zipIdx.foldl (fun cs(c,j)=>cs.setIfInBounds (off+j) c) arr) k (by rw[e,x,qeQ g];exact n)
     (fun d G=>by
      rcases qoM G with h|h
      .exact hc d h
      .exact y d h)
     (fun j d m=>by
      have K:j<cs.length:=by
       have:=(List.getElem?_eq_some_iff.1 m).1
       rwa [qeQ g] at this
      rw[e,j7,z j];simp only[Nat.add_zero,Array.length_toList,s];rw[qmX g] at m;by_cases f:off<=j/\j<off+xs.length
      .rw[if_pos f] at m;rw[if_pos ⟨f.1,f.2,wC⟩];have:=C _ d m;simpa[j7] using this
      .rw[if_neg f] at m;rw[if_neg wC];have:=p j d m
       rwa [j7] at this) h
    refine⟨arr',?_,I,F,u,by rw[E,qeQ g]⟩;simp only[Instr.fill,o];rw[if_neg wG];exact B
   .cases h
  .cases h
 |[],_::_,_,_,_,k,_,_,_,_=>by simp[qdQ] at k
 |_::_,[],_,_,_,k,_,_,_,_=>by simp[qdQ] at k
theorem qh0(b:Sim X ok w ι H){e:qu}{a:Act}(c:EnvRep ok w ι H e a.tmps):∀{l:List (Nat×Operand)}{ps:List (Nat×D)},YX X e l=some ps->qdQ ok w ι H ps (l.map fun(i,x)=>(i,a.eval x))
 |[],ps,h=>by
  simp only[YX,qy] at h;subst h;trivial
 |(i,x)::l,ps,h=>by
  simp only[YX] at h;split at h
  .rename_i d ds g f;injection h with h;subst h;exact⟨rfl,vm b c g,qh0 b c f⟩
  .cases h
theorem qyP{fs:Array Field}(h:fs.all (fun f=>decide (0<qw P f.type))=true)(w:World):
  (fs.mapM fun f=>(do pure (f.offset,<-sizeOf f.type):Sem (Nat×Nat))).run P w=.ok (fs.map fun f=>(f.offset,qw P f.type)) w:=by
 have key:∀l:List Field,(∀f,f∈l->0<qw P f.type)->(l.mapM fun f=>(do pure (f.offset,<-sizeOf f.type):Sem (Nat×Nat))).run P w=.ok (l.map fun f=>(f.offset,qw P f.type)) w:=by
  intro l
  induction l with
  |nil=>intro _;simp
  |cons f l b=>
   intro a;have d:=a f (Z1 ..);have i:=b fun g e=>a g (vq _ e);rw[List.mapM_cons];simp only[Sem.run_bind,QB d,Result.andThen_ok,Sem.run_pure,i,List.map_cons]
 rw[Array.mapM_eq_mapM_toList]
 rw[Sem.run_map,key fs.toList (fun f c=>by
  have:=Array.all_eq_true'.1 h f wS;simpa using this)]
 simp;apply Array.ext';simp
theorem q6g{t:TypeId}{a:List (Nat×D)}{vps:Array (Nat×Value)}{d:D}(y:qdQ ok w ι H a vps.toList)(h:qiF P t a=some d):
  ∃v,(Instr.build t vps).run P w=.ok v w/\Rep ok w ι H d v:=by
 unfold qiF at h;split at h
 .rename_i z fs l m;split at h
  .rename_i C;obtain⟨A,p,c⟩:=qfL l;have q:=c ok w ι H;obtain⟨g,o,s⟩:=qb5 q rfl;cases b:YH (qeO P fs) z a with
   |none=>simp[b] at h
   |some cs=>
    simp only[b,j6,qy] at h;subst h
    have j:(fun i=>(fs.map fun f=>(f.offset,qw P f.type))[i]?)=qeO P fs:=by
     funext i;simp[qeO]
    obtain⟨arr,r,x,u,k,_⟩:=qg2 (place:=qeO P fs) y g o s b;refine⟨.agg arr,?_,.agg x u k⟩;simp only[Instr.build,Sem.run_bind,p,Result.andThen_ok,run_underlying m,qyP C,j,r,Sem.run_pure]
  .cases h
 .rename_i z n e l m;split at h
  .rename_i B;obtain⟨A,p,c⟩:=qfL l;have q:=c ok w ι H;obtain⟨g,o,s⟩:=qb5 q rfl;cases b:YH (fun i=>some (i*qw P e,qw P e)) z a with
   |none=>simp[b] at h
   |some cs=>
    simp only[b,j6,qy] at h;subst h;obtain⟨arr,r,x,u,k,_⟩:=qg2 (place:=fun i=>some (i*qw P e,qw P e)) y g o s b;refine⟨.agg arr,?_,.agg x u k⟩;simp only[Instr.build,Sem.run_bind,p,Result.andThen_ok,run_underlying m,QB B,r,Sem.run_pure]
  .cases h
 .cases h
theorem qiX{z:Array Value}{n j:Nat}(b:0<z.size)(h:j<n):((Array.range n).map (z[· % z.size]!)).getD j undef=z.getD (j % z.size) undef:=by
 have a:=YM j b;simp[h,a]
theorem q6h{t:TypeId}{a:Nat}{b:List (Nat×D)}{vps:Array (Nat×Value)}{d:D}(J:Sim X ok w ι H)(A:qdQ ok w ι H b vps.toList)(h:qc8 P H t a b=some (d,H')):
  ∃v w',(Instr.buildSlice t a vps).run P w=.ok v w'/\Post X H.length ok w ι H d H' v w':=by
 unfold qc8 at h;split at h
 .rename_i e M;split at h
  .rename_i z L;split at h
   .rename_i c;cases r:YH (fun i=>some (i*qw P e,qw P e)) z b with
    |none=>simp[r] at h
    |some cs=>
     simp only[r,qa9] at h;split at h
     .rename_i f;have K:=f.2;clear f;injection h with h;injection h with F O;subst F;subst O;obtain⟨s,N,B,I,E,C,Q,G⟩:=qbB L;have S:a*qw P e=0->z=[]:=fun g=>kx wC
      obtain⟨k,o,n,l⟩:∃k:Array Value,(a*qw P e=0->k= #[])/\(¬a*qw P e=0->k=s.cells)/\
        ∀j,j<a*qw P e->((Array.range (a*qw P e)).map (k[· % k.size]!)).getD j undef=s.cells.getD (j % qw P e) undef:=by
       by_cases g:a*qw P e=0
       .exact⟨#[],fun _=>rfl,fun h=>absurd g h,fun j m=>wC⟩
       .refine⟨s.cells,fun h=>absurd h g,fun _=>rfl,fun j m=>?_⟩;rw[qiX wC m,B]
      obtain⟨arr,p,R,y,u,U⟩:=qg2 (place:=fun i=>some (i*qw P e,qw P e)) (arr:=(Array.range (a*qw P e)).map (k[· % k.size]!)) A (by simp[E]) C
       (fun j d m=>by
        rw[l j (by have:=(List.getElem?_eq_some_iff.1 m).1;omega)];exact G ok w ι H j d m) r
      obtain⟨ι',n1,n2,n3⟩:=qfd (e:=e) (arr:=arr) (ds:=cs) J w ⟨rfl,rfl,rfl⟩ rfl wC
       (fun j m=>by
        have x:cs[j]?=some (cs[j]' wC):=qN wC;exact(u j _ x).oneCell (y _ (mem_of_get? x)))
       y u
      refine⟨.slice (some ⟨w.heap.size,0,none⟩) a a,w.alloc (.cells arr e),?_,ι',ok,n1,?_,n2⟩
      .have T:¬(16777216<a*qw P e):=wC;simp only[Instr.buildSlice,Sem.run_bind,run_underlying M,Result.andThen_ok,QB I];rw[if_neg wS];by_cases g:a*qw P e=0
       .rw[o g] at p;rw[if_pos g];simp only[Sem.run_bind,Sem.run_pure,Result.andThen_ok,p];simp[newRow]
       .rw[n g] at p;rw[if_neg g];simp only[Sem.run_bind,Sem.run_pure,Result.andThen_ok,N,p];simp[newRow]
      .refine .osl _ wX (fun ds q=>?_) (qA _);rw[zo] at q;injection q with q;subst q;exact⟨qA _,fun _=>⟨_,_,n3,rfl,wC⟩⟩
     .cases h
   .cases h
  .cases h
 .cases h
theorem q02{t:TypeId}{l c d:D}{q cv:Value}(s:Sim X ok w ι H)(G:Rep ok w ι H l q)(hc:Rep ok w ι H c cv)(h:qgn P H t l c=some (d,H')):
  ∃v w',(Instr.makeSlice t q cv).run P w=.ok v w'/\Post X H.length ok w ι H d H' v w':=by
 unfold qgn at h;split at h
 .rename_i e l c x;split at h
  .rename_i i;obtain⟨T,U,J,Q⟩:=i;cases p:VI P e l.toNat with
   |none=>simp[p] at h
   |some z=>
    simp only[p,qa9] at h;split at h
    .rename_i W;injection h with h;injection h with I R;subst I;subst R;cases G;cases hc;obtain⟨b,N,B,m,F,C,E,K⟩:=qbB p;obtain⟨L,A,V,y⟩:=qgs m;simp only[qF] at J Q;have r:IntKind.i64.wrap l=l:=(by rw[IntKind.wrap_i64];omega);have u:IntKind.i64.wrap c=c:=(by rw[IntKind.wrap_i64];omega);have k:((Array.range (c.toNat*qw P e)).map (b.cells[· % b.cells.size]!)).size=c.toNat*qw P e:=wE;have O:l.toNat*qw P e<=c.toNat*qw P e:=qb9 _ wC;by_cases n:c.toNat*qw P e=0
     .have S:c.toNat=0:=by
       rcases Nat.mul_eq_zero.1 n with h|h
       .exact h
       .omega
      have o:l.toNat=0:=wC;have M:z=[]:=kx (by rw[F,o,Nat.zero_mul]);subst M;obtain⟨ι',n1,n2,n3⟩:=qfd (e:=e) (arr:= #[]) (ds:=[]) s w ⟨rfl,rfl,rfl⟩ rfl wE wE wE wE;refine⟨.slice (some ⟨w.heap.size,0,none⟩) l.toNat c.toNat,w.alloc (.cells #[] e),?_,ι',ok,n1,?_,n2⟩
      .simp only[Instr.makeSlice,Sem.run_bind,run_underlying x,Result.andThen_ok,asInt,asIntOf,typeInfo,run_program,A,Sem.run_pure,r,u]
       rw[if_neg (by
        simp only[y,qeH,decide_eq_true_eq,not_or];refine⟨⟨⟨wC,?_⟩,wC⟩,wC⟩;omega)]
       simp[QB m,n,newRow,show Array.range 0= #[] from rfl]
      .refine .osl _ wX (fun ds f=>?_) wC;rw[zo] at f;injection f with f;subst f;exact⟨qA _,fun _=>⟨_,_,n3,rfl,by simp[n]⟩⟩
     .have a:∀j,j<c.toNat*qw P e->((Array.range (c.toNat*qw P e)).map (b.cells[· % b.cells.size]!)).getD j undef=b.cells.getD (j % qw P e) undef:=by
       intro j g;rw[qiX wC g,B]
      obtain⟨ι',n1,n2,n3⟩:=qfd (e:=e) (arr:=(Array.range (c.toNat*qw P e)).map (b.cells[· % b.cells.size]!)) (ds:=z) s w ⟨rfl,rfl,rfl⟩ rfl (by rw[k];omega)
       (fun j g=>by
        rw[k] at g;rw[a j g];exact E _ (YM _ m))
       C (fun j d g=>by
        rw[a j (by have:=(List.getElem?_eq_some_iff.1 g).1;omega)];exact K ok w ι H j d g)
      refine⟨.slice (some ⟨w.heap.size,0,none⟩) l.toNat c.toNat,w.alloc (.cells ((Array.range (c.toNat*qw P e)).map (b.cells[· % b.cells.size]!)) e),?_,ι',ok,n1,?_,n2⟩
      .simp only[Instr.makeSlice,Sem.run_bind,run_underlying x,Result.andThen_ok,asInt,asIntOf,typeInfo,run_program,A,Sem.run_pure,r,u]
       rw[if_neg (by
        simp only[y,qeH,decide_eq_true_eq,not_or];refine⟨⟨⟨wC,?_⟩,wC⟩,wC⟩;omega)]
       simp[QB m,n,newRow,N]
      .refine .osl _ wX (fun ds f=>?_) wC;rw[zo] at f;injection f with f;subst f;exact⟨qA _,fun _=>⟨_,_,n3,rfl,by rw[k];omega⟩⟩
    .cases h
  .cases h
 .cases h
end
end Go.Ev
namespace Go.Ev
section
variable {X:Cx} {P:Program} {ok:Nat->Prop} {w w':World} {ι:qV} {H H':qe}
theorem q5E{d:Nat}{t:TypeId}{k:CK}{x y:D}{a b:Value}{r:Bool}
  (c:P.underlying t=some .bool/\k=.b\/(∃q,P.underlying t=some (.int q))/\k=.i\/P.underlying t=some .string/\k=.s) (hx:Rep ok w ι H x a) (e:Rep ok w ι H y b) (h:qgO k x y=some r):
  (Op.equalIn (d+1) t a b).run P w=.ok r w:=by
 unfold qgO at h;rcases c with⟨c,rfl⟩|⟨⟨q,c⟩,rfl⟩|⟨c,rfl⟩
 .split at h<;>first|contradiction|skip
  injection h with h;subst h;cases hx;cases e;exact run_equalIn_bool' w d t _ _ c
 .split at h<;>first|contradiction|skip
  split at h
  .rename_i f;subst f;injection h with h;subst h;cases hx;cases e;exact run_equalIn_int w d t _ _ _ _ c
  .cases h
 .split at h<;>first|contradiction|skip
  injection h with h;subst h;cases hx;cases e;rw[run_equalIn_string w d t _ _ c];simp
theorem qgN:∀{ks:List CK}{a c:List D}{r:Bool},ZH ks a c=some r->a.length=ks.length/\c.length=ks.length
 |[],[],[],_,_=>⟨rfl,rfl⟩
 |k::ks,x::a,y::c,r,h=>by
  simp only[ZH] at h;split at h
  .rename_i f d;obtain⟨b,e⟩:=qgN d;simp[b,e]
  .cases h
 |[],_::_,_,_,h|[],[],_::_,_,h|_::_,[],_,_,h|_::_,_::_,[],_,h=>by simp[ZH] at h
theorem qlD:∀{ks f:List CK}{a c b d:List D}{r:Bool},a.length=ks.length->c.length=ks.length->ZH (ks++f) (a++b) (c++d)=some r->∃p q,ZH ks a c=some p/\ZH f b d=some q/\r=(p&&q)
 |[],f,[],[],b,d,r,_,_,h=>⟨true,r,rfl,h,wE⟩
 |k::ks,f,x::a,y::c,b,d,r,e,l,h=>by
  simp only[kC,ZH] at h;split at h
  .rename_i p q j n;injection h with h;obtain⟨m,q',i,o,g⟩:=qlD (by simpa using e) (by simpa using l) n;exact⟨p&&m,q',by simp[ZH,j,i],o,by rw[<-h,g,Bool.and_assoc]⟩
  .cases h
 |[],_,_::_,_,_,_,_,e,_,_=>by simp at e
 |[],_,_,_::_,_,_,_,_,e,_=>by simp at e
 |_::_,_,[],_,_,_,_,e,_,_=>by simp at e
 |_::_,_,_::_,[],_,_,_,_,e,_=>by simp at e
def qlS(P:Program)(d:Nat)(t:TypeId)(ks:List CK):Prop:=
 ∀(ok:Nat->Prop)(w:World)(ι:qV)(H:qe)(xs c:List D)(vs us:Array Value)(off:Nat)(r:Bool),Rep ok w ι H (.agg xs) (.agg vs)->Rep ok w ι H (.agg c) (.agg us)->
  off+ks.length<=xs.length->off+ks.length<=c.length->ZH ks ((xs.drop off).take ks.length) ((c.drop off).take ks.length)=some r->
  ∃a b,(part t vs off).run P w=.ok a w/\(part t us off).run P w=.ok b w/\(Op.equalIn d t a b).run P w=.ok r w
def qvU(P:Program)(d:Nat)(t:TypeId)(ks:List CK):Prop:=
 ∀(ok:Nat->Prop)(w:World)(ι:qV)(H:qe)(xs a:List D)(vs us:Array Value)(r:Bool),Rep ok w ι H (.agg xs) (.agg vs)->Rep ok w ι H (.agg a) (.agg us)->
  ZH ks xs a=some r->(Op.equalIn d t (.agg vs) (.agg us)).run P w=.ok r w
theorem qi0(xs:List D)(off k:Nat):xs.drop off=(xs.drop off).take k++xs.drop (off+k):=by
 rw[<-ky,ZK]
theorem qnR(P:Program)(g:TypeId->Option (List CK)):∀(fs:List Field)(acc ks:List CK),qcW P g fs acc=some ks->∃a,ks=acc++a
 |[],acc,ks,h=>⟨[],by simp only[qcW,qy] at h;simp[h]⟩
 |f::fs,acc,ks,h=>by
  simp only[qcW] at h;split at h
  .split at h
   .obtain⟨a,e⟩:=qnR P g fs _ _ h;exact⟨_,by rw[e,jY]⟩
   .cases h
  .cases h
theorem quv{d:Nat}{g:TypeId->Option (List CK)}(y:∀t n,g t=some n->qw P t=n.length->qlS P d t n){xs i:List D}{vs us:Array Value}(hx:Rep ok w ι H (.agg xs) (.agg vs))(s:Rep ok w ι H (.agg i) (.agg us)):
  ∀(fs:List Field)(acc e:List CK)(r:Bool),qcW P g fs acc=some (acc++e)->ZH e (xs.drop acc.length) (i.drop acc.length)=some r->acc.length<=xs.length->acc.length<=i.length->(Op.eqFields d vs us fs).run P w=.ok r w
 |[],acc,e,r,h,hc,_,_=>by
  simp only[qcW,qy] at h;have:e=[]:=wQ
  subst this;obtain⟨m,l⟩:=qgN hc;rw[kx m,kx l] at hc;simp only[ZH,qy] at hc;subst hc;simp[Op.eqFields]
 |f::fs,acc,e,r,h,hc,I,E=>by
  simp only[qcW] at h;split at h
  .rename_i ks F;split at h
   .rename_i c;obtain⟨C,K,B,L⟩:=c;obtain⟨j,k⟩:=qnR P g fs _ _ h
    have o:e=ks++j:=by
     have:acc++e=acc++(ks++j):=(by rw[k,jY]);exact List.append_cancel_left this
    subst o;obtain⟨m,l⟩:=qgN hc;simp only[vr,zp] at m l;rw[qi0 xs acc.length ks.length,qi0 i acc.length ks.length] at hc;obtain⟨p,q,A,J,v⟩:=qlD wG wG hc;obtain⟨a,b,u,x,G⟩:=y f.type ks F B ok w ι H xs i vs us acc.length p hx s wC wC A;have z:=quv y hx s fs (acc++ks) j q (by rw[h,jY]) (by simpa using J) wG wG;rw[<-C] at u x;simp only[Op.eqFields,K,ne_eq,not_false_eq_true,if_true,Sem.run_bind,u,x,G,Result.andThen_ok];cases p
    .simp[v]
    .simpa[v] using z
   .cases h
  .cases h
theorem q3W{α:Type}(n:Nat)(l:List α):(List.replicate (n+1) l).flatten=l++(List.replicate n l).flatten:=by
 rw[qdS,qlU]
theorem quu{d:Nat}{ks:List CK}{e:TypeId}(k:qlS P d e ks){xs c:List D}{vs us:Array Value}(hx:Rep ok w ι H (.agg xs) (.agg vs))(h:Rep ok w ι H (.agg c) (.agg us)):
  ∀(m i:Nat)(r:Bool),ZH (List.replicate m ks).flatten (xs.drop (i*ks.length)) (c.drop (i*ks.length))=some r->i*ks.length<=xs.length->i*ks.length<=c.length->(Op.eqItems d e ks.length vs us (List.range' i m)).run P w=.ok r w
 |0,i,r,hc,_,_=>by
  obtain⟨f,g⟩:=qgN hc;have v:xs.drop (i*ks.length)=[]:=kx (by rw[f];rfl);have e2:c.drop (i*ks.length)=[]:=kx (by rw[g];rfl);rw[v,e2] at hc;simp only[List.replicate_zero,List.flatten_nil,ZH,qy] at hc;subst hc;simp[Op.eqItems]
 |m+1,i,r,hc,y,n=>by
  obtain⟨f,g⟩:=qgN hc;rw[q3W] at hc f g;simp only[vr,zp] at f g;have x:(i+1)*ks.length=i*ks.length+ks.length:=by rw[kt,Nat.one_mul]
  rw[qi0 xs (i*ks.length) ks.length,qi0 c (i*ks.length) ks.length] at hc;obtain⟨p,q,t,o,j⟩:=qlD wG wG hc;obtain⟨a,b,z,u,s⟩:=k ok w ι H xs c vs us (i*ks.length) p hx h wC wC t;have l:=quu k hx h m (i+1) q (by rw[x];exact o) wC wC;rw[List.range'_succ];simp only[Op.eqItems,Sem.run_bind,z,u,s,Result.andThen_ok];cases p
  .simp[j]
  .simpa[j] using l
theorem q6G{t:TypeId}{m:Nat}{ks:List CK}(h:ZQ P m t=some ks):
  KC P t=some true\/(KC P t=some false/\∃k,ks=[k]/\(P.underlying t=some .bool/\k=.b\/(∃q,P.underlying t=some (.int q))/\k=.i\/P.underlying t=some .string/\k=.s)):=by
 cases m with
 |zero=>simp[ZQ] at h
 |succ m=>
  unfold ZQ at h;unfold KC;split at h
  .rename_i a;injection h with h;exact .inr ⟨xA,_,h.symm,.inl ⟨a,rfl⟩⟩
  .rename_i a;injection h with h;exact .inr ⟨xA,_,h.symm,.inr (.inl ⟨⟨_,a⟩,rfl⟩)⟩
  .rename_i a;injection h with h;exact .inr ⟨xA,_,h.symm,.inr (.inr ⟨a,rfl⟩)⟩
  .rename_i a;exact .inl xA
  .rename_i a;exact .inl xA
  .cases h
theorem qjR:∀(m d:Nat)(t:TypeId)(ks:List CK),ZQ P m t=some ks->(qw P t=ks.length->qlS P (d+m) t ks)/\(KC P t=some true->qvU P (d+m) t ks)
 |0,_,_,_,h=>by simp[ZQ] at h
 |m+1,d,t,ks,h=>by
  have l:KC P t=some true->qvU P (d+(m+1)) t ks:=by
   intro f ok w ι H xs o vs us r hx u hc;unfold ZQ at h;unfold KC at f;split at h
   .rename_i j;simp[j] at f
   .rename_i j;simp[j] at f
   .rename_i j;simp[j] at f
   .rename_i W e j;split at h
    .rename_i z U;split at h
     .rename_i c;injection h with h;subst h;obtain⟨i,hi,_⟩:=qgs (P:=P) (t:=e) wC;have R:=(qjR m d e z U).1 c.1;rw[show d+(m+1)=(d+m)+1 from rfl,run_equalIn_array w (d+m) vs us j hi];have E:P.cellsOf e=z.length:=c.1;rw[E,List.range_eq_range'];exact quu R hx u W 0 r (by simpa using hc) wC wC
     .cases h
    .cases h
   .rename_i fs j;split at h
    .cases h
    .rename_i L;have v:P.fieldsOf t=fs:=(by simp[Program.fieldsOf,j]);rw[show d+(m+1)=(d+m)+1 from rfl,run_equalIn_struct w (d+m) t vs us (by rw[v];exact j) (by simpa using L),v];exact quv (g:=ZQ P m) (fun t n Q V=>(qjR m d t n Q).1 V) hx u fs.toList [] ks r wQ (by simpa using hc) (vg _) (vg _)
   .cases h
  refine⟨?_,l⟩;intro M ok w ι H xs o vs us off r hx u y x hc;rcases q6G h with f|⟨f,k,rfl,s⟩
  .obtain⟨a,K,A⟩:=qfa (P:=P) (t:=t) (off:=off) (d:=.agg ((xs.drop off).take ks.length)) hx (by simp[qaR,f,M,y]);obtain⟨b,F,B⟩:=qfa (P:=P) (t:=t) (off:=off) (d:=.agg ((o.drop off).take ks.length)) u (by simp[qaR,f,M,x]);refine⟨a,b,K,F,?_⟩;obtain⟨N,rfl⟩:∃N,a=.agg N:=by cases A;exact⟨_,rfl⟩
   obtain⟨O,rfl⟩:∃O,b=.agg O:=by cases B;exact⟨_,rfl⟩
   exact l f ok w ι H _ _ _ _ r A B hc
  .simp only[jA,kf,J3] at y x hc;have J:xs[off]?=some (xs[off]' wC):=qN wC;have I:o[off]?=some (o[off]' wC):=qN wC;have T:(xs.drop off).take 1=[xs[off]' wC]:=(by rw[zZ (show off<xs.length from wC)];rfl);have S:(o.drop off).take 1=[o[off]' wC]:=(by rw[zZ (show off<o.length from wC)];rfl);rw[T,S] at hc;simp only[ZH] at hc;split at hc
   .rename_i p q G C;injection hc with hc;injection C with C;subst C;obtain⟨a,K,A⟩:=qfa (P:=P) (t:=t) (off:=off) hx (by simp only[qaR,f];exact J);obtain⟨b,F,B⟩:=qfa (P:=P) (t:=t) (off:=off) u (by simp only[qaR,f];exact I);refine⟨a,b,K,F,?_⟩;have:=q5E (P:=P) (d:=d+m) s A B G;rw[show d+(m+1)=d+m+1 from rfl,this,<-hc];simp
   .cases hc
theorem q4E{op:BinOp}{t:TypeId}{x y:Operand}{a b:Value}(f:∀p q,a=.agg p->b=.agg q->P.eqGuardType P.depth t=false)(e:a=.nilIface->b=.nilIface->(KW x||KW y)=true):
  (eqGuard op t x y a b).run P w=.ok () w:=by
 by_cases d:a=.nilIface/\b=.nilIface
 .obtain⟨rfl,rfl⟩:=d;have:=e rfl rfl;cases x<;>cases y<;>simp[KW] at this<;>cases op<;>simp[eqGuard]
 .by_cases c:∃p q,a=.agg p/\b=.agg q
  .obtain⟨p,q,rfl,rfl⟩:=c;cases op<;>simp[eqGuard,run_program,f p q rfl rfl]
  .cases op<;>simp only[eqGuard]<;>first|rfl|skip
   .rw[if_neg wE];split
    .exact absurd ⟨rfl,rfl⟩ d
    .exact absurd ⟨_,_,rfl,rfl⟩ c
    .rfl
   .rw[if_neg wE];split
    .exact absurd ⟨rfl,rfl⟩ d
    .exact absurd ⟨_,_,rfl,rfl⟩ c
    .rfl
theorem q4A(d:Nat){t e:TypeId}(a:P.underlying t=some (.slice e))(q:Option Addr)(n c b f:Nat):(Op.equalIn (d+1) t (.slice none b f) (.slice q n c)).run P w=.ok q.isNone w:=by
 simp only[Op.equalIn,Sem.run_bind,run_underlying a,Result.andThen_ok,Sem.run_pure]
theorem q46(d:Nat){t e:TypeId}(a:P.underlying t=some (.slice e))(q:Option Addr)(n c b f:Nat):(Op.equalIn (d+1) t (.slice q n c) (.slice none b f)).run P w=.ok q.isNone w:=by
 cases q<;>simp only[Op.equalIn,Sem.run_bind,run_underlying a,Result.andThen_ok,Sem.run_pure,Option.isNone]
theorem q49(d:Nat){t:TypeId}{b:Array (String×TypeId)}(a:P.underlying t=some (.interface b)):(Op.equalIn (d+1) t .nilIface .nilIface).run P w=.ok true w:=by
 simp only[Op.equalIn,Sem.run_bind,run_underlying a,Result.andThen_ok,Sem.run_pure]
theorem q4B(d:Nat){t u:TypeId}{v:Value}{b:Array (String×TypeId)}(a:P.underlying t=some (.interface b)):(Op.equalIn (d+1) t (.iface u v) .nilIface).run P w=.ok false w:=by
 simp only[Op.equalIn,Sem.run_bind,run_underlying a,Result.andThen_ok,Sem.run_pure]
theorem q48(d:Nat){t e:TypeId}(a:P.underlying t=some (.pointer e)):(Op.equalIn (d+1) t (.pointer none) (.pointer none)).run P w=.ok true w:=by
 simp only[Op.equalIn,Sem.run_bind,run_underlying a,Result.andThen_ok,Sem.run_pure,Option.isNone]
theorem q47(d:Nat){t e:TypeId}{a:Addr}(b:P.underlying t=some (.pointer e)):(Op.equalIn (d+1) t (.pointer (some a)) (.pointer none)).run P w=.ok false w:=by
 simp only[Op.equalIn,Sem.run_bind,run_underlying b,Result.andThen_ok,Sem.run_pure]
theorem qut{t e:TypeId}(d:P.underlying t=some (.slice e))(q:Option Addr)(n c a b:Nat):(Op.equal t (.slice none a b) (.slice q n c)).run P w=.ok q.isNone w:=q4A 9999 d q n c a b
theorem qlh{t e:TypeId}(d:P.underlying t=some (.slice e))(q:Option Addr)(n c a b:Nat):(Op.equal t (.slice q n c) (.slice none a b)).run P w=.ok q.isNone w:=q46 9999 d q n c a b
theorem q43{t:TypeId}{b:Array (String×TypeId)}(a:P.underlying t=some (.interface b)):(Op.equal t .nilIface .nilIface).run P w=.ok true w:=q49 9999 a
theorem q44{t u:TypeId}{v:Value}{b:Array (String×TypeId)}(a:P.underlying t=some (.interface b)):(Op.equal t (.iface u v) .nilIface).run P w=.ok false w:=q4B 9999 a
theorem q42{t e:TypeId}(a:P.underlying t=some (.pointer e)):(Op.equal t (.pointer none) (.pointer none)).run P w=.ok true w:=q48 9999 a
theorem qus{t e:TypeId}{a:Addr}(b:P.underlying t=some (.pointer e)):(Op.equal t (.pointer (some a)) (.pointer none)).run P w=.ok false w:=q47 9999 b
theorem q45(w:World){t c:TypeId}{g:Array (String×TypeId)}{k q:IntKind}(a b:Int)
  (e:P.underlying t=some (.interface g)) (hc:(P.info? c).map (·.comparable)=some true) (hx:P.underlying c=some (.int q)):
  (Op.equal t (.iface c (.int k a)) (.iface c (.int k b))).run P w=.ok (a==b) w:=by
 cases hi:P.info? c with
 |none=>simp[hi] at hc
 |some i=>
  have f:i.comparable=true:=by simpa[hi] using hc
  have h:∀d:Nat,(Op.equalIn (d+2) t (.iface c (.int k a)) (.iface c (.int k b))).run P w=.ok (a==b) w:=fun d=>by
   simp[Op.equalIn,run_underlying e,run_underlying hx,typeInfo,hi,f]
  simp[Op.equal,Op.maxDepth,h 9998]
theorem Yc{op:BinOp}{t:TypeId}{a b:Value}{r:Bool}(e:op=.eql\/op=.neq)(d:(Op.equal t a b).run P w=.ok r w)
  (c:binOp .eql t a b=(do pure (.bool (<-Op.equal t a b)))/\binOp .neq t a b=(do pure (.bool (!(<-Op.equal t a b))))):
  (binOp op t a b).run P w=.ok (.bool (if op=.eql then r else !r)) w:=by
 rcases e with rfl|rfl
 .rw[c.1];simp[d]
 .rw[c.2];simp[d]
theorem quw{t:TypeId}{c:Bool}{x y:D}{a b:Value}{r:Bool}(hx:Rep ok w ι H x a)(i:Rep ok w ι H y b)(h:eqD P t c x y=some r):
  (∀p q,a=.agg p->b=.agg q->P.eqGuardType P.depth t=false)/\(a=.nilIface->b=.nilIface->c=true)/\
  (∀op,(op=.eql\/op=.neq)->(binOp op t a b).run P w=.ok (.bool (if op=.eql then r else !r)) w):=by
 unfold eqD at h;split at h
 .cases hx;cases i;split at h
  .rename_i g;injection h with h;subst h;exact⟨fun _ _ h=>wI,fun h=>wI,fun op d=>Yc d (run_equal_bool w t _ _ g) ⟨rfl,rfl⟩⟩
  .cases h
 .split at h
  .rename_i ks l;split at h
   .rename_i j;obtain⟨vs,rfl⟩:∃B,a=.agg B:=by cases hx;exact⟨_,rfl⟩
    obtain⟨us,rfl⟩:∃n,b=.agg n:=by cases i;exact⟨_,rfl⟩
    have v:(Op.equal t (.agg vs) (.agg us)).run P w=.ok r w:=(qjR 50 9950 t ks l).2 j.1 ok w ι H _ _ _ _ r hx i h;exact⟨fun _ _ _ _=>j.2,fun h=>wI,fun op d=>Yc d v ⟨rfl,rfl⟩⟩
   .cases h
  .cases h
 .split at h
  .rename_i e g;injection h with h;subst h;cases hx;cases i with
   |vnil=>exact⟨fun _ _ h=>wI,fun h=>wI,fun op d=>Yc d (qut g _ _ _ _ _) ⟨rfl,rfl⟩⟩
   |vsl a f z hc o C G=>exact⟨fun _ _ h=>wI,fun h=>wI,fun op d=>Yc d (qut g _ _ _ _ _) ⟨rfl,rfl⟩⟩
  .cases h
 .split at h
  .rename_i e g;injection h with h;subst h;cases i;cases hx with
   |vnil=>exact⟨fun _ _ h=>wI,fun h=>wI,fun op d=>Yc d (qlh g _ _ _ _ _) ⟨rfl,rfl⟩⟩
   |vsl a f z hc o C G=>exact⟨fun _ _ h=>wI,fun h=>wI,fun op d=>Yc d (qlh g _ _ _ _ _) ⟨rfl,rfl⟩⟩
  .cases h
 .split at h
  .rename_i e g;injection h with h;subst h;cases i;cases hx;exact⟨fun _ _ h=>wI,fun h=>wI,fun op d=>Yc d (qlh g _ _ _ _ _) ⟨rfl,rfl⟩⟩
  .cases h
 .cases hx;cases i;split at h
  .rename_i e g;split at h
   .rename_i hc;injection h with h;subst h;exact⟨fun _ _ h=>wI,fun _ _=>hc,fun op d=>Yc d (q43 g) ⟨rfl,rfl⟩⟩
   .cases h
  .cases h
 .rename_i s k E I k' F;cases hx with
  |iface hx=>
  cases i with
  |iface i=>
  cases hx;cases i;split at h
  .rename_i e q g u;split at h
   .rename_i hc;obtain⟨rfl,rfl,hc⟩:=hc;injection h with h;subst h
    have A:(P.info? s).map (·.comparable)=some true:=by
     unfold ql6 at hc;cases m:(P.info? s).map (·.comparable) with
     |none=>rw[m] at hc;simp at hc
     |some b=>rw[m] at hc;simpa using hc
    exact⟨fun _ _ h=>wI,fun h=>wI,fun op d=>Yc d (q45 w E F g A u) ⟨rfl,rfl⟩⟩
   .cases h
  .cases h
 .cases hx;cases i;split at h
  .rename_i e g;injection h with h;subst h;exact⟨fun _ _ h=>wI,fun h=>wI,fun op d=>Yc d (q44 g) ⟨rfl,rfl⟩⟩
  .cases h
 .cases hx;cases i;split at h
  .rename_i e g;injection h with h;subst h;exact⟨fun _ _ h=>wI,fun h=>wI,fun op d=>Yc d (q42 g) ⟨rfl,rfl⟩⟩
  .cases h
 .cases hx;cases i;split at h
  .rename_i e g;injection h with h;subst h;exact⟨fun _ _ h=>wI,fun h=>wI,fun op d=>Yc d (qus g) ⟨rfl,rfl⟩⟩
  .cases h
 .cases hx;cases i;split at h
  .rename_i e g;injection h with h;subst h;exact⟨fun _ _ h=>wI,fun h=>wI,fun op d=>Yc d (qus g) ⟨rfl,rfl⟩⟩
  .cases h
 .cases h
theorem q6l{op:BinOp}{t:TypeId}{x y:Operand}{p q d:D}{a b:Value}(hx:Rep ok w ι H p a)(i:Rep ok w ι H q b)(h:qiG P op t (KW x||KW y) p q=some d):
  ∃v,(do eqGuard op t x y a b;binOp op t a b:Sem Value).run P w=.ok v w/\Rep ok w ι H d v:=by
 have fin:(∀p q,a=.agg p->b=.agg q->P.eqGuardType P.depth t=false)->(a=.nilIface->b=.nilIface->(KW x||KW y)=true)->∀v,(binOp op t a b).run P w=.ok v w->
   (do eqGuard op t x y a b;binOp op t a b:Sem Value).run P w=.ok v w:=by
  intro c f v o;rw[Sem.run_bind,q4E c f];exact o
 unfold qiG at h;split at h
 .cases hx;cases i;rename_i k a k' b;obtain⟨v,c,f⟩:=qmU (P:=P) (ok:=ok) (w:=w) (ι:=ι) (H:=H) (t:=t) (k':=k') (.inl rfl) h;exact⟨v,fin (fun _ _ h=>wI) (fun h=>wI) v c,f⟩
 .cases hx;cases i;rename_i k a k' b;obtain⟨v,c,f⟩:=qmU (P:=P) (ok:=ok) (w:=w) (ι:=ι) (H:=H) (t:=t) (k':=k') (.inr rfl) h;exact⟨v,fin (fun _ _ h=>wI) (fun h=>wI) v c,f⟩
 .rename_i u k a k' b m n;split at h
  .rename_i s;subst s;cases hx;cases i;obtain⟨v,c,f⟩:=q2B (P:=P) (ok:=ok) (w:=w) (ι:=ι) (H:=H) (t:=t) (fun e=>by subst e;simp_all) (fun e=>by subst e;simp_all) h;exact⟨v,fin (fun _ _ h=>wI) (fun h=>wI) v c,f⟩
  .cases h
 .cases hx;cases i;obtain⟨v,c,f⟩:=qwQ (P:=P) (ok:=ok) (w:=w) (ι:=ι) (H:=H) (t:=t) h;exact⟨v,fin (fun _ _ h=>wI) (fun h=>wI) v c,f⟩
 .cases g:eqD P t (KW x||KW y) p q with
  |none=>simp[g] at h
  |some r=>
   simp only[g,j6,qy] at h;subst h;obtain⟨e2,l,j⟩:=quw hx i g;exact⟨.bool r,fin e2 l _ (by rw[j .eql (.inl rfl)];simp),.bool _⟩
 .cases g:eqD P t (KW x||KW y) p q with
  |none=>simp[g] at h
  |some r=>
   simp only[g,j6,qy] at h;subst h;obtain⟨e2,l,j⟩:=quw hx i g;exact⟨.bool !r,fin e2 l _ (by rw[j .neq (.inr rfl)];simp),.bool _⟩
 .cases h
end
end Go.Ev
namespace Go.Ev
section
variable {X:Cx} {P:Program} {ok ok':Nat->Prop} {w w':World} {ι:qV} {H H':qe}
theorem Rep.okMono{d:D}{v:Value}(h:Rep ok w ι H d v)(m:∀b,ok b->ok' b):Rep ok' w ι H d v:=by
 induction h with
 |bool b=>exact .bool b
 |int k n=>exact .int k n
 |str s=>exact .str s
 |nilp=>exact .nilp
 |nilf=>exact .nilf
 |nili=>exact .nili
 |raw v=>exact .raw v
 |agg e hc h c=>exact .agg e hc c
 |tup e h c=>exact .tup e c
 |fn e h c=>exact .fn e c
 |iface h c=>exact .iface c
 |optr a hi h=>exact .optr a hi h
 |osl a hi h l=>exact .osl a hi h l
 |vptr a f i hc g h c=>exact .vptr a f (fun d j=>m _ (i d j)) hc g c
 |vnil=>exact .vnil
 |vsl a f i hc g h l c=>exact .vsl a f (fun d j=>m _ (i d j)) hc g c l
theorem Rep.vfree{d:D}{v:Value}(h:Rep ok w ι H d v)(e:vFree d=true)(ok':Nat->Prop):Rep ok' w ι H d v:=by
 induction h with
 |bool b=>exact .bool b
 |int k n=>exact .int k n
 |str s=>exact .str s
 |nilp=>exact .nilp
 |nilf=>exact .nilf
 |nili=>exact .nili
 |raw v=>exact .raw v
 |agg i hc h c=>
  simp only[vFree,qhd] at e;exact .agg i hc fun j d g=>c j d g (e d (mem_of_get? g))
 |tup i h c=>
  simp only[vFree,qhd] at e;exact .tup i fun j d g=>c j d g (e d (mem_of_get? g))
 |fn i h c=>
  simp only[vFree,qhd] at e;exact .fn i fun j d g=>c j d g (e d (mem_of_get? g))
 |iface h c=>exact .iface (c e)
 |optr a hi h=>exact .optr a hi h
 |osl a hi h l=>exact .osl a hi h l
 |vptr a f o hc m h c=>simp[vFree] at e
 |vnil=>exact .vnil
 |vsl a f o hc m h l c=>simp[vFree] at e
def qh7(ok:Nat->Prop)(ι:qV)(H:qe)(b:Nat):Prop:=ok b\/∃i ds s,qd H i=some ds/\ι i=some (b,s)
theorem qcA{ds:List D}(h:ds.all idFree=true):∀d,d∈ds->idFree d=true:=by
 intro d a;exact List.all_eq_true.1 h d a
theorem freeze_rep(y:Sim X ok w ι H):∀(d:D){d':D}{v:Value},Rep ok w ι H d v->freeze H d=some d'->Rep (qh7 ok ι H) w jB [] d' v
 | .osl i st off I k,d',v,h,g=>by
  simp only[freeze] at g;split at g
  .rename_i ds o;split at g
   .rename_i m;injection g with g;subst g;cases h with
    | @osl _ _ _ _ _ _ _ c a hi q Q=>
     obtain⟨b,s,u,rfl,Z⟩:=(q ds o).2 m.1;obtain⟨b',arr,e,fr,n,S,J,L,V,W,K,E⟩:=y.blk i ds o;have T:=n;rw[u] at n;injection n with n;injection n with n _;subst n;refine .vsl _ (fun j=>arr.getD (off+j) undef) (fun _ _=>.inr ⟨i,ds,_,o,u⟩) (fun d o=>K d (Z0 (QZ o))) (fun j d l=>?_) (fun j d l=>?_) Q
     .rw[Xw] at l;split at l
      .rw[kX] at l;have C:off+j<arr.size:=vh (List.getElem?_eq_some_iff.1 l).1 L;rw[Vq,YI J];simp[C]
      .cases l
     .have Y:d∈(ds.drop off).take (I*k):=jH l;rw[Xw] at l;split at l
      .rw[kX] at l;exact((E _ d l).free (m.2.2.elim (fun U=>qcA U d (mem_of_get? l)) (fun p=>qcA p d Y)) _ _).okMono fun b p=>.inl p
      .cases l
   .cases g
  .cases g
 | .optr i st off,d',v,h,g=>by
  simp only[freeze] at g;split at g
  .rename_i ds o;split at g
   .rename_i m;injection g with g;subst g;cases h with
    |optr a hi q=>
     obtain⟨b,s,u,rfl⟩:=(q ds o).2 m.1;obtain⟨b',arr,e,fr,n,S,J,L,V,W,K,E⟩:=y.blk i ds o;rw[u] at n;injection n with n;injection n with n _;subst n;refine .vptr _ (fun j=>arr.getD (off+j) undef) (fun _ _=>.inr ⟨i,ds,_,o,u⟩) (fun d o=>K d (Z0 o)) (fun j d l=>?_) (fun j d l=>?_)
     .rw[kX] at l;have C:off+j<arr.size:=vh (List.getElem?_eq_some_iff.1 l).1 L;rw[Vq,YI J];simp[C]
     .rw[kX] at l;exact((E _ d l).free (qcA m.2 d (mem_of_get? l)) _ _).okMono fun b p=>.inl p
   .cases g
  .cases g
 | .fn f r,d',v,h,g=>by
  simp only[freeze] at g;cases hc:freeze.freezeL H r with
  |none=>simp[hc] at g
  |some cs=>
   simp only[hc,j6,qy] at g;subst g;cases h with
   |fn B q=>
    obtain⟨A,z⟩:=freezeL_rep y r (vs:=fun j=>(_:Array Value).getD j undef) q hc;exact .fn (by rw[B,A]) z
 | .agg cs,d',v,h,g=>by
  simp only[freeze] at g;cases hc:freeze.freezeL H cs with
  |none=>simp[hc] at g
  |some R=>
   simp only[hc,j6,qy] at g;subst g;cases h with
   |agg B O q=>
    obtain⟨A,z⟩:=freezeL_rep y cs (vs:=fun j=>(_:Array Value).getD j undef) q hc;refine .agg (by rw[B,A]) ?_ z;intro d o;obtain⟨j,l⟩:=List.mem_iff_getElem?.1 o;have M:=z j d l;have P:j<cs.length:=(by rw[A];exact(List.getElem?_eq_some_iff.1 l).1);have N:cs[j]?=some cs[j]:=qN P;have F:=(q j _ N).oneCell (O _ (mem_of_get? N));generalize Array.getD _ j undef=x at M F;cases M<;>first|rfl|exact F|simp[Value.oneCell'] at F
 | .tup cs,d',v,h,g=>by
  simp only[freeze] at g;split at g
  .rename_i G;injection g with g;subst g;exact(h.free G _ _).okMono fun b p=>.inl p
  .cases g
 | .iface t d,d',v,h,g=>by
  simp only[freeze] at g;split at g
  .rename_i G;injection g with g;subst g;exact(h.free G _ _).okMono fun b p=>.inl p
  .cases g
 | .bool _,d',v,h,g| .int _ _,d',v,h,g| .str _,d',v,h,g| .nilp,d',v,h,g| .nilf,d',v,h,g| .nili,d',v,h,g| .raw _,d',v,h,g| .vptr _,d',v,h,g| .vsl _ _ _,d',v,h,g=>by
  simp only[freeze,idFree,if_true,qy] at g;subst g;exact(h.free rfl _ _).okMono fun b p=>.inl p
where freezeL_rep (hs:Sim X ok w ι H):∀(l:List D){l':List D}{vs:Nat->Value},(∀(j:Nat) d,l[j]?=some d->Rep ok w ι H d (vs j))->freeze.freezeL H l=some l'->
      l.length=l'.length/\∀(j:Nat) d,l'[j]?=some d->Rep (qh7 ok ι H) w jB [] d (vs j)
 |[],l',vs,_,hf=>by
  simp only[freeze.freezeL,qy] at hf;subst hf;simp
 |d::l,l',vs,h,hf=>by
  simp only[freeze.freezeL] at hf;split at hf
  .rename_i d1 l1 h1 h2;injection hf with hf;subst hf;obtain⟨k1,k2⟩:=freezeL_rep hs l (vs:=fun j=>vs (j+1)) (fun j x hx=>h (j+1) x wo) h2;refine⟨by simp[k1],fun j x hx=>?_⟩;cases j with
   |zero=>
    simp only[kY,qy] at hx;subst hx;exact freeze_rep hs d (h 0 d rfl) h1
   |succ j=>exact k2 j x wo
  .cases hf
theorem qfS(n:Nat):∀(l:List D)(j:Nat),(shift.shiftL n l)[j]?=(l[j]?).map (shift n)
 |[],j=>by simp[shift.shiftL]
 |d::l,0=>by simp[shift.shiftL]
 |d::l,j+1=>by simp[shift.shiftL,qfS n l j]
theorem qhs(n:Nat):∀(l:List D),(shift.shiftL n l).length=l.length
 |[]=>rfl
 |d::l=>by simp[shift.shiftL,qhs n l]
def qaY(n:Nat)(ι ι1:qV):qV:=fun i=>if i<n then ι i else ι1 (i-n)
theorem qeu{L:qe}{i:Nat}(h:i<H.length):qd (H++L) i=qd H i:=by simp[qd,vJ h]
theorem qgv{L:qe}{i:Nat}:qd (H++L) (H.length+i)=qd L i:=by
 unfold qd;rw[jn wC];congr 2;omega
theorem qk6{n i:Nat}{ι ι1:qV}:qaY n ι ι1 (n+i)=ι1 i:=by
 unfold qaY;rw[if_neg wC];congr 1;omega
theorem qxy{n:Nat}{d:D}(h:ju d=true):ju (shift n d)=true:=by cases d<;>first|rfl|exact h|simp[ju] at h
theorem Rep.shift{L:qe}{ι1:qV}{d:D}{v:Value}(h:Rep ok w ι1 L d v)(ι:qV)(H:qe):Rep ok w (qaY H.length ι ι1) (H++L) (Ev.shift H.length d) v:=by
 induction h with
 |bool b=>exact .bool b
 |int k n=>exact .int k n
 |str s=>exact .str s
 |nilp=>exact .nilp
 |nilf=>exact .nilf
 |nili=>exact .nili
 |raw v=>exact .raw v
 |agg l hc h g=>
  refine .agg (by rw[qhs];exact l) ?_ fun j d c=>?_
  .intro d i;obtain⟨j,c⟩:=List.mem_iff_getElem?.1 i;rw[qfS] at c;simp only[KD] at c;obtain⟨x,hx,rfl⟩:=c;exact qxy (hc x (mem_of_get? hx))
  .rw[qfS] at c;simp only[KD] at c;obtain⟨x,hx,rfl⟩:=c;exact g j x hx
 |tup l h g=>
  refine .tup (by rw[qhs];exact l) fun j d c=>?_;rw[qfS] at c;simp only[KD] at c;obtain⟨x,hx,rfl⟩:=c;exact g j x hx
 |fn l h g=>
  refine .fn (by rw[qhs];exact l) fun j d c=>?_;rw[qfS] at c;simp only[KD] at c;obtain⟨x,hx,rfl⟩:=c;exact g j x hx
 |iface h g=>exact .iface g
 |optr a hi h=>
  refine .optr a wG fun ds i=>?_;rw[qgv] at i;obtain⟨r,p⟩:=h ds i;refine⟨r,fun e=>?_⟩;obtain⟨b,s,m,t⟩:=p e;exact⟨b,s,by rw[qk6];exact m,t⟩
 |osl a hi h u=>
  refine .osl a wG (fun ds i=>?_) u;rw[qgv] at i;obtain⟨r,p⟩:=h ds i;refine⟨r,fun e=>?_⟩;obtain⟨b,s,m,t⟩:=p e;exact⟨b,s,by rw[qk6];exact m,t⟩
 |vptr a f q hc o h g=>exact .vptr a f q hc o h
 |vnil=>exact .vnil
 |vsl a f q hc o h u g=>exact .vsl a f q hc o h u
theorem qvp{L:qe}{ι1:qV}{ok2:Nat->Prop}(o:Sim X ok w ι H)(K:qa8 w w')(R:w.heap.size<=w'.heap.size)(t:∀b,b<w.heap.size->w'.heap[b]?=w.heap[b]?)
  (P:∀b,ok b->ok2 b) (N:∀b,ok2 b->b<w.heap.size->ok b) (O:∀b,ok2 b->b<w'.heap.size)
  (hi:∀i j ds r b s C,qd L i=some ds->qd L j=some r->ι1 i=some (b,s)->ι1 j=some (b,C)->i=j)
  (E:∀i ds,qd L i=some ds->∃b arr e fr,ι1 i=some (b,arr.size)/\w.heap.size<=b/\¬ok2 b/\w'.heap[b]?=some (.cells arr e fr)/\ds.length<=arr.size/\
   (fr.1=fr.2\/arr.size<=fr.1)/\(∀j,j<arr.size->(arr.getD j undef).oneCell'=true)/\(∀d,d∈ds->ju d=true)/\
   (∀(j:Nat) d,ds[j]?=some d->Rep ok2 w' jB [] d (arr.getD j undef))):
  Sim X ok2 w' (qaY H.length ι ι1) (H++L)/\Evol H.length ok w ι H ok2 w' (qaY H.length ι ι1) (H++L):=by
 have z:∀i ds,qd (H++L) i=some ds->(i<H.length/\qd H i=some ds/\qaY H.length ι ι1 i=ι i)\/(H.length<=i/\qd L (i-H.length)=some ds/\qaY H.length ι ι1 i=ι1 (i-H.length)):=by
  intro i ds m;by_cases c:i<H.length
  .rw[qeu c] at m;exact .inl ⟨c,m,by simp[qaY,c]⟩
  .obtain⟨k,rfl⟩:∃k,i=H.length+k:=⟨i-H.length,wC⟩;rw[qgv] at m;exact .inr ⟨wC,by simpa using m,by rw[qk6];congr 1;omega⟩
 have q:Evol H.length ok w ι H ok2 w' (qaY H.length ι ι1) (H++L):=by
  refine⟨K.1,K.2.1,K.2.2,R,fun b a _=>t b a,P,fun b a c=>.inl (N b a c),⟨qA _,wE⟩,?_,?_⟩
  .intro i c ds m;rw[qeu c] at m;exact⟨ds,m,qA _,fun _=>by simp[qaY,c]⟩
  .intro i ds b s m a c;rcases z i ds m with⟨x,f,l⟩|⟨x,f,l⟩
   .exact⟨i,ds,s,f,by rw[<-l];exact a⟩
   .obtain⟨b',arr,e,fr,n,y,_⟩:=E _ ds f;rw[l,n] at a;injection a with a;injection a with a _;omega
 refine⟨⟨O,?_,?_,?_⟩,q⟩
 .intro g cs U;exact(((o.glob g cs U).lift (ι:=ι) (H:=H)).evol o q rfl).free rfl _ _
 .intro i j ds r b s C m Q a p;rcases z i ds m with⟨x,f,l⟩|⟨x,f,l⟩<;>rcases z j r Q with⟨T,u,v⟩|⟨T,u,v⟩
  .exact o.inj i j ds r b s C f u (by rw[<-l];exact a) (by rw[<-v];exact p)
  .have c:=o.lt f (by rw[<-l];exact a);obtain⟨b',arr,e,fr,n,y,_⟩:=E _ r u;rw[v,n] at p;injection p with p;injection p with p _;omega
  .have c:=o.lt u (by rw[<-v];exact p);obtain⟨b',arr,e,fr,n,y,_⟩:=E _ ds f;rw[l,n] at a;injection a with a;injection a with a _;omega
  .have:=hi _ _ ds r b s C f u (by rw[<-l];exact a) (by rw[<-v];exact p);omega
 .intro i ds m;rcases z i ds m with⟨x,f,l⟩|⟨x,f,l⟩
  .obtain⟨b,arr,e,fr,n,y,J,F,M,G,I,B⟩:=o.blk i ds f;have c:=o.lt f n;exact⟨b,arr,e,fr,by rw[l];exact n,fun h=>y (N b h c),by rw[t b c];exact J,F,M,G,I,fun j d A=>(B j d A).evol o q (B j d A).closed⟩
  .obtain⟨b,arr,e,fr,n,y,J,F,M,G,I,B,S⟩:=E _ ds f;exact⟨b,arr,e,fr,by rw[l];exact n,J,F,M,G,I,B,fun j d A=>(S j d A).lift⟩
end
end Go.Ev
namespace Go.Ev
section
variable {X:Cx} {P:Program} {ok ok':Nat->Prop} {w w':World} {ι:qV} {H H':qe}
structure PInv (n0:Nat) (H:qe) (seen:List Nat) (acc:qe):Prop where
 len:acc.length=seen.length
 at_:∀(p i:Nat),seen[p]?=some i->n0<=i/\∃ds,qd H i=some ds/\acc[p]?=some (some ds)/\ds.all idFree=true
 nd:seen.Nodup
def VS(n0:Nat)(ι:qV)(S:List Nat):qV:=fun i=>if i<n0 then ι i else(S[i-n0]?).bind ι
def qvJ(n0:Nat)(H:qe)(seen a:List Nat)(acc b:qe):Prop:=
 PInv n0 H a b/\(∃t,a=seen++t)/\(∃u,b=acc++u)
theorem qic{n0 i:Nat}(h:i<n0):qd (H.take n0) i=qd H i:=by
 simp[qd,h]
theorem qid{n0 i:Nat}{A:qe}(a:n0<=H.length)(h:i<n0):qd (H.take n0++A) i=qd H i:=by
 rw[qeu wG,qic h]
theorem qtf{n0 p:Nat}{A:qe}(a:n0<=H.length):qd (H.take n0++A) (n0+p)=qd A p:=by
 have:(H.take n0).length=n0:=wG
 have h:=qgv (H:=H.take n0) (L:=A) (i:=p)
 rwa [this] at h
theorem qnZ{n0 p:Nat}{S:List Nat}:VS n0 ι S (n0+p)=(S[p]?).bind ι:=by
 unfold VS;rw[if_neg wC];congr 2;omega
theorem qtx{n0 i:Nat}{seen S:List Nat}{acc A:qe}(g:n0<=H.length)(b:PInv n0 H seen acc)(e:PInv n0 H S A)(a:∃t,S=seen++[i]++t):
  qd (H.take n0++A) (n0+acc.length)=qd H i/\VS n0 ι S (n0+acc.length)=ι i/\n0+acc.length<(H.take n0++A).length:=by
 obtain⟨t,rfl⟩:=a
 have c:(seen++[i]++t)[acc.length]?=some i:=by
  rw[b.len];simp
 obtain⟨_,ds,f,d,_⟩:=e.at_ _ _ c;refine⟨?_,?_,?_⟩
 .rw[qtf g,f];simp[qd,d]
 .rw[qnZ,c];rfl
 .have:acc.length<A.length:=(List.getElem?_eq_some_iff.1 d).1;simp;omega
theorem PInv.add{n0 i:Nat}{seen:List Nat}{acc:qe}{ds:List D}(c:PInv n0 H seen acc)(hi:n0<=i)(q:qd H i=some ds)(h:ds.all idFree=true)(o:i∉seen):PInv n0 H (seen++[i]) (acc++[some ds]):=by
 refine⟨by simp[c.len],fun p j d=>?_,?_⟩
 .by_cases f:p<seen.length
  .rw[vJ f] at d;obtain⟨n,es,s,k,r⟩:=c.at_ p j d;exact⟨n,es,s,by rw[vJ (by rw[c.len];exact f)];exact k,r⟩
  .have m:p=seen.length:=by
    have:=(List.getElem?_eq_some_iff.1 d).1;simp at this;omega
   subst m;simp at d;subst d;exact⟨hi,ds,q,by rw[<-c.len];simp,h⟩
 .rw[List.nodup_append];exact⟨c.nd,wE,by intro a l b g;simp at g;subst g;intro e;subst e;exact o l⟩
theorem qob(n0:Nat)(u:n0<=H.length):∀(d:D){seen b:List Nat}{acc e:qe}{d':D},PInv n0 H seen acc->pack1 n0 H seen acc d=some (d',b,e)->
  qvJ n0 H seen b acc e/\(ju d=true->ju d'=true)/\∀(S:List Nat)(A:qe)(v:Value),PInv n0 H S A->(∃t,S=b++t)->Rep ok w ι H d v->Rep ok w (VS n0 ι S) (H.take n0++A) d' v
 | .osl i st off I k,seen,b,acc,e,d',c,h=>by
  simp only[pack1] at h;split at h
  .rename_i x;simp only[qy,zj] at h;obtain⟨rfl,rfl,rfl⟩:=h;refine⟨⟨c,⟨[],wE⟩,⟨[],wE⟩⟩,fun _=>rfl,fun S A v o g m=>?_⟩;cases m with
   |osl a hi n z=>
    refine .osl a wG (fun ds l=>?_) z;rw[qid u x] at l;have:VS n0 ι S i=ι i:=(by simp[VS,x]);rw[this];exact n ds l
  .rename_i J;split at h
   .rename_i ds l;split at h
    .rename_i f;simp only[qy,zj] at h;obtain⟨rfl,rfl,rfl⟩:=h;refine⟨⟨c.add wC l f.1 f.2,⟨[i],rfl⟩,⟨_,rfl⟩⟩,fun _=>rfl,fun S A v o g m=>?_⟩;obtain⟨s,p,q⟩:=qtx (ι:=ι) u c o g;cases m with
     |osl a hi n z=>
      refine .osl a q (fun ds l=>?_) z;rw[s] at l;rw[p];exact n ds l
    .cases h
   .cases h
 | .optr i st off,seen,b,acc,e,d',c,h=>by
  simp only[pack1] at h;split at h
  .rename_i x;simp only[qy,zj] at h;obtain⟨rfl,rfl,rfl⟩:=h;refine⟨⟨c,⟨[],wE⟩,⟨[],wE⟩⟩,fun _=>rfl,fun S A v o g m=>?_⟩;cases m with
   |optr a hi n=>
    refine .optr a wG fun ds l=>?_;rw[qid u x] at l;have:VS n0 ι S i=ι i:=(by simp[VS,x]);rw[this];exact n ds l
  .rename_i J;split at h
   .rename_i ds l;split at h
    .rename_i f;simp only[qy,zj] at h;obtain⟨rfl,rfl,rfl⟩:=h;refine⟨⟨c.add wC l f.1 f.2,⟨[i],rfl⟩,⟨_,rfl⟩⟩,fun _=>rfl,fun S A v o g m=>?_⟩;obtain⟨s,p,q⟩:=qtx (ι:=ι) u c o g;cases m with
     |optr a hi n=>
      refine .optr a q fun ds l=>?_;rw[s] at l;rw[p];exact n ds l
    .cases h
   .cases h
 | .agg cs,seen,b,acc,e,d',c,h=>by
  simp only[pack1] at h;cases g:pack1.packs n0 H seen acc cs with
  |none=>simp[g] at h
  |some r=>
   obtain⟨B,F,G⟩:=r;simp only[g,j6,qy,zj] at h;obtain⟨rfl,rfl,rfl⟩:=h;obtain⟨s,p,q,C⟩:=packs_rep n0 u cs c g;refine⟨s,fun h=>by simp[ju] at h,fun S A v o g m=>?_⟩;cases m with
   |agg y hc n=>exact .agg (by rw[y,p]) (C hc) (q S A (fun j=>(_:Array Value).getD j undef) o g n)
 | .tup cs,seen,b,acc,e,d',c,h=>by
  simp only[pack1] at h;cases g:pack1.packs n0 H seen acc cs with
  |none=>simp[g] at h
  |some r=>
   obtain⟨B,F,G⟩:=r;simp only[g,j6,qy,zj] at h;obtain⟨rfl,rfl,rfl⟩:=h;obtain⟨s,p,q,C⟩:=packs_rep n0 u cs c g;refine⟨s,fun h=>by simp[ju] at h,fun S A v o g m=>?_⟩;cases m with
   |tup y n=>exact .tup (by rw[y,p]) (q S A (fun j=>(_:Array Value).getD j undef) o g n)
 | .bool _,seen,b,acc,e,d',c,h| .int _ _,seen,b,acc,e,d',c,h| .str _,seen,b,acc,e,d',c,h| .nilp,seen,b,acc,e,d',c,h
 | .nilf,seen,b,acc,e,d',c,h| .nili,seen,b,acc,e,d',c,h| .raw _,seen,b,acc,e,d',c,h| .vptr _,seen,b,acc,e,d',c,h| .vsl _ _ _,seen,b,acc,e,d',c,h
 | .fn _ _,seen,b,acc,e,d',c,h| .iface _ _,seen,b,acc,e,d',c,h=>by
  simp only[pack1] at h;split at h
  .rename_i E;simp only[qy,zj] at h;obtain⟨rfl,rfl,rfl⟩:=h;exact⟨⟨c,⟨[],wE⟩,⟨[],wE⟩⟩,fun h=>h,fun S A v o g m=>m.free E _ _⟩
  .cases h
where packs_rep (n0:Nat) (hn:n0<=H.length):∀(l:List D){seen seen':List Nat}{acc acc':qe}{l':List D},PInv n0 H seen acc->pack1.packs n0 H seen acc l=some (l',seen',acc')->
      qvJ n0 H seen seen' acc acc'/\l.length=l'.length/\(∀(S:List Nat)(A:qe)(v:Nat->Value),PInv n0 H S A->(∃t,S=seen'++t)->(∀(j:Nat) d,l[j]?=some d->Rep ok w ι H d (v j))->
      ∀(j:Nat) d,l'[j]?=some d->Rep ok w (VS n0 ι S) (H.take n0++A) d (v j))/\((∀d,d∈l->ju d=true)->∀d,d∈l'->ju d=true)
 |[],seen,seen',acc,acc',l',hinv,h=>by
  simp only[pack1.packs,qy,zj] at h;obtain⟨rfl,rfl,rfl⟩:=h;exact⟨⟨hinv,⟨[],wE⟩,⟨[],wE⟩⟩,rfl,fun _ _ _ _ _ _=>wE,fun _=>wE⟩
 |d::l,seen,seen',acc,acc',l',hinv,h=>by
  simp only[pack1.packs] at h;split at h
  .rename_i d1 s1 a1 h1;split at h
   .rename_i l1 s2 a2 h2;simp only[qy,zj] at h;obtain⟨rfl,rfl,rfl⟩:=h;obtain⟨⟨k1,⟨t1,k2⟩,⟨u1,k3⟩⟩,k4,k5⟩:=qob n0 hn d hinv h1;obtain⟨⟨q1,⟨t2,q2⟩,⟨u2,q3⟩⟩,q4,q5,q6⟩:=packs_rep n0 hn l k1 h2;refine⟨⟨q1,⟨t1++t2,by rw[q2,k2];simp⟩,⟨u1++u2,by rw[q3,k3];simp⟩⟩,by simp[q4],fun S A v hA hp hr j x hx=>?_,fun hc x hx=>?_⟩
    .cases j with
     |zero=>
      simp only[kY,qy] at hx;subst hx;obtain⟨t,ht⟩:=hp;exact k5 S A (v 0) hA ⟨t2++t,by rw[ht,q2];simp⟩ (hr 0 d rfl)
     |succ j=>exact q5 S A (fun j=>v (j+1)) hA hp (fun j x hx=>hr (j+1) x wo) j x wo
    .rcases List.mem_cons.1 hx with rfl|hx
     .exact k4 (hc d (Z1 ..))
     .exact q6 (fun y hy=>hc y (vq _ hy)) x hx
   .cases h
  .cases h
theorem qly{m:Nat}(d:m<=H.length):Evol m ok w ι H ok w ι (H.take m):=
 ⟨rfl,rfl,rfl,qA _,fun _ _ _=>rfl,fun _ h=>h,fun _ h _=>.inl h,⟨d,wG⟩,fun i hi ds a=>⟨ds,by rwa [qic hi] at a,qA _,fun _=>rfl⟩,
  fun i ds b s a c _=>by
   have hi:i<m:=by
    have:=qx a;simp at this;omega
   rw[qic hi] at a;exact⟨i,ds,s,a,c⟩⟩
theorem qvu{m i:Nat}{ds:List D}(h:(H.take m).all (Xu m)=true)(hi:i<m)(a:qd H i=some ds):∀d,d∈ds->closed m d=true:=by
 have c:=qx a
 have e:H[i]?=some (some ds):=by
  unfold qd at a;rw[qN c] at a⊢;simpa using a
 have b:some ds∈H.take m:=jH (i:=i) (by rw[Xw,if_pos hi];exact e);have:=List.all_eq_true.1 h _ b;simp only[Xu] at this;exact List.all_eq_true.1 this
theorem q4U{m:Nat}(v:m<=H.length)(c:Sim X ok w ι H)(hc:(H.take m).all (Xu m)=true):Sim X ok w ι (H.take m):=by
 have f:∀i ds,qd (H.take m) i=some ds->i<m/\qd H i=some ds:=by
  intro i ds a
  have hi:i<m:=by
   have:=qx a;simp at this;omega
  exact⟨hi,by rwa [qic hi] at a⟩
 refine⟨c.okS,c.glob,fun i j ds g b s x a q=>c.inj i j ds g b s x (f i ds a).2 (f j g q).2,fun i ds a=>?_⟩;obtain⟨hi,a⟩:=f i ds a;obtain⟨b,arr,e,fr,l,u,t,n,r,o,p,k⟩:=c.blk i ds a;exact⟨b,arr,e,fr,l,u,t,n,r,o,p,fun j d h=>(k j d h).evol c (qly v) (qvu hc hi a d (mem_of_get? h))⟩
theorem qnW{n0:Nat}(u:n0<=H.length)(k:Sim X ok w ι H){r V:D}{v:Value}(hr:Rep ok w ι H r v)(h:qeh n0 H r=some (V,H')):
  ∃ι',Sim X ok w ι' H'/\Rep ok w ι' H' V v/\Evol n0 ok w ι H ok w ι' H'/\(∀i ds,n0<=i->qd H' i=some ds->ds.all idFree=true):=by
 unfold qeh at h;split at h
 .rename_i r1 S A hp;split at h
  .rename_i hc;simp only[qy,zj] at h;obtain⟨rfl,rfl⟩:=h;obtain⟨⟨J,_,_⟩,_,k3⟩:=qob (ok:=ok) (w:=w) (ι:=ι) n0 u r (seen:=[]) (acc:=[]) ⟨rfl,wE,wE⟩ hp;have C:=k3 S A v J ⟨[],wE⟩ hr
   have t:∀i ds,qd (H.take n0++A) i=some ds->(i<n0/\qd H i=some ds/\VS n0 ι S i=ι i)\/(∃p j,i=n0+p/\S[p]?=some j/\n0<=j/\qd H j=some ds/\VS n0 ι S i=ι j/\ds.all idFree=true):=by
    intro i ds a;by_cases y:i<n0
    .rw[qid u y] at a;exact .inl ⟨y,a,by simp[VS,y]⟩
    .obtain⟨p,rfl⟩:∃p,i=n0+p:=⟨i-n0,wC⟩;rw[qtf u] at a;have M:=qx a;have l:S[p]?=some (S[p]'(by rw[<-J.len];exact M)):=qN _;obtain⟨g,m,c,f,z⟩:=J.at_ _ _ l
     have:m=ds:=by
      unfold qd at a;rw[f] at a;simpa using a
     subst this;exact .inr ⟨p,_,rfl,l,g,c,by rw[qnZ,l];rfl,z⟩
   have o:Evol n0 ok w ι H ok w (VS n0 ι S) (H.take n0++A):=by
    refine⟨rfl,rfl,rfl,qA _,fun _ _ _=>rfl,fun _ h=>h,fun _ h _=>.inl h,⟨u,wG⟩,?_,?_⟩
    .intro i hi ds a;rw[qid u hi] at a;exact⟨ds,a,qA _,fun _=>by simp[VS,hi]⟩
    .intro i ds b s a n _;rcases t i ds a with⟨g,c,f⟩|⟨p,j,_,_,_,c,f,_⟩
     .exact⟨i,ds,s,c,xk⟩
     .exact⟨j,ds,s,c,xk⟩
   refine⟨VS n0 ι S,⟨k.okS,k.glob,?_,?_⟩,C,o,?_⟩
   .intro i j ds m b s G a he n I;rcases t i ds a with⟨g,c,f⟩|⟨p,Y,rfl,g,q,c,f,_⟩<;>rcases t j m he with⟨l1,E,F⟩|⟨U,j',rfl,l1,aa,E,F,_⟩
    .exact k.inj i j ds m b s G c E xk (by rw[<-F];exact I)
    .have:=k.inj i j' ds m b s G c E xk (by rw[<-F];exact I);omega
    .have:=k.inj Y j ds m b s G c E xk (by rw[<-F];exact I);omega
    .have:=k.inj Y j' ds m b s G c E xk (by rw[<-F];exact I);subst this;have kL:=(List.getElem?_eq_some_iff.1 g);have Js:=(List.getElem?_eq_some_iff.1 l1);obtain⟨a1,W⟩:=kL;obtain⟨Z,b2⟩:=Js;have B:=List.pairwise_iff_getElem.1 J.nd;rcases Nat.lt_trichotomy p U with y|Ko|Zu
     .exact absurd (W.trans b2.symm) (B p U a1 Z y)
     .omega
     .exact absurd (b2.trans W.symm) (B U p Z a1 Zu)
   .intro i ds a;rcases t i ds a with⟨g,c,f⟩|⟨p,j,rfl,g,q,c,f,z⟩
    .obtain⟨b,arr,e,fr,L,Q,T,K,R,P,N,O⟩:=k.blk i ds c;exact⟨b,arr,e,fr,by rw[f];exact L,Q,T,K,R,P,N,fun j d x=>(O j d x).evol k o (qvu hc g c d (mem_of_get? x))⟩
    .obtain⟨b,arr,e,fr,L,Q,T,K,R,P,N,O⟩:=k.blk j ds c;exact⟨b,arr,e,fr,by rw[f];exact L,Q,T,K,R,P,N,fun j d x=>(O j d x).free (qcA z d (mem_of_get? x)) _ _⟩
   .intro i ds hi a;rcases t i ds a with⟨g,c,f⟩|⟨p,j,rfl,g,q,c,f,z⟩
    .omega
    .exact z
  .cases h
 .cases h
end
end Go.Ev
