import Derived.WalkKit
import Derived.Scope
import Derived.Laws.AppendOwn
import Derived.Laws.Append
import Derived.Lib.ConvBytes
import Derived.Laws.BytesArg
import Derived.ChangeKeysEq
import Derived.Laws.StructEq
namespace Go
theorem wC{P:Prop}(h:P:=by omega):P:=h
theorem wE{P:Prop}(h:P:=by simp):P:=h
theorem wF{P:Prop}(h:P:=by kernel_rfl):P:=h
theorem wG{P:Prop}(h:P:=by simp;omega):P:=h
theorem wH{P:Prop}(h:P:=by decide):P:=h
theorem wI{P:Prop}(h:P:=by cases h):P:=h
theorem wJ{P:Prop}(h:P:=by simp only;omega):P:=h
theorem wL{P:Prop}(h:P:=by and_intros<;>rfl):P:=h
theorem wM{P:Prop}(h:P:=by simp[qF];omega):P:=h
theorem wO{P:Prop}(h:P:=by simp[Op.operands]):P:=h
theorem wP{P:Prop}(h:P:=by simp at h):P:=h
theorem wQ{P:Prop}(h:P:=by simpa using h):P:=h
theorem wS{P:Prop}(h:P:=by and_intros<;>show _=_<;>kernel_rfl):P:=h
theorem wT{P:Prop}(h:P:=by rw[J];exact a.symm):P:=h
theorem wU{P:Prop}(h:P:=by simp at hi):P:=h
theorem wV{P:Prop}(h:P:=by simp[qf]):P:=h
theorem wW{P:Prop}(h:P:=by rw[jb];omega):P:=h
theorem wX{P:Prop}(h:P:=by simp[execOp,n,C]):P:=h
theorem wY{P:Prop}(h:P:=by simpa using hx):P:=h
theorem wZ{P:Prop}(h:P:=by simpa using a):P:=h
theorem wo{P:Prop}(h:P:=by simpa using c):P:=h
theorem wr{P:Prop}(h:P:=by simp[jz,f,g]):P:=h
theorem wu{P:Prop}(h:P:=by rw[jc];omega):P:=h
theorem wv{P:Prop}(h:P:=by simpa using b):P:=h
theorem xA{P:Prop}(h:P:=by rw[vg];omega):P:=h
theorem xB{P:Prop}(h:P:=by simpa using d):P:=h
theorem xC{P:Prop}(h:P:=by simp at a):P:=h
theorem xD{P:Prop}(h:P:=by simpa using g):P:=h
theorem xE{P:Prop}(h:P:=by simp[idFree]):P:=h
theorem xF{P:Prop}(h:P:=by simp[a]):P:=h
theorem xG{P:Prop}(h:P:=by rw[QO hc hi];omega):P:=h
theorem xH{P:Prop}(h:P:=by rw[p]):P:=h
theorem xI{P:Prop}(h:P:=by simp only;rw[List.take_set_of_le (by omega)];exact h.file):P:=h
theorem xJ{P:Prop}(h:P:=by simp only;rw[vH];exact h.len):P:=h
theorem xL{P:Prop}(h:P:=by rw[h.len];omega):P:=h
theorem xM{P:Prop}(h:P:=by simp[h]):P:=h
theorem xN{P:Prop}(h:P:=by simp only[jk,Z7]):P:=h
theorem xO{P:Prop}(h:P:=by simp[Inf.cells]):P:=h
theorem xP{P:Prop}(h:P:=by simp[Mk.cells]):P:=h
theorem xQ{P:Prop}(h:P:=by simp at y):P:=h
theorem xR{P:Prop}(h:P:=by simp[d]):P:=h
theorem xU{P:Prop}(h:P:=by simp[It.cells,jd,ko]):P:=h
theorem xV{P:Prop}(h:P:=by simp only[qF];omega):P:=h
theorem xW{P:Prop}(h:P:=by rw[<-List.mem_singleton.1 e];exact o):P:=h
theorem xX{P:Prop}(h:P:=by rw[<-List.mem_singleton.1 e];exact g):P:=h
theorem xY{P:Prop}(h:P:=by simp[Qe,idFree,vFree]):P:=h
theorem xZ{P:Prop}(h:P:=by simpa[noZ] using h):P:=h
theorem xf{P:Prop}(h:P:=by rw[qbv];exact vJ):P:=h
theorem xi{P:Prop}(h:P:=by rw[<-f];exact n):P:=h
theorem xj{P:Prop}(h:P:=by unfold QA;omega):P:=h
theorem xk{P:Prop}(h:P:=by simp[qd] at a):P:=h
theorem xl{P:Prop}(h:P:=by simpa using hi):P:=h
theorem xo{P:Prop}(h:P:=by simp[Mk.cells,jd,ko]):P:=h
theorem xp{P:Prop}(h:P:=by simp[FSv.names,hc]):P:=h
theorem xq{P:Prop}(h:P:=by simp[HdP.cells]):P:=h
theorem xr{P:Prop}(h:P:=by simp[idFree,qV]):P:=h
theorem xu{P:Prop}(h:P:=by simp only[jz];rw[vD (by omega),m];simp[k,n,o]):P:=h
theorem xw{P:Prop}(h:P:=by rw[QT];simp[jd,List.drop_of_length_le,W,lb,ls]):P:=h
theorem xy{P:Prop}(h:P:=by(try simp only[aheadL,dsh,behindL,jJ,kt]);omega):P:=h
theorem yA{P:Prop}(h:P:=by simp only;rw[List.getElem?_set_self l]):P:=h
theorem yB{P:Prop}(h:P:=by rw[List.mem_singleton.1 hi];exact VS):P:=h
theorem yC{P:Prop}(h:P:=by rw[<-List.mem_singleton.1 e];exact i):P:=h
theorem yD{P:Prop}(h:P:=by(try simp only[dsh,jJ,kt]);omega):P:=h
theorem yE{P:Prop}(h:P:=by rw[ZH,Nat.one_mul,Nat.add_comm]):P:=h
theorem yF{P:Prop}(h:P:=by unfold jq Jq;simp only;omega):P:=h
theorem yG{P:Prop}(h:P:=by simp[NxV.c,KH,Yb,jd,ko,li]):P:=h
theorem yH{P:Prop}(h:P:=by rw[Vi];exact vr (by omega)):P:=h
theorem yI{P:Prop}(h:P:=by rw[<-f2];exact zj (qx k1)):P:=h
theorem yJ{P:Prop}(h:P:=by rw[<-Q];exact zj (qx XM)):P:=h
theorem yK{P:Prop}(h:P:=by rw[zV u];exact h.bytes):P:=h
theorem yL{P:Prop}(h:P:=by simpa[idFree] using h):P:=h
theorem yM{P:Prop}(h:P:=by unfold ZG;rw[e];rfl):P:=h
theorem yN{P:Prop}(h:P:=by simp only[a];omega):P:=h
theorem yO{P:Prop}(h:P:=by simp[Builtin.len_,c,b,run_underlying a,goInt]):P:=h
theorem yP{P:Prop}(h:P:=by simp only[qZ,Xn,hc];cases X.dynV<;>rfl):P:=h
theorem yQ{P:Prop}(h:P:=by simp only;rw[List.getElem?_set_self p]):P:=h
theorem yR{P:Prop}(h:P:=by rw[<-Array.getElem?_toList,e];rfl):P:=h
theorem yS{P:Prop}(h:P:=by unfold World.freeze;split<;>rfl):P:=h
theorem yT{P:Prop}(h:P:=by simp[Act.eval,Array.replicate]):P:=h
theorem yU{P:Prop}(h:P:=by by_cases m:k=0;exact .inl ⟨eq_true m,eq_false (by omega)⟩;exact .inr ⟨eq_false m,eq_true (by omega)⟩):P:=h
theorem yV{P:Prop}(h:P:=by have:=YA n (show 256>0 by decide);simp only[UInt8.size];omega):P:=h
theorem yW{P:Prop}(h:P:=by intro h;have:=congrArg List.length h;simp at this;exact c this):P:=h
theorem yX{P:Prop}(h:P:=by obtain⟨b,s,y,t⟩:=q e;exact⟨b,s,by rw[A _ hi];exact y,t⟩):P:=h
theorem yY{P:Prop}(h:P:=by obtain⟨x,hx,g⟩:=h.c141;exact⟨x,d (by omega) hx,g⟩):P:=h
theorem yZ{P:Prop}(h:P:=by obtain⟨x,hx,g⟩:=h.c142;exact⟨x,d (by omega) hx,g⟩):P:=h
theorem ya{P:Prop}(h:P:=by obtain⟨x,hx,f⟩:=h.c141;exact⟨x,d (by omega) hx,f⟩):P:=h
theorem yb{P:Prop}(h:P:=by obtain⟨x,hx,f⟩:=h.c142;exact⟨x,d (by omega) hx,f⟩):P:=h
end Go
namespace Go.Ev
theorem j8:type_of% @Array.getD_eq_getD_getElem?:=@Array.getD_eq_getD_getElem?
theorem qgZ:type_of% @Array.getElem?_append_left:=@Array.getElem?_append_left
theorem ZJ:type_of% @Array.getElem?_eq_getElem:=@Array.getElem?_eq_getElem
theorem qfL:type_of% @Array.getElem?_eq_none:=@Array.getElem?_eq_none
theorem qmd:type_of% @Array.getElem?_modify:=@Array.getElem?_modify
theorem qiY:type_of% @Array.getElem?_replicate:=@Array.getElem?_replicate
theorem qfK:type_of% @Array.getElem?_setIfInBounds_ne:=@Array.getElem?_setIfInBounds_ne
theorem qiX:type_of% @BitVec.ofInt_natCast:=@BitVec.ofInt_natCast
theorem qiW:type_of% @BitVec.toNat_ofNat:=@BitVec.toNat_ofNat
theorem zY:type_of% @Bool.and_eq_true:=@Bool.and_eq_true
theorem qdW:type_of% @Bool.false_and:=@Bool.false_and
theorem Qd:type_of% @Bool.false_eq_true:=@Bool.false_eq_true
theorem qdV:type_of% @Bool.or_eq_true:=@Bool.or_eq_true
theorem YB:type_of% @Bool.true_and:=@Bool.true_and
theorem Va:type_of% @List.all_cons:=@List.all_cons
theorem qgV:type_of% @List.all_eq_true:=@List.all_eq_true
theorem jX:type_of% @List.append_assoc:=@List.append_assoc
theorem J4:type_of% @List.append_nil:=@List.append_nil
theorem qa2:type_of% @List.cons.injEq:=@List.cons.injEq
theorem Qc:type_of% @List.cons_append:=@List.cons_append
theorem jd:type_of% @List.drop_append:=@List.drop_append
theorem kz:type_of% @List.drop_drop:=@List.drop_drop
theorem jo:type_of% @List.drop_eq_getElem_cons:=@List.drop_eq_getElem_cons
theorem Vn:type_of% @List.drop_eq_nil_of_le:=@List.drop_eq_nil_of_le
theorem VD:type_of% @List.drop_left':=@List.drop_left'
theorem ky:type_of% @List.eq_nil_of_length_eq_zero:=@List.eq_nil_of_length_eq_zero
theorem qma:type_of% @List.flatten_cons:=@List.flatten_cons
theorem jy:type_of% @List.getD_eq_getElem?_getD:=@List.getD_eq_getElem?_getD
theorem vD:type_of% @List.getElem?_append_left:=@List.getElem?_append_left
theorem jl:type_of% @List.getElem?_append_right:=@List.getElem?_append_right
theorem qeK:type_of% @List.getElem?_cons_succ:=@List.getElem?_cons_succ
theorem Qb:type_of% @List.getElem?_cons_zero:=@List.getElem?_cons_zero
theorem Qa:type_of% @List.getElem?_drop:=@List.getElem?_drop
theorem qM:type_of% @List.getElem?_eq_getElem:=@List.getElem?_eq_getElem
theorem Je:type_of% @List.getElem?_map:=@List.getElem?_map
theorem Xs:type_of% @List.getElem?_take:=@List.getElem?_take
theorem vC:type_of% @List.getElem_mem:=@List.getElem_mem
theorem zo:type_of% @List.length_append:=@List.length_append
theorem jJ:type_of% @List.length_cons:=@List.length_cons
theorem vg:type_of% @List.length_drop:=@List.length_drop
theorem kt:type_of% @List.length_nil:=@List.length_nil
theorem vH:type_of% @List.length_set:=@List.length_set
theorem jc:type_of% @List.length_take:=@List.length_take
theorem jW:type_of% @List.mem_append:=@List.mem_append
theorem Xr:type_of% @List.mem_append_left:=@List.mem_append_left
theorem jC:type_of% @List.mem_cons:=@List.mem_cons
theorem vy:type_of% @List.mem_cons_of_mem:=@List.mem_cons_of_mem
theorem Jd:type_of% @List.mem_cons_self:=@List.mem_cons_self
theorem ZI:type_of% @List.mem_map:=@List.mem_map
theorem j7:type_of% @List.mem_of_getElem?:=@List.mem_of_getElem?
theorem Zz:type_of% @List.mem_of_mem_drop:=@List.mem_of_mem_drop
theorem QX:type_of% @List.mem_of_mem_take:=@List.mem_of_mem_take
theorem qc9:type_of% @List.mem_or_eq_of_mem_set:=@List.mem_or_eq_of_mem_set
theorem qdU:type_of% @List.mem_singleton:=@List.mem_singleton
theorem QW:type_of% @List.nil_append:=@List.nil_append
theorem qdT:type_of% @List.replicate_succ:=@List.replicate_succ
theorem qgU:type_of% @List.set_eq_take_append_cons_drop:=@List.set_eq_take_append_cons_drop
theorem Zk:type_of% @List.take_append:=@List.take_append
theorem Zy:type_of% @List.take_append_drop:=@List.take_append_drop
theorem qH:type_of% @List.take_of_length_le:=@List.take_of_length_le
theorem Ky:type_of% @List.take_succ_eq_append_getElem:=@List.take_succ_eq_append_getElem
theorem qiQ:type_of% @Nat.add_assoc:=@Nat.add_assoc
theorem ZH:type_of% @Nat.add_mul:=@Nat.add_mul
theorem qfJ:type_of% @Nat.le_of_lt:=@Nat.le_of_lt
theorem qA:type_of% @Nat.le_refl:=@Nat.le_refl
theorem zJ:type_of% @Nat.le_trans:=@Nat.le_trans
theorem vd:type_of% @Nat.lt_of_lt_of_le:=@Nat.lt_of_lt_of_le
theorem Kx:type_of% @Nat.lt_or_ge:=@Nat.lt_or_ge
theorem qeJ:type_of% @Nat.mod_eq_of_lt:=@Nat.mod_eq_of_lt
theorem YA:type_of% @Nat.mod_lt:=@Nat.mod_lt
theorem qb0:type_of% @Nat.mul_le_mul_right:=@Nat.mul_le_mul_right
theorem Jc:type_of% @Nat.ne_of_lt:=@Nat.ne_of_lt
theorem qfI:type_of% @Nat.pow_le_pow_right:=@Nat.pow_le_pow_right
theorem qeI:type_of% @Nat.pow_succ:=@Nat.pow_succ
theorem J3:type_of% @Nat.zero_add:=@Nat.zero_add
theorem vp:type_of% @Nat.zero_le:=@Nat.zero_le
theorem Y9:type_of% @Option.bind_some:=@Option.bind_some
theorem Vm:type_of% @Option.getD_some:=@Option.getD_some
theorem Kw:type_of% @Option.map_eq_some_iff:=@Option.map_eq_some_iff
theorem jn:type_of% @Option.map_some:=@Option.map_some
theorem qy:type_of% @Option.some.injEq:=@Option.some.injEq
theorem zi:type_of% @Prod.mk.injEq:=@Prod.mk.injEq
theorem qfH:type_of% @UInt8.toNat_ofNat_of_lt':=@UInt8.toNat_ofNat_of_lt'
inductive D where
 |bool (b:Bool)
 |int (k:IntKind) (n:Int)
 |str (s:List UInt8)
 |nilp
 |nilf
 |nili
 |agg (cs:List D)
 |tup (cs:List D)
 |vptr (cs:List D)
 |optr (id st off:Nat)
 |vsl (nil:Bool) (cs:List D) (len:Nat)
 |osl (id st off len k:Nat)
 |fn (f:Nat) (caps:List D)
 |iface (t:Nat) (d:D)
 |raw (v:Value)
 deriving Inhabited
abbrev qe:=List (Option (List D))
abbrev qu:=List (Nat×D)
def qd(H:qe)(i:Nat):Option (List D):=(H[i]?).getD none
def qn(H:qe)(i:Nat)(ds:List D):qe:=H.set i (some ds)
def qi:qu->Nat->Option D
 |[],_=>none
 |(s,d)::e,t=>if s=t then some d else qi e t
def jN(e:qu):Option Tmp->D->qu
 |none,_=>e
 |some t,d=>(t,d)::e
def qeo:Value->Option D
 | .bool b=>some (.bool b)
 | .int k n=>some (.int k n)
 | .string s=>some (.str s.data.toList)
 | .pointer none=>some .nilp
 | .slice none 0 0=>some (.vsl true [] 0)
 | .nilFunc=>some .nilf
 | .nilIface=>some .nili
 |_=>none
def qen:List Value->Option (List D)
 |[]=>some []
 |v::l=>match qeo v,qen l with
  |some d,some ds=>some (d::ds)
  |_,_=>none
def qgj:Value->Option D
 | .agg cs=>(qen cs.toList).map .agg
 |v=>qeo v
structure Cx where
 P:Program
 /-- what the package-level variables hold that are read -/
 glob:Nat->Option (List D)
 /-- function,region: the slots that are kept at its head,and how many blocks of the call's own -/
 keep:Nat->Nat->Option (List Nat×Nat)
 /-- functions that work on their caller's own memory -/
 byRef:Nat->Bool
 /-- functions that make nothing and are handed nothing of the run's own -/
 pureF:Nat->Bool
 /-- functions without a body -/
 ext:Nat->List D->Option D
 /-- functions that are not taken -/
 bad:Nat->Bool
 /-- function,region: the slots that are told by value for good at its head -/
 frz:Nat->Nat->List Nat
 /-- function,region: slots whose blocks alone are kept at its head -/
 ret:Nat->Nat->List Nat
 /-- functions whose result is told by value for good -/
 fzr:Nat->Bool
 /-- functions that are met by a contract -/
 con:Nat->List D->qe->Option (D×qe)
 /-- functions to which what is handed is told by value for good -/
 perm:Nat->Bool
 /-- in a region that draws its order,a function value must be one that makes nothing -/
 dynV:Bool
 /-- function,region: texts of bytes and of slices are told by value there,though it draws no order -/
 cv:Nat->Nat->Bool:=fun _ _=>false
 frb:Nat->Nat->List Nat:=fun _ _=>[]
 /-- function,region that draws its order: places of what writes and what reads that no order binds,looked at as they run;slots of texts that are the run's own (the others are told by value) -/
 lp:Nat->Nat->Option (List (Nat×Nat)×List Nat):=fun _ _=>none
 /-- functions (of byRef) that are run on their first argument's block alone -/
 loc:Nat->Bool:=fun _=>false
 /-- functions (of loc) that are run on their first argument's block and those that it names -/
 lom:Nat->Bool:=fun _=>false
 /-- function,region that draws its order: a variable's place that no order binds to what writes ahead of it -/
 al:Nat->Nat->Option Nat:=fun _ _=>none
 /-- functions (of byRef) that are run on all blocks that can be come to from what they are handed -/
 gr:Nat->Bool:=fun _=>false
def qY(X:Cx)(e:qu):Operand->Option D
 | .tmp t=>qi e t
 | .const v=>qgj v
 | .func f=>some (.fn f [])
 | .global g=>(X.glob g).map .vptr
def idFree:D->Bool
 | .agg cs| .tup cs| .fn _ cs=>idFreeL cs
 | .iface _ d=>idFree d
 | .optr .. | .osl ..=>false
 |_=>true
where idFreeL:List D->Bool
 |[]=>true
 |d::l=>idFree d&&idFreeL l
def vFree:D->Bool
 | .agg cs| .tup cs| .fn _ cs=>vFreeL cs
 | .iface _ d=>vFree d
 | .vptr ..=>false
 | .vsl n _ _=>n
 |_=>true
where vFreeL:List D->Bool
 |[]=>true
 |d::l=>vFree d&&vFreeL l
def closed(n:Nat):D->Bool
 | .agg cs| .tup cs| .fn _ cs=>closedL n cs
 | .iface _ d=>closed n d
 | .optr i _ _| .osl i _ _ _ _=>decide (i<n)
 |_=>true
where closedL (n:Nat):List D->Bool
 |[]=>true
 |d::l=>closed n d&&closedL n l
def qw(P:Program)(t:TypeId):Nat:=((P.info? t).map (·.size)).getD 0
def bytesOf(P:Program)(t:TypeId):Nat:=((P.info? t).map (·.bytes)).getD 0
def Xu(P:Program)(t:TypeId):Option D:=((P.info? t).bind (·.zero)).bind qgj
def Kv(P:Program)(t:TypeId):Option Bool:=
 match P.underlying t with
 |some (.struct _)|some (.array _ _)=>some true
 |some _=>some false
 |none=>none
def cellsOf:D->Option (List D)
 | .agg cs=>some cs
 | .tup _| .raw _=>none
 |d=>some [d]
def mem(H:qe):D->Option (List D)
 | .vptr cs=>some cs
 | .optr i st off=>match qd H i with
  |some ds=>if ds.length=st then some (ds.drop off) else none
  |none=>none
 |_=>none
def ldD(P:Program)(H:qe)(t:TypeId)(p:D):Option D:=
 match Kv P t,mem H p with
 |some true,some cs=>if qw P t<=cs.length then some (.agg (cs.take (qw P t))) else none
 |some false,some (d::_)=>some d
 |_,_=>none
def zT(ds:List D)(off:Nat)(xs:List D):List D:=ds.take off++xs++ds.drop (off+xs.length)
def stD(P:Program)(H:qe)(t:TypeId)(p x:D):Option qe:=
 match p,cellsOf x with
 | .optr i st off,some xs=>match qd H i with
  |some ds=>if ds.length=st/\xs.length=qw P t/\0<qw P t/\off+xs.length<=ds.length/\xs.all (closed H.length) then some (qn H i (zT ds off xs)) else none
  |none=>none
 |_,_=>none
def YG(H:qe)(k:Nat):D->Option (List D×Nat)
 | .vsl _ cs a=>if cs.length=a*k then some (cs,a) else none
 | .osl i st off a k'=>match qd H i with
  |some ds=>if ds.length=st/\k'=k/\off+a*k<=ds.length then some ((ds.drop off).take (a*k),a) else none
  |none=>none
 |_=>none
def qg5(P:Program)(s:TypeId)(f:Nat):Option Field:=
 match P.underlying s with
 |some (.struct fs)=>fs[f]?
 |_=>none
def qge(k:Nat):D->Option D
 | .vptr cs=>some (.vptr (cs.drop k))
 | .optr i st off=>some (.optr i st (off+k))
 |_=>none
def qir(P:Program)(s:TypeId)(p:D)(f:Nat):Option D:=
 match qg5 P s f with
 |some a=>if qw P a.type=0 then none else qge a.offset p
 |none=>none
def qaF(P:Program)(t:TypeId)(cs:List D)(off:Nat):Option D:=
 match Kv P t with
 |some true=>if off+qw P t<=cs.length then some (.agg ((cs.drop off).take (qw P t))) else none
 |some false=>cs[off]?
 |none=>none
def qiq(P:Program)(s:TypeId)(x:D)(f:Nat):Option D:=
 match qg5 P s f,x with
 |some a,.agg cs=>qaF P a.type cs a.offset
 |_,_=>none
def qhX(P:Program)(t:TypeId)(x i:D):Option D:=
 match P.underlying t,x,i with
 |some (.array n e),p,.int _ i=>if 0<=i/\i<n/\0<qw P e then qge (i.toNat*qw P e) p else none
 |some (.slice e),.vsl false cs a,.int _ i=>if 0<=i/\i<a/\0<qw P e then some (.vptr (cs.drop (i.toNat*qw P e))) else none
 |some (.slice e),.osl id st off a _,.int _ i=>if 0<=i/\i<a/\0<qw P e then some (.optr id st (off+i.toNat*qw P e)) else none
 |_,_,_=>none
def qhW(P:Program)(t:TypeId)(x i:D):Option D:=
 match P.underlying t,x,i with
 |some (.array n e),.agg cs,.int _ i=>if 0<=i/\i<n then qaF P e cs (i.toNat*qw P e) else none
 |some .string,.str s,.int _ i=>if 0<=i then(s[i.toNat]?).map fun b=>.int .u8 b.toNat else none
 |_,_,_=>none
def qdM(n:Nat):Option D->Option D->Option (Nat×Nat)
 |none,none=>some (0,n)
 |some (.int _ l),none=>if 0<=l/\l<=n then some (l.toNat,n) else none
 |none,some (.int _ h)=>if 0<=h/\h<=n then some (0,h.toNat) else none
 |some (.int _ l),some (.int _ h)=>if 0<=h/\h<=n/\0<=l/\l<=h then some (l.toNat,h.toNat) else none
 |_,_=>none
def qa8(P:Program)(t:TypeId)(x:D)(b hi:Option D):Option D:=
 match P.underlying t,x with
 |some .string,.str s=>match qdM s.length b hi with
  |some (l,h)=>some (.str ((s.drop l).take (h-l)))
  |none=>none
 |some (.slice e),.vsl nil cs a=>match qdM a b hi with
  |some (l,h)=>if cs.length=a*qw P e/\0<qw P e then some (.vsl nil ((cs.drop (l*qw P e)).take ((h-l)*qw P e)) (h-l)) else none
  |none=>none
 |some (.slice e),.osl id st off a k=>match qdM a b hi with
  |some (l,h)=>if k=qw P e/\0<k/\(l=0\/l<a) then some (.osl id st (off+l*k) (h-l) k) else none
  |none=>none
 |some (.array n e),.vptr cs=>match qdM n b hi with
  |some (l,h)=>if h*qw P e<=cs.length/\0<qw P e/\(l=0\/l<n) then some (.vsl false ((cs.drop (l*qw P e)).take ((h-l)*qw P e)) (h-l)) else none
  |none=>none
 |some (.array n e),.optr id st off=>match qdM n b hi with
  |some (l,h)=>if(l=0\/l<n)/\off+n*qw P e<=st/\0<qw P e then some (.osl id st (off+l*qw P e) (h-l) (qw P e)) else none
  |none=>none
 |_,_=>none
def Y7(k:IntKind)(a b:Int):Int:=k.wrap (BitVec.ofInt k.bits a&&&BitVec.ofInt k.bits b).toNat
def Vs(k:IntKind)(a b:Int):Int:=k.wrap (BitVec.ofInt k.bits a|||BitVec.ofInt k.bits b).toNat
def qK(k:IntKind)(a b:Int):Int:=k.wrap (BitVec.ofInt k.bits a^^^BitVec.ofInt k.bits b).toNat
def qeF(k:IntKind)(a b:Int):Int:=k.wrap (BitVec.ofInt k.bits a&&& ~~~BitVec.ofInt k.bits b).toNat
def jO(op:BinOp)(k:IntKind)(a b:Int):Option D:=
 match op with
 | .add=>some (.int k (k.wrap (a+b)))
 | .sub=>some (.int k (k.wrap (a-b)))
 | .mul=>some (.int k (k.wrap (a*b)))
 | .quo=>if b=0 then none else some (.int k (k.wrap (a.tdiv b)))
 | .rem=>if b=0 then none else some (.int k (a.tmod b))
 | .and=>some (.int k (Y7 k a b))
 | .or=>some (.int k (Vs k a b))
 | .xor=>some (.int k (qK k a b))
 | .andNot=>some (.int k (qeF k a b))
 | .eql=>some (.bool (a==b))
 | .neq=>some (.bool (a !=b))
 | .lss=>some (.bool (decide (a<b)))
 | .leq=>some (.bool (decide (a<=b)))
 | .gtr=>some (.bool (decide (a>b)))
 | .geq=>some (.bool (decide (a>=b)))
 |_=>none
def qfV(op:BinOp)(k:IntKind)(a b:Int):Option D:=
 if b<0 then none else
 match op with
 | .shl=>some (.int k (k.wrap (a*2^(min b.toNat k.bits))))
 | .shr=>some (.int k (a.fdiv (2^(min b.toNat k.bits))))
 |_=>none
def strD(op:BinOp)(x y:List UInt8):Option D:=
 match op with
 | .add=>if x.length+y.length<=4611686018427387904 then some (.str (x++y)) else none
 | .eql=>some (.bool (x==y))
 | .neq=>some (.bool !(x==y))
 | .lss=>some (.bool (Op.bytesLess x y))
 | .leq=>some (.bool (Op.bytesLess x y||x==y))
 | .gtr=>some (.bool !(Op.bytesLess x y||x==y))
 | .geq=>some (.bool !(Op.bytesLess x y))
 |_=>none
inductive CK where
 |b|i|s
 deriving DecidableEq
def qgO:CK->D->D->Option Bool
 | .i,.int k a,.int k' b=>if k=k' then some (a==b) else none
 | .b,.bool a,.bool b=>some (a==b)
 | .s,.str a,.str b=>some (a==b)
 |_,_,_=>none
def ZE:List CK->List D->List D->Option Bool
 |[],[],[]=>some true
 |k::ks,x::xs,y::c=>match qgO k x y,ZE ks xs c with
  |some a,some b=>some (a&&b)
  |_,_=>none
 |_,_,_=>none
def qcR(P:Program)(g:TypeId->Option (List CK)):List Field->List CK->Option (List CK)
 |[],acc=>some acc
 |f::fs,acc=>match g f.type with
  |some ks=>if f.offset=acc.length/\f.name≠ "_" /\qw P f.type=ks.length/\0<ks.length then qcR P g fs (acc++ks) else none
  |none=>none
def ZN(P:Program):Nat->TypeId->Option (List CK)
 |0,_=>none
 |d+1,t=>match P.underlying t with
  |some .bool=>some [.b]
  |some (.int _)=>some [.i]
  |some .string=>some [.s]
  |some (.array n e)=>match ZN P d e with
   |some ks=>if qw P e=ks.length/\0<ks.length then some (List.replicate n ks).flatten else none
   |none=>none
  |some (.struct fs)=>if P.stoodInHeld t then none else qcR P (ZN P d) fs.toList []
  |_=>none
def q2V:D->Option Bool
 | .vsl n _ _=>some n
 | .osl ..=>some false
 |_=>none
def KP:Operand->Bool
 | .const _=>true
 |_=>false
def qlC(P:Program)(t:TypeId):Bool:=((P.info? t).map (·.comparable)).getD false
def eqD(P:Program)(t:TypeId)(cst:Bool)(x y:D):Option Bool:=
 match x,y with
 | .bool a,.bool b=>match P.underlying t with
  |some .bool=>some (a==b)
  |_=>none
 | .agg xs,.agg d=>match ZN P 50 t with
  |some ks=>if Kv P t=some true/\P.eqGuardType P.depth t=false then ZE ks xs d else none
  |none=>none
 | .vsl true _ _,.vsl n _ _=>match P.underlying t with
  |some (.slice _)=>some n
  |_=>none
 | .vsl n _ _,.vsl true _ _=>match P.underlying t with
  |some (.slice _)=>some n
  |_=>none
 | .osl ..,.vsl true _ _=>match P.underlying t with
  |some (.slice _)=>some false
  |_=>none
 | .nili,.nili=>match P.underlying t with
  |some (.interface _)=>if cst then some true else none
  |_=>none
 | .iface s (.int k a),.iface c (.int k' b)=>match P.underlying t,P.underlying s with
  |some (.interface _),some (.int _)=>if s=c/\k=k'/\qlC P s=true then some (a==b) else none
  |_,_=>none
 | .iface _ _,.nili=>match P.underlying t with
  |some (.interface _)=>some false
  |_=>none
 | .nilp,.nilp=>match P.underlying t with
  |some (.pointer _)=>some true
  |_=>none
 | .vptr _,.nilp=>match P.underlying t with
  |some (.pointer _)=>some false
  |_=>none
 | .optr ..,.nilp=>match P.underlying t with
  |some (.pointer _)=>some false
  |_=>none
 |_,_=>none
def qiI(P:Program)(op:BinOp)(t:TypeId)(cst:Bool)(x y:D):Option D:=
 match op,x,y with
 | .shl,.int k a,.int _ b=>qfV .shl k a b
 | .shr,.int k a,.int _ b=>qfV .shr k a b
 |op,.int k a,.int k' b=>if k=k' then jO op k a b else none
 |op,.str a,.str b=>strD op a b
 | .eql,x,y=>(eqD P t cst x y).map .bool
 | .neq,x,y=>(eqD P t cst x y).map fun b=>.bool !b
 |_,_,_=>none
def unD(op:UnOp)(x:D):Option D:=
 match op,x with
 | .neg,.int k n=>some (.int k (k.wrap (0-n)))
 | .xor,.int k n=>some (.int k (k.wrap (BitVec.ofInt k.bits (if k.signed then-1 else k.max)^^^BitVec.ofInt k.bits n).toNat))
 | .not,.bool b=>some (.bool !b)
 |_,_=>none
def qr(H:qe)(ds:List D):qe:=H++[some ds]
def JQ(H:qe)(i:Nat):qe:=H.set i none
def VB:List D->Option (List UInt8)
 |[]=>some []
 | .int .u8 n::l=>(VB l).map fun r=>UInt8.ofNat n.toNat::r
 |_=>none
def qf(s:List UInt8):List D:=s.map fun b=>.int .u8 (b.toNat:Int)
def qF:Nat:=140737488355328
def qdI(P:Program)(H:qe)(a dst:TypeId)(x:D):Option (D×qe):=
 match P.underlying a,P.underlying dst,x with
 |some _,some (.int k),.int _ n=>some (.int k (k.wrap n),H)
 |some .string,some .string,.str s=>some (.str s,H)
 |some (.int _),some .string,.int _ n=>some (.str (Utf8.encode n).data.toList,H)
 |some _,some (.slice e),.str s=>match P.underlying e with
  |some (.int .u8)=>some (.osl H.length s.length 0 s.length 1,qr H (qf s))
  |_=>none
 |some (.slice e),some .string,x=>match P.underlying e,YG H 1 x with
  |some (.int .u8),some (cs,_)=>(VB cs).map fun s=>(.str s,H)
  |_,_=>none
 |some (.slice _),some (.slice e),.osl i st off b k=>match P.underlying e,qd H i with
  |some (.int .u8),some ds=>if a=dst/\ds.length=st then some (.osl i st off b k,H) else none
  |_,_=>none
 |_,_,_=>none
def Y5(place:Nat->Option (Nat×Nat)):List D->List (Nat×D)->Option (List D)
 |a,[]=>some a
 |a,(i,d)::c=>match place i,cellsOf d with
  |some (off,b),some xs=>if xs.length=b/\off+xs.length<=a.length then Y5 place (zT a off xs) c else none
  |_,_=>none
def YN(X:Cx)(e:qu):List (Nat×Operand)->Option (List (Nat×D))
 |[]=>some []
 |(i,x)::l=>match qY X e x,YN X e l with
  |some d,some ds=>some ((i,d)::ds)
  |_,_=>none
def vO(X:Cx)(e:qu):List Operand->Option (List D)
 |[]=>some []
 |x::l=>match qY X e x,vO X e l with
  |some d,some ds=>some (d::ds)
  |_,_=>none
def qeS(P:Program)(fs:Array Field)(i:Nat):Option (Nat×Nat):=(fs[i]?).map fun f=>(f.offset,qw P f.type)
def qiH(P:Program)(t:TypeId)(a:List (Nat×D)):Option D:=
 match Xu P t,P.underlying t with
 |some (.agg z),some (.struct fs)=>if fs.all (fun f=>decide (0<qw P f.type)) then(Y5 (qeS P fs) z a).map .agg else none
 |some (.agg z),some (.array _ e)=>if 0<qw P e then(Y5 (fun i=>some (i*qw P e,qw P e)) z a).map .agg else none
 |_,_=>none
def VG(P:Program)(e:TypeId)(n:Nat):Option (List D):=
 match(Xu P e).bind cellsOf with
 |some z=>if z.length=qw P e/\0<qw P e then some ((List.replicate n z).flatten) else none
 |none=>none
def qcz(P:Program)(H:qe)(t:TypeId)(a:Nat)(b:List (Nat×D)):Option (D×qe):=
 match P.underlying t with
 |some (.slice e)=>match VG P e a with
  |some z=>if a*qw P e<=16777216 then(Y5 (fun i=>some (i*qw P e,qw P e)) z b).bind fun cs=>
    if(H.isEmpty=false\/cs.all idFree)/\cs.length=a*qw P e then some (.osl H.length cs.length 0 a (qw P e),qr H cs) else none
   else none
  |none=>none
 |_=>none
def qgr(P:Program)(H:qe)(t:TypeId)(l c:D):Option (D×qe):=
 match P.underlying t,l,c with
 |some (.slice e),.int .i64 l,.int .i64 c=>if 0<=l/\l<=c/\bytesOf P e*c<=qF/\c<=qF then
   (VG P e l.toNat).bind fun z=>if z.length=l.toNat*qw P e/\z.all idFree then some (.osl H.length z.length 0 l.toNat (qw P e),qr H z) else none
  else none
 |_,_,_=>none
def qfT(P:Program)(H:qe)(k:Nat)(xt:TypeId)(x:D):Option (List D×Nat):=
 match P.underlying xt,x with
 |some .string,.str b=>if k=1 then some (qf b,b.length) else none
 |some (.slice _),x=>YG H k x
 |_,_=>none
def qcL(P:Program)(H:qe)(e xt:TypeId)(x:D):Option (List D×Nat):=
 match P.underlying xt,x with
 |some (.int _),.int .i64 n=>if 0<=n/\n<=qF/\n.toNat*bytesOf P e<=qF then(VG P e n.toNat).map (·,n.toNat) else none
 |_,x=>qfT P H (qw P e) xt x
def qJ(P:Program)(H:qe)(st xt:TypeId)(s x:D):Option (D×qe):=
 match P.underlying st with
 |some (.slice e)=>match qcL P H e xt x,VG P e 0,s with
  |some (xs,m),some _,.vsl true [] 0=>
   if m=0 then some (.vsl true [] 0,H)
   else if m*bytesOf P e<=qF/\m<=qF then some (.osl H.length xs.length 0 m (qw P e),qr H xs) else none
  |some (xs,m),some _,.osl i b 0 a k=>match qd H i with
   |some ds=>if ds.length=b/\k=qw P e/\a*k=b/\(a+m)*bytesOf P e<=qF/\a+m<=qF
     then some (.osl i (b+xs.length) 0 (a+m) k,qn H i (ds++xs))
     else if ds.length=b/\k=qw P e/\a*k<b/\(a+m)*bytesOf P e<=qF/\a+m<=qF
     then some (.osl H.length (a*k+xs.length) 0 (a+m) k,qr (JQ H i) (ds.take (a*k)++xs)) else none
   |none=>none
  |_,_,_=>none
 |_=>none
def qcv(P:Program)(H:qe)(c xt:TypeId)(d x:D):Option (D×qe):=
 match P.underlying c with
 |some (.slice e)=>match qfT P H (qw P e) xt x,d with
  |some (xs,m),.osl i b off a k=>match qd H i with
   |some ds=>if ds.length=b/\k=qw P e/\0<k/\off+a*k<=b
     then some (.int .i64 (min m a:Nat),qn H i (zT ds off (xs.take (min m a*k)))) else none
   |none=>none
  |_,_=>none
 |_=>none
def qiA(P:Program)(H:qe)(t:TypeId)(x:D):Option (D×qe):=
 match P.underlying t,x with
 |some (.slice e),.osl i b off a k=>match VG P e a,qd H i with
  |some z,some ds=>if ds.length=b/\k=qw P e/\off+a*k<=b/\0<a
    then some (.tup [],qn H i (zT ds off z)) else none
  |_,_=>none
 |_,_=>none
def qO(P:Program)(t:TypeId)(x:D):Option D:=
 match P.underlying t,x with
 |some .string,.str s=>some (.int .i64 s.length)
 |some (.array n _),_=>some (.int .i64 n)
 |some (.slice _),.vsl _ _ a=>some (.int .i64 a)
 |some (.slice _),.osl _ _ _ a _=>some (.int .i64 a)
 |_,_=>none
def qgq(c:Bool):List D->Option D
 |[.int k a,.int k' b]=>if k=k' then some (.int k (if c then(if a<b then b else a) else(if b<a then b else a))) else none
 |_=>none
def freeze(H:qe):D->Option D
 | .osl i st off a k=>match qd H i with
  |some ds=>if ds.length=st/\off+a*k<=st/\(ds.all idFree\/((ds.drop off).take (a*k)).all idFree) then some (.vsl false ((ds.drop off).take (a*k)) a) else none
  |none=>none
 | .optr i st off=>match qd H i with
  |some ds=>if ds.length=st/\ds.all idFree then some (.vptr (ds.drop off)) else none
  |none=>none
 | .fn f b=>(freezeL H b).map (.fn f)
 | .agg cs=>(freezeL H cs).map .agg
 |d=>if idFree d then some d else none
where freezeL (H:qe):List D->Option (List D)
 |[]=>some []
 |d::l=>match freeze H d,freezeL H l with
  |some d,some l=>some (d::l)
  |_,_=>none
def qcr(H:qe)(args:List D):Option (List D):=freeze.freezeL H args
def shift(n:Nat):D->D
 | .agg cs=>.agg (shiftL n cs)
 | .tup cs=>.tup (shiftL n cs)
 | .fn f cs=>.fn f (shiftL n cs)
 | .iface t d=>.iface t (shift n d)
 | .optr i st off=>.optr (n+i) st off
 | .osl i st off a k=>.osl (n+i) st off a k
 |d=>d
where shiftL (n:Nat):List D->List D
 |[]=>[]
 |d::l=>shift n d::shiftL n l
def pack1(n0:Nat)(H:qe)(seen:List Nat)(acc:qe):D->Option (D×List Nat×qe)
 | .osl i st off b k=>
  if i<n0 then some (.osl i st off b k,seen,acc)
  else match qd H i with
   |some ds=>if ds.all idFree/\i∉seen then some (.osl (n0+acc.length) st off b k,seen++[i],acc++[some ds]) else none
   |none=>none
 | .optr i st off=>
  if i<n0 then some (.optr i st off,seen,acc)
  else match qd H i with
   |some ds=>if ds.all idFree/\i∉seen then some (.optr (n0+acc.length) st off,seen++[i],acc++[some ds]) else none
   |none=>none
 | .agg cs=>(packs n0 H seen acc cs).map fun(cs,s,a)=>(.agg cs,s,a)
 | .tup cs=>(packs n0 H seen acc cs).map fun(cs,s,a)=>(.tup cs,s,a)
 |d=>if idFree d then some (d,seen,acc) else none
where packs (n0:Nat) (H:qe) (seen:List Nat) (acc:qe):List D->Option (List D×List Nat×qe)
 |[]=>some ([],seen,acc)
 |d::l=>match pack1 n0 H seen acc d with
  |some (d,seen,acc)=>match packs n0 H seen acc l with
   |some (l,seen,acc)=>some (d::l,seen,acc)
   |none=>none
  |none=>none
def Xp(n:Nat):Option (List D)->Bool
 |some ds=>ds.all (closed n)
 |none=>true
def qek(n0:Nat)(H:qe)(r:D):Option (D×qe):=
 match pack1 n0 H [] [] r with
 |some (r,_,acc)=>if(H.take n0).all (Xp n0) then some (r,H.take n0++acc) else none
 |none=>none
def Qg:List Nat->qu->qu
 |[],_=>[]
 |k::ks,e=>match qi e k with
  |some d=>(k,d)::Qg ks e
  |none=>Qg ks e
def qcu(n:Nat):qu->Bool
 |[]=>true
 |(_,d)::e=>closed n d&&qcu n e
def kc(g:D->Option (D×List Nat)):List D->Option (List D×List Nat)
 |[]=>some ([],[])
 |d::l=>match g d,kc g l with
  |some (d,a),some (l,b)=>some (d::l,a++b)
  |_,_=>none
def j9(H:qe):Nat->D->Option (D×List Nat)
 |0,_=>none
 |n+1,d=>if idFree d then some (d,[]) else match d with
  | .osl i st off a k=>match qd H i with
   |some ds=>if ds.length=st/\off+a*k<=st then
     if idFree.idFreeL ds then some (.vsl false ((ds.drop off).take (a*k)) a,[i])
     else match kc (j9 H n) ds with
      |some (ds',l)=>some (.vsl false ((ds'.drop off).take (a*k)) a,i::l)
      |none=>none
    else none
   |none=>none
  | .optr i st off=>match qd H i with
   |some ds=>if ds.length=st then
     if idFree.idFreeL ds then some (.vptr (ds.drop off),[i])
     else match kc (j9 H n) ds with
      |some (ds',l)=>some (.vptr (ds'.drop off),i::l)
      |none=>none
    else none
   |none=>none
  | .agg cs=>(kc (j9 H n) cs).map fun(cs,l)=>(.agg cs,l)
  | .tup cs=>(kc (j9 H n) cs).map fun(cs,l)=>(.tup cs,l)
  | .fn f cs=>(kc (j9 H n) cs).map fun(cs,l)=>(.fn f cs,l)
  | .iface t d=>(j9 H n d).map fun(d,l)=>(.iface t d,l)
  |d=>some (d,[])
def jS:qe->List Nat->qe
 |H,[]=>H
 |H,i::l=>jS (H.set i none) l
def qed(H:qe)(e:qu):List Nat->Option (qu×List Nat)
 |[]=>some ([],[])
 |s::c=>match qi e s with
  |none=>qed H e c
  |some d=>match j9 H 9 d,qed H e c with
   |some (d,a),some (f,b)=>some ((s,d)::f,a++b)
   |_,_=>none
def qfw(a:List Nat)(e:qu)(H:qe):Option (qu×qe):=
 match qed H e a with
 |some (b,l)=>some (b++e,jS H l)
 |none=>none
def qln(X:Cx)(f n0 id:Nat)(e:qu)(H:qe):Option (qu×qe):=
 match X.keep f id with
 |none=>some (e,H)
 |some (ks,0)=>some (Qg ks e,H)
 |some (ks,k+1)=>
  if H.length<=n0+k then some (Qg ks e,H)
  else if qcu (n0+k) (Qg ks e)&&(H.take (n0+k)).all (Xp (n0+k)) then some (Qg ks e,H.take (n0+k)) else none
def qa6(e:qu):List Nat->Option (List D)
 |[]=>some []
 |s::a=>match qi e s,qa6 e a with
  |some d,some ds=>some (d::ds)
  |_,_=>none
def Xt:List Nat->List D->qu
 |s::a,d::ds=>(s,d)::Xt a ds
 |_,_=>[]
def qhu(n0:Nat)(S ks:List Nat)(e:qu)(H:qe):Option (qu×qe):=
 match qa6 e S with
 |none=>none
 |some ds=>match qek n0 H (.tup ds) with
  |some (.tup ds',H')=>if qcu n0 (Qg ks e) then some (Xt S ds'++Qg ks e,H') else none
  |_=>none
def JF:List Nat->Nat->Nat->Option Nat
 |[],_,_=>none
 |a::l,i,k=>if a=i then some k else JF l i (k+1)
def renD(p:List Nat):D->Option D
 | .optr i st off=>(JF p i 0).map fun j=>.optr j st off
 | .osl i st off a k=>(JF p i 0).map fun j=>.osl j st off a k
 | .agg cs=>(renL p cs).map .agg
 | .tup cs=>(renL p cs).map .tup
 | .fn f cs=>(renL p cs).map (.fn f)
 | .iface t d=>(renD p d).map (.iface t)
 |d=>some d
where renL (p:List Nat):List D->Option (List D)
 |[]=>some []
 |d::l=>match renD p d,renL p l with
  |some d,some l=>some (d::l)
  |_,_=>none
def qaB(p:List Nat)(d:D):Option D:=if idFree d then some d else renD p d
def XZ(p:List Nat)(ds:List D):Option (List D):=if idFree.idFreeL ds then some ds else renD.renL p ds
def qbA(p:List Nat):qu->Option qu
 |[]=>some []
 |(s,d)::e=>match qaB p d,qbA p e with
  |some d,some e=>some ((s,d)::e)
  |_,_=>none
def XY(p:List Nat)(H:qe):List Nat->Option qe
 |[]=>some []
 |i::l=>match qd H i with
  |none=>none
  |some ds=>match XZ p ds,XY p H l with
   |some ds,some L=>some (some ds::L)
   |_,_=>none
def Yj:List D->List Nat
 |[]=>[]
 | .optr i _ _::l=>i::Yj l
 | .osl i _ _ _ _::l=>i::Yj l
 |_::l=>Yj l
def qgm(H:qe):List Nat->List Nat
 |[]=>[]
 |i::l=>(match qd H i with
  |some ds=>if idFree.idFreeL ds then[] else Yj ds
  |none=>[])++qgm H l
def Y8:List Nat->List Nat->List Nat
 |p,[]=>p
 |p,i::l=>if i∈p then Y8 p l else Y8 (p++[i]) l
def VJ:Nat->List Nat
 |0=>[]
 |n+1=>VJ n++[n]
def YK(n0:Nat)(p:List Nat)(e:qu)(H:qe):Option (qu×qe):=
 match qbA p e,XY p H p with
 |some a,some H'=>if p.Nodup/\p.take n0=VJ n0 then some (a,H') else none
 |_,_=>none
def qjB(n0:Nat)(S ks:List Nat)(e:qu)(H:qe):Option (qu×qe):=
 match qa6 e S with
 |some ds=>YK n0 (Y8 (Y8 (VJ n0) (Yj ds)) (qgm H (Y8 (VJ n0) (Yj ds)))) (Xt S ds++Qg ks e) H
 |none=>none
def qte:D->List Nat
 | .tup cs=>Yj cs
 |d=>Yj [d]
def qfA:Option (List D)->Bool
 |some ds=>ds.all idFree
 |none=>true
def qob(n0:Nat)(H:qe)(r:D):Option (D×qe):=
 match YK n0 (Y8 (Y8 (VJ n0) (qte r)) (qgm H (Y8 (VJ n0) (qte r)))) [(0,r)] H with
 |some ([(_,a)],H')=>if(H'.drop n0).all qfA then some (a,H') else none
 |_=>none
def orP{α:Type}:Option α->Option α->Option α
 |some q,_=>some q
 |none,x=>x
@[simp] theorem qzF {α:Type} (q:α) (x:Option α):orP (some q) x=some q:=rfl
@[simp] theorem qzG {α:Type} (x:Option α):orP none x=x:=rfl
theorem qjT{α β:Type}{c:Prop}[Decidable c]{r:α}{A B:β}{Z:Option (α×β)}(h:c/\A=B):orP (if c then some (r,A) else none) Z=some (r,B):=by
 obtain⟨hc,rfl⟩:=h;rw[if_pos hc];rfl
def qbE(n0:Nat)(H:qe)(r:D):Option (D×qe):=orP (qek n0 H r) (qob n0 H r)
def qfa(n0:Nat)(S ks:List Nat)(e:qu)(H:qe):Option (qu×qe):=
 match qhu n0 S ks e H with
 |some r=>some r
 |none=>qjB n0 S ks e H
def q1G(X:Cx)(f id:Nat):List Nat:=match X.keep f id with
 |some (ks,_)=>ks
 |none=>[]
def qiw(X:Cx)(f n0 id:Nat)(e:qu)(H:qe):Option (qu×qe):=
 match X.ret f id with
 |[]=>qln X f n0 id e H
 |S=>qfa n0 S (q1G X f id) e H
def qiv(X:Cx)(f n0 id:Nat)(e:qu)(H:qe):Option (qu×qe):=
 match X.frz f id with
 |[]=>qiw X f n0 id e H
 |ss=>match qfw ss e H with
  |some (e,H)=>qiw X f n0 id e H
  |none=>none
def ZK(H:qe)(i:Nat):Option qe:=
 match qd H i with
 |some ds=>if ds.all idFree then some H else match kc (j9 H 9) ds with
  |some (ds',l)=>if i∈l then none else some (qn (jS H l) i ds')
  |none=>none
 |none=>none
def qcK(e:qu):List Nat->qe->Option qe
 |[],H=>some H
 |s::a,H=>match qi e s with
  |some (.osl i _ _ _ _)|some (.optr i _ _)=>match ZK H i with
   |some H'=>qcK e a H'
   |none=>none
  |_=>qcK e a H
def enter(X:Cx)(f n0 id:Nat)(e:qu)(H:qe):Option (qu×qe):=
 match X.frb f id with
 |[]=>qiv X f n0 id e H
 |ss=>match qcK e ss H with
  |some H'=>qiv X f n0 id e H'
  |none=>none
def kW(z:Bool)(n0:Nat)(H:qe)(r:D):Option (D×qe):=
 match z with
 |false=>qbE n0 H r
 |true=>match j9 H 9 r with
  |some (r,l)=>qbE n0 (jS H l) r
  |none=>none
def qej(z:Bool)(H:qe)(r:D):Option (D×qe):=
 match z with
 |false=>some (r,H)
 |true=>match j9 H 9 r with
  |some (r,l)=>some (r,jS H l)
  |none=>none
def qbD(g z:Bool)(n0:Nat)(H:qe)(r:D):Option (D×qe):=
 match g with
 |true=>qej z H r
 |false=>kW z n0 H r
abbrev zG:=Nat->List D->qe->Option (D×qe)
def qlR:Option (List D)->Bool
 |some ds=>ds.all vFree
 |none=>true
def noZ:D->Bool
 | .agg cs| .tup cs| .fn _ cs=>noZL cs
 | .iface _ d=>noZ d
 | .optr i _ _| .osl i _ _ _ _=>decide (1<=i)
 |_=>true
where noZL:List D->Bool
 |[]=>true
 |d::l=>noZ d&&noZL l
def Ku(F:zG)(f:Nat)(args:List D)(H:qe):Option (D×qe):=
 match args with
 | .optr i st off::a=>match qd H i with
  |some ds=>if a.all idFree&&ds.all idFree then match F f (.optr 0 st off::a) [some ds] with
    |some (r,some ds'::L)=>if noZ r&&ds'.all idFree&&L.all qfA then some (shift (H.length-1) r,qn H i ds'++L) else none
    |_=>none
   else none
  |none=>none
 |_=>none
def ZQ(p:List Nat)(n j:Nat):Nat:=match p[j]? with
 |some i=>i
 |none=>n+(j-p.length)
def mv(p:List Nat)(n:Nat):D->D
 | .optr i st off=>.optr (ZQ p n i) st off
 | .osl i st off a k=>.osl (ZQ p n i) st off a k
 | .agg cs=>.agg (mvL p n cs)
 | .tup cs=>.tup (mvL p n cs)
 | .fn f cs=>.fn f (mvL p n cs)
 | .iface t d=>.iface t (mv p n d)
 |d=>d
where mvL (p:List Nat) (n:Nat):List D->List D
 |[]=>[]
 |d::l=>mv p n d::mvL p n l
def J6:qe->List Nat->qe->qe
 |H,i::p,b::T=>J6 (H.set i b) p T
 |H,_,_=>H
def YL(p:List Nat):List D->Option (List D)
 |[]=>some []
 |d::l=>match qaB p d,YL p l with
  |some d,some l=>some (d::l)
  |_,_=>none
def qf8(_:zG)(_:Nat)(_:List D)(_:qe):Option (D×qe):=none
def qlG(H:qe):Nat->List Nat->List Nat
 |0,p=>p
 |n+1,p=>qlG H n (Y8 p (qgm H p))
def X1(p:List Nat)(n:Nat)(b:Option (List D)):Option (List D):=b.map (mv.mvL p n)
def qdJ(F:zG)(f:Nat)(args:List D)(H:qe)(p:List Nat):Option (D×qe):=
 match YL p args,XY p H p with
 |some a,some b=>if p.Nodup then match F f a b with
   |some (r,T)=>some (mv p H.length r,J6 H p (T.map (X1 p H.length))++(T.map (X1 p H.length)).drop p.length)
   |none=>none
  else none
 |_,_=>none
def qby(F:zG)(f:Nat)(args:List D)(H:qe):Option (D×qe):=qdJ F f args H (qlG H 6 (Y8 [] (Yj args)))
def qbx(X:Cx)(F:zG)(f:Nat)(args:List D)(H:qe):Option (D×qe):=
 if X.lom f then qf8 F f args H else Ku F f args H
def XV(X:Cx)(F:zG)(f:Nat)(args:List D)(H:qe):Option (D×qe):=
 if X.byRef f then(if X.loc f then(if X.gr f then qby F f args H else qbx X F f args H) else F f args H)
 else if args.all idFree then match F f args [] with
  |none=>none
  |some (r,L)=>some (shift H.length r,H++L)
 else match qcr H args with
  |none=>none
  |some a=>match F f a [] with
   |none=>none
   |some (r,L)=>if vFree r&&L.all qlR then some (shift H.length r,H++L) else none
def qbr(H:qe):D->Bool
 | .osl i _ _ _ _=>match qd H i with
  |some ds=>ds.all idFree
  |none=>false
 |d=>idFree d
def ZF(X:Cx)(F:zG)(f:Nat)(args:List D)(H:qe):Option (D×qe):=
 if X.pureF f&& !X.byRef f then
  if args.all idFree then match F f args [] with
   |some (r,[])=>if idFree r then some (r,H) else none
   |_=>none
  else if X.perm f&&args.all (qbr H) then match qcr H args with
   |some a=>match F f a [] with
    |some (r,[])=>if idFree r&&vFree r then some (r,H) else none
    |_=>none
   |none=>none
  else none
 else XV X F f args H
def qjv(H:qe):List D->Option qe
 | .optr i _ _::_=>ZK H i
 |_=>none
def XW(X:Cx)(F:zG)(f:Nat)(args:List D)(H:qe):Option (D×qe):=
 match X.perm f&&X.byRef f with
 |false=>ZF X F f args H
 |true=>match qjv H args with
  |some H'=>ZF X F f args H'
  |none=>none
def VA(X:Cx)(F:zG)(f:Nat)(args:List D)(H:qe):Option (D×qe):=
 match X.perm f&& !X.pureF f&& !X.byRef f with
 |false=>XW X F f args H
 |true=>match kc (j9 H 9) args with
  |some (a,l)=>ZF X F f a (jS H l)
  |none=>none
def qdL(X:Cx)(b:Builtin)(ts:List TypeId)(args:List D)(H:qe):Option (D×qe):=
 match b,ts,args with
 | .len,t::_,x::_=>(qO X.P t x).map (·,H)
 | .append,t::u::_,s::x::_=>qJ X.P H t u s x
 | .copy,t::u::_,d::x::_=>qcv X.P H t u d x
 | .min,_,args=>(qgq false args).map (·,H)
 | .max,_,args=>(qgq true args).map (·,H)
 | .clear,t::_,x::_=>qiA X.P H t x
 |_,_,_=>none
def zI(X:Cx)(F:zG)(o:Op)(e:qu)(H:qe):Option (D×qe):=
 match o with
 | .move x| .assign x=>(qY X e x).map (·,H)
 | .pick c a b=>match qY X e c with
  |some (.bool t)=>(qY X e (if t then a else b)).map (·,H)
  |_=>none
 | .alloc t=>match(Xu X.P t).bind cellsOf with
  |some cs=>some (.optr H.length cs.length 0,qr H cs)
  |none=>none
 | .box _ x=>match(qY X e x).bind cellsOf with
  |some cs=>if cs.all (closed H.length) then some (.optr H.length cs.length 0,qr H cs) else none
  |none=>none
 | .build t k=>match YN X e k.toList with
  |some ps=>(qiH X.P t ps).map (·,H)
  |none=>none
 | .buildSlice t m k=>match YN X e k.toList with
  |some ps=>qcz X.P H t m ps
  |none=>none
 | .load t p=>match qY X e p with
  |some p=>(ldD X.P H t p).map (·,H)
  |none=>none
 | .store t p x=>match qY X e p,qY X e x with
  |some p,some x=>(stD X.P H t p x).map (.tup [],·)
  |_,_=>none
 | .nilCheck x=>match qY X e x with
  |some (.vptr cs)=>some (.vptr cs,H)
  |some (.optr i st off)=>some (.optr i st off,H)
  |some (.fn f j)=>some (.fn f j,H)
  |some (.iface t d)=>some (.iface t d,H)
  |_=>none
 | .binOp op t x y _=>match qY X e x,qY X e y with
  |some a,some b=>(qiI X.P op t (KP x||KP y) a b).map (·,H)
  |_,_=>none
 | .unOp op _ x=>match qY X e x with
  |some a=>(unD op a).map (·,H)
  |none=>none
 | .convert s d x=>match qY X e x with
  |some a=>qdI X.P H s d a
  |none=>none
 | .makeInterface t x=>match qY X e x,X.P.underlying t with
  |some _,some (.interface _)=>none
  |some a,some _=>some (.iface t a,H)
  |_,_=>none
 | .makeFunc (.func f) first j=>if first.isEmpty then(vO X e j.toList).map fun cs=>(.fn f cs,H) else none
 | .makeSlice t l c=>match qY X e l,qY X e c with
  |some l,some c=>qgr X.P H t l c
  |_,_=>none
 | .slice t x n hi none=>match qY X e x,n.map (qY X e),hi.map (qY X e) with
  |some a,none,none=>(qa8 X.P t a none none).map (·,H)
  |some a,some (some l),none=>(qa8 X.P t a (some l) none).map (·,H)
  |some a,none,some (some h)=>(qa8 X.P t a none (some h)).map (·,H)
  |some a,some (some l),some (some h)=>(qa8 X.P t a (some l) (some h)).map (·,H)
  |_,_,_=>none
 | .fieldAddr s x f=>match qY X e x with
  |some p=>(qir X.P s p f).map (·,H)
  |none=>none
 | .field s x f=>match qY X e x with
  |some a=>(qiq X.P s a f).map (·,H)
  |none=>none
 | .indexAddr t x i=>match qY X e x,qY X e i with
  |some a,some i=>(qhX X.P t a i).map (·,H)
  |_,_=>none
 | .index t x i=>match qY X e x,qY X e i with
  |some a,some i=>(qhW X.P t a i).map (·,H)
  |_,_=>none
 | .extract x i=>match qY X e x with
  |some (.tup cs)=>(cs[i]?).map (·,H)
  |_=>none
 | .call c=>match c.callee,vO X e c.args.toList with
  | .builtin b,some args=>qdL X b c.argTypes.toList args H
  | .value g,some args=>match qY X e g with
   |some (.fn f j)=>VA X F f (args++j) H
   |_=>none
  |_,_=>none
 |_=>none
def vM(c:Array Oper)(e:qu):Option (Nat×Bool)->Option Bool
 |none=>some true
 |some (j,a)=>match(c[j]?).bind (·.dst) with
  |none=>some false
  |some t=>match qi e t with
   |some (.bool b)=>some (b==a)
   |some (.tup [])=>some false
   |_=>none
def km(nt:Nat):Option Tmp->Bool
 |none=>true
 |some t=>decide (t<nt)
def Xn(X:Cx)(c:Call)(e:qu):Bool:=
 match X.dynV,c.callee with
 |true,.value (.tmp t)=>match qi e t with
  |some (.fn f _)=>!(X.pureF f&& !X.byRef f&& !X.perm f)
  |_=>true
 |_,_=>false
def qZ(X:Cx)(F:zG)(h:Bool)(o:Op)(e:qu)(H:qe):Option (D×qe):=
 match h,o with
 |true,.buildSlice t g f=>match YN X e f.toList with
  |some ps=>match qcz X.P [] t g ps with
   |some (.osl _ _ _ _ _,[some ds])=>some (.vsl false ds g,H)
   |_=>none
  |none=>none
 |true,.convert s d x=>match qY X e x,X.P.underlying d with
  |some (.str b),some (.slice t)=>match X.P.underlying s,X.P.underlying t with
   |some _,some (.int .u8)=>some (.vsl false (qf b) b.length,H)
   |_,_=>none
  |some a,_=>qdI X.P H s d a
  |_,_=>none
 |true,.call c=>if Xn X c e then none else zI X F (.call c) e H
 |_,o=>zI X F o e H
def vU(X:Cx)(F:zG)(nt:Nat)(a:Bool)(b:Array Oper):List Oper->qu->qe->Option (qu×qe)
 |[],e,H=>some (e,H)
 |o::l,e,H=>match km nt o.dst,vM b e o.guard with
  |true,some true=>match qZ X F a o.op e H with
   |some (d,H')=>vU X F nt a b l (jN e o.dst d) H'
   |none=>none
  |true,some false=>vU X F nt a b l (jN e o.dst (.tup [])) H
  |_,_=>none
def YD:D->Option Nat
 | .optr i _ _=>some i
 | .osl i _ _ _ _=>some i
 |_=>none
def QH:List (Option D)->List Nat
 |[]=>[]
 |some d::l=>(YD d).toList++QH l
 |none::l=>QH l
abbrev QV:=List (Nat×Nat)
def Jh(L:QV)(k:Nat):Bool:=L.any fun p=>p.1==k
def Jl(L:QV)(k:Nat):Bool:=L.any fun p=>p.2==k
def qa0(L:QV)(k:Nat)(a:List Nat):List (Nat×qe×qe)->Prop
 |[]=>True
 |(i,A,B)::l=>(L.contains (i,k)=true->∀b,b∈a->qd B b=qd A b)/\qa0 L k a l
def qaz(L:QV)(k:Nat)(A B:qe):List (Nat×List Nat)->Prop
 |[]=>True
 |(j,a)::l=>(L.contains (k,j)=true->∀b,b∈a->qd B b=qd A b)/\qaz L k A B l
def Jb(ow:List Nat):Option Tmp->Bool
 |some t=>!ow.contains t
 |none=>true
open Classical in
noncomputable def Qu(X:Cx)(F:zG)(nt:Nat)(ow:List Nat)(a:Array Oper)(L:QV):Nat->List (Nat×qe×qe)->List (Nat×List Nat)->List Oper->qu->qe->Option (qu×qe)
 |_,_,_,[],e,H=>some (e,H)
 |k,ws,rs,o::l,e,H=>match km nt o.dst,vM a e o.guard with
  |true,some true=>match qZ X F (Jb ow o.dst) o.op e H with
   |some (d,H')=>
    if(Jl L k=true->qa0 L k (QH (o.op.operands.toList.map (qY X e))) ws)/\(Jh L k=true->H.length<=H'.length/\qaz L k H H' rs) then
     Qu X F nt ow a L (k+1) (if Jh L k then(k,H,H')::ws else ws) (if Jl L k then(k,QH (o.op.operands.toList.map (qY X e)))::rs else rs) l (jN e o.dst d) H'
    else none
   |none=>none
  |true,some false=>Qu X F nt ow a L (k+1) ws rs l (jN e o.dst (.tup [])) H
  |_,_=>none
inductive Ex where
 |normal
 |exit (id:Nat)
 |ret
def QM(X:Cx)(e:qu)(H:qe):List ResultVar->Option (List D)
 |[]=>some []
 | .tmp t::l=>match qi e t,QM X e H l with
  |some d,some ds=>some (d::ds)
  |_,_=>none
 | .cell a t::l=>match(qi e a).bind (ldD X.P H t),QM X e H l with
  |some d,some ds=>some (d::ds)
  |_,_=>none
def Vt:List D->D
 |[d]=>d
 |l=>.tup l
def kr:Nat->List D->qu
 |_,[]=>[]
 |i,d::l=>(i,d)::kr (i+1) l
inductive OpKind where
 |v|r|e|m
 deriving DecidableEq
def Ve(X:Cx):Op->OpKind
 | .load .. | .convert ..=>.r
 | .alloc .. | .box .. | .makeSlice ..=>.e
 | .store ..=>.m
 | .call c=>match c.callee with
  | .builtin .len| .builtin .min| .builtin .max=>.v
  | .value (.func f)=>if X.byRef f then .m else if X.pureF f then(if X.perm f then .r else .v) else if X.perm f then .m else .e
  | .value (.tmp _)=>if X.dynV then .v else .m
  |_=>.m
 |_=>.v
def Zo(X:Cx)(bw:Bool)(o:Op):OpKind:=
 match bw,o with
 |false,.buildSlice .. |false,.convert ..=>.e
 |false,.call c=>match c.callee with
  | .value (.tmp _)=>.m
  |_=>Ve X (.call c)
 |_,o=>Ve X o
def qsK:Op->Bool
 | .call c=>match c.callee with
  | .builtin .append=>true
  |_=>false
 |_=>false
def qcT:List Oper->Bool
 |[]=>false
 |o::l=>qsK o.op||qcT l
def YM(X:Cx)(f id:Nat)(a:Bool)(b:Array Oper):Bool:=match a with
 |true=>!qcT b.toList
 |false=>X.cv f id
def jk(X:Cx)(bw:Bool)(o:Op):Bool:=match Zo X bw o with
 | .e| .m=>true
 |_=>false
def qjm:Operand->List Tmp
 | .tmp t=>[t]
 |_=>[]
def JB(a:Array Oper)(o:Oper):List Tmp:=
 o.dst.toList++o.op.operands.toList.flatMap qjm++(match o.guard with
  |some (k,_)=>((a[k]?).bind (·.dst)).toList
  |none=>[])
def V9(X:Cx)(bw:Option Tmp->Bool)(L:QV)(al:Option Nat)(a:Array Oper)(i:Nat)(x:Oper)(j:Nat)(y:Oper):Bool:=
 x.dst.any (fun t=>(JB a y).contains t)||y.dst.any (fun t=>(JB a x).contains t)||(jk X (bw x.dst) x.op&&jk X (bw y.dst) y.op&& !(al==some (max i j)))||
  (Zo X (bw x.dst) x.op==.m&&Zo X (bw y.dst) y.op==.r&& !L.contains (i,j))||(Zo X (bw x.dst) x.op==.r&&Zo X (bw y.dst) y.op==.m&& !L.contains (j,i))
def qvR(X:Cx)(bw:Option Tmp->Bool)(al:Option Nat)(a:Array Oper):Bool:=
 match al with
 |none=>true
 |some j=>match a[j]? with
  |none=>false
  |some o=>match o.op,o.dst,o.guard with
   | .alloc _,some t,none=>
    let b:=Region.before a
    a.toList.zipIdx.all fun(y,k)=>k==j|| !(JB a y).contains t||(decide (j<k)&&a.toList.zipIdx.all fun(x,i)=>!decide (i<j)|| !jk X (bw x.dst) x.op||(b.getD k 0).testBit i)
   |_,_,_=>false
def qi3(X:Cx)(bw:Option Tmp->Bool)(L:QV)(al:Option Nat)(a:Array Oper):Bool:=
 let b:=Region.before a
 qvR X bw al a&&a.toList.zipIdx.all fun(y,j)=>
  y.after.all (fun e=>!Region.binds .any e||decide (e.on<j))&&
  a.toList.zipIdx.all fun(x,i)=>!decide (i<j)||(b.getD j 0).testBit i|| !V9 X bw L al a i x j y
def Z5(X:Cx)(f:Nat):Code->Bool
 | .region id d e=>!e||match X.lp f id with
  |none=>qi3 X (fun _=>!qcT d.toList) [] (X.al f id) d
  |some (L,ow)=>qi3 X (Jb ow) L (X.al f id) d
 | .seq a b=>Z5 X f a&&Z5 X f b
 | .cond _ a b=>Z5 X f a&&Z5 X f b
 | .block _ c| .loop c| .scope c=>Z5 X f c
 |_=>true
noncomputable def Jz(X:Cx)(F:zG)(f nt id:Nat)(b:Bool)(a:Array Oper)(e:qu)(H:qe):Option (qu×qe):=
 match b,X.lp f id with
 |true,some (L,ow)=>Qu X F nt ow a L 0 [] [] a.toList e H
 |_,_=>vU X F nt (YM X f id b a) a a.toList e H
mutual
noncomputable def zm(X:Cx):Nat->Nat->Nat->Nat->Code->qu->qe->Option (Ex×qu×qe)
 |0,_,_,_,_,_,_=>none
 |n+1,f,nt,n0,c,e,H=>match c with
  | .skip=>some (.normal,e,H)
  | .label _=>some (.normal,e,H)
  | .region id g d=>match enter X f n0 id e H with
   |none=>none
   |some (e,H)=>(Jz X (vG X n) f nt id d g e H).map fun(e,H)=>(.normal,e,H)
  | .seq a b=>match zm X n f nt n0 a e H with
   |some (.normal,e,H)=>zm X n f nt n0 b e H
   |r=>r
  | .cond c a b=>match qY X e c with
   |some (.bool t)=>zm X n f nt n0 (if t then a else b) e H
   |_=>none
  | .block id c=>match zm X n f nt n0 c e H with
   |some (.exit i,e,H)=>if i=id then some (.normal,e,H) else some (.exit i,e,H)
   |r=>r
  | .loop c=>match zm X n f nt n0 c e H with
   |some (.normal,e,H)=>zm X n f nt n0 (.loop c) e H
   |r=>r
  | .exit id=>some (.exit id,e,H)
  | .scope c=>zm X n f nt n0 c e H
  | .ret=>some (.ret,e,H)
  |_=>none
noncomputable def vG(X:Cx):Nat->zG
 |0,_,_,_=>none
 |n+1,f,args,H=>match X.con f args H with
 |some r=>some r
 |none=>match X.P.funcs[f]? with
  |none=>none
  |some fn=>match fn.body with
   |none=>(X.ext f args).map (·,H)
   |some c=>if X.bad f then none else match zm X n f fn.ntmps H.length c (kr 0 args) H with
    |some (.normal,e,H')|some (.ret,e,H')=>match QM X e H' fn.results.toList with
     |some ds=>qbD (X.gr f&&X.byRef f) (X.fzr f) H.length H' (Vt ds)
     |none=>none
    |_=>none
end
@[simp] abbrev zb8 (t:List D):List D:=.int .u8 0::.int .u8 0::.int .u8 0::.int .u8 0::.int .u8 0::.int .u8 0::.int .u8 0::.int .u8 0::t
@[simp] abbrev qI (t:List D):List D:=.int .u8 0::.int .u8 0::.int .u8 0::.int .u8 0::.int .u8 0::.int .u8 0::.int .u8 0::.int .u8 0::.int .u8 0::.int .u8 0::.int .u8 0::.int .u8 0::.int .u8 0::.int .u8 0::.int .u8 0::.int .u8 0::t
@[simp] abbrev VF (t:List D):List D:=.int .u64 0::.int .u64 0::.int .u64 0::.int .u64 0::t
@[simp] abbrev ku (t:List D):List D:=.int .u64 0::.int .u64 0::.int .u64 0::.int .u64 0::.int .u64 0::.int .u64 0::.int .u64 0::.int .u64 0::.int .u64 0::.int .u64 0::t
@[simp] abbrev qv3 (t:List CK):List CK:=.i::.i::.i::.i::.i::.i::.i::.i::.i::.i::.i::.i::.i::.i::.i::.i::t
@[simp] abbrev qay (p k g i h j l o m n f a d b e c:UInt8) (t:List D):List D:=.int .u8 (p.toNat:Int)::.int .u8 (k.toNat:Int)::.int .u8 (g.toNat:Int)::.int .u8 (i.toNat:Int)::.int .u8 (h.toNat:Int)::.int .u8 (j.toNat:Int)::.int .u8 (l.toNat:Int)::.int .u8 (o.toNat:Int)::.int .u8 (m.toNat:Int)::.int .u8 (n.toNat:Int)::.int .u8 (f.toNat:Int)::.int .u8 (a.toNat:Int)::.int .u8 (d.toNat:Int)::.int .u8 (b.toNat:Int)::.int .u8 (e.toNat:Int)::.int .u8 (c.toNat:Int)::t
abbrev qU:=Nat->Option (Nat×Nat)
def jA:qU:=fun _=>none
def jt:D->Bool
 | .agg _| .tup _=>false
 | .raw v=>v.oneCell'
 |_=>true
inductive Rep (ok:Nat->Prop) (w:World):qU->qe->D->Value->Prop
 |bool {ι H} (b:Bool):Rep ok w ι H (.bool b) (.bool b)
 |int {ι H} (k:IntKind) (n:Int):Rep ok w ι H (.int k n) (.int k n)
 |str {ι H} (s:List UInt8):Rep ok w ι H (.str s) (.string ⟨s.toArray⟩)
 |nilp {ι H}:Rep ok w ι H .nilp (.pointer none)
 |nilf {ι H}:Rep ok w ι H .nilf .nilFunc
 |nili {ι H}:Rep ok w ι H .nili .nilIface
 |agg {ι H} {ds:List D} {vs:Array Value} (hl:vs.size=ds.length) (hc:∀d,d∈ds->jt d=true)
   (h:∀(j:Nat) d,ds[j]?=some d->Rep ok w ι H d (vs.getD j undef)):Rep ok w ι H (.agg ds) (.agg vs)
 |tup {ι H} {ds:List D} {vs:Array Value} (hl:vs.size=ds.length)
   (h:∀(j:Nat) d,ds[j]?=some d->Rep ok w ι H d (vs.getD j undef)):Rep ok w ι H (.tup ds) (.tuple vs)
 |vptr {ι H} {ds:List D} (a:Addr) (f:Nat->Value) (ha:∀d,d∈ds->ok a.block) (hc:∀d,d∈ds->jt d=true)
   (hr:∀(j:Nat) d,ds[j]?=some d->w.cell? (a.add j)=some (f j))
   (h:∀(j:Nat) d,ds[j]?=some d->Rep ok w jA [] d (f j)):Rep ok w ι H (.vptr ds) (.pointer (some a))
 |optr {ι H} {i st off:Nat} (a:Addr) (hi:i<H.length)
   (h:∀ds,qd H i=some ds->st<=ds.length/\(ds.length=st->∃b s,ι i=some (b,s)/\a=⟨b,off,none⟩)):Rep ok w ι H (.optr i st off) (.pointer (some a))
 |vnil {ι H}:Rep ok w ι H (.vsl true [] 0) (.slice none 0 0)
 |vsl {ι H} {ds:List D} {len c:Nat} (a:Addr) (f:Nat->Value) (ha:∀d,d∈ds->ok a.block) (hc:∀d,d∈ds->jt d=true)
   (hr:∀(j:Nat) d,ds[j]?=some d->w.cell? (a.add j)=some (f j))
   (h:∀(j:Nat) d,ds[j]?=some d->Rep ok w jA [] d (f j)) (zt:len<=c):Rep ok w ι H (.vsl false ds len) (.slice (some a) len c)
 |osl {ι H} {i st off len k c:Nat} (a:Addr) (hi:i<H.length)
   (h:∀ds,qd H i=some ds->st<=ds.length/\(ds.length=st->∃b s,ι i=some (b,s)/\a=⟨b,off,none⟩/\off+c*k<=s)) (zt:len<=c):
   Rep ok w ι H (.osl i st off len k) (.slice (some a) len c)
 |fn {ι H} {f:Nat} {ds:List D} {vs:Array Value} (hl:vs.size=ds.length)
   (h:∀(j:Nat) d,ds[j]?=some d->Rep ok w ι H d (vs.getD j undef)):Rep ok w ι H (.fn f ds) (.func (.func f) #[] vs)
 |iface {ι H} {t:Nat} {d:D} {v:Value} (h:Rep ok w ι H d v):Rep ok w ι H (.iface t d) (.iface t v)
 |raw {ι H} (v:Value):Rep ok w ι H (.raw v) v
section
variable {ok ok':Nat->Prop} {w w':World} {ι ι':qU} {H H':qe}
theorem Rep.oneCell{d:D}{v:Value}(h:Rep ok w ι H d v)(hc:jt d=true):v.oneCell'=true:=by
 cases h<;>first|rfl|exact hc|simp[jt] at hc
theorem qdd(l:List D):idFree.idFreeL l=true↔∀d,d∈l->idFree d=true:=by
 induction l with
 |nil=>simp[idFree.idFreeL]
 |cons d l a=>simp[idFree.idFreeL,a]
theorem qhb(l:List D):vFree.vFreeL l=true↔∀d,d∈l->vFree d=true:=by
 induction l with
 |nil=>simp[vFree.vFreeL]
 |cons d l a=>simp[vFree.vFreeL,a]
theorem qeD(n:Nat)(l:List D):closed.closedL n l=true↔∀d,d∈l->closed n d=true:=by
 induction l with
 |nil=>simp[closed.closedL]
 |cons d l a=>simp[closed.closedL,a]
theorem mem_of_get?{ds:List D}{j:Nat}{d:D}(h:ds[j]?=some d):d∈ds:=j7 h
theorem Rep.closed{d:D}{v:Value}(h:Rep ok w ι H d v):Ev.closed H.length d=true:=by
 induction h with
 |agg c hc h b|tup c h b|fn c h b=>
  simp only[Ev.closed,qeD];intro d e;obtain⟨j,f⟩:=List.mem_iff_getElem?.1 e;exact b j d f
 |iface h b=>simpa[Ev.closed] using b
 |optr a hi h=>simpa[Ev.closed] using hi
 |osl a hi h=>simpa[Ev.closed] using hi
 |_=>rfl
theorem jr{n m:Nat}(a:n<=m):∀d,closed n d=true->closed m d=true
 | .agg cs,h| .tup cs,h| .fn _ cs,h=>by
  simp only[closed,qeD] at h⊢;intro d b;exact jr a d (h d b)
 | .iface _ d,h=>by simp only[closed] at h⊢;exact jr a d h
 | .optr i _ _,h| .osl i _ _ _ _,h=>by simp only[closed,decide_eq_true_eq] at h⊢;omega
 | .bool _,_| .int _ _,_| .str _,_| .nilp,_| .nilf,_| .nili,_| .vptr _,_| .vsl _ _ _,_| .raw _,_=>rfl
theorem VU{n:Nat}:∀d,idFree d=true->closed n d=true
 | .agg cs,h| .tup cs,h| .fn _ cs,h=>by
  simp only[closed,qeD,idFree,qdd] at h⊢;intro d a;exact VU d (h d a)
 | .iface _ d,h=>by simp only[closed,idFree] at h⊢;exact VU d h
 | .optr i _ _,h| .osl i _ _ _ _,h=>by simp[idFree] at h
 | .bool _,_| .int _ _,_| .str _,_| .nilp,_| .nilf,_| .nili,_| .vptr _,_| .vsl _ _ _,_| .raw _,_=>rfl
theorem Rep.free{d:D}{v:Value}(h:Rep ok w ι H d v)(c:idFree d=true)(ι':qU)(H':qe):Rep ok w ι' H' d v:=by
 induction h with
 |bool b=>exact .bool b
 |int k n=>exact .int k n
 |str s=>exact .str s
 |nilp=>exact .nilp
 |nilf=>exact .nilf
 |nili=>exact .nili
 |raw v=>exact .raw v
 |agg i hc h g=>
  simp only[idFree,qdd] at c;exact .agg i hc fun j d e=>g j d e (c d (mem_of_get? e))
 |tup i h g=>
  simp only[idFree,qdd] at c;exact .tup i fun j d e=>g j d e (c d (mem_of_get? e))
 |fn i h g=>
  simp only[idFree,qdd] at c;exact .fn i fun j d e=>g j d e (c d (mem_of_get? e))
 |iface h g=>exact .iface (g c)
 |optr a hi h=>simp[idFree] at c
 |osl a hi h=>simp[idFree] at c
 |vptr a f m hc l h _=>exact .vptr a f m hc l h
 |vnil=>exact .vnil
 |vsl a f m hc l h o _=>exact .vsl a f m hc l h o
structure Evol (n:Nat) (ok:Nat->Prop) (w:World) (ι:qU) (H:qe) (ok':Nat->Prop) (w':World) (ι':qU) (H':qe):Prop where
 os:w'.os=w.os
 tape:w'.tape=w.tape
 output:w'.output=w.output
 size:w.heap.size<=w'.heap.size
 frame:∀b,b<w.heap.size->(∀i ds s,qd H i=some ds->ι i≠some (b,s))->w'.heap[b]?=w.heap[b]?
 okU:∀b,ok b->ok' b
 okN:∀b,ok' b->b<w.heap.size->ok b\/∃i ds s,qd H i=some ds/\ι i=some (b,s)
 nle:n<=H.length/\n<=H'.length
 heap:∀i,i<n->∀ds',qd H' i=some ds'->∃ds,qd H i=some ds/\ds.length<=ds'.length/\(ds.length=ds'.length->ι' i=ι i)
 own:∀i ds' b s,qd H' i=some ds'->ι' i=some (b,s)->b<w.heap.size->∃j ds s',qd H j=some ds/\ι j=some (b,s')
structure Sim (X:Cx) (ok:Nat->Prop) (w:World) (ι:qU) (H:qe):Prop where
 okS:∀b,ok b->b<w.heap.size
 glob:∀g cs,X.glob g=some cs->Rep ok w jA [] (.vptr cs) (.pointer (some ⟨g,0,none⟩))
 inj:∀i j ds es b s s',qd H i=some ds->qd H j=some es->ι i=some (b,s)->ι j=some (b,s')->i=j
 blk:∀i ds,qd H i=some ds->∃b arr e fr,ι i=some (b,arr.size)/\¬ok b/\w.heap[b]?=some (.cells arr e fr)/\ds.length<=arr.size/\
  (fr.1=fr.2\/arr.size<=fr.1)/\(∀j,j<arr.size->(arr.getD j undef).oneCell'=true)/\(∀d,d∈ds->jt d=true)/\
  (∀(j:Nat) d,ds[j]?=some d->Rep ok w ι H d (arr.getD j undef))
theorem qih{fr:Nat×Nat}{n:Nat}(h:fr.1=fr.2\/n<=fr.1):∀j,j<n->¬(fr.1<=j/\j<fr.2):=by
 intro j a;omega
theorem Sim.notOwn{X:Cx}(f:Sim X ok w ι H){b:Nat}(g:ok b):∀i ds s,qd H i=some ds->ι i≠some (b,s):=by
 intro i ds s hi c;obtain⟨b',arr,e,fr,a,d,_⟩:=f.blk i ds hi;rw[c] at a;injection a with a;injection a with a;subst a;exact d g
theorem qeG(a:Addr)(j:Nat):(a.add j).block=a.block:=by unfold Addr.add;split<;>rfl
theorem Rep.evol{X:Cx}{n:Nat}{d:D}{v:Value}(h:Rep ok w ι H d v)(J:Sim X ok w ι H)(t:Evol n ok w ι H ok' w' ι' H')(hc:Ev.closed n d=true):Rep ok' w' ι' H' d v:=by
 have z:∀a:Addr,∀j v,ok a.block->w.cell? (a.add j)=some v->w'.cell? (a.add j)=some v:=by
  intro a j v o K;rw[World.cell?_of_block (w:=w)]
  .exact K
  .rw[qeG];exact t.frame _ (J.okS _ o) (J.notOwn o)
 have q:∀{ι1:qU}{x:qe}{d:D}{v:Value},Rep ok w ι1 x d v->ι1=jA->x=[]->Rep ok' w' jA [] d v:=by
  intro ι1 x d v h
  induction h with
  |bool b=>intros;exact .bool b
  |int k n=>intros;exact .int k n
  |str s=>intros;exact .str s
  |nilp=>intros;exact .nilp
  |nilf=>intros;exact .nilf
  |nili=>intros;exact .nili
  |raw v=>intros;exact .raw v
  |agg p hc h l=>intro i g;exact .agg p hc fun j d c=>l j d c i g
  |tup p h l=>intro i g;exact .tup p fun j d c=>l j d c i g
  |fn p h l=>intro i g;exact .fn p fun j d c=>l j d c i g
  |iface h l=>intro i g;exact .iface (l i g)
  |optr a hi h=>intro i g;subst g;simp at hi
  |osl a hi h=>intro i g;subst g;simp at hi
  |vptr a f o hc u h l=>intros;exact .vptr a f (fun d r=>t.okU _ (o d r)) hc (fun j d c=>z a j _ (o d (mem_of_get? c)) (u j d c)) fun j d c=>l j d c rfl rfl
  |vnil=>intros;exact .vnil
  |vsl a f o hc u h y l=>intros;exact .vsl a f (fun d r=>t.okU _ (o d r)) hc (fun j d c=>z a j _ (o d (mem_of_get? c)) (u j d c)) (fun j d c=>l j d c rfl rfl) y
 have main:∀{ι1:qU}{x:qe}{d:D}{v:Value},Rep ok w ι1 x d v->ι1=ι->x=H->Ev.closed n d=true->Rep ok' w' ι' H' d v:=by
  intro ι1 x d v h
  induction h with
  |bool b=>intros;exact .bool b
  |int k n=>intros;exact .int k n
  |str s=>intros;exact .str s
  |nilp=>intros;exact .nilp
  |nilf=>intros;exact .nilf
  |nili=>intros;exact .nili
  |raw v=>intros;exact .raw v
  |agg p hc h l=>
   intro i g m;simp only[Ev.closed,qeD] at m;exact .agg p hc fun j d c=>l j d c i g (m d (mem_of_get? c))
  |tup p h l=>
   intro i g m;simp only[Ev.closed,qeD] at m;exact .tup p fun j d c=>l j d c i g (m d (mem_of_get? c))
  |fn p h l=>
   intro i g m;simp only[Ev.closed,qeD] at m;exact .fn p fun j d c=>l j d c i g (m d (mem_of_get? c))
  |iface h l=>intro i g m;exact .iface (l i g m)
  |optr a hi B=>
   intro i g m;subst i;subst g;simp only[Ev.closed,decide_eq_true_eq] at m;refine .optr a (vd m t.nle.2) fun ds' A=>?_;obtain⟨ds,r,G,I⟩:=t.heap _ m ds' A;obtain⟨L,F⟩:=B ds r;refine⟨wC,fun e=>?_⟩;obtain⟨b,s,E,C⟩:=F wC;exact⟨b,s,by rw[I wC];exact E,C⟩
  |osl a hi B y=>
   intro i g m;subst i;subst g;simp only[Ev.closed,decide_eq_true_eq] at m;refine .osl a (vd m t.nle.2) (fun ds' A=>?_) y;obtain⟨ds,r,G,I⟩:=t.heap _ m ds' A;obtain⟨L,F⟩:=B ds r;refine⟨wC,fun e=>?_⟩;obtain⟨b,s,E,C⟩:=F wC;exact⟨b,s,by rw[I wC];exact E,C⟩
  |vptr a f o hc u h l=>intros;exact .vptr a f (fun d r=>t.okU _ (o d r)) hc (fun j d c=>z a j _ (o d (mem_of_get? c)) (u j d c)) fun j d c=>q (h j d c) rfl rfl
  |vnil=>intros;exact .vnil
  |vsl a f o hc u h y l=>intros;exact .vsl a f (fun d r=>t.okU _ (o d r)) hc (fun j d c=>z a j _ (o d (mem_of_get? c)) (u j d c)) (fun j d c=>q (h j d c) rfl rfl) y
 exact main h rfl rfl hc
theorem Evol.refl(n:Nat)(b:n<=H.length):Evol n ok w ι H ok w ι H:=
 ⟨rfl,rfl,rfl,qA _,fun _ _ _=>rfl,fun _ h=>h,fun _ h _=>.inl h,⟨b,b⟩,fun _ _ ds a=>⟨ds,a,qA _,fun _=>rfl⟩,fun i ds _ s a hi _=>⟨i,ds,s,a,hi⟩⟩
theorem Evol.mono{n m:Nat}(a:Evol n ok w ι H ok' w' ι' H')(b:m<=n):Evol m ok w ι H ok' w' ι' H':=
 ⟨a.os,a.tape,a.output,a.size,a.frame,a.okU,a.okN,⟨by have:=a.nle;omega,by have:=a.nle;omega⟩,fun i hi=>a.heap i wC,a.own⟩
theorem Evol.trans{c:Nat->Prop}{g:World}{ι'':qU}{l:qe}{n:Nat}(h:Evol n ok w ι H ok' w' ι' H')(k:Evol n ok' w' ι' H' c g ι'' l):Evol n ok w ι H c g ι'' l where
 os:=k.os.trans h.os
 tape:=k.tape.trans h.tape
 output:=k.output.trans h.output
 size:=zJ h.size k.size
 frame b a jg:=by
  rw[k.frame b (vd a h.size),h.frame b a jg];intro i ds s f hi;obtain⟨j,d,o,p,m⟩:=h.own i ds b s f hi a;exact jg j d o p m
 okU b a:=k.okU b (h.okU b a)
 okN b a qg:=by
  rcases k.okN b a (vd qg h.size) with a|⟨i,ds,s,f,hi⟩
  .exact h.okN b a qg
  .exact .inr (h.own i ds b s f hi qg)
 nle:=⟨h.nle.1,k.nle.2⟩
 heap i hi ds'' hd'':=by
  obtain⟨ds',r,v,u⟩:=k.heap i hi ds'' hd'';obtain⟨ds,f,t,q⟩:=h.heap i hi ds' r;exact⟨ds,f,wC,fun e=>by rw[u wC,q wC]⟩
 own i ds' b s f hi a:=by
  obtain⟨j,d,o,p,m⟩:=k.own i ds' b s f hi (vd a h.size);exact h.own j d b o p m a
def EnvRep(ok:Nat->Prop)(w:World)(ι:qU)(H:qe)(e:qu)(tmps:Array Value):Prop:=
 ∀t d,qi e t=some d->t<tmps.size/\Rep ok w ι H d (tmps.getD t undef)
def RepL(ok:Nat->Prop)(w:World)(ι:qU)(H:qe)(ds:List D)(vs:List Value):Prop:=
 vs.length=ds.length/\∀(j:Nat) d,ds[j]?=some d->Rep ok w ι H d (vs.getD j undef)
theorem EnvRep.put{e:qu}{tmps:Array Value}{t:Nat}{d:D}{v:Value}(b:EnvRep ok w ι H e tmps)(i:Rep ok w ι H d v)(g:t<tmps.size):
  EnvRep ok w ι H ((t,d)::e) (tmps.setIfInBounds t v):=by
 intro u d' a;simp only[qi] at a;by_cases h:t=u
 .subst h;simp only[if_true,qy] at a;subst a;simp[g,i,Array.getD]
 .simp only[h,if_false] at a;obtain⟨f,c⟩:=b u d' a;refine⟨by simpa using f,?_⟩
  have:(tmps.setIfInBounds t v).getD u undef=tmps.getD u undef:=by
   simp only[j8,qfK h]
  rw[this];exact c
theorem EnvRep.evol{X:Cx}{n:Nat}{e:qu}{tmps:Array Value}(b:EnvRep ok w ι H e tmps)(f:Sim X ok w ι H)(c:Evol n ok w ι H ok' w' ι' H')
  (hc:∀t d,qi e t=some d->Ev.closed n d=true):EnvRep ok' w' ι' H' e tmps:=
 fun t d a=>⟨(b t d a).1,(b t d a).2.evol f c (hc t d a)⟩
theorem EnvRep.evol'{X:Cx}{e:qu}{tmps:Array Value}(a:EnvRep ok w ι H e tmps)(f:Sim X ok w ι H)(b:Evol H.length ok w ι H ok' w' ι' H'):EnvRep ok' w' ι' H' e tmps:=
 a.evol f b fun t d c=>(a t d c).2.closed
end
end Go.Ev
namespace Go.Ev
section
variable {X:Cx} {P:Program} {ok:Nat->Prop} {w w':World} {ι:qU} {H:qe}
theorem qlF:∀d,closed 0 d=true->idFree d=true
 | .agg cs,h| .tup cs,h| .fn _ cs,h=>by
  simp only[closed,qeD,idFree,qdd] at h⊢;intro d a;exact qlF d (h d a)
 | .iface _ d,h=>by simp only[closed,idFree] at h⊢;exact qlF d h
 | .optr i _ _,h| .osl i _ _ _ _,h=>by simp[closed] at h
 | .bool _,_| .int _ _,_| .str _,_| .nilp,_| .nilf,_| .nili,_| .vptr _,_| .vsl _ _ _,_| .raw _,_=>rfl
theorem Rep.lift{d:D}{v:Value}(h:Rep ok w jA [] d v):Rep ok w ι H d v:=h.free (qlF d h.closed) _ _
theorem qx{i:Nat}{ds:List D}(h:qd H i=some ds):i<H.length:=by
 unfold qd at h;rcases Kx i H.length with a|b
 .exact a
 .rw[List.getElem?_eq_none b] at h;simp at h
theorem zj{i:Nat}{ds:List D}(h:i<H.length):qd (qn H i ds) i=some ds:=by
 simp[qd,qn,h]
theorem zV{i j:Nat}{ds:List D}(h:j≠i):qd (qn H i ds) j=qd H j:=by
 simp[qd,qn,Ne.symm h]
theorem kL{i:Nat}{ds:List D}:(qn H i ds).length=H.length:=by simp[qn]
theorem zF{ds:List D}:qd (qr H ds) H.length=some ds:=by simp[qd,qr]
theorem vv{ds:List D}{i:Nat}(h:i<H.length):qd (qr H ds) i=qd H i:=by
 simp[qd,qr,vD h]
theorem jb{ds:List D}:(qr H ds).length=H.length+1:=by simp[qr]
def qa1(w w':World):Prop:=w'.os=w.os/\w'.tape=w.tape/\w'.output=w.output
theorem Sim.lt(c:Sim X ok w ι H){i:Nat}{ds:List D}{b s:Nat}(f:qd H i=some ds)(hi:ι i=some (b,s)):b<w.heap.size:=by
 obtain⟨b',arr,e,fr,a,g,d,_⟩:=c.blk i ds f;rw[hi] at a;injection a with a;injection a with a _;subst a;exact(Array.getElem?_eq_some_iff.1 d).1
theorem qfR{i:Nat}{ds ds':List D}{b sz b':Nat}{arr':Array Value}{e:TypeId}{fr:Nat×Nat}(t:Sim X ok w ι H)(B:qd H i=some ds)(C:ι i=some (b,sz))
  (M:qa1 w w') (P:w.heap.size<=w'.heap.size) (F:∀c,c<w.heap.size->c≠b->w'.heap[c]?=w.heap[c]?)
  (S:w'.heap[b']?=some (.cells arr' e fr)) (v:(b'=b/\arr'.size=sz)\/(w.heap.size<=b'/\ds.length<ds'.length)) (G:ds.length<=ds'.length)
  (L:ds'.length<=arr'.size) (Z:fr.1=fr.2\/arr'.size<=fr.1) (QK:∀j,j<arr'.size->(arr'.getD j undef).oneCell'=true)
  (Q7:∀d,d∈ds'->jt d=true) (y:∀(j:Nat) d,ds'[j]?=some d->Rep ok w ι H d (arr'.getD j undef)):
  ∃ι',Sim X ok w' ι' (qn H i ds')/\Evol H.length ok w ι H ok w' ι' (qn H i ds')/\ι' i=some (b',arr'.size):=by
 have hi:=qx B
 have T:¬ok b:=by
  intro hb;exact t.notOwn hb i ds sz B C
 refine⟨fun k=>if k=i then some (b',arr'.size) else ι k,?_⟩
 have x:Evol H.length ok w ι H ok w' (fun k=>if k=i then some (b',arr'.size) else ι k) (qn H i ds'):=by
  refine⟨M.1,M.2.1,M.2.2,P,?_,fun _ h=>h,fun _ h _=>.inl h,⟨qA _,by rw[kL];exact qA _⟩,?_,?_⟩
  .intro c hc U;exact F c hc (fun e=>U i ds sz B (by rw[C,e]))
  .intro k z n a;by_cases u:k=i
   .subst u;rw[zj hi] at a;injection a with a;subst a;refine⟨ds,B,G,fun N=>?_⟩;rcases v with⟨m,A⟩|⟨_,A⟩
    .simp only[if_true,m,A,C]
    .omega
   .rw[zV u] at a;exact⟨n,a,qA _,fun _=>by simp[u]⟩
  .intro k n c s a z hc;by_cases u:k=i
   .subst u;simp only[if_true,qy,zi] at z;rcases v with⟨m,A⟩|⟨m,_⟩
    .exact⟨k,ds,sz,B,by rw[C,<-z.1,m]⟩
    .omega
   .rw[zV u] at a;simp only[u,if_false] at z;exact⟨k,n,s,a,z⟩
 refine⟨⟨fun c hc=>vd (t.okS c hc) P,?_,?_,?_⟩,x,wE⟩
 .intro g cs hg;have h:=(t.glob g cs hg).lift (ι:=ι) (H:=H);have A:=h.evol t x rfl;exact A.free rfl _ _
 .intro p q n fs c s O I J o r
  have old:∀k,k≠i->∀n c s,qd H k=some n->ι k=some (c,s)->c≠b':=by
   intro k z n c s a hc N;rcases v with⟨m,_⟩|⟨m,_⟩
   .exact z (t.inj k i n ds c s sz a B hc (by rw[C,N,m]))
   .have:=t.lt a hc;omega
  by_cases f:p=i<;>by_cases l:q=i
  .rw[f,l]
  .subst f;rw[zV l] at J;simp only[if_true,l,if_false,qy,zi] at o r;exact absurd o.1.symm (old q l fs c O J r)
  .subst l;rw[zV f] at I;simp only[if_true,f,if_false,qy,zi] at o r;exact absurd r.1.symm (old p f n c s I o)
  .rw[zV f] at I;rw[zV l] at J;simp only[f,l,if_false] at o r;exact t.inj p q n fs c s O I J o r
 .intro k n a;by_cases u:k=i
  .subst u;rw[zj hi] at a;injection a with a;subst a;refine⟨b',arr',e,fr,wE,?_,S,L,Z,QK,Q7,fun j d E=>(y j d E).evol t x (y j d E).closed⟩;rcases v with⟨m,_⟩|⟨m,_⟩
   .rw[m];exact T
   .intro h;have:=t.okS _ h;omega
  .rw[zV u] at a;obtain⟨c,arr,e2,K,m,A,R,W,Y,h6,V,Q⟩:=t.blk k n a;refine⟨c,arr,e2,K,by simp[u,m],A,?_,W,Y,h6,V,fun j d E=>(Q j d E).evol t x (Q j d E).closed⟩;rw[F c (t.lt a m)]
   .exact R
   .rintro rfl;exact u (t.inj k i n ds c arr.size sz a B m C)
theorem qm9{ds:List D}{b':Nat}{arr:Array Value}{e:TypeId}{fr:Nat×Nat}(l:Sim X ok w ι H)
  (B:qa1 w w') (G:w.heap.size<=w'.heap.size) (u:∀c,c<w.heap.size->w'.heap[c]?=w.heap[c]?)
  (M:w'.heap[b']?=some (.cells arr e fr)) (N:w.heap.size<=b')
  (A:ds.length<=arr.size) (T:fr.1=fr.2\/arr.size<=fr.1) (Z:∀j,j<arr.size->(arr.getD j undef).oneCell'=true)
  (U:∀d,d∈ds->jt d=true) (o:∀(j:Nat) d,ds[j]?=some d->Rep ok w ι H d (arr.getD j undef)):
  ∃ι',Sim X ok w' ι' (qr H ds)/\Evol H.length ok w ι H ok w' ι' (qr H ds)/\ι' H.length=some (b',arr.size):=by
 refine⟨fun k=>if k=H.length then some (b',arr.size) else ι k,?_⟩
 have m:Evol H.length ok w ι H ok w' (fun k=>if k=H.length then some (b',arr.size) else ι k) (qr H ds):=by
  refine⟨B.1,B.2.1,B.2.2,G,fun c hc _=>u c hc,fun _ h=>h,fun _ h _=>.inl h,⟨qA _,wW⟩,?_,?_⟩
  .intro k n b a;rw[vv n] at a;exact⟨b,a,qA _,fun _=>by simp[Jc n]⟩
  .intro k b c s a n hc;by_cases x:k=H.length
   .subst x;simp only[if_true,qy,zi] at n;omega
   .have v:k<H.length:=by
     have:=qx a;rw[jb] at this;omega
    rw[vv v] at a;simp only[x,if_false] at n;exact⟨k,b,s,a,n⟩
 have split:∀k b,qd (qr H ds) k=some b->(k=H.length/\b=ds)\/(k<H.length/\qd H k=some b):=by
  intro k b a;by_cases x:k=H.length
  .subst x;rw[zF] at a;injection a with a;exact .inl ⟨rfl,a.symm⟩
  .have v:k<H.length:=by
    have:=qx a;rw[jb] at this;omega
   rw[vv v] at a;exact .inr ⟨v,a⟩
 refine⟨⟨fun c hc=>vd (l.okS c hc) G,?_,?_,?_⟩,m,wE⟩
 .intro g cs Y;have h:=(l.glob g cs Y).lift (ι:=ι) (H:=H);have y:=h.evol l m rfl;exact y.free rfl _ _
 .intro p q b fs c s R S W f i;rcases split p b S with⟨rfl,_⟩|⟨E,C⟩<;>rcases split q fs W with⟨rfl,_⟩|⟨K,F⟩
  .rfl
  .simp only[if_true,Jc K,if_false,qy,zi] at f i;have:=l.lt F i;omega
  .simp only[if_true,Jc E,if_false,qy,zi] at f i;have:=l.lt C f;omega
  .simp only[Jc E,Jc K,if_false] at f i;exact l.inj p q b fs c s R C F f i
 .intro k b a;rcases split k b a with⟨rfl,rfl⟩|⟨n,a⟩
  .exact⟨b',arr,e,fr,wE,fun h=>by have:=l.okS _ h;omega,M,A,T,Z,U,fun j d t=>(o j d t).evol l m (o j d t).closed⟩
  .obtain⟨c,r,e2,z,J,y,L,P,Q,V,O,I⟩:=l.blk k b a;refine⟨c,r,e2,z,by simp[Jc n,J],y,?_,P,Q,V,O,fun j d t=>(I j d t).evol l m (I j d t).closed⟩;rw[u c (l.lt a J)];exact L
theorem q33{i:Nat}:qd (JQ H i) i=none:=by
 unfold qd JQ;by_cases h:i<H.length
 .simp[h]
 .rw[List.getElem?_eq_none (by rw[vH];omega)];rfl
theorem qtm{i j:Nat}(h:j≠i):qd (JQ H i) j=qd H j:=by
 unfold qd JQ;rw[List.getElem?_set_ne (fun e=>h e.symm)]
theorem qaM{i:Nat}:(JQ H i).length=H.length:=by simp[JQ]
theorem qmA{i:Nat}{ds ds':List D}{b sz b':Nat}{arr':Array Value}{e:TypeId}{fr:Nat×Nat}(o:Sim X ok w ι H)(y:qd H i=some ds)(z:ι i=some (b,sz))
  (I:qa1 w w') (O:w.heap.size<=w'.heap.size) (B:∀c,c<w.heap.size->c≠b->w'.heap[c]?=w.heap[c]?)
  (S:w'.heap[b']?=some (.cells arr' e fr)) (x:b'=b\/w.heap.size<=b')
  (G:ds'.length<=arr'.size) (QL:fr.1=fr.2\/arr'.size<=fr.1) (QK:∀j,j<arr'.size->(arr'.getD j undef).oneCell'=true)
  (Q7:∀d,d∈ds'->jt d=true) (v:∀(j:Nat) d,ds'[j]?=some d->Rep ok w ι H d (arr'.getD j undef)):
  ∃ι',Sim X ok w' ι' (qr (JQ H i) ds')/\Evol H.length ok w ι H ok w' ι' (qr (JQ H i) ds')/\ι' H.length=some (b',arr'.size):=by
 have hi:=qx y
 have U:¬ok b:=by
  intro hb;exact o.notOwn hb i ds sz y z
 have split:∀k f,qd (qr (JQ H i) ds') k=some f->(k=H.length/\f=ds')\/(k<H.length/\k≠i/\qd H k=some f):=by
  intro k f a;by_cases F:k=H.length
  .subst F;rw[<-qaM (H:=H) (i:=i),zF] at a;injection a with a;exact .inl ⟨rfl,a.symm⟩
  .have L:k<H.length:=by
    have:=qx a;rw[jb,qaM] at this;omega
   rw[vv (by rw[qaM];exact L)] at a;by_cases r:k=i
   .subst r;rw[q33] at a;cases a
   .rw[qtm r] at a;exact .inr ⟨L,r,a⟩
 refine⟨fun k=>if k=H.length then some (b',arr'.size) else ι k,?_⟩
 have u:Evol H.length ok w ι H ok w' (fun k=>if k=H.length then some (b',arr'.size) else ι k) (qr (JQ H i) ds'):=by
  refine⟨I.1,I.2.1,I.2.2,O,?_,fun _ h=>h,fun _ h _=>.inl h,⟨qA _,by rw[jb,qaM];omega⟩,?_,?_⟩
  .intro c hc V;exact B c hc (fun e=>V i ds sz y (by rw[z,e]))
  .intro k t f a;rcases split k f a with⟨rfl,_⟩|⟨_,_,r⟩
   .omega
   .exact⟨f,r,qA _,fun _=>by simp[Jc t]⟩
  .intro k f c s a t hc;rcases split k f a with⟨rfl,_⟩|⟨l,_,r⟩
   .simp only[if_true,qy,zi] at t;rcases x with l|l
    .exact⟨i,ds,sz,y,by rw[z,<-t.1,l]⟩
    .omega
   .simp only[Jc l,if_false] at t;exact⟨k,f,s,r,t⟩
 refine⟨⟨fun c hc=>vd (o.okS c hc) O,?_,?_,?_⟩,u,wE⟩
 .intro g cs hg;have h:=(o.glob g cs hg).lift (ι:=ι) (H:=H);have r:=h.evol o u rfl;exact r.free rfl _ _
 .intro p q f fs c s N hp hq m n
  have old:∀k,k≠i->∀f c s,qd H k=some f->ι k=some (c,s)->c≠b':=by
   intro k t f c s a hc T;rcases x with l|l
   .exact t (o.inj k i f ds c s sz a y hc (by rw[z,T,l]))
   .have:=o.lt a hc;omega
  rcases split p f hp with⟨rfl,_⟩|⟨J,C,K⟩<;>rcases split q fs hq with⟨rfl,_⟩|⟨Q,Vg,M⟩
  .rfl
  .simp only[if_true,Jc Q,if_false,qy,zi] at m n;exact absurd m.1.symm (old q Vg fs c N M n)
  .simp only[if_true,Jc J,if_false,qy,zi] at m n;exact absurd n.1.symm (old p C f c s K m)
  .simp only[Jc J,Jc Q,if_false] at m n;exact o.inj p q f fs c s N K M m n
 .intro k f a;rcases split k f a with⟨rfl,rfl⟩|⟨t,F,a⟩
  .refine⟨b',arr',e,fr,wE,?_,S,G,QL,QK,Q7,fun j d A=>(v j d A).evol o u (v j d A).closed⟩;rcases x with l|l
   .rw[l];exact U
   .intro h;have:=o.okS _ h;omega
  .obtain⟨c,arr,e2,E,l,r,R,Y,Z,h6,W,P⟩:=o.blk k f a;refine⟨c,arr,e2,E,by simp[Jc t,l],r,?_,Y,Z,h6,W,fun j d A=>(P j d A).evol o u (P j d A).closed⟩;rw[B c (o.lt a l)]
   .exact R
   .rintro rfl;exact F (o.inj k i f ds c arr.size sz a y l z)
theorem qxh(b:Sim X ok w ι H)(m:qa1 w w')(f:w'.heap=w.heap):Sim X ok w' ι H/\Evol H.length ok w ι H ok w' ι H:=by
 have a:Evol H.length ok w ι H ok w' ι H:=
  ⟨m.1,m.2.1,m.2.2,by rw[f];exact qA _,fun _ _ _=>by rw[f],fun _ h=>h,fun _ h _=>.inl h,⟨qA _,qA _⟩,fun _ _ ds n=>⟨ds,n,qA _,fun _=>rfl⟩,
   fun i ds _ s n hi _=>⟨i,ds,s,n,hi⟩⟩
 refine⟨⟨fun c hc=>by rw[f];exact b.okS c hc,fun g cs A=>?_,b.inj,fun k u r=>?_⟩,a⟩
 .have h:=(b.glob g cs A).lift (ι:=ι) (H:=H);exact(h.evol b a rfl).free rfl _ _
 .obtain⟨c,e,e2,l,B,y,q,v,x,z,t,p⟩:=b.blk k u r;exact⟨c,e,e2,l,B,y,by rw[f];exact q,v,x,z,t,fun j d o=>(p j d o).evol b a (p j d o).closed⟩
theorem Vl(b o j:Nat):(⟨b,o,none⟩:Addr).add j=⟨b,o+j,none⟩:=by
 unfold Addr.add;split
 .simp_all
 .rfl
theorem qiN(a:Addr)(i j:Nat):(a.add i).add j=a.add (i+j):=by
 unfold Addr.add;by_cases hi:i=0<;>by_cases b:j=0<;>simp[hi,b,qiQ]
theorem qoS{p:D}{cs:List D}{a:Addr}(y:Sim X ok w ι H)(n:Rep ok w ι H p (.pointer (some a)))(c:mem H p=some cs):
  (∀d,d∈cs->jt d=true)/\∃f:Nat->Value,∀(j:Nat) d,cs[j]?=some d->w.cell? (a.add j)=some (f j)/\Rep ok w ι H d (f j):=by
 cases n with
 |raw v=>simp[mem] at c
 |vptr a f C hc r h=>
  simp only[mem,qy] at c;subst c;exact⟨hc,f,fun j d g=>⟨r j d g,(h j d g).lift⟩⟩
 |optr a hi h=>
  rename_i i st off;simp only[mem] at c;split at c
  .rename_i ds l;split at c
   .rename_i m;injection c with c;subst c;obtain⟨b,s,t,rfl⟩:=(h ds l).2 m;obtain⟨b',arr,e,fr,k,A,z,q,B,E,o,x⟩:=y.blk i ds l;rw[t] at k;injection k with k;injection k with k _;subst k;refine⟨fun d l=>o d (Zz l),fun j=>arr.getD (off+j) undef,fun j d g=>?_⟩;rw[Qa] at g;refine⟨?_,x _ d g⟩;have u:off+j<arr.size:=vd (List.getElem?_eq_some_iff.1 g).1 q;rw[Vl];simp[World.cell?,z,u]
   .cases c
  .cases c
theorem qhT{t:TypeId}{q:Bool}(h:Kv P t=some q)(w:World):(isAgg t).run P w=.ok q w:=by
 unfold Kv at h;unfold isAgg;rw[Sem.run_bind];cases a:P.underlying t with
 |none=>simp[a] at h
 |some d=>rw[run_underlying a w];cases d<;>simp_all
theorem q3d{t:TypeId}{d:TypeDesc}(h:P.underlying t=some d):∃i,P.info? t=some i:=by
 cases hi:P.info? t with
 |some i=>exact⟨i,rfl⟩
 |none=>
  unfold Program.underlying at h;rw[hi] at h;simp at h
end
end Go.Ev
namespace Go.Ev
section
variable {X:Cx} {P:Program} {ok:Nat->Prop} {w w':World} {ι:qU} {H H':qe}
theorem QC{t:TypeId}(h:0<qw P t)(w:World):(sizeOf t).run P w=.ok (qw P t) w:=by
 unfold qw at h⊢;cases hi:P.info? t with
 |none=>simp[hi] at h
 |some i=>simp[sizeOf,typeInfo,hi]
theorem qjy{t:TypeId}{d:TypeDesc}(h:P.underlying t=some d)(w:World):(sizeOf t).run P w=.ok (qw P t) w:=by
 obtain⟨i,hi⟩:=q3d h;simp[sizeOf,typeInfo,hi,qw]
theorem qgw{t:TypeId}(h:0<qw P t):∃i,P.info? t=some i/\i.size=qw P t/\i.bytes=bytesOf P t:=by
 unfold qw bytesOf at *;cases hi:P.info? t with
 |none=>simp[hi] at h
 |some i=>exact⟨i,rfl,wE,wE⟩
theorem qop{v:Value}{d:D}(h:qeo v=some d):Rep ok w ι H d v:=by
 unfold qeo at h;split at h<;>cases h
 .exact .bool _
 .exact .int _ _
 .rename_i s;have:s=⟨s.data.toList.toArray⟩:=by simp
  rw[this];exact .str _
 .exact .nilp
 .exact .vnil
 .exact .nilf
 .exact .nili
theorem qzV{v:Value}{d:D}(h:qeo v=some d):jt d=true:=by
 unfold qeo at h;split at h<;>cases h<;>rfl
theorem qon:∀{l:List Value}{ds:List D},qen l=some ds->l.length=ds.length/\(∀d,d∈ds->jt d=true)/\∀(j:Nat) d,ds[j]?=some d->Rep ok w ι H d (l.getD j undef)
 |[],ds,h=>by
  simp only[qen,qy] at h;subst h;simp
 |v::l,ds,h=>by
  simp only[qen] at h;split at h
  .rename_i d ds' a e;injection h with h;subst h;obtain⟨c,b,f⟩:=qon e;refine⟨by simp[c],?_,?_⟩
   .intro x hx;rcases List.mem_cons.1 hx with rfl|hx
    .exact qzV a
    .exact b x hx
   .intro j x hx;cases j with
    |zero=>
     simp only[Qb,qy] at hx;subst hx;exact qop a
    |succ j=>exact f j x wY
  .cases h
theorem qoo{v:Value}{d:D}(h:qgj v=some d):Rep ok w ι H d v:=by
 unfold qgj at h;split at h
 .rename_i cs;cases a:qen cs.toList with
  |none=>simp[a] at h
  |some ds=>
   simp only[a,jn,qy] at h;subst h;obtain⟨e,b,f⟩:=qon (ok:=ok) (w:=w) (ι:=ι) (H:=H) a;refine .agg (by simpa using e) b fun j d c=>?_;have:=f j d c;simpa[j8,jy] using this
 .exact qop h
theorem vj(i:Sim X ok w ι H){e:qu}{a:Act}(c:EnvRep ok w ι H e a.tmps){x:Operand}{d:D}(h:qY X e x=some d):Rep ok w ι H d (a.eval x):=by
 cases x with
 |tmp t=>exact(c t d h).2
 |const v=>exact qoo h
 |func f=>
  simp only[qY,qy] at h;subst h;exact .fn rfl wE
 |global g=>
  simp only[qY] at h;cases b:X.glob g with
  |none=>simp[b] at h
  |some cs=>
   simp only[b,jn,qy] at h;subst h;exact(i.glob g cs b).lift
theorem qgh(c:Sim X ok w ι H){e:qu}{a:Act}(b:EnvRep ok w ι H e a.tmps):∀{l:List Operand}{ds:List D},vO X e l=some ds->RepL ok w ι H ds (l.map a.eval)
 |[],ds,h=>by
  simp only[vO,qy] at h;subst h;exact⟨rfl,wE⟩
 |x::l,ds,h=>by
  simp only[vO] at h;split at h
  .rename_i d ds' k i;injection h with h;subst h;obtain⟨g,f⟩:=qgh c b i;refine⟨xD,fun j x hx=>?_⟩;cases j with
   |zero=>
    simp only[Qb,qy] at hx;subst hx;exact vj c b k
   |succ j=>exact f j x wY
  .cases h
def Post(X:Cx)(n:Nat)(ok:Nat->Prop)(w:World)(ι:qU)(H:qe)(d:D)(H':qe)(v:Value)(w':World):Prop:=
 ∃ι' ok',Sim X ok' w' ι' H'/\Rep ok' w' ι' H' d v/\Evol n ok w ι H ok' w' ι' H'
theorem Post.same(a:Sim X ok w ι H){d:D}{v:Value}(h:Rep ok w ι H d v):Post X H.length ok w ι H d H v w:=
 ⟨ι,ok,a,h,.refl _ (qA _)⟩
theorem qbw{d:D}{v:Value}{cs:List D}(h:Rep ok w ι H d v)(hc:cellsOf d=some cs):
  v.cells.size=cs.length/\(∀d,d∈cs->jt d=true)/\∀(j:Nat) d,cs[j]?=some d->Rep ok w ι H d (v.cells.getD j undef):=by
 have c:∀{d:D}{v:Value},Rep ok w ι H d v->jt d=true->v.cells= #[v]->(#[v]:Array Value).size=[d].length/\(∀x,x∈[d]->jt x=true)/\∀(j:Nat) x,[d][j]?=some x->Rep ok w ι H x ((#[v]:Array Value).getD j undef):=by
  intro d v h p _;refine⟨rfl,by simpa using p,fun j x hx=>?_⟩;cases j with
  |zero=>
   simp only[Qb,qy] at hx;subst hx;exact h
  |succ j=>simp at hx
 cases h with
 |agg e m h=>
  simp only[cellsOf,qy] at hc;subst hc;exact⟨e,m,h⟩
 |tup e h=>simp[cellsOf] at hc
 |raw v=>simp[cellsOf] at hc
 |bool b=>simp only[cellsOf,qy] at hc;subst hc;exact c (.bool b) rfl rfl
 |int k n=>simp only[cellsOf,qy] at hc;subst hc;exact c (.int k n) rfl rfl
 |str s=>simp only[cellsOf,qy] at hc;subst hc;exact c (.str s) rfl rfl
 |nilp=>simp only[cellsOf,qy] at hc;subst hc;exact c .nilp rfl rfl
 |nilf=>simp only[cellsOf,qy] at hc;subst hc;exact c .nilf rfl rfl
 |nili=>simp only[cellsOf,qy] at hc;subst hc;exact c .nili rfl rfl
 |vptr a f o i l h=>simp only[cellsOf,qy] at hc;subst hc;exact c (.vptr a f o i l h) rfl rfl
 |optr a hi h=>simp only[cellsOf,qy] at hc;subst hc;exact c (.optr a hi h) rfl rfl
 |vnil=>simp only[cellsOf,qy] at hc;subst hc;exact c .vnil rfl rfl
 |vsl a f o i l h g=>simp only[cellsOf,qy] at hc;subst hc;exact c (.vsl a f o i l h g) rfl rfl
 |osl a hi h g=>simp only[cellsOf,qy] at hc;subst hc;exact c (.osl a hi h g) rfl rfl
 |fn e h=>simp only[cellsOf,qy] at hc;subst hc;exact c (.fn e h) rfl rfl
 |iface h=>simp only[cellsOf,qy] at hc;subst hc;exact c (.iface h) rfl rfl
theorem Rep.ptr{p:D}{v:Value}{cs:List D}(h:Rep ok w ι H p v)(b:mem H p=some cs):∃a,v=.pointer (some a):=by
 cases h<;>first|(simp[mem] at b;done)|exact⟨_,rfl⟩
theorem q3Y{f:Nat->Value}{n j:Nat}(h:j<n):(((List.range n).map f).toArray).getD j undef=f j:=by
 simp[h]
theorem qpf{p d:D}{pv:Value}{t:TypeId}(q:Sim X ok w ι H)(l:Rep ok w ι H p pv)(h:ldD P H t p=some d):
  ∃v,(Instr.loadAt t pv).run P w=.ok v w/\Rep ok w ι H d v:=by
 unfold ldD at h;split at h
 .rename_i cs g c;split at h
  .rename_i z;injection h with h;subst h;obtain⟨a,rfl⟩:=l.ptr c;obtain⟨hc,f,k⟩:=qoS q l c;have s:∀j,j<qw P t->∃d,cs[j]?=some d:=fun j b=>⟨cs[j],qM wC⟩
   have u:=run_loadCells (P:=P) w a (qw P t) f (fun j b=>by
    obtain⟨d,m⟩:=s j b;exact(k j d m).1)
   have e:∃i,P.underlying t=some i:=by
    unfold Kv at g;cases e:P.underlying t with
    |none=>simp[e] at g
    |some x=>exact⟨x,rfl⟩
   obtain⟨i,e⟩:=e;refine⟨.agg ((List.range (qw P t)).map f).toArray,?_,?_⟩
   .simp[Instr.loadAt,Instr.sureAddr,loadVar,qhT g,qjy e,u]
   .refine .agg wG (fun d m=>hc d (QX m)) fun j d b=>?_;rw[Xs] at b;split at b
    .rename_i y;rw[q3Y y];exact(k j d b).2
    .cases b
  .cases h
 .rename_i d' n g c;injection h with h;subst h;obtain⟨a,rfl⟩:=l.ptr c;obtain⟨hc,f,k⟩:=qoS q l c;obtain⟨o,r⟩:=k 0 d' rfl;refine⟨f 0,?_,r⟩;have:a.add 0=a:=rfl;rw[this] at o;simp[Instr.loadAt,Instr.sureAddr,loadVar,qhT g,o]
 .cases h
theorem Y6{b o:Nat}{arr:Array Value}{e:TypeId}{fr:Nat×Nat}(h:w.heap[b]?=some (.cells arr e fr)):w.cell? ⟨b,o,none⟩=arr[o]?:=by
 simp[World.cell?,h]
theorem qij{b o:Nat}{arr:Array Value}{e:TypeId}{fr:Nat×Nat}(h:w.heap[b]?=some (.cells arr e fr)):w.frozen? ⟨b,o,none⟩=(decide (fr.1<=o)&&decide (o<fr.2)):=by
 simp[World.frozen?,h]
theorem qhi(b o:Nat)(e:TypeId)(fr:Nat×Nat):∀(vs:List Value)(i:Nat)(arr:Array Value)(w:World),w.heap[b]?=some (.cells arr e fr)->o+i+vs.length<=arr.size->
  (∀v,v∈vs->v.oneCell'=true)->(∀j,j<arr.size->¬(fr.1<=j/\j<fr.2))->
  ∃w' arr',(storeCells ⟨b,o,none⟩ vs i).run P w=.ok () w'/\qa1 w w'/\w'.heap.size=w.heap.size/\(∀c,c≠b->w'.heap[c]?=w.heap[c]?)/\w'.heap[b]?=some (.cells arr' e fr)/\arr'.size=arr.size/\
   ∀j,arr'[j]?=if o+i<=j/\j<o+i+vs.length then vs[j-(o+i)]? else arr[j]?
 |[],i,arr,w,a,l,h,g=>by
  refine⟨w,arr,rfl,⟨rfl,rfl,rfl⟩,rfl,fun _ _=>rfl,a,rfl,fun j=>?_⟩;rw[if_neg wE]
 |v::vs,i,arr,w,a,l,h,g=>by
  simp only[jJ] at l;have d:o+i<arr.size:=wC
  have t:w.cell? ⟨b,o+i,none⟩=some arr[o+i]:=by rw[Y6 a];simp[d]
  have s:w.frozen? ⟨b,o+i,none⟩=false:=by
   rw[qij a];have:=g _ d;simp only[Bool.and_eq_false_iff,decide_eq_false_iff_not];omega
  have A:(w.setCell ⟨b,o+i,none⟩ v).heap[b]?=some (.cells (arr.setIfInBounds (o+i) v) e fr):=by
   simp[World.setCell,qmd,a]
  obtain⟨w',arr',z,f,q,m,n,x,y⟩:=qhi b o e fr vs (i+1) (arr.setIfInBounds (o+i) v) (w.setCell ⟨b,o+i,none⟩ v) A wG
   (fun u p=>h u (vy _ p)) xD
  refine⟨w',arr',?_,⟨f.1,f.2.1,f.2.2⟩,by simpa[World.setCell] using q,?_,n,by simpa using x,?_⟩
  .simp only[storeCells,Sem.run_bind,Vl,run_store P w _ v .plain (h v (Jd ..)),t,s,Qd,if_false,Result.andThen_ok];exact z
  .intro c hc;rw[m c hc];simp[World.setCell,qmd,Ne.symm hc]
  .intro j;rw[y j];simp only[jJ];by_cases r:j=o+i
   .subst r;rw[if_neg wC,if_pos wC];simp[d]
   .by_cases k:o+(i+1)<=j/\j<o+(i+1)+vs.length
    .rw[if_pos k,if_pos wC];have:j-(o+i)=(j-(o+(i+1)))+1:=wC;rw[this,qeK]
    .rw[if_neg k,if_neg wC];rw[qfK wC]
theorem qeU{ds xs:List D}{off:Nat}(h:off+xs.length<=ds.length):(zT ds off xs).length=ds.length:=by
 simp[zT];omega
theorem qnd{ds xs:List D}{off:Nat}(h:off+xs.length<=ds.length)(j:Nat):(zT ds off xs)[j]?=if off<=j/\j<off+xs.length then xs[j-off]? else ds[j]?:=by
 unfold zT;have b:(ds.take off).length=off:=wG
 by_cases a:j<off
 .rw[if_neg wC,jX,vD wC,Xs,if_pos a]
 .by_cases c:j<off+xs.length
  .rw[if_pos wC,jX,jl wC,vD wC,b]
  .rw[if_neg wC,jl wG,Qa];congr 1;simp;omega
theorem qoQ{ds xs:List D}{off:Nat}{d:D}(h:d∈zT ds off xs):d∈ds\/d∈xs:=by
 unfold zT at h;simp only[jW] at h;rcases h with(h|h)|h
 .exact .inl (QX h)
 .exact .inr h
 .exact .inl (Zz h)
theorem qjc{i st off b sz:Nat}{ds xs:List D}{vs:List Value}{a:Addr}(r:Sim X ok w ι H)(s:qd H i=some ds)(_hst:ds.length=st)(m:ι i=some (b,sz))(K:a=⟨b,off,none⟩)
  (g:off+xs.length<=ds.length) (C:vs.length=xs.length) (hc:∀d,d∈xs->jt d=true) (hx:∀(j:Nat) d,xs[j]?=some d->Rep ok w ι H d (vs.getD j undef)):
  ∃w' ι',(storeCells a vs).run P w=.ok () w'/\Sim X ok w' ι' (qn H i (zT ds off xs))/\Evol H.length ok w ι H ok w' ι' (qn H i (zT ds off xs)):=by
 obtain⟨b',arr,e,fr,l,R,B,O,n,G,J,x⟩:=r.blk i ds s;rw[m] at l;injection l with l;injection l with l t;subst l;subst K
 have q:∀v,v∈vs->v.oneCell'=true:=by
  intro v I;obtain⟨j,f⟩:=List.mem_iff_getElem?.1 I;have E:j<vs.length:=(List.getElem?_eq_some_iff.1 f).1;have p:xs[j]?=some (xs[j]' wC):=qM wC;have h:=hx j _ p;rw[jy,f] at h;exact h.oneCell (hc _ (mem_of_get? p))
 obtain⟨w',arr',A,y,S,F,L,o,z⟩:=qhi (P:=P) b off e fr vs 0 arr w B wC q (qih n)
 have qd:∀j,j<arr.size->arr'.getD j undef=if off<=j/\j<off+xs.length then vs.getD (j-off) undef else arr.getD j undef:=by
  intro j f;simp only[j8,z j,jy,Nat.add_zero,C];split<;>rfl
 obtain⟨ι',M,N,Q⟩:=qfR (i:=i) (ds:=ds) (ds':=zT ds off xs) (b:=b) (sz:=sz) (b':=b) (arr':=arr') (e:=e) (fr:=fr) (w':=w') r s m y wC (fun c _ hc=>F c hc) L (.inl ⟨rfl,wC⟩)
  (by rw[qeU g];exact qA _) (by rw[qeU g];omega) (by rw[o];exact n)
  (by
   intro j f;rw[o] at f;rw[qd j f];by_cases k:off<=j/\j<off+xs.length
   .rw[if_pos k];have:j-off<vs.length:=wC;rw[jy,qM this];exact q _ (vC this)
   .rw[if_neg k];exact G j f)
  (by
   intro d u;rcases qoQ u with h|h
   .exact J d h
   .exact hc d h)
  (by
   intro j d f
   have E:j<ds.length:=by
    have:=(List.getElem?_eq_some_iff.1 f).1
    rwa [qeU g] at this
   rw[qd j wC];rw[qnd g] at f;split at f
   .rename_i k;rw[if_pos k];exact hx _ d f
   .rename_i k;rw[if_neg k];exact x j d f)
 exact⟨w',ι',A,M,N⟩
theorem qxf{p x:D}{pv e:Value}{t:TypeId}(E:Sim X ok w ι H)(y:Rep ok w ι H p pv)(hx:Rep ok w ι H x e)(h:stD P H t p x=some H'):
  ∃w' ι',(Instr.storeAt t pv e).run P w=.ok () w'/\Sim X ok w' ι' H'/\Evol H.length ok w ι H ok w' ι' H':=by
 unfold stD at h;split at h
 .rename_i i st off xs f;split at h
  .rename_i ds l;split at h
   .rename_i c;obtain⟨k,A,n,u,_⟩:=c;injection h with h;subst h;cases y with
    |optr a hi B=>
     obtain⟨b,s,m,rfl⟩:=(B ds l).2 k;obtain⟨g,v,o⟩:=qbw hx f
     obtain⟨w',ι',r,q,C⟩:=qjc (P:=P) (vs:=e.cells.toList) E l k m rfl u xD v (fun j d z=>by
      have:=o j d z;simpa[j8,jy] using this)
     refine⟨w',ι',?_,q,C⟩;simp[Instr.storeAt,Instr.sureAddr,storeVar,QC n,g,A,r]
   .cases h
  .cases h
 .cases h
end
end Go.Ev
namespace Go.Ev
section
variable {X:Cx} {P:Program} {ok:Nat->Prop} {w w':World} {ι:qU} {H H':qe}
theorem qnO{p m:D}{v:Value}{k:Nat}(n:Rep ok w ι H p v)(h:qge k p=some m):∃a,v=.pointer (some a)/\Rep ok w ι H m (.pointer (some (a.add k))):=by
 cases n<;>simp only[qge,reduceCtorEq] at h
 .rename_i ds a f r hc o g;injection h with h;subst h;refine⟨a,rfl,.vptr (a.add k) (fun j=>f (k+j)) (fun d c=>by rw[qeG];exact r d (Zz c)) (fun d c=>hc d (Zz c)) (fun j d l=>?_) (fun j d l=>?_)⟩
  .rw[qiN];exact o _ d (by simpa[Qa] using l)
  .exact g _ d (by simpa[Qa] using l)
 .rename_i i st off a hi g;injection h with h;subst h;refine⟨a,rfl,.optr _ hi fun ds c=>⟨(g ds c).1,fun e=>?_⟩⟩;obtain⟨b,s,q,rfl⟩:=(g ds c).2 e;exact⟨b,s,q,Vl _ _ _⟩
theorem q48{s:TypeId}{p i:D}{v:Value}{f:Nat}(j:Rep ok w ι H p v)(h:qir P s p f=some i):
  ∃e,(Instr.fieldAt s v f).run P w=.ok e w/\Rep ok w ι H i e:=by
 unfold qir qg5 at h;cases c:P.underlying s with
 |none=>simp[c] at h
 |some d=>
  cases d<;>simp only[c,reduceCtorEq] at h;rename_i fs;cases b:fs[f]? with
  |none=>simp[b] at h
  |some l=>
   simp only[b] at h;split at h
   .cases h
   .rename_i g;obtain⟨a,rfl,k⟩:=qnO j h;refine⟨_,?_,k⟩;simp[Instr.fieldAt,run_underlying c,b,Instr.sureAddr,fieldPlace,QC (Nat.pos_of_ne_zero g),g]
theorem q3l{t:TypeId}{x i u:D}{v r:Value}(hx:Rep ok w ι H x v)(hi:Rep ok w ι H i r)(h:qhX P t x i=some u):
  ∃q,(Instr.indexAt t v r).run P w=.ok q w/\Rep ok w ι H u q:=by
 unfold qhX at h;split at h
 .rename_i n e k i g;split at h
  .rename_i hc;obtain⟨a,rfl,o⟩:=qnO hx h;cases hi;refine⟨_,?_,o⟩;simp[Instr.indexAt,asIntOf,run_underlying g,Instr.sureAddr,hc.1,hc.2.1,QC hc.2.2]
  .cases h
 .rename_i e cs p k i g;split at h
  .rename_i hc;injection h with h;subst h;cases hi;cases hx with
   |vsl a f A B o l y=>
    refine⟨.pointer (some (a.add (i.toNat*qw P e))),?_,.vptr _ (fun j=>f (i.toNat*qw P e+j)) (fun d c=>by rw[qeG];exact A d (Zz c)) (fun d c=>B d (Zz c)) (fun j d m=>?_) (fun j d m=>?_)⟩
    .simp[Instr.indexAt,asIntOf,run_underlying g,hc.1,hc.2.1,QC hc.2.2]
    .rw[qiN];exact o _ d (by simpa[Qa] using m)
    .exact l _ d (by simpa[Qa] using m)
  .cases h
 .rename_i e id st off p k' k i g;split at h
  .rename_i hc;injection h with h;subst h;cases hi;cases hx with
   |osl a hi l y=>
    refine⟨.pointer (some (a.add (i.toNat*qw P e))),?_,.optr _ hi fun ds c=>⟨(l ds c).1,fun e=>?_⟩⟩
    .simp[Instr.indexAt,asIntOf,run_underlying g,hc.1,hc.2.1,QC hc.2.2]
    .obtain⟨b,s,z,rfl,_⟩:=(l ds c).2 e;exact⟨b,s,z,Vl _ _ _⟩
  .cases h
 .cases h
theorem qfg{t:TypeId}{cs:List D}{vs:Array Value}{off:Nat}{d:D}(hx:Rep ok w ι H (.agg cs) (.agg vs))(h:qaF P t cs off=some d):
  ∃v,(part t vs off).run P w=.ok v w/\Rep ok w ι H d v:=by
 cases hx with
 |agg i hc g=>
  unfold qaF at h;split at h
  .rename_i b;split at h
   .rename_i k;injection h with h;subst h
    obtain⟨c,e⟩:∃c,P.underlying t=some c:=by
     unfold Kv at b;cases e:P.underlying t with
     |none=>simp[e] at b
     |some x=>exact⟨x,rfl⟩
    refine⟨.agg (vs.extract off (off+qw P t)),by simp[part,qhT b,qjy e],?_⟩;refine .agg wG (fun d l=>hc d (Zz (QX l))) fun j d a=>?_;rw[Xs] at a;split at a
    .rename_i m;rw[Qa] at a;have:=g _ d a;rw[j8] at this⊢;rw[Array.getElem?_extract];rw[if_pos wC];exact this
    .cases a
   .cases h
  .rename_i b;have f:off<vs.size:=(by rw[i];exact(List.getElem?_eq_some_iff.1 h).1);refine⟨vs[off],by simp[part,qhT b,f],?_⟩;have:=g _ d h;rw[j8,ZJ f] at this;exact this
  .cases h
theorem q47{s:TypeId}{x d:D}{v:Value}{f:Nat}(hx:Rep ok w ι H x v)(h:qiq P s x f=some d):
  ∃a,(Instr.field s v f).run P w=.ok a w/\Rep ok w ι H d a:=by
 unfold qiq qg5 at h;cases c:P.underlying s with
 |none=>simp[c] at h
 |some dd=>
  cases dd<;>simp only[c,reduceCtorEq] at h;rename_i fs;cases b:fs[f]? with
  |none=>simp[b] at h
  |some k=>
   simp only[b] at h;cases hx<;>simp only[reduceCtorEq] at h;rename_i ds vs i hc j;obtain⟨a,g,e⟩:=qfg (Rep.agg i hc j) h;exact⟨a,by simp[Instr.field,run_underlying c,b,asAgg,g],e⟩
theorem q3j{t:TypeId}{x i d:D}{v g:Value}(hx:Rep ok w ι H x v)(hi:Rep ok w ι H i g)(h:qhW P t x i=some d):
  ∃c,(Instr.index t v g).run P w=.ok c w/\Rep ok w ι H d c:=by
 unfold qhW at h;split at h
 .rename_i n e cs k i a;split at h
  .rename_i hc;cases hi;cases hx with
   |agg q y r=>
    obtain⟨c,o,l⟩:=qfg (Rep.agg q y r) h;refine⟨c,?_,l⟩
    have m:(sizeOf e).run P w=.ok (qw P e) w:=by
     unfold qaF Kv at h;cases a:P.underlying e with
     |none=>simp[a] at h
     |some x=>exact qjy a w
    simp[Instr.index,asIntOf,run_underlying a,hc.1,hc.2,m,o]
  .cases h
 .rename_i s k i a;split at h
  .rename_i hc;cases hi;cases hx;cases f:s[i.toNat]? with
   |none=>simp[f] at h
   |some b=>
    simp only[f,jn,qy] at h;subst h;have p:i.toNat<s.length:=(List.getElem?_eq_some_iff.1 f).1;refine⟨.int .u8 b.toNat,?_,.int _ _⟩
    have j:(⟨s.toArray⟩:ByteArray)[i.toNat]?=some b:=by
     have u:s[i.toNat]=b:=(List.getElem?_eq_some_iff.1 f).2;rw[getElem?_pos (⟨s.toArray⟩:ByteArray) i.toNat (by simpa[ByteArray.size] using p)];rw[<-u];rfl
    simp[Instr.index,asIntOf,run_underlying a,hc,j]
  .cases h
 .cases h
theorem q2Y{op:BinOp}{t:TypeId}{k:IntKind}{a b:Int}{d:D}(f:op≠.shl)(e:op≠.shr)(h:jO op k a b=some d):
  ∃v,(binOp op t (.int k a) (.int k b)).run P w=.ok v w/\Rep ok w ι H d v:=by
 cases op<;>simp only[jO,Y7,Vs,qK,qeF,reduceCtorEq,qy,ne_eq] at h f e
 case quo=>
  split at h
  .cases h
  .rename_i c;injection h with h;subst h;exact⟨_,by simp[binOp,Op.intDiv,c],.int _ _⟩
 case rem=>
  split at h
  .cases h
  .rename_i c;injection h with h;subst h;exact⟨_,by simp[binOp,Op.intDiv,c],.int _ _⟩
 case add|sub|mul=>
  subst h;exact⟨_,by simp[binOp,Op.intArith],.int _ _⟩
 case and|or|xor|andNot=>
  subst h;exact⟨_,by simp only[binOp,ne_eq,not_true_eq_false,if_false];rfl,.int _ _⟩
 all_goals
  subst h;exact⟨_,by simp[binOp,Op.intCmp],.bool _⟩
theorem qna{op:BinOp}{t:TypeId}{k k':IntKind}{a b:Int}{d:D}(e:op=.shl\/op=.shr)(h:qfV op k a b=some d):
  ∃v,(binOp op t (.int k a) (.int k' b)).run P w=.ok v w/\Rep ok w ι H d v:=by
 unfold qfV at h;split at h
 .cases h
 .rename_i c;rcases e with rfl|rfl<;>simp only[qy] at h<;>subst h
  .exact⟨_,by simp[binOp,Op.shift,c],.int _ _⟩
  .exact⟨_,by simp[binOp,Op.shift,c],.int _ _⟩
theorem qxe{op:BinOp}{t:TypeId}{x y:List UInt8}{d:D}(h:strD op x y=some d):
  ∃v,(binOp op t (.string ⟨x.toArray⟩) (.string ⟨y.toArray⟩)).run P w=.ok v w/\Rep ok w ι H d v:=by
 cases op<;>simp only[strD,reduceCtorEq] at h
 case add=>
  split at h
  .rename_i a;injection h with h;subst h;refine⟨.string ⟨(x++y).toArray⟩,?_,.str _⟩
   have e:(⟨x.toArray⟩:ByteArray)++⟨y.toArray⟩=⟨(x++y).toArray⟩:=by
    apply ByteArray.ext;simp
   simp only[binOp,Op.stringOp,e];rw[if_neg]
   .rfl
   .simp[ByteArray.size,IntKind.max,IntKind.bits,IntKind.signed];omega
  .cases h
 all_goals
  injection h with h;subst h;exact⟨_,by simp[binOp,Op.stringOp],.bool _⟩
theorem qwC{op:UnOp}{x d:D}{v:Value}(hx:Rep ok w ι H x v)(h:unD op x=some d):
  ∃a,(Op.unary op v).run P w=.ok a w/\Rep ok w ι H d a:=by
 unfold unD at h;split at h<;>cases h<;>cases hx
 .exact⟨_,by simp[Op.unary,Op.intArith],.int _ _⟩
 .exact⟨_,by simp[Op.unary,Op.intBits],.int _ _⟩
 .exact⟨_,by simp[Op.unary],.bool _⟩
end
end Go.Ev
namespace Go.Ev
section
variable {X:Cx} {P:Program} {ok:Nat->Prop} {w w':World} {ι:qU} {H H':qe}
theorem qlK{w b:World}(h:b.heap=w.heap)(a:Addr):b.cell? a=w.cell? a:=by simp[World.cell?,h]
theorem qmR{k n:Nat}{x:D}{v:Value}{cs:List D}(L:Sim X ok w ι H)(hx:Rep ok w ι H x v)(h:YG H k x=some (cs,n)):
  cs.length=n*k/\(∀d,d∈cs->jt d=true)/\∃A c,v=.slice A n c/\n<=c/\(A=none->n=0)/\
   ∃f:Nat->Value,∀(j:Nat) d,cs[j]?=some d->∃a,A=some a/\w.cell? (a.add j)=some (f j)/\Rep ok w ι H d (f j):=by
 cases hx with
 |vnil=>
  simp only[YG] at h;split at h
  .rename_i t;injection h with h;injection h with o p;subst o;subst p;exact⟨t,wE,none,0,rfl,qA _,fun _=>rfl,fun _=>undef,wE⟩
  .cases h
 |vsl a f R hc B u r=>
  simp only[YG] at h;split at h
  .rename_i t;injection h with h;injection h with o p;subst o;subst p;exact⟨t,hc,some a,_,rfl,r,fun h=>by(cases h),f,fun j d g=>⟨a,rfl,B j d g,(u j d g).lift⟩⟩
  .cases h
 | @osl _ _ i st off G k' c a hi u r=>
  simp only[YG] at h;split at h
  .rename_i ds q;split at h
   .rename_i l;obtain⟨o,p,M⟩:=l;injection h with h;injection h with F J;subst F;subst J;obtain⟨b,s,E,rfl,Q⟩:=(u ds q).2 o;obtain⟨b',arr,e,fr,m,O,I,y,N,P,K,z⟩:=L.blk i ds q;rw[E] at m;injection m with m;injection m with m _;subst m;refine⟨wG,fun d q=>K d (Zz (QX q)),some ⟨b,off,none⟩,c,rfl,r,(fun h=>wI),fun j=>arr.getD (off+j) undef,fun j d g=>⟨_,rfl,?_⟩⟩;rw[Xs] at g;split at g
    .rw[Qa] at g;have C:off+j<arr.size:=vd (List.getElem?_eq_some_iff.1 g).1 y;refine⟨?_,z _ d g⟩;rw[Vl,Y6 I];simp[C]
    .cases g
   .cases h
  .cases h
 |_=>simp[YG] at h
def YP(s:List UInt8):List Value:=s.map fun b=>.int .u8 (b.toNat:Int)
theorem qkc(s:List UInt8)(j:Nat)(d:D)(h:(qf s)[j]?=some d):Rep ok w ι H d (((YP s)).getD j undef):=by
 unfold qf at h;rw[Je] at h;cases a:s[j]? with
 |none=>simp[a] at h
 |some b=>
  simp only[a,jn,qy] at h;subst h
  have:(YP s).getD j undef=.int .u8 (b.toNat:Int):=by
   unfold YP;simp[a]
  rw[this];exact .int _ _
theorem qmH{k m:Nat}{xt:TypeId}{x:D}{v:Value}{xs:List D}(L:Sim X ok w ι H)(hx:Rep ok w ι H x v)(h:qfT P H k xt x=some (xs,m)):
  xs.length=m*k/\(∀d,d∈xs->jt d=true)/\(∃o,P.underlying xt=some o/\∀q,o≠.int q)/\
  (∀g:World,(Builtin.lenOf v).run P g=.ok m g)/\
  ∀n,n<=m->∃vs:List Value,vs.length=n*k/\(∀g:World,g.heap=w.heap->(Builtin.firstCells k n v).run P g=.ok vs.toArray g)/\
   ∀(j:Nat) d,j<n*k->xs[j]?=some d->Rep ok w ι H d (vs.getD j undef):=by
 unfold qfT at h;split at h
 .rename_i b p;split at h
  .rename_i B;subst B;injection h with h;injection h with t s;subst t;subst s;cases hx;refine⟨wV,?_,⟨_,p,fun q=>wE⟩,fun g=>by simp[Builtin.lenOf,ByteArray.size],fun n y=>⟨(YP b).take n,by simp[YP];omega,fun g _=>?_,fun j d l i=>?_⟩⟩
   .intro d i;simp only[qf,ZI] at i;obtain⟨_,_,rfl⟩:=i;rfl
   .have C:(⟨b.toArray⟩:ByteArray).extract 0 n=⟨(b.take n).toArray⟩:=by
     apply ByteArray.ext;simp
    simp[Builtin.firstCells,C,YP,List.map_take]
   .have h:=qkc (ok:=ok) (w:=w) (ι:=ι) (H:=H) b j d i;rw[jy] at h⊢;rw[Xs,if_pos wC];exact h
  .cases h
 .rename_i e p;obtain⟨t,s,A,c,rfl,M,K,f,u⟩:=qmR L hx h;refine⟨t,s,⟨_,p,fun q=>wE⟩,fun g=>by simp[Builtin.lenOf],fun n y=>?_⟩;have F:∀j,j<n*k->∃d,xs[j]?=some d:=fun j l=>⟨xs[j]'(by have:=qb0 k y;omega),qM _⟩;cases A with
  |none=>
   have J:m=0:=K rfl;subst J;have z:n=0:=wC;subst z;exact⟨[],wE,fun g _=>by simp[Builtin.firstCells],fun j d l _=>by simp at l⟩
  |some a=>
   refine⟨(List.range (n*k)).map f,wE,fun g I=>?_,fun j d l i=>?_⟩
   .have G:=run_loadCells (P:=P) g a (n*k) f (fun j l=>by
     obtain⟨d,i⟩:=F j l;obtain⟨N,r,hc,_⟩:=u j d i;injection r with r;subst r;rw[qlK I];exact hc)
    simp[Builtin.firstCells,G]
   .obtain⟨_,_,_,E⟩:=u j d i;rw[jy];simpa[l] using E
 .cases h
theorem qfO{t:TypeId}{z:D}(h:Xu P t=some z):∃v,(∀b:World,(zeroValue t).run P b=.ok v b)/\∀(ok:Nat->Prop)(w:World)(ι:qU)(H:qe),Rep ok w ι H z v:=by
 unfold Xu at h;cases hi:P.info? t with
 |none=>simp[hi] at h
 |some i=>
  cases a:i.zero with
  |none=>simp[hi,a] at h
  |some v=>
   simp only[hi,a,Y9] at h;exact⟨v,fun b=>by simp[zeroValue,typeInfo,hi,a],fun ok w ι H=>qoo h⟩
theorem q4u{z:List D}{n j:Nat}(h:j<n*z.length):((List.replicate n z).flatten)[j]?=z[j % z.length]?:=by
 induction n generalizing j with
 |zero=>omega
 |succ n c=>
  rw[qdT,qma];by_cases b:j<z.length
  .rw[vD b,qeJ b]
  .have a:z.length<=j:=wC;have d:j<n*z.length+z.length:=(by rw[<-Nat.succ_mul];exact h);rw[jl a,c wC];congr 1;rw[Nat.mod_eq_sub_mod a]
theorem qb1{t:TypeId}{n:Nat}{zs:List D}(h:VG P t n=some zs):∃v,(∀m:World,(zeroValue t).run P m=.ok v m)/\v.cells.size=qw P t/\0<qw P t/\zs.length=n*qw P t/\
  (∀d,d∈zs->jt d=true)/\(∀j,j<qw P t->(v.cells.getD j undef).oneCell'=true)/\
  ∀(ok:Nat->Prop)(w:World)(ι:qU)(H:qe)(j:Nat) d,zs[j]?=some d->Rep ok w ι H d (v.cells.getD (j % qw P t) undef):=by
 unfold VG at h;split at h
 .rename_i z a;split at h
  .rename_i e;obtain⟨e,r⟩:=e;injection h with h;subst h;cases k:Xu P t with
   |none=>simp[k] at a
   |some y=>
    simp only[k,Y9] at a;obtain⟨v,q,i⟩:=qfO k;obtain⟨x,f,_⟩:=qbw (i (fun _=>True) default jA []) a;refine⟨v,q,wC,r,by simp[e],?_,?_,?_⟩
    .intro d p;rw[List.mem_flatten] at p;obtain⟨l,u,o⟩:=p;rw[(List.mem_replicate.1 u).2] at o;exact f d o
    .intro j c;obtain⟨_,f,g⟩:=qbw (i (fun _=>True) default jA []) a;have b:z[j]?=some (z[j]' wC):=qM wC;exact(g j _ b).oneCell (f _ (mem_of_get? b))
    .intro ok w ι H j d c
     have s:j<n*z.length:=by
      have:=(List.getElem?_eq_some_iff.1 c).1;simpa using this
     rw[q4u s,e] at c;obtain⟨_,_,g⟩:=qbw (i ok w ι H) a;exact g _ d c
  .cases h
 .cases h
theorem qja{z:Array Value}{n j:Nat}(h:j<n*z.size):(Builtin.zeroCells z n)[j]?=some (z.getD (j % z.size) undef):=by
 unfold Builtin.zeroCells
 have c:0<z.size:=by
  rcases Nat.eq_zero_or_pos z.size with a|a
  .rw[a] at h;omega
  .exact a
 have b:=YA j c;rw[Array.getElem?_map,Array.getElem?_range];simp only[h,if_true,jn,qy];rw[j8,ZJ b];simp[b]
theorem qfj{ds:List D}{arr:Array Value}{e:TypeId}(i:Sim X ok w ι H)(a:World)(k:qa1 w a)(b:a.heap=w.heap)(h:ds.length<=arr.size)
  (g:∀j,j<arr.size->(arr.getD j undef).oneCell'=true) (hc:∀d,d∈ds->jt d=true) (f:∀(j:Nat) d,ds[j]?=some d->Rep ok w ι H d (arr.getD j undef)):
  ∃ι',Sim X ok (a.alloc (.cells arr e)) ι' (qr H ds)/\Evol H.length ok w ι H ok (a.alloc (.cells arr e)) ι' (qr H ds)/\ι' H.length=some (w.heap.size,arr.size):=by
 refine qm9 (fr:=(0,0)) (e:=e) i k (by simp[b]) (fun c l=>?_) ?_ (qA _) h (.inl rfl) g hc f
 .rw[<-b];exact heap_alloc_old a _ (by rw[b];exact l)
 .rw[<-b];exact heap_alloc_new a _
theorem qlw(w:World):qa1 w w.drew:=⟨rfl,rfl,rfl⟩
theorem qxY{st xt ty e:TypeId}{k:TypeDesc}{o l:Value}{base:Option Addr}{a b m:Nat}{d news:List Value}(t:P.underlying st=some (.slice e))(y:P.underlying xt=some k)
  (B:∀q,k≠.int q) (x:∀c:World,(zeroValue e).run P c=.ok o c) (r:0<qw P e) (j:∀c:World,(Builtin.lenOf l).run P c=.ok m c)
  (f:∀c:World,c.heap=w.heap->(Builtin.firstCells (qw P e) a (.slice base a b)).run P c=.ok d.toArray c)
  (u:∀c:World,c.heap=w.heap->(Builtin.firstCells (qw P e) m l).run P c=.ok news.toArray c)
  (F:b<a+m) (z:a+m<=qF) (p:(a+m)*bytesOf P e<=qF):
  (Builtin.append_ #[st,xt] ty #[.slice base a b,l]).run P w=
   .ok (.slice (some ⟨w.heap.size,0,none⟩) (a+m) (grownCap w (a+m) b e))
    (w.drew.alloc (.cells (d.toArray++news.toArray++Builtin.zeroCells o.cells (grownCap w (a+m) b e-(a+m))) e)):=by
 obtain⟨i,hi,E,s⟩:=qgw r;have A:¬(a+m<=b):=wC
 simp only[qF] at z p;have h:¬(9223372036854775807<((a:Int)+(m:Int))):=wC
 have C:=growslice_fits (need:=a+m) (old:=b) wC p;have g:¬(281474976710656<Builtin.nextslicecap (a+m) b*i.bytes):=by rw[s];omega
 have v:=u w.drew rfl;have n:=f w.drew rfl;simp[Builtin.append_,run_underlying t,run_underlying y,QC r,j,typeInfo,hi,A,h,g,Question.forced,x,v,n,newRow,grownCap];congr 2;apply Array.ext';simp
theorem qkP{e:TypeId}{a:Value}{old news:List Value}{xs:List D}{n:Nat}(k:a.cells.size=qw P e)(o:0<qw P e)(m:∀j,j<qw P e->(a.cells.getD j undef).oneCell'=true)
  (i:∀d,d∈xs->jt d=true) (l:(old++news).length=xs.length) (g:∀(j:Nat) d,xs[j]?=some d->Rep ok w ι H d ((old++news).getD j undef)):
  (∀j,j<(old.toArray++news.toArray++Builtin.zeroCells a.cells n).size->((old.toArray++news.toArray++Builtin.zeroCells a.cells n).getD j undef).oneCell'=true)/\
  ∀(j:Nat) d,xs[j]?=some d->Rep ok w ι H d ((old.toArray++news.toArray++Builtin.zeroCells a.cells n).getD j undef):=by
 have f:∀j,j<xs.length->(old.toArray++news.toArray++Builtin.zeroCells a.cells n).getD j undef=(old++news).getD j undef:=by
  intro j b;rw[j8,qgZ (by simp at l⊢;omega),jy];simp
 constructor
 .intro j b;by_cases c:j<xs.length
  .rw[f j c];have h:xs[j]?=some (xs[j]' wC):=qM wC;exact(g j _ h).oneCell (i _ (mem_of_get? h))
  .have p:(old++news).length=old.length+news.length:=zo;rw[j8,Array.getElem?_append_right wG];simp only[Array.size_append,List.size_toArray,size_zeroCells] at b⊢;rw[qja wC];exact m _ (by rw[<-k];exact YA _ wC)
 .intro j d b;rw[f j (List.getElem?_eq_some_iff.1 b).1];exact g j d b
theorem qwt{n:Int}(b:0<=n)(a:n<9223372036854775808):IntKind.i64.wrap n=n:=by
 simp only[IntKind.wrap,IntKind.signed,IntKind.bits];simp;omega
structure AppOk (P:Program) (ok:Nat->Prop) (w:World) (ι:qU) (H:qe) (st xt ty e:TypeId) (xv:Value) (xs:List D) (m:Nat) (vs:List Value):Prop where
 len:xs.length=m*qw P e
 cell:∀d,d∈xs->jt d=true
 vlen:vs.length=m*qw P e
 rep:∀(j:Nat) d,xs[j]?=some d->Rep ok w ι H d (vs.getD j undef)
 nil:m=0->(Builtin.append_ #[st,xt] ty #[.slice none 0 0,xv]).run P w=.ok (.slice none 0 0) w
 inp:∀(a:Addr)(sLen sCap:Nat)(w':World),sLen+m<=sCap->(storeCells (a.add (sLen*qw P e)) vs).run P w=.ok () w'->
  (Builtin.append_ #[st,xt] ty #[.slice (some a) sLen sCap,xv]).run P w=.ok (.slice (some a) (sLen+m) sCap) w'
 grow:∀(zv:Value)(base:Option Addr)(sLen sCap:Nat)(olds:List Value),(∀w1:World,(zeroValue e).run P w1=.ok zv w1)->
  (∀w1:World,w1.heap=w.heap->(Builtin.firstCells (qw P e) sLen (.slice base sLen sCap)).run P w1=.ok olds.toArray w1)->sCap<sLen+m->sLen+m<=qF->(sLen+m)*bytesOf P e<=qF->
  (Builtin.append_ #[st,xt] ty #[.slice base sLen sCap,xv]).run P w=
   .ok (.slice (some ⟨w.heap.size,0,none⟩) (sLen+m) (grownCap w (sLen+m) sCap e))
    (w.drew.alloc (.cells (olds.toArray++vs.toArray++Builtin.zeroCells zv.cells (grownCap w (sLen+m) sCap e-(sLen+m))) e))
theorem qjw{st xt ty e:TypeId}{x:D}{xv:Value}{xs z0:List D}{m:Nat}(r:P.underlying st=some (.slice e))(hz:VG P e 0=some z0)(hs:Sim X ok w ι H)(hx:Rep ok w ι H x xv)(h:qcL P H e xt x=some (xs,m)):
  ∃vs,AppOk P ok w ι H st xt ty e xv xs m vs:=by
 obtain⟨_,_,_,l,_⟩:=qb1 hz;obtain⟨A,B,i2,y⟩:=qgw l;unfold qcL at h;split at h
 .rename_i q n o;split at h
  .rename_i hc;obtain⟨n1,n2,n3⟩:=hc;cases Y:VG P e n.toNat with
   |none=>rw[Y] at h;cases h
   |some z=>
    rw[Y] at h;simp only[jn,qy,zi] at h;obtain⟨rfl,rfl⟩:=h;obtain⟨v,S,M,y3,y4,y5,y6,y7⟩:=qb1 Y;simp only[qF] at n2 n3;cases hx;have F:IntKind.i64.wrap n=n:=qwt n1 wC;have f:¬n<0:=wC
    have u:n*(bytesOf P e:Int)=((n.toNat*bytesOf P e:Nat):Int):=by
     rw[Int.natCast_mul,Int.toNat_of_nonneg n1]
    have O:¬(281474976710656<n*(bytesOf P e:Int)):=(by rw[u];omega);have Q:((Builtin.zeroCells v.cells n.toNat).toList).length=n.toNat*qw P e:=by rw[Array.length_toList,size_zeroCells,M]
    have Z:n.toNat*qw P e=0->(Builtin.zeroCells v.cells n.toNat)= #[]:=by
     intro g;apply Array.eq_empty_of_size_eq_zero;rw[size_zeroCells,M,g]
    have ae:∀W:World,(if n.toNat*qw P e=0 then(pure #[]:Sem (Array Value)) else do pure (Builtin.zeroCells (<-zeroValue e).cells n.toNat)).run P W=.ok (Builtin.zeroCells v.cells n.toNat) W:=by
     intro W;by_cases g:n.toNat*qw P e=0
     .rw[if_pos g,Z g];rfl
     .rw[if_neg g];simp[S]
    refine⟨(Builtin.zeroCells v.cells n.toNat).toList,y4,y5,Q,fun j d C=>?_,fun hm=>?_,fun a b c w' L k=>?_,fun T base b c I E i hg U J=>?_⟩
    .have zp:j<n.toNat*qw P e:=(by rw[<-y4];exact(List.getElem?_eq_some_iff.1 C).1);have:=y7 ok w ι H j d C;rw[jy,Array.getElem?_toList,qja (by rw[M];exact zp),M];exact this
    .have kM:n=0:=wC;subst kM;simp[Builtin.append_,run_underlying r,run_underlying o,QC l,typeInfo,B,y,asInt,asIntOf,F]
    .by_cases g:n.toNat*qw P e=0
     .rw[Z g] at k;simp[Builtin.append_,run_underlying r,run_underlying o,QC l,typeInfo,B,y,asInt,asIntOf,F,f,O,L,g];rw[show(storeCells (a.add (b*qw P e)) []).run P w=.ok () w' from by simpa using k];rfl
     .simp[Builtin.append_,run_underlying r,run_underlying o,QC l,typeInfo,B,y,asInt,asIntOf,F,f,O,L,g,S];rw[k];rfl
    .have V:T=v:=by
      have K:=E w;rw[S w] at K;injection K with K;exact K.symm
     subst V;have hn:¬(b+n.toNat<=c):=wC;simp only[qF] at U J;have t:¬(9223372036854775807<((b:Int)+max n 0)):=wC;have s:¬(281474976710656<n*(A.bytes:Int)):=(by rw[y];exact O);have ac:=growslice_fits (need:=b+n.toNat) (old:=c) wC J;have p:¬(281474976710656<Builtin.nextslicecap (b+n.toNat) c*A.bytes):=(by rw[y];omega);have G:=i w.drew rfl;by_cases g:n.toNat*qw P e=0
     .simp[Builtin.append_,run_underlying r,run_underlying o,QC l,typeInfo,B,asInt,asIntOf,F,f,hn,s,t,p,Question.forced,E,G,newRow,grownCap,Z g]
     .simp[Builtin.append_,run_underlying r,run_underlying o,QC l,typeInfo,B,asInt,asIntOf,F,f,g,hn,s,t,p,Question.forced,E,G,newRow,grownCap]
  .cases h
 .obtain⟨c1,c2,⟨ag,o,aa⟩,N,c4⟩:=qmH (P:=P) hs hx h;obtain⟨vs,v1,R,v3⟩:=c4 m (qA _);refine⟨vs,c1,c2,v1,fun j d C=>v3 j d (by have:=(List.getElem?_eq_some_iff.1 C).1;omega) C,fun hm=>?_,fun a b c w' L k=>?_,fun v base b c I E i hg U J=>qxY r o aa E l N i R hg U J⟩
  .subst hm;simp[Builtin.append_,run_underlying r,run_underlying o,QC l,N,R w rfl]
  .simp[Builtin.append_,run_underlying r,run_underlying o,QC l,N,L,R w rfl,k]
theorem q6E{st xt ty:TypeId}{s x d:D}{sv xv:Value}(B:Sim X ok w ι H)(N:Rep ok w ι H s sv)(hx:Rep ok w ι H x xv)(h:qJ P H st xt s x=some (d,H')):
  ∃v w',(Builtin.append_ #[st,xt] ty #[sv,xv]).run P w=.ok v w'/\Post X H.length ok w ι H d H' v w':=by
 unfold qJ at h;split at h
 .rename_i e hu;split at h
  .rename_i xs m _ X9 R;obtain⟨vs,p⟩:=qjw (P:=P) (ty:=ty) hu R B hx X9;have c1:=p.len;have J:=p.cell;have v1:=p.vlen;have F:=p.rep;obtain⟨E,z1,K,G,_,_,z6,_⟩:=qb1 R;obtain⟨ae,i1,i2,i3⟩:=qgw G;cases N;split at h
   .rename_i Y;injection h with h;injection h with V O;subst V;subst O;exact⟨.slice none 0 0,w,p.nil Y,Post.same B .vnil⟩
   .rename_i Y;split at h
    .rename_i o;obtain⟨S,b2⟩:=o;injection h with h;injection h with V O;subst V;subst O;obtain⟨Z,g2⟩:=qkP (old:=[]) (news:=vs) (n:=grownCap w (0+m) 0 e-(0+m)) K G z6 J wG (fun j d g=>F j d g);obtain⟨ι',n1,n2,n3⟩:=qfj (e:=e) (ds:=xs) B w.drew (qlw w) rfl wG Z J g2;refine⟨_,_,p.grow E none 0 0 [] z1 (fun y _=>by simp[Builtin.firstCells]) wC wC (by rw[J3];exact S),ι',ok,n1,?_,n2⟩;have I:=grownCap_ge w (0+m) 0 e;rw[J3] at I⊢;refine .osl _ wW (fun ds r=>?_) I;rw[zF] at r;injection r with r;subst r;refine⟨qA _,fun _=>⟨_,_,n3,rfl,?_⟩⟩;simp only[Array.size_append,List.size_toArray,size_zeroCells,K,v1,kt,J3,<-ZH];rw[show m+(grownCap w m 0 e-m)=grownCap w m 0 e from wC];exact qA _
    .cases h
  .rename_i xs m _ i sm f k X9 R;split at h
   .rename_i ds r;split at h
    .rename_i o;obtain⟨S,b2,b3,b4,b5⟩:=o;injection h with h;injection h with V O;subst V;subst O;obtain⟨vs,p⟩:=qjw (P:=P) (ty:=ty) hu R B hx X9;have c1:=p.len;have J:=p.cell;have v1:=p.vlen;have F:=p.rep;obtain⟨E,z1,K,G,_,_,z6,_⟩:=qb1 R;subst b2;cases N with
     | @osl _ _ _ _ _ _ _ c a hi hh zt=>
      obtain⟨b,s,M,rfl,q3⟩:=(hh ds r).2 S;obtain⟨b',arr,e2,fr,u,k2,k3,k4,k5,k6,k7,k8⟩:=B.blk i ds r;rw[M] at u;injection u with u;injection u with u aa;subst u;have A:ds.length=f*qw P e:=wC
      have t:∀d,d∈ds++xs->jt d=true:=by
       intro d r;rcases List.mem_append.1 r with h|h
       .exact k7 d h
       .exact J d h
      by_cases T:f+m<=c
      ·-- in place
       have C:(f+m)*qw P e<=c*qw P e:=qb0 _ T;rw[ZH] at C
       have QK:∀v,v∈vs->v.oneCell'=true:=by
        intro v hv;obtain⟨j,g⟩:=List.mem_iff_getElem?.1 hv;have zp:j<vs.length:=(List.getElem?_eq_some_iff.1 g).1;have KU:xs[j]?=some (xs[j]' wC):=qM wC;have h:=F j _ KU;rw[jy,g] at h;exact h.oneCell (J _ (mem_of_get? KU))
       obtain⟨w',arr',r1,r2,r3,r4,r5,r6,r7⟩:=qhi (P:=P) b (f*qw P e) e2 fr vs 0 arr w k3 wC QK (qih k5)
       have qd:∀j,j<arr.size->arr'.getD j undef=if f*qw P e<=j/\j<f*qw P e+m*qw P e then vs.getD (j-f*qw P e) undef else arr.getD j undef:=by
        intro j g;simp only[j8,r7 j,jy,Nat.add_zero,v1];split<;>rfl
       obtain⟨ι',L,U,Q⟩:=qfR (i:=i) (ds:=ds) (ds':=ds++xs) (b:=b) (sz:=s) (b':=b) (arr':=arr') (e:=e2) (fr:=fr) (w':=w') B r M r2 wC (fun c _ hc=>r4 c hc) r5 (.inl ⟨rfl,wC⟩)
        wE wG (by rw[r6];exact k5)
        (by
         intro j g;rw[r6] at g;rw[qd j g];by_cases hr:f*qw P e<=j/\j<f*qw P e+m*qw P e
         .rw[if_pos hr];have:j-f*qw P e<vs.length:=wC;rw[jy,qM this];exact QK _ (vC this)
         .rw[if_neg hr];exact k6 j g)
        t
        (by
         intro j d g
         have zp:j<ds.length+xs.length:=by
          have:=(List.getElem?_eq_some_iff.1 g).1;simpa using this
         rw[qd j wC];by_cases W:j<ds.length
         .rw[if_neg wC];rw[vD W] at g;exact k8 j d g
         .rw[if_pos wC];rw[jl wC] at g;rw[<-A];exact F _ d g)
       refine⟨.slice (some ⟨b,0,none⟩) (f+m) c,w',?_,ι',ok,L,?_,U⟩
       .exact p.inp _ _ _ _ T (by simpa[Vl] using r1)
       .refine .osl _ (by rw[kL];exact hi) (fun ds' q=>?_) T;rw[zj hi] at q;injection q with q;subst q;refine⟨by simp[S],fun _=>⟨b,arr'.size,Q,rfl,wC⟩⟩
      ·-- a new block
       have z:∀y:World,y.heap=w.heap->(Builtin.firstCells (qw P e) f (.slice (some ⟨b,0,none⟩) f c)).run P y=.ok ((List.range (f*qw P e)).map fun j=>arr.getD j undef).toArray y:=by
        intro y jM
        have hl:=run_loadCells (P:=P) y ⟨b,0,none⟩ (f*qw P e) (fun j=>arr.getD j undef) (fun j g=>by
         rw[Vl,qlK jM,Y6 k3];have:j<arr.size:=wC;simp[this])
        simp only[Builtin.firstCells];exact hl
       obtain⟨Z,g2⟩:=qkP (xs:=ds++xs) (old:=(List.range (f*qw P e)).map fun j=>arr.getD j undef) (news:=vs) (n:=grownCap w (f+m) c e-(f+m)) K G z6 t wG
        (fun j d g=>by
         have zp:j<ds.length+xs.length:=by
          have:=(List.getElem?_eq_some_iff.1 g).1;simpa using this
         rw[jy];by_cases W:j<ds.length
         .rw[vD W] at g;rw[vD wG];have:=k8 j d g;simpa[show j<f*qw P e from wC] using this
         .rw[jl wC] at g;rw[jl wG];have:=F _ d g;rw[jy] at this;simpa[A] using this)
       have l:(((List.range (f*qw P e)).map fun j=>arr.getD j undef).toArray++vs.toArray++Builtin.zeroCells E.cells (grownCap w (f+m) c e-(f+m))).size=grownCap w (f+m) c e*qw P e:=by
        have I:=grownCap_ge w (f+m) c e;simp only[Array.size_append,List.size_toArray,size_zeroCells,K,v1,List.length_map,List.length_range,<-ZH];rw[show f+m+(grownCap w (f+m) c e-(f+m))=grownCap w (f+m) c e from wC]
       have Y:0<m:=wC;have ac:0<m*qw P e:=Nat.mul_pos Y G
       obtain⟨ι',L,U,Q⟩:=qfR (i:=i) (ds:=ds) (ds':=ds++xs) (b:=b) (sz:=s) (b':=w.heap.size) (w':=w.drew.alloc (.cells (((List.range (f*qw P e)).map fun j=>arr.getD j undef).toArray++vs.toArray++Builtin.zeroCells E.cells (grownCap w (f+m) c e-(f+m))) e))
        (e:=e) (fr:=(0,0)) B r M (qlw w) wE (fun c hc _=>heap_alloc_old w.drew _ hc) (heap_alloc_new w.drew _) (.inr ⟨qA _,wG⟩) wE
        (by
         rw[l];have I:=qb0 (qw P e) (grownCap_ge w (f+m) c e);rw[ZH] at I;simp;omega) (.inl rfl) Z t g2
       refine⟨_,_,p.grow E _ _ _ _ z1 z wC b5 b4,ι',ok,L,?_,U⟩;refine .osl _ (by rw[kL];exact hi) (fun ds' q=>?_) (grownCap_ge w (f+m) c e);rw[zj hi] at q;injection q with q;subst q;refine⟨by simp[S],fun _=>⟨_,_,Q,rfl,by rw[l];omega⟩⟩
    .split at h
     .rename_i o;obtain⟨S,b2,b3,b4,b5⟩:=o;injection h with h;injection h with V O;subst V;subst O;obtain⟨vs,p⟩:=qjw (P:=P) (ty:=ty) hu R B hx X9;have c1:=p.len;have J:=p.cell;have v1:=p.vlen;have F:=p.rep;obtain⟨E,z1,K,G,_,_,z6,_⟩:=qb1 R;subst b2;cases N with
      | @osl _ _ _ _ _ _ _ c a hi hh zt=>
       obtain⟨b,s,M,rfl,q3⟩:=(hh ds r).2 S;obtain⟨b',arr,e2,fr,u,k2,k3,k4,k5,k6,k7,k8⟩:=B.blk i ds r;rw[M] at u;injection u with u;injection u with u aa;subst u;have A:(ds.take (f*qw P e)).length=f*qw P e:=wG
       have t:∀d,d∈ds.take (f*qw P e)++xs->jt d=true:=by
        intro d r;rcases List.mem_append.1 r with h|h
        .exact k7 d (QX h)
        .exact J d h
       by_cases T:f+m<=c
       ·-- in place
        have C:(f+m)*qw P e<=c*qw P e:=qb0 _ T;rw[ZH] at C
        have QK:∀v,v∈vs->v.oneCell'=true:=by
         intro v hv;obtain⟨j,g⟩:=List.mem_iff_getElem?.1 hv;have zp:j<vs.length:=(List.getElem?_eq_some_iff.1 g).1;have KU:xs[j]?=some (xs[j]' wC):=qM wC;have h:=F j _ KU;rw[jy,g] at h;exact h.oneCell (J _ (mem_of_get? KU))
        obtain⟨w',arr',r1,r2,r3,r4,r5,r6,r7⟩:=qhi (P:=P) b (f*qw P e) e2 fr vs 0 arr w k3 wC QK (qih k5)
        have qd:∀j,j<arr.size->arr'.getD j undef=if f*qw P e<=j/\j<f*qw P e+m*qw P e then vs.getD (j-f*qw P e) undef else arr.getD j undef:=by
         intro j g;simp only[j8,r7 j,jy,Nat.add_zero,v1];split<;>rfl
        obtain⟨ι',L,U,Q⟩:=qmA (i:=i) (ds:=ds) (ds':=ds.take (f*qw P e)++xs) (b:=b) (sz:=s) (b':=b) (arr':=arr') (e:=e2) (fr:=fr) (w':=w') B r M r2 wC (fun c _ hc=>r4 c hc) r5 (.inl rfl)
         (by rw[zo,A];omega) (by rw[r6];exact k5)
         (by
          intro j g;rw[r6] at g;rw[qd j g];by_cases hr:f*qw P e<=j/\j<f*qw P e+m*qw P e
          .rw[if_pos hr];have:j-f*qw P e<vs.length:=wC;rw[jy,qM this];exact QK _ (vC this)
          .rw[if_neg hr];exact k6 j g)
         t
         (by
          intro j d g
          have zp:j<f*qw P e+xs.length:=by
           have:=(List.getElem?_eq_some_iff.1 g).1;rw[zo,A] at this;exact this
          rw[qd j wC];by_cases W:j<f*qw P e
          .rw[if_neg wC];rw[vD wC,List.getElem?_take_of_lt W] at g;exact k8 j d g
          .rw[if_pos wC];rw[jl wC] at g;rw[<-A];exact F _ d g)
        refine⟨.slice (some ⟨b,0,none⟩) (f+m) c,w',?_,ι',ok,L,?_,U⟩
        .exact p.inp _ _ _ _ T (by simpa[Vl] using r1)
        .refine .osl _ (by rw[jb,qaM];omega) (fun ds' q=>?_) T;rw[<-qaM (H:=H) (i:=i),zF] at q;injection q with q;subst q;refine⟨by rw[zo,A];exact qA _,fun _=>⟨b,arr'.size,Q,rfl,wC⟩⟩
       ·-- a new block
        have z:∀y:World,y.heap=w.heap->(Builtin.firstCells (qw P e) f (.slice (some ⟨b,0,none⟩) f c)).run P y=.ok ((List.range (f*qw P e)).map fun j=>arr.getD j undef).toArray y:=by
         intro y jM
         have hl:=run_loadCells (P:=P) y ⟨b,0,none⟩ (f*qw P e) (fun j=>arr.getD j undef) (fun j g=>by
          rw[Vl,qlK jM,Y6 k3];have:j<arr.size:=wC;simp[this])
         simp only[Builtin.firstCells];exact hl
        obtain⟨Z,g2⟩:=qkP (xs:=ds.take (f*qw P e)++xs) (old:=(List.range (f*qw P e)).map fun j=>arr.getD j undef) (news:=vs) (n:=grownCap w (f+m) c e-(f+m)) K G z6 t wG
         (fun j d g=>by
          have zp:j<f*qw P e+xs.length:=by
           have:=(List.getElem?_eq_some_iff.1 g).1;rw[zo,A] at this;exact this
          rw[jy];by_cases W:j<f*qw P e
          .rw[vD wC,List.getElem?_take_of_lt W] at g;rw[vD wG];have:=k8 j d g;simpa[show j<f*qw P e from wC] using this
          .rw[jl wC] at g;rw[jl wG];have:=F _ d g;rw[jy] at this;simpa[A] using this)
        have l:(((List.range (f*qw P e)).map fun j=>arr.getD j undef).toArray++vs.toArray++Builtin.zeroCells E.cells (grownCap w (f+m) c e-(f+m))).size=grownCap w (f+m) c e*qw P e:=by
         have I:=grownCap_ge w (f+m) c e;simp only[Array.size_append,List.size_toArray,size_zeroCells,K,v1,List.length_map,List.length_range,<-ZH];rw[show f+m+(grownCap w (f+m) c e-(f+m))=grownCap w (f+m) c e from wC]
        have Y:0<m:=wC;have ac:0<m*qw P e:=Nat.mul_pos Y G
        obtain⟨ι',L,U,Q⟩:=qmA (i:=i) (ds:=ds) (ds':=ds.take (f*qw P e)++xs) (b:=b) (sz:=s) (b':=w.heap.size) (w':=w.drew.alloc (.cells (((List.range (f*qw P e)).map fun j=>arr.getD j undef).toArray++vs.toArray++Builtin.zeroCells E.cells (grownCap w (f+m) c e-(f+m))) e))
         (e:=e) (fr:=(0,0)) B r M (qlw w) wE (fun c hc _=>heap_alloc_old w.drew _ hc) (heap_alloc_new w.drew _) (.inr (qA _))
         (by
          rw[l];have I:=qb0 (qw P e) (grownCap_ge w (f+m) c e);rw[ZH] at I;rw[zo,A];omega) (.inl rfl) Z t g2
        refine⟨_,_,p.grow E _ _ _ _ z1 z wC b5 b4,ι',ok,L,?_,U⟩;refine .osl _ (by rw[jb,qaM];omega) (fun ds' q=>?_) (grownCap_ge w (f+m) c e);rw[<-qaM (H:=H) (i:=i),zF] at q;injection q with q;subst q;refine⟨by rw[zo,A];exact qA _,fun _=>⟨_,_,Q,rfl,by rw[l];omega⟩⟩
     .cases h
   .cases h
  .cases h
 .cases h
end
end Go.Ev
namespace Go.Ev
section
variable {X:Cx} {P:Program} {ok:Nat->Prop} {w w':World} {ι:qU} {H H':qe}
theorem qhm{n:Nat}{l:Int}{k:IntKind}{c:BoundsCode}(h:0<=l/\l<=n)(w:World):(Instr.sliceBound (.int k l) n c).run P w=.ok l.toNat w:=by
 simp[Instr.sliceBound,asIntOf,h]
theorem qf9{isSlice:Bool}{n c l h:Nat}{j hi:Option D}{lov hiv:Option Value}(p:∀d,j=some d->∃v,lov=some v/\Rep ok w ι H d v)(q:j=none->lov=none)
  (r:∀d,hi=some d->∃v,hiv=some v/\Rep ok w ι H d v) (i:hi=none->hiv=none) (s:n<=c) (b:qdM n j hi=some (l,h)) (w:World):
  l<=h/\h<=n/\(Instr.sliceBounds isSlice n c lov hiv none).run P w=.ok (l,h,c) w:=by
 unfold qdM at b;split at b
 .injection b with b;injection b with f e;subst f;subst e;rw[q rfl,i rfl];exact⟨vp _,qA _,by simp[Instr.sliceBounds]⟩
 .rename_i k a;split at b
  .rename_i hc;injection b with b;injection b with f e;subst f;subst e;obtain⟨v,rfl,g⟩:=p _ rfl;cases g;rw[i rfl];exact⟨wC,qA _,by simp[Instr.sliceBounds,qhm hc]⟩
  .cases b
 .rename_i k a;split at b
  .rename_i hc;injection b with b;injection b with f e;subst f;subst e;obtain⟨v,rfl,g⟩:=r _ rfl;cases g;rw[q rfl];refine⟨vp _,wC,?_⟩;simp[Instr.sliceBounds,qhm (show 0<=a/\a<=(c:Int) from⟨hc.1,wC⟩)]
  .cases b
 .rename_i k a k' o;split at b
  .rename_i hc;injection b with b;injection b with f e;subst f;subst e;obtain⟨v,rfl,g⟩:=p _ rfl;obtain⟨t,rfl,m⟩:=r _ rfl;cases g;cases m;refine⟨wC,wC,?_⟩;simp[Instr.sliceBounds,qhm (show 0<=o/\o<=(c:Int) from⟨hc.1,wC⟩),qhm (show 0<=a/\a<=(o.toNat:Int) from⟨hc.2.2.1,wC⟩)]
  .cases b
 .cases b
theorem qhn{t:TypeId}{x d:D}{xv:Value}{T hi:Option D}{lov hiv:Option Value}(hs:Sim X ok w ι H)(hx:Rep ok w ι H x xv)(B:∀d,T=some d->∃v,lov=some v/\Rep ok w ι H d v)(A:T=none->lov=none)
  (C:∀d,hi=some d->∃v,hiv=some v/\Rep ok w ι H d v) (q:hi=none->hiv=none) (h:qa8 P t x T hi=some d):
  ∃v,(Instr.sliceAt t xv lov hiv none).run P w=.ok v w/\Rep ok w ι H d v:=by
 unfold qa8 at h;split at h
 ·-- a text
  rename_i s u;split at h
  .rename_i l m y;injection h with h;subst h;cases hx;obtain⟨J,I,r⟩:=qf9 (P:=P) (isSlice:=false) (c:=s.length) B A C q (qA _) y w;refine⟨.string ⟨((s.drop l).take (m-l)).toArray⟩,?_,.str _⟩;have jm:(⟨s.toArray⟩:ByteArray).size=s.length:=by simp[ByteArray.size]
   have G:(⟨s.toArray⟩:ByteArray).extract l m=⟨((s.drop l).take (m-l)).toArray⟩:=by
    apply ByteArray.ext;simp[List.extract_eq_take_drop]
   simp[Instr.sliceAt,run_underlying u,Instr.slice,jm,r,G]
  .cases h
 ·-- a slice of others
  rename_i e nil cs R u;split at h
  .rename_i l m y;split at h
   .rename_i hc;obtain⟨aa,z⟩:=hc;injection h with h;subst h;cases hx with
    |vnil=>
     obtain⟨J,I,r⟩:=qf9 (P:=P) (isSlice:=true) (c:=0) B A C q (qA _) y w;have Q:m=0:=wC;have p:l=0:=wC;subst Q;subst p;refine⟨.slice none 0 0,?_,by simpa using Rep.vnil⟩;simp[Instr.sliceAt,run_underlying u,Instr.slice,r,QC z]
    | @vsl _ _ _ _ c a f Z S O i N=>
     obtain⟨J,I,r⟩:=qf9 (P:=P) (isSlice:=true) (c:=c) B A C q N y w;refine⟨.slice (some (if c=l then a else a.add (l*qw P e))) (m-l) (c-l),?_,?_⟩
     .simp only[Instr.sliceAt,Sem.run_bind,run_underlying u,Result.andThen_ok,Instr.slice,r,QC z,Sem.run_pure];split<;>rfl
     .refine .vsl _ (fun j=>f (l*qw P e+j)) (fun d o=>by have:=Z d (Zz (QX o));split<;>simp[qeG,this]) (fun d o=>S d (Zz (QX o))) (fun j d g=>?_) (fun j d g=>?_) wC
      .rw[Xs] at g;split at g
       .rename_i U;rw[Qa] at g
        have F:c≠l:=by
         rintro rfl;have:m-c=0:=wC;rw[this] at U;omega
        rw[if_neg F,qiN];exact O _ d g
       .cases g
      .rw[Xs] at g;split at g
       .rw[Qa] at g;exact i _ d g
       .cases g
   .cases h
  .cases h
 ·-- a slice of the run's own
  rename_i e id st off R k u;split at h
  .rename_i l m y;split at h
   .rename_i hc;obtain⟨rfl,z,p⟩:=hc;injection h with h;subst h;cases hx with
    | @osl _ _ _ _ _ _ _ c a W i N=>
     obtain⟨J,I,r⟩:=qf9 (P:=P) (isSlice:=true) (c:=c) B A C q N y w;refine⟨.slice (some (if c=l then a else a.add (l*qw P e))) (m-l) (c-l),?_,?_⟩
     .simp only[Instr.sliceAt,Sem.run_bind,run_underlying u,Result.andThen_ok,Instr.slice,r,QC z,Sem.run_pure];split<;>rfl
     .refine .osl _ W (fun ds o=>⟨(i ds o).1,fun G=>?_⟩) wC;obtain⟨b,s,M,rfl,q3⟩:=(i ds o).2 G;have V:l<=c:=wC;have L:l*qw P e+(c-l)*qw P e=c*qw P e:=(by rw[<-ZH];congr 1;omega);refine⟨b,s,M,?_,wC⟩;split
      .rename_i F;rcases p with E|E
       .subst E;simp
       .omega
      .rw[Vl]
   .cases h
  .cases h
 ·-- an array of others
  rename_i n e cs u;split at h
  .rename_i l m y;split at h
   .rename_i hc;obtain⟨Y,z,p⟩:=hc;injection h with h;subst h;cases hx with
    |vptr a f Z S O i=>
     obtain⟨J,I,r⟩:=qf9 (P:=P) (isSlice:=false) (c:=n) B A C q (qA _) y w;refine⟨.slice (some (if n=l then a else a.add (l*qw P e))) (m-l) (n-l),?_,?_⟩
     .simp only[Instr.sliceAt,Sem.run_bind,run_underlying u,Result.andThen_ok,Instr.sureAddr,r,QC z,Sem.run_pure]
     .refine .vsl _ (fun j=>f (l*qw P e+j)) (fun d o=>by have:=Z d (Zz (QX o));split<;>simp[qeG,this]) (fun d o=>S d (Zz (QX o))) (fun j d g=>?_) (fun j d g=>?_) wC
      .rw[Xs] at g;split at g
       .rename_i U;rw[Qa] at g
        have F:n≠l:=by
         rintro rfl;have:m-n=0:=wC;rw[this] at U;omega
        rw[if_neg F,qiN];exact O _ d g
       .cases g
      .rw[Xs] at g;split at g
       .rw[Qa] at g;exact i _ d g
       .cases g
   .cases h
  .cases h
 ·-- an array of the run's own
  rename_i n e id st off u;split at h
  .rename_i l m y;split at h
   .rename_i hc;obtain⟨p,Y,z⟩:=hc;injection h with h;subst h;cases hx with
    |optr a W i=>
     obtain⟨J,I,r⟩:=qf9 (P:=P) (isSlice:=false) (c:=n) B A C q (qA _) y w;refine⟨.slice (some (if n=l then a else a.add (l*qw P e))) (m-l) (n-l),?_,?_⟩
     .simp only[Instr.sliceAt,Sem.run_bind,run_underlying u,Result.andThen_ok,Instr.sureAddr,r,QC z,Sem.run_pure]
     .refine .osl _ W (fun ds o=>⟨(i ds o).1,fun G=>?_⟩) wC;obtain⟨b,s,M,rfl⟩:=(i ds o).2 G;have V:l<=n:=wC;have L:l*qw P e+(n-l)*qw P e=n*qw P e:=(by rw[<-ZH];congr 1;omega);obtain⟨b',arr,e',fr,K,k2,k3,k4,_⟩:=hs.blk id ds o;rw[M] at K;injection K with K;injection K with K ac;refine⟨b,s,M,?_,wC⟩;split
      .rename_i F;rcases p with E|E
       .subst E;simp
       .omega
      .rw[Vl]
   .cases h
  .cases h
 .cases h
theorem q5r{r xt ty:TypeId}{x y d:D}{dv q:Value}(u:Sim X ok w ι H)(n:Rep ok w ι H y dv)(hx:Rep ok w ι H x q)(h:qcv P H r xt y x=some (d,H')):
  ∃v w',(Builtin.copy_ #[r,xt] ty #[dv,q]).run P w=.ok v w'/\Post X H.length ok w ι H d H' v w':=by
 unfold qcv at h;split at h
 .rename_i e F;split at h
  .rename_i xs m i Y off c k B;split at h
   .rename_i ds l;split at h
    .rename_i f;obtain⟨p,rfl,M,A⟩:=f;injection h with h;injection h with S L;subst S;subst L;obtain⟨c1,K,⟨W,JH,V⟩,E,C⟩:=qmH (P:=P) u hx B;obtain⟨vs,v1,J,Q⟩:=C (min m c) (Nat.min_le_left _ _);cases n with
     |osl a hi O Z=>
      obtain⟨b,s,G,rfl,q3⟩:=(O ds l).2 p;have o:min m c*qw P e<=c*qw P e:=qb0 _ (Nat.min_le_right _ _);have R:min m c*qw P e<=m*qw P e:=qb0 _ (Nat.min_le_left _ _);have z:(xs.take (min m c*qw P e)).length=min m c*qw P e:=wG
      obtain⟨w',ι',T,U,I⟩:=qjc (P:=P) (vs:=vs) (xs:=xs.take (min m c*qw P e)) u l p G rfl (by rw[z];exact zJ (Nat.add_le_add_left o off) (by rw[p];exact A)) (by rw[z,v1]) (fun d l=>K d (QX l))
       (fun j d g=>by
        rw[Xs] at g;split at g
        .rename_i N;exact Q j d N g
        .cases g)
      refine⟨.int .i64 (min m c:Nat),w',?_,ι',ok,U,.int _ _,I⟩;have t:=J w rfl;rw[show min m c=Nat.min m c from rfl] at t;simp[Builtin.copy_,run_underlying F,E,QC M,t,goInt];rw[T];rfl
    .cases h
   .cases h
  .cases h
 .cases h
theorem q5T{t ty:TypeId}{x d:D}{q:Value}{ts:Array TypeId}{us:Array Value}(N:ts[0]?=some t)(m:us[0]?=some q)(Q:Sim X ok w ι H)(hx:Rep ok w ι H x q)(h:qiA P H t x=some (d,H')):
  ∃v w',(Builtin.clear_ ts ty us).run P w=.ok v w'/\Post X H.length ok w ι H d H' v w':=by
 unfold qiA at h;split at h
 .rename_i e i T off c k B;split at h
  .rename_i z ds K y;split at h
   .rename_i f;obtain⟨o,rfl,A,Z⟩:=f;injection h with h;injection h with O J;subst O;subst J;obtain⟨r,I,p,U,g,G,V,E⟩:=qb1 K;cases hx with
    |osl a hi M W=>
     obtain⟨b,s,C,rfl,Y⟩:=(M ds y).2 o;have l:((Builtin.zeroCells r.cells c).toList).length=c*qw P e:=by rw[Array.length_toList,size_zeroCells,p]
     obtain⟨w',ι',R,S,F⟩:=qjc (P:=P) (vs:=(Builtin.zeroCells r.cells c).toList) (xs:=z) Q y o C rfl (by rw[g,o];exact A) (by rw[l,g]) G (fun j d u=>by
      have L:j<c*qw P e:=(by rw[<-g];exact(List.getElem?_eq_some_iff.1 u).1);have:=E ok w ι H j d u;rw[jy,Array.getElem?_toList,qja (by rw[p];exact L),p];exact this)
     refine⟨.tuple #[],w',?_,ι',ok,S,.tup rfl wE,F⟩;obtain⟨n,rfl⟩:∃n,c=n+1:=⟨c-1,wC⟩;simp[Builtin.clear_,N,m,run_underlying B,I];rw[R];rfl
   .cases h
  .cases h
 .cases h
theorem q0Y{t ty:TypeId}{x d:D}{v:Value}{ts:Array TypeId}{vs:Array Value}(c:ts[0]?=some t)(b:vs[0]?=some v)(hx:Rep ok w ι H x v)(h:qO P t x=some d):
  ∃r,(Builtin.len_ ts ty vs).run P w=.ok r w/\Rep ok w ι H d r:=by
 unfold qO at h;split at h<;>first|(cases h;done)|injection h with h
 .rename_i s a;subst h;cases hx;have f:(⟨s.toArray⟩:ByteArray).size=s.length:=by simp[ByteArray.size]
  exact⟨.int .i64 s.length,by simp[Builtin.len_,c,b,run_underlying a,goInt,f],.int _ _⟩
 .rename_i n e a;subst h;exact⟨_,yO,.int _ _⟩
 .rename_i a;subst h;cases hx<;>exact⟨_,yO,.int _ _⟩
 .rename_i a;subst h;cases hx<;>exact⟨_,yO,.int _ _⟩
end
end Go.Ev
namespace Go.Ev
section
variable {X:Cx} {P:Program} {ok:Nat->Prop} {w w':World} {ι:qU} {H H':qe}
theorem qv9:∀{cs:List D}{s:List UInt8},VB cs=some s->∃a:List Int,cs=a.map (D.int .u8)/\s=a.map fun n=>UInt8.ofNat n.toNat
 |[],s,h=>by
  simp only[VB,qy] at h;exact⟨[],rfl,h.symm⟩
 | .int .u8 n::l,s,h=>by
  simp only[VB] at h;cases b:VB l with
  |none=>simp[b] at h
  |some r=>
   simp only[b,jn,qy] at h;obtain⟨a,d,c⟩:=qv9 b;exact⟨n::a,xR,by simp[<-h,c]⟩
 | .int .i8 _::_,_,h| .int .i16 _::_,_,h| .int .i32 _::_,_,h| .int .i64 _::_,_,h| .int .u16 _::_,_,h| .int .u32 _::_,_,h| .int .u64 _::_,_,h
 | .bool _::_,_,h| .str _::_,_,h| .nilp::_,_,h| .nilf::_,_,h| .nili::_,_,h| .raw _::_,_,h| .agg _::_,_,h| .tup _::_,_,h| .vptr _::_,_,h| .optr _ _ _::_,_,h| .vsl _ _ _::_,_,h
 | .osl _ _ _ _ _::_,_,h| .fn _ _::_,_,h| .iface _ _::_,_,h=>by simp[VB] at h
theorem q0M{i:Nat}{ds:List D}{b o:Nat}{arr:Array Value}{e:TypeId}{fr:Nat×Nat}(s:Sim X ok w ι H)(g:qd H i=some ds)(r:ι i=some (b,arr.size))(l:w.heap[b]?=some (.cells arr e fr)):
  ∃w' ι',(markStringish ⟨b,o,none⟩).run P w=.ok () w'/\Sim X ok w' ι' H/\Evol H.length ok w ι H ok w' ι' H:=by
 obtain⟨I,v,M,y,d,J,k,E,G,z,B,x⟩:=s.blk i ds g;rw[r] at d;injection d with d;injection d with d F;subst d;rw[l] at k;injection k with k;injection k with n p q;subst n;subst p;subst q;have K:b<w.heap.size:=(Array.getElem?_eq_some_iff.1 l).1
 have qn:qn H i ds=H:=by
  unfold qn;have hi:=qx g;rw[qd,qM hi,Vm] at g;rw[<-g,List.set_getElem_self]
 obtain⟨a,f,m⟩:∃a:Nat×Nat,(a.1=a.2\/arr.size<=a.1)/\(w.freeze ⟨b,arr.size,none⟩ 1).heap[b]?=some (.cells arr e a):=by
  obtain⟨j,hi⟩:=fr;refine⟨if j==hi then(arr.size,arr.size+1) else(min j arr.size,max hi (arr.size+1)),?_,?_⟩
  .simp only at G;by_cases h:j=hi
   .simp[h]
   .have:arr.size<=j:=wC;simp[h];omega
  .unfold World.freeze;simp only[Nat.one_ne_zero,if_false];rw[qmd];simp[l]
 obtain⟨ι',t,u,L⟩:=qfR (w':=w.freeze ⟨b,arr.size,none⟩ 1) (ds':=ds) s g r ⟨yS,yS,yS⟩ (by unfold World.freeze;split<;>simp)
  (fun c _ hc=>by
   unfold World.freeze;simp only[Nat.one_ne_zero,if_false];rw[qmd];simp[Ne.symm hc]) m (.inl ⟨rfl,rfl⟩) (qA _) E f z B x
 rw[qn] at t u;refine⟨_,ι',?_,t,u⟩;have C:(shape b).run P w=.ok (w.shape? b) w:=rfl;have e2:w.shape? b=some (e,arr.size):=by unfold World.shape?;rw[l]
 have A:(Go.freeze ⟨b,arr.size,none⟩ 1).run P w=.ok () (w.freeze ⟨b,arr.size,none⟩ 1):=rfl;unfold markStringish;rw[Sem.run_bind,C,Result.andThen_ok,e2];exact A
theorem qvg{t dst:TypeId}{x d:D}{v:Value}(y:Sim X ok w ι H)(hx:Rep ok w ι H x v)(h:qdI P H t dst x=some (d,H')):
  ∃T w',(convert t dst v).run P w=.ok T w'/\Post X H.length ok w ι H d H' T w':=by
 unfold qdI at h;split at h
 .rename_i k k' n p g;injection h with h;injection h with q r;subst q;subst r;cases hx;exact⟨.int k (k.wrap n),w,by simp[convert,run_underlying p,run_underlying g,Conv.intToInt],Post.same y (.int _ _)⟩
 .rename_i s p g;injection h with h;injection h with q r;subst q;subst r;cases hx;exact⟨.string ⟨s.toArray⟩,w,by simp[convert,run_underlying p,run_underlying g],Post.same y (.str _)⟩
 .rename_i k k' n p g;injection h with h;injection h with q r;subst q;subst r;cases hx;refine⟨.string (Utf8.encode n),w,by simp[convert,run_underlying p,run_underlying g,Conv.intToString],Post.same y ?_⟩;have:=Rep.str (ok:=ok) (w:=w) (ι:=ι) (H:=H) (Utf8.encode n).data.toList;simpa using this
 .rename_i e s p g;split at h
  .rename_i B;injection h with h;injection h with q r;subst q;subst r;cases hx;have M:(⟨s.toArray⟩:ByteArray).size=s.length:=(by simp[ByteArray.size]);have V:=grownCap_ge w s.length 0 e
   have K:(Lib.bytesCells w e ⟨s.toArray⟩).size=grownCap w s.length 0 e:=by
    unfold Lib.bytesCells;simp only[Array.size_append,Array.size_map,Array.size_replicate,M];simp;omega
   have E:∀j,j<s.length->(Lib.bytesCells w e ⟨s.toArray⟩).getD j undef=(YP s).getD j undef:=by
    intro j l;unfold Lib.bytesCells YP;rw[j8,qgZ (by simpa using l),jy];simp
   have I:∀j,s.length<=j->j<grownCap w s.length 0 e->(Lib.bytesCells w e ⟨s.toArray⟩).getD j undef=.int .u8 0:=by
    intro j l zp;unfold Lib.bytesCells;rw[j8,Array.getElem?_append_right (by simpa using l)];simp only[M];rw[qiY,if_pos wG];rfl
   obtain⟨ι',n1,n2,n3⟩:=qm9 (w':=Lib.bytesWorld w e ⟨s.toArray⟩) (b':=w.heap.size) (arr:=Lib.bytesCells w e ⟨s.toArray⟩) (ds:=qf s) y
    (by
     refine⟨?_,?_,?_⟩<;>(unfold Lib.bytesWorld World.freeze;split<;>rfl))
    (by rw[Lib.bytesWorld_size];omega) (fun c hc=>Lib.bytesWorld_at_old w e _ c hc) (Lib.bytesWorld_at_new w e _) (qA _) (by rw[K];simpa[qf] using V)
    (.inr (qA _))
    (fun j l=>by
     rw[K] at l;by_cases G:j<s.length
     .rw[E j G];unfold YP;simp[G,Value.oneCell']
     .rw[I j wC l];rfl)
    (fun d u=>by
     simp only[qf,ZI] at u;obtain⟨_,_,rfl⟩:=u;rfl)
    (fun j d l=>by
     have G:j<s.length:=by
      have:=(List.getElem?_eq_some_iff.1 l).1;simpa[qf] using this
     rw[E j G];exact qkc s j d l)
   refine⟨_,_,Lib.run_convert_string_bytes w t dst e ⟨s.toArray⟩ p g B,ι',ok,n1,?_,n2⟩;rw[M];refine .osl _ wW (fun ds u=>?_) V;rw[zF] at u;injection u with u;subst u;refine⟨wV,fun _=>⟨_,_,n3,rfl,by rw[K];omega⟩⟩
  .cases h
 .rename_i _ e p g;split at h
  .rename_i cs n B Y;cases R:VB cs with
   |none=>simp[R] at h
   |some s=>
    simp only[R,jn,qy,zi] at h;obtain⟨q,r⟩:=h;subst q;subst r;obtain⟨F,rfl,rfl⟩:=qv9 R;obtain⟨Q,k2,A,c,rfl,Z,hA,f,hf⟩:=qmR y hx Y;simp only[List.length_map,Nat.mul_one] at Q;cases A with
    |none=>
     have hn:n=0:=hA rfl;subst hn;have:F=[]:=ky Q;subst this;refine⟨.string ByteArray.empty,w,run_convert_bytes_nil w t e p B _ _ dst g,Post.same y ?_⟩;exact .str []
    |some a=>
     have hl:(loadCells a n).run P w=.ok (F.map (Value.int .u8)).toArray w:=by
      have:=run_loadCells_list (P:=P) w a (F.map (Value.int .u8)) (fun j v l=>by
       rw[Je] at l;cases N:F[j]? with
       |none=>simp[N] at l
       |some m=>
        simp only[N,jn,qy] at l;subst l;obtain⟨a',J,hc,U⟩:=hf j (.int .u8 m) (by simp[N]);injection J with J;subst J;rw[hc];generalize f j=fv at U;cases U;rfl)
      simpa[Q] using this
     refine⟨_,w,?_,Post.same y (.str _)⟩;rw[run_convert_bytes_string w t dst e _ n c p B g,run_bytesToString w _ n c F hl,foldl_push_bytes];simp[ByteArray.empty,ByteArray.emptyWithCapacity];rfl
  .cases h
 .rename_i _ e i st off aa k p g;split at h
  .rename_i ds B u;split at h
   .rename_i hc;obtain⟨rfl,L⟩:=hc;injection h with h;injection h with q r;subst q;subst r;have z:=hx;rw[p] at g;injection g with g;injection g with g;subst g;cases hx with
    |osl a hi hh Z=>
     obtain⟨b,sz,S,g2,g3⟩:=(hh ds u).2 L;subst g2;obtain⟨b',arr,e',fr,C,q2,q3,_⟩:=y.blk i ds u;rw[S] at C;injection C with C;injection C with C O;subst C;subst O;obtain⟨w',ι',m1,m2,W⟩:=q0M (P:=P) (o:=off) y u S q3;refine⟨_,w',?_,ι',ok,m2,z.evol y W z.closed,W⟩;simp[convert,run_underlying p,run_underlying B,m1]
   .cases h
  .cases h
 .cases h
theorem qtR(off:Nat):∀(l:List Value)(n:Nat)(cs:Array Value),
  ((l.zipIdx n).foldl (fun cs(c,j)=>cs.setIfInBounds (off+j) c) cs).size=cs.size/\
  ∀j,((l.zipIdx n).foldl (fun cs(c,j)=>cs.setIfInBounds (off+j) c) cs)[j]?=if off+n<=j/\j<off+n+l.length/\j<cs.size then l[j-(off+n)]? else cs[j]?
 |[],n,cs=>by
  refine⟨rfl,fun j=>?_⟩;rw[if_neg wG];rfl
 |v::l,n,cs=>by
  obtain⟨e,d⟩:=qtR off l (n+1) (cs.setIfInBounds (off+n) v);simp only[List.zipIdx_cons,List.foldl_cons];refine⟨by rw[e];simp,fun j=>?_⟩;rw[d j];simp only[Array.size_setIfInBounds,jJ];by_cases b:j=off+n
  .subst b;rw[if_neg wC];by_cases f:off+n<cs.size
   .rw[if_pos wC];simp[f]
   .rw[if_neg wC,qfL wG,qfL wC]
  .rw[qfK wC];by_cases a:off+(n+1)<=j/\j<off+(n+1)+l.length/\j<cs.size
   .rw[if_pos a,if_pos wC];rw[show j-(off+n)=(j-(off+(n+1)))+1 from wC,qeK]
   .rw[if_neg a,if_neg wC]
def qdS(ok:Nat->Prop)(w:World)(ι:qU)(H:qe):List (Nat×D)->List (Nat×Value)->Prop
 |[],[]=>True
 |(i,d)::ds,(j,v)::vs=>i=j/\Rep ok w ι H d v/\qdS ok w ι H ds vs
 |_,_=>False
theorem qg4{place:Nat->Option (Nat×Nat)}:∀{b:List (Nat×D)}{vps:List (Nat×Value)}{cs a:List D}{arr:Array Value},qdS ok w ι H b vps->arr.size=cs.length->
  (∀d,d∈cs->jt d=true)->(∀(j:Nat) d,cs[j]?=some d->Rep ok w ι H d (arr.getD j undef))->Y5 place cs b=some a->
  ∃arr',Instr.fill place arr vps=some arr'/\arr'.size=a.length/\(∀d,d∈a->jt d=true)/\(∀(j:Nat) d,a[j]?=some d->Rep ok w ι H d (arr'.getD j undef))/\a.length=cs.length
 |[],[],cs,a,arr,_,q,hc,p,h=>by
  simp only[Y5,qy] at h;subst h;exact⟨arr,rfl,q,hc,p,rfl⟩
 |(i,d)::ps,(J,v)::vps,cs,a,arr,l,q,hc,p,h=>by
  obtain⟨rfl,E,l⟩:=l;simp only[Y5] at h;split at h
  .rename_i off r xs o n;split at h
   .rename_i k;obtain⟨L,A⟩:=k;obtain⟨C,z,u⟩:=qbw E n;obtain⟨s,t⟩:=qtR off v.cells.toList 0 arr
    have e:v.cells.zipIdx.foldl (fun cs(c,j)=>cs.setIfInBounds (off+j) c) arr=(v.cells.toList.zipIdx 0).foldl (fun cs(c,j)=>cs.setIfInBounds (off+j) c) arr:=by
     rw[<-Array.foldl_toList];simp
    have g:off+xs.length<=cs.length:=A
    obtain⟨arr',y,x,F,B,G⟩:=qg4 (place:=place) (arr:=v.cells.zipIdx.foldl (fun cs(c,j)=>cs.setIfInBounds (off+j) c) arr) l (by rw[e,s,qeU g];exact q)
     (fun d I=>by
      rcases qoQ I with h|h
      .exact hc d h
      .exact z d h)
     (fun j d m=>by
      have K:j<cs.length:=by
       have:=(List.getElem?_eq_some_iff.1 m).1
       rwa [qeU g] at this
      rw[e,j8,t j];simp only[Nat.add_zero,Array.length_toList,C];rw[qnd g] at m;by_cases f:off<=j/\j<off+xs.length
      .rw[if_pos f] at m;rw[if_pos ⟨f.1,f.2,wC⟩];have:=u _ d m;simpa[j8] using this
      .rw[if_neg f] at m;rw[if_neg wC];have:=p j d m
       rwa [j8] at this) h
    refine⟨arr',?_,x,F,B,by rw[G,qeU g]⟩;simp only[Instr.fill,o];rw[if_neg wG];exact y
   .cases h
  .cases h
 |[],_::_,_,_,_,l,_,_,_,_=>by simp[qdS] at l
 |_::_,[],_,_,_,l,_,_,_,_=>by simp[qdS] at l
theorem qhz(c:Sim X ok w ι H){e:qu}{a:Act}(b:EnvRep ok w ι H e a.tmps):∀{l:List (Nat×Operand)}{ps:List (Nat×D)},YN X e l=some ps->qdS ok w ι H ps (l.map fun(i,x)=>(i,a.eval x))
 |[],ps,h=>by
  simp only[YN,qy] at h;subst h;trivial
 |(i,x)::l,ps,h=>by
  simp only[YN] at h;split at h
  .rename_i d ds g f;injection h with h;subst h;exact⟨rfl,vj c b g,qhz c b f⟩
  .cases h
theorem qzh{fs:Array Field}(h:fs.all (fun f=>decide (0<qw P f.type))=true)(w:World):
  (fs.mapM fun f=>(do pure (f.offset,<-sizeOf f.type):Sem (Nat×Nat))).run P w=.ok (fs.map fun f=>(f.offset,qw P f.type)) w:=by
 have key:∀l:List Field,(∀f,f∈l->0<qw P f.type)->(l.mapM fun f=>(do pure (f.offset,<-sizeOf f.type):Sem (Nat×Nat))).run P w=.ok (l.map fun f=>(f.offset,qw P f.type)) w:=by
  intro l
  induction l with
  |nil=>intro _;simp
  |cons f l i=>
   intro a;have e:=a f (Jd ..);have d:=i fun g c=>a g (vy _ c);rw[List.mapM_cons];simp only[Sem.run_bind,QC e,Result.andThen_ok,Sem.run_pure,d,List.map_cons]
 rw[Array.mapM_eq_mapM_toList]
 rw[Sem.run_map,key fs.toList (fun f b=>by
  have:=Array.all_eq_true'.1 h f wv;simpa using this)]
 simp;apply Array.ext';simp
theorem q6z{t:TypeId}{a:List (Nat×D)}{vps:Array (Nat×Value)}{d:D}(y:qdS ok w ι H a vps.toList)(h:qiH P t a=some d):
  ∃v,(Instr.build t vps).run P w=.ok v w/\Rep ok w ι H d v:=by
 unfold qiH at h;split at h
 .rename_i z fs p c;split at h
  .rename_i A;obtain⟨B,s,x⟩:=qfO p;have m:=x ok w ι H;obtain⟨r,o,g⟩:=qbw m rfl;cases b:Y5 (qeS P fs) z a with
   |none=>simp[b] at h
   |some cs=>
    simp only[b,jn,qy] at h;subst h
    have j:(fun i=>(fs.map fun f=>(f.offset,qw P f.type))[i]?)=qeS P fs:=by
     funext i;simp[qeS]
    obtain⟨arr,l,k,u,q,_⟩:=qg4 (place:=qeS P fs) y r o g b;refine⟨.agg arr,?_,.agg k u q⟩;simp only[Instr.build,Sem.run_bind,s,Result.andThen_ok,run_underlying c,qzh A,j,l,Sem.run_pure]
  .cases h
 .rename_i z n e p c;split at h
  .rename_i C;obtain⟨B,s,x⟩:=qfO p;have m:=x ok w ι H;obtain⟨r,o,g⟩:=qbw m rfl;cases b:Y5 (fun i=>some (i*qw P e,qw P e)) z a with
   |none=>simp[b] at h
   |some cs=>
    simp only[b,jn,qy] at h;subst h;obtain⟨arr,l,k,u,q,_⟩:=qg4 (place:=fun i=>some (i*qw P e,qw P e)) y r o g b;refine⟨.agg arr,?_,.agg k u q⟩;simp only[Instr.build,Sem.run_bind,s,Result.andThen_ok,run_underlying c,QC C,l,Sem.run_pure]
  .cases h
 .cases h
theorem qiZ{z:Array Value}{n j:Nat}(a:0<z.size)(h:j<n):((Array.range n).map (z[· % z.size]!)).getD j undef=z.getD (j % z.size) undef:=by
 have b:=YA j a;simp[h,b]
theorem q60{t:TypeId}{a:Nat}{b:List (Nat×D)}{vps:Array (Nat×Value)}{d:D}(N:Sim X ok w ι H)(F:qdS ok w ι H b vps.toList)(h:qcz P H t a b=some (d,H')):
  ∃v w',(Instr.buildSlice t a vps).run P w=.ok v w'/\Post X H.length ok w ι H d H' v w':=by
 unfold qcz at h;split at h
 .rename_i e C;split at h
  .rename_i z I;split at h
   .rename_i c;cases s:Y5 (fun i=>some (i*qw P e,qw P e)) z b with
    |none=>simp[s] at h
    |some cs=>
     simp only[s,Y9] at h;split at h
     .rename_i g;have B:=g.2;clear g;injection h with h;injection h with M G;subst M;subst G;obtain⟨r,L,O,E,J,A,S,K⟩:=qb1 I;have R:a*qw P e=0->z=[]:=fun f=>ky wC
      obtain⟨k,o,n,l⟩:∃k:Array Value,(a*qw P e=0->k= #[])/\(¬a*qw P e=0->k=r.cells)/\
        ∀j,j<a*qw P e->((Array.range (a*qw P e)).map (k[· % k.size]!)).getD j undef=r.cells.getD (j % qw P e) undef:=by
       by_cases f:a*qw P e=0
       .exact⟨#[],fun _=>rfl,fun h=>absurd f h,fun j m=>wC⟩
       .refine⟨r.cells,fun h=>absurd h f,fun _=>rfl,fun j m=>?_⟩;rw[qiZ wC m,O]
      obtain⟨arr,p,Q,y,u,U⟩:=qg4 (place:=fun i=>some (i*qw P e,qw P e)) (arr:=(Array.range (a*qw P e)).map (k[· % k.size]!)) F (by simp[J]) A
       (fun j d m=>by
        rw[l j (by have:=(List.getElem?_eq_some_iff.1 m).1;omega)];exact K ok w ι H j d m) s
      obtain⟨ι',n1,n2,n3⟩:=qfj (e:=e) (arr:=arr) (ds:=cs) N w ⟨rfl,rfl,rfl⟩ rfl wC
       (fun j m=>by
        have x:cs[j]?=some (cs[j]' wC):=qM wC;exact(u j _ x).oneCell (y _ (mem_of_get? x)))
       y u
      refine⟨.slice (some ⟨w.heap.size,0,none⟩) a a,w.alloc (.cells arr e),?_,ι',ok,n1,?_,n2⟩
      .have T:¬(16777216<a*qw P e):=wC;simp only[Instr.buildSlice,Sem.run_bind,run_underlying C,Result.andThen_ok,QC E];rw[if_neg wo];by_cases f:a*qw P e=0
       .rw[o f] at p;rw[if_pos f];simp only[Sem.run_bind,Sem.run_pure,Result.andThen_ok,p];simp[newRow]
       .rw[n f] at p;rw[if_neg f];simp only[Sem.run_bind,Sem.run_pure,Result.andThen_ok,L,p];simp[newRow]
      .refine .osl _ wW (fun ds q=>?_) (qA _);rw[zF] at q;injection q with q;subst q;exact⟨qA _,fun _=>⟨_,_,n3,rfl,wC⟩⟩
     .cases h
   .cases h
  .cases h
 .cases h
theorem q0N{t:TypeId}{l c d:D}{q cv:Value}(A:Sim X ok w ι H)(K:Rep ok w ι H l q)(hc:Rep ok w ι H c cv)(h:qgr P H t l c=some (d,H')):
  ∃v w',(Instr.makeSlice t q cv).run P w=.ok v w'/\Post X H.length ok w ι H d H' v w':=by
 unfold qgr at h;split at h
 .rename_i e l c s;split at h
  .rename_i i;obtain⟨U,T,I,C⟩:=i;cases p:VG P e l.toNat with
   |none=>simp[p] at h
   |some z=>
    simp only[p,Y9] at h;split at h
    .rename_i W;injection h with h;injection h with Q G;subst Q;subst G;cases K;cases hc;obtain⟨b,N,R,n,J,B,F,L⟩:=qb1 p;obtain⟨E,u,V,r⟩:=qgw n;simp only[qF] at I C;have y:IntKind.i64.wrap l=l:=(by rw[IntKind.wrap_i64];omega);have x:IntKind.i64.wrap c=c:=(by rw[IntKind.wrap_i64];omega);have g:((Array.range (c.toNat*qw P e)).map (b.cells[· % b.cells.size]!)).size=c.toNat*qw P e:=wE;have M:l.toNat*qw P e<=c.toNat*qw P e:=qb0 _ wC;by_cases m:c.toNat*qw P e=0
     .have S:c.toNat=0:=by
       rcases Nat.mul_eq_zero.1 m with h|h
       .exact h
       .omega
      have o:l.toNat=0:=wC;have O:z=[]:=ky (by rw[J,o,Nat.zero_mul]);subst O;obtain⟨ι',n1,n2,n3⟩:=qfj (e:=e) (arr:= #[]) (ds:=[]) A w ⟨rfl,rfl,rfl⟩ rfl wE wE wE wE;refine⟨.slice (some ⟨w.heap.size,0,none⟩) l.toNat c.toNat,w.alloc (.cells #[] e),?_,ι',ok,n1,?_,n2⟩
      .simp only[Instr.makeSlice,Sem.run_bind,run_underlying s,Result.andThen_ok,asInt,asIntOf,typeInfo,run_program,u,Sem.run_pure,y,x]
       rw[if_neg (by
        simp only[r,qdV,decide_eq_true_eq,not_or];refine⟨⟨⟨wC,?_⟩,wC⟩,wC⟩;omega)]
       simp[QC n,m,newRow,show Array.range 0= #[] from rfl]
      .refine .osl _ wW (fun ds f=>?_) wC;rw[zF] at f;injection f with f;subst f;exact⟨qA _,fun _=>⟨_,_,n3,rfl,by simp[m]⟩⟩
     .have a:∀j,j<c.toNat*qw P e->((Array.range (c.toNat*qw P e)).map (b.cells[· % b.cells.size]!)).getD j undef=b.cells.getD (j % qw P e) undef:=by
       intro j k;rw[qiZ wC k,R]
      obtain⟨ι',n1,n2,n3⟩:=qfj (e:=e) (arr:=(Array.range (c.toNat*qw P e)).map (b.cells[· % b.cells.size]!)) (ds:=z) A w ⟨rfl,rfl,rfl⟩ rfl (by rw[g];omega)
       (fun j k=>by
        rw[g] at k;rw[a j k];exact F _ (YA _ n))
       B (fun j d k=>by
        rw[a j (by have:=(List.getElem?_eq_some_iff.1 k).1;omega)];exact L ok w ι H j d k)
      refine⟨.slice (some ⟨w.heap.size,0,none⟩) l.toNat c.toNat,w.alloc (.cells ((Array.range (c.toNat*qw P e)).map (b.cells[· % b.cells.size]!)) e),?_,ι',ok,n1,?_,n2⟩
      .simp only[Instr.makeSlice,Sem.run_bind,run_underlying s,Result.andThen_ok,asInt,asIntOf,typeInfo,run_program,u,Sem.run_pure,y,x]
       rw[if_neg (by
        simp only[r,qdV,decide_eq_true_eq,not_or];refine⟨⟨⟨wC,?_⟩,wC⟩,wC⟩;omega)]
       simp[QC n,m,newRow,N]
      .refine .osl _ wW (fun ds f=>?_) wC;rw[zF] at f;injection f with f;subst f;exact⟨qA _,fun _=>⟨_,_,n3,rfl,by rw[g];omega⟩⟩
    .cases h
  .cases h
 .cases h
end
end Go.Ev
namespace Go.Ev
section
variable {X:Cx} {P:Program} {ok:Nat->Prop} {w w':World} {ι:qU} {H H':qe}
theorem q5X{d:Nat}{t:TypeId}{k:CK}{x y:D}{a b:Value}{r:Bool}
  (c:P.underlying t=some .bool/\k=.b\/(∃q,P.underlying t=some (.int q))/\k=.i\/P.underlying t=some .string/\k=.s) (hx:Rep ok w ι H x a) (e:Rep ok w ι H y b) (h:qgO k x y=some r):
  (Op.equalIn (d+1) t a b).run P w=.ok r w:=by
 unfold qgO at h;rcases c with⟨c,rfl⟩|⟨⟨q,c⟩,rfl⟩|⟨c,rfl⟩
 .split at h<;>first|contradiction|skip
  injection h with h;subst h;cases hx;cases e;exact run_equalIn_bool' w d t _ _ c
 .split at h<;>first|contradiction|skip
  split at h
  .rename_i f;subst f;injection h with h;subst h;cases hx;cases e;exact run_equalIn_int w d t _ _ _ _ c
  .cases h
 .split at h<;>first|contradiction|skip
  injection h with h;subst h;cases hx;cases e;rw[run_equalIn_string w d t _ _ c];simp
theorem qgN:∀{ks:List CK}{a c:List D}{r:Bool},ZE ks a c=some r->a.length=ks.length/\c.length=ks.length
 |[],[],[],_,_=>⟨rfl,rfl⟩
 |k::ks,x::a,y::c,r,h=>by
  simp only[ZE] at h;split at h
  .rename_i f d;obtain⟨b,e⟩:=qgN d;simp[b,e]
  .cases h
 |[],_::_,_,_,h|[],[],_::_,_,h|_::_,[],_,_,h|_::_,_::_,[],_,h=>by simp[ZE] at h
theorem qlJ:∀{ks f:List CK}{a c b d:List D}{r:Bool},a.length=ks.length->c.length=ks.length->ZE (ks++f) (a++b) (c++d)=some r->∃p q,ZE ks a c=some p/\ZE f b d=some q/\r=(p&&q)
 |[],f,[],[],b,d,r,_,_,h=>⟨true,r,rfl,h,wE⟩
 |k::ks,f,x::a,y::c,b,d,r,e,m,h=>by
  simp only[Qc,ZE] at h;split at h
  .rename_i p q l j;injection h with h;obtain⟨n,q',i,g,o⟩:=qlJ (by simpa using e) (by simpa using m) j;exact⟨p&&n,q',by simp[ZE,l,i],g,by rw[<-h,o,Bool.and_assoc]⟩
  .cases h
 |[],_,_::_,_,_,_,_,e,_,_=>by simp at e
 |[],_,_,_::_,_,_,_,_,e,_=>by simp at e
 |_::_,_,[],_,_,_,_,e,_,_=>by simp at e
 |_::_,_,_::_,[],_,_,_,_,e,_=>by simp at e
def qlY(P:Program)(d:Nat)(t:TypeId)(ks:List CK):Prop:=
 ∀(ok:Nat->Prop)(w:World)(ι:qU)(H:qe)(xs c:List D)(vs us:Array Value)(off:Nat)(r:Bool),Rep ok w ι H (.agg xs) (.agg vs)->Rep ok w ι H (.agg c) (.agg us)->
  off+ks.length<=xs.length->off+ks.length<=c.length->ZE ks ((xs.drop off).take ks.length) ((c.drop off).take ks.length)=some r->
  ∃a b,(part t vs off).run P w=.ok a w/\(part t us off).run P w=.ok b w/\(Op.equalIn d t a b).run P w=.ok r w
def qwk(P:Program)(d:Nat)(t:TypeId)(ks:List CK):Prop:=
 ∀(ok:Nat->Prop)(w:World)(ι:qU)(H:qe)(xs a:List D)(vs us:Array Value)(r:Bool),Rep ok w ι H (.agg xs) (.agg vs)->Rep ok w ι H (.agg a) (.agg us)->
  ZE ks xs a=some r->(Op.equalIn d t (.agg vs) (.agg us)).run P w=.ok r w
theorem qi2(xs:List D)(off k:Nat):xs.drop off=(xs.drop off).take k++xs.drop (off+k):=by
 rw[<-kz,Zy]
theorem qnT(P:Program)(g:TypeId->Option (List CK)):∀(fs:List Field)(acc ks:List CK),qcR P g fs acc=some ks->∃a,ks=acc++a
 |[],acc,ks,h=>⟨[],by simp only[qcR,qy] at h;simp[h]⟩
 |f::fs,acc,ks,h=>by
  simp only[qcR] at h;split at h
  .split at h
   .obtain⟨a,e⟩:=qnT P g fs _ _ h;exact⟨_,by rw[e,jX]⟩
   .cases h
  .cases h
theorem qu9{d:Nat}{g:TypeId->Option (List CK)}(y:∀t n,g t=some n->qw P t=n.length->qlY P d t n){xs i:List D}{vs us:Array Value}(hx:Rep ok w ι H (.agg xs) (.agg vs))(s:Rep ok w ι H (.agg i) (.agg us)):
  ∀(fs:List Field)(acc e:List CK)(r:Bool),qcR P g fs acc=some (acc++e)->ZE e (xs.drop acc.length) (i.drop acc.length)=some r->acc.length<=xs.length->acc.length<=i.length->(Op.eqFields d vs us fs).run P w=.ok r w
 |[],acc,e,r,h,hc,_,_=>by
  simp only[qcR,qy] at h;have:e=[]:=wQ
  subst this;obtain⟨l,m⟩:=qgN hc;rw[ky l,ky m] at hc;simp only[ZE,qy] at hc;subst hc;simp[Op.eqFields]
 |f::fs,acc,e,r,h,hc,F,A=>by
  simp only[qcR] at h;split at h
  .rename_i ks B;split at h
   .rename_i c;obtain⟨J,E,z,L⟩:=c;obtain⟨j,o⟩:=qnT P g fs _ _ h
    have k:e=ks++j:=by
     have:acc++e=acc++(ks++j):=(by rw[o,jX]);exact List.append_cancel_left this
    subst k;obtain⟨l,m⟩:=qgN hc;simp only[vg,zo] at l m;rw[qi2 xs acc.length ks.length,qi2 i acc.length ks.length] at hc;obtain⟨p,q,G,C,u⟩:=qlJ wG wG hc;obtain⟨a,b,v,x,I⟩:=y f.type ks B z ok w ι H xs i vs us acc.length p hx s wC wC G;have K:=qu9 y hx s fs (acc++ks) j q (by rw[h,jX]) (by simpa using C) wG wG;rw[<-J] at v x;simp only[Op.eqFields,E,ne_eq,not_false_eq_true,if_true,Sem.run_bind,v,x,I,Result.andThen_ok];cases p
    .simp[u]
    .simpa[u] using K
   .cases h
  .cases h
theorem q4t{α:Type}(n:Nat)(l:List α):(List.replicate (n+1) l).flatten=l++(List.replicate n l).flatten:=by
 rw[qdT,qma]
theorem qu8{d:Nat}{ks:List CK}{e:TypeId}(h:qlY P d e ks){xs c:List D}{vs us:Array Value}(hx:Rep ok w ι H (.agg xs) (.agg vs))(k:Rep ok w ι H (.agg c) (.agg us)):
  ∀(m i:Nat)(r:Bool),ZE (List.replicate m ks).flatten (xs.drop (i*ks.length)) (c.drop (i*ks.length))=some r->i*ks.length<=xs.length->i*ks.length<=c.length->(Op.eqItems d e ks.length vs us (List.range' i m)).run P w=.ok r w
 |0,i,r,hc,_,_=>by
  obtain⟨f,g⟩:=qgN hc;have y:xs.drop (i*ks.length)=[]:=ky (by rw[f];rfl);have e2:c.drop (i*ks.length)=[]:=ky (by rw[g];rfl);rw[y,e2] at hc;simp only[List.replicate_zero,List.flatten_nil,ZE,qy] at hc;subst hc;simp[Op.eqItems]
 |m+1,i,r,hc,s,x=>by
  obtain⟨f,g⟩:=qgN hc;rw[q4t] at hc f g;simp only[vg,zo] at f g;have n:(i+1)*ks.length=i*ks.length+ks.length:=by rw[ZH,Nat.one_mul]
  rw[qi2 xs (i*ks.length) ks.length,qi2 c (i*ks.length) ks.length] at hc;obtain⟨p,q,z,l,j⟩:=qlJ wG wG hc;obtain⟨a,b,v,t,o⟩:=h ok w ι H xs c vs us (i*ks.length) p hx k wC wC z;have u:=qu8 h hx k m (i+1) q (by rw[n];exact l) wC wC;rw[List.range'_succ];simp only[Op.eqItems,Sem.run_bind,v,t,o,Result.andThen_ok];cases p
  .simp[j]
  .simpa[j] using u
theorem q7c{t:TypeId}{m:Nat}{ks:List CK}(h:ZN P m t=some ks):
  Kv P t=some true\/(Kv P t=some false/\∃k,ks=[k]/\(P.underlying t=some .bool/\k=.b\/(∃q,P.underlying t=some (.int q))/\k=.i\/P.underlying t=some .string/\k=.s)):=by
 cases m with
 |zero=>simp[ZN] at h
 |succ m=>
  unfold ZN at h;unfold Kv;split at h
  .rename_i a;injection h with h;exact .inr ⟨xF,_,h.symm,.inl ⟨a,rfl⟩⟩
  .rename_i a;injection h with h;exact .inr ⟨xF,_,h.symm,.inr (.inl ⟨⟨_,a⟩,rfl⟩)⟩
  .rename_i a;injection h with h;exact .inr ⟨xF,_,h.symm,.inr (.inr ⟨a,rfl⟩)⟩
  .rename_i a;exact .inl xF
  .rename_i a;exact .inl xF
  .cases h
theorem qjR:∀(m d:Nat)(t:TypeId)(ks:List CK),ZN P m t=some ks->(qw P t=ks.length->qlY P (d+m) t ks)/\(Kv P t=some true->qwk P (d+m) t ks)
 |0,_,_,_,h=>by simp[ZN] at h
 |m+1,d,t,ks,h=>by
  have l:Kv P t=some true->qwk P (d+(m+1)) t ks:=by
   intro f ok w ι H xs o vs us r hx u hc;unfold ZN at h;unfold Kv at f;split at h
   .rename_i j;simp[j] at f
   .rename_i j;simp[j] at f
   .rename_i j;simp[j] at f
   .rename_i S e j;split at h
    .rename_i x Q;split at h
     .rename_i c;injection h with h;subst h;obtain⟨i,hi,_⟩:=qgw (P:=P) (t:=e) wC;have W:=(qjR m d e x Q).1 c.1;rw[show d+(m+1)=(d+m)+1 from rfl,run_equalIn_array w (d+m) vs us j hi];have E:P.cellsOf e=x.length:=c.1;rw[E,List.range_eq_range'];exact qu8 W hx u S 0 r (by simpa using hc) wC wC
     .cases h
    .cases h
   .rename_i fs j;split at h
    .cases h
    .rename_i J;have z:P.fieldsOf t=fs:=(by simp[Program.fieldsOf,j]);rw[show d+(m+1)=(d+m)+1 from rfl,run_equalIn_struct w (d+m) t vs us (by rw[z];exact j) (by simpa using J),z];exact qu9 (g:=ZN P m) (fun t n U R=>(qjR m d t n U).1 R) hx u fs.toList [] ks r wQ (by simpa using hc) (vp _) (vp _)
   .cases h
  refine⟨?_,l⟩;intro O ok w ι H xs o vs us off r hx u y v hc;rcases q7c h with f|⟨f,k,rfl,s⟩
  .obtain⟨a,L,A⟩:=qfg (P:=P) (t:=t) (off:=off) (d:=.agg ((xs.drop off).take ks.length)) hx (by simp[qaF,f,O,y]);obtain⟨b,K,B⟩:=qfg (P:=P) (t:=t) (off:=off) (d:=.agg ((o.drop off).take ks.length)) u (by simp[qaF,f,O,v]);refine⟨a,b,L,K,?_⟩;obtain⟨N,rfl⟩:∃N,a=.agg N:=by cases A;exact⟨_,rfl⟩
   obtain⟨M,rfl⟩:∃M,b=.agg M:=by cases B;exact⟨_,rfl⟩
   exact l f ok w ι H _ _ _ _ r A B hc
  .simp only[jJ,kt,J3] at y v hc;have I:xs[off]?=some (xs[off]' wC):=qM wC;have F:o[off]?=some (o[off]' wC):=qM wC;have V:(xs.drop off).take 1=[xs[off]' wC]:=(by rw[jo (show off<xs.length from wC)];rfl);have T:(o.drop off).take 1=[o[off]' wC]:=(by rw[jo (show off<o.length from wC)];rfl);rw[V,T] at hc;simp only[ZE] at hc;split at hc
   .rename_i p q C G;injection hc with hc;injection G with G;subst G;obtain⟨a,L,A⟩:=qfg (P:=P) (t:=t) (off:=off) hx (by simp only[qaF,f];exact I);obtain⟨b,K,B⟩:=qfg (P:=P) (t:=t) (off:=off) u (by simp only[qaF,f];exact F);refine⟨a,b,L,K,?_⟩;have:=q5X (P:=P) (d:=d+m) s A B C;rw[show d+(m+1)=d+m+1 from rfl,this,<-hc];simp
   .cases hc
theorem q4Z{op:BinOp}{t:TypeId}{x y:Operand}{a b:Value}(f:∀p q,a=.agg p->b=.agg q->P.eqGuardType P.depth t=false)(e:a=.nilIface->b=.nilIface->(KP x||KP y)=true):
  (eqGuard op t x y a b).run P w=.ok () w:=by
 by_cases c:a=.nilIface/\b=.nilIface
 .obtain⟨rfl,rfl⟩:=c;have:=e rfl rfl;cases x<;>cases y<;>simp[KP] at this<;>cases op<;>simp[eqGuard]
 .by_cases d:∃p q,a=.agg p/\b=.agg q
  .obtain⟨p,q,rfl,rfl⟩:=d;cases op<;>simp[eqGuard,run_program,f p q rfl rfl]
  .cases op<;>simp only[eqGuard]<;>first|rfl|skip
   .rw[if_neg wE];split
    .exact absurd ⟨rfl,rfl⟩ c
    .exact absurd ⟨_,_,rfl,rfl⟩ d
    .rfl
   .rw[if_neg wE];split
    .exact absurd ⟨rfl,rfl⟩ c
    .exact absurd ⟨_,_,rfl,rfl⟩ d
    .rfl
theorem q4W(d:Nat){t e:TypeId}(b:P.underlying t=some (.slice e))(q:Option Addr)(n c f a:Nat):(Op.equalIn (d+1) t (.slice none f a) (.slice q n c)).run P w=.ok q.isNone w:=by
 simp only[Op.equalIn,Sem.run_bind,run_underlying b,Result.andThen_ok,Sem.run_pure]
theorem q4S(d:Nat){t e:TypeId}(b:P.underlying t=some (.slice e))(q:Option Addr)(n c f a:Nat):(Op.equalIn (d+1) t (.slice q n c) (.slice none f a)).run P w=.ok q.isNone w:=by
 cases q<;>simp only[Op.equalIn,Sem.run_bind,run_underlying b,Result.andThen_ok,Sem.run_pure,Option.isNone]
theorem q4V(d:Nat){t:TypeId}{a:Array (String×TypeId)}(b:P.underlying t=some (.interface a)):(Op.equalIn (d+1) t .nilIface .nilIface).run P w=.ok true w:=by
 simp only[Op.equalIn,Sem.run_bind,run_underlying b,Result.andThen_ok,Sem.run_pure]
theorem q4X(d:Nat){t u:TypeId}{v:Value}{a:Array (String×TypeId)}(b:P.underlying t=some (.interface a)):(Op.equalIn (d+1) t (.iface u v) .nilIface).run P w=.ok false w:=by
 simp only[Op.equalIn,Sem.run_bind,run_underlying b,Result.andThen_ok,Sem.run_pure]
theorem q4U(d:Nat){t e:TypeId}(a:P.underlying t=some (.pointer e)):(Op.equalIn (d+1) t (.pointer none) (.pointer none)).run P w=.ok true w:=by
 simp only[Op.equalIn,Sem.run_bind,run_underlying a,Result.andThen_ok,Sem.run_pure,Option.isNone]
theorem q4T(d:Nat){t e:TypeId}{a:Addr}(b:P.underlying t=some (.pointer e)):(Op.equalIn (d+1) t (.pointer (some a)) (.pointer none)).run P w=.ok false w:=by
 simp only[Op.equalIn,Sem.run_bind,run_underlying b,Result.andThen_ok,Sem.run_pure]
theorem qu7{t e:TypeId}(d:P.underlying t=some (.slice e))(q:Option Addr)(n c b a:Nat):(Op.equal t (.slice none b a) (.slice q n c)).run P w=.ok q.isNone w:=q4W 9999 d q n c b a
theorem qlm{t e:TypeId}(d:P.underlying t=some (.slice e))(q:Option Addr)(n c b a:Nat):(Op.equal t (.slice q n c) (.slice none b a)).run P w=.ok q.isNone w:=q4S 9999 d q n c b a
theorem q4P{t:TypeId}{a:Array (String×TypeId)}(b:P.underlying t=some (.interface a)):(Op.equal t .nilIface .nilIface).run P w=.ok true w:=q4V 9999 b
theorem q4Q{t u:TypeId}{v:Value}{a:Array (String×TypeId)}(b:P.underlying t=some (.interface a)):(Op.equal t (.iface u v) .nilIface).run P w=.ok false w:=q4X 9999 b
theorem q4O{t e:TypeId}(a:P.underlying t=some (.pointer e)):(Op.equal t (.pointer none) (.pointer none)).run P w=.ok true w:=q4U 9999 a
theorem qu6{t e:TypeId}{a:Addr}(b:P.underlying t=some (.pointer e)):(Op.equal t (.pointer (some a)) (.pointer none)).run P w=.ok false w:=q4T 9999 b
theorem q4R(w:World){t c:TypeId}{g:Array (String×TypeId)}{k q:IntKind}(a b:Int)
  (f:P.underlying t=some (.interface g)) (hc:(P.info? c).map (·.comparable)=some true) (hx:P.underlying c=some (.int q)):
  (Op.equal t (.iface c (.int k a)) (.iface c (.int k b))).run P w=.ok (a==b) w:=by
 cases hi:P.info? c with
 |none=>simp[hi] at hc
 |some i=>
  have e:i.comparable=true:=by simpa[hi] using hc
  have h:∀d:Nat,(Op.equalIn (d+2) t (.iface c (.int k a)) (.iface c (.int k b))).run P w=.ok (a==b) w:=fun d=>by
   simp[Op.equalIn,run_underlying f,run_underlying hx,typeInfo,hi,e]
  simp[Op.equal,Op.maxDepth,h 9998]
theorem XX{op:BinOp}{t:TypeId}{a b:Value}{r:Bool}(e:op=.eql\/op=.neq)(d:(Op.equal t a b).run P w=.ok r w)
  (c:binOp .eql t a b=(do pure (.bool (<-Op.equal t a b)))/\binOp .neq t a b=(do pure (.bool (!(<-Op.equal t a b))))):
  (binOp op t a b).run P w=.ok (.bool (if op=.eql then r else !r)) w:=by
 rcases e with rfl|rfl
 .rw[c.1];simp[d]
 .rw[c.2];simp[d]
theorem quA{t:TypeId}{c:Bool}{x y:D}{a b:Value}{r:Bool}(hx:Rep ok w ι H x a)(i:Rep ok w ι H y b)(h:eqD P t c x y=some r):
  (∀p q,a=.agg p->b=.agg q->P.eqGuardType P.depth t=false)/\(a=.nilIface->b=.nilIface->c=true)/\
  (∀op,(op=.eql\/op=.neq)->(binOp op t a b).run P w=.ok (.bool (if op=.eql then r else !r)) w):=by
 unfold eqD at h;split at h
 .cases hx;cases i;split at h
  .rename_i g;injection h with h;subst h;exact⟨fun _ _ h=>wI,fun h=>wI,fun op d=>XX d (run_equal_bool w t _ _ g) ⟨rfl,rfl⟩⟩
  .cases h
 .split at h
  .rename_i ks l;split at h
   .rename_i j;obtain⟨vs,rfl⟩:∃C,a=.agg C:=by cases hx;exact⟨_,rfl⟩
    obtain⟨us,rfl⟩:∃o,b=.agg o:=by cases i;exact⟨_,rfl⟩
    have u:(Op.equal t (.agg vs) (.agg us)).run P w=.ok r w:=(qjR 50 9950 t ks l).2 j.1 ok w ι H _ _ _ _ r hx i h;exact⟨fun _ _ _ _=>j.2,fun h=>wI,fun op d=>XX d u ⟨rfl,rfl⟩⟩
   .cases h
  .cases h
 .split at h
  .rename_i e g;injection h with h;subst h;cases hx;cases i with
   |vnil=>exact⟨fun _ _ h=>wI,fun h=>wI,fun op d=>XX d (qu7 g _ _ _ _ _) ⟨rfl,rfl⟩⟩
   |vsl a f A hc v B n=>exact⟨fun _ _ h=>wI,fun h=>wI,fun op d=>XX d (qu7 g _ _ _ _ _) ⟨rfl,rfl⟩⟩
  .cases h
 .split at h
  .rename_i e g;injection h with h;subst h;cases i;cases hx with
   |vnil=>exact⟨fun _ _ h=>wI,fun h=>wI,fun op d=>XX d (qlm g _ _ _ _ _) ⟨rfl,rfl⟩⟩
   |vsl a f A hc v B n=>exact⟨fun _ _ h=>wI,fun h=>wI,fun op d=>XX d (qlm g _ _ _ _ _) ⟨rfl,rfl⟩⟩
  .cases h
 .split at h
  .rename_i e g;injection h with h;subst h;cases i;cases hx;exact⟨fun _ _ h=>wI,fun h=>wI,fun op d=>XX d (qlm g _ _ _ _ _) ⟨rfl,rfl⟩⟩
  .cases h
 .cases hx;cases i;split at h
  .rename_i e g;split at h
   .rename_i hc;injection h with h;subst h;exact⟨fun _ _ h=>wI,fun _ _=>hc,fun op d=>XX d (q4P g) ⟨rfl,rfl⟩⟩
   .cases h
  .cases h
 .rename_i s k E I k' F;cases hx with
  |iface hx=>
  cases i with
  |iface i=>
  cases hx;cases i;split at h
  .rename_i e q g z;split at h
   .rename_i hc;obtain⟨rfl,rfl,hc⟩:=hc;injection h with h;subst h
    have G:(P.info? s).map (·.comparable)=some true:=by
     unfold qlC at hc;cases m:(P.info? s).map (·.comparable) with
     |none=>rw[m] at hc;simp at hc
     |some b=>rw[m] at hc;simpa using hc
    exact⟨fun _ _ h=>wI,fun h=>wI,fun op d=>XX d (q4R w E F g G z) ⟨rfl,rfl⟩⟩
   .cases h
  .cases h
 .cases hx;cases i;split at h
  .rename_i e g;injection h with h;subst h;exact⟨fun _ _ h=>wI,fun h=>wI,fun op d=>XX d (q4Q g) ⟨rfl,rfl⟩⟩
  .cases h
 .cases hx;cases i;split at h
  .rename_i e g;injection h with h;subst h;exact⟨fun _ _ h=>wI,fun h=>wI,fun op d=>XX d (q4O g) ⟨rfl,rfl⟩⟩
  .cases h
 .cases hx;cases i;split at h
  .rename_i e g;injection h with h;subst h;exact⟨fun _ _ h=>wI,fun h=>wI,fun op d=>XX d (qu6 g) ⟨rfl,rfl⟩⟩
  .cases h
 .cases hx;cases i;split at h
  .rename_i e g;injection h with h;subst h;exact⟨fun _ _ h=>wI,fun h=>wI,fun op d=>XX d (qu6 g) ⟨rfl,rfl⟩⟩
  .cases h
 .cases h
theorem q64{op:BinOp}{t:TypeId}{x y:Operand}{p q d:D}{a b:Value}(hx:Rep ok w ι H p a)(i:Rep ok w ι H q b)(h:qiI P op t (KP x||KP y) p q=some d):
  ∃v,(do eqGuard op t x y a b;binOp op t a b:Sem Value).run P w=.ok v w/\Rep ok w ι H d v:=by
 have fin:(∀p q,a=.agg p->b=.agg q->P.eqGuardType P.depth t=false)->(a=.nilIface->b=.nilIface->(KP x||KP y)=true)->∀v,(binOp op t a b).run P w=.ok v w->
   (do eqGuard op t x y a b;binOp op t a b:Sem Value).run P w=.ok v w:=by
  intro f c v o;rw[Sem.run_bind,q4Z f c];exact o
 unfold qiI at h;split at h
 .cases hx;cases i;rename_i k a k' b;obtain⟨v,f,c⟩:=qna (P:=P) (ok:=ok) (w:=w) (ι:=ι) (H:=H) (t:=t) (k':=k') (.inl rfl) h;exact⟨v,fin (fun _ _ h=>wI) (fun h=>wI) v f,c⟩
 .cases hx;cases i;rename_i k a k' b;obtain⟨v,f,c⟩:=qna (P:=P) (ok:=ok) (w:=w) (ι:=ι) (H:=H) (t:=t) (k':=k') (.inr rfl) h;exact⟨v,fin (fun _ _ h=>wI) (fun h=>wI) v f,c⟩
 .rename_i s k a k' b m n;split at h
  .rename_i u;subst u;cases hx;cases i;obtain⟨v,f,c⟩:=q2Y (P:=P) (ok:=ok) (w:=w) (ι:=ι) (H:=H) (t:=t) (fun e=>by subst e;simp_all) (fun e=>by subst e;simp_all) h;exact⟨v,fin (fun _ _ h=>wI) (fun h=>wI) v f,c⟩
  .cases h
 .cases hx;cases i;obtain⟨v,f,c⟩:=qxe (P:=P) (ok:=ok) (w:=w) (ι:=ι) (H:=H) (t:=t) h;exact⟨v,fin (fun _ _ h=>wI) (fun h=>wI) v f,c⟩
 .cases g:eqD P t (KP x||KP y) p q with
  |none=>simp[g] at h
  |some r=>
   simp only[g,jn,qy] at h;subst h;obtain⟨e2,l,j⟩:=quA hx i g;exact⟨.bool r,fin e2 l _ (by rw[j .eql (.inl rfl)];simp),.bool _⟩
 .cases g:eqD P t (KP x||KP y) p q with
  |none=>simp[g] at h
  |some r=>
   simp only[g,jn,qy] at h;subst h;obtain⟨e2,l,j⟩:=quA hx i g;exact⟨.bool !r,fin e2 l _ (by rw[j .neq (.inr rfl)];simp),.bool _⟩
 .cases h
end
end Go.Ev
namespace Go.Ev
section
variable {X:Cx} {P:Program} {ok ok':Nat->Prop} {w w':World} {ι:qU} {H H':qe}
theorem Rep.okMono{d:D}{v:Value}(h:Rep ok w ι H d v)(m:∀b,ok b->ok' b):Rep ok' w ι H d v:=by
 induction h with
 |bool b=>exact .bool b
 |int k n=>exact .int k n
 |str s=>exact .str s
 |nilp=>exact .nilp
 |nilf=>exact .nilf
 |nili=>exact .nili
 |raw v=>exact .raw v
 |agg e hc h c=>exact .agg e hc c
 |tup e h c=>exact .tup e c
 |fn e h c=>exact .fn e c
 |iface h c=>exact .iface c
 |optr a hi h=>exact .optr a hi h
 |osl a hi h g=>exact .osl a hi h g
 |vptr a f j hc i h c=>exact .vptr a f (fun d l=>m _ (j d l)) hc i c
 |vnil=>exact .vnil
 |vsl a f j hc i h g c=>exact .vsl a f (fun d l=>m _ (j d l)) hc i c g
theorem Rep.vfree{d:D}{v:Value}(h:Rep ok w ι H d v)(c:vFree d=true)(ok':Nat->Prop):Rep ok' w ι H d v:=by
 induction h with
 |bool b=>exact .bool b
 |int k n=>exact .int k n
 |str s=>exact .str s
 |nilp=>exact .nilp
 |nilf=>exact .nilf
 |nili=>exact .nili
 |raw v=>exact .raw v
 |agg i hc h e=>
  simp only[vFree,qhb] at c;exact .agg i hc fun j d g=>e j d g (c d (mem_of_get? g))
 |tup i h e=>
  simp only[vFree,qhb] at c;exact .tup i fun j d g=>e j d g (c d (mem_of_get? g))
 |fn i h e=>
  simp only[vFree,qhb] at c;exact .fn i fun j d g=>e j d g (c d (mem_of_get? g))
 |iface h e=>exact .iface (e c)
 |optr a hi h=>exact .optr a hi h
 |osl a hi h l=>exact .osl a hi h l
 |vptr a f o hc m h e=>simp[vFree] at c
 |vnil=>exact .vnil
 |vsl a f o hc m h l e=>simp[vFree] at c
def qh6(ok:Nat->Prop)(ι:qU)(H:qe)(b:Nat):Prop:=ok b\/∃i ds s,qd H i=some ds/\ι i=some (b,s)
theorem qc1{ds:List D}(h:ds.all idFree=true):∀d,d∈ds->idFree d=true:=by
 intro d a;exact List.all_eq_true.1 h d a
theorem freeze_rep(A:Sim X ok w ι H):∀(d:D){d':D}{v:Value},Rep ok w ι H d v->freeze H d=some d'->Rep (qh6 ok ι H) w jA [] d' v
 | .osl i st off F k,d',v,h,g=>by
  simp only[freeze] at g;split at g
  .rename_i ds o;split at g
   .rename_i l;injection g with g;subst g;cases h with
    | @osl _ _ _ _ _ _ _ c a hi r Q=>
     obtain⟨b,s,u,rfl,Z⟩:=(r ds o).2 l.1;obtain⟨b',arr,e,fr,n,T,G,B,P,V,K,C⟩:=A.blk i ds o;have O:=n;rw[u] at n;injection n with n;injection n with n _;subst n;refine .vsl _ (fun j=>arr.getD (off+j) undef) (fun _ _=>.inr ⟨i,ds,_,o,u⟩) (fun d o=>K d (Zz (QX o))) (fun j d m=>?_) (fun j d m=>?_) Q
     .rw[Xs] at m;split at m
      .rw[Qa] at m;have E:off+j<arr.size:=vd (List.getElem?_eq_some_iff.1 m).1 B;rw[Vl,Y6 G];simp[E]
      .cases m
     .have W:d∈(ds.drop off).take (F*k):=j7 m;rw[Xs] at m;split at m
      .rw[Qa] at m;exact((C _ d m).free (l.2.2.elim (fun Y=>qc1 Y d (mem_of_get? m)) (fun p=>qc1 p d W)) _ _).okMono fun b p=>.inl p
      .cases m
   .cases g
  .cases g
 | .optr i st off,d',v,h,g=>by
  simp only[freeze] at g;split at g
  .rename_i ds o;split at g
   .rename_i l;injection g with g;subst g;cases h with
    |optr a hi r=>
     obtain⟨b,s,u,rfl⟩:=(r ds o).2 l.1;obtain⟨b',arr,e,fr,n,T,G,B,P,V,K,C⟩:=A.blk i ds o;rw[u] at n;injection n with n;injection n with n _;subst n;refine .vptr _ (fun j=>arr.getD (off+j) undef) (fun _ _=>.inr ⟨i,ds,_,o,u⟩) (fun d o=>K d (Zz o)) (fun j d m=>?_) (fun j d m=>?_)
     .rw[Qa] at m;have E:off+j<arr.size:=vd (List.getElem?_eq_some_iff.1 m).1 B;rw[Vl,Y6 G];simp[E]
     .rw[Qa] at m;exact((C _ d m).free (qc1 l.2 d (mem_of_get? m)) _ _).okMono fun b p=>.inl p
   .cases g
  .cases g
 | .fn f q,d',v,h,g=>by
  simp only[freeze] at g;cases hc:freeze.freezeL H q with
  |none=>simp[hc] at g
  |some cs=>
   simp only[hc,jn,qy] at g;subst g;cases h with
   |fn J r=>
    obtain⟨y,z⟩:=freezeL_rep A q (vs:=fun j=>(_:Array Value).getD j undef) r hc;exact .fn (by rw[J,y]) z
 | .agg cs,d',v,h,g=>by
  simp only[freeze] at g;cases hc:freeze.freezeL H cs with
  |none=>simp[hc] at g
  |some R=>
   simp only[hc,jn,qy] at g;subst g;cases h with
   |agg J S r=>
    obtain⟨y,z⟩:=freezeL_rep A cs (vs:=fun j=>(_:Array Value).getD j undef) r hc;refine .agg (by rw[J,y]) ?_ z;intro d o;obtain⟨j,m⟩:=List.mem_iff_getElem?.1 o;have N:=z j d m;have U:j<cs.length:=(by rw[y];exact(List.getElem?_eq_some_iff.1 m).1);have M:cs[j]?=some cs[j]:=qM U;have L:=(r j _ M).oneCell (S _ (mem_of_get? M));generalize Array.getD _ j undef=x at N L;cases N<;>first|rfl|exact L|simp[Value.oneCell'] at L
 | .tup cs,d',v,h,g=>by
  simp only[freeze] at g;split at g
  .rename_i I;injection g with g;subst g;exact(h.free I _ _).okMono fun b p=>.inl p
  .cases g
 | .iface t d,d',v,h,g=>by
  simp only[freeze] at g;split at g
  .rename_i I;injection g with g;subst g;exact(h.free I _ _).okMono fun b p=>.inl p
  .cases g
 | .bool _,d',v,h,g| .int _ _,d',v,h,g| .str _,d',v,h,g| .nilp,d',v,h,g| .nilf,d',v,h,g| .nili,d',v,h,g| .raw _,d',v,h,g| .vptr _,d',v,h,g| .vsl _ _ _,d',v,h,g=>by
  simp only[freeze,idFree,if_true,qy] at g;subst g;exact(h.free rfl _ _).okMono fun b p=>.inl p
where freezeL_rep (hs:Sim X ok w ι H):∀(l:List D){l':List D}{vs:Nat->Value},(∀(j:Nat) d,l[j]?=some d->Rep ok w ι H d (vs j))->freeze.freezeL H l=some l'->
      l.length=l'.length/\∀(j:Nat) d,l'[j]?=some d->Rep (qh6 ok ι H) w jA [] d (vs j)
 |[],l',vs,_,hf=>by
  simp only[freeze.freezeL,qy] at hf;subst hf;simp
 |d::l,l',vs,h,hf=>by
  simp only[freeze.freezeL] at hf;split at hf
  .rename_i d1 l1 h1 h2;injection hf with hf;subst hf;obtain⟨k1,k2⟩:=freezeL_rep hs l (vs:=fun j=>vs (j+1)) (fun j x hx=>h (j+1) x wY) h2;refine⟨by simp[k1],fun j x hx=>?_⟩;cases j with
   |zero=>
    simp only[Qb,qy] at hx;subst hx;exact freeze_rep hs d (h 0 d rfl) h1
   |succ j=>exact k2 j x wY
  .cases hf
theorem qfU(n:Nat):∀(l:List D)(j:Nat),(shift.shiftL n l)[j]?=(l[j]?).map (shift n)
 |[],j=>by simp[shift.shiftL]
 |d::l,0=>by simp[shift.shiftL]
 |d::l,j+1=>by simp[shift.shiftL,qfU n l j]
theorem qhs(n:Nat):∀(l:List D),(shift.shiftL n l).length=l.length
 |[]=>rfl
 |d::l=>by simp[shift.shiftL,qhs n l]
def qaO(n:Nat)(ι ι1:qU):qU:=fun i=>if i<n then ι i else ι1 (i-n)
theorem qez{L:qe}{i:Nat}(h:i<H.length):qd (H++L) i=qd H i:=by simp[qd,vD h]
theorem qgz{L:qe}{i:Nat}:qd (H++L) (H.length+i)=qd L i:=by
 unfold qd;rw[jl wC];congr 2;omega
theorem qk8{n i:Nat}{ι ι1:qU}:qaO n ι ι1 (n+i)=ι1 i:=by
 unfold qaO;rw[if_neg wC];congr 1;omega
theorem qxK{n:Nat}{d:D}(h:jt d=true):jt (shift n d)=true:=by cases d<;>first|rfl|exact h|simp[jt] at h
theorem Rep.shift{L:qe}{ι1:qU}{d:D}{v:Value}(h:Rep ok w ι1 L d v)(ι:qU)(H:qe):Rep ok w (qaO H.length ι ι1) (H++L) (Ev.shift H.length d) v:=by
 induction h with
 |bool b=>exact .bool b
 |int k n=>exact .int k n
 |str s=>exact .str s
 |nilp=>exact .nilp
 |nilf=>exact .nilf
 |nili=>exact .nili
 |raw v=>exact .raw v
 |agg l hc h g=>
  refine .agg (by rw[qhs];exact l) ?_ fun j d c=>?_
  .intro d i;obtain⟨j,c⟩:=List.mem_iff_getElem?.1 i;rw[qfU] at c;simp only[Kw] at c;obtain⟨x,hx,rfl⟩:=c;exact qxK (hc x (mem_of_get? hx))
  .rw[qfU] at c;simp only[Kw] at c;obtain⟨x,hx,rfl⟩:=c;exact g j x hx
 |tup l h g=>
  refine .tup (by rw[qhs];exact l) fun j d c=>?_;rw[qfU] at c;simp only[Kw] at c;obtain⟨x,hx,rfl⟩:=c;exact g j x hx
 |fn l h g=>
  refine .fn (by rw[qhs];exact l) fun j d c=>?_;rw[qfU] at c;simp only[Kw] at c;obtain⟨x,hx,rfl⟩:=c;exact g j x hx
 |iface h g=>exact .iface g
 |optr a hi h=>
  refine .optr a wG fun ds i=>?_;rw[qgz] at i;obtain⟨r,o⟩:=h ds i;refine⟨r,fun e=>?_⟩;obtain⟨b,s,u,q⟩:=o e;exact⟨b,s,by rw[qk8];exact u,q⟩
 |osl a hi h m=>
  refine .osl a wG (fun ds i=>?_) m;rw[qgz] at i;obtain⟨r,o⟩:=h ds i;refine⟨r,fun e=>?_⟩;obtain⟨b,s,u,q⟩:=o e;exact⟨b,s,by rw[qk8];exact u,q⟩
 |vptr a f t hc p h g=>exact .vptr a f t hc p h
 |vnil=>exact .vnil
 |vsl a f t hc p h m g=>exact .vsl a f t hc p h m
theorem qv7{L:qe}{ι1:qU}{ok2:Nat->Prop}(p:Sim X ok w ι H)(J:qa1 w w')(R:w.heap.size<=w'.heap.size)(x:∀b,b<w.heap.size->w'.heap[b]?=w.heap[b]?)
  (U:∀b,ok b->ok2 b) (N:∀b,ok2 b->b<w.heap.size->ok b) (O:∀b,ok2 b->b<w'.heap.size)
  (hi:∀i j ds r b s A,qd L i=some ds->qd L j=some r->ι1 i=some (b,s)->ι1 j=some (b,A)->i=j)
  (C:∀i ds,qd L i=some ds->∃b arr e fr,ι1 i=some (b,arr.size)/\w.heap.size<=b/\¬ok2 b/\w'.heap[b]?=some (.cells arr e fr)/\ds.length<=arr.size/\
   (fr.1=fr.2\/arr.size<=fr.1)/\(∀j,j<arr.size->(arr.getD j undef).oneCell'=true)/\(∀d,d∈ds->jt d=true)/\
   (∀(j:Nat) d,ds[j]?=some d->Rep ok2 w' jA [] d (arr.getD j undef))):
  Sim X ok2 w' (qaO H.length ι ι1) (H++L)/\Evol H.length ok w ι H ok2 w' (qaO H.length ι ι1) (H++L):=by
 have E:∀i ds,qd (H++L) i=some ds->(i<H.length/\qd H i=some ds/\qaO H.length ι ι1 i=ι i)\/(H.length<=i/\qd L (i-H.length)=some ds/\qaO H.length ι ι1 i=ι1 (i-H.length)):=by
  intro i ds m;by_cases c:i<H.length
  .rw[qez c] at m;exact .inl ⟨c,m,by simp[qaO,c]⟩
  .obtain⟨k,rfl⟩:∃k,i=H.length+k:=⟨i-H.length,wC⟩;rw[qgz] at m;exact .inr ⟨wC,by simpa using m,by rw[qk8];congr 1;omega⟩
 have q:Evol H.length ok w ι H ok2 w' (qaO H.length ι ι1) (H++L):=by
  refine⟨J.1,J.2.1,J.2.2,R,fun b a _=>x b a,U,fun b a c=>.inl (N b a c),⟨qA _,wE⟩,?_,?_⟩
  .intro i c ds m;rw[qez c] at m;exact⟨ds,m,qA _,fun _=>by simp[qaO,c]⟩
  .intro i ds b s m a c;rcases E i ds m with⟨y,f,l⟩|⟨y,f,l⟩
   .exact⟨i,ds,s,f,by rw[<-l];exact a⟩
   .obtain⟨b',arr,e,fr,n,u,_⟩:=C _ ds f;rw[l,n] at a;injection a with a;injection a with a _;omega
 refine⟨⟨O,?_,?_,?_⟩,q⟩
 .intro g cs T;exact(((p.glob g cs T).lift (ι:=ι) (H:=H)).evol p q rfl).free rfl _ _
 .intro i j ds r b s A m P a o;rcases E i ds m with⟨y,f,l⟩|⟨y,f,l⟩<;>rcases E j r P with⟨Q,v,t⟩|⟨Q,v,t⟩
  .exact p.inj i j ds r b s A f v (by rw[<-l];exact a) (by rw[<-t];exact o)
  .have c:=p.lt f (by rw[<-l];exact a);obtain⟨b',arr,e,fr,n,u,_⟩:=C _ r v;rw[t,n] at o;injection o with o;injection o with o _;omega
  .have c:=p.lt v (by rw[<-t];exact o);obtain⟨b',arr,e,fr,n,u,_⟩:=C _ ds f;rw[l,n] at a;injection a with a;injection a with a _;omega
  .have:=hi _ _ ds r b s A f v (by rw[<-l];exact a) (by rw[<-t];exact o);omega
 .intro i ds m;rcases E i ds m with⟨y,f,l⟩|⟨y,f,l⟩
  .obtain⟨b,arr,e,fr,n,u,K,I,M,F,G,z⟩:=p.blk i ds f;have c:=p.lt f n;exact⟨b,arr,e,fr,by rw[l];exact n,fun h=>u (N b h c),by rw[x b c];exact K,I,M,F,G,fun j d B=>(z j d B).evol p q (z j d B).closed⟩
  .obtain⟨b,arr,e,fr,n,u,K,I,M,F,G,z,S⟩:=C _ ds f;exact⟨b,arr,e,fr,by rw[l];exact n,K,I,M,F,G,z,fun j d B=>(S j d B).lift⟩
end
end Go.Ev
namespace Go.Ev
section
variable {X:Cx} {P:Program} {ok ok':Nat->Prop} {w w':World} {ι:qU} {H H':qe}
structure PInv (n0:Nat) (H:qe) (seen:List Nat) (acc:qe):Prop where
 len:acc.length=seen.length
 at_:∀(p i:Nat),seen[p]?=some i->n0<=i/\∃ds,qd H i=some ds/\acc[p]?=some (some ds)/\ds.all idFree=true
 nd:seen.Nodup
def VP(n0:Nat)(ι:qU)(S:List Nat):qU:=fun i=>if i<n0 then ι i else(S[i-n0]?).bind ι
def qvZ(n0:Nat)(H:qe)(seen a:List Nat)(acc b:qe):Prop:=
 PInv n0 H a b/\(∃t,a=seen++t)/\(∃u,b=acc++u)
theorem qib{n0 i:Nat}(h:i<n0):qd (H.take n0) i=qd H i:=by
 simp[qd,h]
theorem qic{n0 i:Nat}{A:qe}(a:n0<=H.length)(h:i<n0):qd (H.take n0++A) i=qd H i:=by
 rw[qez wG,qib h]
theorem qtl{n0 p:Nat}{A:qe}(a:n0<=H.length):qd (H.take n0++A) (n0+p)=qd A p:=by
 have:(H.take n0).length=n0:=wG
 have h:=qgz (H:=H.take n0) (L:=A) (i:=p)
 rwa [this] at h
theorem qoc{n0 p:Nat}{S:List Nat}:VP n0 ι S (n0+p)=(S[p]?).bind ι:=by
 unfold VP;rw[if_neg wC];congr 2;omega
theorem qt4{n0 i:Nat}{seen S:List Nat}{acc A:qe}(g:n0<=H.length)(b:PInv n0 H seen acc)(f:PInv n0 H S A)(a:∃t,S=seen++[i]++t):
  qd (H.take n0++A) (n0+acc.length)=qd H i/\VP n0 ι S (n0+acc.length)=ι i/\n0+acc.length<(H.take n0++A).length:=by
 obtain⟨t,rfl⟩:=a
 have d:(seen++[i]++t)[acc.length]?=some i:=by
  rw[b.len];simp
 obtain⟨_,ds,e,c,_⟩:=f.at_ _ _ d;refine⟨?_,?_,?_⟩
 .rw[qtl g,e];simp[qd,c]
 .rw[qoc,d];rfl
 .have:acc.length<A.length:=(List.getElem?_eq_some_iff.1 c).1;simp;omega
theorem PInv.add{n0 i:Nat}{seen:List Nat}{acc:qe}{ds:List D}(c:PInv n0 H seen acc)(hi:n0<=i)(r:qd H i=some ds)(h:ds.all idFree=true)(n:i∉seen):PInv n0 H (seen++[i]) (acc++[some ds]):=by
 refine⟨by simp[c.len],fun p j d=>?_,?_⟩
 .by_cases f:p<seen.length
  .rw[vD f] at d;obtain⟨m,es,l,k,q⟩:=c.at_ p j d;exact⟨m,es,l,by rw[vD (by rw[c.len];exact f)];exact k,q⟩
  .have s:p=seen.length:=by
    have:=(List.getElem?_eq_some_iff.1 d).1;simp at this;omega
   subst s;simp at d;subst d;exact⟨hi,ds,r,by rw[<-c.len];simp,h⟩
 .rw[List.nodup_append];exact⟨c.nd,wE,by intro a o b g;simp at g;subst g;intro e;subst e;exact n o⟩
theorem qoe(n0:Nat)(u:n0<=H.length):∀(d:D){seen b:List Nat}{acc e:qe}{d':D},PInv n0 H seen acc->pack1 n0 H seen acc d=some (d',b,e)->
  qvZ n0 H seen b acc e/\(jt d=true->jt d'=true)/\∀(S:List Nat)(A:qe)(v:Value),PInv n0 H S A->(∃t,S=b++t)->Rep ok w ι H d v->Rep ok w (VP n0 ι S) (H.take n0++A) d' v
 | .osl i st off F k,seen,b,acc,e,d',c,h=>by
  simp only[pack1] at h;split at h
  .rename_i x;simp only[qy,zi] at h;obtain⟨rfl,rfl,rfl⟩:=h;refine⟨⟨c,⟨[],wE⟩,⟨[],wE⟩⟩,fun _=>rfl,fun S A v o g m=>?_⟩;cases m with
   |osl a hi n y=>
    refine .osl a wG (fun ds l=>?_) y;rw[qic u x] at l;have:VP n0 ι S i=ι i:=(by simp[VP,x]);rw[this];exact n ds l
  .rename_i E;split at h
   .rename_i ds l;split at h
    .rename_i f;simp only[qy,zi] at h;obtain⟨rfl,rfl,rfl⟩:=h;refine⟨⟨c.add wC l f.1 f.2,⟨[i],rfl⟩,⟨_,rfl⟩⟩,fun _=>rfl,fun S A v o g m=>?_⟩;obtain⟨s,q,p⟩:=qt4 (ι:=ι) u c o g;cases m with
     |osl a hi n y=>
      refine .osl a p (fun ds l=>?_) y;rw[s] at l;rw[q];exact n ds l
    .cases h
   .cases h
 | .optr i st off,seen,b,acc,e,d',c,h=>by
  simp only[pack1] at h;split at h
  .rename_i x;simp only[qy,zi] at h;obtain⟨rfl,rfl,rfl⟩:=h;refine⟨⟨c,⟨[],wE⟩,⟨[],wE⟩⟩,fun _=>rfl,fun S A v o g m=>?_⟩;cases m with
   |optr a hi n=>
    refine .optr a wG fun ds l=>?_;rw[qic u x] at l;have:VP n0 ι S i=ι i:=(by simp[VP,x]);rw[this];exact n ds l
  .rename_i E;split at h
   .rename_i ds l;split at h
    .rename_i f;simp only[qy,zi] at h;obtain⟨rfl,rfl,rfl⟩:=h;refine⟨⟨c.add wC l f.1 f.2,⟨[i],rfl⟩,⟨_,rfl⟩⟩,fun _=>rfl,fun S A v o g m=>?_⟩;obtain⟨s,q,p⟩:=qt4 (ι:=ι) u c o g;cases m with
     |optr a hi n=>
      refine .optr a p fun ds l=>?_;rw[s] at l;rw[q];exact n ds l
    .cases h
   .cases h
 | .agg cs,seen,b,acc,e,d',c,h=>by
  simp only[pack1] at h;cases g:pack1.packs n0 H seen acc cs with
  |none=>simp[g] at h
  |some r=>
   obtain⟨z,I,J⟩:=r;simp only[g,jn,qy,zi] at h;obtain⟨rfl,rfl,rfl⟩:=h;obtain⟨s,q,p,C⟩:=packs_rep n0 u cs c g;refine⟨s,fun h=>by simp[jt] at h,fun S A v o g m=>?_⟩;cases m with
   |agg B hc n=>exact .agg (by rw[B,q]) (C hc) (p S A (fun j=>(_:Array Value).getD j undef) o g n)
 | .tup cs,seen,b,acc,e,d',c,h=>by
  simp only[pack1] at h;cases g:pack1.packs n0 H seen acc cs with
  |none=>simp[g] at h
  |some r=>
   obtain⟨z,I,J⟩:=r;simp only[g,jn,qy,zi] at h;obtain⟨rfl,rfl,rfl⟩:=h;obtain⟨s,q,p,C⟩:=packs_rep n0 u cs c g;refine⟨s,fun h=>by simp[jt] at h,fun S A v o g m=>?_⟩;cases m with
   |tup B n=>exact .tup (by rw[B,q]) (p S A (fun j=>(_:Array Value).getD j undef) o g n)
 | .bool _,seen,b,acc,e,d',c,h| .int _ _,seen,b,acc,e,d',c,h| .str _,seen,b,acc,e,d',c,h| .nilp,seen,b,acc,e,d',c,h
 | .nilf,seen,b,acc,e,d',c,h| .nili,seen,b,acc,e,d',c,h| .raw _,seen,b,acc,e,d',c,h| .vptr _,seen,b,acc,e,d',c,h| .vsl _ _ _,seen,b,acc,e,d',c,h
 | .fn _ _,seen,b,acc,e,d',c,h| .iface _ _,seen,b,acc,e,d',c,h=>by
  simp only[pack1] at h;split at h
  .rename_i G;simp only[qy,zi] at h;obtain⟨rfl,rfl,rfl⟩:=h;exact⟨⟨c,⟨[],wE⟩,⟨[],wE⟩⟩,fun h=>h,fun S A v o g m=>m.free G _ _⟩
  .cases h
where packs_rep (n0:Nat) (hn:n0<=H.length):∀(l:List D){seen seen':List Nat}{acc acc':qe}{l':List D},PInv n0 H seen acc->pack1.packs n0 H seen acc l=some (l',seen',acc')->
      qvZ n0 H seen seen' acc acc'/\l.length=l'.length/\(∀(S:List Nat)(A:qe)(v:Nat->Value),PInv n0 H S A->(∃t,S=seen'++t)->(∀(j:Nat) d,l[j]?=some d->Rep ok w ι H d (v j))->
      ∀(j:Nat) d,l'[j]?=some d->Rep ok w (VP n0 ι S) (H.take n0++A) d (v j))/\((∀d,d∈l->jt d=true)->∀d,d∈l'->jt d=true)
 |[],seen,seen',acc,acc',l',hinv,h=>by
  simp only[pack1.packs,qy,zi] at h;obtain⟨rfl,rfl,rfl⟩:=h;exact⟨⟨hinv,⟨[],wE⟩,⟨[],wE⟩⟩,rfl,fun _ _ _ _ _ _=>wE,fun _=>wE⟩
 |d::l,seen,seen',acc,acc',l',hinv,h=>by
  simp only[pack1.packs] at h;split at h
  .rename_i d1 s1 a1 h1;split at h
   .rename_i l1 s2 a2 h2;simp only[qy,zi] at h;obtain⟨rfl,rfl,rfl⟩:=h;obtain⟨⟨k1,⟨t1,k2⟩,⟨u1,k3⟩⟩,k4,k5⟩:=qoe n0 hn d hinv h1;obtain⟨⟨q1,⟨t2,q2⟩,⟨u2,q3⟩⟩,q4,q5,q6⟩:=packs_rep n0 hn l k1 h2;refine⟨⟨q1,⟨t1++t2,by rw[q2,k2];simp⟩,⟨u1++u2,by rw[q3,k3];simp⟩⟩,by simp[q4],fun S A v hA hp hr j x hx=>?_,fun hc x hx=>?_⟩
    .cases j with
     |zero=>
      simp only[Qb,qy] at hx;subst hx;obtain⟨t,ht⟩:=hp;exact k5 S A (v 0) hA ⟨t2++t,by rw[ht,q2];simp⟩ (hr 0 d rfl)
     |succ j=>exact q5 S A (fun j=>v (j+1)) hA hp (fun j x hx=>hr (j+1) x wY) j x wY
    .rcases List.mem_cons.1 hx with rfl|hx
     .exact k4 (hc d (Jd ..))
     .exact q6 (fun y hy=>hc y (vy _ hy)) x hx
   .cases h
  .cases h
theorem ql4{m:Nat}(c:m<=H.length):Evol m ok w ι H ok w ι (H.take m):=
 ⟨rfl,rfl,rfl,qA _,fun _ _ _=>rfl,fun _ h=>h,fun _ h _=>.inl h,⟨c,wG⟩,fun i hi ds a=>⟨ds,by rwa [qib hi] at a,qA _,fun _=>rfl⟩,
  fun i ds b s a d _=>by
   have hi:i<m:=by
    have:=qx a;simp at this;omega
   rw[qib hi] at a;exact⟨i,ds,s,a,d⟩⟩
theorem qvC{m i:Nat}{ds:List D}(h:(H.take m).all (Xp m)=true)(hi:i<m)(a:qd H i=some ds):∀d,d∈ds->closed m d=true:=by
 have b:=qx a
 have c:H[i]?=some (some ds):=by
  unfold qd at a;rw[qM b] at a⊢;simpa using a
 have e:some ds∈H.take m:=j7 (i:=i) (by rw[Xs,if_pos hi];exact c);have:=List.all_eq_true.1 h _ e;simp only[Xp] at this;exact List.all_eq_true.1 this
theorem q5p{m:Nat}(k:m<=H.length)(c:Sim X ok w ι H)(hc:(H.take m).all (Xp m)=true):Sim X ok w ι (H.take m):=by
 have f:∀i ds,qd (H.take m) i=some ds->i<m/\qd H i=some ds:=by
  intro i ds a
  have hi:i<m:=by
   have:=qx a;simp at this;omega
  exact⟨hi,by rwa [qib hi] at a⟩
 refine⟨c.okS,c.glob,fun i j ds h b s l a o=>c.inj i j ds h b s l (f i ds a).2 (f j h o).2,fun i ds a=>?_⟩;obtain⟨hi,a⟩:=f i ds a;obtain⟨b,arr,e,fr,u,p,n,r,t,x,q,v⟩:=c.blk i ds a;exact⟨b,arr,e,fr,u,p,n,r,t,x,q,fun j d g=>(v j d g).evol c (ql4 k) (qvC hc hi a d (mem_of_get? g))⟩
theorem qnZ{n0:Nat}(E:n0<=H.length)(k:Sim X ok w ι H){r r':D}{v:Value}(hr:Rep ok w ι H r v)(h:qek n0 H r=some (r',H')):
  ∃ι',Sim X ok w ι' H'/\Rep ok w ι' H' r' v/\Evol n0 ok w ι H ok w ι' H'/\(∀i ds,n0<=i->qd H' i=some ds->ds.all idFree=true):=by
 unfold qek at h;split at h
 .rename_i r1 S A hp;split at h
  .rename_i hc;simp only[qy,zi] at h;obtain⟨rfl,rfl⟩:=h;obtain⟨⟨J,_,_⟩,_,k3⟩:=qoe (ok:=ok) (w:=w) (ι:=ι) n0 E r (seen:=[]) (acc:=[]) ⟨rfl,wE,wE⟩ hp;have t:=k3 S A v J ⟨[],wE⟩ hr
   have z:∀i ds,qd (H.take n0++A) i=some ds->(i<n0/\qd H i=some ds/\VP n0 ι S i=ι i)\/(∃p j,i=n0+p/\S[p]?=some j/\n0<=j/\qd H j=some ds/\VP n0 ι S i=ι j/\ds.all idFree=true):=by
    intro i ds c;by_cases q:i<n0
    .rw[qic E q] at c;exact .inl ⟨q,c,by simp[VP,q]⟩
    .obtain⟨p,rfl⟩:∃p,i=n0+p:=⟨i-n0,wC⟩;rw[qtl E] at c;have O:=qx c;have l:S[p]?=some (S[p]'(by rw[<-J.len];exact O)):=qM _;obtain⟨g,m,a,f,y⟩:=J.at_ _ _ l
     have:m=ds:=by
      unfold qd at c;rw[f] at c;simpa using c
     subst this;exact .inr ⟨p,_,rfl,l,g,a,by rw[qoc,l];rfl,y⟩
   have F:Evol n0 ok w ι H ok w (VP n0 ι S) (H.take n0++A):=by
    refine⟨rfl,rfl,rfl,qA _,fun _ _ _=>rfl,fun _ h=>h,fun _ h _=>.inl h,⟨E,wG⟩,?_,?_⟩
    .intro i hi ds c;rw[qic E hi] at c;exact⟨ds,c,qA _,fun _=>by simp[VP,hi]⟩
    .intro i ds b s c n _;rcases z i ds c with⟨g,a,f⟩|⟨p,j,_,_,_,a,f,_⟩
     .exact⟨i,ds,s,a,xi⟩
     .exact⟨j,ds,s,a,xi⟩
   refine⟨VP n0 ι S,⟨k.okS,k.glob,?_,?_⟩,t,F,?_⟩
   .intro i j ds m b s I c he n G;rcases z i ds c with⟨g,a,f⟩|⟨p,W,rfl,g,B,a,f,_⟩<;>rcases z j m he with⟨l1,u,o⟩|⟨R,j',rfl,l1,aa,u,o,_⟩
    .exact k.inj i j ds m b s I a u xi (by rw[<-o];exact G)
    .have:=k.inj i j' ds m b s I a u xi (by rw[<-o];exact G);omega
    .have:=k.inj W j ds m b s I a u xi (by rw[<-o];exact G);omega
    .have:=k.inj W j' ds m b s I a u xi (by rw[<-o];exact G);subst this;have kC:=(List.getElem?_eq_some_iff.1 g);have Js:=(List.getElem?_eq_some_iff.1 l1);obtain⟨a1,Y⟩:=kC;obtain⟨b1,Z⟩:=Js;have C:=List.pairwise_iff_getElem.1 J.nd;rcases Nat.lt_trichotomy p R with q|Kj|Q
     .exact absurd (Y.trans Z.symm) (C p R a1 b1 q)
     .omega
     .exact absurd (Z.trans Y.symm) (C R p b1 a1 Q)
   .intro i ds c;rcases z i ds c with⟨g,a,f⟩|⟨p,j,rfl,g,B,a,f,y⟩
    .obtain⟨b,arr,e,fr,T,P,N,M,U,K,V,L⟩:=k.blk i ds a;exact⟨b,arr,e,fr,by rw[f];exact T,P,N,M,U,K,V,fun j d x=>(L j d x).evol k F (qvC hc g a d (mem_of_get? x))⟩
    .obtain⟨b,arr,e,fr,T,P,N,M,U,K,V,L⟩:=k.blk j ds a;exact⟨b,arr,e,fr,by rw[f];exact T,P,N,M,U,K,V,fun j d x=>(L j d x).free (qc1 y d (mem_of_get? x)) _ _⟩
   .intro i ds hi c;rcases z i ds c with⟨g,a,f⟩|⟨p,j,rfl,g,B,a,f,y⟩
    .omega
    .exact y
  .cases h
 .cases h
end
end Go.Ev
