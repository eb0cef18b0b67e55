import Derived.WalkKit
import Derived.Scope
import Derived.Laws.AppendOwn
import Derived.Laws.Append
import Derived.Lib.ConvBytes
import Derived.Laws.BytesArg
import Derived.ChangeKeysEq
import Derived.Laws.StructEq
namespace Go.Ev
theorem zw:type_of% @Array.getD_eq_getD_getElem?:=@Array.getD_eq_getD_getElem?
theorem qcE:type_of% @Array.getElem?_append_left:=@Array.getElem?_append_left
theorem Qi:type_of% @Array.getElem?_eq_getElem:=@Array.getElem?_eq_getElem
theorem qcD:type_of% @Array.getElem?_eq_none:=@Array.getElem?_eq_none
theorem qgz:type_of% @Array.getElem?_modify:=@Array.getElem?_modify
theorem qeu:type_of% @Array.getElem?_replicate:=@Array.getElem?_replicate
theorem qb9:type_of% @Array.getElem?_setIfInBounds_ne:=@Array.getElem?_setIfInBounds_ne
theorem qet:type_of% @BitVec.ofInt_natCast:=@BitVec.ofInt_natCast
theorem qes:type_of% @BitVec.toNat_ofNat:=@BitVec.toNat_ofNat
theorem zL:type_of% @Bool.and_eq_true:=@Bool.and_eq_true
theorem qcC:type_of% @Bool.false_and:=@Bool.false_and
theorem kB:type_of% @Bool.false_eq_true:=@Bool.false_eq_true
theorem qam:type_of% @Bool.or_eq_true:=@Bool.or_eq_true
theorem qer:type_of% @Bool.true_and:=@Bool.true_and
theorem qal:type_of% @List.all_cons:=@List.all_cons
theorem ZT:type_of% @List.append_assoc:=@List.append_assoc
theorem Xm:type_of% @List.append_nil:=@List.append_nil
theorem Jx:type_of% @List.cons_append:=@List.cons_append
theorem zk:type_of% @List.drop_append:=@List.drop_append
theorem kA:type_of% @List.drop_drop:=@List.drop_drop
theorem vR:type_of% @List.drop_eq_getElem_cons:=@List.drop_eq_getElem_cons
theorem JS:type_of% @List.drop_eq_nil_of_le:=@List.drop_eq_nil_of_le
theorem VH:type_of% @List.drop_left':=@List.drop_left'
theorem qak:type_of% @List.eq_nil_of_length_eq_zero:=@List.eq_nil_of_length_eq_zero
theorem qen:type_of% @List.flatten_cons:=@List.flatten_cons
theorem jd:type_of% @List.getD_eq_getElem?_getD:=@List.getD_eq_getElem?_getD
theorem jX:type_of% @List.getElem?_append_left:=@List.getElem?_append_left
theorem ku:type_of% @List.getElem?_append_right:=@List.getElem?_append_right
theorem qb8:type_of% @List.getElem?_cons_succ:=@List.getElem?_cons_succ
theorem Qh:type_of% @List.getElem?_cons_zero:=@List.getElem?_cons_zero
theorem ke:type_of% @List.getElem?_drop:=@List.getElem?_drop
theorem qU:type_of% @List.getElem?_eq_getElem:=@List.getElem?_eq_getElem
theorem Zc:type_of% @List.getElem?_map:=@List.getElem?_map
theorem JR:type_of% @List.getElem?_take:=@List.getElem?_take
theorem vQ:type_of% @List.getElem_mem:=@List.getElem_mem
theorem qX:type_of% @List.length_append:=@List.length_append
theorem ju:type_of% @List.length_cons:=@List.length_cons
theorem Zb:type_of% @List.length_drop:=@List.length_drop
theorem jR:type_of% @List.length_nil:=@List.length_nil
theorem vt:type_of% @List.length_set:=@List.length_set
theorem kt:type_of% @List.length_take:=@List.length_take
theorem ji:type_of% @List.mem_append:=@List.mem_append
theorem qaj:type_of% @List.mem_append_left:=@List.mem_append_left
theorem zA:type_of% @List.mem_cons:=@List.mem_cons
theorem kS:type_of% @List.mem_cons_of_mem:=@List.mem_cons_of_mem
theorem Za:type_of% @List.mem_cons_self:=@List.mem_cons_self
theorem kI:type_of% @List.mem_map:=@List.mem_map
theorem ZS:type_of% @List.mem_of_getElem?:=@List.mem_of_getElem?
theorem QG:type_of% @List.mem_of_mem_drop:=@List.mem_of_mem_drop
theorem JQ:type_of% @List.mem_of_mem_take:=@List.mem_of_mem_take
theorem qb7:type_of% @List.mem_or_eq_of_mem_set:=@List.mem_or_eq_of_mem_set
theorem qaG:type_of% @List.mem_singleton:=@List.mem_singleton
theorem JP:type_of% @List.nil_append:=@List.nil_append
theorem qai:type_of% @List.replicate_succ:=@List.replicate_succ
theorem qle:type_of% @List.set_eq_take_append_cons_drop:=@List.set_eq_take_append_cons_drop
theorem kR:type_of% @List.take_append:=@List.take_append
theorem qem:type_of% @List.take_append_drop:=@List.take_append_drop
theorem qP:type_of% @List.take_of_length_le:=@List.take_of_length_le
theorem qel:type_of% @Nat.add_assoc:=@Nat.add_assoc
theorem QZ:type_of% @Nat.add_mul:=@Nat.add_mul
theorem qv:type_of% @Nat.le_refl:=@Nat.le_refl
theorem jA:type_of% @Nat.le_trans:=@Nat.le_trans
theorem jr:type_of% @Nat.lt_of_lt_of_le:=@Nat.lt_of_lt_of_le
theorem Yg:type_of% @Nat.lt_or_ge:=@Nat.lt_or_ge
theorem qc8:type_of% @Nat.mod_eq_of_lt:=@Nat.mod_eq_of_lt
theorem Yf:type_of% @Nat.mod_lt:=@Nat.mod_lt
theorem qah:type_of% @Nat.mul_le_mul_right:=@Nat.mul_le_mul_right
theorem Vy:type_of% @Nat.ne_of_lt:=@Nat.ne_of_lt
theorem qb6:type_of% @Nat.pow_le_pow_right:=@Nat.pow_le_pow_right
theorem qb5:type_of% @Nat.pow_succ:=@Nat.pow_succ
theorem Zx:type_of% @Nat.zero_add:=@Nat.zero_add
theorem vf:type_of% @Nat.zero_le:=@Nat.zero_le
theorem VG:type_of% @Option.bind_some:=@Option.bind_some
theorem Zw:type_of% @Option.getD_some:=@Option.getD_some
theorem QF:type_of% @Option.map_eq_some_iff:=@Option.map_eq_some_iff
theorem zT:type_of% @Option.map_some:=@Option.map_some
theorem qs:type_of% @Option.some.injEq:=@Option.some.injEq
theorem qK:type_of% @Prod.mk.injEq:=@Prod.mk.injEq
theorem qej:type_of% @UInt8.toNat_ofNat_of_lt':=@UInt8.toNat_ofNat_of_lt'
inductive D where
 | bool (b:Bool)
 | int (k:IntKind) (n:Int)
 | str (s:List UInt8)
 | nilp
 | nilf
 | nili
 | agg (cs:List D)
 | tup (cs:List D)
 | vptr (cs:List D)
 | optr (id st off:Nat)
 | vsl (nil:Bool) (cs:List D) (len:Nat)
 | osl (id st off len k:Nat)
 | fn (f:Nat) (caps:List D)
 | iface (t:Nat) (d:D)
 | raw (v:Value)
 deriving Inhabited
abbrev qd:=List (Option (List D))
abbrev qn:=List (Nat × D)
def qe (H:qd) (i:Nat):Option (List D):=(H[i]?).getD none
def ql (H:qd) (i:Nat) (ds:List D):qd:=H.set i (some ds)
def qg:qn→Nat→Option D
 | [],_=>none
 | (s,d) :: e,t=>if s = t then some d else qg e t
def zV (e:qn):Option Tmp→D→qn
 | none,_=>e
 | some t,d=>(t,d) :: e
def qa5:Value→Option D
 | .bool b=>some (.bool b)
 | .int k n=>some (.int k n)
 | .string s=>some (.str s.data.toList)
 | .pointer none=>some .nilp
 | .slice none 0 0=>some (.vsl true [] 0)
 | .nilFunc=>some .nilf
 | .nilIface=>some .nili
 | _=>none
def qa4:List Value→Option (List D)
 | []=>some []
 | v :: l=>match qa5 v,qa4 l with
  | some d,some ds=>some (d :: ds)
  | _,_=>none
def qbX:Value→Option D
 | .agg cs=>(qa4 cs.toList).map .agg
 | v=>qa5 v
structure Cx where
 P:Program
 /-- what the package-level variables hold that are read -/
 glob:Nat→Option (List D)
 /-- function,region: the slots that are kept at its head,and how many blocks of the call's own -/
 keep:Nat→Nat→Option (List Nat × Nat)
 /-- functions that work on their caller's own memory -/
 byRef:Nat→Bool
 /-- functions that make nothing and are handed nothing of the run's own -/
 pureF:Nat→Bool
 /-- functions without a body -/
 ext:Nat→List D→Option D
 /-- functions that are not taken -/
 bad:Nat→Bool
 /-- function,region: the slots that are told by value for qch at its head -/
 frz:Nat→Nat→List Nat
 /-- function,region: slots whose blocks alone are kept at its head -/
 ret:Nat→Nat→List Nat
 /-- functions whose result is told by value for qch -/
 fzr:Nat→Bool
 /-- functions that are met by a contract -/
 con:Nat→List D→qd→Option (D × qd)
 /-- functions to which what is handed is told by value for qch -/
 perm:Nat→Bool
 /-- in a region that draws its order,a function value must be one that makes nothing -/
 dynV:Bool
 /-- function,region: texts of bytes and of slices are told by value there,though it draws no order -/
 cv:Nat→Nat→Bool:=fun _ _=>false
 frb:Nat→Nat→List Nat:=fun _ _=>[]
 /-- function,region that draws its order: places of what writes and what reads that no order binds,looked at as they run;slots of texts that are the run's own (the others are told by value) -/
 lp:Nat→Nat→Option (List (Nat × Nat) × List Nat):=fun _ _=>none
 /-- functions (of byRef) that are run on their first argument's block alone -/
 loc:Nat→Bool:=fun _=>false
 /-- functions (of loc) that are run on their first argument's block and those that it names -/
 lom:Nat→Bool:=fun _=>false
 /-- function,region that draws its order: a variable's place that no order binds to what writes ahead of it -/
 al:Nat→Nat→Option Nat:=fun _ _=>none
 /-- functions (of byRef) that are run on all blocks that can be come to from what they are handed -/
 gr:Nat→Bool:=fun _=>false
def qB (X:Cx) (e:qn):Operand→Option D
 | .tmp t=>qg e t
 | .const v=>qbX v
 | .func f=>some (.fn f [])
 | .global g=>(X.glob g).map .vptr
def idFree:D→Bool
 | .agg cs | .tup cs | .fn _ cs=>idFreeL cs
 | .iface _ d=>idFree d
 | .optr .. | .osl ..=>false
 | _=>true
where idFreeL:List D→Bool
 | []=>true
 | d :: l=>idFree d && idFreeL l
def vFree:D→Bool
 | .agg cs | .tup cs | .fn _ cs=>vFreeL cs
 | .iface _ d=>vFree d
 | .vptr ..=>false
 | .vsl n _ _=>n
 | _=>true
where vFreeL:List D→Bool
 | []=>true
 | d :: l=>vFree d && vFreeL l
def closed (n:Nat):D→Bool
 | .agg cs | .tup cs | .fn _ cs=>closedL n cs
 | .iface _ d=>closed n d
 | .optr i _ _ | .osl i _ _ _ _=>decide (i < n)
 | _=>true
where closedL (n:Nat):List D→Bool
 | []=>true
 | d :: l=>closed n d && closedL n l
def qr (P:Program) (t:TypeId):Nat:=((P.info? t).map (·.size)).getD 0
def bytesOf (P:Program) (t:TypeId):Nat:=((P.info? t).map (·.bytes)).getD 0
def JU (P:Program) (t:TypeId):Option D:=((P.info? t).bind (·.zero)).bind qbX
def Ju (P:Program) (t:TypeId):Option Bool :=
 match P.underlying t with
 | some (.struct _) | some (.array _ _)=>some true
 | some _=>some false
 | none=>none
def cellsOf:D→Option (List D)
 | .agg cs=>some cs
 | .tup _ | .raw _=>none
 | d=>some [d]
def VQ (H:qd):D→Option (List D)
 | .vptr cs=>some cs
 | .optr i st off=>match qe H i with
  | some ds=>if ds.length = st then some (ds.drop off) else none
  | none=>none
 | _=>none
def Yz (P:Program) (H:qd) (t:TypeId) (p:D):Option D :=
 match Ju P t,VQ H p with
 | some true,some cs=>if qr P t≤cs.length then some (.agg (cs.take (qr P t))) else none
 | some false,some (d :: _)=>some d
 | _,_=>none
def qC (ds:List D) (off:Nat) (xs:List D):List D:=ds.take off ++ xs ++ ds.drop (off+xs.length)
def stD (P:Program) (H:qd) (t:TypeId) (p x:D):Option qd :=
 match p,cellsOf x with
 | .optr i st off,some xs=>match qe H i with
  | some ds=>if ds.length = st∧xs.length = qr P t∧0 < qr P t∧off+xs.length≤ds.length∧xs.all (closed H.length) then some (ql H i (qC ds off xs)) else none
  | none=>none
 | _,_=>none
def VL (H:qd) (k:Nat):D→Option (List D × Nat)
 | .vsl _ cs len=>if cs.length = len * k then some (cs,len) else none
 | .osl i st off len k'=>match qe H i with
  | some ds=>if ds.length = st∧k' = k∧off+len * k≤ds.length then some ((ds.drop off).take (len * k),len) else none
  | none=>none
 | _=>none
def qcm (P:Program) (s:TypeId) (f:Nat):Option Field :=
 match P.underlying s with
 | some (.struct fs)=>fs[f]?
 | _=>none
def qbS (k:Nat):D→Option D
 | .vptr cs=>some (.vptr (cs.drop k))
 | .optr i st off=>some (.optr i st (off+k))
 | _=>none
def qdJ (P:Program) (s:TypeId) (p:D) (f:Nat):Option D :=
 match qcm P s f with
 | some fd=>if qr P fd.type = 0 then none else qbS fd.offset p
 | none=>none
def Kw (P:Program) (t:TypeId) (cs:List D) (off:Nat):Option D :=
 match Ju P t with
 | some true=>if off+qr P t≤cs.length then some (.agg ((cs.drop off).take (qr P t))) else none
 | some false=>cs[off]?
 | none=>none
def qdI (P:Program) (s:TypeId) (x:D) (f:Nat):Option D :=
 match qcm P s f,x with
 | some fd,.agg cs=>Kw P fd.type cs fd.offset
 | _,_=>none
def qd4 (P:Program) (t:TypeId) (x i:D):Option D :=
 match P.underlying t,x,i with
 | some (.array n e),p,.int _ i=>if 0≤i∧i < n∧0 < qr P e then qbS (i.toNat * qr P e) p else none
 | some (.slice e),.vsl false cs len,.int _ i=>if 0≤i∧i < len∧0 < qr P e then some (.vptr (cs.drop (i.toNat * qr P e))) else none
 | some (.slice e),.osl id st off len _,.int _ i=>if 0≤i∧i < len∧0 < qr P e then some (.optr id st (off+i.toNat * qr P e)) else none
 | _,_,_=>none
def qd3 (P:Program) (t:TypeId) (x i:D):Option D :=
 match P.underlying t,x,i with
 | some (.array n e),.agg cs,.int _ i=>if 0≤i∧i < n then Kw P e cs (i.toNat * qr P e) else none
 | some .string,.str s,.int _ i=>if 0≤i then (s[i.toNat]?).map fun b=>.int .u8 b.toNat else none
 | _,_,_=>none
def qab (n:Nat):Option D→Option D→Option (Nat × Nat)
 | none,none=>some (0,n)
 | some (.int _ l),none=>if 0≤l∧l≤n then some (l.toNat,n) else none
 | none,some (.int _ h)=>if 0≤h∧h≤n then some (0,h.toNat) else none
 | some (.int _ l),some (.int _ h)=>if 0≤h∧h≤n∧0≤l∧l≤h then some (l.toNat,h.toNat) else none
 | _,_=>none
def JW (P:Program) (t:TypeId) (x:D) (lo hi:Option D):Option D :=
 match P.underlying t,x with
 | some .string,.str s=>match qab s.length lo hi with
  | some (l,h)=>some (.str ((s.drop l).take (h - l)))
  | none=>none
 | some (.slice e),.vsl nil cs len=>match qab len lo hi with
  | some (l,h)=>if cs.length = len * qr P e∧0 < qr P e then some (.vsl nil ((cs.drop (l * qr P e)).take ((h - l) * qr P e)) (h - l)) else none
  | none=>none
 | some (.slice e),.osl id st off len k=>match qab len lo hi with
  | some (l,h)=>if k = qr P e∧0 < k∧(l = 0∨l < len) then some (.osl id st (off+l * k) (h - l) k) else none
  | none=>none
 | some (.array n e),.vptr cs=>match qab n lo hi with
  | some (l,h)=>if h * qr P e≤cs.length∧0 < qr P e∧(l = 0∨l < n) then some (.vsl false ((cs.drop (l * qr P e)).take ((h - l) * qr P e)) (h - l)) else none
  | none=>none
 | some (.array n e),.optr id st off=>match qab n lo hi with
  | some (l,h)=>if (l = 0∨l < n)∧off+n * qr P e≤st∧0 < qr P e then some (.osl id st (off+l * qr P e) (h - l) (qr P e)) else none
  | none=>none
 | _,_=>none
def qb4 (k:IntKind) (a b:Int):Int:=k.wrap (BitVec.ofInt k.bits a &&& BitVec.ofInt k.bits b).toNat
def Z1 (k:IntKind) (a b:Int):Int:=k.wrap (BitVec.ofInt k.bits a ||| BitVec.ofInt k.bits b).toNat
def zi (k:IntKind) (a b:Int):Int:=k.wrap (BitVec.ofInt k.bits a ^^^ BitVec.ofInt k.bits b).toNat
def qb3 (k:IntKind) (a b:Int):Int:=k.wrap (BitVec.ofInt k.bits a &&& ~~~ BitVec.ofInt k.bits b).toNat
def qd1 (op:BinOp) (k:IntKind) (a b:Int):Option D :=
 match op with
 | .add=>some (.int k (k.wrap (a+b)))
 | .sub=>some (.int k (k.wrap (a - b)))
 | .mul=>some (.int k (k.wrap (a * b)))
 | .quo=>if b = 0 then none else some (.int k (k.wrap (a.tdiv b)))
 | .rem=>if b = 0 then none else some (.int k (a.tmod b))
 | .and=>some (.int k (qb4 k a b))
 | .or=>some (.int k (Z1 k a b))
 | .xor=>some (.int k (zi k a b))
 | .andNot=>some (.int k (qb3 k a b))
 | .eql=>some (.bool (a == b))
 | .neq=>some (.bool (a != b))
 | .lss=>some (.bool (decide (a < b)))
 | .leq=>some (.bool (decide (a≤b)))
 | .gtr=>some (.bool (decide (a > b)))
 | .geq=>some (.bool (decide (a ≥ b)))
 | _=>none
def qbH (op:BinOp) (k:IntKind) (a b:Int):Option D :=
 if b < 0 then none else
 match op with
 | .shl=>some (.int k (k.wrap (a * 2 ^ (min b.toNat k.bits))))
 | .shr=>some (.int k (a.fdiv (2 ^ (min b.toNat k.bits))))
 | _=>none
def QH (op:BinOp) (x y:List UInt8):Option D :=
 match op with
 | .add=>if x.length+y.length≤4611686018427387904 then some (.str (x ++ y)) else none
 | .eql=>some (.bool (x == y))
 | .neq=>some (.bool !(x == y))
 | .lss=>some (.bool (Op.bytesLess x y))
 | .leq=>some (.bool (Op.bytesLess x y || x == y))
 | .gtr=>some (.bool !(Op.bytesLess x y || x == y))
 | .geq=>some (.bool !(Op.bytesLess x y))
 | _=>none
inductive CK where
 | b | i | s
 deriving DecidableEq
def Ko:CK→D→D→Option Bool
 | .i,.int k a,.int k' b=>if k = k' then some (a == b) else none
 | .b,.bool a,.bool b=>some (a == b)
 | .s,.str a,.str b=>some (a == b)
 | _,_,_=>none
def jt:List CK→List D→List D→Option Bool
 | [],[],[]=>some true
 | k :: ks,x :: xs,y :: ys=>match Ko k x y,jt ks xs ys with
  | some a,some b=>some (a && b)
  | _,_=>none
 | _,_,_=>none
def Yq (P:Program) (g:TypeId→Option (List CK)):List Field→List CK→Option (List CK)
 | [],acc=>some acc
 | f :: fs,acc=>match g f.type with
  | some ks => if f.offset = acc.length ∧ f.name ≠ "_" ∧ qr P f.type = ks.length ∧ 0 < ks.length then Yq P g fs (acc ++ ks) else none
  | none=>none
def QJ (P:Program):Nat→TypeId→Option (List CK)
 | 0,_=>none
 | d+1,t=>match P.underlying t with
  | some .bool=>some [.b]
  | some (.int _)=>some [.i]
  | some .string=>some [.s]
  | some (.array n e)=>match QJ P d e with
   | some ks=>if qr P e = ks.length∧0 < ks.length then some (List.replicate n ks).flatten else none
   | none=>none
  | some (.struct fs)=>if P.stoodInHeld t then none else Yq P (QJ P d) fs.toList []
  | _=>none
def qss:D→Option Bool
 | .vsl n _ _=>some n
 | .osl ..=>some false
 | _=>none
def J3:Operand→Bool
 | .const _=>true
 | _=>false
def Xh (P:Program) (t:TypeId):Bool:=((P.info? t).map (·.comparable)).getD false
def eqD (P:Program) (t:TypeId) (cst:Bool) (x y:D):Option Bool :=
 match x,y with
 | .bool a,.bool b=>match P.underlying t with
  | some .bool=>some (a == b)
  | _=>none
 | .agg xs,.agg ys=>match QJ P 50 t with
  | some ks=>if Ju P t = some true∧P.eqGuardType P.depth t = false then jt ks xs ys else none
  | none=>none
 | .vsl true _ _,.vsl n _ _=>match P.underlying t with
  | some (.slice _)=>some n
  | _=>none
 | .vsl n _ _,.vsl true _ _=>match P.underlying t with
  | some (.slice _)=>some n
  | _=>none
 | .osl ..,.vsl true _ _=>match P.underlying t with
  | some (.slice _)=>some false
  | _=>none
 | .nili,.nili=>match P.underlying t with
  | some (.interface _)=>if cst then some true else none
  | _=>none
 | .iface s (.int k a),.iface s' (.int k' b)=>match P.underlying t,P.underlying s with
  | some (.interface _),some (.int _)=>if s = s'∧k = k'∧Xh P s = true then some (a == b) else none
  | _,_=>none
 | .iface _ _,.nili=>match P.underlying t with
  | some (.interface _)=>some false
  | _=>none
 | .nilp,.nilp=>match P.underlying t with
  | some (.pointer _)=>some true
  | _=>none
 | .vptr _,.nilp=>match P.underlying t with
  | some (.pointer _)=>some false
  | _=>none
 | .optr ..,.nilp=>match P.underlying t with
  | some (.pointer _)=>some false
  | _=>none
 | _,_=>none
def qed (P:Program) (op:BinOp) (t:TypeId) (cst:Bool) (x y:D):Option D :=
 match op,x,y with
 | .shl,.int k a,.int _ b=>qbH .shl k a b
 | .shr,.int k a,.int _ b=>qbH .shr k a b
 | op,.int k a,.int k' b=>if k = k' then qd1 op k a b else none
 | op,.str a,.str b=>QH op a b
 | .eql,x,y=>(eqD P t cst x y).map .bool
 | .neq,x,y=>(eqD P t cst x y).map fun b=>.bool !b
 | _,_,_=>none
def unD (op:UnOp) (x:D):Option D :=
 match op,x with
 | .neg,.int k n=>some (.int k (k.wrap (0 - n)))
 | .xor,.int k n=>some (.int k (k.wrap (BitVec.ofInt k.bits (if k.signed then -1 else k.max) ^^^ BitVec.ofInt k.bits n).toNat))
 | .not,.bool b=>some (.bool !b)
 | _,_=>none
def qo (H:qd) (ds:List D):qd:=H ++ [some ds]
def ZQ:List D→Option (List UInt8)
 | []=>some []
 | .int .u8 n :: l=>(ZQ l).map fun r=>UInt8.ofNat n.toNat :: r
 | _=>none
def qf (s:List UInt8):List D:=s.map fun b=>.int .u8 (b.toNat:Int)
def qw:Nat:=140737488355328
def YY (P:Program) (H:qd) (src dst:TypeId) (x:D):Option (D × qd) :=
 match P.underlying src,P.underlying dst,x with
 | some _,some (.int k),.int _ n=>some (.int k (k.wrap n),H)
 | some .string,some .string,.str s=>some (.str s,H)
 | some (.int _),some .string,.int _ n=>some (.str (Utf8.encode n).data.toList,H)
 | some _,some (.slice e),.str s=>match P.underlying e with
  | some (.int .u8)=>some (.osl H.length s.length 0 s.length 1,qo H (qf s))
  | _=>none
 | some (.slice e),some .string,x=>match P.underlying e,VL H 1 x with
  | some (.int .u8),some (cs,_)=>(ZQ cs).map fun s=>(.str s,H)
  | _,_=>none
 | some (.slice _),some (.slice e),.osl i st off len k=>match P.underlying e,qe H i with
  | some (.int .u8),some ds=>if src = dst∧ds.length = st then some (.osl i st off len k,H) else none
  | _,_=>none
 | _,_,_=>none
def VF (place:Nat→Option (Nat × Nat)):List D→List (Nat × D)→Option (List D)
 | cells,[]=>some cells
 | cells,(i,d) :: rest=>match place i,cellsOf d with
  | some (off,size),some xs=>if xs.length = size∧off+xs.length≤cells.length then VF place (qC cells off xs) rest else none
  | _,_=>none
def VO (X:Cx) (e:qn):List (Nat × Operand)→Option (List (Nat × D))
 | []=>some []
 | (i,x) :: l=>match qB X e x,VO X e l with
  | some d,some ds=>some ((i,d) :: ds)
  | _,_=>none
def j5 (X:Cx) (e:qn):List Operand→Option (List D)
 | []=>some []
 | x :: l=>match qB X e x,j5 X e l with
  | some d,some ds=>some (d :: ds)
  | _,_=>none
def qaL (P:Program) (fs:Array Field) (i:Nat):Option (Nat × Nat):=(fs[i]?).map fun f=>(f.offset,qr P f.type)
def qec (P:Program) (t:TypeId) (parts:List (Nat × D)):Option D :=
 match JU P t,P.underlying t with
 | some (.agg z),some (.struct fs)=>if fs.all (fun f=>decide (0 < qr P f.type)) then (VF (qaL P fs) z parts).map .agg else none
 | some (.agg z),some (.array _ e)=>if 0 < qr P e then (VF (fun i=>some (i * qr P e,qr P e)) z parts).map .agg else none
 | _,_=>none
def Zd (P:Program) (e:TypeId) (n:Nat):Option (List D) :=
 match (JU P e).bind cellsOf with
 | some z=>if z.length = qr P e∧0 < qr P e then some ((List.replicate n z).flatten) else none
 | none=>none
def XW (P:Program) (H:qd) (t:TypeId) (len:Nat) (parts:List (Nat × D)):Option (D × qd) :=
 match P.underlying t with
 | some (.slice e)=>match Zd P e len with
  | some z=>if len * qr P e≤16777216 then (VF (fun i=>some (i * qr P e,qr P e)) z parts).bind fun cs =>
    if (H.isEmpty = false∨cs.all idFree)∧cs.length = len * qr P e then some (.osl H.length cs.length 0 len (qr P e),qo H cs) else none
   else none
  | none=>none
 | _=>none
def qbZ (P:Program) (H:qd) (t:TypeId) (l c:D):Option (D × qd) :=
 match P.underlying t,l,c with
 | some (.slice e),.int .i64 l,.int .i64 c=>if 0≤l∧l≤c∧bytesOf P e * c≤qw∧c≤qw then
   (Zd P e l.toNat).bind fun z=>if z.length = l.toNat * qr P e∧z.all idFree then some (.osl H.length z.length 0 l.toNat (qr P e),qo H z) else none
  else none
 | _,_,_=>none
def qbF (P:Program) (H:qd) (k:Nat) (xt:TypeId) (x:D):Option (List D × Nat) :=
 match P.underlying xt,x with
 | some .string,.str b=>if k = 1 then some (qf b,b.length) else none
 | some (.slice _),x=>VL H k x
 | _,_=>none
def Ku (P:Program) (H:qd) (e xt:TypeId) (x:D):Option (List D × Nat) :=
 match P.underlying xt,x with
 | some (.int _),.int .i64 n=>if 0≤n∧n≤qw∧n.toNat * bytesOf P e≤qw then (Zd P e n.toNat).map (·,n.toNat) else none
 | _,x=>qbF P H (qr P e) xt x
def qM (P:Program) (H:qd) (st xt:TypeId) (s x:D):Option (D × qd) :=
 match P.underlying st with
 | some (.slice e)=>match Ku P H e xt x,Zd P e 0,s with
  | some (xs,m),some _,.vsl true [] 0 =>
   if m = 0 then some (.vsl true [] 0,H)
   else if m * bytesOf P e≤qw∧m≤qw then some (.osl H.length xs.length 0 m (qr P e),qo H xs) else none
  | some (xs,m),some _,.osl i sm 0 len k=>match qe H i with
   | some ds=>if ds.length = sm∧k = qr P e∧len * k = sm∧(len+m) * bytesOf P e≤qw∧len+m≤qw
     then some (.osl i (sm+xs.length) 0 (len+m) k,ql H i (ds ++ xs)) else none
   | none=>none
  | _,_,_=>none
 | _=>none
def Xg (P:Program) (H:qd) (dt xt:TypeId) (d x:D):Option (D × qd) :=
 match P.underlying dt with
 | some (.slice e)=>match qbF P H (qr P e) xt x,d with
  | some (xs,m),.osl i sm off len k=>match qe H i with
   | some ds=>if ds.length = sm∧k = qr P e∧0 < k∧off+len * k≤sm
     then some (.int .i64 (min m len:Nat),ql H i (qC ds off (xs.take (min m len * k)))) else none
   | none=>none
  | _,_=>none
 | _=>none
def qdW (P:Program) (H:qd) (t:TypeId) (x:D):Option (D × qd) :=
 match P.underlying t,x with
 | some (.slice e),.osl i sm off len k=>match Zd P e len,qe H i with
  | some z,some ds=>if ds.length = sm∧k = qr P e∧off+len * k≤sm∧0 < len
    then some (.tup [],ql H i (qC ds off z)) else none
  | _,_=>none
 | _,_=>none
def zj (P:Program) (t:TypeId) (x:D):Option D :=
 match P.underlying t,x with
 | some .string,.str s=>some (.int .i64 s.length)
 | some (.array n _),_=>some (.int .i64 n)
 | some (.slice _),.vsl _ _ len=>some (.int .i64 len)
 | some (.slice _),.osl _ _ _ len _=>some (.int .i64 len)
 | _,_=>none
def qbY (mx:Bool):List D→Option D
 | [.int k a,.int k' b]=>if k = k' then some (.int k (if mx then (if a < b then b else a) else (if b < a then b else a))) else none
 | _=>none
def freeze (H:qd):D→Option D
 | .osl i st off len k=>match qe H i with
  | some ds=>if ds.length = st∧off+len * k≤st∧ds.all idFree then some (.vsl false ((ds.drop off).take (len * k)) len) else none
  | none=>none
 | .optr i st off=>match qe H i with
  | some ds=>if ds.length = st∧ds.all idFree then some (.vptr (ds.drop off)) else none
  | none=>none
 | .fn f caps=>(freezeL H caps).map (.fn f)
 | .agg cs=>(freezeL H cs).map .agg
 | d=>if idFree d then some d else none
where freezeL (H:qd):List D→Option (List D)
 | []=>some []
 | d :: l=>match freeze H d,freezeL H l with
  | some d,some l=>some (d :: l)
  | _,_=>none
def XR (H:qd) (args:List D):Option (List D):=freeze.freezeL H args
def shift (n:Nat):D→D
 | .agg cs=>.agg (shiftL n cs)
 | .tup cs=>.tup (shiftL n cs)
 | .fn f cs=>.fn f (shiftL n cs)
 | .iface t d=>.iface t (shift n d)
 | .optr i st off=>.optr (n+i) st off
 | .osl i st off len k=>.osl (n+i) st off len k
 | d=>d
where shiftL (n:Nat):List D→List D
 | []=>[]
 | d :: l=>shift n d :: shiftL n l
def pack1 (n0:Nat) (H:qd) (seen:List Nat) (acc:qd):D→Option (D × List Nat × qd)
 | .osl i st off len k =>
  if i < n0 then some (.osl i st off len k,seen,acc)
  else match qe H i with
   | some ds=>if ds.all idFree∧i ∉ seen then some (.osl (n0+acc.length) st off len k,seen ++ [i],acc ++ [some ds]) else none
   | none=>none
 | .optr i st off =>
  if i < n0 then some (.optr i st off,seen,acc)
  else match qe H i with
   | some ds=>if ds.all idFree∧i ∉ seen then some (.optr (n0+acc.length) st off,seen ++ [i],acc ++ [some ds]) else none
   | none=>none
 | .agg cs=>(packs n0 H seen acc cs).map fun (cs,s,a)=>(.agg cs,s,a)
 | .tup cs=>(packs n0 H seen acc cs).map fun (cs,s,a)=>(.tup cs,s,a)
 | d=>if idFree d then some (d,seen,acc) else none
where packs (n0:Nat) (H:qd) (seen:List Nat) (acc:qd):List D→Option (List D × List Nat × qd)
 | []=>some ([],seen,acc)
 | d :: l=>match pack1 n0 H seen acc d with
  | some (d,seen,acc)=>match packs n0 H seen acc l with
   | some (l,seen,acc)=>some (d :: l,seen,acc)
   | none=>none
  | none=>none
def qaD (n:Nat):Option (List D)→Bool
 | some ds=>ds.all (closed n)
 | none=>true
def qaz (n0:Nat) (H:qd) (r:D):Option (D × qd) :=
 match pack1 n0 H [] [] r with
 | some (r,_,acc)=>if (H.take n0).all (qaD n0) then some (r,H.take n0 ++ acc) else none
 | none=>none
def vC:List Nat→qn→qn
 | [],_=>[]
 | k :: ks,e=>match qg e k with
  | some d=>(k,d) :: vC ks e
  | none=>vC ks e
def XT (n:Nat):qn→Bool
 | []=>true
 | (_,d) :: e=>closed n d && XT n e
def jJ (g:D→Option (D × List Nat)):List D→Option (List D × List Nat)
 | []=>some ([],[])
 | d :: l=>match g d,jJ g l with
  | some (d,a),some (l,b)=>some (d :: l,a ++ b)
  | _,_=>none
def zF (H:qd):Nat→D→Option (D × List Nat)
 | 0,_=>none
 | n+1,d=>if idFree d then some (d,[]) else match d with
  | .osl i st off len k=>match qe H i with
   | some ds=>if ds.length = st∧off+len * k≤st then
     if idFree.idFreeL ds then some (.vsl false ((ds.drop off).take (len * k)) len,[i])
     else match jJ (zF H n) ds with
      | some (ds',l)=>some (.vsl false ((ds'.drop off).take (len * k)) len,i :: l)
      | none=>none
    else none
   | none=>none
  | .optr i st off=>match qe H i with
   | some ds=>if ds.length = st then
     if idFree.idFreeL ds then some (.vptr (ds.drop off),[i])
     else match jJ (zF H n) ds with
      | some (ds',l)=>some (.vptr (ds'.drop off),i :: l)
      | none=>none
    else none
   | none=>none
  | .agg cs=>(jJ (zF H n) cs).map fun (cs,l)=>(.agg cs,l)
  | .tup cs=>(jJ (zF H n) cs).map fun (cs,l)=>(.tup cs,l)
  | .fn f cs=>(jJ (zF H n) cs).map fun (cs,l)=>(.fn f cs,l)
  | .iface t d=>(zF H n d).map fun (d,l)=>(.iface t d,l)
  | d=>some (d,[])
def jq:qd→List Nat→qd
 | H,[]=>H
 | H,i :: l=>jq (H.set i none) l
def qar (H:qd) (e:qn):List Nat→Option (qn × List Nat)
 | []=>some ([],[])
 | s :: ss=>match qg e s with
  | none=>qar H e ss
  | some d=>match zF H 9 d,qar H e ss with
   | some (d,a),some (e',b)=>some ((s,d) :: e',a ++ b)
   | _,_=>none
def qbm (ss:List Nat) (e:qn) (H:qd):Option (qn × qd) :=
 match qar H e ss with
 | some (e',l)=>some (e' ++ e,jq H l)
 | none=>none
def qfV (X:Cx) (f n0 id:Nat) (e:qn) (H:qd):Option (qn × qd) :=
 match X.keep f id with
 | none=>some (e,H)
 | some (ks,0)=>some (vC ks e,H)
 | some (ks,k+1) =>
  if H.length≤n0+k then some (vC ks e,H)
  else if XT (n0+k) (vC ks e) && (H.take (n0+k)).all (qaD (n0+k)) then some (vC ks e,H.take (n0+k)) else none
def Kt (e:qn):List Nat→Option (List D)
 | []=>some []
 | s :: ss=>match qg e s,Kt e ss with
  | some d,some ds=>some (d :: ds)
  | _,_=>none
def JT:List Nat→List D→qn
 | s :: ss,d :: ds=>(s,d) :: JT ss ds
 | _,_=>[]
def qcX (n0:Nat) (S ks:List Nat) (e:qn) (H:qd):Option (qn × qd) :=
 match Kt e S with
 | none=>none
 | some ds=>match qaz n0 H (.tup ds) with
  | some (.tup ds',H')=>if XT n0 (vC ks e) then some (JT S ds' ++ vC ks e,H') else none
  | _=>none
def kZ:List Nat→Nat→Nat→Option Nat
 | [],_,_=>none
 | a :: l,i,k=>if a = i then some k else kZ l i (k+1)
def renD (p:List Nat):D→Option D
 | .optr i st off=>(kZ p i 0).map fun j=>.optr j st off
 | .osl i st off len k=>(kZ p i 0).map fun j=>.osl j st off len k
 | .agg cs=>(renL p cs).map .agg
 | .tup cs=>(renL p cs).map .tup
 | .fn f cs=>(renL p cs).map (.fn f)
 | .iface t d=>(renD p d).map (.iface t)
 | d=>some d
where renL (p:List Nat):List D→Option (List D)
 | []=>some []
 | d :: l=>match renD p d,renL p l with
  | some d,some l=>some (d :: l)
  | _,_=>none
def Xr (p:List Nat) (d:D):Option D:=if idFree d then some d else renD p d
def V0 (p:List Nat) (ds:List D):Option (List D):=if idFree.idFreeL ds then some ds else renD.renL p ds
def VN (p:List Nat):qn→Option qn
 | []=>some []
 | (s,d) :: e=>match Xr p d,VN p e with
  | some d,some e=>some ((s,d) :: e)
  | _,_=>none
def VM (p:List Nat) (H:qd):List Nat→Option qd
 | []=>some []
 | i :: l=>match qe H i with
  | none=>none
  | some ds=>match V0 p ds,VM p H l with
   | some ds,some L=>some (some ds :: L)
   | _,_=>none
def Jd:List D→List Nat
 | []=>[]
 | .optr i _ _ :: l=>i :: Jd l
 | .osl i _ _ _ _ :: l=>i :: Jd l
 | _ :: l=>Jd l
def qbc (H:qd):List Nat→List Nat
 | []=>[]
 | i :: l=>(match qe H i with
  | some ds=>if idFree.idFreeL ds then [] else Jd ds
  | none=>[]) ++ qbc H l
def Jw:List Nat→List Nat→List Nat
 | p,[]=>p
 | p,i :: l=>if i∈p then Jw p l else Jw (p ++ [i]) l
def Ze:Nat→List Nat
 | 0=>[]
 | n+1=>Ze n ++ [n]
def ZZ (n0:Nat) (p:List Nat) (e:qn) (H:qd):Option (qn × qd) :=
 match VN p e,VM p H p with
 | some e',some H'=>if p.Nodup∧p.take n0 = Ze n0 then some (e',H') else none
 | _,_=>none
def qeO (n0:Nat) (S ks:List Nat) (e:qn) (H:qd):Option (qn × qd) :=
 match Kt e S with
 | some ds=>ZZ n0 (Jw (Jw (Ze n0) (Jd ds)) (qbc H (Jw (Ze n0) (Jd ds)))) (JT S ds ++ vC ks e) H
 | none=>none
def qiZ:D→List Nat
 | .tup cs=>Jd cs
 | d=>Jd [d]
def qc4:Option (List D)→Bool
 | some ds=>ds.all idFree
 | none=>true
def qhR (n0:Nat) (H:qd) (r:D):Option (D × qd) :=
 match ZZ n0 (Jw (Jw (Ze n0) (qiZ r)) (qbc H (Jw (Ze n0) (qiZ r)))) [(0,r)] H with
 | some ([(_,r')],H')=>if (H'.drop n0).all qc4 then some (r',H') else none
 | _=>none
def orP {α:Type}:Option α→Option α→Option α
 | some q,_=>some q
 | none,x=>x
@[simp] theorem qnP {α:Type} (q:α) (x:Option α):orP (some q) x = some q:=rfl
@[simp] theorem qnQ {α:Type} (x:Option α):orP none x = x:=rfl
def Ys (n0:Nat) (H:qd) (r:D):Option (D × qd):=orP (qaz n0 H r) (qhR n0 H r)
def qaR (n0:Nat) (S ks:List Nat) (e:qn) (H:qd):Option (qn × qd) :=
 match qcX n0 S ks e H with
 | some r=>some r
 | none=>qeO n0 S ks e H
def qrn (X:Cx) (f id:Nat):List Nat:=match X.keep f id with
 | some (ks,_)=>ks
 | none=>[]
def qdN (X:Cx) (f n0 id:Nat) (e:qn) (H:qd):Option (qn × qd) :=
 match X.ret f id with
 | []=>qfV X f n0 id e H
 | S=>qaR n0 S (qrn X f id) e H
def qdM (X:Cx) (f n0 id:Nat) (e:qn) (H:qd):Option (qn × qd) :=
 match X.frz f id with
 | []=>qdN X f n0 id e H
 | ss=>match qbm ss e H with
  | some (e,H)=>qdN X f n0 id e H
  | none=>none
def kh (H:qd) (i:Nat):Option qd :=
 match qe H i with
 | some ds=>if ds.all idFree then some H else match jJ (zF H 9) ds with
  | some (ds',l)=>if i∈l then none else some (ql (jq H l) i ds')
  | none=>none
 | none=>none
def Yn (e:qn):List Nat→qd→Option qd
 | [],H=>some H
 | s :: ss,H=>match qg e s with
  | some (.osl i _ _ _ _) | some (.optr i _ _)=>match kh H i with
   | some H'=>Yn e ss H'
   | none=>none
  | _=>Yn e ss H
def enter (X:Cx) (f n0 id:Nat) (e:qn) (H:qd):Option (qn × qd) :=
 match X.frb f id with
 | []=>qdM X f n0 id e H
 | ss=>match Yn e ss H with
  | some H'=>qdM X f n0 id e H'
  | none=>none
def vB (z:Bool) (n0:Nat) (H:qd) (r:D):Option (D × qd) :=
 match z with
 | false=>Ys n0 H r
 | true=>match zF H 9 r with
  | some (r,l)=>Ys n0 (jq H l) r
  | none=>none
def qay (z:Bool) (H:qd) (r:D):Option (D × qd) :=
 match z with
 | false=>some (r,H)
 | true=>match zF H 9 r with
  | some (r,l)=>some (r,jq H l)
  | none=>none
def Xs (g z:Bool) (n0:Nat) (H:qd) (r:D):Option (D × qd) :=
 match g with
 | true=>qay z H r
 | false=>vB z n0 H r
abbrev qO:=Nat→List D→qd→Option (D × qd)
def qgs:Option (List D)→Bool
 | some ds=>ds.all vFree
 | none=>true
def noZ:D→Bool
 | .agg cs | .tup cs | .fn _ cs=>noZL cs
 | .iface _ d=>noZ d
 | .optr i _ _ | .osl i _ _ _ _=>decide (1≤i)
 | _=>true
where noZL:List D→Bool
 | []=>true
 | d :: l=>noZ d && noZL l
def JM (F:qO) (f:Nat) (args:List D) (H:qd):Option (D × qd) :=
 match args with
 | .optr i st off :: rest=>match qe H i with
  | some ds=>if rest.all idFree && ds.all idFree then match F f (.optr 0 st off :: rest) [some ds] with
    | some (r,some ds' :: L)=>if noZ r && ds'.all idFree then some (shift (H.length - 1) r,ql H i ds' ++ L) else none
    | _=>none
   else none
  | none=>none
 | _=>none
def kj (p:List Nat) (n j:Nat):Nat:=match p[j]? with
 | some i=>i
 | none=>n+(j - p.length)
def mv (p:List Nat) (n:Nat):D→D
 | .optr i st off=>.optr (kj p n i) st off
 | .osl i st off len k=>.osl (kj p n i) st off len k
 | .agg cs=>.agg (mvL p n cs)
 | .tup cs=>.tup (mvL p n cs)
 | .fn f cs=>.fn f (mvL p n cs)
 | .iface t d=>.iface t (mv p n d)
 | d=>d
where mvL (p:List Nat) (n:Nat):List D→List D
 | []=>[]
 | d :: l=>mv p n d :: mvL p n l
def kU:qd→List Nat→qd→qd
 | H,i :: p,b :: T=>kU (H.set i b) p T
 | H,_,_=>H
def Yp (p:List Nat):List D→Option (List D)
 | []=>some []
 | d :: l=>match Xr p d,Yp p l with
  | some d,some l=>some (d :: l)
  | _,_=>none
def qc3 (F:qO) (f:Nat) (args:List D) (H:qd) (p:List Nat):Option (D × qd) :=
 match Yp p args,VM p H p with
 | some args',some H0=>if decide p.Nodup && (H0.drop 1).all qc4 then match F f args' H0 with
   | some (r,some A :: T)=>if T.all qc4 then some (mv p H.length r,kU H p (some (mv.mvL p H.length A) :: T) ++ T.drop (p.length - 1)) else none
   | _=>none
  else none
 | _,_=>none
def XV (F:qO) (f:Nat) (args:List D) (H:qd):Option (D × qd) :=
 match Jw (Jw [] (Jd args)) (qbc H (Jw [] (Jd args))) with
 | []=>none
 | i :: p=>qc3 F f args H (i :: p)
def qgj (H:qd):Nat→List Nat→List Nat
 | 0,p=>p
 | n+1,p=>qgj H n (Jw p (qbc H p))
def JY (p:List Nat) (n:Nat) (b:Option (List D)):Option (List D):=b.map (mv.mvL p n)
def qby (F:qO) (f:Nat) (args:List D) (H:qd) (p:List Nat):Option (D × qd) :=
 match Yp p args,VM p H p with
 | some args',some H0=>if p.Nodup then match F f args' H0 with
   | some (r,T)=>some (mv p H.length r,kU H p (T.map (JY p H.length)) ++ (T.map (JY p H.length)).drop p.length)
   | none=>none
  else none
 | _,_=>none
def Kp (F:qO) (f:Nat) (args:List D) (H:qd):Option (D × qd):=qby F f args H (qgj H 6 (Jw [] (Jd args)))
def Xk (X:Cx) (F:qO) (f:Nat) (args:List D) (H:qd):Option (D × qd) :=
 if X.lom f then XV F f args H else JM F f args H
def Vu (X:Cx) (F:qO) (f:Nat) (args:List D) (H:qd):Option (D × qd) :=
 if X.byRef f then (if X.loc f then (if X.gr f then Kp F f args H else Xk X F f args H) else F f args H)
 else if args.all idFree then match F f args [] with
  | none=>none
  | some (r,L)=>some (shift H.length r,H ++ L)
 else match XR H args with
  | none=>none
  | some args'=>match F f args' [] with
   | none=>none
   | some (r,L)=>if vFree r && L.all qgs then some (shift H.length r,H ++ L) else none
def Xd (H:qd):D→Bool
 | .osl i _ _ _ _=>match qe H i with
  | some ds=>ds.all idFree
  | none=>false
 | d=>idFree d
def Qg (X:Cx) (F:qO) (f:Nat) (args:List D) (H:qd):Option (D × qd) :=
 if X.pureF f && !X.byRef f then
  if args.all idFree then match F f args [] with
   | some (r,[])=>if idFree r then some (r,H) else none
   | _=>none
  else if X.perm f && args.all (Xd H) then match XR H args with
   | some args'=>match F f args' [] with
    | some (r,[])=>if idFree r && vFree r then some (r,H) else none
    | _=>none
   | none=>none
  else none
 else Vu X F f args H
def qeE (H:qd):List D→Option qd
 | .optr i _ _ :: _=>kh H i
 | _=>none
def Vv (X:Cx) (F:qO) (f:Nat) (args:List D) (H:qd):Option (D × qd) :=
 match X.perm f && X.byRef f with
 | false=>Qg X F f args H
 | true=>match qeE H args with
  | some H'=>Qg X F f args H'
  | none=>none
def ZP (X:Cx) (F:qO) (f:Nat) (args:List D) (H:qd):Option (D × qd) :=
 match X.perm f && !X.pureF f && !X.byRef f with
 | false=>Vv X F f args H
 | true=>match jJ (zF H 9) args with
  | some (args',l)=>Qg X F f args' (jq H l)
  | none=>none
def qaa (X:Cx) (b:Builtin) (ts:List TypeId) (args:List D) (H:qd):Option (D × qd) :=
 match b,ts,args with
 | .len,t :: _,x :: _=>(zj X.P t x).map (·,H)
 | .append,t :: u :: _,s :: x :: _=>qM X.P H t u s x
 | .copy,t :: u :: _,d :: x :: _=>Xg X.P H t u d x
 | .min,_,args=>(qbY false args).map (·,H)
 | .max,_,args=>(qbY true args).map (·,H)
 | .clear,t :: _,x :: _=>qdW X.P H t x
 | _,_,_=>none
def qT (X:Cx) (F:qO) (o:Op) (e:qn) (H:qd):Option (D × qd) :=
 match o with
 | .move x | .assign x=>(qB X e x).map (·,H)
 | .pick c a b=>match qB X e c with
  | some (.bool t)=>(qB X e (if t then a else b)).map (·,H)
  | _=>none
 | .alloc t=>match (JU X.P t).bind cellsOf with
  | some cs=>some (.optr H.length cs.length 0,qo H cs)
  | none=>none
 | .box _ x=>match (qB X e x).bind cellsOf with
  | some cs=>if cs.all (closed H.length) then some (.optr H.length cs.length 0,qo H cs) else none
  | none=>none
 | .build t parts=>match VO X e parts.toList with
  | some ps=>(qec X.P t ps).map (·,H)
  | none=>none
 | .buildSlice t len parts=>match VO X e parts.toList with
  | some ps=>XW X.P H t len ps
  | none=>none
 | .load t p=>match qB X e p with
  | some p=>(Yz X.P H t p).map (·,H)
  | none=>none
 | .store t p x=>match qB X e p,qB X e x with
  | some p,some x=>(stD X.P H t p x).map (.tup [],·)
  | _,_=>none
 | .nilCheck x=>match qB X e x with
  | some (.vptr cs)=>some (.vptr cs,H)
  | some (.optr i st off)=>some (.optr i st off,H)
  | some (.fn f caps)=>some (.fn f caps,H)
  | some (.iface t d)=>some (.iface t d,H)
  | _=>none
 | .binOp op t x y _=>match qB X e x,qB X e y with
  | some a,some b=>(qed X.P op t (J3 x || J3 y) a b).map (·,H)
  | _,_=>none
 | .unOp op _ x=>match qB X e x with
  | some a=>(unD op a).map (·,H)
  | none=>none
 | .convert s d x=>match qB X e x with
  | some a=>YY X.P H s d a
  | none=>none
 | .makeInterface t x=>match qB X e x,X.P.underlying t with
  | some _,some (.interface _)=>none
  | some a,some _=>some (.iface t a,H)
  | _,_=>none
 | .makeFunc (.func f) first caps=>if first.isEmpty then (j5 X e caps.toList).map fun cs=>(.fn f cs,H) else none
 | .makeSlice t l c=>match qB X e l,qB X e c with
  | some l,some c=>qbZ X.P H t l c
  | _,_=>none
 | .slice t x lo hi none=>match qB X e x,lo.map (qB X e),hi.map (qB X e) with
  | some a,none,none=>(JW X.P t a none none).map (·,H)
  | some a,some (some l),none=>(JW X.P t a (some l) none).map (·,H)
  | some a,none,some (some h)=>(JW X.P t a none (some h)).map (·,H)
  | some a,some (some l),some (some h)=>(JW X.P t a (some l) (some h)).map (·,H)
  | _,_,_=>none
 | .fieldAddr s x f=>match qB X e x with
  | some p=>(qdJ X.P s p f).map (·,H)
  | none=>none
 | .field s x f=>match qB X e x with
  | some a=>(qdI X.P s a f).map (·,H)
  | none=>none
 | .indexAddr t x i=>match qB X e x,qB X e i with
  | some a,some i=>(qd4 X.P t a i).map (·,H)
  | _,_=>none
 | .index t x i=>match qB X e x,qB X e i with
  | some a,some i=>(qd3 X.P t a i).map (·,H)
  | _,_=>none
 | .extract x i=>match qB X e x with
  | some (.tup cs)=>(cs[i]?).map (·,H)
  | _=>none
 | .call c=>match c.callee,j5 X e c.args.toList with
  | .builtin b,some args=>qaa X b c.argTypes.toList args H
  | .value g,some args=>match qB X e g with
   | some (.fn f caps)=>ZP X F f (args ++ caps) H
   | _=>none
  | _,_=>none
 | _=>none
def js (ops:Array Oper) (e:qn):Option (Nat × Bool)→Option Bool
 | none=>some true
 | some (j,want)=>match (ops[j]?).bind (·.dst) with
  | none=>some false
  | some t=>match qg e t with
   | some (.bool b)=>some (b == want)
   | some (.tup [])=>some false
   | _=>none
def jN (nt:Nat):Option Tmp→Bool
 | none=>true
 | some t=>decide (t < nt)
def JK (X:Cx) (c:Call) (e:qn):Bool :=
 match X.dynV,c.callee with
 | true,.value (.tmp t)=>match qg e t with
  | some (.fn f _)=>!(X.pureF f && !X.byRef f && !X.perm f)
  | _=>true
 | _,_=>false
def qD (X:Cx) (F:qO) (drw:Bool) (o:Op) (e:qn) (H:qd):Option (D × qd) :=
 match drw,o with
 | true,.buildSlice t len parts=>match VO X e parts.toList with
  | some ps=>match XW X.P [] t len ps with
   | some (.osl _ _ _ _ _,[some ds])=>some (.vsl false ds len,H)
   | _=>none
  | none=>none
 | true,.convert s d x=>match qB X e x,X.P.underlying d with
  | some (.str b),some (.slice t)=>match X.P.underlying s,X.P.underlying t with
   | some _,some (.int .u8)=>some (.vsl false (qf b) b.length,H)
   | _,_=>none
  | some a,_=>YY X.P H s d a
  | _,_=>none
 | true,.call c=>if JK X c e then none else qT X F (.call c) e H
 | _,o=>qT X F o e H
def jw (X:Cx) (F:qO) (nt:Nat) (drw:Bool) (ops:Array Oper):List Oper→qn→qd→Option (qn × qd)
 | [],e,H=>some (e,H)
 | o :: l,e,H=>match jN nt o.dst,js ops e o.guard with
  | true,some true=>match qD X F drw o.op e H with
   | some (d,H')=>jw X F nt drw ops l (zV e o.dst d) H'
   | none=>none
  | true,some false=>jw X F nt drw ops l (zV e o.dst (.tup [])) H
  | _,_=>none
def VJ:D→Option Nat
 | .optr i _ _=>some i
 | .osl i _ _ _ _=>some i
 | _=>none
def kl:List (Option D)→List Nat
 | []=>[]
 | some d :: l=>(VJ d).toList ++ kl l
 | none :: l=>kl l
abbrev kz:=List (Nat × Nat)
def Qx (L:kz) (k:Nat):Bool:=L.any fun p=>p.1 == k
def Q0 (L:kz) (k:Nat):Bool:=L.any fun p=>p.2 == k
def Kr (L:kz) (k:Nat) (bs:List Nat):List (Nat × qd × qd)→Prop
 | []=>True
 | (i,A,B) :: l=>(L.contains (i,k) = true→∀ b,b∈bs→qe B b = qe A b)∧Kr L k bs l
def Kq (L:kz) (k:Nat) (A B:qd):List (Nat × List Nat)→Prop
 | []=>True
 | (j,bs) :: l=>(L.contains (k,j) = true→∀ b,b∈bs→qe B b = qe A b)∧Kq L k A B l
def Qw (ow:List Nat):Option Tmp→Bool
 | some t=>!ow.contains t
 | none=>true
open Classical in
noncomputable def vP (X:Cx) (F:qO) (nt:Nat) (ow:List Nat) (ops:Array Oper) (L:kz):Nat→List (Nat × qd × qd)→List (Nat × List Nat)→List Oper→qn→qd→Option (qn × qd)
 | _,_,_,[],e,H=>some (e,H)
 | k,ws,rs,o :: l,e,H=>match jN nt o.dst,js ops e o.guard with
  | true,some true=>match qD X F (Qw ow o.dst) o.op e H with
   | some (d,H') =>
    if (Q0 L k = true→Kr L k (kl (o.op.operands.toList.map (qB X e))) ws)∧(Qx L k = true→H.length≤H'.length∧Kq L k H H' rs) then
     vP X F nt ow ops L (k+1) (if Qx L k then (k,H,H') :: ws else ws) (if Q0 L k then (k,kl (o.op.operands.toList.map (qB X e))) :: rs else rs) l (zV e o.dst d) H'
    else none
   | none=>none
  | true,some false=>vP X F nt ow ops L (k+1) ws rs l (zV e o.dst (.tup [])) H
  | _,_=>none
inductive Ex where
 | normal
 | exit (id:Nat)
 | ret
def kv (X:Cx) (e:qn) (H:qd):List ResultVar→Option (List D)
 | []=>some []
 | .tmp t :: l=>match qg e t,kv X e H l with
  | some d,some ds=>some (d :: ds)
  | _,_=>none
 | .cell a t :: l=>match (qg e a).bind (Yz X.P H t),kv X e H l with
  | some d,some ds=>some (d :: ds)
  | _,_=>none
def Z2:List D→D
 | [d]=>d
 | l=>.tup l
def jI:Nat→List D→qn
 | _,[]=>[]
 | i,d :: l=>(i,d) :: jI (i+1) l
inductive OpKind where
 | v | r | e | m
 deriving DecidableEq
def Zf (X:Cx):Op→OpKind
 | .load .. | .convert ..=>.r
 | .alloc .. | .box .. | .makeSlice ..=>.e
 | .store ..=>.m
 | .call c=>match c.callee with
  | .builtin .len | .builtin .min | .builtin .max=>.v
  | .value (.func f)=>if X.byRef f then .m else if X.pureF f then (if X.perm f then .r else .v) else if X.perm f then .m else .e
  | .value (.tmp _)=>if X.dynV then .v else .m
  | _=>.m
 | _=>.v
def kL (X:Cx) (bw:Bool) (o:Op):OpKind :=
 match bw,o with
 | false,.buildSlice .. | false,.convert ..=>.e
 | false,.call c=>match c.callee with
  | .value (.tmp _)=>.m
  | _=>Zf X (.call c)
 | _,o=>Zf X o
def qiR:Op→Bool
 | .call c=>match c.callee with
  | .builtin .append=>true
  | _=>false
 | _=>false
def Yt:List Oper→Bool
 | []=>false
 | o :: l=>qiR o.op || Yt l
def JX (X:Cx) (f id:Nat) (draw:Bool) (ops:Array Oper):Bool:=match draw with
 | true=>!Yt ops.toList
 | false=>X.cv f id
def zl (X:Cx) (bw:Bool) (o:Op):Bool:=match kL X bw o with
 | .e | .m=>true
 | _=>false
def qe5:Operand→List Tmp
 | .tmp t=>[t]
 | _=>[]
def QK (ops:Array Oper) (o:Oper):List Tmp :=
 o.dst.toList ++ o.op.operands.toList.flatMap qe5 ++ (match o.guard with
  | some (k,_)=>((ops[k]?).bind (·.dst)).toList
  | none=>[])
def ZK (X:Cx) (bw:Option Tmp→Bool) (L:kz) (al:Option Nat) (ops:Array Oper) (i:Nat) (x:Oper) (j:Nat) (y:Oper):Bool :=
 x.dst.any (fun t=>(QK ops y).contains t) || y.dst.any (fun t=>(QK ops x).contains t) || (zl X (bw x.dst) x.op && zl X (bw y.dst) y.op && !(al == some (max i j))) ||
  (kL X (bw x.dst) x.op == .m && kL X (bw y.dst) y.op == .r && !L.contains (i,j)) || (kL X (bw x.dst) x.op == .r && kL X (bw y.dst) y.op == .m && !L.contains (j,i))
def qkX (X:Cx) (bw:Option Tmp→Bool) (al:Option Nat) (ops:Array Oper):Bool :=
 match al with
 | none=>true
 | some j=>match ops[j]? with
  | none=>false
  | some o=>match o.op,o.dst,o.guard with
   | .alloc _,some t,none =>
    let b:=Region.before ops
    ops.toList.zipIdx.all fun (y,k)=>k == j || !(QK ops y).contains t || (decide (j < k) && ops.toList.zipIdx.all fun (x,i)=>!decide (i < j) || !zl X (bw x.dst) x.op || (b.getD k 0).testBit i)
   | _,_,_=>false
def qdR (X:Cx) (bw:Option Tmp→Bool) (L:kz) (al:Option Nat) (ops:Array Oper):Bool :=
 let b:=Region.before ops
 qkX X bw al ops && ops.toList.zipIdx.all fun (y,j) =>
  y.after.all (fun e=>!Region.binds .any e || decide (e.on < j)) &&
  ops.toList.zipIdx.all fun (x,i)=>!decide (i < j) || (b.getD j 0).testBit i || !ZK X bw L al ops i x j y
def kY (X:Cx) (f:Nat):Code→Bool
 | .region id ops draw=>!draw || match X.lp f id with
  | none=>qdR X (fun _=>!Yt ops.toList) [] (X.al f id) ops
  | some (L,ow)=>qdR X (Qw ow) L (X.al f id) ops
 | .seq a b=>kY X f a && kY X f b
 | .cond _ a b=>kY X f a && kY X f b
 | .block _ c | .loop c | .scope c=>kY X f c
 | _=>true
noncomputable def QC (X:Cx) (F:qO) (f nt id:Nat) (draw:Bool) (ops:Array Oper) (e:qn) (H:qd):Option (qn × qd) :=
 match draw,X.lp f id with
 | true,some (L,ow)=>vP X F nt ow ops L 0 [] [] ops.toList e H
 | _,_=>jw X F nt (JX X f id draw ops) ops ops.toList e H
mutual
noncomputable def qG (X:Cx):Nat→Nat→Nat→Nat→Code→qn→qd→Option (Ex × qn × qd)
 | 0,_,_,_,_,_,_=>none
 | n+1,f,nt,n0,c,e,H=>match c with
  | .skip=>some (.normal,e,H)
  | .label _=>some (.normal,e,H)
  | .region id ops draw=>match enter X f n0 id e H with
   | none=>none
   | some (e,H)=>(QC X (jx X n) f nt id draw ops e H).map fun (e,H)=>(.normal,e,H)
  | .seq a b=>match qG X n f nt n0 a e H with
   | some (.normal,e,H)=>qG X n f nt n0 b e H
   | r=>r
  | .cond c a b=>match qB X e c with
   | some (.bool t)=>qG X n f nt n0 (if t then a else b) e H
   | _=>none
  | .block id c=>match qG X n f nt n0 c e H with
   | some (.exit i,e,H)=>if i = id then some (.normal,e,H) else some (.exit i,e,H)
   | r=>r
  | .loop c=>match qG X n f nt n0 c e H with
   | some (.normal,e,H)=>qG X n f nt n0 (.loop c) e H
   | r=>r
  | .exit id=>some (.exit id,e,H)
  | .scope c=>qG X n f nt n0 c e H
  | .ret=>some (.ret,e,H)
  | _=>none
noncomputable def jx (X:Cx):Nat→qO
 | 0,_,_,_=>none
 | n+1,f,args,H=>match X.con f args H with
 | some r=>some r
 | none=>match X.P.funcs[f]? with
  | none=>none
  | some fn=>match fn.body with
   | none=>(X.ext f args).map (·,H)
   | some c=>if X.bad f then none else match qG X n f fn.ntmps H.length c (jI 0 args) H with
    | some (.normal,e,H') | some (.ret,e,H')=>match kv X e H' fn.results.toList with
     | some ds=>Xs (X.gr f && X.byRef f) (X.fzr f) H.length H' (Z2 ds)
     | none=>none
    | _=>none
end
abbrev qz:=Nat→Option (Nat × Nat)
def zo:qz:=fun _=>none
def zn:D→Bool
 | .agg _ | .tup _=>false
 | .raw v=>v.oneCell'
 | _=>true
inductive Rep (ok:Nat→Prop) (w:World):qz→qd→D→Value→Prop
 | bool {ι H} (b:Bool):Rep ok w ι H (.bool b) (.bool b)
 | int {ι H} (k:IntKind) (n:Int):Rep ok w ι H (.int k n) (.int k n)
 | str {ι H} (s:List UInt8):Rep ok w ι H (.str s) (.string ⟨s.toArray⟩)
 | nilp {ι H}:Rep ok w ι H .nilp (.pointer none)
 | nilf {ι H}:Rep ok w ι H .nilf .nilFunc
 | nili {ι H}:Rep ok w ι H .nili .nilIface
 | agg {ι H} {ds:List D} {vs:Array Value} (hl:vs.size = ds.length) (hc:∀ d,d∈ds→zn d = true)
   (h:∀ (j:Nat) d,ds[j]? = some d→Rep ok w ι H d (vs.getD j undef)):Rep ok w ι H (.agg ds) (.agg vs)
 | tup {ι H} {ds:List D} {vs:Array Value} (hl:vs.size = ds.length)
   (h:∀ (j:Nat) d,ds[j]? = some d→Rep ok w ι H d (vs.getD j undef)):Rep ok w ι H (.tup ds) (.tuple vs)
 | vptr {ι H} {ds:List D} (a:Addr) (f:Nat→Value) (ha:∀ d,d∈ds→ok a.block) (hc:∀ d,d∈ds→zn d = true)
   (hr:∀ (j:Nat) d,ds[j]? = some d→w.cell? (a.add j) = some (f j))
   (h:∀ (j:Nat) d,ds[j]? = some d→Rep ok w zo [] d (f j)):Rep ok w ι H (.vptr ds) (.pointer (some a))
 | optr {ι H} {i st off:Nat} (a:Addr) (hi:i < H.length)
   (h:∀ ds,qe H i = some ds→st≤ds.length∧(ds.length = st→∃ b s,ι i = some (b,s)∧a = ⟨b,off,none⟩)):Rep ok w ι H (.optr i st off) (.pointer (some a))
 | vnil {ι H}:Rep ok w ι H (.vsl true [] 0) (.slice none 0 0)
 | vsl {ι H} {ds:List D} {len c:Nat} (a:Addr) (f:Nat→Value) (ha:∀ d,d∈ds→ok a.block) (hc:∀ d,d∈ds→zn d = true)
   (hr:∀ (j:Nat) d,ds[j]? = some d→w.cell? (a.add j) = some (f j))
   (h:∀ (j:Nat) d,ds[j]? = some d→Rep ok w zo [] d (f j)) (qJ:len≤c):Rep ok w ι H (.vsl false ds len) (.slice (some a) len c)
 | osl {ι H} {i st off len k c:Nat} (a:Addr) (hi:i < H.length)
   (h:∀ ds,qe H i = some ds→st≤ds.length∧(ds.length = st→∃ b s,ι i = some (b,s)∧a = ⟨b,off,none⟩∧off+c * k≤s)) (qJ:len≤c) :
   Rep ok w ι H (.osl i st off len k) (.slice (some a) len c)
 | fn {ι H} {f:Nat} {ds:List D} {vs:Array Value} (hl:vs.size = ds.length)
   (h:∀ (j:Nat) d,ds[j]? = some d→Rep ok w ι H d (vs.getD j undef)):Rep ok w ι H (.fn f ds) (.func (.func f) #[] vs)
 | iface {ι H} {t:Nat} {d:D} {v:Value} (h:Rep ok w ι H d v):Rep ok w ι H (.iface t d) (.iface t v)
 | raw {ι H} (v:Value):Rep ok w ι H (.raw v) v
section
variable {ok ok':Nat→Prop} {w w':World} {ι ι':qz} {H H':qd}
theorem Rep.oneCell {d:D} {v:Value} (h:Rep ok w ι H d v) (hc:zn d = true):v.oneCell' = true:=by
 cases h <;> first | rfl | exact hc | simp [zn] at hc
theorem Y2 (l:List D):idFree.idFreeL l = true↔∀ d,d∈l→idFree d = true:=by
 induction l with
 | nil=>simp [idFree.idFreeL]
 | cons d l ih=>simp [idFree.idFreeL,ih]
theorem qcI (l:List D):vFree.vFreeL l = true↔∀ d,d∈l→vFree d = true:=by
 induction l with
 | nil=>simp [vFree.vFreeL]
 | cons d l ih=>simp [vFree.vFreeL,ih]
theorem qbu (n:Nat) (l:List D):closed.closedL n l = true↔∀ d,d∈l→closed n d = true:=by
 induction l with
 | nil=>simp [closed.closedL]
 | cons d l ih=>simp [closed.closedL,ih]
theorem mem_of_get? {ds:List D} {j:Nat} {d:D} (h:ds[j]? = some d):d∈ds:=ZS h
theorem Rep.closed {d:D} {v:Value} (h:Rep ok w ι H d v):Ev.closed H.length d = true:=by
 induction h with
 | agg hl hc h ih | tup hl h ih | fn hl h ih =>
  simp only [Ev.closed,qbu];intro d hd;obtain ⟨j,hj⟩:=List.mem_iff_getElem?.1 hd;exact ih j d hj
 | iface h ih=>simpa [Ev.closed] using ih
 | optr a hi h=>simpa [Ev.closed] using hi
 | osl a hi h=>simpa [Ev.closed] using hi
 | _=>rfl
theorem KH {n:Nat}:∀ d,idFree d = true→closed n d = true
 | .agg cs,h | .tup cs,h | .fn _ cs,h=>by
  simp only [closed,qbu,idFree,Y2] at h ⊢;intro d hd;exact KH d (h d hd)
 | .iface _ d,h=>by simp only [closed,idFree] at h ⊢;exact KH d h
 | .optr i _ _,h | .osl i _ _ _ _,h=>by simp [idFree] at h
 | .bool _,_ | .int _ _,_ | .str _,_ | .nilp,_ | .nilf,_ | .nili,_ | .vptr _,_ | .vsl _ _ _,_ | .raw _,_=>rfl
theorem Rep.free {d:D} {v:Value} (h:Rep ok w ι H d v) (hf:idFree d = true) (ι':qz) (H':qd):Rep ok w ι' H' d v:=by
 induction h with
 | bool b=>exact .bool b
 | int k n=>exact .int k n
 | str s=>exact .str s
 | nilp=>exact .nilp
 | nilf=>exact .nilf
 | nili=>exact .nili
 | raw v=>exact .raw v
 | agg hl hc h ih =>
  simp only [idFree,Y2] at hf;exact .agg hl hc fun j d hj=>ih j d hj (hf d (mem_of_get? hj))
 | tup hl h ih =>
  simp only [idFree,Y2] at hf;exact .tup hl fun j d hj=>ih j d hj (hf d (mem_of_get? hj))
 | fn hl h ih =>
  simp only [idFree,Y2] at hf;exact .fn hl fun j d hj=>ih j d hj (hf d (mem_of_get? hj))
 | iface h ih=>exact .iface (ih hf)
 | optr a hi h=>simp [idFree] at hf
 | osl a hi h=>simp [idFree] at hf
 | vptr a f ha hc hr h _=>exact .vptr a f ha hc hr h
 | vnil=>exact .vnil
 | vsl a f ha hc hr h qJ _=>exact .vsl a f ha hc hr h qJ
structure Evol (n:Nat) (ok:Nat→Prop) (w:World) (ι:qz) (H:qd) (ok':Nat→Prop) (w':World) (ι':qz) (H':qd):Prop where
 os:w'.os = w.os
 tape:w'.tape = w.tape
 output:w'.output = w.output
 size:w.heap.size≤w'.heap.size
 frame:∀ b,b < w.heap.size→(∀ i ds s,qe H i = some ds→ι i≠some (b,s))→w'.heap[b]? = w.heap[b]?
 okU:∀ b,ok b→ok' b
 okN:∀ b,ok' b→b < w.heap.size→ok b∨∃ i ds s,qe H i = some ds∧ι i = some (b,s)
 nle:n≤H.length∧n≤H'.length
 heap:∀ i,i < n→∀ ds',qe H' i = some ds'→∃ ds,qe H i = some ds∧ds.length≤ds'.length∧(ds.length = ds'.length→ι' i = ι i)
 own:∀ i ds' b s,qe H' i = some ds'→ι' i = some (b,s)→b < w.heap.size→∃ j ds s',qe H j = some ds∧ι j = some (b,s')
structure Sim (X:Cx) (ok:Nat→Prop) (w:World) (ι:qz) (H:qd):Prop where
 okS:∀ b,ok b→b < w.heap.size
 glob:∀ g cs,X.glob g = some cs→Rep ok w zo [] (.vptr cs) (.pointer (some ⟨g,0,none⟩))
 inj:∀ i j ds es b s s',qe H i = some ds→qe H j = some es→ι i = some (b,s)→ι j = some (b,s')→i = j
 blk:∀ i ds,qe H i = some ds→∃ b arr e fr,ι i = some (b,arr.size)∧¬ ok b∧w.heap[b]? = some (.cells arr e fr)∧ds.length≤arr.size ∧
  (fr.1 = fr.2∨arr.size≤fr.1)∧(∀ j,j < arr.size→(arr.getD j undef).oneCell' = true)∧(∀ d,d∈ds→zn d = true) ∧
  (∀ (j:Nat) d,ds[j]? = some d→Rep ok w ι H d (arr.getD j undef))
theorem qfB {fr:Nat × Nat} {n:Nat} (h:fr.1 = fr.2∨n≤fr.1):∀ j,j < n→¬ (fr.1≤j∧j < fr.2):=by
 intro j hj;omega
theorem Sim.notOwn {X:Cx} (hs:Sim X ok w ι H) {b:Nat} (hb:ok b):∀ i ds s,qe H i = some ds→ι i≠some (b,s):=by
 intro i ds s hi he;obtain ⟨b',arr,e,fr,qI,hn,_⟩:=hs.blk i ds hi;rw [he] at qI;injection qI with qI;injection qI with qI;subst qI;exact hn hb
theorem qaF (a:Addr) (j:Nat):(a.add j).block = a.block:=by unfold Addr.add;split <;> rfl
theorem Rep.evol {X:Cx} {n:Nat} {d:D} {v:Value} (h:Rep ok w ι H d v) (hs:Sim X ok w ι H) (he:Evol n ok w ι H ok' w' ι' H') (hc:Ev.closed n d = true):Rep ok' w' ι' H' d v:=by
 have Q8:∀ a:Addr,∀ j v,ok a.block→w.cell? (a.add j) = some v→w'.cell? (a.add j) = some v:=by
  intro a j v ha hv;rw [World.cell?_of_block (w:=w)]
  ·exact hv
  ·rw [qaF];exact he.frame _ (hs.okS _ ha) (hs.notOwn ha)
 have inner:∀ {ι1:qz} {H1:qd} {d:D} {v:Value},Rep ok w ι1 H1 d v→ι1 = zo→H1 = []→Rep ok' w' zo [] d v:=by
  intro ι1 H1 d v h
  induction h with
  | bool b=>intros;exact .bool b
  | int k n=>intros;exact .int k n
  | str s=>intros;exact .str s
  | nilp=>intros;exact .nilp
  | nilf=>intros;exact .nilf
  | nili=>intros;exact .nili
  | raw v=>intros;exact .raw v
  | agg hl hc h ih=>intro h1 h2;exact .agg hl hc fun j d hj=>ih j d hj h1 h2
  | tup hl h ih=>intro h1 h2;exact .tup hl fun j d hj=>ih j d hj h1 h2
  | fn hl h ih=>intro h1 h2;exact .fn hl fun j d hj=>ih j d hj h1 h2
  | iface h ih=>intro h1 h2;exact .iface (ih h1 h2)
  | optr a hi h=>intro h1 h2;subst h2;simp at hi
  | osl a hi h=>intro h1 h2;subst h2;simp at hi
  | vptr a f ha hc hr h ih=>intros;exact .vptr a f (fun d hd=>he.okU _ (ha d hd)) hc (fun j d hj=>Q8 a j _ (ha d (mem_of_get? hj)) (hr j d hj)) fun j d hj=>ih j d hj rfl rfl
  | vnil=>intros;exact .vnil
  | vsl a f ha hc hr h qJ ih=>intros;exact .vsl a f (fun d hd=>he.okU _ (ha d hd)) hc (fun j d hj=>Q8 a j _ (ha d (mem_of_get? hj)) (hr j d hj)) (fun j d hj=>ih j d hj rfl rfl) qJ
 have main:∀ {ι1:qz} {H1:qd} {d:D} {v:Value},Rep ok w ι1 H1 d v→ι1 = ι→H1 = H→Ev.closed n d = true→Rep ok' w' ι' H' d v:=by
  intro ι1 H1 d v h
  induction h with
  | bool b=>intros;exact .bool b
  | int k n=>intros;exact .int k n
  | str s=>intros;exact .str s
  | nilp=>intros;exact .nilp
  | nilf=>intros;exact .nilf
  | nili=>intros;exact .nili
  | raw v=>intros;exact .raw v
  | agg hl hc h ih =>
   intro h1 h2 h3;simp only [Ev.closed,qbu] at h3;exact .agg hl hc fun j d hj=>ih j d hj h1 h2 (h3 d (mem_of_get? hj))
  | tup hl h ih =>
   intro h1 h2 h3;simp only [Ev.closed,qbu] at h3;exact .tup hl fun j d hj=>ih j d hj h1 h2 (h3 d (mem_of_get? hj))
  | fn hl h ih =>
   intro h1 h2 h3;simp only [Ev.closed,qbu] at h3;exact .fn hl fun j d hj=>ih j d hj h1 h2 (h3 d (mem_of_get? hj))
  | iface h ih=>intro h1 h2 h3;exact .iface (ih h1 h2 h3)
  | optr a hi hk =>
   intro h1 h2 h3;subst h1;subst h2;simp only [Ev.closed,decide_eq_true_eq] at h3;refine .optr a (jr h3 he.nle.2) fun ds' qS=>?_;obtain ⟨ds,hd,j7,Qe⟩:=he.heap _ h3 ds' qS;obtain ⟨k1,k2⟩:=hk ds hd;refine ⟨by omega,fun e=>?_⟩;obtain ⟨b,s,q1,q2⟩:=k2 (by omega);exact ⟨b,s,by rw [Qe (by omega)];exact q1,q2⟩
  | osl a hi hk qJ =>
   intro h1 h2 h3;subst h1;subst h2;simp only [Ev.closed,decide_eq_true_eq] at h3;refine .osl a (jr h3 he.nle.2) (fun ds' qS=>?_) qJ;obtain ⟨ds,hd,j7,Qe⟩:=he.heap _ h3 ds' qS;obtain ⟨k1,k2⟩:=hk ds hd;refine ⟨by omega,fun e=>?_⟩;obtain ⟨b,s,q1,q2⟩:=k2 (by omega);exact ⟨b,s,by rw [Qe (by omega)];exact q1,q2⟩
  | vptr a f ha hc hr h ih=>intros;exact .vptr a f (fun d hd=>he.okU _ (ha d hd)) hc (fun j d hj=>Q8 a j _ (ha d (mem_of_get? hj)) (hr j d hj)) fun j d hj=>inner (h j d hj) rfl rfl
  | vnil=>intros;exact .vnil
  | vsl a f ha hc hr h qJ ih=>intros;exact .vsl a f (fun d hd=>he.okU _ (ha d hd)) hc (fun j d hj=>Q8 a j _ (ha d (mem_of_get? hj)) (hr j d hj)) (fun j d hj=>inner (h j d hj) rfl rfl) qJ
 exact main h rfl rfl hc
theorem Evol.refl (n:Nat) (hn:n≤H.length):Evol n ok w ι H ok w ι H :=
 ⟨rfl,rfl,rfl,qv _,fun _ _ _=>rfl,fun _ h=>h,fun _ h _=>.inl h,⟨hn,hn⟩,fun _ _ ds hd=>⟨ds,hd,qv _,fun _=>rfl⟩,fun i ds _ s hd hi _=>⟨i,ds,s,hd,hi⟩⟩
theorem Evol.mono {n m:Nat} (he:Evol n ok w ι H ok' w' ι' H') (hm:m≤n):Evol m ok w ι H ok' w' ι' H' :=
 ⟨he.os,he.tape,he.output,he.size,he.frame,he.okU,he.okN,⟨by have:=he.nle;omega,by have:=he.nle;omega⟩,fun i hi=>he.heap i (by omega),he.own⟩
theorem Evol.trans {ok'':Nat→Prop} {w'':World} {ι'':qz} {H'':qd} {n:Nat} (h:Evol n ok w ι H ok' w' ι' H') (k:Evol n ok' w' ι' H' ok'' w'' ι'' H''):Evol n ok w ι H ok'' w'' ι'' H'' where
 os:=k.os.trans h.os
 tape:=k.tape.trans h.tape
 output:=k.output.trans h.output
 size:=jA h.size k.size
 frame b hb zy:=by
  rw [k.frame b (jr hb h.size),h.frame b hb zy];intro i ds s hd hi;obtain ⟨j,ds0,s',hj,hι⟩:=h.own i ds b s hd hi hb;exact zy j ds0 s' hj hι
 okU b hb:=k.okU b (h.okU b hb)
 okN b hb qi:=by
  rcases k.okN b hb (jr qi h.size) with hb | ⟨i,ds,s,hd,hi⟩
  ·exact h.okN b hb qi
  ·exact .inr (h.own i ds b s hd hi qi)
 nle:=⟨h.nle.1,k.nle.2⟩
 heap i hi ds'' hd'':=by
  obtain ⟨ds',qS,YE,Qe⟩:=k.heap i hi ds'' hd'';obtain ⟨ds,hd,j7,Vm⟩:=h.heap i hi ds' qS;exact ⟨ds,hd,by omega,fun e=>by rw [Qe (by omega),Vm (by omega)]⟩
 own i ds' b s hd hi hb:=by
  obtain ⟨j,ds0,s',hj,hι⟩:=k.own i ds' b s hd hi (jr hb h.size);exact h.own j ds0 b s' hj hι hb
def EnvRep (ok:Nat→Prop) (w:World) (ι:qz) (H:qd) (e:qn) (tmps:Array Value):Prop :=
 ∀ t d,qg e t = some d→t < tmps.size∧Rep ok w ι H d (tmps.getD t undef)
def RepL (ok:Nat→Prop) (w:World) (ι:qz) (H:qd) (ds:List D) (vs:List Value):Prop :=
 vs.length = ds.length∧∀ (j:Nat) d,ds[j]? = some d→Rep ok w ι H d (vs.getD j undef)
theorem EnvRep.put {e:qn} {tmps:Array Value} {t:Nat} {d:D} {v:Value} (he:EnvRep ok w ι H e tmps) (hd:Rep ok w ι H d v) (ht:t < tmps.size) :
  EnvRep ok w ι H ((t,d) :: e) (tmps.setIfInBounds t v):=by
 intro u d' hu;simp only [qg] at hu;by_cases h:t = u
 ·subst h;simp only [if_true,qs] at hu;subst hu;simp [ht,hd,Array.getD]
 ·simp only [h,if_false] at hu;obtain ⟨h1,h2⟩:=he u d' hu;refine ⟨by simpa using h1,?_⟩
  have:(tmps.setIfInBounds t v).getD u undef = tmps.getD u undef:=by
   simp only [zw,qb9 h]
  rw [this];exact h2
theorem EnvRep.evol {X:Cx} {n:Nat} {e:qn} {tmps:Array Value} (he:EnvRep ok w ι H e tmps) (hs:Sim X ok w ι H) (hv:Evol n ok w ι H ok' w' ι' H')
  (hc:∀ t d,qg e t = some d→Ev.closed n d = true):EnvRep ok' w' ι' H' e tmps :=
 fun t d ht=>⟨(he t d ht).1,(he t d ht).2.evol hs hv (hc t d ht)⟩
theorem EnvRep.evol' {X:Cx} {e:qn} {tmps:Array Value} (he:EnvRep ok w ι H e tmps) (hs:Sim X ok w ι H) (hv:Evol H.length ok w ι H ok' w' ι' H'):EnvRep ok' w' ι' H' e tmps :=
 he.evol hs hv fun t d ht=>(he t d ht).2.closed
end
end Go.Ev
namespace Go.Ev
section
variable {X:Cx} {P:Program} {ok:Nat→Prop} {w w':World} {ι:qz} {H:qd}
theorem qgi:∀ d,closed 0 d = true→idFree d = true
 | .agg cs,h | .tup cs,h | .fn _ cs,h=>by
  simp only [closed,qbu,idFree,Y2] at h ⊢;intro d hd;exact qgi d (h d hd)
 | .iface _ d,h=>by simp only [closed,idFree] at h ⊢;exact qgi d h
 | .optr i _ _,h | .osl i _ _ _ _,h=>by simp [closed] at h
 | .bool _,_ | .int _ _,_ | .str _,_ | .nilp,_ | .nilf,_ | .nili,_ | .vptr _,_ | .vsl _ _ _,_ | .raw _,_=>rfl
theorem Rep.lift {d:D} {v:Value} (h:Rep ok w zo [] d v):Rep ok w ι H d v:=h.free (qgi d h.closed) _ _
theorem qt {i:Nat} {ds:List D} (h:qe H i = some ds):i < H.length:=by
 unfold qe at h;rcases Yg i H.length with qi | vd
 ·exact qi
 ·rw [List.getElem?_eq_none vd] at h;simp at h
theorem qV {i:Nat} {ds:List D} (h:i < H.length):qe (ql H i ds) i = some ds:=by
 simp [qe,ql,h]
theorem qZ {i j:Nat} {ds:List D} (h:j≠i):qe (ql H i ds) j = qe H j:=by
 simp [qe,ql,Ne.symm h]
theorem kN {i:Nat} {ds:List D}:(ql H i ds).length = H.length:=by simp [ql]
theorem qN {ds:List D}:qe (qo H ds) H.length = some ds:=by simp [qe,qo]
theorem jF {ds:List D} {i:Nat} (h:i < H.length):qe (qo H ds) i = qe H i:=by
 simp [qe,qo,jX h]
theorem zG {ds:List D}:(qo H ds).length = H.length+1:=by simp [qo]
def Xl (w w':World):Prop:=w'.os = w.os∧w'.tape = w.tape∧w'.output = w.output
theorem Sim.lt (hs:Sim X ok w ι H) {i:Nat} {ds:List D} {b s:Nat} (hd:qe H i = some ds) (hi:ι i = some (b,s)):b < w.heap.size:=by
 obtain ⟨b',arr,e,fr,qI,hn,hh,_⟩:=hs.blk i ds hd;rw [hi] at qI;injection qI with qI;injection qI with qI _;subst qI;exact (Array.getElem?_eq_some_iff.1 hh).1
theorem qbD {i:Nat} {ds ds':List D} {b sz b':Nat} {arr':Array Value} {e:TypeId} {fr:Nat × Nat} (hs:Sim X ok w ι H) (hd:qe H i = some ds) (hι:ι i = some (b,sz))
  (hw:Xl w w') (zx:w.heap.size≤w'.heap.size) (hfr:∀ c,c < w.heap.size→c≠b→w'.heap[c]? = w.heap[c]?)
  (qI:w'.heap[b']? = some (.cells arr' e fr)) (hloc:(b' = b∧arr'.size = sz)∨(w.heap.size≤b'∧ds.length < ds'.length)) (hlen:ds.length≤ds'.length)
  (XJ:ds'.length≤arr'.size) (kF:fr.1 = fr.2∨arr'.size≤fr.1) (Qn:∀ j,j < arr'.size→(arr'.getD j undef).oneCell' = true)
  (Q8:∀ d,d∈ds'→zn d = true) (hrep:∀ (j:Nat) d,ds'[j]? = some d→Rep ok w ι H d (arr'.getD j undef)) :
  ∃ ι',Sim X ok w' ι' (ql H i ds')∧Evol H.length ok w ι H ok w' ι' (ql H i ds')∧ι' i = some (b',arr'.size):=by
 have hi:=qt hd
 have V8:¬ ok b:=by
  intro hb;exact hs.notOwn hb i ds sz hd hι
 refine ⟨fun k=>if k = i then some (b',arr'.size) else ι k,?_⟩
 have hev:Evol H.length ok w ι H ok w' (fun k=>if k = i then some (b',arr'.size) else ι k) (ql H i ds'):=by
  refine ⟨hw.1,hw.2.1,hw.2.2,zx,?_,fun _ h=>h,fun _ h _=>.inl h,⟨qv _,by rw [kN];exact qv _⟩,?_,?_⟩
  ·intro c hc zy;exact hfr c hc (fun e=>zy i ds sz hd (by rw [hι,e]))
  ·intro k hk es he;by_cases vc:k = i
   ·subst vc;rw [qV hi] at he;injection he with he;subst he;refine ⟨ds,hd,hlen,fun YJ=>?_⟩;rcases hloc with ⟨h1,h2⟩ | ⟨_,h2⟩
    ·simp only [if_true,h1,h2,hι]
    ·omega
   ·rw [qZ vc] at he;exact ⟨es,he,qv _,fun _=>by simp [vc]⟩
  ·intro k es c s he hk hc;by_cases vc:k = i
   ·subst vc;simp only [if_true,qs,qK] at hk;rcases hloc with ⟨h1,h2⟩ | ⟨h1,_⟩
    ·exact ⟨k,ds,sz,hd,by rw [hι,← hk.1,h1]⟩
    ·omega
   ·rw [qZ vc] at he;simp only [vc,if_false] at hk;exact ⟨k,es,s,he,hk⟩
 refine ⟨⟨fun c hc=>jr (hs.okS c hc) zx,?_,?_,?_⟩,hev,by simp⟩
 ·intro g cs hg;have h:=(hs.glob g cs hg).lift (ι:=ι) (H:=H);have h2:=h.evol hs hev rfl;exact h2.free rfl _ _
 ·intro p q es fs c s s' hp hq hιp hιq
  have old:∀ k,k≠i→∀ es c s,qe H k = some es→ι k = some (c,s)→c≠b':=by
   intro k hk es c s he hc YJ;rcases hloc with ⟨h1,_⟩ | ⟨h1,_⟩
   ·exact hk (hs.inj k i es ds c s sz he hd hc (by rw [hι,YJ,h1]))
   ·have:=hs.lt he hc;omega
  by_cases hpi:p = i <;> by_cases hqi:q = i
  ·rw [hpi,hqi]
  ·subst hpi;rw [qZ hqi] at hq;simp only [if_true,hqi,if_false,qs,qK] at hιp hιq;exact absurd hιp.1.symm (old q hqi fs c s' hq hιq)
  ·subst hqi;rw [qZ hpi] at hp;simp only [if_true,hpi,if_false,qs,qK] at hιp hιq;exact absurd hιq.1.symm (old p hpi es c s hp hιp)
  ·rw [qZ hpi] at hp;rw [qZ hqi] at hq;simp only [hpi,hqi,if_false] at hιp hιq;exact hs.inj p q es fs c s s' hp hq hιp hιq
 ·intro k es he;by_cases vc:k = i
  ·subst vc;rw [qV hi] at he;injection he with he;subst he;refine ⟨b',arr',e,fr,by simp,?_,qI,XJ,kF,Qn,Q8,fun j d hj=>(hrep j d hj).evol hs hev (hrep j d hj).closed⟩;rcases hloc with ⟨h1,_⟩ | ⟨h1,_⟩
   ·rw [h1];exact V8
   ·intro h;have:=hs.okS _ h;omega
  ·rw [qZ vc] at he;obtain ⟨c,arr,e2,fr2,h1,h2,h3,h4,h5,h6,h7,h8⟩:=hs.blk k es he;refine ⟨c,arr,e2,fr2,by simp [vc,h1],h2,?_,h4,h5,h6,h7,fun j d hj=>(h8 j d hj).evol hs hev (h8 j d hj).closed⟩;rw [hfr c (hs.lt he h1)]
   ·exact h3
   ·rintro rfl;exact vc (hs.inj k i es ds c arr.size sz he hd h1 hι)
theorem qgO {ds:List D} {b':Nat} {arr:Array Value} {e:TypeId} {fr:Nat × Nat} (hs:Sim X ok w ι H)
  (hw:Xl w w') (zx:w.heap.size≤w'.heap.size) (hfr:∀ c,c < w.heap.size→w'.heap[c]? = w.heap[c]?)
  (qI:w'.heap[b']? = some (.cells arr e fr)) (hloc:w.heap.size≤b')
  (XJ:ds.length≤arr.size) (kF:fr.1 = fr.2∨arr.size≤fr.1) (Qn:∀ j,j < arr.size→(arr.getD j undef).oneCell' = true)
  (Q8:∀ d,d∈ds→zn d = true) (hrep:∀ (j:Nat) d,ds[j]? = some d→Rep ok w ι H d (arr.getD j undef)) :
  ∃ ι',Sim X ok w' ι' (qo H ds)∧Evol H.length ok w ι H ok w' ι' (qo H ds)∧ι' H.length = some (b',arr.size):=by
 refine ⟨fun k=>if k = H.length then some (b',arr.size) else ι k,?_⟩
 have hev:Evol H.length ok w ι H ok w' (fun k=>if k = H.length then some (b',arr.size) else ι k) (qo H ds):=by
  refine ⟨hw.1,hw.2.1,hw.2.2,zx,fun c hc _=>hfr c hc,fun _ h=>h,fun _ h _=>.inl h,⟨qv _,by rw [zG];omega⟩,?_,?_⟩
  ·intro k hk es he;rw [jF hk] at he;exact ⟨es,he,qv _,fun _=>by simp [Vy hk]⟩
  ·intro k es c s he hk hc;by_cases vc:k = H.length
   ·subst vc;simp only [if_true,qs,qK] at hk;omega
   ·have qi:k < H.length:=by
     have:=qt he;rw [zG] at this;omega
    rw [jF qi] at he;simp only [vc,if_false] at hk;exact ⟨k,es,s,he,hk⟩
 have split:∀ k es,qe (qo H ds) k = some es→(k = H.length∧es = ds)∨(k < H.length∧qe H k = some es):=by
  intro k es he;by_cases vc:k = H.length
  ·subst vc;rw [qN] at he;injection he with he;exact .inl ⟨rfl,he.symm⟩
  ·have qi:k < H.length:=by
    have:=qt he;rw [zG] at this;omega
   rw [jF qi] at he;exact .inr ⟨qi,he⟩
 refine ⟨⟨fun c hc=>jr (hs.okS c hc) zx,?_,?_,?_⟩,hev,by simp⟩
 ·intro g cs hg;have h:=(hs.glob g cs hg).lift (ι:=ι) (H:=H);have h2:=h.evol hs hev rfl;exact h2.free rfl _ _
 ·intro p q es fs c s s' hp hq hιp hιq;rcases split p es hp with ⟨rfl,_⟩ | ⟨vx,J9⟩ <;> rcases split q fs hq with ⟨rfl,_⟩ | ⟨Jf,jL⟩
  ·rfl
  ·simp only [if_true,Vy Jf,if_false,qs,qK] at hιp hιq;have:=hs.lt jL hιq;omega
  ·simp only [if_true,Vy vx,if_false,qs,qK] at hιp hιq;have:=hs.lt J9 hιp;omega
  ·simp only [Vy vx,Vy Jf,if_false] at hιp hιq;exact hs.inj p q es fs c s s' J9 jL hιp hιq
 ·intro k es he;rcases split k es he with ⟨rfl,rfl⟩ | ⟨hk,he⟩
  ·exact ⟨b',arr,e,fr,by simp,fun h=>by have:=hs.okS _ h;omega,qI,XJ,kF,Qn,Q8,fun j d hj=>(hrep j d hj).evol hs hev (hrep j d hj).closed⟩
  ·obtain ⟨c,arr2,e2,fr2,h1,h2,h3,h4,h5,h6,h7,h8⟩:=hs.blk k es he;refine ⟨c,arr2,e2,fr2,by simp [Vy hk,h1],h2,?_,h4,h5,h6,h7,fun j d hj=>(h8 j d hj).evol hs hev (h8 j d hj).closed⟩;rw [hfr c (hs.lt he h1)];exact h3
theorem qlW (hs:Sim X ok w ι H) (hw:Xl w w') (hh:w'.heap = w.heap):Sim X ok w' ι H∧Evol H.length ok w ι H ok w' ι H:=by
 have hev:Evol H.length ok w ι H ok w' ι H :=
  ⟨hw.1,hw.2.1,hw.2.2,by rw [hh];exact qv _,fun _ _ _=>by rw [hh],fun _ h=>h,fun _ h _=>.inl h,⟨qv _,qv _⟩,fun _ _ ds hd=>⟨ds,hd,qv _,fun _=>rfl⟩,
   fun i ds _ s hd hi _=>⟨i,ds,s,hd,hi⟩⟩
 refine ⟨⟨fun c hc=>by rw [hh];exact hs.okS c hc,fun g cs hg=>?_,hs.inj,fun k es he=>?_⟩,hev⟩
 ·have h:=(hs.glob g cs hg).lift (ι:=ι) (H:=H);exact (h.evol hs hev rfl).free rfl _ _
 ·obtain ⟨c,arr2,e2,fr2,h1,h2,h3,h4,h5,h6,h7,h8⟩:=hs.blk k es he;exact ⟨c,arr2,e2,fr2,h1,h2,by rw [hh];exact h3,h4,h5,h6,h7,fun j d hj=>(h8 j d hj).evol hs hev (h8 j d hj).closed⟩
theorem Jv (b o j:Nat):(⟨b,o,none⟩:Addr).add j = ⟨b,o+j,none⟩:=by
 unfold Addr.add;split
 ·simp_all
 ·rfl
theorem qei (a:Addr) (i j:Nat):(a.add i).add j = a.add (i+j):=by
 unfold Addr.add;by_cases hi:i = 0 <;> by_cases hj:j = 0 <;> simp [hi,hj,qel]
theorem qiz {p:D} {cs:List D} {a:Addr} (hs:Sim X ok w ι H) (hp:Rep ok w ι H p (.pointer (some a))) (hm:VQ H p = some cs) :
  (∀ d,d∈cs→zn d = true)∧∃ f:Nat→Value,∀ (j:Nat) d,cs[j]? = some d→w.cell? (a.add j) = some (f j)∧Rep ok w ι H d (f j):=by
 cases hp with
 | raw v=>simp [VQ] at hm
 | vptr a f ha hc hr h =>
  simp only [VQ,qs] at hm;subst hm;exact ⟨hc,f,fun j d hj=>⟨hr j d hj,(h j d hj).lift⟩⟩
 | optr a hi h =>
  rename_i i st off;simp only [VQ] at hm;split at hm
  ·rename_i ds hd;split at hm
   ·rename_i hst;injection hm with hm;subst hm;obtain ⟨b,s,h1,rfl⟩:=(h ds hd).2 hst;obtain ⟨b',arr,e,fr,k1,k2,k3,k4,k5,k6,k7,k8⟩:=hs.blk i ds hd;rw [h1] at k1;injection k1 with k1;injection k1 with k1 _;subst k1;refine ⟨fun d hd=>k7 d (QG hd),fun j=>arr.getD (off+j) undef,fun j d hj=>?_⟩;rw [ke] at hj;refine ⟨?_,k8 _ d hj⟩;have qi:off+j < arr.size:=jr (List.getElem?_eq_some_iff.1 hj).1 k4;rw [Jv];simp [World.cell?,k3,qi]
   ·cases hm
  ·cases hm
theorem qd0 {t:TypeId} {q:Bool} (h:Ju P t = some q) (w:World):(isAgg t).run P w = .ok q w:=by
 unfold Ju at h;unfold isAgg;rw [Sem.run_bind];cases hu:P.underlying t with
 | none=>simp [hu] at h
 | some d=>rw [run_underlying hu w];cases d <;> simp_all
theorem qsw {t:TypeId} {d:TypeDesc} (h:P.underlying t = some d):∃ i,P.info? t = some i:=by
 cases hi:P.info? t with
 | some i=>exact ⟨i,rfl⟩
 | none =>
  unfold Program.underlying at h;rw [hi] at h;simp at h
end
end Go.Ev
namespace Go.Ev
section
variable {X:Cx} {P:Program} {ok:Nat→Prop} {w w':World} {ι:qz} {H H':qd}
theorem ki {t:TypeId} (h:0 < qr P t) (w:World):(sizeOf t).run P w = .ok (qr P t) w:=by
 unfold qr at h ⊢;cases hi:P.info? t with
 | none=>simp [hi] at h
 | some i=>simp [sizeOf,typeInfo,hi]
theorem qeF {t:TypeId} {d:TypeDesc} (h:P.underlying t = some d) (w:World):(sizeOf t).run P w = .ok (qr P t) w:=by
 obtain ⟨i,hi⟩:=qsw h;simp [sizeOf,typeInfo,hi,qr]
theorem qcc {t:TypeId} (h:0 < qr P t):∃ i,P.info? t = some i∧i.size = qr P t∧i.bytes = bytesOf P t:=by
 unfold qr bytesOf at *;cases hi:P.info? t with
 | none=>simp [hi] at h
 | some i=>exact ⟨i,rfl,by simp,by simp⟩
theorem qig {v:Value} {d:D} (h:qa5 v = some d):Rep ok w ι H d v:=by
 unfold qa5 at h;split at h <;> cases h
 ·exact .bool _
 ·exact .int _ _
 ·rename_i s;have:s = ⟨s.data.toList.toArray⟩:=by simp
  rw [this];exact .str _
 ·exact .nilp
 ·exact .vnil
 ·exact .nilf
 ·exact .nili
theorem qob {v:Value} {d:D} (h:qa5 v = some d):zn d = true:=by
 unfold qa5 at h;split at h <;> cases h <;> rfl
theorem qie:∀ {l:List Value} {ds:List D},qa4 l = some ds→l.length = ds.length∧(∀ d,d∈ds→zn d = true)∧∀ (j:Nat) d,ds[j]? = some d→Rep ok w ι H d (l.getD j undef)
 | [],ds,h=>by
  simp only [qa4,qs] at h;subst h;simp
 | v :: l,ds,h=>by
  simp only [qa4] at h;split at h
  ·rename_i d ds' h1 h2;injection h with h;subst h;obtain ⟨k1,k2,k3⟩:=qie h2;refine ⟨by simp [k1],?_,?_⟩
   ·intro x hx;rcases List.mem_cons.1 hx with rfl | hx
    ·exact qob h1
    ·exact k2 x hx
   ·intro j x hx;cases j with
    | zero =>
     simp only [Qh,qs] at hx;subst hx;exact qig h1
    | succ j=>exact k3 j x (by simpa using hx)
  ·cases h
theorem qif {v:Value} {d:D} (h:qbX v = some d):Rep ok w ι H d v:=by
 unfold qbX at h;split at h
 ·rename_i cs;cases hv:qa4 cs.toList with
  | none=>simp [hv] at h
  | some ds =>
   simp only [hv,zT,qs] at h;subst h;obtain ⟨k1,k2,k3⟩:=qie (ok:=ok) (w:=w) (ι:=ι) (H:=H) hv;refine .agg (by simpa using k1) k2 fun j d hj=>?_;have:=k3 j d hj;simpa [zw,jd] using this
 ·exact qig h
theorem jk (hs:Sim X ok w ι H) {e:qn} {a:Act} (he:EnvRep ok w ι H e a.tmps) {x:Operand} {d:D} (h:qB X e x = some d):Rep ok w ι H d (a.eval x):=by
 cases x with
 | tmp t=>exact (he t d h).2
 | const v=>exact qif h
 | func f =>
  simp only [qB,qs] at h;subst h;exact .fn rfl (by simp)
 | global g =>
  simp only [qB] at h;cases hg:X.glob g with
  | none=>simp [hg] at h
  | some cs =>
   simp only [hg,zT,qs] at h;subst h;exact (hs.glob g cs hg).lift
theorem qbV (hs:Sim X ok w ι H) {e:qn} {a:Act} (he:EnvRep ok w ι H e a.tmps):∀ {l:List Operand} {ds:List D},j5 X e l = some ds→RepL ok w ι H ds (l.map a.eval)
 | [],ds,h=>by
  simp only [j5,qs] at h;subst h;exact ⟨rfl,by simp⟩
 | x :: l,ds,h=>by
  simp only [j5] at h;split at h
  ·rename_i d ds' h1 h2;injection h with h;subst h;obtain ⟨k1,k2⟩:=qbV hs he h2;refine ⟨by simpa using k1,fun j x hx=>?_⟩;cases j with
   | zero =>
    simp only [Qh,qs] at hx;subst hx;exact jk hs he h1
   | succ j=>exact k2 j x (by simpa using hx)
  ·cases h
def Post (X:Cx) (n:Nat) (ok:Nat→Prop) (w:World) (ι:qz) (H:qd) (d:D) (H':qd) (v:Value) (w':World):Prop :=
 ∃ ι' ok',Sim X ok' w' ι' H'∧Rep ok' w' ι' H' d v∧Evol n ok w ι H ok' w' ι' H'
theorem Post.same (hs:Sim X ok w ι H) {d:D} {v:Value} (h:Rep ok w ι H d v):Post X H.length ok w ι H d H v w :=
 ⟨ι,ok,hs,h,.refl _ (qv _)⟩
theorem Xj {d:D} {v:Value} {cs:List D} (h:Rep ok w ι H d v) (hc:cellsOf d = some cs) :
  v.cells.size = cs.length∧(∀ d,d∈cs→zn d = true)∧∀ (j:Nat) d,cs[j]? = some d→Rep ok w ι H d (v.cells.getD j undef):=by
 have one:∀ {d:D} {v:Value},Rep ok w ι H d v→zn d = true→v.cells = #[v]→(#[v]:Array Value).size = [d].length∧(∀ x,x∈[d]→zn x = true)∧∀ (j:Nat) x,[d][j]? = some x→Rep ok w ι H x ((#[v]:Array Value).getD j undef):=by
  intro d v h hd _;refine ⟨rfl,by simpa using hd,fun j x hx=>?_⟩;cases j with
  | zero =>
   simp only [Qh,qs] at hx;subst hx;exact h
  | succ j=>simp at hx
 cases h with
 | agg hl hcs h =>
  simp only [cellsOf,qs] at hc;subst hc;exact ⟨hl,hcs,h⟩
 | tup hl h=>simp [cellsOf] at hc
 | raw v=>simp [cellsOf] at hc
 | bool b=>simp only [cellsOf,qs] at hc;subst hc;exact one (.bool b) rfl rfl
 | int k n=>simp only [cellsOf,qs] at hc;subst hc;exact one (.int k n) rfl rfl
 | str s=>simp only [cellsOf,qs] at hc;subst hc;exact one (.str s) rfl rfl
 | nilp=>simp only [cellsOf,qs] at hc;subst hc;exact one .nilp rfl rfl
 | nilf=>simp only [cellsOf,qs] at hc;subst hc;exact one .nilf rfl rfl
 | nili=>simp only [cellsOf,qs] at hc;subst hc;exact one .nili rfl rfl
 | vptr a f ha KZ hr h=>simp only [cellsOf,qs] at hc;subst hc;exact one (.vptr a f ha KZ hr h) rfl rfl
 | optr a hi h=>simp only [cellsOf,qs] at hc;subst hc;exact one (.optr a hi h) rfl rfl
 | vnil=>simp only [cellsOf,qs] at hc;subst hc;exact one .vnil rfl rfl
 | vsl a f ha KZ hr h qJ=>simp only [cellsOf,qs] at hc;subst hc;exact one (.vsl a f ha KZ hr h qJ) rfl rfl
 | osl a hi h qJ=>simp only [cellsOf,qs] at hc;subst hc;exact one (.osl a hi h qJ) rfl rfl
 | fn hl h=>simp only [cellsOf,qs] at hc;subst hc;exact one (.fn hl h) rfl rfl
 | iface h=>simp only [cellsOf,qs] at hc;subst hc;exact one (.iface h) rfl rfl
theorem Rep.ptr {p:D} {v:Value} {cs:List D} (h:Rep ok w ι H p v) (hm:VQ H p = some cs):∃ a,v = .pointer (some a):=by
 cases h <;> first | (simp [VQ] at hm;done) | exact ⟨_,rfl⟩
theorem qtx {f:Nat→Value} {n j:Nat} (h:j < n):(((List.range n).map f).toArray).getD j undef = f j:=by
 simp [h]
theorem qiD {p d:D} {pv:Value} {t:TypeId} (hs:Sim X ok w ι H) (hp:Rep ok w ι H p pv) (h:Yz P H t p = some d) :
  ∃ v,(Instr.loadAt t pv).run P w = .ok v w∧Rep ok w ι H d v:=by
 unfold Yz at h;split at h
 ·rename_i cs hq hm;split at h
  ·rename_i j7;injection h with h;subst h;obtain ⟨a,rfl⟩:=hp.ptr hm;obtain ⟨hc,f,hf⟩:=qiz hs hp hm;have qi:∀ j,j < qr P t→∃ d,cs[j]? = some d:=fun j hj=>⟨cs[j],qU (by omega)⟩
   have hl:=run_loadCells (P:=P) w a (qr P t) f (fun j hj=>by
    obtain ⟨d,hd⟩:=qi j hj;exact (hf j d hd).1)
   have hu:∃ dsc,P.underlying t = some dsc:=by
    unfold Ju at hq;cases hu:P.underlying t with
    | none=>simp [hu] at hq
    | some x=>exact ⟨x,rfl⟩
   obtain ⟨dsc,hu⟩:=hu;refine ⟨.agg ((List.range (qr P t)).map f).toArray,?_,?_⟩
   ·simp [Instr.loadAt,Instr.sureAddr,loadVar,qd0 hq,qeF hu,hl]
   ·refine .agg (by simp;omega) (fun d hd=>hc d (JQ hd)) fun j d hj=>?_;rw [JR] at hj;split at hj
    ·rename_i zm;rw [qtx zm];exact (hf j d hj).2
    ·cases hj
  ·cases h
 ·rename_i d' rest hq hm;injection h with h;subst h;obtain ⟨a,rfl⟩:=hp.ptr hm;obtain ⟨hc,f,hf⟩:=qiz hs hp hm;obtain ⟨h1,h2⟩:=hf 0 d' rfl;refine ⟨f 0,?_,h2⟩;have:a.add 0 = a:=rfl;rw [this] at h1;simp [Instr.loadAt,Instr.sureAddr,loadVar,qd0 hq,h1]
 ·cases h
theorem Km {b o:Nat} {arr:Array Value} {e:TypeId} {fr:Nat × Nat} (h:w.heap[b]? = some (.cells arr e fr)):w.cell? ⟨b,o,none⟩ = arr[o]?:=by
 simp [World.cell?,h]
theorem qdF {b o:Nat} {arr:Array Value} {e:TypeId} {fr:Nat × Nat} (h:w.heap[b]? = some (.cells arr e fr)):w.frozen? ⟨b,o,none⟩ = (decide (fr.1≤o) && decide (o < fr.2)):=by
 simp [World.frozen?,h]
theorem qe9 (b o:Nat) (e:TypeId) (fr:Nat × Nat):∀ (vs:List Value) (i:Nat) (arr:Array Value) (w:World),w.heap[b]? = some (.cells arr e fr)→o+i+vs.length≤arr.size →
  (∀ v,v∈vs→v.oneCell' = true)→(∀ j,j < arr.size→¬ (fr.1≤j∧j < fr.2)) →
  ∃ w' arr',(storeCells ⟨b,o,none⟩ vs i).run P w = .ok () w'∧Xl w w'∧w'.heap.size = w.heap.size∧(∀ c,c≠b→w'.heap[c]? = w.heap[c]?)∧w'.heap[b]? = some (.cells arr' e fr)∧arr'.size = arr.size ∧
   ∀ j,arr'[j]? = if o+i≤j∧j < o+i+vs.length then vs[j - (o+i)]? else arr[j]?
 | [],i,arr,w,hb,hl,h1,hz=>by
  refine ⟨w,arr,rfl,⟨rfl,rfl,rfl⟩,rfl,fun _ _=>rfl,hb,rfl,fun j=>?_⟩;rw [if_neg (by simp)]
 | v :: vs,i,arr,w,hb,hl,h1,hz=>by
  simp only [ju] at hl;have qi:o+i < arr.size:=by omega
  have Q8:w.cell? ⟨b,o+i,none⟩ = some arr[o+i]:=by rw [Km hb];simp [qi]
  have kF:w.frozen? ⟨b,o+i,none⟩ = false:=by
   rw [qdF hb];have:=hz _ qi;simp only [Bool.and_eq_false_iff,decide_eq_false_iff_not];omega
  have vy:(w.setCell ⟨b,o+i,none⟩ v).heap[b]? = some (.cells (arr.setIfInBounds (o+i) v) e fr):=by
   simp [World.setCell,qgz,hb]
  obtain ⟨w',arr',k1,k2,k3,k4,k5,k6,k7⟩:=qe9 b o e fr vs (i+1) (arr.setIfInBounds (o+i) v) (w.setCell ⟨b,o+i,none⟩ v) vy (by simp;omega)
   (fun u hu=>h1 u (kS _ hu)) (by simpa using hz)
  refine ⟨w',arr',?_,⟨k2.1,k2.2.1,k2.2.2⟩,by simpa [World.setCell] using k3,?_,k5,by simpa using k6,?_⟩
  ·simp only [storeCells,Sem.run_bind,Jv,run_store P w _ v .plain (h1 v (Za ..)),Q8,kF,kB,if_false,Result.andThen_ok];exact k1
  ·intro c hc;rw [k4 c hc];simp [World.setCell,qgz,Ne.symm hc]
  ·intro j;rw [k7 j];simp only [ju];by_cases hj:j = o+i
   ·subst hj;rw [if_neg (by omega),if_pos (by omega)];simp [qi]
   ·by_cases hr:o+(i+1)≤j∧j < o+(i+1)+vs.length
    ·rw [if_pos hr,if_pos (by omega)];have:j - (o+i) = (j - (o+(i+1)))+1:=(by omega);rw [this,qb8]
    ·rw [if_neg hr,if_neg (by omega)];rw [qb9 (by omega)]
theorem qaO {ds xs:List D} {off:Nat} (h:off+xs.length≤ds.length):(qC ds off xs).length = ds.length:=by
 simp [qC];omega
theorem qhk {ds xs:List D} {off:Nat} (h:off+xs.length≤ds.length) (j:Nat):(qC ds off xs)[j]? = if off≤j∧j < off+xs.length then xs[j - off]? else ds[j]?:=by
 unfold qC;have hl:(ds.take off).length = off:=by simp;omega
 by_cases h1:j < off
 ·rw [if_neg (by omega),ZT,jX (by omega),JR,if_pos h1]
 ·by_cases h2:j < off+xs.length
  ·rw [if_pos (by omega),ZT,ku (by omega),jX (by omega),hl]
  ·rw [if_neg (by omega),ku (by simp;omega),ke];congr 1;simp;omega
theorem qiy {ds xs:List D} {off:Nat} {d:D} (h:d∈qC ds off xs):d∈ds∨d∈xs:=by
 unfold qC at h;simp only [ji] at h;rcases h with (h | h) | h
 ·exact .inl (JQ h)
 ·exact .inr h
 ·exact .inl (QG h)
theorem qex {i st off b sz:Nat} {ds xs:List D} {vs:List Value} {a:Addr} (hs:Sim X ok w ι H) (hd:qe H i = some ds) (_hst:ds.length = st) (hι:ι i = some (b,sz)) (ha:a = ⟨b,off,none⟩)
  (j7:off+xs.length≤ds.length) (hl:vs.length = xs.length) (hc:∀ d,d∈xs→zn d = true) (hx:∀ (j:Nat) d,xs[j]? = some d→Rep ok w ι H d (vs.getD j undef)) :
  ∃ w' ι',(storeCells a vs).run P w = .ok () w'∧Sim X ok w' ι' (ql H i (qC ds off xs))∧Evol H.length ok w ι H ok w' ι' (ql H i (qC ds off xs)):=by
 obtain ⟨b',arr,e,fr,k1,k2,k3,k4,k5,k6,k7,k8⟩:=hs.blk i ds hd;rw [hι] at k1;injection k1 with k1;injection k1 with k1 k1';subst k1;subst ha
 have Qn:∀ v,v∈vs→v.oneCell' = true:=by
  intro v hv;obtain ⟨j,hj⟩:=List.mem_iff_getElem?.1 hv;have zm:j < vs.length:=(List.getElem?_eq_some_iff.1 hj).1;have Y3:xs[j]? = some (xs[j]'(by omega)):=qU (by omega);have h:=hx j _ Y3;rw [jd,hj] at h;exact h.oneCell (hc _ (mem_of_get? Y3))
 obtain ⟨w',arr',q1,q2,q3,q4,q5,q6,q7⟩:=qe9 (P:=P) b off e fr vs 0 arr w k3 (by omega) Qn (qfB k5)
 have qe:∀ j,j < arr.size→arr'.getD j undef = if off≤j∧j < off+xs.length then vs.getD (j - off) undef else arr.getD j undef:=by
  intro j hj;simp only [zw,q7 j,jd,Nat.add_zero,hl];split <;> rfl
 obtain ⟨ι',r1,r2,r3⟩:=qbD (i:=i) (ds:=ds) (ds':=qC ds off xs) (b:=b) (sz:=sz) (b':=b) (arr':=arr') (e:=e) (fr:=fr) (w':=w') hs hd hι q2 (by omega) (fun c _ hc=>q4 c hc) q5 (.inl ⟨rfl,by omega⟩)
  (by rw [qaO j7];exact qv _) (by rw [qaO j7];omega) (by rw [q6];exact k5)
  (by
   intro j hj;rw [q6] at hj;rw [qe j hj];by_cases hr:off≤j∧j < off+xs.length
   ·rw [if_pos hr];have:j - off < vs.length:=(by omega);rw [jd,qU this];exact Qn _ (vQ this)
   ·rw [if_neg hr];exact k6 j hj)
  (by
   intro d qS;rcases qiy qS with h | h
   ·exact k7 d h
   ·exact hc d h)
  (by
   intro j d hj
   have zm:j < ds.length:=by
    have:=(List.getElem?_eq_some_iff.1 hj).1
    rwa [qaO j7] at this
   rw [qe j (by omega)];rw [qhk j7] at hj;split at hj
   ·rename_i hr;rw [if_pos hr];exact hx _ d hj
   ·rename_i hr;rw [if_neg hr];exact k8 j d hj)
 exact ⟨w',ι',q1,r1,r2⟩
theorem qlV {p x:D} {pv xv:Value} {t:TypeId} (hs:Sim X ok w ι H) (hp:Rep ok w ι H p pv) (hx:Rep ok w ι H x xv) (h:stD P H t p x = some H') :
  ∃ w' ι',(Instr.storeAt t pv xv).run P w = .ok () w'∧Sim X ok w' ι' H'∧Evol H.length ok w ι H ok w' ι' H':=by
 unfold stD at h;split at h
 ·rename_i i st off xs hcs;split at h
  ·rename_i ds hd;split at h
   ·rename_i hcond;obtain ⟨h1,h2,h3,h4,_⟩:=hcond;injection h with h;subst h;cases hp with
    | optr a hi hh =>
     obtain ⟨b,s,hι,rfl⟩:=(hh ds hd).2 h1;obtain ⟨c1,c2,c3⟩:=Xj hx hcs
     obtain ⟨w',ι',q1,q2,q3⟩:=qex (P:=P) (vs:=xv.cells.toList) hs hd h1 hι rfl h4 (by simpa using c1) c2 (fun j d hj=>by
      have:=c3 j d hj;simpa [zw,jd] using this)
     refine ⟨w',ι',?_,q2,q3⟩;simp [Instr.storeAt,Instr.sureAddr,storeVar,ki h3,c1,h2,q1]
   ·cases h
  ·cases h
 ·cases h
end
end Go.Ev
namespace Go.Ev
section
variable {X:Cx} {P:Program} {ok:Nat→Prop} {w w':World} {ι:qz} {H H':qd}
theorem qhK {p p':D} {v:Value} {k:Nat} (hp:Rep ok w ι H p v) (h:qbS k p = some p'):∃ a,v = .pointer (some a)∧Rep ok w ι H p' (.pointer (some (a.add k))):=by
 cases hp <;> simp only [qbS,reduceCtorEq] at h
 ·rename_i ds a f ha hc hr hh;injection h with h;subst h;refine ⟨a,rfl,.vptr (a.add k) (fun j=>f (k+j)) (fun d hd=>by rw [qaF];exact ha d (QG hd)) (fun d hd=>hc d (QG hd)) (fun j d hj=>?_) (fun j d hj=>?_)⟩
  ·rw [qei];exact hr _ d (by simpa [ke] using hj)
  ·exact hh _ d (by simpa [ke] using hj)
 ·rename_i i st off a hi hh;injection h with h;subst h;refine ⟨a,rfl,.optr _ hi fun ds hd=>⟨(hh ds hd).1,fun e=>?_⟩⟩;obtain ⟨b,s,h1,rfl⟩:=(hh ds hd).2 e;exact ⟨b,s,h1,Jv _ _ _⟩
theorem qub {s:TypeId} {p p':D} {v:Value} {f:Nat} (hp:Rep ok w ι H p v) (h:qdJ P s p f = some p') :
  ∃ v',(Instr.fieldAt s v f).run P w = .ok v' w∧Rep ok w ι H p' v':=by
 unfold qdJ qcm at h;cases hu:P.underlying s with
 | none=>simp [hu] at h
 | some d =>
  cases d <;> simp only [hu,reduceCtorEq] at h;rename_i fs;cases hf:fs[f]? with
  | none=>simp [hf] at h
  | some fd =>
   simp only [hf] at h;split at h
   ·cases h
   ·rename_i hz;obtain ⟨a,rfl,hr⟩:=qhK hp h;refine ⟨_,?_,hr⟩;simp [Instr.fieldAt,run_underlying hu,hf,Instr.sureAddr,fieldPlace,ki (Nat.pos_of_ne_zero hz),hz]
theorem qsA {t:TypeId} {x i p':D} {v iv:Value} (hx:Rep ok w ι H x v) (hi:Rep ok w ι H i iv) (h:qd4 P t x i = some p') :
  ∃ v',(Instr.indexAt t v iv).run P w = .ok v' w∧Rep ok w ι H p' v':=by
 unfold qd4 at h;split at h
 ·rename_i n e k i hu;split at h
  ·rename_i hc;obtain ⟨a,rfl,hr⟩:=qhK hx h;cases hi;refine ⟨_,?_,hr⟩;simp [Instr.indexAt,asIntOf,run_underlying hu,Instr.sureAddr,hc.1,hc.2.1,ki hc.2.2]
  ·cases h
 ·rename_i e cs len k i hu;split at h
  ·rename_i hc;injection h with h;subst h;cases hi;cases hx with
   | vsl a f ha Vn hr hh qJ =>
    refine ⟨.pointer (some (a.add (i.toNat * qr P e))),?_,.vptr _ (fun j=>f (i.toNat * qr P e+j)) (fun d hd=>by rw [qaF];exact ha d (QG hd)) (fun d hd=>Vn d (QG hd)) (fun j d hj=>?_) (fun j d hj=>?_)⟩
    ·simp [Instr.indexAt,asIntOf,run_underlying hu,hc.1,hc.2.1,ki hc.2.2]
    ·rw [qei];exact hr _ d (by simpa [ke] using hj)
    ·exact hh _ d (by simpa [ke] using hj)
  ·cases h
 ·rename_i e id st off len k' k i hu;split at h
  ·rename_i hc;injection h with h;subst h;cases hi;cases hx with
   | osl a hi hh qJ =>
    refine ⟨.pointer (some (a.add (i.toNat * qr P e))),?_,.optr _ hi fun ds hd=>⟨(hh ds hd).1,fun e=>?_⟩⟩
    ·simp [Instr.indexAt,asIntOf,run_underlying hu,hc.1,hc.2.1,ki hc.2.2]
    ·obtain ⟨b,s,h1,rfl,_⟩:=(hh ds hd).2 e;exact ⟨b,s,h1,Jv _ _ _⟩
  ·cases h
 ·cases h
theorem qaV {t:TypeId} {cs:List D} {vs:Array Value} {off:Nat} {d:D} (hx:Rep ok w ι H (.agg cs) (.agg vs)) (h:Kw P t cs off = some d) :
  ∃ v,(part t vs off).run P w = .ok v w∧Rep ok w ι H d v:=by
 cases hx with
 | agg hl hc hh =>
  unfold Kw at h;split at h
  ·rename_i hq;split at h
   ·rename_i j7;injection h with h;subst h
    obtain ⟨dsc,hu⟩:∃ dsc,P.underlying t = some dsc:=by
     unfold Ju at hq;cases hu:P.underlying t with
     | none=>simp [hu] at hq
     | some x=>exact ⟨x,rfl⟩
    refine ⟨.agg (vs.extract off (off+qr P t)),by simp [part,qd0 hq,qeF hu],?_⟩;refine .agg (by simp;omega) (fun d hd=>hc d (QG (JQ hd))) fun j d hj=>?_;rw [JR] at hj;split at hj
    ·rename_i zm;rw [ke] at hj;have:=hh _ d hj;rw [zw] at this ⊢;rw [Array.getElem?_extract];rw [if_pos (by omega)];exact this
    ·cases hj
   ·cases h
  ·rename_i hq;have qi:off < vs.size:=(by rw [hl];exact (List.getElem?_eq_some_iff.1 h).1);refine ⟨vs[off],by simp [part,qd0 hq,qi],?_⟩;have:=hh _ d h;rw [zw,Qi qi] at this;exact this
  ·cases h
theorem qua {s:TypeId} {x d:D} {v:Value} {f:Nat} (hx:Rep ok w ι H x v) (h:qdI P s x f = some d) :
  ∃ v',(Instr.field s v f).run P w = .ok v' w∧Rep ok w ι H d v':=by
 unfold qdI qcm at h;cases hu:P.underlying s with
 | none=>simp [hu] at h
 | some dd =>
  cases dd <;> simp only [hu,reduceCtorEq] at h;rename_i fs;cases hf:fs[f]? with
  | none=>simp [hf] at h
  | some fd =>
   simp only [hf] at h;cases hx <;> simp only [reduceCtorEq] at h;rename_i ds vs hl hc hh;obtain ⟨v',h1,h2⟩:=qaV (Rep.agg hl hc hh) h;exact ⟨v',by simp [Instr.field,run_underlying hu,hf,asAgg,h1],h2⟩
theorem qsz {t:TypeId} {x i d:D} {v iv:Value} (hx:Rep ok w ι H x v) (hi:Rep ok w ι H i iv) (h:qd3 P t x i = some d) :
  ∃ v',(Instr.index t v iv).run P w = .ok v' w∧Rep ok w ι H d v':=by
 unfold qd3 at h;split at h
 ·rename_i n e cs k i hu;split at h
  ·rename_i hc;cases hi;cases hx with
   | agg hl Vn hh =>
    obtain ⟨v',h1,h2⟩:=qaV (Rep.agg hl Vn hh) h;refine ⟨v',?_,h2⟩
    have hz:(sizeOf e).run P w = .ok (qr P e) w:=by
     unfold Kw Ju at h;cases hu:P.underlying e with
     | none=>simp [hu] at h
     | some x=>exact qeF hu w
    simp [Instr.index,asIntOf,run_underlying hu,hc.1,hc.2,hz,h1]
  ·cases h
 ·rename_i s k i hu;split at h
  ·rename_i hc;cases hi;cases hx;cases hb:s[i.toNat]? with
   | none=>simp [hb] at h
   | some b =>
    simp only [hb,zT,qs] at h;subst h;have qi:i.toNat < s.length:=(List.getElem?_eq_some_iff.1 hb).1;refine ⟨.int .u8 b.toNat,?_,.int _ _⟩
    have hg:(⟨s.toArray⟩:ByteArray)[i.toNat]? = some b:=by
     have e1:s[i.toNat] = b:=(List.getElem?_eq_some_iff.1 hb).2;rw [getElem?_pos (⟨s.toArray⟩:ByteArray) i.toNat (by simpa [ByteArray.size] using qi)];rw [← e1];rfl
    simp [Instr.index,asIntOf,run_underlying hu,hc,hg]
  ·cases h
 ·cases h
theorem qsu {op:BinOp} {t:TypeId} {k:IntKind} {a b:Int} {d:D} (h1:op≠.shl) (h2:op≠.shr) (h:qd1 op k a b = some d) :
  ∃ v,(binOp op t (.int k a) (.int k b)).run P w = .ok v w∧Rep ok w ι H d v:=by
 cases op <;> simp only [qd1,qb4,Z1,zi,qb3,reduceCtorEq,qs,ne_eq] at h h1 h2
 case quo =>
  split at h
  ·cases h
  ·rename_i hb;injection h with h;subst h;exact ⟨_,by simp [binOp,Op.intDiv,hb],.int _ _⟩
 case rem =>
  split at h
  ·cases h
  ·rename_i hb;injection h with h;subst h;exact ⟨_,by simp [binOp,Op.intDiv,hb],.int _ _⟩
 case add | sub | mul =>
  subst h;exact ⟨_,by simp [binOp,Op.intArith],.int _ _⟩
 case and | or | xor | andNot =>
  subst h;exact ⟨_,by simp only [binOp,ne_eq,not_true_eq_false,if_false];rfl,.int _ _⟩
 all_goals
  subst h;exact ⟨_,by simp [binOp,Op.intCmp],.bool _⟩
theorem qhh {op:BinOp} {t:TypeId} {k k':IntKind} {a b:Int} {d:D} (ho:op = .shl∨op = .shr) (h:qbH op k a b = some d) :
  ∃ v,(binOp op t (.int k a) (.int k' b)).run P w = .ok v w∧Rep ok w ι H d v:=by
 unfold qbH at h;split at h
 ·cases h
 ·rename_i hb;rcases ho with rfl | rfl <;> simp only [qs] at h <;> subst h
  ·exact ⟨_,by simp [binOp,Op.shift,hb],.int _ _⟩
  ·exact ⟨_,by simp [binOp,Op.shift,hb],.int _ _⟩
theorem qlU {op:BinOp} {t:TypeId} {x y:List UInt8} {d:D} (h:QH op x y = some d) :
  ∃ v,(binOp op t (.string ⟨x.toArray⟩) (.string ⟨y.toArray⟩)).run P w = .ok v w∧Rep ok w ι H d v:=by
 cases op <;> simp only [QH,reduceCtorEq] at h
 case add =>
  split at h
  ·rename_i hl;injection h with h;subst h;refine ⟨.string ⟨(x ++ y).toArray⟩,?_,.str _⟩
   have e:(⟨x.toArray⟩:ByteArray) ++ ⟨y.toArray⟩ = ⟨(x ++ y).toArray⟩:=by
    apply ByteArray.ext;simp
   simp only [binOp,Op.stringOp,e];rw [if_neg]
   ·rfl
   ·simp [ByteArray.size,IntKind.max,IntKind.bits,IntKind.signed];omega
  ·cases h
 all_goals
  injection h with h;subst h;exact ⟨_,by simp [binOp,Op.stringOp],.bool _⟩
theorem ql2 {op:UnOp} {x d:D} {v:Value} (hx:Rep ok w ι H x v) (h:unD op x = some d) :
  ∃ v',(Op.unary op v).run P w = .ok v' w∧Rep ok w ι H d v':=by
 unfold unD at h;split at h <;> cases h <;> cases hx
 ·exact ⟨_,by simp [Op.unary,Op.intArith],.int _ _⟩
 ·exact ⟨_,by simp [Op.unary,Op.intBits],.int _ _⟩
 ·exact ⟨_,by simp [Op.unary],.bool _⟩
end
end Go.Ev
namespace Go.Ev
section
variable {X:Cx} {P:Program} {ok:Nat→Prop} {w w':World} {ι:qz} {H H':qd}
theorem qkA {w w1:World} (h:w1.heap = w.heap) (a:Addr):w1.cell? a = w.cell? a:=by simp [World.cell?,h]
theorem qhd {k n:Nat} {x:D} {v:Value} {cs:List D} (hs:Sim X ok w ι H) (hx:Rep ok w ι H x v) (h:VL H k x = some (cs,n)) :
  cs.length = n * k∧(∀ d,d∈cs→zn d = true)∧∃ A c,v = .slice A n c∧n≤c∧(A = none→n = 0) ∧
   ∃ f:Nat→Value,∀ (j:Nat) d,cs[j]? = some d→∃ a,A = some a∧w.cell? (a.add j) = some (f j)∧Rep ok w ι H d (f j):=by
 cases hx with
 | vnil =>
  simp only [VL] at h;split at h
  ·rename_i hl;injection h with h;injection h with h1 h2;subst h1;subst h2;exact ⟨hl,by simp,none,0,rfl,qv _,fun _=>rfl,fun _=>undef,by simp⟩
  ·cases h
 | vsl a f ha hc hr hh qJ =>
  simp only [VL] at h;split at h
  ·rename_i hl;injection h with h;injection h with h1 h2;subst h1;subst h2;exact ⟨hl,hc,some a,_,rfl,qJ,fun h=>by (cases h),f,fun j d hj=>⟨a,rfl,hr j d hj,(hh j d hj).lift⟩⟩
  ·cases h
 | @osl _ _ i st off len k' c a hi hh qJ =>
  simp only [VL] at h;split at h
  ·rename_i ds hd;split at h
   ·rename_i hcond;obtain ⟨h1,h2,h3⟩:=hcond;injection h with h;injection h with h4 h5;subst h4;subst h5;obtain ⟨b,s,q1,rfl,q3⟩:=(hh ds hd).2 h1;obtain ⟨b',arr,e,fr,k1,k2,k3,k4,k5,k6,k7,k8⟩:=hs.blk i ds hd;rw [q1] at k1;injection k1 with k1;injection k1 with k1 _;subst k1;refine ⟨by simp;omega,fun d hd=>k7 d (QG (JQ hd)),some ⟨b,off,none⟩,c,rfl,qJ,(fun h=>by cases h),fun j=>arr.getD (off+j) undef,fun j d hj=>⟨_,rfl,?_⟩⟩;rw [JR] at hj;split at hj
    ·rw [ke] at hj;have qi:off+j < arr.size:=jr (List.getElem?_eq_some_iff.1 hj).1 k4;refine ⟨?_,k8 _ d hj⟩;rw [Jv,Km k3];simp [qi]
    ·cases hj
   ·cases h
  ·cases h
 | _=>simp [VL] at h
def VP (s:List UInt8):List Value:=s.map fun b=>.int .u8 (b.toNat:Int)
theorem qfk (s:List UInt8) (j:Nat) (d:D) (h:(qf s)[j]? = some d):Rep ok w ι H d (((VP s)).getD j undef):=by
 unfold qf at h;rw [Zc] at h;cases hj:s[j]? with
 | none=>simp [hj] at h
 | some b =>
  simp only [hj,zT,qs] at h;subst h
  have:(VP s).getD j undef = .int .u8 (b.toNat:Int):=by
   unfold VP;simp [jd,hj]
  rw [this];exact .int _ _
theorem qgV {k m:Nat} {xt:TypeId} {x:D} {v:Value} {xs:List D} (hs:Sim X ok w ι H) (hx:Rep ok w ι H x v) (h:qbF P H k xt x = some (xs,m)) :
  xs.length = m * k∧(∀ d,d∈xs→zn d = true)∧(∃ dsc,P.underlying xt = some dsc∧∀ q,dsc≠.int q) ∧
  (∀ w1:World,(Builtin.lenOf v).run P w1 = .ok m w1) ∧
  ∀ n,n≤m→∃ vs:List Value,vs.length = n * k∧(∀ w1:World,w1.heap = w.heap→(Builtin.firstCells k n v).run P w1 = .ok vs.toArray w1) ∧
   ∀ (j:Nat) d,j < n * k→xs[j]? = some d→Rep ok w ι H d (vs.getD j undef):=by
 unfold qbF at h;split at h
 ·rename_i b hu;split at h
  ·rename_i hk;subst hk;injection h with h;injection h with h1 h2;subst h1;subst h2;cases hx;refine ⟨by simp [qf],?_,⟨_,hu,fun q=>by simp⟩,fun w1=>by simp [Builtin.lenOf,ByteArray.size],fun n hn=>⟨(VP b).take n,by simp [VP];omega,fun w1 _=>?_,fun j d hj hd=>?_⟩⟩
   ·intro d hd;simp only [qf,kI] at hd;obtain ⟨_,_,rfl⟩:=hd;rfl
   ·have he:(⟨b.toArray⟩:ByteArray).extract 0 n = ⟨(b.take n).toArray⟩:=by
     apply ByteArray.ext;simp
    simp [Builtin.firstCells,he,VP,List.map_take]
   ·have h:=qfk (ok:=ok) (w:=w) (ι:=ι) (H:=H) b j d hd;rw [jd] at h ⊢;rw [JR,if_pos (by omega)];exact h
  ·cases h
 ·rename_i e hu;obtain ⟨h1,h2,A,c,rfl,qJ,hA,f,hf⟩:=qhd hs hx h;refine ⟨h1,h2,⟨_,hu,fun q=>by simp⟩,fun w1=>by simp [Builtin.lenOf],fun n hn=>?_⟩;have qi:∀ j,j < n * k→∃ d,xs[j]? = some d:=fun j hj=>⟨xs[j]'(by have:=qah k hn;omega),qU _⟩;cases A with
  | none =>
   have hm:m = 0:=hA rfl;subst hm;have Qb:n = 0:=(by omega);subst Qb;exact ⟨[],by simp,fun w1 _=>by simp [Builtin.firstCells],fun j d hj _=>by simp at hj⟩
  | some a =>
   refine ⟨(List.range (n * k)).map f,by simp,fun w1 zB=>?_,fun j d hj hd=>?_⟩
   ·have hl:=run_loadCells (P:=P) w1 a (n * k) f (fun j hj=>by
     obtain ⟨d,hd⟩:=qi j hj;obtain ⟨a',ZD,hc,_⟩:=hf j d hd;injection ZD with ZD;subst ZD;rw [qkA zB];exact hc)
    simp [Builtin.firstCells,hl]
   ·obtain ⟨_,_,_,hr⟩:=hf j d hd;rw [jd];simpa [hj] using hr
 ·cases h
theorem qbA {t:TypeId} {z:D} (h:JU P t = some z):∃ v,(∀ w1:World,(zeroValue t).run P w1 = .ok v w1)∧∀ (ok:Nat→Prop) (w:World) (ι:qz) (H:qd),Rep ok w ι H z v:=by
 unfold JU at h;cases hi:P.info? t with
 | none=>simp [hi] at h
 | some i =>
  cases hz:i.zero with
  | none=>simp [hi,hz] at h
  | some v =>
   simp only [hi,hz,VG] at h;exact ⟨v,fun w1=>by simp [zeroValue,typeInfo,hi,hz],fun ok w ι H=>qif h⟩
theorem qtQ {z:List D} {n j:Nat} (h:j < n * z.length):((List.replicate n z).flatten)[j]? = z[j % z.length]?:=by
 induction n generalizing j with
 | zero=>omega
 | succ n ih =>
  rw [qai,qen];by_cases hj:j < z.length
  ·rw [jX hj,qc8 hj]
  ·have hz:z.length≤j:=(by omega);have h':j < n * z.length+z.length:=(by rw [← Nat.succ_mul];exact h);rw [ku hz,ih (by omega)];congr 1;rw [Nat.mod_eq_sub_mod hz]
theorem Yh {t:TypeId} {n:Nat} {zs:List D} (h:Zd P t n = some zs):∃ v,(∀ w1:World,(zeroValue t).run P w1 = .ok v w1)∧v.cells.size = qr P t∧0 < qr P t∧zs.length = n * qr P t ∧
  (∀ d,d∈zs→zn d = true)∧(∀ j,j < qr P t→(v.cells.getD j undef).oneCell' = true) ∧
  ∀ (ok:Nat→Prop) (w:World) (ι:qz) (H:qd) (j:Nat) d,zs[j]? = some d→Rep ok w ι H d (v.cells.getD (j % qr P t) undef):=by
 unfold Zd at h;split at h
 ·rename_i z hz;split at h
  ·rename_i hl;obtain ⟨hl,Z8⟩:=hl;injection h with h;subst h;cases VR:JU P t with
   | none=>simp [VR] at hz
   | some zd =>
    simp only [VR,VG] at hz;obtain ⟨v,hv,hr⟩:=qbA VR;obtain ⟨c1,c2,_⟩:=Xj (hr (fun _=>True) default zo []) hz;refine ⟨v,hv,by omega,Z8,by simp [hl],?_,?_,?_⟩
    ·intro d hd;rw [List.mem_flatten] at hd;obtain ⟨l,h1,h2⟩:=hd;rw [(List.mem_replicate.1 h1).2] at h2;exact c2 d h2
    ·intro j hj;obtain ⟨_,c2,c3⟩:=Xj (hr (fun _=>True) default zo []) hz;have hz':z[j]? = some (z[j]'(by omega)):=qU (by omega);exact (c3 j _ hz').oneCell (c2 _ (mem_of_get? hz'))
    ·intro ok w ι H j d hj
     have zm:j < n * z.length:=by
      have:=(List.getElem?_eq_some_iff.1 hj).1;simpa using this
     rw [qtQ zm,hl] at hj;obtain ⟨_,_,c3⟩:=Xj (hr ok w ι H) hz;exact c3 _ d hj
  ·cases h
 ·cases h
theorem qew {z:Array Value} {n j:Nat} (h:j < n * z.size):(Builtin.zeroCells z n)[j]? = some (z.getD (j % z.size) undef):=by
 unfold Builtin.zeroCells
 have hz:0 < z.size:=by
  rcases Nat.eq_zero_or_pos z.size with h0 | h0
  ·rw [h0] at h;omega
  ·exact h0
 have hm:=Yf j hz;rw [Array.getElem?_map,Array.getElem?_range];simp only [h,if_true,zT,qs];rw [zw,Qi hm];simp [hm]
theorem qaY {ds:List D} {arr:Array Value} {e:TypeId} (hs:Sim X ok w ι H) (w1:World) (zB:Xl w w1) (hh:w1.heap = w.heap) (hl:ds.length≤arr.size)
  (Qn:∀ j,j < arr.size→(arr.getD j undef).oneCell' = true) (hc:∀ d,d∈ds→zn d = true) (hr:∀ (j:Nat) d,ds[j]? = some d→Rep ok w ι H d (arr.getD j undef)) :
  ∃ ι',Sim X ok (w1.alloc (.cells arr e)) ι' (qo H ds)∧Evol H.length ok w ι H ok (w1.alloc (.cells arr e)) ι' (qo H ds)∧ι' H.length = some (w.heap.size,arr.size):=by
 refine qgO (fr:=(0,0)) (e:=e) hs zB (by simp [hh]) (fun c qY=>?_) ?_ (qv _) hl (.inl rfl) Qn hc hr
 ·rw [← hh];exact heap_alloc_old w1 _ (by rw [hh];exact qY)
 ·rw [← hh];exact heap_alloc_new w1 _
theorem qki (w:World):Xl w w.drew:=⟨rfl,rfl,rfl⟩
theorem qm4 {st xt ty e:TypeId} {dsc:TypeDesc} {zv xv:Value} {base:Option Addr} {sLen sCap m:Nat} {olds news:List Value} (hu:P.underlying st = some (.slice e)) (QP:P.underlying xt = some dsc)
  (hni:∀ q,dsc≠.int q) (hz:∀ w1:World,(zeroValue e).run P w1 = .ok zv w1) (zx:0 < qr P e) (hlen:∀ w1:World,(Builtin.lenOf xv).run P w1 = .ok m w1)
  (hold:∀ w1:World,w1.heap = w.heap→(Builtin.firstCells (qr P e) sLen (.slice base sLen sCap)).run P w1 = .ok olds.toArray w1)
  (ka:∀ w1:World,w1.heap = w.heap→(Builtin.firstCells (qr P e) m xv).run P w1 = .ok news.toArray w1)
  (hg:sCap < sLen+m) (h1:sLen+m≤qw) (h2:(sLen+m) * bytesOf P e≤qw) :
  (Builtin.append_ #[st,xt] ty #[.slice base sLen sCap,xv]).run P w =
   .ok (.slice (some ⟨w.heap.size,0,none⟩) (sLen+m) (grownCap w (sLen+m) sCap e))
    (w.drew.alloc (.cells (olds.toArray ++ news.toArray ++ Builtin.zeroCells zv.cells (grownCap w (sLen+m) sCap e - (sLen+m))) e)):=by
 obtain ⟨i,hi,i2,i3⟩:=qcc zx;have hn:¬ (sLen+m≤sCap):=by omega
 simp only [qw] at h1 h2;have h63':¬ (9223372036854775807 < ((sLen:Int)+(m:Int))):=by omega
 have YT:=growslice_fits (need:=sLen+m) (old:=sCap) (by omega) h2;have h48':¬ (281474976710656 < Builtin.nextslicecap (sLen+m) sCap * i.bytes):=by rw [i3];omega
 have hf:=ka w.drew rfl;have hfo:=hold w.drew rfl;simp [Builtin.append_,run_underlying hu,run_underlying QP,ki zx,hlen,typeInfo,hi,hn,h63',h48',Question.forced,hz,hf,hfo,newRow,grownCap];congr 2;apply Array.ext';simp [ZT]
theorem qjw {e:TypeId} {zv:Value} {old news:List Value} {xs:List D} {n:Nat} (hz:zv.cells.size = qr P e) (Z8:0 < qr P e) (z6:∀ j,j < qr P e→(zv.cells.getD j undef).oneCell' = true)
  (c2:∀ d,d∈xs→zn d = true) (hl:(old ++ news).length = xs.length) (hr:∀ (j:Nat) d,xs[j]? = some d→Rep ok w ι H d ((old ++ news).getD j undef)) :
  (∀ j,j < (old.toArray ++ news.toArray ++ Builtin.zeroCells zv.cells n).size→((old.toArray ++ news.toArray ++ Builtin.zeroCells zv.cells n).getD j undef).oneCell' = true) ∧
  ∀ (j:Nat) d,xs[j]? = some d→Rep ok w ι H d ((old.toArray ++ news.toArray ++ Builtin.zeroCells zv.cells n).getD j undef):=by
 have Zn:∀ j,j < xs.length→(old.toArray ++ news.toArray ++ Builtin.zeroCells zv.cells n).getD j undef = (old ++ news).getD j undef:=by
  intro j hj;rw [zw,qcE (by simp at hl ⊢;omega),jd];simp
 constructor
 ·intro j hj;by_cases hjx:j < xs.length
  ·rw [Zn j hjx];have Y3:xs[j]? = some (xs[j]'(by omega)):=qU (by omega);exact (hr j _ Y3).oneCell (c2 _ (mem_of_get? Y3))
  ·have XD:(old ++ news).length = old.length+news.length:=qX;rw [zw,Array.getElem?_append_right (by simp;omega)];simp only [Array.size_append,List.size_toArray,size_zeroCells] at hj ⊢;rw [qew (by omega)];exact z6 _ (by rw [← hz];exact Yf _ (by omega))
 ·intro j d hj;rw [Zn j (List.getElem?_eq_some_iff.1 hj).1];exact hr j d hj
theorem qlt {n:Int} (h0:0≤n) (h1:n < 9223372036854775808):IntKind.i64.wrap n = n:=by
 simp only [IntKind.wrap,IntKind.signed,IntKind.bits];simp;omega
structure AppOk (P:Program) (ok:Nat→Prop) (w:World) (ι:qz) (H:qd) (st xt ty e:TypeId) (xv:Value) (xs:List D) (m:Nat) (vs:List Value):Prop where
 len:xs.length = m * qr P e
 cell:∀ d,d∈xs→zn d = true
 vlen:vs.length = m * qr P e
 rep:∀ (j:Nat) d,xs[j]? = some d→Rep ok w ι H d (vs.getD j undef)
 nil:m = 0→(Builtin.append_ #[st,xt] ty #[.slice none 0 0,xv]).run P w = .ok (.slice none 0 0) w
 inp:∀ (a:Addr) (sLen sCap:Nat) (w':World),sLen+m≤sCap→(storeCells (a.add (sLen * qr P e)) vs).run P w = .ok () w' →
  (Builtin.append_ #[st,xt] ty #[.slice (some a) sLen sCap,xv]).run P w = .ok (.slice (some a) (sLen+m) sCap) w'
 grow:∀ (zv:Value) (base:Option Addr) (sLen sCap:Nat) (olds:List Value),(∀ w1:World,(zeroValue e).run P w1 = .ok zv w1) →
  (∀ w1:World,w1.heap = w.heap→(Builtin.firstCells (qr P e) sLen (.slice base sLen sCap)).run P w1 = .ok olds.toArray w1)→sCap < sLen+m→sLen+m≤qw→(sLen+m) * bytesOf P e≤qw →
  (Builtin.append_ #[st,xt] ty #[.slice base sLen sCap,xv]).run P w =
   .ok (.slice (some ⟨w.heap.size,0,none⟩) (sLen+m) (grownCap w (sLen+m) sCap e))
    (w.drew.alloc (.cells (olds.toArray ++ vs.toArray ++ Builtin.zeroCells zv.cells (grownCap w (sLen+m) sCap e - (sLen+m))) e))
theorem qgW {st xt ty e:TypeId} {x:D} {xv:Value} {xs z0:List D} {m:Nat} (hu:P.underlying st = some (.slice e)) (hz:Zd P e 0 = some z0) (hs:Sim X ok w ι H) (hx:Rep ok w ι H x xv) (h:Ku P H e xt x = some (xs,m)) :
  ∃ vs,AppOk P ok w ι H st xt ty e xv xs m vs:=by
 obtain ⟨_,_,_,z3,_⟩:=Yh hz;obtain ⟨inf,i1,i2,i3⟩:=qcc z3;unfold Ku at h;split at h
 ·rename_i q n QP;split at h
  ·rename_i hc;obtain ⟨n1,n2,n3⟩:=hc;cases VS:Zd P e n.toNat with
   | none=>rw [VS] at h;cases h
   | some z =>
    rw [VS] at h;simp only [zT,qs,qK] at h;obtain ⟨rfl,rfl⟩:=h;obtain ⟨zv,y1,y2,y3,y4,y5,y6,y7⟩:=Yh VS;simp only [qw] at n2 n3;cases hx;have hw:IntKind.i64.wrap n = n:=qlt n1 (by omega);have hneg:¬ n < 0:=by omega
    have hcast:n * (bytesOf P e:Int) = ((n.toNat * bytesOf P e:Nat):Int):=by
     rw [Int.natCast_mul,Int.toNat_of_nonneg n1]
    have YT:¬ (281474976710656 < n * (bytesOf P e:Int)):=(by rw [hcast];omega);have hvs:((Builtin.zeroCells zv.cells n.toNat).toList).length = n.toNat * qr P e:=by rw [Array.length_toList,size_zeroCells,y2]
    have J6:n.toNat * qr P e = 0→(Builtin.zeroCells zv.cells n.toNat) = #[]:=by
     intro h0;apply Array.eq_empty_of_size_eq_zero;rw [size_zeroCells,y2,h0]
    have happ:∀ w1:World,(if n.toNat * qr P e = 0 then (pure #[]:Sem (Array Value)) else do pure (Builtin.zeroCells (← zeroValue e).cells n.toNat)).run P w1 = .ok (Builtin.zeroCells zv.cells n.toNat) w1:=by
     intro w1;by_cases h0:n.toNat * qr P e = 0
     ·rw [if_pos h0,J6 h0];rfl
     ·rw [if_neg h0];simp [y1]
    refine ⟨(Builtin.zeroCells zv.cells n.toNat).toList,y4,y5,hvs,fun j d hj=>?_,fun hm=>?_,fun a sLen sCap w' KJ hst=>?_,fun zv2 base sLen sCap olds QO hold hg b1 b2=>?_⟩
    ·have zm:j < n.toNat * qr P e:=(by rw [← y4];exact (List.getElem?_eq_some_iff.1 hj).1);have:=y7 ok w ι H j d hj;rw [jd,Array.getElem?_toList,qew (by rw [y2];exact zm),y2];exact this
    ·have Qb:n = 0:=(by omega);subst Qb;simp [Builtin.append_,run_underlying hu,run_underlying QP,ki z3,typeInfo,i1,i3,asInt,asIntOf,hw]
    ·by_cases h0:n.toNat * qr P e = 0
     ·rw [J6 h0] at hst;simp [Builtin.append_,run_underlying hu,run_underlying QP,ki z3,typeInfo,i1,i3,asInt,asIntOf,hw,hneg,YT,KJ,h0];rw [show (storeCells (a.add (sLen * qr P e)) []).run P w = .ok () w' from by simpa using hst];rfl
     ·simp [Builtin.append_,run_underlying hu,run_underlying QP,ki z3,typeInfo,i1,i3,asInt,asIntOf,hw,hneg,YT,KJ,h0,y1];rw [hst];rfl
    ·have hzz:zv2 = zv:=by
      have e1:=QO w;rw [y1 w] at e1;injection e1 with e1;exact e1.symm
     subst hzz;have hn:¬ (sLen+n.toNat≤sCap):=(by omega);simp only [qw] at b1 b2;have h63':¬ (9223372036854775807 < ((sLen:Int)+max n 0)):=(by omega);have h48a:¬ (281474976710656 < n * (inf.bytes:Int)):=(by rw [i3];exact YT);have h48b:=growslice_fits (need:=sLen+n.toNat) (old:=sCap) (by omega) b2;have h48':¬ (281474976710656 < Builtin.nextslicecap (sLen+n.toNat) sCap * inf.bytes):=(by rw [i3];omega);have hfo:=hold w.drew rfl;by_cases h0:n.toNat * qr P e = 0
     ·simp [Builtin.append_,run_underlying hu,run_underlying QP,ki z3,typeInfo,i1,asInt,asIntOf,hw,hneg,hn,h48a,h63',h48',Question.forced,QO,hfo,newRow,grownCap,J6 h0]
     ·simp [Builtin.append_,run_underlying hu,run_underlying QP,ki z3,typeInfo,i1,asInt,asIntOf,hw,hneg,h0,hn,h48a,h63',h48',Question.forced,QO,hfo,newRow,grownCap]
  ·cases h
 ·obtain ⟨c1,c2,⟨dsc,QP,hni⟩,c3,c4⟩:=qgV (P:=P) hs hx h;obtain ⟨vs,v1,v2,v3⟩:=c4 m (qv _);refine ⟨vs,c1,c2,v1,fun j d hj=>v3 j d (by have:=(List.getElem?_eq_some_iff.1 hj).1;omega) hj,fun hm=>?_,fun a sLen sCap w' KJ hst=>?_,fun zv base sLen sCap olds QO hold hg b1 b2=>qm4 hu QP hni QO z3 c3 hold v2 hg b1 b2⟩
  ·subst hm;simp [Builtin.append_,run_underlying hu,run_underlying QP,ki z3,c3,v2 w rfl]
  ·simp [Builtin.append_,run_underlying hu,run_underlying QP,ki z3,c3,KJ,v2 w rfl,hst]
theorem qwb {st xt ty:TypeId} {s x d:D} {sv xv:Value} (hs:Sim X ok w ι H) (hsv:Rep ok w ι H s sv) (hx:Rep ok w ι H x xv) (h:qM P H st xt s x = some (d,H')) :
  ∃ v w',(Builtin.append_ #[st,xt] ty #[sv,xv]).run P w = .ok v w'∧Post X H.length ok w ι H d H' v w':=by
 unfold qM at h;split at h
 ·rename_i e hu;split at h
  ·rename_i xs m _ J8 hz;obtain ⟨vs,hA⟩:=qgW (P:=P) (ty:=ty) hu hz hs hx J8;have c1:=hA.len;have c2:=hA.cell;have v1:=hA.vlen;have v3:=hA.rep;obtain ⟨zv,z1,z2,z3,_,_,z6,_⟩:=Yh hz;obtain ⟨inf,i1,i2,i3⟩:=qcc z3;cases hsv;split at h
   ·rename_i hm;injection h with h;injection h with h1 h2;subst h1;subst h2;exact ⟨.slice none 0 0,w,hA.nil hm,Post.same hs .vnil⟩
   ·rename_i hm;split at h
    ·rename_i hcond;obtain ⟨b1,b2⟩:=hcond;injection h with h;injection h with h1 h2;subst h1;subst h2;obtain ⟨g1,g2⟩:=qjw (old:=[]) (news:=vs) (n:=grownCap w (0+m) 0 e - (0+m)) z2 z3 z6 c2 (by simp;omega) (fun j d hj=>v3 j d hj);obtain ⟨ι',n1,n2,n3⟩:=qaY (e:=e) (ds:=xs) hs w.drew (qki w) rfl (by simp;omega) g1 c2 g2;refine ⟨_,_,hA.grow zv none 0 0 [] z1 (fun w1 _=>by simp [Builtin.firstCells]) (by omega) (by omega) (by rw [Zx];exact b1),ι',ok,n1,?_,n2⟩;have vd:=grownCap_ge w (0+m) 0 e;rw [Zx] at vd ⊢;refine .osl _ (by rw [zG];omega) (fun ds hd=>?_) vd;rw [qN] at hd;injection hd with hd;subst hd;refine ⟨qv _,fun _=>⟨_,_,n3,rfl,?_⟩⟩;simp only [Array.size_append,List.size_toArray,size_zeroCells,z2,v1,jR,Zx,← QZ];rw [show m+(grownCap w m 0 e - m) = grownCap w m 0 e by omega];exact qv _
    ·cases h
  ·rename_i xs m _ i sm len k J8 hz;split at h
   ·rename_i ds hd;split at h
    ·rename_i hcond;obtain ⟨b1,b2,b3,b4,b5⟩:=hcond;injection h with h;injection h with h1 h2;subst h1;subst h2;obtain ⟨vs,hA⟩:=qgW (P:=P) (ty:=ty) hu hz hs hx J8;have c1:=hA.len;have c2:=hA.cell;have v1:=hA.vlen;have v3:=hA.rep;obtain ⟨zv,z1,z2,z3,_,_,z6,_⟩:=Yh hz;subst b2;cases hsv with
     | @osl _ _ _ _ _ _ _ c a hi hh qJ =>
      obtain ⟨b,s,q1,rfl,q3⟩:=(hh ds hd).2 b1;obtain ⟨b',arr,e2,fr,k1,k2,k3,k4,k5,k6,k7,k8⟩:=hs.blk i ds hd;rw [q1] at k1;injection k1 with k1;injection k1 with k1 k1';subst k1;have kG:ds.length = len * qr P e:=by omega
      have happ:∀ d,d∈ds ++ xs→zn d = true:=by
       intro d hd;rcases List.mem_append.1 hd with h | h
       ·exact k7 d h
       ·exact c2 d h
      by_cases KJ:len+m≤c
      ·-- in place
       have hmul:(len+m) * qr P e≤c * qr P e:=qah _ KJ;rw [QZ] at hmul
       have Qn:∀ v,v∈vs→v.oneCell' = true:=by
        intro v hv;obtain ⟨j,hj⟩:=List.mem_iff_getElem?.1 hv;have zm:j < vs.length:=(List.getElem?_eq_some_iff.1 hj).1;have Y3:xs[j]? = some (xs[j]'(by omega)):=qU (by omega);have h:=v3 j _ Y3;rw [jd,hj] at h;exact h.oneCell (c2 _ (mem_of_get? Y3))
       obtain ⟨w',arr',r1,r2,r3,r4,r5,r6,r7⟩:=qe9 (P:=P) b (len * qr P e) e2 fr vs 0 arr w k3 (by omega) Qn (qfB k5)
       have qe:∀ j,j < arr.size→arr'.getD j undef = if len * qr P e≤j∧j < len * qr P e+m * qr P e then vs.getD (j - len * qr P e) undef else arr.getD j undef:=by
        intro j hj;simp only [zw,r7 j,jd,Nat.add_zero,v1];split <;> rfl
       obtain ⟨ι',s1,s2,s3⟩:=qbD (i:=i) (ds:=ds) (ds':=ds ++ xs) (b:=b) (sz:=s) (b':=b) (arr':=arr') (e:=e2) (fr:=fr) (w':=w') hs hd q1 r2 (by omega) (fun c _ hc=>r4 c hc) r5 (.inl ⟨rfl,by omega⟩)
        (by simp) (by simp;omega) (by rw [r6];exact k5)
        (by
         intro j hj;rw [r6] at hj;rw [qe j hj];by_cases hr:len * qr P e≤j∧j < len * qr P e+m * qr P e
         ·rw [if_pos hr];have:j - len * qr P e < vs.length:=(by omega);rw [jd,qU this];exact Qn _ (vQ this)
         ·rw [if_neg hr];exact k6 j hj)
        happ
        (by
         intro j d hj
         have zm:j < ds.length+xs.length:=by
          have:=(List.getElem?_eq_some_iff.1 hj).1;simpa using this
         rw [qe j (by omega)];by_cases VA:j < ds.length
         ·rw [if_neg (by omega)];rw [jX VA] at hj;exact k8 j d hj
         ·rw [if_pos (by omega)];rw [ku (by omega)] at hj;rw [← kG];exact v3 _ d hj)
       refine ⟨.slice (some ⟨b,0,none⟩) (len+m) c,w',?_,ι',ok,s1,?_,s2⟩
       ·exact hA.inp _ _ _ _ KJ (by simpa [Jv] using r1)
       ·refine .osl _ (by rw [kN];exact hi) (fun ds' qS=>?_) KJ;rw [qV hi] at qS;injection qS with qS;subst qS;refine ⟨by simp [b1],fun _=>⟨b,arr'.size,s3,rfl,by omega⟩⟩
      ·-- a new block
       have hold:∀ w1:World,w1.heap = w.heap→(Builtin.firstCells (qr P e) len (.slice (some ⟨b,0,none⟩) len c)).run P w1 = .ok ((List.range (len * qr P e)).map fun j=>arr.getD j undef).toArray w1:=by
        intro w1 zB
        have hl:=run_loadCells (P:=P) w1 ⟨b,0,none⟩ (len * qr P e) (fun j=>arr.getD j undef) (fun j hj=>by
         rw [Jv,qkA zB,Km k3];have:j < arr.size:=(by omega);simp [this])
        simp only [Builtin.firstCells];exact hl
       obtain ⟨g1,g2⟩:=qjw (xs:=ds ++ xs) (old:=(List.range (len * qr P e)).map fun j=>arr.getD j undef) (news:=vs) (n:=grownCap w (len+m) c e - (len+m)) z2 z3 z6 happ (by simp;omega)
        (fun j d hj=>by
         have zm:j < ds.length+xs.length:=by
          have:=(List.getElem?_eq_some_iff.1 hj).1;simpa using this
         rw [jd];by_cases VA:j < ds.length
         ·rw [jX VA] at hj;rw [jX (by simp;omega)];have:=k8 j d hj;simpa [show j < len * qr P e by omega] using this
         ·rw [ku (by omega)] at hj;rw [ku (by simp;omega)];have:=v3 _ d hj;rw [jd] at this;simpa [kG] using this)
       have hsize:(((List.range (len * qr P e)).map fun j=>arr.getD j undef).toArray ++ vs.toArray ++ Builtin.zeroCells zv.cells (grownCap w (len+m) c e - (len+m))).size = grownCap w (len+m) c e * qr P e:=by
        have vd:=grownCap_ge w (len+m) c e;simp only [Array.size_append,List.size_toArray,size_zeroCells,z2,v1,List.length_map,List.length_range,← QZ];rw [show len+m+(grownCap w (len+m) c e - (len+m)) = grownCap w (len+m) c e by omega]
       have hm:0 < m:=(by omega);have hmk:0 < m * qr P e:=Nat.mul_pos hm z3
       obtain ⟨ι',s1,s2,s3⟩:=qbD (i:=i) (ds:=ds) (ds':=ds ++ xs) (b:=b) (sz:=s) (b':=w.heap.size) (w':=w.drew.alloc (.cells (((List.range (len * qr P e)).map fun j=>arr.getD j undef).toArray ++ vs.toArray ++ Builtin.zeroCells zv.cells (grownCap w (len+m) c e - (len+m))) e))
        (e:=e) (fr:=(0,0)) hs hd q1 (qki w) (by simp) (fun c hc _=>heap_alloc_old w.drew _ hc) (heap_alloc_new w.drew _) (.inr ⟨qv _,by simp;omega⟩) (by simp)
        (by
         rw [hsize];have vd:=qah (qr P e) (grownCap_ge w (len+m) c e);rw [QZ] at vd;simp;omega) (.inl rfl) g1 happ g2
       refine ⟨_,_,hA.grow zv _ _ _ _ z1 hold (by omega) b5 b4,ι',ok,s1,?_,s2⟩;refine .osl _ (by rw [kN];exact hi) (fun ds' qS=>?_) (grownCap_ge w (len+m) c e);rw [qV hi] at qS;injection qS with qS;subst qS;refine ⟨by simp [b1],fun _=>⟨_,_,s3,rfl,by rw [hsize];omega⟩⟩
    ·cases h
   ·cases h
  ·cases h
 ·cases h
end
end Go.Ev
namespace Go.Ev
section
variable {X:Cx} {P:Program} {ok:Nat→Prop} {w w':World} {ι:qz} {H H':qd}
theorem qcO {n:Nat} {l:Int} {k:IntKind} {c:BoundsCode} (h:0≤l∧l≤n) (w:World):(Instr.sliceBound (.int k l) n c).run P w = .ok l.toNat w:=by
 simp [Instr.sliceBound,asIntOf,h]
theorem qbz {isSlice:Bool} {n c l h:Nat} {lo hi:Option D} {lov hiv:Option Value} (hl:∀ d,lo = some d→∃ v,lov = some v∧Rep ok w ι H d v) (XC:lo = none→lov = none)
  (hh:∀ d,hi = some d→∃ v,hiv = some v∧Rep ok w ι H d v) (XG:hi = none→hiv = none) (hnc:n≤c) (hb:qab n lo hi = some (l,h)) (w:World) :
  l≤h∧h≤n∧(Instr.sliceBounds isSlice n c lov hiv none).run P w = .ok (l,h,c) w:=by
 unfold qab at hb;split at hb
 ·injection hb with hb;injection hb with h1 h2;subst h1;subst h2;rw [XC rfl,XG rfl];exact ⟨vf _,qv _,by simp [Instr.sliceBounds]⟩
 ·rename_i k a;split at hb
  ·rename_i hc;injection hb with hb;injection hb with h1 h2;subst h1;subst h2;obtain ⟨v,rfl,hr⟩:=hl _ rfl;cases hr;rw [XG rfl];exact ⟨by omega,qv _,by simp [Instr.sliceBounds,qcO hc]⟩
  ·cases hb
 ·rename_i k a;split at hb
  ·rename_i hc;injection hb with hb;injection hb with h1 h2;subst h1;subst h2;obtain ⟨v,rfl,hr⟩:=hh _ rfl;cases hr;rw [XC rfl];refine ⟨vf _,by omega,?_⟩;simp [Instr.sliceBounds,qcO (show 0≤a∧a≤(c:Int) from ⟨hc.1,by omega⟩)]
  ·cases hb
 ·rename_i k a k' a';split at hb
  ·rename_i hc;injection hb with hb;injection hb with h1 h2;subst h1;subst h2;obtain ⟨v,rfl,hr⟩:=hl _ rfl;obtain ⟨v',rfl,hr'⟩:=hh _ rfl;cases hr;cases hr';refine ⟨by omega,by omega,?_⟩;simp [Instr.sliceBounds,qcO (show 0≤a'∧a'≤(c:Int) from ⟨hc.1,by omega⟩),qcO (show 0≤a∧a≤(a'.toNat:Int) from ⟨hc.2.2.1,by omega⟩)]
  ·cases hb
 ·cases hb
theorem qcP {t:TypeId} {x d:D} {xv:Value} {lo hi:Option D} {lov hiv:Option Value} (hs:Sim X ok w ι H) (hx:Rep ok w ι H x xv) (hl:∀ d,lo = some d→∃ v,lov = some v∧Rep ok w ι H d v) (XC:lo = none→lov = none)
  (hh:∀ d,hi = some d→∃ v,hiv = some v∧Rep ok w ι H d v) (XG:hi = none→hiv = none) (h:JW P t x lo hi = some d) :
  ∃ v,(Instr.sliceAt t xv lov hiv none).run P w = .ok v w∧Rep ok w ι H d v:=by
 unfold JW at h;split at h
 ·-- a text
  rename_i s hu;split at h
  ·rename_i l hb zY;injection h with h;subst h;cases hx;obtain ⟨b1,b2,b3⟩:=qbz (P:=P) (isSlice:=false) (c:=s.length) hl XC hh XG (qv _) zY w;refine ⟨.string ⟨((s.drop l).take (hb - l)).toArray⟩,?_,.str _⟩;have zx:(⟨s.toArray⟩:ByteArray).size = s.length:=by simp [ByteArray.size]
   have he:(⟨s.toArray⟩:ByteArray).extract l hb = ⟨((s.drop l).take (hb - l)).toArray⟩:=by
    apply ByteArray.ext;simp [List.extract_eq_take_drop]
   simp [Instr.sliceAt,run_underlying hu,Instr.slice,zx,b3,he]
  ·cases h
 ·-- a slice of others
  rename_i e nil cs len hu;split at h
  ·rename_i l hb zY;split at h
   ·rename_i hc;obtain ⟨hlen,Z8⟩:=hc;injection h with h;subst h;cases hx with
    | vnil =>
     obtain ⟨b1,b2,b3⟩:=qbz (P:=P) (isSlice:=true) (c:=0) hl XC hh XG (qv _) zY w;have hb0:hb = 0:=(by omega);have hl0:l = 0:=(by omega);subst hb0;subst hl0;refine ⟨.slice none 0 0,?_,by simpa using Rep.vnil⟩;simp [Instr.sliceAt,run_underlying hu,Instr.slice,b3,ki Z8]
    | @vsl _ _ _ _ c a f ha Vn hr XH qJ =>
     obtain ⟨b1,b2,b3⟩:=qbz (P:=P) (isSlice:=true) (c:=c) hl XC hh XG qJ zY w;refine ⟨.slice (some (if c = l then a else a.add (l * qr P e))) (hb - l) (c - l),?_,?_⟩
     ·simp only [Instr.sliceAt,Sem.run_bind,run_underlying hu,Result.andThen_ok,Instr.slice,b3,ki Z8,Sem.run_pure];split <;> rfl
     ·refine .vsl _ (fun j=>f (l * qr P e+j)) (fun d hd=>by have:=ha d (QG (JQ hd));split <;> simp [qaF,this]) (fun d hd=>Vn d (QG (JQ hd))) (fun j d hj=>?_) (fun j d hj=>?_) (by omega)
      ·rw [JR] at hj;split at hj
       ·rename_i zm;rw [ke] at hj
        have qY:c≠l:=by
         rintro rfl;have:hb - c = 0:=(by omega);rw [this] at zm;omega
        rw [if_neg qY,qei];exact hr _ d hj
       ·cases hj
      ·rw [JR] at hj;split at hj
       ·rw [ke] at hj;exact XH _ d hj
       ·cases hj
   ·cases h
  ·cases h
 ·-- a slice of the run's own
  rename_i e id st off len k hu;split at h
  ·rename_i l hb zY;split at h
   ·rename_i hc;obtain ⟨rfl,Z8,hl0⟩:=hc;injection h with h;subst h;cases hx with
    | @osl _ _ _ _ _ _ _ c a Qe XH qJ =>
     obtain ⟨b1,b2,b3⟩:=qbz (P:=P) (isSlice:=true) (c:=c) hl XC hh XG qJ zY w;refine ⟨.slice (some (if c = l then a else a.add (l * qr P e))) (hb - l) (c - l),?_,?_⟩
     ·simp only [Instr.sliceAt,Sem.run_bind,run_underlying hu,Result.andThen_ok,Instr.slice,b3,ki Z8,Sem.run_pure];split <;> rfl
     ·refine .osl _ Qe (fun ds hd=>⟨(XH ds hd).1,fun he=>?_⟩) (by omega);obtain ⟨b,s,q1,rfl,q3⟩:=(XH ds hd).2 he;have j7:l≤c:=(by omega);have hmul:l * qr P e+(c - l) * qr P e = c * qr P e:=(by rw [← QZ];congr 1;omega);refine ⟨b,s,q1,?_,by omega⟩;split
      ·rename_i qY;rcases hl0 with h0 | h0
       ·subst h0;simp
       ·omega
      ·rw [Jv]
   ·cases h
  ·cases h
 ·-- an array of others
  rename_i n e cs hu;split at h
  ·rename_i l hb zY;split at h
   ·rename_i hc;obtain ⟨XJ,Z8,hl0⟩:=hc;injection h with h;subst h;cases hx with
    | vptr a f ha Vn hr XH =>
     obtain ⟨b1,b2,b3⟩:=qbz (P:=P) (isSlice:=false) (c:=n) hl XC hh XG (qv _) zY w;refine ⟨.slice (some (if n = l then a else a.add (l * qr P e))) (hb - l) (n - l),?_,?_⟩
     ·simp only [Instr.sliceAt,Sem.run_bind,run_underlying hu,Result.andThen_ok,Instr.sureAddr,b3,ki Z8,Sem.run_pure]
     ·refine .vsl _ (fun j=>f (l * qr P e+j)) (fun d hd=>by have:=ha d (QG (JQ hd));split <;> simp [qaF,this]) (fun d hd=>Vn d (QG (JQ hd))) (fun j d hj=>?_) (fun j d hj=>?_) (by omega)
      ·rw [JR] at hj;split at hj
       ·rename_i zm;rw [ke] at hj
        have qY:n≠l:=by
         rintro rfl;have:hb - n = 0:=(by omega);rw [this] at zm;omega
        rw [if_neg qY,qei];exact hr _ d hj
       ·cases hj
      ·rw [JR] at hj;split at hj
       ·rw [ke] at hj;exact XH _ d hj
       ·cases hj
   ·cases h
  ·cases h
 ·-- an array of the run's own
  rename_i n e id st off hu;split at h
  ·rename_i l hb zY;split at h
   ·rename_i hc;obtain ⟨hl0,XJ,Z8⟩:=hc;injection h with h;subst h;cases hx with
    | optr a Qe XH =>
     obtain ⟨b1,b2,b3⟩:=qbz (P:=P) (isSlice:=false) (c:=n) hl XC hh XG (qv _) zY w;refine ⟨.slice (some (if n = l then a else a.add (l * qr P e))) (hb - l) (n - l),?_,?_⟩
     ·simp only [Instr.sliceAt,Sem.run_bind,run_underlying hu,Result.andThen_ok,Instr.sureAddr,b3,ki Z8,Sem.run_pure]
     ·refine .osl _ Qe (fun ds hd=>⟨(XH ds hd).1,fun he=>?_⟩) (by omega);obtain ⟨b,s,q1,rfl⟩:=(XH ds hd).2 he;have j7:l≤n:=(by omega);have hmul:l * qr P e+(n - l) * qr P e = n * qr P e:=(by rw [← QZ];congr 1;omega);obtain ⟨b',arr,e',fr,k1,k2,k3,k4,_⟩:=hs.blk id ds hd;rw [q1] at k1;injection k1 with k1;injection k1 with k1 k1';refine ⟨b,s,q1,?_,by omega⟩;split
      ·rename_i qY;rcases hl0 with h0 | h0
       ·subst h0;simp
       ·omega
      ·rw [Jv]
   ·cases h
  ·cases h
 ·cases h
theorem quI {dt xt ty:TypeId} {x y d:D} {dv xv:Value} (hs:Sim X ok w ι H) (XL:Rep ok w ι H y dv) (hx:Rep ok w ι H x xv) (h:Xg P H dt xt y x = some (d,H')) :
  ∃ v w',(Builtin.copy_ #[dt,xt] ty #[dv,xv]).run P w = .ok v w'∧Post X H.length ok w ι H d H' v w':=by
 unfold Xg at h;split at h
 ·rename_i e hu;split at h
  ·rename_i xs m i sm off len k J8;split at h
   ·rename_i ds hd;split at h
    ·rename_i hcond;obtain ⟨b1,rfl,b3,b4⟩:=hcond;injection h with h;injection h with h1 h2;subst h1;subst h2;obtain ⟨c1,c2,⟨dsc,QP,hni⟩,c3,c4⟩:=qgV (P:=P) hs hx J8;obtain ⟨vs,v1,v2,v3⟩:=c4 (min m len) (Nat.min_le_left _ _);cases XL with
     | osl a hi hh qJ =>
      obtain ⟨b,s,q1,rfl,q3⟩:=(hh ds hd).2 b1;have j7:min m len * qr P e≤len * qr P e:=qah _ (Nat.min_le_right _ _);have hlm:min m len * qr P e≤m * qr P e:=qah _ (Nat.min_le_left _ _);have htl:(xs.take (min m len * qr P e)).length = min m len * qr P e:=by simp;omega
      obtain ⟨w',ι',r1,r2,r3⟩:=qex (P:=P) (vs:=vs) (xs:=xs.take (min m len * qr P e)) hs hd b1 q1 rfl (by rw [htl];exact jA (Nat.add_le_add_left j7 off) (by rw [b1];exact b4)) (by rw [htl,v1]) (fun d hd=>c2 d (JQ hd))
       (fun j d hj=>by
        rw [JR] at hj;split at hj
        ·rename_i zm;exact v3 j d zm hj
        ·cases hj)
      refine ⟨.int .i64 (min m len:Nat),w',?_,ι',ok,r2,.int _ _,r3⟩;have hf:=v2 w rfl;rw [show min m len = Nat.min m len from rfl] at hf;simp [Builtin.copy_,run_underlying hu,c3,ki b3,hf,goInt];rw [r1];rfl
    ·cases h
   ·cases h
  ·cases h
 ·cases h
theorem qvq {t ty:TypeId} {x d:D} {xv:Value} {ts:Array TypeId} {us:Array Value} (ht:ts[0]? = some t) (hu0:us[0]? = some xv) (hs:Sim X ok w ι H) (hx:Rep ok w ι H x xv) (h:qdW P H t x = some (d,H')) :
  ∃ v w',(Builtin.clear_ ts ty us).run P w = .ok v w'∧Post X H.length ok w ι H d H' v w':=by
 unfold qdW at h;split at h
 ·rename_i e i sm off len k hu;split at h
  ·rename_i z ds hz hd;split at h
   ·rename_i hcond;obtain ⟨b1,rfl,b4,b5⟩:=hcond;injection h with h;injection h with h1 h2;subst h1;subst h2;obtain ⟨zv,y1,y2,y3,y4,y5,y6,y7⟩:=Yh hz;cases hx with
    | osl a hi hh qJ =>
     obtain ⟨b,s,q1,rfl,q3⟩:=(hh ds hd).2 b1;have hvs:((Builtin.zeroCells zv.cells len).toList).length = len * qr P e:=by rw [Array.length_toList,size_zeroCells,y2]
     obtain ⟨w',ι',r1,r2,r3⟩:=qex (P:=P) (vs:=(Builtin.zeroCells zv.cells len).toList) (xs:=z) hs hd b1 q1 rfl (by rw [y4,b1];exact b4) (by rw [hvs,y4]) y5 (fun j d hj=>by
      have zm:j < len * qr P e:=(by rw [← y4];exact (List.getElem?_eq_some_iff.1 hj).1);have:=y7 ok w ι H j d hj;rw [jd,Array.getElem?_toList,qew (by rw [y2];exact zm),y2];exact this)
     refine ⟨.tuple #[],w',?_,ι',ok,r2,.tup rfl (by simp),r3⟩;obtain ⟨n,rfl⟩:∃ n,len = n+1:=⟨len - 1,by omega⟩;simp [Builtin.clear_,ht,hu0,run_underlying hu,y1];rw [r1];rfl
   ·cases h
  ·cases h
 ·cases h
theorem qoQ {t ty:TypeId} {x d:D} {v:Value} {ts:Array TypeId} {vs:Array Value} (ht:ts[0]? = some t) (hv:vs[0]? = some v) (hx:Rep ok w ι H x v) (h:zj P t x = some d) :
  ∃ r,(Builtin.len_ ts ty vs).run P w = .ok r w∧Rep ok w ι H d r:=by
 unfold zj at h;split at h <;> first | (cases h;done) | injection h with h
 ·rename_i s hu;subst h;cases hx;have zx:(⟨s.toArray⟩:ByteArray).size = s.length:=by simp [ByteArray.size]
  exact ⟨.int .i64 s.length,by simp [Builtin.len_,ht,hv,run_underlying hu,goInt,zx],.int _ _⟩
 ·rename_i n e hu;subst h;exact ⟨_,by simp [Builtin.len_,ht,hv,run_underlying hu,goInt],.int _ _⟩
 ·rename_i hu;subst h;cases hx <;> exact ⟨_,by simp [Builtin.len_,ht,hv,run_underlying hu,goInt],.int _ _⟩
 ·rename_i hu;subst h;cases hx <;> exact ⟨_,by simp [Builtin.len_,ht,hv,run_underlying hu,goInt],.int _ _⟩
end
end Go.Ev
namespace Go.Ev
section
variable {X:Cx} {P:Program} {ok:Nat→Prop} {w w':World} {ι:qz} {H H':qd}
theorem qkH:∀ {cs:List D} {s:List UInt8},ZQ cs = some s→∃ ns:List Int,cs = ns.map (D.int .u8)∧s = ns.map fun n=>UInt8.ofNat n.toNat
 | [],s,h=>by
  simp only [ZQ,qs] at h;exact ⟨[],rfl,h.symm⟩
 | .int .u8 n :: l,s,h=>by
  simp only [ZQ] at h;cases hb:ZQ l with
  | none=>simp [hb] at h
  | some r =>
   simp only [hb,zT,qs] at h;obtain ⟨ns,h1,h2⟩:=qkH hb;exact ⟨n :: ns,by simp [h1],by simp [← h,h2]⟩
 | .int .i8 _ :: _,_,h | .int .i16 _ :: _,_,h | .int .i32 _ :: _,_,h | .int .i64 _ :: _,_,h | .int .u16 _ :: _,_,h | .int .u32 _ :: _,_,h | .int .u64 _ :: _,_,h
 | .bool _ :: _,_,h | .str _ :: _,_,h | .nilp :: _,_,h | .nilf :: _,_,h | .nili :: _,_,h | .raw _ :: _,_,h | .agg _ :: _,_,h | .tup _ :: _,_,h | .vptr _ :: _,_,h | .optr _ _ _ :: _,_,h | .vsl _ _ _ :: _,_,h
 | .osl _ _ _ _ _ :: _,_,h | .fn _ _ :: _,_,h | .iface _ _ :: _,_,h=>by simp [ZQ] at h
theorem qoE {i:Nat} {ds:List D} {b o:Nat} {arr:Array Value} {e:TypeId} {fr:Nat × Nat} (hs:Sim X ok w ι H) (hd:qe H i = some ds) (hι:ι i = some (b,arr.size)) (hb:w.heap[b]? = some (.cells arr e fr)) :
  ∃ w' ι',(markStringish ⟨b,o,none⟩).run P w = .ok () w'∧Sim X ok w' ι' H∧Evol H.length ok w ι H ok w' ι' H:=by
 obtain ⟨b0,arr0,e0,fr0,q1,q2,q3,q4,q5,q6,q7,q8⟩:=hs.blk i ds hd;rw [hι] at q1;injection q1 with q1;injection q1 with q1 q1';subst q1;rw [hb] at q3;injection q3 with q3;injection q3 with q3a q3b q3c;subst q3a;subst q3b;subst q3c;have qi:b < w.heap.size:=(Array.getElem?_eq_some_iff.1 hb).1
 have ql:ql H i ds = H:=by
  unfold ql;have hi:=qt hd;rw [qe,qU hi,Zw] at hd;rw [← hd,List.set_getElem_self]
 obtain ⟨fr',hfr',hw'⟩:∃ fr':Nat × Nat,(fr'.1 = fr'.2∨arr.size≤fr'.1)∧(w.freeze ⟨b,arr.size,none⟩ 1).heap[b]? = some (.cells arr e fr'):=by
  obtain ⟨lo,hi⟩:=fr;refine ⟨if lo == hi then (arr.size,arr.size+1) else (min lo arr.size,max hi (arr.size+1)),?_,?_⟩
  ·simp only at q5;by_cases h:lo = hi
   ·simp [h]
   ·have:arr.size≤lo:=(by omega);simp [h];omega
  ·unfold World.freeze;simp only [Nat.one_ne_zero,if_false];rw [qgz];simp [hb]
 obtain ⟨ι',r1,r2,r3⟩:=qbD (w':=w.freeze ⟨b,arr.size,none⟩ 1) (ds':=ds) hs hd hι ⟨by unfold World.freeze;split <;> rfl,by unfold World.freeze;split <;> rfl,by unfold World.freeze;split <;> rfl⟩ (by unfold World.freeze;split <;> simp)
  (fun c _ hc=>by
   unfold World.freeze;simp only [Nat.one_ne_zero,if_false];rw [qgz];simp [Ne.symm hc]) hw' (.inl ⟨rfl,rfl⟩) (qv _) q4 hfr' q6 q7 q8
 rw [ql] at r1 r2;refine ⟨_,ι',?_,r1,r2⟩;have e1:(shape b).run P w = .ok (w.shape? b) w:=rfl;have e2:w.shape? b = some (e,arr.size):=by unfold World.shape?;rw [hb]
 have e3:(Go.freeze ⟨b,arr.size,none⟩ 1).run P w = .ok () (w.freeze ⟨b,arr.size,none⟩ 1):=rfl;unfold markStringish;rw [Sem.run_bind,e1,Result.andThen_ok,e2];exact e3
theorem qks {src dst:TypeId} {x d:D} {v:Value} (hs:Sim X ok w ι H) (hx:Rep ok w ι H x v) (h:YY P H src dst x = some (d,H')) :
  ∃ v' w',(convert src dst v).run P w = .ok v' w'∧Post X H.length ok w ι H d H' v' w':=by
 unfold YY at h;split at h
 ·rename_i k k' n h1 h2;injection h with h;injection h with h3 h4;subst h3;subst h4;cases hx;exact ⟨.int k (k.wrap n),w,by simp [convert,run_underlying h1,run_underlying h2,Conv.intToInt],Post.same hs (.int _ _)⟩
 ·rename_i s h1 h2;injection h with h;injection h with h3 h4;subst h3;subst h4;cases hx;exact ⟨.string ⟨s.toArray⟩,w,by simp [convert,run_underlying h1,run_underlying h2],Post.same hs (.str _)⟩
 ·rename_i k k' n h1 h2;injection h with h;injection h with h3 h4;subst h3;subst h4;cases hx;refine ⟨.string (Utf8.encode n),w,by simp [convert,run_underlying h1,run_underlying h2,Conv.intToString],Post.same hs ?_⟩;have:=Rep.str (ok:=ok) (w:=w) (ι:=ι) (H:=H) (Utf8.encode n).data.toList;simpa using this
 ·rename_i e s h1 h2;split at h
  ·rename_i he;injection h with h;injection h with h3 h4;subst h3;subst h4;cases hx;have zx:(⟨s.toArray⟩:ByteArray).size = s.length:=(by simp [ByteArray.size]);have vd:=grownCap_ge w s.length 0 e
   have hbs:(Lib.bytesCells w e ⟨s.toArray⟩).size = grownCap w s.length 0 e:=by
    unfold Lib.bytesCells;simp only [Array.size_append,Array.size_map,Array.size_replicate,zx];simp;omega
   have hbg:∀ j,j < s.length→(Lib.bytesCells w e ⟨s.toArray⟩).getD j undef = (VP s).getD j undef:=by
    intro j hj;unfold Lib.bytesCells VP;rw [zw,qcE (by simpa using hj),jd];simp
   have hbz:∀ j,s.length≤j→j < grownCap w s.length 0 e→(Lib.bytesCells w e ⟨s.toArray⟩).getD j undef = .int .u8 0:=by
    intro j hj zm;unfold Lib.bytesCells;rw [zw,Array.getElem?_append_right (by simpa using hj)];simp only [zx];rw [qeu,if_pos (by simp;omega)];rfl
   obtain ⟨ι',n1,n2,n3⟩:=qgO (w':=Lib.bytesWorld w e ⟨s.toArray⟩) (b':=w.heap.size) (arr:=Lib.bytesCells w e ⟨s.toArray⟩) (ds:=qf s) hs
    (by
     refine ⟨?_,?_,?_⟩ <;> (unfold Lib.bytesWorld World.freeze;split <;> rfl))
    (by rw [Lib.bytesWorld_size];omega) (fun c hc=>Lib.bytesWorld_at_old w e _ c hc) (Lib.bytesWorld_at_new w e _) (qv _) (by rw [hbs];simpa [qf] using vd)
    (.inr (qv _))
    (fun j hj=>by
     rw [hbs] at hj;by_cases JA:j < s.length
     ·rw [hbg j JA];unfold VP;simp [jd,JA,Value.oneCell']
     ·rw [hbz j (by omega) hj];rfl)
    (fun d hd=>by
     simp only [qf,kI] at hd;obtain ⟨_,_,rfl⟩:=hd;rfl)
    (fun j d hj=>by
     have JA:j < s.length:=by
      have:=(List.getElem?_eq_some_iff.1 hj).1;simpa [qf] using this
     rw [hbg j JA];exact qfk s j d hj)
   refine ⟨_,_,Lib.run_convert_string_bytes w src dst e ⟨s.toArray⟩ h1 h2 he,ι',ok,n1,?_,n2⟩;rw [zx];refine .osl _ (by rw [zG];omega) (fun ds hd=>?_) vd;rw [qN] at hd;injection hd with hd;subst hd;refine ⟨by simp [qf],fun _=>⟨_,_,n3,rfl,by rw [hbs];omega⟩⟩
  ·cases h
 ·rename_i _ e h1 h2;split at h
  ·rename_i cs n he ko;cases hb:ZQ cs with
   | none=>simp [hb] at h
   | some s =>
    simp only [hb,zT,qs,qK] at h;obtain ⟨h3,h4⟩:=h;subst h3;subst h4;obtain ⟨ns,rfl,rfl⟩:=qkH hb;obtain ⟨k1,k2,A,c,rfl,qJ,hA,f,hf⟩:=qhd hs hx ko;simp only [List.length_map,Nat.mul_one] at k1;cases A with
    | none =>
     have hn:n = 0:=hA rfl;subst hn;have:ns = []:=qak k1;subst this;refine ⟨.string ByteArray.empty,w,run_convert_bytes_nil w src e h1 he _ _ dst h2,Post.same hs ?_⟩;exact .str []
    | some a =>
     have hl:(loadCells a n).run P w = .ok (ns.map (Value.int .u8)).toArray w:=by
      have:=run_loadCells_list (P:=P) w a (ns.map (Value.int .u8)) (fun j v hj=>by
       rw [Zc] at hj;cases vG:ns[j]? with
       | none=>simp [vG] at hj
       | some m =>
        simp only [vG,zT,qs] at hj;subst hj;obtain ⟨a',ZD,hc,hr⟩:=hf j (.int .u8 m) (by simp [vG]);injection ZD with ZD;subst ZD;rw [hc];generalize f j = fv at hr;cases hr;rfl)
      simpa [k1] using this
     refine ⟨_,w,?_,Post.same hs (.str _)⟩;rw [run_convert_bytes_string w src dst e _ n c h1 he h2,run_bytesToString w _ n c ns hl,foldl_push_bytes];simp [ByteArray.empty,ByteArray.emptyWithCapacity];rfl
  ·cases h
 ·rename_i _ e i st off len k h1 h2;split at h
  ·rename_i ds he hd;split at h
   ·rename_i hc;obtain ⟨rfl,hst⟩:=hc;injection h with h;injection h with h3 h4;subst h3;subst h4;have hrep:=hx;rw [h1] at h2;injection h2 with h2;injection h2 with h2;subst h2;cases hx with
    | osl a hi hh qJ =>
     obtain ⟨b,sz,g1,g2,g3⟩:=(hh ds hd).2 hst;subst g2;obtain ⟨b',arr,e',fr,q1,q2,q3,_⟩:=hs.blk i ds hd;rw [g1] at q1;injection q1 with q1;injection q1 with q1 q1';subst q1;subst q1';obtain ⟨w',ι',m1,m2,m3⟩:=qoE (P:=P) (o:=off) hs hd g1 q3;refine ⟨_,w',?_,ι',ok,m2,hrep.evol hs m3 hrep.closed,m3⟩;simp [convert,run_underlying h1,run_underlying he,m1]
   ·cases h
  ·cases h
 ·cases h
theorem qj9 (off:Nat):∀ (l:List Value) (n:Nat) (cs:Array Value),
  ((l.zipIdx n).foldl (fun cs (c,j)=>cs.setIfInBounds (off+j) c) cs).size = cs.size ∧
  ∀ j,((l.zipIdx n).foldl (fun cs (c,j)=>cs.setIfInBounds (off+j) c) cs)[j]? = if off+n≤j∧j < off+n+l.length∧j < cs.size then l[j - (off+n)]? else cs[j]?
 | [],n,cs=>by
  refine ⟨rfl,fun j=>?_⟩;rw [if_neg (by simp;omega)];rfl
 | v :: l,n,cs=>by
  obtain ⟨h1,h2⟩:=qj9 off l (n+1) (cs.setIfInBounds (off+n) v);simp only [List.zipIdx_cons,List.foldl_cons];refine ⟨by rw [h1];simp,fun j=>?_⟩;rw [h2 j];simp only [Array.size_setIfInBounds,ju];by_cases hj:j = off+n
  ·subst hj;rw [if_neg (by omega)];by_cases qi:off+n < cs.size
   ·rw [if_pos (by omega)];simp [qi]
   ·rw [if_neg (by omega),qcD (by simp;omega),qcD (by omega)]
  ·rw [qb9 (by omega)];by_cases hr:off+(n+1)≤j∧j < off+(n+1)+l.length∧j < cs.size
   ·rw [if_pos hr,if_pos (by omega)];rw [show j - (off+n) = (j - (off+(n+1)))+1 by omega,qb8]
   ·rw [if_neg hr,if_neg (by omega)]
def qag (ok:Nat→Prop) (w:World) (ι:qz) (H:qd):List (Nat × D)→List (Nat × Value)→Prop
 | [],[]=>True
 | (i,d) :: ds,(j,v) :: vs=>i = j∧Rep ok w ι H d v∧qag ok w ι H ds vs
 | _,_=>False
theorem qcl {place:Nat→Option (Nat × Nat)}:∀ {parts:List (Nat × D)} {vps:List (Nat × Value)} {cs cs':List D} {arr:Array Value},qag ok w ι H parts vps→arr.size = cs.length →
  (∀ d,d∈cs→zn d = true)→(∀ (j:Nat) d,cs[j]? = some d→Rep ok w ι H d (arr.getD j undef))→VF place cs parts = some cs' →
  ∃ arr',Instr.fill place arr vps = some arr'∧arr'.size = cs'.length∧(∀ d,d∈cs'→zn d = true)∧(∀ (j:Nat) d,cs'[j]? = some d→Rep ok w ι H d (arr'.getD j undef))∧cs'.length = cs.length
 | [],[],cs,cs',arr,_,hl,hc,hr,h=>by
  simp only [VF,qs] at h;subst h;exact ⟨arr,rfl,hl,hc,hr,rfl⟩
 | (i,d) :: ps,(i',v) :: vps,cs,cs',arr,hp,hl,hc,hr,h=>by
  obtain ⟨rfl,hv,hp⟩:=hp;simp only [VF] at h;split at h
  ·rename_i off size xs vE hcs;split at h
   ·rename_i hcond;obtain ⟨h1,h2⟩:=hcond;obtain ⟨c1,c2,c3⟩:=Xj hv hcs;obtain ⟨f1,f2⟩:=qj9 off v.cells.toList 0 arr
    have hfold:v.cells.zipIdx.foldl (fun cs (c,j)=>cs.setIfInBounds (off+j) c) arr = (v.cells.toList.zipIdx 0).foldl (fun cs (c,j)=>cs.setIfInBounds (off+j) c) arr:=by
     rw [← Array.foldl_toList];simp
    have j7:off+xs.length≤cs.length:=h2
    obtain ⟨arr',q1,q2,q3,q4,q5⟩:=qcl (place:=place) (arr:=v.cells.zipIdx.foldl (fun cs (c,j)=>cs.setIfInBounds (off+j) c) arr) hp (by rw [hfold,f1,qaO j7];exact hl)
     (fun d hd=>by
      rcases qiy hd with h | h
      ·exact hc d h
      ·exact c2 d h)
     (fun j d hj=>by
      have zm:j < cs.length:=by
       have:=(List.getElem?_eq_some_iff.1 hj).1
       rwa [qaO j7] at this
      rw [hfold,zw,f2 j];simp only [Nat.add_zero,Array.length_toList,c1];rw [qhk j7] at hj;by_cases hr':off≤j∧j < off+xs.length
      ·rw [if_pos hr'] at hj;rw [if_pos ⟨hr'.1,hr'.2,by omega⟩];have:=c3 _ d hj;simpa [zw] using this
      ·rw [if_neg hr'] at hj;rw [if_neg (by omega)];have:=hr j d hj
       rwa [zw] at this) h
    refine ⟨arr',?_,q2,q3,q4,by rw [q5,qaO j7]⟩;simp only [Instr.fill,vE];rw [if_neg (by simp;omega)];exact q1
   ·cases h
  ·cases h
 | [],_ :: _,_,_,_,hp,_,_,_,_=>by simp [qag] at hp
 | _ :: _,[],_,_,_,hp,_,_,_,_=>by simp [qag] at hp
theorem qdf (hs:Sim X ok w ι H) {e:qn} {a:Act} (he:EnvRep ok w ι H e a.tmps):∀ {l:List (Nat × Operand)} {ps:List (Nat × D)},VO X e l = some ps→qag ok w ι H ps (l.map fun (i,x)=>(i,a.eval x))
 | [],ps,h=>by
  simp only [VO,qs] at h;subst h;trivial
 | (i,x) :: l,ps,h=>by
  simp only [VO] at h;split at h
  ·rename_i d ds h1 h2;injection h with h;subst h;exact ⟨rfl,jk hs he h1,qdf hs he h2⟩
  ·cases h
theorem qnx {fs:Array Field} (h:fs.all (fun f=>decide (0 < qr P f.type)) = true) (w:World) :
  (fs.mapM fun f=>(do pure (f.offset,← sizeOf f.type):Sem (Nat × Nat))).run P w = .ok (fs.map fun f=>(f.offset,qr P f.type)) w:=by
 have key:∀ l:List Field,(∀ f,f∈l→0 < qr P f.type)→(l.mapM fun f=>(do pure (f.offset,← sizeOf f.type):Sem (Nat × Nat))).run P w = .ok (l.map fun f=>(f.offset,qr P f.type)) w:=by
  intro l
  induction l with
  | nil=>intro _;simp
  | cons f l ih =>
   intro hl;have h1:=hl f (Za ..);have h2:=ih fun g hg=>hl g (kS _ hg);rw [List.mapM_cons];simp only [Sem.run_bind,ki h1,Result.andThen_ok,Sem.run_pure,h2,List.map_cons]
 rw [Array.mapM_eq_mapM_toList]
 rw [Sem.run_map,key fs.toList (fun f hf=>by
  have:=Array.all_eq_true'.1 h f (by simpa using hf);simpa using this)]
 simp;apply Array.ext';simp
theorem qvN {t:TypeId} {parts:List (Nat × D)} {vps:Array (Nat × Value)} {d:D} (hp:qag ok w ι H parts vps.toList) (h:qec P t parts = some d) :
  ∃ v,(Instr.build t vps).run P w = .ok v w∧Rep ok w ι H d v:=by
 unfold qec at h;split at h
 ·rename_i z fs hz hu;split at h
  ·rename_i jH;obtain ⟨zv,z1,z2⟩:=qbA hz;have zr:=z2 ok w ι H;obtain ⟨c1,c2,c3⟩:=Xj zr rfl;cases hf:VF (qaL P fs) z parts with
   | none=>simp [hf] at h
   | some cs =>
    simp only [hf,zT,qs] at h;subst h
    have vE:(fun i=>(fs.map fun f=>(f.offset,qr P f.type))[i]?) = qaL P fs:=by
     funext i;simp [qaL]
    obtain ⟨arr,q1,q2,q3,q4,_⟩:=qcl (place:=qaL P fs) hp c1 c2 c3 hf;refine ⟨.agg arr,?_,.agg q2 q3 q4⟩;simp only [Instr.build,Sem.run_bind,z1,Result.andThen_ok,run_underlying hu,qnx jH,vE,q1,Sem.run_pure]
  ·cases h
 ·rename_i z n e hz hu;split at h
  ·rename_i Z8;obtain ⟨zv,z1,z2⟩:=qbA hz;have zr:=z2 ok w ι H;obtain ⟨c1,c2,c3⟩:=Xj zr rfl;cases hf:VF (fun i=>some (i * qr P e,qr P e)) z parts with
   | none=>simp [hf] at h
   | some cs =>
    simp only [hf,zT,qs] at h;subst h;obtain ⟨arr,q1,q2,q3,q4,_⟩:=qcl (place:=fun i=>some (i * qr P e,qr P e)) hp c1 c2 c3 hf;refine ⟨.agg arr,?_,.agg q2 q3 q4⟩;simp only [Instr.build,Sem.run_bind,z1,Result.andThen_ok,run_underlying hu,ki Z8,q1,Sem.run_pure]
  ·cases h
 ·cases h
theorem qev {z:Array Value} {n j:Nat} (hz:0 < z.size) (h:j < n):((Array.range n).map (z[· % z.size]!)).getD j undef = z.getD (j % z.size) undef:=by
 have hm:=Yf j hz;simp [zw,h,hm]
theorem qvO {t:TypeId} {len:Nat} {parts:List (Nat × D)} {vps:Array (Nat × Value)} {d:D} (hs:Sim X ok w ι H) (hp:qag ok w ι H parts vps.toList) (h:XW P H t len parts = some (d,H')) :
  ∃ v w',(Instr.buildSlice t len vps).run P w = .ok v w'∧Post X H.length ok w ι H d H' v w':=by
 unfold XW at h;split at h
 ·rename_i e hu;split at h
  ·rename_i z hz;split at h
   ·rename_i hsmall;cases hf:VF (fun i=>some (i * qr P e,qr P e)) z parts with
    | none=>simp [hf] at h
    | some cs =>
     simp only [hf,VG] at h;split at h
     ·rename_i hcs0;have hcs:=hcs0.2;clear hcs0;injection h with h;injection h with h1 h2;subst h1;subst h2;obtain ⟨zv,z1,z2,z3,z4,z5,z6,z7⟩:=Yh hz;have qH:len * qr P e = 0→z = []:=fun h0=>qak (by omega)
      obtain ⟨zc,hzc1,hzc2,hzget⟩:∃ zc:Array Value,(len * qr P e = 0→zc = #[])∧(¬ len * qr P e = 0→zc = zv.cells) ∧
        ∀ j,j < len * qr P e→((Array.range (len * qr P e)).map (zc[· % zc.size]!)).getD j undef = zv.cells.getD (j % qr P e) undef:=by
       by_cases h0:len * qr P e = 0
       ·exact ⟨#[],fun _=>rfl,fun h=>absurd h0 h,fun j hj=>by omega⟩
       ·refine ⟨zv.cells,fun h=>absurd h h0,fun _=>rfl,fun j hj=>?_⟩;rw [qev (by omega) hj,z2]
      obtain ⟨arr,q1,q2,q3,q4,q5⟩:=qcl (place:=fun i=>some (i * qr P e,qr P e)) (arr:=(Array.range (len * qr P e)).map (zc[· % zc.size]!)) hp (by simp [z4]) z5
       (fun j d hj=>by
        rw [hzget j (by have:=(List.getElem?_eq_some_iff.1 hj).1;omega)];exact z7 ok w ι H j d hj) hf
      obtain ⟨ι',n1,n2,n3⟩:=qaY (e:=e) (arr:=arr) (ds:=cs) hs w ⟨rfl,rfl,rfl⟩ rfl (by omega)
       (fun j hj=>by
        have vG:cs[j]? = some (cs[j]'(by omega)):=qU (by omega);exact (q4 j _ vG).oneCell (q3 _ (mem_of_get? vG)))
       q3 q4
      refine ⟨.slice (some ⟨w.heap.size,0,none⟩) len len,w.alloc (.cells arr e),?_,ι',ok,n1,?_,n2⟩
      ·have Je:¬ (16777216 < len * qr P e):=(by omega);simp only [Instr.buildSlice,Sem.run_bind,run_underlying hu,Result.andThen_ok,ki z3];rw [if_neg (by simpa using hsmall)];by_cases h0:len * qr P e = 0
       ·rw [hzc1 h0] at q1;rw [if_pos h0];simp only [Sem.run_bind,Sem.run_pure,Result.andThen_ok,q1];simp [newRow]
       ·rw [hzc2 h0] at q1;rw [if_neg h0];simp only [Sem.run_bind,Sem.run_pure,Result.andThen_ok,z1,q1];simp [newRow]
      ·refine .osl _ (by rw [zG];omega) (fun ds hd=>?_) (qv _);rw [qN] at hd;injection hd with hd;subst hd;exact ⟨qv _,fun _=>⟨_,_,n3,rfl,by omega⟩⟩
     ·cases h
   ·cases h
  ·cases h
 ·cases h
theorem qoG {t:TypeId} {l c d:D} {lv cv:Value} (hs:Sim X ok w ι H) (hl:Rep ok w ι H l lv) (hc:Rep ok w ι H c cv) (h:qbZ P H t l c = some (d,H')) :
  ∃ v w',(Instr.makeSlice t lv cv).run P w = .ok v w'∧Post X H.length ok w ι H d H' v w':=by
 unfold qbZ at h;split at h
 ·rename_i e l c hu;split at h
  ·rename_i hcond;obtain ⟨b1,b2,b3,b4⟩:=hcond;cases hz:Zd P e l.toNat with
   | none=>simp [hz] at h
   | some z =>
    simp only [hz,VG] at h;split at h
    ·rename_i Qa;injection h with h;injection h with h1 h2;subst h1;subst h2;cases hl;cases hc;obtain ⟨zv,z1,z2,z3,z4,z5,z6,z7⟩:=Yh hz;obtain ⟨inf,i1,i2,i3⟩:=qcc z3;simp only [qw] at b3 b4;have wl:IntKind.i64.wrap l = l:=(by rw [IntKind.wrap_i64];omega);have wc:IntKind.i64.wrap c = c:=(by rw [IntKind.wrap_i64];omega);have hcs:((Array.range (c.toNat * qr P e)).map (zv.cells[· % zv.cells.size]!)).size = c.toNat * qr P e:=(by simp);have j7:l.toNat * qr P e≤c.toNat * qr P e:=qah _ (by omega);by_cases h0:c.toNat * qr P e = 0
     ·have VD:c.toNat = 0:=by
       rcases Nat.mul_eq_zero.1 h0 with h | h
       ·exact h
       ·omega
      have hl0:l.toNat = 0:=(by omega);have J6:z = []:=qak (by rw [z4,hl0,Nat.zero_mul]);subst J6;obtain ⟨ι',n1,n2,n3⟩:=qaY (e:=e) (arr:= #[]) (ds:=[]) hs w ⟨rfl,rfl,rfl⟩ rfl (by simp) (by simp) (by simp) (by simp);refine ⟨.slice (some ⟨w.heap.size,0,none⟩) l.toNat c.toNat,w.alloc (.cells #[] e),?_,ι',ok,n1,?_,n2⟩
      ·simp only [Instr.makeSlice,Sem.run_bind,run_underlying hu,Result.andThen_ok,asInt,asIntOf,typeInfo,run_program,i1,Sem.run_pure,wl,wc]
       rw [if_neg (by
        simp only [i3,qam,decide_eq_true_eq,not_or];refine ⟨⟨⟨by omega,?_⟩,by omega⟩,by omega⟩;omega)]
       simp [ki z3,h0,newRow,show Array.range 0 = #[] from rfl]
      ·refine .osl _ (by rw [zG];omega) (fun ds hd=>?_) (by omega);rw [qN] at hd;injection hd with hd;subst hd;exact ⟨qv _,fun _=>⟨_,_,n3,rfl,by simp [h0]⟩⟩
     ·have hzget:∀ j,j < c.toNat * qr P e→((Array.range (c.toNat * qr P e)).map (zv.cells[· % zv.cells.size]!)).getD j undef = zv.cells.getD (j % qr P e) undef:=by
       intro j hj;rw [qev (by omega) hj,z2]
      obtain ⟨ι',n1,n2,n3⟩:=qaY (e:=e) (arr:=(Array.range (c.toNat * qr P e)).map (zv.cells[· % zv.cells.size]!)) (ds:=z) hs w ⟨rfl,rfl,rfl⟩ rfl (by rw [hcs];omega)
       (fun j hj=>by
        rw [hcs] at hj;rw [hzget j hj];exact z6 _ (Yf _ z3))
       z5 (fun j d hj=>by
        rw [hzget j (by have:=(List.getElem?_eq_some_iff.1 hj).1;omega)];exact z7 ok w ι H j d hj)
      refine ⟨.slice (some ⟨w.heap.size,0,none⟩) l.toNat c.toNat,w.alloc (.cells ((Array.range (c.toNat * qr P e)).map (zv.cells[· % zv.cells.size]!)) e),?_,ι',ok,n1,?_,n2⟩
      ·simp only [Instr.makeSlice,Sem.run_bind,run_underlying hu,Result.andThen_ok,asInt,asIntOf,typeInfo,run_program,i1,Sem.run_pure,wl,wc]
       rw [if_neg (by
        simp only [i3,qam,decide_eq_true_eq,not_or];refine ⟨⟨⟨by omega,?_⟩,by omega⟩,by omega⟩;omega)]
       simp [ki z3,h0,newRow,z1]
      ·refine .osl _ (by rw [zG];omega) (fun ds hd=>?_) (by omega);rw [qN] at hd;injection hd with hd;subst hd;exact ⟨qv _,fun _=>⟨_,_,n3,rfl,by rw [hcs];omega⟩⟩
    ·cases h
  ·cases h
 ·cases h
end
end Go.Ev
namespace Go.Ev
section
variable {X:Cx} {P:Program} {ok:Nat→Prop} {w w':World} {ι:qz} {H H':qd}
theorem qvu {d:Nat} {t:TypeId} {k:CK} {x y:D} {a b:Value} {r:Bool}
  (hp:P.underlying t = some .bool∧k = .b∨(∃ q,P.underlying t = some (.int q))∧k = .i∨P.underlying t = some .string∧k = .s) (hx:Rep ok w ι H x a) (hy:Rep ok w ι H y b) (h:Ko k x y = some r) :
  (Op.equalIn (d+1) t a b).run P w = .ok r w:=by
 unfold Ko at h;rcases hp with ⟨hp,rfl⟩ | ⟨⟨q,hp⟩,rfl⟩ | ⟨hp,rfl⟩
 ·split at h <;> first | contradiction | skip
  injection h with h;subst h;cases hx;cases hy;exact run_equalIn_bool' w d t _ _ hp
 ·split at h <;> first | contradiction | skip
  split at h
  ·rename_i he;subst he;injection h with h;subst h;cases hx;cases hy;exact run_equalIn_int w d t _ _ _ _ hp
  ·cases h
 ·split at h <;> first | contradiction | skip
  injection h with h;subst h;cases hx;cases hy;rw [run_equalIn_string w d t _ _ hp];simp
theorem qc1:∀ {ks:List CK} {a c:List D} {r:Bool},jt ks a c = some r→a.length = ks.length∧c.length = ks.length
 | [],[],[],_,_=>⟨rfl,rfl⟩
 | k :: ks,x :: a,y :: c,r,h=>by
  simp only [jt] at h;split at h
  ·rename_i h1 h2;obtain ⟨k1,k2⟩:=qc1 h2;simp [k1,k2]
  ·cases h
 | [],_ :: _,_,_,h | [],[],_ :: _,_,h | _ :: _,[],_,_,h | _ :: _,_ :: _,[],_,h=>by simp [jt] at h
theorem qgm:∀ {ks ls:List CK} {a c b d:List D} {r:Bool},a.length = ks.length→c.length = ks.length→jt (ks ++ ls) (a ++ b) (c ++ d) = some r→∃ p q,jt ks a c = some p∧jt ls b d = some q∧r = (p && q)
 | [],ls,[],[],b,d,r,_,_,h=>⟨true,r,rfl,h,by simp⟩
 | k :: ks,ls,x :: a,y :: c,b,d,r,hl,hl',h=>by
  simp only [Jx,jt] at h;split at h
  ·rename_i p q h1 h2;injection h with h;obtain ⟨p',q',k1,k2,k3⟩:=qgm (by simpa using hl) (by simpa using hl') h2;exact ⟨p && p',q',by simp [jt,h1,k1],k2,by rw [← h,k3,Bool.and_assoc]⟩
  ·cases h
 | [],_,_ :: _,_,_,_,_,hl,_,_=>by simp at hl
 | [],_,_,_ :: _,_,_,_,_,hl,_=>by simp at hl
 | _ :: _,_,[],_,_,_,_,hl,_,_=>by simp at hl
 | _ :: _,_,_ :: _,[],_,_,_,_,hl,_=>by simp at hl
def qgw (P:Program) (d:Nat) (t:TypeId) (ks:List CK):Prop :=
 ∀ (ok:Nat→Prop) (w:World) (ι:qz) (H:qd) (xs ys:List D) (vs us:Array Value) (off:Nat) (r:Bool),Rep ok w ι H (.agg xs) (.agg vs)→Rep ok w ι H (.agg ys) (.agg us) →
  off+ks.length≤xs.length→off+ks.length≤ys.length→jt ks ((xs.drop off).take ks.length) ((ys.drop off).take ks.length) = some r →
  ∃ a b,(part t vs off).run P w = .ok a w∧(part t us off).run P w = .ok b w∧(Op.equalIn d t a b).run P w = .ok r w
def qlj (P:Program) (d:Nat) (t:TypeId) (ks:List CK):Prop :=
 ∀ (ok:Nat→Prop) (w:World) (ι:qz) (H:qd) (xs ys:List D) (vs us:Array Value) (r:Bool),Rep ok w ι H (.agg xs) (.agg vs)→Rep ok w ι H (.agg ys) (.agg us) →
  jt ks xs ys = some r→(Op.equalIn d t (.agg vs) (.agg us)).run P w = .ok r w
theorem qdQ (xs:List D) (off k:Nat):xs.drop off = (xs.drop off).take k ++ xs.drop (off+k):=by
 rw [← kA,qem]
theorem qhM (P:Program) (g:TypeId→Option (List CK)):∀ (fs:List Field) (acc ks:List CK),Yq P g fs acc = some ks→∃ ls,ks = acc ++ ls
 | [],acc,ks,h=>⟨[],by simp only [Yq,qs] at h;simp [h]⟩
 | f :: fs,acc,ks,h=>by
  simp only [Yq] at h;split at h
  ·split at h
   ·obtain ⟨ls,e⟩:=qhM P g fs _ _ h;exact ⟨_,by rw [e,ZT]⟩
   ·cases h
  ·cases h
theorem qka {d:Nat} {g:TypeId→Option (List CK)} (hg:∀ t n,g t = some n→qr P t = n.length→qgw P d t n) {xs ys:List D} {vs us:Array Value} (hx:Rep ok w ι H (.agg xs) (.agg vs)) (hy:Rep ok w ι H (.agg ys) (.agg us)) :
  ∀ (fs:List Field) (acc ls:List CK) (r:Bool),Yq P g fs acc = some (acc ++ ls)→jt ls (xs.drop acc.length) (ys.drop acc.length) = some r→acc.length≤xs.length→acc.length≤ys.length→(Op.eqFields d vs us fs).run P w = .ok r w
 | [],acc,ls,r,h,hc,_,_=>by
  simp only [Yq,qs] at h;have:ls = []:=by simpa using h
  subst this;obtain ⟨l1,l2⟩:=qc1 hc;rw [qak l1,qak l2] at hc;simp only [jt,qs] at hc;subst hc;simp [Op.eqFields]
 | f :: fs,acc,ls,r,h,hc,Jh,hly=>by
  simp only [Yq] at h;split at h
  ·rename_i ks hk;split at h
   ·rename_i hcond;obtain ⟨h1,h2,h3,h4⟩:=hcond;obtain ⟨ms,hms⟩:=qhM P g fs _ _ h
    have hls:ls = ks ++ ms:=by
     have:acc ++ ls = acc ++ (ks ++ ms):=(by rw [hms,ZT]);exact List.append_cancel_left this
    subst hls;obtain ⟨l1,l2⟩:=qc1 hc;simp only [Zb,qX] at l1 l2;rw [qdQ xs acc.length ks.length,qdQ ys acc.length ks.length] at hc;obtain ⟨p,q,c1,c2,c3⟩:=qgm (by simp;omega) (by simp;omega) hc;obtain ⟨a,b,p1,p2,p3⟩:=hg f.type ks hk h3 ok w ι H xs ys vs us acc.length p hx hy (by omega) (by omega) c1;have ih:=qka hg hx hy fs (acc ++ ks) ms q (by rw [h,ZT]) (by simpa using c2) (by simp;omega) (by simp;omega);rw [← h1] at p1 p2;simp only [Op.eqFields,h2,ne_eq,not_false_eq_true,if_true,Sem.run_bind,p1,p2,p3,Result.andThen_ok];cases p
    ·simp [c3]
    ·simpa [c3] using ih
   ·cases h
  ·cases h
theorem qtP {α:Type} (n:Nat) (l:List α):(List.replicate (n+1) l).flatten = l ++ (List.replicate n l).flatten:=by
 rw [qai,qen]
theorem qjZ {d:Nat} {ks:List CK} {e:TypeId} (he:qgw P d e ks) {xs ys:List D} {vs us:Array Value} (hx:Rep ok w ι H (.agg xs) (.agg vs)) (hy:Rep ok w ι H (.agg ys) (.agg us)) :
  ∀ (m i:Nat) (r:Bool),jt (List.replicate m ks).flatten (xs.drop (i * ks.length)) (ys.drop (i * ks.length)) = some r→i * ks.length≤xs.length→i * ks.length≤ys.length→(Op.eqItems d e ks.length vs us (List.range' i m)).run P w = .ok r w
 | 0,i,r,hc,_,_=>by
  obtain ⟨l1,l2⟩:=qc1 hc;have e1:xs.drop (i * ks.length) = []:=qak (by rw [l1];rfl);have e2:ys.drop (i * ks.length) = []:=qak (by rw [l2];rfl);rw [e1,e2] at hc;simp only [List.replicate_zero,List.flatten_nil,jt,qs] at hc;subst hc;simp [Op.eqItems]
 | m+1,i,r,hc,Jh,hly=>by
  obtain ⟨l1,l2⟩:=qc1 hc;rw [qtP] at hc l1 l2;simp only [Zb,qX] at l1 l2;have hi1:(i+1) * ks.length = i * ks.length+ks.length:=by rw [QZ,Nat.one_mul]
  rw [qdQ xs (i * ks.length) ks.length,qdQ ys (i * ks.length) ks.length] at hc;obtain ⟨p,q,c1,c2,c3⟩:=qgm (by simp;omega) (by simp;omega) hc;obtain ⟨a,b,p1,p2,p3⟩:=he ok w ι H xs ys vs us (i * ks.length) p hx hy (by omega) (by omega) c1;have ih:=qjZ he hx hy m (i+1) q (by rw [hi1];exact c2) (by omega) (by omega);rw [List.range'_succ];simp only [Op.eqItems,Sem.run_bind,p1,p2,p3,Result.andThen_ok];cases p
  ·simp [c3]
  ·simpa [c3] using ih
theorem qwu {t:TypeId} {m:Nat} {ks:List CK} (h:QJ P m t = some ks) :
  Ju P t = some true∨(Ju P t = some false∧∃ k,ks = [k]∧(P.underlying t = some .bool∧k = .b∨(∃ q,P.underlying t = some (.int q))∧k = .i∨P.underlying t = some .string∧k = .s)):=by
 cases m with
 | zero=>simp [QJ] at h
 | succ m =>
  unfold QJ at h;unfold Ju;split at h
  ·rename_i hu;injection h with h;exact .inr ⟨by simp [hu],_,h.symm,.inl ⟨hu,rfl⟩⟩
  ·rename_i hu;injection h with h;exact .inr ⟨by simp [hu],_,h.symm,.inr (.inl ⟨⟨_,hu⟩,rfl⟩)⟩
  ·rename_i hu;injection h with h;exact .inr ⟨by simp [hu],_,h.symm,.inr (.inr ⟨hu,rfl⟩)⟩
  ·rename_i hu;exact .inl (by simp [hu])
  ·rename_i hu;exact .inl (by simp [hu])
  ·cases h
theorem qeY:∀ (m d:Nat) (t:TypeId) (ks:List CK),QJ P m t = some ks→(qr P t = ks.length→qgw P (d+m) t ks)∧(Ju P t = some true→qlj P (d+m) t ks)
 | 0,_,_,_,h=>by simp [QJ] at h
 | m+1,d,t,ks,h=>by
  have hagg:Ju P t = some true→qlj P (d+(m+1)) t ks:=by
   intro hq ok w ι H xs ys vs us r hx hy hc;unfold QJ at h;unfold Ju at hq;split at h
   ·rename_i hu;simp [hu] at hq
   ·rename_i hu;simp [hu] at hq
   ·rename_i hu;simp [hu] at hq
   ·rename_i n' e hu;split at h
    ·rename_i ks' hk;split at h
     ·rename_i hcond;injection h with h;subst h;obtain ⟨i,hi,_⟩:=qcc (P:=P) (t:=e) (by omega);have ih:=(qeY m d e ks' hk).1 hcond.1;rw [show d+(m+1) = (d+m)+1 from rfl,run_equalIn_array w (d+m) vs us hu hi];have hck:P.cellsOf e = ks'.length:=hcond.1;rw [hck,List.range_eq_range'];exact qjZ ih hx hy n' 0 r (by simpa using hc) (by omega) (by omega)
     ·cases h
    ·cases h
   ·rename_i fs hu;split at h
    ·cases h
    ·rename_i hst;have hfs:P.fieldsOf t = fs:=(by simp [Program.fieldsOf,hu]);rw [show d+(m+1) = (d+m)+1 from rfl,run_equalIn_struct w (d+m) t vs us (by rw [hfs];exact hu) (by simpa using hst),hfs];exact qka (g:=QJ P m) (fun t n ht hz=>(qeY m d t n ht).1 hz) hx hy fs.toList [] ks r (by simpa using h) (by simpa using hc) (vf _) (vf _)
   ·cases h
  refine ⟨?_,hagg⟩;intro zx ok w ι H xs ys vs us off r hx hy Jh hly hc;rcases qwu h with hq | ⟨hq,k,rfl,hkind⟩
  ·obtain ⟨a,a1,a2⟩:=qaV (P:=P) (t:=t) (off:=off) (d:=.agg ((xs.drop off).take ks.length)) hx (by simp [Kw,hq,zx,Jh]);obtain ⟨b,b1,b2⟩:=qaV (P:=P) (t:=t) (off:=off) (d:=.agg ((ys.drop off).take ks.length)) hy (by simp [Kw,hq,zx,hly]);refine ⟨a,b,a1,b1,?_⟩;obtain ⟨va,rfl⟩:∃ va,a = .agg va:=by cases a2;exact ⟨_,rfl⟩
   obtain ⟨vb,rfl⟩:∃ vb,b = .agg vb:=by cases b2;exact ⟨_,rfl⟩
   exact hagg hq ok w ι H _ _ _ _ r a2 b2 hc
  ·simp only [ju,jR,Zx] at Jh hly hc;have hxo:xs[off]? = some (xs[off]'(by omega)):=qU (by omega);have hyo:ys[off]? = some (ys[off]'(by omega)):=qU (by omega);have t1:(xs.drop off).take 1 = [xs[off]'(by omega)]:=(by rw [vR (show off < xs.length by omega)];rfl);have t2:(ys.drop off).take 1 = [ys[off]'(by omega)]:=(by rw [vR (show off < ys.length by omega)];rfl);rw [t1,t2] at hc;simp only [jt] at hc;split at hc
   ·rename_i p q hpq QQ;injection hc with hc;injection QQ with QQ;subst QQ;obtain ⟨a,a1,a2⟩:=qaV (P:=P) (t:=t) (off:=off) hx (by simp only [Kw,hq];exact hxo);obtain ⟨b,b1,b2⟩:=qaV (P:=P) (t:=t) (off:=off) hy (by simp only [Kw,hq];exact hyo);refine ⟨a,b,a1,b1,?_⟩;have:=qvu (P:=P) (d:=d+m) hkind a2 b2 hpq;rw [show d+(m+1) = d+m+1 from rfl,this,← hc];simp
   ·cases hc
theorem quz {op:BinOp} {t:TypeId} {x y:Operand} {a b:Value} (h1:∀ p q,a = .agg p→b = .agg q→P.eqGuardType P.depth t = false) (h2:a = .nilIface→b = .nilIface→(J3 x || J3 y) = true) :
  (eqGuard op t x y a b).run P w = .ok () w:=by
 by_cases ha:a = .nilIface∧b = .nilIface
 ·obtain ⟨rfl,rfl⟩:=ha;have:=h2 rfl rfl;cases x <;> cases y <;> simp [J3] at this <;> cases op <;> simp [eqGuard]
 ·by_cases hg:∃ p q,a = .agg p∧b = .agg q
  ·obtain ⟨p,q,rfl,rfl⟩:=hg;cases op <;> simp [eqGuard,run_program,h1 p q rfl rfl]
  ·cases op <;> simp only [eqGuard] <;> first | rfl | skip
   ·rw [if_neg (by simp)];split
    ·exact absurd ⟨rfl,rfl⟩ ha
    ·exact absurd ⟨_,_,rfl,rfl⟩ hg
    ·rfl
   ·rw [if_neg (by simp)];split
    ·exact absurd ⟨rfl,rfl⟩ ha
    ·exact absurd ⟨_,_,rfl,rfl⟩ hg
    ·rfl
theorem qux (d:Nat) {t e:TypeId} (hu:P.underlying t = some (.slice e)) (q:Option Addr) (n c n' c':Nat):(Op.equalIn (d+1) t (.slice none n' c') (.slice q n c)).run P w = .ok q.isNone w:=by
 simp only [Op.equalIn,Sem.run_bind,run_underlying hu,Result.andThen_ok,Sem.run_pure]
theorem qut (d:Nat) {t e:TypeId} (hu:P.underlying t = some (.slice e)) (q:Option Addr) (n c n' c':Nat):(Op.equalIn (d+1) t (.slice q n c) (.slice none n' c')).run P w = .ok q.isNone w:=by
 cases q <;> simp only [Op.equalIn,Sem.run_bind,run_underlying hu,Result.andThen_ok,Sem.run_pure,Option.isNone]
theorem quw (d:Nat) {t:TypeId} {ms:Array (String × TypeId)} (hu:P.underlying t = some (.interface ms)):(Op.equalIn (d+1) t .nilIface .nilIface).run P w = .ok true w:=by
 simp only [Op.equalIn,Sem.run_bind,run_underlying hu,Result.andThen_ok,Sem.run_pure]
theorem quy (d:Nat) {t u:TypeId} {v:Value} {ms:Array (String × TypeId)} (hu:P.underlying t = some (.interface ms)):(Op.equalIn (d+1) t (.iface u v) .nilIface).run P w = .ok false w:=by
 simp only [Op.equalIn,Sem.run_bind,run_underlying hu,Result.andThen_ok,Sem.run_pure]
theorem quv (d:Nat) {t e:TypeId} (hu:P.underlying t = some (.pointer e)):(Op.equalIn (d+1) t (.pointer none) (.pointer none)).run P w = .ok true w:=by
 simp only [Op.equalIn,Sem.run_bind,run_underlying hu,Result.andThen_ok,Sem.run_pure,Option.isNone]
theorem quu (d:Nat) {t e:TypeId} {a:Addr} (hu:P.underlying t = some (.pointer e)):(Op.equalIn (d+1) t (.pointer (some a)) (.pointer none)).run P w = .ok false w:=by
 simp only [Op.equalIn,Sem.run_bind,run_underlying hu,Result.andThen_ok,Sem.run_pure]
theorem qjY {t e:TypeId} (hu:P.underlying t = some (.slice e)) (q:Option Addr) (n c n' c':Nat):(Op.equal t (.slice none n' c') (.slice q n c)).run P w = .ok q.isNone w:=qux 9999 hu q n c n' c'
theorem qfT {t e:TypeId} (hu:P.underlying t = some (.slice e)) (q:Option Addr) (n c n' c':Nat):(Op.equal t (.slice q n c) (.slice none n' c')).run P w = .ok q.isNone w:=qut 9999 hu q n c n' c'
theorem quq {t:TypeId} {ms:Array (String × TypeId)} (hu:P.underlying t = some (.interface ms)):(Op.equal t .nilIface .nilIface).run P w = .ok true w:=quw 9999 hu
theorem qur {t u:TypeId} {v:Value} {ms:Array (String × TypeId)} (hu:P.underlying t = some (.interface ms)):(Op.equal t (.iface u v) .nilIface).run P w = .ok false w:=quy 9999 hu
theorem qup {t e:TypeId} (hu:P.underlying t = some (.pointer e)):(Op.equal t (.pointer none) (.pointer none)).run P w = .ok true w:=quv 9999 hu
theorem qjX {t e:TypeId} {a:Addr} (hu:P.underlying t = some (.pointer e)):(Op.equal t (.pointer (some a)) (.pointer none)).run P w = .ok false w:=quu 9999 hu
theorem qus (w:World) {t tx:TypeId} {ms:Array (String × TypeId)} {k q:IntKind} (a b:Int)
  (ht:P.underlying t = some (.interface ms)) (hc:(P.info? tx).map (·.comparable) = some true) (hx:P.underlying tx = some (.int q)) :
  (Op.equal t (.iface tx (.int k a)) (.iface tx (.int k b))).run P w = .ok (a == b) w:=by
 cases hi:P.info? tx with
 | none=>simp [hi] at hc
 | some i =>
  have Vn:i.comparable = true:=by simpa [hi] using hc
  have h:∀ d:Nat,(Op.equalIn (d+2) t (.iface tx (.int k a)) (.iface tx (.int k b))).run P w = .ok (a == b) w:=fun d=>by
   simp [Op.equalIn,run_underlying ht,run_underlying hx,typeInfo,hi,Vn]
  simp [Op.equal,Op.maxDepth,h 9998]
theorem Vw {op:BinOp} {t:TypeId} {a b:Value} {r:Bool} (ho:op = .eql∨op = .neq) (he:(Op.equal t a b).run P w = .ok r w)
  (hb:binOp .eql t a b = (do pure (.bool (← Op.equal t a b)))∧binOp .neq t a b = (do pure (.bool (!(← Op.equal t a b))))) :
  (binOp op t a b).run P w = .ok (.bool (if op = .eql then r else !r)) w:=by
 rcases ho with rfl | rfl
 ·rw [hb.1];simp [he]
 ·rw [hb.2];simp [he]
theorem qkb {t:TypeId} {c:Bool} {x y:D} {a b:Value} {r:Bool} (hx:Rep ok w ι H x a) (hy:Rep ok w ι H y b) (h:eqD P t c x y = some r) :
  (∀ p q,a = .agg p→b = .agg q→P.eqGuardType P.depth t = false)∧(a = .nilIface→b = .nilIface→c = true) ∧
  (∀ op,(op = .eql∨op = .neq)→(binOp op t a b).run P w = .ok (.bool (if op = .eql then r else !r)) w):=by
 unfold eqD at h;split at h
 ·cases hx;cases hy;split at h
  ·rename_i hu;injection h with h;subst h;exact ⟨fun _ _ h=>(by cases h),fun h=>(by cases h),fun op ho=>Vw ho (run_equal_bool w t _ _ hu) ⟨rfl,rfl⟩⟩
  ·cases h
 ·split at h
  ·rename_i ks hks;split at h
   ·rename_i hcond;obtain ⟨vs,rfl⟩:∃ va,a = .agg va:=by cases hx;exact ⟨_,rfl⟩
    obtain ⟨us,rfl⟩:∃ vb,b = .agg vb:=by cases hy;exact ⟨_,rfl⟩
    have he:(Op.equal t (.agg vs) (.agg us)).run P w = .ok r w:=(qeY 50 9950 t ks hks).2 hcond.1 ok w ι H _ _ _ _ r hx hy h;exact ⟨fun _ _ _ _=>hcond.2,fun h=>(by cases h),fun op ho=>Vw ho he ⟨rfl,rfl⟩⟩
   ·cases h
  ·cases h
 ·split at h
  ·rename_i e hu;injection h with h;subst h;cases hx;cases hy with
   | vnil=>exact ⟨fun _ _ h=>(by cases h),fun h=>(by cases h),fun op ho=>Vw ho (qjY hu _ _ _ _ _) ⟨rfl,rfl⟩⟩
   | vsl a f ha hc hr hh qJ=>exact ⟨fun _ _ h=>(by cases h),fun h=>(by cases h),fun op ho=>Vw ho (qjY hu _ _ _ _ _) ⟨rfl,rfl⟩⟩
  ·cases h
 ·split at h
  ·rename_i e hu;injection h with h;subst h;cases hy;cases hx with
   | vnil=>exact ⟨fun _ _ h=>(by cases h),fun h=>(by cases h),fun op ho=>Vw ho (qfT hu _ _ _ _ _) ⟨rfl,rfl⟩⟩
   | vsl a f ha hc hr hh qJ=>exact ⟨fun _ _ h=>(by cases h),fun h=>(by cases h),fun op ho=>Vw ho (qfT hu _ _ _ _ _) ⟨rfl,rfl⟩⟩
  ·cases h
 ·split at h
  ·rename_i e hu;injection h with h;subst h;cases hy;cases hx;exact ⟨fun _ _ h=>(by cases h),fun h=>(by cases h),fun op ho=>Vw ho (qfT hu _ _ _ _ _) ⟨rfl,rfl⟩⟩
  ·cases h
 ·cases hx;cases hy;split at h
  ·rename_i e hu;split at h
   ·rename_i hc;injection h with h;subst h;exact ⟨fun _ _ h=>(by cases h),fun _ _=>hc,fun op ho=>Vw ho (quq hu) ⟨rfl,rfl⟩⟩
   ·cases h
  ·cases h
 ·rename_i s k na s' k' nb;cases hx with
  | iface hx =>
  cases hy with
  | iface hy =>
  cases hx;cases hy;split at h
  ·rename_i e q hu hs;split at h
   ·rename_i hc;obtain ⟨rfl,rfl,hc⟩:=hc;injection h with h;subst h
    have Vn:(P.info? s).map (·.comparable) = some true:=by
     unfold Xh at hc;cases hm:(P.info? s).map (·.comparable) with
     | none=>rw [hm] at hc;simp at hc
     | some b=>rw [hm] at hc;simpa using hc
    exact ⟨fun _ _ h=>(by cases h),fun h=>(by cases h),fun op ho=>Vw ho (qus w na nb hu Vn hs) ⟨rfl,rfl⟩⟩
   ·cases h
  ·cases h
 ·cases hx;cases hy;split at h
  ·rename_i e hu;injection h with h;subst h;exact ⟨fun _ _ h=>(by cases h),fun h=>(by cases h),fun op ho=>Vw ho (qur hu) ⟨rfl,rfl⟩⟩
  ·cases h
 ·cases hx;cases hy;split at h
  ·rename_i e hu;injection h with h;subst h;exact ⟨fun _ _ h=>(by cases h),fun h=>(by cases h),fun op ho=>Vw ho (qup hu) ⟨rfl,rfl⟩⟩
  ·cases h
 ·cases hx;cases hy;split at h
  ·rename_i e hu;injection h with h;subst h;exact ⟨fun _ _ h=>(by cases h),fun h=>(by cases h),fun op ho=>Vw ho (qjX hu) ⟨rfl,rfl⟩⟩
  ·cases h
 ·cases hx;cases hy;split at h
  ·rename_i e hu;injection h with h;subst h;exact ⟨fun _ _ h=>(by cases h),fun h=>(by cases h),fun op ho=>Vw ho (qjX hu) ⟨rfl,rfl⟩⟩
  ·cases h
 ·cases h
theorem qvR {op:BinOp} {t:TypeId} {x y:Operand} {p q d:D} {a b:Value} (hx:Rep ok w ι H p a) (hy:Rep ok w ι H q b) (h:qed P op t (J3 x || J3 y) p q = some d) :
  ∃ v,(do eqGuard op t x y a b;binOp op t a b:Sem Value).run P w = .ok v w∧Rep ok w ι H d v:=by
 have fin:(∀ p q,a = .agg p→b = .agg q→P.eqGuardType P.depth t = false)→(a = .nilIface→b = .nilIface→(J3 x || J3 y) = true)→∀ v,(binOp op t a b).run P w = .ok v w →
   (do eqGuard op t x y a b;binOp op t a b:Sem Value).run P w = .ok v w:=by
  intro h1 h2 v hv;rw [Sem.run_bind,quz h1 h2];exact hv
 unfold qed at h;split at h
 ·cases hx;cases hy;rename_i k a k' b;obtain ⟨v,h1,h2⟩:=qhh (P:=P) (ok:=ok) (w:=w) (ι:=ι) (H:=H) (t:=t) (k':=k') (.inl rfl) h;exact ⟨v,fin (fun _ _ h=>by cases h) (fun h=>by cases h) v h1,h2⟩
 ·cases hx;cases hy;rename_i k a k' b;obtain ⟨v,h1,h2⟩:=qhh (P:=P) (ok:=ok) (w:=w) (ι:=ι) (H:=H) (t:=t) (k':=k') (.inr rfl) h;exact ⟨v,fin (fun _ _ h=>by cases h) (fun h=>by cases h) v h1,h2⟩
 ·rename_i op' k a k' b hns1 hns2;split at h
  ·rename_i hk;subst hk;cases hx;cases hy;obtain ⟨v,h1,h2⟩:=qsu (P:=P) (ok:=ok) (w:=w) (ι:=ι) (H:=H) (t:=t) (fun e=>by subst e;simp_all) (fun e=>by subst e;simp_all) h;exact ⟨v,fin (fun _ _ h=>by cases h) (fun h=>by cases h) v h1,h2⟩
  ·cases h
 ·cases hx;cases hy;obtain ⟨v,h1,h2⟩:=qlU (P:=P) (ok:=ok) (w:=w) (ι:=ι) (H:=H) (t:=t) h;exact ⟨v,fin (fun _ _ h=>by cases h) (fun h=>by cases h) v h1,h2⟩
 ·cases he:eqD P t (J3 x || J3 y) p q with
  | none=>simp [he] at h
  | some r =>
   simp only [he,zT,qs] at h;subst h;obtain ⟨e2,e3,e4⟩:=qkb hx hy he;exact ⟨.bool r,fin e2 e3 _ (by rw [e4 .eql (.inl rfl)];simp),.bool _⟩
 ·cases he:eqD P t (J3 x || J3 y) p q with
  | none=>simp [he] at h
  | some r =>
   simp only [he,zT,qs] at h;subst h;obtain ⟨e2,e3,e4⟩:=qkb hx hy he;exact ⟨.bool !r,fin e2 e3 _ (by rw [e4 .neq (.inr rfl)];simp),.bool _⟩
 ·cases h
end
end Go.Ev
namespace Go.Ev
section
variable {X:Cx} {P:Program} {ok ok':Nat→Prop} {w w':World} {ι:qz} {H H':qd}
theorem Rep.okMono {d:D} {v:Value} (h:Rep ok w ι H d v) (hm:∀ b,ok b→ok' b):Rep ok' w ι H d v:=by
 induction h with
 | bool b=>exact .bool b
 | int k n=>exact .int k n
 | str s=>exact .str s
 | nilp=>exact .nilp
 | nilf=>exact .nilf
 | nili=>exact .nili
 | raw v=>exact .raw v
 | agg hl hc h ih=>exact .agg hl hc ih
 | tup hl h ih=>exact .tup hl ih
 | fn hl h ih=>exact .fn hl ih
 | iface h ih=>exact .iface ih
 | optr a hi h=>exact .optr a hi h
 | osl a hi h qJ=>exact .osl a hi h qJ
 | vptr a f ha hc hr h ih=>exact .vptr a f (fun d hd=>hm _ (ha d hd)) hc hr ih
 | vnil=>exact .vnil
 | vsl a f ha hc hr h qJ ih=>exact .vsl a f (fun d hd=>hm _ (ha d hd)) hc hr ih qJ
theorem Rep.vfree {d:D} {v:Value} (h:Rep ok w ι H d v) (hv:vFree d = true) (ok':Nat→Prop):Rep ok' w ι H d v:=by
 induction h with
 | bool b=>exact .bool b
 | int k n=>exact .int k n
 | str s=>exact .str s
 | nilp=>exact .nilp
 | nilf=>exact .nilf
 | nili=>exact .nili
 | raw v=>exact .raw v
 | agg hl hc h ih =>
  simp only [vFree,qcI] at hv;exact .agg hl hc fun j d hj=>ih j d hj (hv d (mem_of_get? hj))
 | tup hl h ih =>
  simp only [vFree,qcI] at hv;exact .tup hl fun j d hj=>ih j d hj (hv d (mem_of_get? hj))
 | fn hl h ih =>
  simp only [vFree,qcI] at hv;exact .fn hl fun j d hj=>ih j d hj (hv d (mem_of_get? hj))
 | iface h ih=>exact .iface (ih hv)
 | optr a hi h=>exact .optr a hi h
 | osl a hi h qJ=>exact .osl a hi h qJ
 | vptr a f ha hc hr h ih=>simp [vFree] at hv
 | vnil=>exact .vnil
 | vsl a f ha hc hr h qJ ih=>simp [vFree] at hv
def qdk (ok:Nat→Prop) (ι:qz) (H:qd) (b:Nat):Prop:=ok b∨∃ i ds s,qe H i = some ds∧ι i = some (b,s)
theorem JO {ds:List D} (h:ds.all idFree = true):∀ d,d∈ds→idFree d = true:=by
 intro d hd;exact List.all_eq_true.1 h d hd
theorem freeze_rep (hs:Sim X ok w ι H):∀ (d:D) {d':D} {v:Value},Rep ok w ι H d v→freeze H d = some d'→Rep (qdk ok ι H) w zo [] d' v
 | .osl i st off len k,d',v,h,hf=>by
  simp only [freeze] at hf;split at hf
  ·rename_i ds hd;split at hf
   ·rename_i hcond;injection hf with hf;subst hf;cases h with
    | @osl _ _ _ _ _ _ _ c a hi hh qJ =>
     obtain ⟨b,s,q1,rfl,q3⟩:=(hh ds hd).2 hcond.1;obtain ⟨b',arr,e,fr,k1,k2,k3,k4,k5,k6,k7,k8⟩:=hs.blk i ds hd;have k1':=k1;rw [q1] at k1;injection k1 with k1;injection k1 with k1 _;subst k1;refine .vsl _ (fun j=>arr.getD (off+j) undef) (fun _ _=>.inr ⟨i,ds,_,hd,q1⟩) (fun d hd=>k7 d (QG (JQ hd))) (fun j d hj=>?_) (fun j d hj=>?_) qJ
     ·rw [JR] at hj;split at hj
      ·rw [ke] at hj;have qi:off+j < arr.size:=jr (List.getElem?_eq_some_iff.1 hj).1 k4;rw [Jv,Km k3];simp [qi]
      ·cases hj
     ·rw [JR] at hj;split at hj
      ·rw [ke] at hj;exact ((k8 _ d hj).free (JO hcond.2.2 d (mem_of_get? hj)) _ _).okMono fun b hb=>.inl hb
      ·cases hj
   ·cases hf
  ·cases hf
 | .optr i st off,d',v,h,hf=>by
  simp only [freeze] at hf;split at hf
  ·rename_i ds hd;split at hf
   ·rename_i hcond;injection hf with hf;subst hf;cases h with
    | optr a hi hh =>
     obtain ⟨b,s,q1,rfl⟩:=(hh ds hd).2 hcond.1;obtain ⟨b',arr,e,fr,k1,k2,k3,k4,k5,k6,k7,k8⟩:=hs.blk i ds hd;rw [q1] at k1;injection k1 with k1;injection k1 with k1 _;subst k1;refine .vptr _ (fun j=>arr.getD (off+j) undef) (fun _ _=>.inr ⟨i,ds,_,hd,q1⟩) (fun d hd=>k7 d (QG hd)) (fun j d hj=>?_) (fun j d hj=>?_)
     ·rw [ke] at hj;have qi:off+j < arr.size:=jr (List.getElem?_eq_some_iff.1 hj).1 k4;rw [Jv,Km k3];simp [qi]
     ·rw [ke] at hj;exact ((k8 _ d hj).free (JO hcond.2 d (mem_of_get? hj)) _ _).okMono fun b hb=>.inl hb
   ·cases hf
  ·cases hf
 | .fn f caps,d',v,h,hf=>by
  simp only [freeze] at hf;cases hc:freeze.freezeL H caps with
  | none=>simp [hc] at hf
  | some cs =>
   simp only [hc,zT,qs] at hf;subst hf;cases h with
   | fn hl hh =>
    obtain ⟨l1,l2⟩:=freezeL_rep hs caps (vs:=fun j=>(_:Array Value).getD j undef) hh hc;exact .fn (by rw [hl,l1]) l2
 | .agg cs,d',v,h,hf=>by
  simp only [freeze] at hf;cases hc:freeze.freezeL H cs with
  | none=>simp [hc] at hf
  | some cs' =>
   simp only [hc,zT,qs] at hf;subst hf;cases h with
   | agg hl Vn hh =>
    obtain ⟨l1,l2⟩:=freezeL_rep hs cs (vs:=fun j=>(_:Array Value).getD j undef) hh hc;refine .agg (by rw [hl,l1]) ?_ l2;intro d hd;obtain ⟨j,hj⟩:=List.mem_iff_getElem?.1 hd;have hr:=l2 j d hj;have zm:j < cs.length:=(by rw [l1];exact (List.getElem?_eq_some_iff.1 hj).1);have h0:cs[j]? = some cs[j]:=qU zm;have Qn:=(hh j _ h0).oneCell (Vn _ (mem_of_get? h0));generalize Array.getD _ j undef = x at hr Qn;cases hr <;> first | rfl | exact Qn | simp [Value.oneCell'] at Qn
 | .tup cs,d',v,h,hf=>by
  simp only [freeze] at hf;split at hf
  ·rename_i hfree;injection hf with hf;subst hf;exact (h.free hfree _ _).okMono fun b hb=>.inl hb
  ·cases hf
 | .iface t d,d',v,h,hf=>by
  simp only [freeze] at hf;split at hf
  ·rename_i hfree;injection hf with hf;subst hf;exact (h.free hfree _ _).okMono fun b hb=>.inl hb
  ·cases hf
 | .bool _,d',v,h,hf | .int _ _,d',v,h,hf | .str _,d',v,h,hf | .nilp,d',v,h,hf | .nilf,d',v,h,hf | .nili,d',v,h,hf | .raw _,d',v,h,hf | .vptr _,d',v,h,hf | .vsl _ _ _,d',v,h,hf=>by
  simp only [freeze,idFree,if_true,qs] at hf;subst hf;exact (h.free rfl _ _).okMono fun b hb=>.inl hb
where freezeL_rep (hs:Sim X ok w ι H):∀ (l:List D) {l':List D} {vs:Nat→Value},(∀ (j:Nat) d,l[j]? = some d→Rep ok w ι H d (vs j))→freeze.freezeL H l = some l' →
      l.length = l'.length∧∀ (j:Nat) d,l'[j]? = some d→Rep (qdk ok ι H) w zo [] d (vs j)
 | [],l',vs,_,hf=>by
  simp only [freeze.freezeL,qs] at hf;subst hf;simp
 | d :: l,l',vs,h,hf=>by
  simp only [freeze.freezeL] at hf;split at hf
  ·rename_i d1 l1 h1 h2;injection hf with hf;subst hf;obtain ⟨k1,k2⟩:=freezeL_rep hs l (vs:=fun j=>vs (j+1)) (fun j x hx=>h (j+1) x (by simpa using hx)) h2;refine ⟨by simp [k1],fun j x hx=>?_⟩;cases j with
   | zero =>
    simp only [Qh,qs] at hx;subst hx;exact freeze_rep hs d (h 0 d rfl) h1
   | succ j=>exact k2 j x (by simpa using hx)
  ·cases hf
theorem qbG (n:Nat):∀ (l:List D) (j:Nat),(shift.shiftL n l)[j]? = (l[j]?).map (shift n)
 | [],j=>by simp [shift.shiftL]
 | d :: l,0=>by simp [shift.shiftL]
 | d :: l,j+1=>by simp [shift.shiftL,qbG n l j]
theorem qcS (n:Nat):∀ (l:List D),(shift.shiftL n l).length = l.length
 | []=>rfl
 | d :: l=>by simp [shift.shiftL,qcS n l]
def KD (n:Nat) (ι ι1:qz):qz:=fun i=>if i < n then ι i else ι1 (i - n)
theorem KV {L:qd} {i:Nat} (h:i < H.length):qe (H ++ L) i = qe H i:=by simp [qe,jX h]
theorem YH {L:qd} {i:Nat}:qe (H ++ L) (H.length+i) = qe L i:=by
 unfold qe;rw [ku (by omega)];congr 2;omega
theorem qf0 {n i:Nat} {ι ι1:qz}:KD n ι ι1 (n+i) = ι1 i:=by
 unfold KD;rw [if_neg (by omega)];congr 1;omega
theorem qms {n:Nat} {d:D} (h:zn d = true):zn (shift n d) = true:=by cases d <;> first | rfl | exact h | simp [zn] at h
theorem Rep.shift {L:qd} {ι1:qz} {d:D} {v:Value} (h:Rep ok w ι1 L d v) (ι:qz) (H:qd):Rep ok w (KD H.length ι ι1) (H ++ L) (Ev.shift H.length d) v:=by
 induction h with
 | bool b=>exact .bool b
 | int k n=>exact .int k n
 | str s=>exact .str s
 | nilp=>exact .nilp
 | nilf=>exact .nilf
 | nili=>exact .nili
 | raw v=>exact .raw v
 | agg hl hc h ih =>
  refine .agg (by rw [qcS];exact hl) ?_ fun j d hj=>?_
  ·intro d hd;obtain ⟨j,hj⟩:=List.mem_iff_getElem?.1 hd;rw [qbG] at hj;simp only [QF] at hj;obtain ⟨x,hx,rfl⟩:=hj;exact qms (hc x (mem_of_get? hx))
  ·rw [qbG] at hj;simp only [QF] at hj;obtain ⟨x,hx,rfl⟩:=hj;exact ih j x hx
 | tup hl h ih =>
  refine .tup (by rw [qcS];exact hl) fun j d hj=>?_;rw [qbG] at hj;simp only [QF] at hj;obtain ⟨x,hx,rfl⟩:=hj;exact ih j x hx
 | fn hl h ih =>
  refine .fn (by rw [qcS];exact hl) fun j d hj=>?_;rw [qbG] at hj;simp only [QF] at hj;obtain ⟨x,hx,rfl⟩:=hj;exact ih j x hx
 | iface h ih=>exact .iface ih
 | optr a hi h =>
  refine .optr a (by simp;omega) fun ds hd=>?_;rw [YH] at hd;obtain ⟨h1,h2⟩:=h ds hd;refine ⟨h1,fun e=>?_⟩;obtain ⟨b,s,q1,q2⟩:=h2 e;exact ⟨b,s,by rw [qf0];exact q1,q2⟩
 | osl a hi h qJ =>
  refine .osl a (by simp;omega) (fun ds hd=>?_) qJ;rw [YH] at hd;obtain ⟨h1,h2⟩:=h ds hd;refine ⟨h1,fun e=>?_⟩;obtain ⟨b,s,q1,q2⟩:=h2 e;exact ⟨b,s,by rw [qf0];exact q1,q2⟩
 | vptr a f ha hc hr h ih=>exact .vptr a f ha hc hr h
 | vnil=>exact .vnil
 | vsl a f ha hc hr h qJ ih=>exact .vsl a f ha hc hr h qJ
theorem qkD {L:qd} {ι1:qz} {ok2:Nat→Prop} (hs:Sim X ok w ι H) (hw:Xl w w') (zx:w.heap.size≤w'.heap.size) (hfr:∀ b,b < w.heap.size→w'.heap[b]? = w.heap[b]?)
  (h1:∀ b,ok b→ok2 b) (h2:∀ b,ok2 b→b < w.heap.size→ok b) (h3:∀ b,ok2 b→b < w'.heap.size)
  (hi:∀ i j ds es b s s',qe L i = some ds→qe L j = some es→ι1 i = some (b,s)→ι1 j = some (b,s')→i = j)
  (hL:∀ i ds,qe L i = some ds→∃ b arr e fr,ι1 i = some (b,arr.size)∧w.heap.size≤b∧¬ ok2 b∧w'.heap[b]? = some (.cells arr e fr)∧ds.length≤arr.size ∧
   (fr.1 = fr.2∨arr.size≤fr.1)∧(∀ j,j < arr.size→(arr.getD j undef).oneCell' = true)∧(∀ d,d∈ds→zn d = true) ∧
   (∀ (j:Nat) d,ds[j]? = some d→Rep ok2 w' zo [] d (arr.getD j undef))) :
  Sim X ok2 w' (KD H.length ι ι1) (H ++ L)∧Evol H.length ok w ι H ok2 w' (KD H.length ι ι1) (H ++ L):=by
 have Z5:∀ i ds,qe (H ++ L) i = some ds→(i < H.length∧qe H i = some ds∧KD H.length ι ι1 i = ι i)∨(H.length≤i∧qe L (i - H.length) = some ds∧KD H.length ι ι1 i = ι1 (i - H.length)):=by
  intro i ds hd;by_cases qi:i < H.length
  ·rw [KV qi] at hd;exact .inl ⟨qi,hd,by simp [KD,qi]⟩
  ·obtain ⟨k,rfl⟩:∃ k,i = H.length+k:=⟨i - H.length,by omega⟩;rw [YH] at hd;exact .inr ⟨by omega,by simpa using hd,by rw [qf0];congr 1;omega⟩
 have hev:Evol H.length ok w ι H ok2 w' (KD H.length ι ι1) (H ++ L):=by
  refine ⟨hw.1,hw.2.1,hw.2.2,zx,fun b hb _=>hfr b hb,h1,fun b hb qi=>.inl (h2 b hb qi),⟨qv _,by simp⟩,?_,?_⟩
  ·intro i qi ds hd;rw [KV qi] at hd;exact ⟨ds,hd,qv _,fun _=>by simp [KD,qi]⟩
  ·intro i ds b s hd hb qi;rcases Z5 i ds hd with ⟨k1,k2,k3⟩ | ⟨k1,k2,k3⟩
   ·exact ⟨i,ds,s,k2,by rw [← k3];exact hb⟩
   ·obtain ⟨b',arr,e,fr,q1,q2,_⟩:=hL _ ds k2;rw [k3,q1] at hb;injection hb with hb;injection hb with hb _;omega
 refine ⟨⟨h3,?_,?_,?_⟩,hev⟩
 ·intro g cs hg;exact (((hs.glob g cs hg).lift (ι:=ι) (H:=H)).evol hs hev rfl).free rfl _ _
 ·intro i j ds es b s s' hd he hb qI;rcases Z5 i ds hd with ⟨k1,k2,k3⟩ | ⟨k1,k2,k3⟩ <;> rcases Z5 j es he with ⟨l1,l2,l3⟩ | ⟨l1,l2,l3⟩
  ·exact hs.inj i j ds es b s s' k2 l2 (by rw [← k3];exact hb) (by rw [← l3];exact qI)
  ·have qi:=hs.lt k2 (by rw [← k3];exact hb);obtain ⟨b',arr,e,fr,q1,q2,_⟩:=hL _ es l2;rw [l3,q1] at qI;injection qI with qI;injection qI with qI _;omega
  ·have qi:=hs.lt l2 (by rw [← l3];exact qI);obtain ⟨b',arr,e,fr,q1,q2,_⟩:=hL _ ds k2;rw [k3,q1] at hb;injection hb with hb;injection hb with hb _;omega
  ·have:=hi _ _ ds es b s s' k2 l2 (by rw [← k3];exact hb) (by rw [← l3];exact qI);omega
 ·intro i ds hd;rcases Z5 i ds hd with ⟨k1,k2,k3⟩ | ⟨k1,k2,k3⟩
  ·obtain ⟨b,arr,e,fr,q1,q2,q3,q4,q5,q6,q7,q8⟩:=hs.blk i ds k2;have qi:=hs.lt k2 q1;exact ⟨b,arr,e,fr,by rw [k3];exact q1,fun h=>q2 (h2 b h qi),by rw [hfr b qi];exact q3,q4,q5,q6,q7,fun j d hj=>(q8 j d hj).evol hs hev (q8 j d hj).closed⟩
  ·obtain ⟨b,arr,e,fr,q1,q2,q3,q4,q5,q6,q7,q8,q9⟩:=hL _ ds k2;exact ⟨b,arr,e,fr,by rw [k3];exact q1,q3,q4,q5,q6,q7,q8,fun j d hj=>(q9 j d hj).lift⟩
end
end Go.Ev
namespace Go.Ev
section
variable {X:Cx} {P:Program} {ok ok':Nat→Prop} {w w':World} {ι:qz} {H H':qd}
structure PInv (n0:Nat) (H:qd) (seen:List Nat) (acc:qd):Prop where
 len:acc.length = seen.length
 at_:∀ (p i:Nat),seen[p]? = some i→n0≤i∧∃ ds,qe H i = some ds∧acc[p]? = some (some ds)∧ds.all idFree = true
 nd:seen.Nodup
def Ja (n0:Nat) (ι:qz) (S:List Nat):qz:=fun i=>if i < n0 then ι i else (S[i - n0]?).bind ι
def qlc (n0:Nat) (H:qd) (seen seen':List Nat) (acc acc':qd):Prop :=
 PInv n0 H seen' acc'∧(∃ t,seen' = seen ++ t)∧(∃ u,acc' = acc ++ u)
theorem qd9 {n0 i:Nat} (h:i < n0):qe (H.take n0) i = qe H i:=by
 simp [qe,h]
theorem qdA {n0 i:Nat} {A:qd} (hn:n0≤H.length) (h:i < n0):qe (H.take n0 ++ A) i = qe H i:=by
 rw [KV (by simp;omega),qd9 h]
theorem qjf {n0 p:Nat} {A:qd} (hn:n0≤H.length):qe (H.take n0 ++ A) (n0+p) = qe A p:=by
 have:(H.take n0).length = n0:=by simp;omega
 have h:=YH (H:=H.take n0) (L:=A) (i:=p)
 rwa [this] at h
theorem qhS {n0 p:Nat} {S:List Nat}:Ja n0 ι S (n0+p) = (S[p]?).bind ι:=by
 unfold Ja;rw [if_neg (by omega)];congr 2;omega
theorem qjv {n0 i:Nat} {seen S:List Nat} {acc A:qd} (hn:n0≤H.length) (hinv:PInv n0 H seen acc) (hA:PInv n0 H S A) (hpre:∃ t,S = seen ++ [i] ++ t) :
  qe (H.take n0 ++ A) (n0+acc.length) = qe H i∧Ja n0 ι S (n0+acc.length) = ι i∧n0+acc.length < (H.take n0 ++ A).length:=by
 obtain ⟨t,rfl⟩:=hpre
 have hS:(seen ++ [i] ++ t)[acc.length]? = some i:=by
  rw [hinv.len];simp
 obtain ⟨_,ds,h1,h2,_⟩:=hA.at_ _ _ hS;refine ⟨?_,?_,?_⟩
 ·rw [qjf hn,h1];simp [qe,h2]
 ·rw [qhS,hS];rfl
 ·have:acc.length < A.length:=(List.getElem?_eq_some_iff.1 h2).1;simp;omega
theorem PInv.add {n0 i:Nat} {seen:List Nat} {acc:qd} {ds:List D} (hinv:PInv n0 H seen acc) (hi:n0≤i) (hd:qe H i = some ds) (hf:ds.all idFree = true) (V6:i ∉ seen):PInv n0 H (seen ++ [i]) (acc ++ [some ds]):=by
 refine ⟨by simp [hinv.len],fun p j hp=>?_,?_⟩
 ·by_cases qi:p < seen.length
  ·rw [jX qi] at hp;obtain ⟨h1,es,h2,h3,h4⟩:=hinv.at_ p j hp;exact ⟨h1,es,h2,by rw [jX (by rw [hinv.len];exact qi)];exact h3,h4⟩
  ·have Vi:p = seen.length:=by
    have:=(List.getElem?_eq_some_iff.1 hp).1;simp at this;omega
   subst Vi;simp at hp;subst hp;exact ⟨hi,ds,hd,by rw [← hinv.len];simp,hf⟩
 ·rw [List.nodup_append];exact ⟨hinv.nd,by simp,by intro a ha b hb;simp at hb;subst hb;intro e;subst e;exact V6 ha⟩
theorem qhU (n0:Nat) (hn:n0≤H.length):∀ (d:D) {seen seen':List Nat} {acc acc':qd} {d':D},PInv n0 H seen acc→pack1 n0 H seen acc d = some (d',seen',acc') →
  qlc n0 H seen seen' acc acc'∧(zn d = true→zn d' = true)∧∀ (S:List Nat) (A:qd) (v:Value),PInv n0 H S A→(∃ t,S = seen' ++ t)→Rep ok w ι H d v→Rep ok w (Ja n0 ι S) (H.take n0 ++ A) d' v
 | .osl i st off len k,seen,seen',acc,acc',d',hinv,h=>by
  simp only [pack1] at h;split at h
  ·rename_i qi;simp only [qs,qK] at h;obtain ⟨rfl,rfl,rfl⟩:=h;refine ⟨⟨hinv,⟨[],by simp⟩,⟨[],by simp⟩⟩,fun _=>rfl,fun S A v hA hp hr=>?_⟩;cases hr with
   | osl a hi hh qJ =>
    refine .osl a (by simp;omega) (fun ds hd=>?_) qJ;rw [qdA hn qi] at hd;have:Ja n0 ι S i = ι i:=(by simp [Ja,qi]);rw [this];exact hh ds hd
  ·rename_i vd;split at h
   ·rename_i ds hd;split at h
    ·rename_i hcond;simp only [qs,qK] at h;obtain ⟨rfl,rfl,rfl⟩:=h;refine ⟨⟨hinv.add (by omega) hd hcond.1 hcond.2,⟨[i],rfl⟩,⟨_,rfl⟩⟩,fun _=>rfl,fun S A v hA hp hr=>?_⟩;obtain ⟨k1,k2,k3⟩:=qjv (ι:=ι) hn hinv hA hp;cases hr with
     | osl a hi hh qJ =>
      refine .osl a k3 (fun ds hd=>?_) qJ;rw [k1] at hd;rw [k2];exact hh ds hd
    ·cases h
   ·cases h
 | .optr i st off,seen,seen',acc,acc',d',hinv,h=>by
  simp only [pack1] at h;split at h
  ·rename_i qi;simp only [qs,qK] at h;obtain ⟨rfl,rfl,rfl⟩:=h;refine ⟨⟨hinv,⟨[],by simp⟩,⟨[],by simp⟩⟩,fun _=>rfl,fun S A v hA hp hr=>?_⟩;cases hr with
   | optr a hi hh =>
    refine .optr a (by simp;omega) fun ds hd=>?_;rw [qdA hn qi] at hd;have:Ja n0 ι S i = ι i:=(by simp [Ja,qi]);rw [this];exact hh ds hd
  ·rename_i vd;split at h
   ·rename_i ds hd;split at h
    ·rename_i hcond;simp only [qs,qK] at h;obtain ⟨rfl,rfl,rfl⟩:=h;refine ⟨⟨hinv.add (by omega) hd hcond.1 hcond.2,⟨[i],rfl⟩,⟨_,rfl⟩⟩,fun _=>rfl,fun S A v hA hp hr=>?_⟩;obtain ⟨k1,k2,k3⟩:=qjv (ι:=ι) hn hinv hA hp;cases hr with
     | optr a hi hh =>
      refine .optr a k3 fun ds hd=>?_;rw [k1] at hd;rw [k2];exact hh ds hd
    ·cases h
   ·cases h
 | .agg cs,seen,seen',acc,acc',d',hinv,h=>by
  simp only [pack1] at h;cases hp:pack1.packs n0 H seen acc cs with
  | none=>simp [hp] at h
  | some r =>
   obtain ⟨cs',s',a'⟩:=r;simp only [hp,zT,qs,qK] at h;obtain ⟨rfl,rfl,rfl⟩:=h;obtain ⟨k1,k2,k3,k4⟩:=packs_rep n0 hn cs hinv hp;refine ⟨k1,fun h=>by simp [zn] at h,fun S A v hA hp hr=>?_⟩;cases hr with
   | agg hl hc hh=>exact .agg (by rw [hl,k2]) (k4 hc) (k3 S A (fun j=>(_:Array Value).getD j undef) hA hp hh)
 | .tup cs,seen,seen',acc,acc',d',hinv,h=>by
  simp only [pack1] at h;cases hp:pack1.packs n0 H seen acc cs with
  | none=>simp [hp] at h
  | some r =>
   obtain ⟨cs',s',a'⟩:=r;simp only [hp,zT,qs,qK] at h;obtain ⟨rfl,rfl,rfl⟩:=h;obtain ⟨k1,k2,k3,k4⟩:=packs_rep n0 hn cs hinv hp;refine ⟨k1,fun h=>by simp [zn] at h,fun S A v hA hp hr=>?_⟩;cases hr with
   | tup hl hh=>exact .tup (by rw [hl,k2]) (k3 S A (fun j=>(_:Array Value).getD j undef) hA hp hh)
 | .bool _,seen,seen',acc,acc',d',hinv,h | .int _ _,seen,seen',acc,acc',d',hinv,h | .str _,seen,seen',acc,acc',d',hinv,h | .nilp,seen,seen',acc,acc',d',hinv,h
 | .nilf,seen,seen',acc,acc',d',hinv,h | .nili,seen,seen',acc,acc',d',hinv,h | .raw _,seen,seen',acc,acc',d',hinv,h | .vptr _,seen,seen',acc,acc',d',hinv,h | .vsl _ _ _,seen,seen',acc,acc',d',hinv,h
 | .fn _ _,seen,seen',acc,acc',d',hinv,h | .iface _ _,seen,seen',acc,acc',d',hinv,h=>by
  simp only [pack1] at h;split at h
  ·rename_i hf;simp only [qs,qK] at h;obtain ⟨rfl,rfl,rfl⟩:=h;exact ⟨⟨hinv,⟨[],by simp⟩,⟨[],by simp⟩⟩,fun h=>h,fun S A v hA hp hr=>hr.free hf _ _⟩
  ·cases h
where packs_rep (n0:Nat) (hn:n0≤H.length):∀ (l:List D) {seen seen':List Nat} {acc acc':qd} {l':List D},PInv n0 H seen acc→pack1.packs n0 H seen acc l = some (l',seen',acc') →
      qlc n0 H seen seen' acc acc'∧l.length = l'.length∧(∀ (S:List Nat) (A:qd) (v:Nat→Value),PInv n0 H S A→(∃ t,S = seen' ++ t)→(∀ (j:Nat) d,l[j]? = some d→Rep ok w ι H d (v j)) →
      ∀ (j:Nat) d,l'[j]? = some d→Rep ok w (Ja n0 ι S) (H.take n0 ++ A) d (v j))∧((∀ d,d∈l→zn d = true)→∀ d,d∈l'→zn d = true)
 | [],seen,seen',acc,acc',l',hinv,h=>by
  simp only [pack1.packs,qs,qK] at h;obtain ⟨rfl,rfl,rfl⟩:=h;exact ⟨⟨hinv,⟨[],by simp⟩,⟨[],by simp⟩⟩,rfl,fun _ _ _ _ _ _=>by simp,fun _=>by simp⟩
 | d :: l,seen,seen',acc,acc',l',hinv,h=>by
  simp only [pack1.packs] at h;split at h
  ·rename_i d1 s1 a1 h1;split at h
   ·rename_i l1 s2 a2 h2;simp only [qs,qK] at h;obtain ⟨rfl,rfl,rfl⟩:=h;obtain ⟨⟨k1,⟨t1,k2⟩,⟨u1,k3⟩⟩,k4,k5⟩:=qhU n0 hn d hinv h1;obtain ⟨⟨q1,⟨t2,q2⟩,⟨u2,q3⟩⟩,q4,q5,q6⟩:=packs_rep n0 hn l k1 h2;refine ⟨⟨q1,⟨t1 ++ t2,by rw [q2,k2];simp⟩,⟨u1 ++ u2,by rw [q3,k3];simp⟩⟩,by simp [q4],fun S A v hA hp hr j x hx=>?_,fun hc x hx=>?_⟩
    ·cases j with
     | zero =>
      simp only [Qh,qs] at hx;subst hx;obtain ⟨t,ht⟩:=hp;exact k5 S A (v 0) hA ⟨t2 ++ t,by rw [ht,q2];simp⟩ (hr 0 d rfl)
     | succ j=>exact q5 S A (fun j=>v (j+1)) hA hp (fun j x hx=>hr (j+1) x (by simpa using hx)) j x (by simpa using hx)
    ·rcases List.mem_cons.1 hx with rfl | hx
     ·exact k4 (hc d (Za ..))
     ·exact q6 (fun y hy=>hc y (kS _ hy)) x hx
   ·cases h
  ·cases h
theorem qga {m:Nat} (hm:m≤H.length):Evol m ok w ι H ok w ι (H.take m) :=
 ⟨rfl,rfl,rfl,qv _,fun _ _ _=>rfl,fun _ h=>h,fun _ h _=>.inl h,⟨hm,by simp;omega⟩,fun i hi ds hd=>⟨ds,by rwa [qd9 hi] at hd,qv _,fun _=>rfl⟩,
  fun i ds b s hd hb _=>by
   have hi:i < m:=by
    have:=qt hd;simp at this;omega
   rw [qd9 hi] at hd;exact ⟨i,ds,s,hd,hb⟩⟩
theorem qkJ {m i:Nat} {ds:List D} (h:(H.take m).all (qaD m) = true) (hi:i < m) (hd:qe H i = some ds):∀ d,d∈ds→closed m d = true:=by
 have hl:=qt hd
 have hg:H[i]? = some (some ds):=by
  unfold qe at hd;rw [qU hl] at hd ⊢;simpa using hd
 have Z9:some ds∈H.take m:=ZS (i:=i) (by rw [JR,if_pos hi];exact hg);have:=List.all_eq_true.1 h _ Z9;simp only [qaD] at this;exact List.all_eq_true.1 this
theorem quE {m:Nat} (hm:m≤H.length) (hs:Sim X ok w ι H) (hc:(H.take m).all (qaD m) = true):Sim X ok w ι (H.take m):=by
 have qi:∀ i ds,qe (H.take m) i = some ds→i < m∧qe H i = some ds:=by
  intro i ds hd
  have hi:i < m:=by
   have:=qt hd;simp at this;omega
  exact ⟨hi,by rwa [qd9 hi] at hd⟩
 refine ⟨hs.okS,hs.glob,fun i j ds es b s s' hd he=>hs.inj i j ds es b s s' (qi i ds hd).2 (qi j es he).2,fun i ds hd=>?_⟩;obtain ⟨hi,hd⟩:=qi i ds hd;obtain ⟨b,arr,e,fr,q1,q2,q3,q4,q5,q6,q7,q8⟩:=hs.blk i ds hd;exact ⟨b,arr,e,fr,q1,q2,q3,q4,q5,q6,q7,fun j d hj=>(q8 j d hj).evol hs (qga hm) (qkJ hc hi hd d (mem_of_get? hj))⟩
theorem qhP {n0:Nat} (hn:n0≤H.length) (hs:Sim X ok w ι H) {r r':D} {v:Value} (hr:Rep ok w ι H r v) (h:qaz n0 H r = some (r',H')) :
  ∃ ι',Sim X ok w ι' H'∧Rep ok w ι' H' r' v∧Evol n0 ok w ι H ok w ι' H'∧(∀ i ds,n0≤i→qe H' i = some ds→ds.all idFree = true):=by
 unfold qaz at h;split at h
 ·rename_i r1 S A hp;split at h
  ·rename_i hc;simp only [qs,qK] at h;obtain ⟨rfl,rfl⟩:=h;obtain ⟨⟨k1,_,_⟩,_,k3⟩:=qhU (ok:=ok) (w:=w) (ι:=ι) n0 hn r (seen:=[]) (acc:=[]) ⟨rfl,by simp,by simp⟩ hp;have hrep:=k3 S A v k1 ⟨[],by simp⟩ hr
   have Z5:∀ i ds,qe (H.take n0 ++ A) i = some ds→(i < n0∧qe H i = some ds∧Ja n0 ι S i = ι i)∨(∃ p j,i = n0+p∧S[p]? = some j∧n0≤j∧qe H j = some ds∧Ja n0 ι S i = ι j∧ds.all idFree = true):=by
    intro i ds hd;by_cases qi:i < n0
    ·rw [qdA hn qi] at hd;exact .inl ⟨qi,hd,by simp [Ja,qi]⟩
    ·obtain ⟨p,rfl⟩:∃ p,i = n0+p:=⟨i - n0,by omega⟩;rw [qjf hn] at hd;have vE:=qt hd;have hSp:S[p]? = some (S[p]'(by rw [← k1.len];exact vE)):=qU _;obtain ⟨q1,es,q2,q3,q4⟩:=k1.at_ _ _ hSp
     have:es = ds:=by
      unfold qe at hd;rw [q3] at hd;simpa using hd
     subst this;exact .inr ⟨p,_,rfl,hSp,q1,q2,by rw [qhS,hSp];rfl,q4⟩
   have hev:Evol n0 ok w ι H ok w (Ja n0 ι S) (H.take n0 ++ A):=by
    refine ⟨rfl,rfl,rfl,qv _,fun _ _ _=>rfl,fun _ h=>h,fun _ h _=>.inl h,⟨hn,by simp;omega⟩,?_,?_⟩
    ·intro i hi ds hd;rw [qdA hn hi] at hd;exact ⟨ds,hd,qv _,fun _=>by simp [Ja,hi]⟩
    ·intro i ds b s hd hb _;rcases Z5 i ds hd with ⟨q1,q2,q3⟩ | ⟨p,j,_,_,_,q2,q3,_⟩
     ·exact ⟨i,ds,s,q2,by rw [← q3];exact hb⟩
     ·exact ⟨j,ds,s,q2,by rw [← q3];exact hb⟩
   refine ⟨Ja n0 ι S,⟨hs.okS,hs.glob,?_,?_⟩,hrep,hev,?_⟩
   ·intro i j ds es b s s' hd he hb qI;rcases Z5 i ds hd with ⟨q1,q2,q3⟩ | ⟨p,i',rfl,q1,q1',q2,q3,_⟩ <;> rcases Z5 j es he with ⟨l1,l2,l3⟩ | ⟨p',j',rfl,l1,l1',l2,l3,_⟩
    ·exact hs.inj i j ds es b s s' q2 l2 (by rw [← q3];exact hb) (by rw [← l3];exact qI)
    ·have:=hs.inj i j' ds es b s s' q2 l2 (by rw [← q3];exact hb) (by rw [← l3];exact qI);omega
    ·have:=hs.inj i' j ds es b s s' q2 l2 (by rw [← q3];exact hb) (by rw [← l3];exact qI);omega
    ·have:=hs.inj i' j' ds es b s s' q2 l2 (by rw [← q3];exact hb) (by rw [← l3];exact qI);subst this;have vx:=(List.getElem?_eq_some_iff.1 q1);have J9:=(List.getElem?_eq_some_iff.1 l1);obtain ⟨a1,a2⟩:=vx;obtain ⟨b1,b2⟩:=J9;have hpw:=List.pairwise_iff_getElem.1 k1.nd;rcases Nat.lt_trichotomy p p' with qi | YJ | hgt
     ·exact absurd (a2.trans b2.symm) (hpw p p' a1 b1 qi)
     ·omega
     ·exact absurd (b2.trans a2.symm) (hpw p' p b1 a1 hgt)
   ·intro i ds hd;rcases Z5 i ds hd with ⟨q1,q2,q3⟩ | ⟨p,j,rfl,q1,q1',q2,q3,q4⟩
    ·obtain ⟨b,arr,e,fr,c1,c2,c3,c4,c5,c6,c7,c8⟩:=hs.blk i ds q2;exact ⟨b,arr,e,fr,by rw [q3];exact c1,c2,c3,c4,c5,c6,c7,fun j d hj=>(c8 j d hj).evol hs hev (qkJ hc q1 q2 d (mem_of_get? hj))⟩
    ·obtain ⟨b,arr,e,fr,c1,c2,c3,c4,c5,c6,c7,c8⟩:=hs.blk j ds q2;exact ⟨b,arr,e,fr,by rw [q3];exact c1,c2,c3,c4,c5,c6,c7,fun j d hj=>(c8 j d hj).free (JO q4 d (mem_of_get? hj)) _ _⟩
   ·intro i ds hi hd;rcases Z5 i ds hd with ⟨q1,q2,q3⟩ | ⟨p,j,rfl,q1,q1',q2,q3,q4⟩
    ·omega
    ·exact q4
  ·cases h
 ·cases h
end
end Go.Ev
namespace Go.Ev
section
variable {X:Cx} {ok ok':Nat→Prop} {w w':World} {ι:qz} {H H':qd}
theorem qdy {d:D} {v:Value} (h:Rep ok w ι H d v) (Qn:v.oneCell' = true):zn d = true:=by
 cases h <;> first | rfl | exact Qn | simp [Value.oneCell'] at Qn
theorem Qk:∀ (l:List Nat) (H:qd),(jq H l).length = H.length
 | [],H=>rfl
 | i :: l,H=>by rw [jq,Qk l,vt]
theorem qbi:∀ (l:List Nat) (H:qd) {j:Nat} {ds:List D},qe (jq H l) j = some ds→qe H j = some ds∧j ∉ l
 | [],H,j,ds,h=>⟨h,by simp⟩
 | i :: l,H,j,ds,h=>by
  obtain ⟨h1,h2⟩:=qbi l _ h;unfold qe at h1;by_cases qR:i = j
  ·subst qR;rw [List.getElem?_set] at h1;simp only [if_true] at h1;split at h1 <;> simp at h1
  ·rw [List.getElem?_set_ne qR] at h1;exact ⟨h1,by simp only [zA,not_or];exact ⟨fun h=>qR h.symm,h2⟩⟩
def V1 (ok:Nat→Prop) (ι:qz) (H:qd) (l:List Nat) (b:Nat):Prop:=ok b∨∃ i ds s,i∈l∧qe H i = some ds∧ι i = some (b,s)
theorem Ym {okF:Nat→Prop} {cond:Nat→Prop} {g:D→Option (D × List Nat)}
  (hg:∀ d d' l v,Rep ok w ι H d v→g d = some (d',l)→(∀ i,i∈l→cond i)→Rep okF w zo [] d' v) :
  ∀ (ds:List D) {ds':List D} {l:List Nat} {vs:Nat→Value},(∀ (j:Nat) d,ds[j]? = some d→Rep ok w ι H d (vs j))→jJ g ds = some (ds',l)→(∀ i,i∈l→cond i) →
   ds.length = ds'.length∧∀ (j:Nat) d,ds'[j]? = some d→Rep okF w zo [] d (vs j)
 | [],ds',l,vs,_,h,_=>by
  simp only [jJ,qs,qK] at h;obtain ⟨rfl,rfl⟩:=h;simp
 | d :: ds,ds',l,vs,hr,h,hl=>by
  simp only [jJ] at h;split at h
  ·rename_i d1 a l1 b h1 h2;simp only [qs,qK] at h;obtain ⟨rfl,rfl⟩:=h;obtain ⟨k1,k2⟩:=Ym hg ds (vs:=fun j=>vs (j+1)) (fun j x hx=>hr (j+1) x (by simpa using hx)) h2 (fun i hi=>hl i (List.mem_append_right _ hi));refine ⟨by simp [k1],fun j x hx=>?_⟩;cases j with
   | zero =>
    simp only [Qh,qs] at hx;subst hx;exact hg d _ _ _ (hr 0 d rfl) h1 fun i hi=>hl i (qaj _ hi)
   | succ j=>exact k2 j x (by simpa using hx)
  ·cases h
theorem qaM (hs:Sim X ok w ι H) {okF:Nat→Prop} (hm:∀ b,ok b→okF b):∀ (n:Nat) (d d':D) (l:List Nat) (v:Value),Rep ok w ι H d v→zF H n d = some (d',l) →
  (∀ i,i∈l→∀ ds b s,qe H i = some ds→ι i = some (b,s)→okF b)→Rep okF w zo [] d' v
 | 0,d,d',l,v,_,h,_=>by simp [zF] at h
 | n+1,d,d',l,v,hr,h,hl=>by
  have ih:=qaM hs hm n;have free_:idFree d = true→d' = d→Rep okF w zo [] d' v:=fun hf he=>by subst he;exact (hr.free hf _ _).okMono hm
  simp only [zF] at h;split at h
  ·rename_i hfree;simp only [qs,qK] at h;exact free_ hfree h.1.symm
  rename_i hnfree;clear hnfree;cases hr with
  | bool b=>simp only [qs,qK] at h;exact free_ rfl h.1.symm
  | int k n=>simp only [qs,qK] at h;exact free_ rfl h.1.symm
  | str s=>simp only [qs,qK] at h;exact free_ rfl h.1.symm
  | nilp=>simp only [qs,qK] at h;exact free_ rfl h.1.symm
  | nilf=>simp only [qs,qK] at h;exact free_ rfl h.1.symm
  | nili=>simp only [qs,qK] at h;exact free_ rfl h.1.symm
  | raw v=>simp only [qs,qK] at h;exact free_ rfl h.1.symm
  | vnil=>simp only [qs,qK] at h;exact free_ rfl h.1.symm
  | vptr a f ha hc hr hh=>simp only [qs,qK] at h;exact free_ rfl h.1.symm
  | vsl a f ha hc hr hh qJ=>simp only [qs,qK] at h;exact free_ rfl h.1.symm
  | @agg _ _ cs vs hlen hc hh =>
   simp only at h;cases hst:jJ (zF H n) cs with
   | none=>simp [hst] at h
   | some q =>
    obtain ⟨cs',l'⟩:=q;simp only [hst,zT,qs,qK] at h;obtain ⟨rfl,rfl⟩:=h;obtain ⟨k1,k2⟩:=Ym (cond:=fun i=>∀ ds b s,qe H i = some ds→ι i = some (b,s)→okF b) ih cs hh hst hl;refine .agg (by rw [hlen,k1]) (fun d hd=>?_) k2;obtain ⟨j,hj⟩:=List.mem_iff_getElem?.1 hd;have zm:j < cs.length:=(by rw [k1];exact (List.getElem?_eq_some_iff.1 hj).1);have h0:cs[j]? = some cs[j]:=qU zm;exact qdy (k2 j d hj) ((hh j _ h0).oneCell (hc _ (mem_of_get? h0)))
  | @tup _ _ cs vs hlen hh =>
   simp only at h;cases hst:jJ (zF H n) cs with
   | none=>simp [hst] at h
   | some q =>
    obtain ⟨cs',l'⟩:=q;simp only [hst,zT,qs,qK] at h;obtain ⟨rfl,rfl⟩:=h;obtain ⟨k1,k2⟩:=Ym (cond:=fun i=>∀ ds b s,qe H i = some ds→ι i = some (b,s)→okF b) ih cs hh hst hl;exact .tup (by rw [hlen,k1]) k2
  | @fn _ _ f cs vs hlen hh =>
   simp only at h;cases hst:jJ (zF H n) cs with
   | none=>simp [hst] at h
   | some q =>
    obtain ⟨cs',l'⟩:=q;simp only [hst,zT,qs,qK] at h;obtain ⟨rfl,rfl⟩:=h;obtain ⟨k1,k2⟩:=Ym (cond:=fun i=>∀ ds b s,qe H i = some ds→ι i = some (b,s)→okF b) ih cs hh hst hl;exact .fn (by rw [hlen,k1]) k2
  | iface hh =>
   simp only at h;rename_i t d v;cases hst:zF H n d with
   | none=>simp [hst] at h
   | some q =>
    obtain ⟨d1,l'⟩:=q;simp only [hst,zT,qs,qK] at h;obtain ⟨rfl,rfl⟩:=h;exact .iface (ih d _ _ _ hh hst hl)
  | @optr _ _ i st off a hi hh =>
   simp only at h;split at h
   ·rename_i ds hd;split at h
    ·rename_i hst;obtain ⟨b,s,q1,rfl⟩:=(hh ds hd).2 hst;obtain ⟨b',arr,e,fr,k1,k2,k3,k4,k5,k6,k7,k8⟩:=hs.blk i ds hd;have hq:=q1;rw [q1] at k1;injection k1 with k1;injection k1 with k1 _;subst k1
     have main:∀ ds':List D,ds.length = ds'.length→(∀ (j:Nat) d,ds'[j]? = some d→Rep okF w zo [] d (arr.getD j undef))→i∈l→Rep okF w zo [] (.vptr (ds'.drop off)) (.pointer (some ⟨b,off,none⟩)):=by
      intro ds' hlen hrep QR;refine .vptr _ (fun j=>arr.getD (off+j) undef) (fun _ _=>hl i QR ds b s hd hq) (fun d qS=>?_) (fun j d hj=>?_) (fun j d hj=>?_)
      ·obtain ⟨j,hj⟩:=List.mem_iff_getElem?.1 (QG qS);have zm:j < ds.length:=(by rw [hlen];exact (List.getElem?_eq_some_iff.1 hj).1);exact qdy (hrep j d hj) (k6 j (by omega))
      ·rw [ke] at hj;have qi:off+j < arr.size:=(by have:=(List.getElem?_eq_some_iff.1 hj).1;omega);rw [Jv,Km k3];simp [qi]
      ·rw [ke] at hj;exact hrep _ d hj
     split at h
     ·rename_i hfree;simp only [qs,qK] at h;obtain ⟨rfl,rfl⟩:=h;exact main ds rfl (fun j d hj=>((k8 j d hj).free ((Y2 _).1 hfree d (mem_of_get? hj)) _ _).okMono hm) (by simp)
     ·split at h
      ·rename_i ds' l' ko;simp only [qs,qK] at h;obtain ⟨rfl,rfl⟩:=h;obtain ⟨e1,e2⟩:=Ym (cond:=fun i=>∀ ds b s,qe H i = some ds→ι i = some (b,s)→okF b) ih ds (vs:=fun j=>arr.getD j undef) k8 ko (fun i hi=>hl i (kS _ hi));exact main ds' e1 e2 (by simp)
      ·cases h
    ·cases h
   ·cases h
  | @osl _ _ i st off len k c a hi hh qJ =>
   simp only at h;split at h
   ·rename_i ds hd;split at h
    ·rename_i hst;obtain ⟨b,s,q1,rfl,q3⟩:=(hh ds hd).2 hst.1;obtain ⟨b',arr,e,fr,k1,k2,k3,k4,k5,k6,k7,k8⟩:=hs.blk i ds hd;have hq:=q1;rw [q1] at k1;injection k1 with k1;injection k1 with k1 _;subst k1
     have main:∀ ds':List D,ds.length = ds'.length→(∀ (j:Nat) d,ds'[j]? = some d→Rep okF w zo [] d (arr.getD j undef))→i∈l→Rep okF w zo [] (.vsl false ((ds'.drop off).take (len * k)) len) (.slice (some ⟨b,off,none⟩) len c):=by
      intro ds' hlen hrep QR;refine .vsl _ (fun j=>arr.getD (off+j) undef) (fun _ _=>hl i QR ds b s hd hq) (fun d qS=>?_) (fun j d hj=>?_) (fun j d hj=>?_) qJ
      ·obtain ⟨j,hj⟩:=List.mem_iff_getElem?.1 (QG (JQ qS));have zm:j < ds.length:=(by rw [hlen];exact (List.getElem?_eq_some_iff.1 hj).1);exact qdy (hrep j d hj) (k6 j (by omega))
      ·rw [JR] at hj;split at hj
       ·rw [ke] at hj;have qi:off+j < arr.size:=(by have:=(List.getElem?_eq_some_iff.1 hj).1;omega);rw [Jv,Km k3];simp [qi]
       ·cases hj
      ·rw [JR] at hj;split at hj
       ·rw [ke] at hj;exact hrep _ d hj
       ·cases hj
     split at h
     ·rename_i hfree;simp only [qs,qK] at h;obtain ⟨rfl,rfl⟩:=h;exact main ds rfl (fun j d hj=>((k8 j d hj).free ((Y2 _).1 hfree d (mem_of_get? hj)) _ _).okMono hm) (by simp)
     ·split at h
      ·rename_i ds' l' ko;simp only [qs,qK] at h;obtain ⟨rfl,rfl⟩:=h;obtain ⟨e1,e2⟩:=Ym (cond:=fun i=>∀ ds b s,qe H i = some ds→ι i = some (b,s)→okF b) ih ds (vs:=fun j=>arr.getD j undef) k8 ko (fun i hi=>hl i (kS _ hi));exact main ds' e1 e2 (by simp)
      ·cases h
    ·cases h
   ·cases h
theorem qaC (l:List Nat):Evol H.length ok w ι H (V1 ok ι H l) w ι (jq H l) :=
 ⟨rfl,rfl,rfl,qv _,fun _ _ _=>rfl,fun _ h=>.inl h,fun b h _=>h.imp id fun ⟨i,ds,s,_,hd,hi⟩=>⟨i,ds,s,hd,hi⟩,⟨qv _,by rw [Qk];exact qv _⟩,
  fun i _ ds hd=>⟨ds,(qbi l H hd).1,qv _,fun _=>rfl⟩,fun i ds b s hd hi _=>⟨i,ds,s,(qbi l H hd).1,hi⟩⟩
theorem qc0 (hs:Sim X ok w ι H) (l:List Nat):Sim X (V1 ok ι H l) w ι (jq H l) where
 okS b hb:=by
  rcases hb with hb | ⟨i,ds,s,_,hd,hi⟩
  ·exact hs.okS b hb
  ·exact hs.lt hd hi
 glob g cs hg:=(hs.glob g cs hg).okMono fun b hb=>.inl hb
 inj i j ds es b s s' hd he hi hj:=hs.inj i j ds es b s s' (qbi l H hd).1 (qbi l H he).1 hi hj
 blk i ds hd:=by
  obtain ⟨h1,h2⟩:=qbi l H hd;obtain ⟨b,arr,e,fr,k1,k2,k3,k4,k5,k6,k7,k8⟩:=hs.blk i ds h1;refine ⟨b,arr,e,fr,k1,?_,k3,k4,k5,k6,k7,fun j d hj=>(k8 j d hj).evol hs (qaC l) (k8 j d hj).closed⟩;rintro (hb | ⟨i',ds',s,hm,qS,Qe⟩)
  ·exact k2 hb
  ·have:=hs.inj i' i ds' ds b s arr.size qS h1 Qe k1;subst this;exact h2 hm
theorem qdu:∀ (e' e:qn) (t:Nat),qg (e' ++ e) t = (qg e' t).or (qg e t)
 | [],e,t=>by simp [qg]
 | (s,d) :: e',e,t=>by
  simp only [Jx,qg];by_cases h:s = t
  ·simp [h]
  ·simp only [h,if_false];exact qdu e' e t
theorem qeB (hs:Sim X ok w ι H) {e:qn} {tmps:Array Value} (he:EnvRep ok w ι H e tmps) {okF:Nat→Prop} (hm:∀ b,ok b→okF b):∀ (ss:List Nat) {e':qn} {l:List Nat},qar H e ss = some (e',l) →
  (∀ i,i∈l→∀ ds b s,qe H i = some ds→ι i = some (b,s)→okF b)→EnvRep okF w zo [] e' tmps
 | [],e',l,h,_=>by
  simp only [qar,qs,qK] at h;obtain ⟨rfl,rfl⟩:=h;intro t d ht;simp [qg] at ht
 | s :: ss,e',l,h,hl=>by
  simp only [qar] at h;split at h
  ·exact qeB hs he hm ss h hl
  ·rename_i d hd;split at h
   ·rename_i d1 a e1 b h1 h2;simp only [qs,qK] at h;obtain ⟨rfl,rfl⟩:=h;have ih:=qeB hs he hm ss h2 fun i hi=>hl i (List.mem_append_right _ hi);intro t x ht;simp only [qg] at ht;split at ht
    ·rename_i hst;subst hst;injection ht with ht;subst ht;obtain ⟨q1,q2⟩:=he _ _ hd;exact ⟨q1,qaM hs hm _ _ _ _ _ q2 h1 fun i hi=>hl i (qaj _ hi)⟩
    ·exact ih t x ht
   ·cases h
theorem qtM {ss:List Nat} {e e':qn} {tmps:Array Value} (h:qbm ss e H = some (e',H')) (hs:Sim X ok w ι H) (he:EnvRep ok w ι H e tmps) :
  ∃ ok',Sim X ok' w ι H'∧EnvRep ok' w ι H' e' tmps∧Evol H.length ok w ι H ok' w ι H':=by
 unfold qbm at h;split at h
 ·rename_i e1 l hst;simp only [qs,qK] at h;obtain ⟨rfl,rfl⟩:=h;refine ⟨V1 ok ι H l,qc0 hs l,fun t d ht=>?_,qaC l⟩;rw [qdu] at ht;cases hx:qg e1 t with
  | some x =>
   rw [hx] at ht;simp only [Option.some_or,qs] at ht;subst ht;obtain ⟨q1,q2⟩:=qeB hs he (okF:=V1 ok ι H l) (fun b hb=>.inl hb) ss hst (fun i hi ds b s hd hb=>.inr ⟨i,ds,s,hi,hd,hb⟩) t x hx;exact ⟨q1,q2.lift⟩
  | none =>
   rw [hx,Option.none_or] at ht;obtain ⟨q1,q2⟩:=he t d ht;exact ⟨q1,q2.evol hs (qaC l) q2.closed⟩
 ·cases h
theorem qg7 {e:qn}:∀ {S:List Nat} {ds:List D},Kt e S = some ds→S.length = ds.length∧∀ (j:Nat) s d,S[j]? = some s→ds[j]? = some d→qg e s = some d
 | [],ds,h=>by
  simp only [Kt,qs] at h;subst h;simp
 | s :: ss,ds,h=>by
  simp only [Kt] at h;split at h
  ·rename_i d ds' h1 h2;injection h with h;subst h;obtain ⟨k1,k2⟩:=qg7 h2;refine ⟨by simp [k1],fun j s' d' hs hd=>?_⟩;cases j with
   | zero =>
    simp only [Qh,qs] at hs hd;subst hs;subst hd;exact h1
   | succ j=>exact k2 j s' d' (by simpa using hs) (by simpa using hd)
  ·cases h
theorem qi5:∀ {S:List Nat} {ds:List D} {t:Nat} {d:D},qg (JT S ds) t = some d→∃ j:Nat,S[j]? = some t∧ds[j]? = some d
 | [],_,t,d,h=>by simp [JT,qg] at h
 | _ :: _,[],t,d,h=>by simp [JT,qg] at h
 | s :: S,x :: ds,t,d,h=>by
  simp only [JT,qg] at h;split at h
  ·rename_i hst;subst hst;injection h with h;subst h;exact ⟨0,rfl,rfl⟩
  ·obtain ⟨j,h1,h2⟩:=qi5 h;exact ⟨j+1,by simpa using h1,by simpa using h2⟩
theorem qds:∀ {ks:List Nat} {e:qn} {t:Nat} {d:D},qg (vC ks e) t = some d→qg e t = some d
 | [],e,t,d,h=>by simp [vC,qg] at h
 | k :: ks,e,t,d,h=>by
  simp only [vC] at h;split at h
  ·rename_i x hk;simp only [qg] at h;split at h
   ·rename_i V9;subst V9;rw [hk];exact h
   ·exact qds h
  ·exact qds h
theorem qi7 {n:Nat}:∀ {e:qn} {t:Nat} {d:D},XT n e = true→qg e t = some d→closed n d = true
 | [],t,d,_,h=>by simp [qg] at h
 | (s,x) :: e,t,d,hc,h=>by
  simp only [XT,zL] at hc;simp only [qg] at h;split at h
  ·injection h with h;subst h;exact hc.1
  ·exact qi7 hc.2 h
theorem qng {n0:Nat} {S ks:List Nat} {e e':qn} {tmps:Array Value} (h:qcX n0 S ks e H = some (e',H')) (hn:n0≤H.length) (hs:Sim X ok w ι H) (he:EnvRep ok w ι H e tmps) :
  ∃ ι',Sim X ok w ι' H'∧EnvRep ok w ι' H' e' tmps∧Evol n0 ok w ι H ok w ι' H':=by
 unfold qcX at h;split at h
 ·cases h
 ·rename_i ds hv;split at h
  ·rename_i ds' H1 hp;split at h
   ·rename_i hc;simp only [qs,qK] at h;obtain ⟨rfl,rfl⟩:=h;obtain ⟨g1,g2⟩:=qg7 hv
    have hrep:Rep ok w ι H (.tup ds) (.tuple (S.map fun s=>tmps.getD s undef).toArray):=by
     refine .tup (by simp [g1]) fun j d hj=>?_;have JA:j < S.length:=(by rw [g1];exact (List.getElem?_eq_some_iff.1 hj).1);have h0:S[j]? = some S[j]:=qU JA;have:=(he _ _ (g2 j _ d h0 hj)).2;simpa [zw,JA] using this
    obtain ⟨ι2,p1,p2,p3,p4⟩:=qhP hn hs hrep hp;refine ⟨ι2,p1,fun t d ht=>?_,p3⟩;rw [qdu] at ht;cases hx:qg (JT S ds') t with
    | some x =>
     rw [hx] at ht;simp only [Option.some_or,qs] at ht;subst ht;obtain ⟨j,q1,q2⟩:=qi5 hx;have JA:j < S.length:=(List.getElem?_eq_some_iff.1 q1).1;have VA:j < ds.length:=(by omega);refine ⟨(he _ _ (g2 j t _ q1 (qU VA))).1,?_⟩;cases p2 with
     | tup hl hh =>
      have:=hh j x q2;have e1:S[j] = t:=(by rw [qU JA] at q1;exact Option.some.inj q1);simpa [zw,JA,e1] using this
    | none =>
     rw [hx,Option.none_or] at ht;obtain ⟨q1,q2⟩:=he t d (qds ht);exact ⟨q1,q2.evol hs p3 (qi7 hc ht)⟩
   ·cases h
  ·cases h
theorem qf5:∀ {p:List Nat} {i k j:Nat},kZ p i k = some j→k≤j∧p[j - k]? = some i
 | [],i,k,j,h=>by cases h
 | a :: l,i,k,j,h=>by
  simp only [kZ] at h;split at h
  ·rename_i ha;injection h with h;subst h;subst ha;exact ⟨qv _,by simp⟩
  ·obtain ⟨h1,h2⟩:=qf5 h;refine ⟨by omega,?_⟩;rw [show j - k = (j - (k+1))+1 by omega,qb8];exact h2
theorem qbP {p:List Nat}:∀ {cs ds:List D},renD.renL p cs = some ds→ds.length = cs.length
 | [],ds,h=>by
  simp only [renD.renL,qs] at h;subst h;rfl
 | c :: cs,ds,h=>by
  simp only [renD.renL] at h;split at h
  ·rename_i d l h1 h2;injection h with h;subst h;simp [qbP h2]
  ·cases h
theorem qav {p:List Nat}:∀ {cs ds:List D},renD.renL p cs = some ds→∀ {j:Nat} {d:D},ds[j]? = some d→∃ c,cs[j]? = some c∧renD p c = some d
 | [],ds,h,j,d,hj=>by
  simp only [renD.renL,qs] at h;subst h;simp at hj
 | c :: cs,ds,h,j,d,hj=>by
  simp only [renD.renL] at h;split at h
  ·rename_i d0 l h1 h2;injection h with h;subst h;cases j with
   | zero =>
    simp only [Qh,qs] at hj;subst hj;exact ⟨c,rfl,h1⟩
   | succ j=>exact qav h2 (by simpa using hj)
  ·cases h
theorem qhB {p:List Nat} {c d:D} (h:renD p c = some d) (hc:zn c = true):zn d = true:=by
 cases c <;> simp only [renD,QF,qs] at h <;> first | (simp [zn] at hc;done) | (obtain ⟨_,_,rfl⟩:=h;rfl) | (subst h;exact hc)
theorem qh7 {p:List Nat} {ι2:qz} {H2:qd} (hp:∀ i j,kZ p i 0 = some j→i < H.length→j < H2.length∧ι2 j = ι i∧∀ ds2,qe H2 j = some ds2→∃ ds,qe H i = some ds∧ds.length = ds2.length)
  {ι1:qz} {H1:qd} {d:D} {v:Value} (h:Rep ok w ι1 H1 d v):ι1 = ι→H1 = H→∀ d2,renD p d = some d2→Rep ok w ι2 H2 d2 v:=by
 induction h with
 | bool b=>intro _ _ d2 hd;simp only [renD,qs] at hd;subst hd;exact .bool b
 | int k n=>intro _ _ d2 hd;simp only [renD,qs] at hd;subst hd;exact .int k n
 | str s=>intro _ _ d2 hd;simp only [renD,qs] at hd;subst hd;exact .str s
 | nilp=>intro _ _ d2 hd;simp only [renD,qs] at hd;subst hd;exact .nilp
 | nilf=>intro _ _ d2 hd;simp only [renD,qs] at hd;subst hd;exact .nilf
 | nili=>intro _ _ d2 hd;simp only [renD,qs] at hd;subst hd;exact .nili
 | raw v=>intro _ _ d2 hd;simp only [renD,qs] at hd;subst hd;exact .raw v
 | agg hl hc h ih =>
  intro h1 h2 d2 hd;simp only [renD,QF] at hd;obtain ⟨cs,hcs,rfl⟩:=hd;refine .agg (by rw [hl,qbP hcs]) (fun d hd=>?_) (fun j d hj=>?_)
  ·obtain ⟨j,hj,he⟩:=List.getElem_of_mem hd;obtain ⟨c,q1,q2⟩:=qav hcs (show cs[j]? = some d by rw [qU hj,he]);exact qhB q2 (hc c (mem_of_get? q1))
  ·obtain ⟨c,q1,q2⟩:=qav hcs hj;exact ih j c q1 h1 h2 d q2
 | tup hl h ih =>
  intro h1 h2 d2 hd;simp only [renD,QF] at hd;obtain ⟨cs,hcs,rfl⟩:=hd;refine .tup (by rw [hl,qbP hcs]) (fun j d hj=>?_);obtain ⟨c,q1,q2⟩:=qav hcs hj;exact ih j c q1 h1 h2 d q2
 | fn hl h ih =>
  intro h1 h2 d2 hd;simp only [renD,QF] at hd;obtain ⟨cs,hcs,rfl⟩:=hd;refine .fn (by rw [hl,qbP hcs]) (fun j d hj=>?_);obtain ⟨c,q1,q2⟩:=qav hcs hj;exact ih j c q1 h1 h2 d q2
 | iface h ih =>
  intro h1 h2 d2 hd;simp only [renD,QF] at hd;obtain ⟨c,hcs,rfl⟩:=hd;exact .iface (ih h1 h2 c hcs)
 | optr a hi hk =>
  intro h1 h2 d2 hd;subst h1;subst h2;simp only [renD,QF] at hd;obtain ⟨j,hj,rfl⟩:=hd;obtain ⟨q1,q2,q3⟩:=hp _ j hj hi;refine .optr a q1 fun ds2 zN=>?_;obtain ⟨ds,r1,r2⟩:=q3 ds2 zN;obtain ⟨k1,k2⟩:=hk ds r1;rw [r2] at k1 k2;rw [q2];exact ⟨k1,k2⟩
 | osl a hi hk qJ =>
  intro h1 h2 d2 hd;subst h1;subst h2;simp only [renD,QF] at hd;obtain ⟨j,hj,rfl⟩:=hd;obtain ⟨q1,q2,q3⟩:=hp _ j hj hi;refine .osl a q1 (fun ds2 zN=>?_) qJ;obtain ⟨ds,r1,r2⟩:=q3 ds2 zN;obtain ⟨k1,k2⟩:=hk ds r1;rw [r2] at k1 k2;rw [q2];exact ⟨k1,k2⟩
 | vptr a f ha hc hr h ih=>intro _ _ d2 hd;simp only [renD,qs] at hd;subst hd;exact .vptr a f ha hc hr h
 | vnil=>intro _ _ d2 hd;simp only [renD,qs] at hd;subst hd;exact .vnil
 | vsl a f ha hc hr h qJ ih=>intro _ _ d2 hd;simp only [renD,qs] at hd;subst hd;exact .vsl a f ha hc hr h qJ
theorem qdb {p:List Nat}:∀ {l:List Nat} {L:qd},VM p H l = some L→L.length = l.length∧∀ {j:Nat} {ds2:List D},qe L j = some ds2→∃ i ds,l[j]? = some i∧qe H i = some ds∧V0 p ds = some ds2
 | [],L,h=>by
  simp only [VM,qs] at h;subst h;exact ⟨rfl,fun {j ds2} hj=>by simp [qe] at hj⟩
 | i :: l,L,h=>by
  simp only [VM] at h;split at h
  ·cases h
  ·rename_i ds hd;split at h
   ·rename_i ds' L' h1 h2;injection h with h;subst h;obtain ⟨g1,g2⟩:=qdb h2;refine ⟨by simp [g1],fun {j ds2} hj=>?_⟩;cases j with
    | zero =>
     simp only [qe,Qh,Zw,qs] at hj;subst hj;exact ⟨i,ds,rfl,hd,h1⟩
    | succ j =>
     obtain ⟨i',ds0,q1,q2,q3⟩:=g2 (j:=j) (ds2:=ds2) (by simpa [qe] using hj);exact ⟨i',ds0,by simpa using q1,q2,q3⟩
   ·cases h
theorem qda {p:List Nat}:∀ {l:List Nat} {L:qd},VM p H l = some L→∀ {j i:Nat},l[j]? = some i→∃ ds ds2,qe H i = some ds∧V0 p ds = some ds2∧qe L j = some ds2
 | [],L,h,j,i,hj=>by simp at hj
 | i0 :: l,L,h,j,i,hj=>by
  simp only [VM] at h;split at h
  ·cases h
  ·rename_i ds hd;split at h
   ·rename_i ds' L' h1 h2;injection h with h;subst h;cases j with
    | zero =>
     simp only [Qh,qs] at hj;subst hj;exact ⟨ds,ds',hd,h1,by simp [qe]⟩
    | succ j =>
     obtain ⟨a,b,q1,q2,q3⟩:=qda h2 (j:=j) (i:=i) (by simpa using hj);exact ⟨a,b,q1,q2,by simpa [qe] using q3⟩
   ·cases h
theorem qbQ {p:List Nat} {ds ds2:List D} (h:V0 p ds = some ds2):ds2.length = ds.length:=by
 unfold V0 at h;split at h
 ·injection h with h;rw [h]
 ·exact qbP h
theorem qi6 {p:List Nat}:∀ {e e':qn},VN p e = some e'→∀ {t:Nat} {d2:D},qg e' t = some d2→∃ d,qg e t = some d∧Xr p d = some d2
 | [],e',h,t,d2,hl=>by
  simp only [VN,qs] at h;subst h;simp [qg] at hl
 | (s,d) :: e,e',h,t,d2,hl=>by
  simp only [VN] at h;split at h
  ·rename_i d' e1 h1 h2;injection h with h;subst h;simp only [qg] at hl ⊢;split at hl
   ·rename_i hst;injection hl with hl;subst hl;exact ⟨d,by rw [if_pos hst],h1⟩
   ·rename_i hst;obtain ⟨d0,q1,q2⟩:=qi6 h2 hl;exact ⟨d0,by rw [if_neg hst];exact q1,q2⟩
  ·cases h
theorem qbC:∀ n,(Ze n).length = n
 | 0=>rfl
 | n+1=>by rw [Ze,qX,qbC n];rfl
theorem qg9:∀ {n i:Nat},i < n→(Ze n)[i]? = some i
 | n+1,i,h=>by
  rw [Ze];by_cases hi:i < n
  ·rw [jX (by rw [qbC];exact hi),qg9 hi]
  ·have:i = n:=(by omega);subst this;rw [ku (by rw [qbC];exact qv _),qbC,Nat.sub_self];rfl
theorem qe6 {p:List Nat} {n0 i:Nat} (h:p.take n0 = Ze n0) (hi:i < n0):p[i]? = some i:=by
 rw [← List.getElem?_take_of_lt hi,h,qg9 hi]
theorem qlK {p:List Nat} {n0:Nat} (h:p.take n0 = Ze n0):n0≤p.length:=by
 have:=congrArg List.length h;rw [kt,qbC] at this;omega
theorem qbO {n0:Nat} {p:List Nat} {e e':qn} {tmps:Array Value} (h:ZZ n0 p e H = some (e',H')) (hs:Sim X ok w ι H) (he:EnvRep ok w ι H e tmps) :
  Sim X ok w (fun j=>ι (p.getD j 0)) H'∧EnvRep ok w (fun j=>ι (p.getD j 0)) H' e' tmps∧Evol n0 ok w ι H ok w (fun j=>ι (p.getD j 0)) H':=by
 unfold ZZ at h;split at h
 ·rename_i e1 H1 hE hH;split at h
  ·rename_i hnd0;obtain ⟨hnd,hup⟩:=hnd0;simp only [qs,qK] at h;obtain ⟨rfl,rfl⟩:=h;obtain ⟨hl,hg⟩:=qdb hH
   have hp:∀ i j,kZ p i 0 = some j→i < H.length→j < H1.length∧(fun j=>ι (p.getD j 0)) j = ι i∧∀ ds2,qe H1 j = some ds2→∃ ds,qe H i = some ds∧ds.length = ds2.length:=by
    intro i j qR _;obtain ⟨-,h1⟩:=qf5 qR;rw [Nat.sub_zero] at h1;have hj:=(List.getElem?_eq_some_iff.1 h1).1;refine ⟨by rw [hl];exact hj,?_,fun ds2 zN=>?_⟩
    ·show ι (p.getD j 0) = ι i;rw [jd,h1];rfl
    ·obtain ⟨i',ds,q1,q2,q3⟩:=hg zN;rw [h1] at q1;injection q1 with q1;subst q1;exact ⟨ds,q2,(qbQ q3).symm⟩
   have hB:∀ {ds ds2:List D} {f:Nat→Value},V0 p ds = some ds2→(∀ (j:Nat) d,ds[j]? = some d→Rep ok w ι H d (f j))→∀ (j:Nat) d,ds2[j]? = some d→Rep ok w (fun j=>ι (p.getD j 0)) H1 d (f j):=by
    intro ds ds2 f hr hd j d hj;unfold V0 at hr;split at hr
    ·rename_i hfree;injection hr with hr;subst hr;exact (hd j d hj).free ((Y2 _).1 hfree d (mem_of_get? hj)) _ _
    ·obtain ⟨c,q1,q2⟩:=qav hr hj;exact qh7 hp (hd j c q1) rfl rfl d q2
   have hC:∀ {ds ds2:List D},V0 p ds = some ds2→(∀ d,d∈ds→zn d = true)→∀ d,d∈ds2→zn d = true:=by
    intro ds ds2 hr hc d hd;unfold V0 at hr;split at hr
    ·injection hr with hr;subst hr;exact hc d hd
    ·obtain ⟨j,hj,KR⟩:=List.getElem_of_mem hd;obtain ⟨c,q1,q2⟩:=qav hr (show ds2[j]? = some d by rw [qU hj,KR]);exact qhB q2 (hc c (mem_of_get? q1))
   refine ⟨⟨hs.okS,hs.glob,?_,?_⟩,fun t d2 ht=>?_,?_⟩
   ·intro a b ds es blk s s' ha hb ia ib;obtain ⟨i1,d1,q1,q2,q3⟩:=hg ha;obtain ⟨i2,d2,r1,r2,r3⟩:=hg hb;have e1:p.getD a 0 = i1:=(by rw [jd,q1];rfl);have e2:p.getD b 0 = i2:=(by rw [jd,r1];rfl);simp only [e1] at ia;simp only [e2] at ib;have:=hs.inj i1 i2 d1 d2 blk s s' q2 r2 ia ib;subst this;obtain ⟨ZD,hae⟩:=List.getElem?_eq_some_iff.1 q1;obtain ⟨qI,hbe⟩:=List.getElem?_eq_some_iff.1 r1;exact (List.getElem?_inj ZD hnd).1 (q1.trans r1.symm)
   ·intro a ds2 ha;obtain ⟨i1,d1,q1,q2,q3⟩:=hg ha;have e1:p.getD a 0 = i1:=(by rw [jd,q1];rfl);obtain ⟨b,arr,ty,fr,u1,u2,u3,u4,u5,u6,u7,u8⟩:=hs.blk i1 d1 q2;exact ⟨b,arr,ty,fr,by show ι (p.getD a 0) = _;rw [e1];exact u1,u2,u3,by rw [qbQ q3];exact u4,u5,u6,hC q3 u7,hB (f:=fun j=>arr.getD j undef) q3 u8⟩
   ·obtain ⟨d,q1,q2⟩:=qi6 hE ht;obtain ⟨g1,g2⟩:=he t d q1;refine ⟨g1,?_⟩;unfold Xr at q2;split at q2
    ·rename_i hf;injection q2 with q2;subst q2;exact g2.free hf _ _
    ·exact qh7 hp g2 rfl rfl d2 q2
   ·refine ⟨rfl,rfl,rfl,qv _,fun _ _ _=>rfl,fun _ h=>h,fun _ h _=>.inl h,⟨?_,by rw [hl];exact qlK hup⟩,fun i hi ds2 zN=>?_,fun j ds2 b s hd hi hb=>?_⟩
    ·rcases Nat.eq_zero_or_pos n0 with rfl | Z8
     ·exact vf _
     ·obtain ⟨ds,_,q1,_⟩:=qda hH (qe6 hup (show n0 - 1 < n0 by omega));have:=qt q1;omega
    ·obtain ⟨i1,ds,q1,q2,q3⟩:=hg zN;rw [qe6 hup hi] at q1;injection q1 with q1;subst q1;refine ⟨ds,q2,Nat.le_of_eq (qbQ q3).symm,fun _=>?_⟩;show ι (p.getD i 0) = ι i;rw [jd,qe6 hup hi];rfl
    obtain ⟨i1,d1,q1,q2,q3⟩:=hg hd;have e1:p.getD j 0 = i1:=(by rw [jd,q1];rfl);simp only [e1] at hi;exact ⟨i1,d1,s,q2,hi⟩
  ·cases h
 ·cases h
theorem qoI {S:List Nat} {ds:List D} {e:qn} (hv:Kt e S = some ds):∀ {t:Nat} {d:D},qg (JT S ds) t = some d→qg e t = some d:=by
 induction S generalizing ds with
 | nil =>
  intro t d h;simp only [Kt,qs] at hv;subst hv;simp [JT,qg] at h
 | cons s S ih =>
  intro t d h;simp only [Kt] at hv;split at hv
  ·rename_i d0 ds0 h1 h2;injection hv with hv;subst hv;simp only [JT,qg] at h;split at h
   ·rename_i hst;injection h with h;subst h;rw [← hst];exact h1
   ·exact ih h2 h
  ·cases hv
theorem qh6 {n0:Nat} {p:List Nat} {e e':qn} {tmps:Array Value} (h:ZZ n0 p e H = some (e',H')) (hs:Sim X ok w ι H) (he:EnvRep ok w ι H e tmps) :
  ∃ ι',Sim X ok w ι' H'∧EnvRep ok w ι' H' e' tmps∧Evol n0 ok w ι H ok w ι' H':=⟨_,qbO h hs he⟩
theorem qhT {n0:Nat} (hn:n0≤H.length) (hs:Sim X ok w ι H) {r r':D} {v:Value} (hr:Rep ok w ι H r v) (h:Ys n0 H r = some (r',H')) :
  ∃ ι',Sim X ok w ι' H'∧Rep ok w ι' H' r' v∧Evol n0 ok w ι H ok w ι' H'∧(∀ i ds,n0≤i→qe H' i = some ds→ds.all idFree = true):=by
 unfold Ys at h;cases hq0:qaz n0 H r with
 | some q =>
  rw [hq0,qnP] at h;injection h with h;subst h;exact qhP hn hs hr hq0
 | none =>
  rw [hq0,qnQ] at h;unfold qhR at h;split at h
  ·rename_i t r1 H1 hq;split at h
   ·rename_i jH;simp only [qs,qK] at h;obtain ⟨rfl,rfl⟩:=h
    have he:EnvRep ok w ι H [(0,r)] #[v]:=fun t d ht=>by
     simp only [qg] at ht;split at ht
     ·rename_i h0;injection ht with ht;subst ht;subst h0;exact ⟨by simp,hr⟩
     ·cases ht
    obtain ⟨ι',s1,s2,s3⟩:=qh6 hq hs he
    have ht:t = 0:=by
     unfold ZZ at hq;split at hq
     ·rename_i e1 H2 hE hH;split at hq
      ·simp only [qs,qK] at hq;obtain ⟨rfl,rfl⟩:=hq;simp only [VN] at hE;split at hE
       ·rename_i d2 e2 g1 g2;simp only [qs,List.cons.injEq,qK] at hE;exact hE.1.1.symm
       ·cases hE
      ·cases hq
     ·cases hq
    subst ht;refine ⟨ι',s1,(s2 0 r1 (by simp [qg])).2,s3,fun i ds hi hd=>?_⟩
    have hm:some ds∈H1.drop n0:=by
     have qi:=qt hd;rw [List.mem_iff_getElem?];refine ⟨i - n0,?_⟩;rw [ke,show n0+(i - n0) = i by omega];unfold qe at hd;rw [qU qi] at hd ⊢;simpa using hd
    have:=List.all_eq_true.1 jH _ hm;simpa [qc4] using this
   ·cases h
  ·cases h
theorem qhQ {z:Bool} {n0:Nat} (hn:n0≤H.length) (hs:Sim X ok w ι H) {r r':D} {v:Value} (hr:Rep ok w ι H r v) (h:vB z n0 H r = some (r',H')) :
  ∃ ok' ι',Sim X ok' w ι' H'∧Rep ok' w ι' H' r' v∧Evol n0 ok w ι H ok' w ι' H'∧∀ i ds,n0≤i→qe H' i = some ds→ds.all idFree = true:=by
 cases z with
 | false =>
  simp only [vB] at h;obtain ⟨ι2,p1,p2,p3,p4⟩:=qhT hn hs hr h;exact ⟨ok,ι2,p1,p2,p3,p4⟩
 | true =>
  simp only [vB] at h;split at h
  ·rename_i r1 l hst;have h1:=qaM hs (okF:=V1 ok ι H l) (fun b hb=>.inl hb) _ _ _ _ _ hr hst (fun i hi ds b s hd hb=>.inr ⟨i,ds,s,hi,hd,hb⟩);obtain ⟨ι2,p1,p2,p3,p4⟩:=qhT (by rw [Qk];exact hn) (qc0 hs l) (h1.lift (ι:=ι) (H:=jq H l)) h;exact ⟨_,ι2,p1,p2,((qaC l).mono hn).trans p3,p4⟩
  ·cases h
theorem qnh {n0:Nat} {S ks:List Nat} {e e':qn} {tmps:Array Value} (h:qaR n0 S ks e H = some (e',H')) (hn:n0≤H.length) (hs:Sim X ok w ι H) (he:EnvRep ok w ι H e tmps) :
  ∃ ι',Sim X ok w ι' H'∧EnvRep ok w ι' H' e' tmps∧Evol n0 ok w ι H ok w ι' H':=by
 unfold qaR at h;split at h
 ·rename_i r hr;injection h with h;subst h;exact qng hr hn hs he
 ·unfold qeO at h;split at h
  ·rename_i ds hv;refine qh6 h hs fun t d ht=>?_;rw [qdu] at ht;cases hx:qg (JT S ds) t with
   | some x =>
    rw [hx] at ht;injection ht with ht;subst ht;exact he t _ (qoI hv hx)
   | none =>
    rw [hx] at ht;exact he t d (qds ht)
  ·cases h
end
end Go.Ev
