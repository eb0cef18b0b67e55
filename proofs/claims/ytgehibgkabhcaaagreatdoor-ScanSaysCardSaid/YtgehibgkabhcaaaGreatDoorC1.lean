import Derived.WalkKit
import Derived.Scope
import Derived.Laws.AppendOwn
import Derived.Laws.Append
import Derived.Lib.ConvBytes
import Derived.Laws.BytesArg
import Derived.ChangeKeysEq
import Derived.Laws.StructEq
namespace Go.Ev
theorem jl:type_of% @Array.getD_eq_getD_getElem?:=@Array.getD_eq_getD_getElem?
theorem qfX:type_of% @Array.getElem?_append_left:=@Array.getElem?_append_left
theorem Z2:type_of% @Array.getElem?_eq_getElem:=@Array.getElem?_eq_getElem
theorem qfW:type_of% @Array.getElem?_eq_none:=@Array.getElem?_eq_none
theorem qk3:type_of% @Array.getElem?_modify:=@Array.getElem?_modify
theorem qhL:type_of% @Array.getElem?_replicate:=@Array.getElem?_replicate
theorem qeI:type_of% @Array.getElem?_setIfInBounds_ne:=@Array.getElem?_setIfInBounds_ne
theorem qhK:type_of% @BitVec.ofInt_natCast:=@BitVec.ofInt_natCast
theorem qhJ:type_of% @BitVec.toNat_ofNat:=@BitVec.toNat_ofNat
theorem jk:type_of% @Bool.and_eq_true:=@Bool.and_eq_true
theorem qdZ:type_of% @Bool.false_and:=@Bool.false_and
theorem QE:type_of% @Bool.false_eq_true:=@Bool.false_eq_true
theorem qdY:type_of% @Bool.or_eq_true:=@Bool.or_eq_true
theorem qab:type_of% @Bool.true_and:=@Bool.true_and
theorem VY:type_of% @List.all_cons:=@List.all_cons
theorem qeH:type_of% @List.all_eq_true:=@List.all_eq_true
theorem Qj:type_of% @List.append_assoc:=@List.append_assoc
theorem KO:type_of% @List.append_nil:=@List.append_nil
theorem Qw:type_of% @List.cons_append:=@List.cons_append
theorem vX:type_of% @List.drop_append:=@List.drop_append
theorem jV:type_of% @List.drop_drop:=@List.drop_drop
theorem zU:type_of% @List.drop_eq_getElem_cons:=@List.drop_eq_getElem_cons
theorem Js:type_of% @List.drop_eq_nil_of_le:=@List.drop_eq_nil_of_le
theorem kE:type_of% @List.drop_left':=@List.drop_left'
theorem qdw:type_of% @List.eq_nil_of_length_eq_zero:=@List.eq_nil_of_length_eq_zero
theorem qeG:type_of% @List.flatten_cons:=@List.flatten_cons
theorem j8:type_of% @List.getD_eq_getElem?_getD:=@List.getD_eq_getElem?_getD
theorem kg:type_of% @List.getElem?_append_left:=@List.getElem?_append_left
theorem kU:type_of% @List.getElem?_append_right:=@List.getElem?_append_right
theorem qdv:type_of% @List.getElem?_cons_succ:=@List.getElem?_cons_succ
theorem Z1:type_of% @List.getElem?_cons_zero:=@List.getElem?_cons_zero
theorem Qv:type_of% @List.getElem?_drop:=@List.getElem?_drop
theorem zn:type_of% @List.getElem?_eq_getElem:=@List.getElem?_eq_getElem
theorem VX:type_of% @List.getElem?_map:=@List.getElem?_map
theorem KN:type_of% @List.getElem?_take:=@List.getElem?_take
theorem v6:type_of% @List.getElem_mem:=@List.getElem_mem
theorem zz:type_of% @List.length_append:=@List.length_append
theorem vn:type_of% @List.length_cons:=@List.length_cons
theorem vQ:type_of% @List.length_drop:=@List.length_drop
theorem kp:type_of% @List.length_nil:=@List.length_nil
theorem ky:type_of% @List.length_set:=@List.length_set
theorem jU:type_of% @List.length_take:=@List.length_take
theorem vW:type_of% @List.mem_append:=@List.mem_append
theorem qbZ:type_of% @List.mem_append_left:=@List.mem_append_left
theorem jT:type_of% @List.mem_cons:=@List.mem_cons
theorem Jr:type_of% @List.mem_cons_of_mem:=@List.mem_cons_of_mem
theorem VW:type_of% @List.mem_cons_self:=@List.mem_cons_self
theorem ZM:type_of% @List.mem_map:=@List.mem_map
theorem Vy:type_of% @List.mem_of_getElem?:=@List.mem_of_getElem?
theorem Jq:type_of% @List.mem_of_mem_drop:=@List.mem_of_mem_drop
theorem Vx:type_of% @List.mem_of_mem_take:=@List.mem_of_mem_take
theorem qfR:type_of% @List.mem_or_eq_of_mem_set:=@List.mem_or_eq_of_mem_set
theorem qhE:type_of% @List.mem_singleton:=@List.mem_singleton
theorem Qu:type_of% @List.nil_append:=@List.nil_append
theorem KM:type_of% @List.replicate_succ:=@List.replicate_succ
theorem qte:type_of% @List.set_eq_take_append_cons_drop:=@List.set_eq_take_append_cons_drop
theorem ZK:type_of% @List.take_append:=@List.take_append
theorem qhD:type_of% @List.take_append_drop:=@List.take_append_drop
theorem qP:type_of% @List.take_of_length_le:=@List.take_of_length_le
theorem qhC:type_of% @List.take_succ_cons:=@List.take_succ_cons
theorem VV:type_of% @List.take_succ_eq_append_getElem:=@List.take_succ_eq_append_getElem
theorem qhB:type_of% @Nat.add_assoc:=@Nat.add_assoc
theorem Jp:type_of% @Nat.add_mul:=@Nat.add_mul
theorem qE:type_of% @Nat.le_refl:=@Nat.le_refl
theorem zT:type_of% @Nat.le_trans:=@Nat.le_trans
theorem jZ:type_of% @Nat.lt_of_lt_of_le:=@Nat.lt_of_lt_of_le
theorem qaa:type_of% @Nat.lt_or_ge:=@Nat.lt_or_ge
theorem qeF:type_of% @Nat.mod_eq_of_lt:=@Nat.mod_eq_of_lt
theorem Yh:type_of% @Nat.mod_lt:=@Nat.mod_lt
theorem qaX:type_of% @Nat.mul_le_mul_right:=@Nat.mul_le_mul_right
theorem ZJ:type_of% @Nat.ne_of_lt:=@Nat.ne_of_lt
theorem YZ:type_of% @Nat.pow_le_pow_right:=@Nat.pow_le_pow_right
theorem qdu:type_of% @Nat.pow_succ:=@Nat.pow_succ
theorem Jo:type_of% @Nat.zero_add:=@Nat.zero_add
theorem vV:type_of% @Nat.zero_le:=@Nat.zero_le
theorem qaW:type_of% @Option.bind_some:=@Option.bind_some
theorem Va:type_of% @Option.getD_some:=@Option.getD_some
theorem VU:type_of% @Option.map_eq_some_iff:=@Option.map_eq_some_iff
theorem jj:type_of% @Option.map_some:=@Option.map_some
theorem qw:type_of% @Option.some.injEq:=@Option.some.injEq
theorem zm:type_of% @Prod.mk.injEq:=@Prod.mk.injEq
theorem qeE:type_of% @UInt8.toNat_ofNat_of_lt':=@UInt8.toNat_ofNat_of_lt'
inductive D where
 | bool (b:Bool)
 | int (k:IntKind) (n:Int)
 | str (s:List UInt8)
 | nilp
 | nilf
 | nili
 | agg (cs:List D)
 | tup (cs:List D)
 | vptr (cs:List D)
 | optr (id st off:Nat)
 | vsl (nil:Bool) (cs:List D) (len:Nat)
 | osl (id st off len k:Nat)
 | fn (f:Nat) (caps:List D)
 | iface (t:Nat) (d:D)
 | raw (v:Value)
 deriving Inhabited
abbrev qe:=List (Option (List D))
abbrev qr:=List (Nat × D)
def qf (H:qe) (i:Nat):Option (List D):=(H[i]?).getD none
def qn (H:qe) (i:Nat) (ds:List D):qe:=H.set i (some ds)
def qi:qr→Nat→Option D
 | [],_=>none
 | (s,d) :: e,t=>if s = t then some d else qi e t
def jK (e:qr):Option Tmp→D→qr
 | none,_=>e
 | some t,d=>(t,d) :: e
def qdB:Value→Option D
 | .bool b=>some (.bool b)
 | .int k n=>some (.int k n)
 | .string s=>some (.str s.data.toList)
 | .pointer none=>some .nilp
 | .slice none 0 0=>some (.vsl true [] 0)
 | .nilFunc=>some .nilf
 | .nilIface=>some .nili
 | _=>none
def qdA:List Value→Option (List D)
 | []=>some []
 | v :: l=>match qdB v,qdA l with
  | some d,some ds=>some (d :: ds)
  | _,_=>none
def qfq:Value→Option D
 | .agg cs=>(qdA cs.toList).map .agg
 | v=>qdB v
structure Cx where
 P:Program
 /-- what the package-level variables hold that are read -/
 glob:Nat→Option (List D)
 /-- function,region: the slots that are kept at its head,and how many blocks of the call's own -/
 keep:Nat→Nat→Option (List Nat × Nat)
 /-- functions that work on their caller's own memory -/
 byRef:Nat→Bool
 /-- functions that make nothing and are handed nothing of the run's own -/
 pureF:Nat→Bool
 /-- functions without a body -/
 ext:Nat→List D→Option D
 /-- functions that are not taken -/
 bad:Nat→Bool
 /-- function,region: the slots that are told by value for qf4 at its head -/
 frz:Nat→Nat→List Nat
 /-- function,region: slots whose blocks alone are kept at its head -/
 ret:Nat→Nat→List Nat
 /-- functions whose result is told by value for qf4 -/
 fzr:Nat→Bool
 /-- functions that are met by a contract -/
 con:Nat→List D→qe→Option (D × qe)
 /-- functions to which what is handed is told by value for qf4 -/
 perm:Nat→Bool
 /-- in a region that draws its order,a function value must be one that makes nothing -/
 dynV:Bool
 /-- function,region: texts of bytes and of slices are told by value there,though it draws no order -/
 cv:Nat→Nat→Bool:=fun _ _=>false
 frb:Nat→Nat→List Nat:=fun _ _=>[]
 /-- function,region that draws its order: places of what writes and what reads that no order binds,looked at as they run;slots of texts that are the run's own (the others are told by value) -/
 lp:Nat→Nat→Option (List (Nat × Nat) × List Nat):=fun _ _=>none
 /-- functions (of byRef) that are run on their first argument's block alone -/
 loc:Nat→Bool:=fun _=>false
 /-- functions (of loc) that are run on their first argument's block and those that it names -/
 lom:Nat→Bool:=fun _=>false
 /-- function,region that draws its order: a variable's place that no order binds to what writes ahead of it -/
 al:Nat→Nat→Option Nat:=fun _ _=>none
 /-- functions (of byRef) that are run on all blocks that can be come to from what they are handed -/
 gr:Nat→Bool:=fun _=>false
def qW (X:Cx) (e:qr):Operand→Option D
 | .tmp t=>qi e t
 | .const v=>qfq v
 | .func f=>some (.fn f [])
 | .global g=>(X.glob g).map .vptr
def idFree:D→Bool
 | .agg cs | .tup cs | .fn _ cs=>idFreeL cs
 | .iface _ d=>idFree d
 | .optr .. | .osl ..=>false
 | _=>true
where idFreeL:List D→Bool
 | []=>true
 | d :: l=>idFree d && idFreeL l
def vFree:D→Bool
 | .agg cs | .tup cs | .fn _ cs=>vFreeL cs
 | .iface _ d=>vFree d
 | .vptr ..=>false
 | .vsl n _ _=>n
 | _=>true
where vFreeL:List D→Bool
 | []=>true
 | d :: l=>vFree d && vFreeL l
def closed (n:Nat):D→Bool
 | .agg cs | .tup cs | .fn _ cs=>closedL n cs
 | .iface _ d=>closed n d
 | .optr i _ _ | .osl i _ _ _ _=>decide (i < n)
 | _=>true
where closedL (n:Nat):List D→Bool
 | []=>true
 | d :: l=>closed n d && closedL n l
def qv (P:Program) (t:TypeId):Nat:=((P.info? t).map (·.size)).getD 0
def bytesOf (P:Program) (t:TypeId):Nat:=((P.info? t).map (·.bytes)).getD 0
def KQ (P:Program) (t:TypeId):Option D:=((P.info? t).bind (·.zero)).bind qfq
def VT (P:Program) (t:TypeId):Option Bool :=
 match P.underlying t with
 | some (.struct _) | some (.array _ _)=>some true
 | some _=>some false
 | none=>none
def cellsOf:D→Option (List D)
 | .agg cs=>some cs
 | .tup _ | .raw _=>none
 | d=>some [d]
def Yz (H:qe):D→Option (List D)
 | .vptr cs=>some cs
 | .optr i st off=>match qf H i with
  | some ds=>if ds.length = st then some (ds.drop off) else none
  | none=>none
 | _=>none
def ldD (P:Program) (H:qe) (t:TypeId) (p:D):Option D :=
 match VT P t,Yz H p with
 | some true,some cs=>if qv P t≤cs.length then some (.agg (cs.take (qv P t))) else none
 | some false,some (d :: _)=>some d
 | _,_=>none
def zM (ds:List D) (off:Nat) (xs:List D):List D:=ds.take off ++ xs ++ ds.drop (off+xs.length)
def stD (P:Program) (H:qe) (t:TypeId) (p x:D):Option qe :=
 match p,cellsOf x with
 | .optr i st off,some xs=>match qf H i with
  | some ds=>if ds.length = st∧xs.length = qv P t∧0 < qv P t∧off+xs.length≤ds.length∧xs.all (closed H.length) then some (qn H i (zM ds off xs)) else none
  | none=>none
 | _,_=>none
def Yn (H:qe) (k:Nat):D→Option (List D × Nat)
 | .vsl _ cs len=>if cs.length = len * k then some (cs,len) else none
 | .osl i st off len k'=>match qf H i with
  | some ds=>if ds.length = st∧k' = k∧off+len * k≤ds.length then some ((ds.drop off).take (len * k),len) else none
  | none=>none
 | _=>none
def qf7 (P:Program) (s:TypeId) (f:Nat):Option Field :=
 match P.underlying s with
 | some (.struct fs)=>fs[f]?
 | _=>none
def qfl (k:Nat):D→Option D
 | .vptr cs=>some (.vptr (cs.drop k))
 | .optr i st off=>some (.optr i st (off+k))
 | _=>none
def qhh (P:Program) (s:TypeId) (p:D) (f:Nat):Option D :=
 match qf7 P s f with
 | some fd=>if qv P fd.type = 0 then none else qfl fd.offset p
 | none=>none
def qal (P:Program) (t:TypeId) (cs:List D) (off:Nat):Option D :=
 match VT P t with
 | some true=>if off+qv P t≤cs.length then some (.agg ((cs.drop off).take (qv P t))) else none
 | some false=>cs[off]?
 | none=>none
def qhg (P:Program) (s:TypeId) (x:D) (f:Nat):Option D :=
 match qf7 P s f,x with
 | some fd,.agg cs=>qal P fd.type cs fd.offset
 | _,_=>none
def qgT (P:Program) (t:TypeId) (x i:D):Option D :=
 match P.underlying t,x,i with
 | some (.array n e),p,.int _ i=>if 0≤i∧i < n∧0 < qv P e then qfl (i.toNat * qv P e) p else none
 | some (.slice e),.vsl false cs len,.int _ i=>if 0≤i∧i < len∧0 < qv P e then some (.vptr (cs.drop (i.toNat * qv P e))) else none
 | some (.slice e),.osl id st off len _,.int _ i=>if 0≤i∧i < len∧0 < qv P e then some (.optr id st (off+i.toNat * qv P e)) else none
 | _,_,_=>none
def qgS (P:Program) (t:TypeId) (x i:D):Option D :=
 match P.underlying t,x,i with
 | some (.array n e),.agg cs,.int _ i=>if 0≤i∧i < n then qal P e cs (i.toNat * qv P e) else none
 | some .string,.str s,.int _ i=>if 0≤i then (s[i.toNat]?).map fun b=>.int .u8 b.toNat else none
 | _,_,_=>none
def qdm (n:Nat):Option D→Option D→Option (Nat × Nat)
 | none,none=>some (0,n)
 | some (.int _ l),none=>if 0≤l∧l≤n then some (l.toNat,n) else none
 | none,some (.int _ h)=>if 0≤h∧h≤n then some (0,h.toNat) else none
 | some (.int _ l),some (.int _ h)=>if 0≤h∧h≤n∧0≤l∧l≤h then some (l.toNat,h.toNat) else none
 | _,_=>none
def qag (P:Program) (t:TypeId) (x:D) (lo hi:Option D):Option D :=
 match P.underlying t,x with
 | some .string,.str s=>match qdm s.length lo hi with
  | some (l,h)=>some (.str ((s.drop l).take (h - l)))
  | none=>none
 | some (.slice e),.vsl nil cs len=>match qdm len lo hi with
  | some (l,h)=>if cs.length = len * qv P e∧0 < qv P e then some (.vsl nil ((cs.drop (l * qv P e)).take ((h - l) * qv P e)) (h - l)) else none
  | none=>none
 | some (.slice e),.osl id st off len k=>match qdm len lo hi with
  | some (l,h)=>if k = qv P e∧0 < k∧(l = 0∨l < len) then some (.osl id st (off+l * k) (h - l) k) else none
  | none=>none
 | some (.array n e),.vptr cs=>match qdm n lo hi with
  | some (l,h)=>if h * qv P e≤cs.length∧0 < qv P e∧(l = 0∨l < n) then some (.vsl false ((cs.drop (l * qv P e)).take ((h - l) * qv P e)) (h - l)) else none
  | none=>none
 | some (.array n e),.optr id st off=>match qdm n lo hi with
  | some (l,h)=>if (l = 0∨l < n)∧off+n * qv P e≤st∧0 < qv P e then some (.osl id st (off+l * qv P e) (h - l) (qv P e)) else none
  | none=>none
 | _,_=>none
def Yf (k:IntKind) (a b:Int):Int:=k.wrap (BitVec.ofInt k.bits a &&& BitVec.ofInt k.bits b).toNat
def JK (k:IntKind) (a b:Int):Int:=k.wrap (BitVec.ofInt k.bits a ||| BitVec.ofInt k.bits b).toNat
def qH (k:IntKind) (a b:Int):Int:=k.wrap (BitVec.ofInt k.bits a ^^^ BitVec.ofInt k.bits b).toNat
def qbS (k:IntKind) (a b:Int):Int:=k.wrap (BitVec.ofInt k.bits a &&& ~~~ BitVec.ofInt k.bits b).toNat
def jQ (op:BinOp) (k:IntKind) (a b:Int):Option D :=
 match op with
 | .add=>some (.int k (k.wrap (a+b)))
 | .sub=>some (.int k (k.wrap (a - b)))
 | .mul=>some (.int k (k.wrap (a * b)))
 | .quo=>if b = 0 then none else some (.int k (k.wrap (a.tdiv b)))
 | .rem=>if b = 0 then none else some (.int k (a.tmod b))
 | .and=>some (.int k (Yf k a b))
 | .or=>some (.int k (JK k a b))
 | .xor=>some (.int k (qH k a b))
 | .andNot=>some (.int k (qbS k a b))
 | .eql=>some (.bool (a == b))
 | .neq=>some (.bool (a != b))
 | .lss=>some (.bool (decide (a < b)))
 | .leq=>some (.bool (decide (a≤b)))
 | .gtr=>some (.bool (decide (a > b)))
 | .geq=>some (.bool (decide (a ≥ b)))
 | _=>none
def qeV (op:BinOp) (k:IntKind) (a b:Int):Option D :=
 if b < 0 then none else
 match op with
 | .shl=>some (.int k (k.wrap (a * 2 ^ (min b.toNat k.bits))))
 | .shr=>some (.int k (a.fdiv (2 ^ (min b.toNat k.bits))))
 | _=>none
def strD (op:BinOp) (x y:List UInt8):Option D :=
 match op with
 | .add=>if x.length+y.length≤4611686018427387904 then some (.str (x ++ y)) else none
 | .eql=>some (.bool (x == y))
 | .neq=>some (.bool !(x == y))
 | .lss=>some (.bool (Op.bytesLess x y))
 | .leq=>some (.bool (Op.bytesLess x y || x == y))
 | .gtr=>some (.bool !(Op.bytesLess x y || x == y))
 | .geq=>some (.bool !(Op.bytesLess x y))
 | _=>none
inductive CK where
 | b | i | s
 deriving DecidableEq
def qdi:CK→D→D→Option Bool
 | .i,.int k a,.int k' b=>if k = k' then some (a == b) else none
 | .b,.bool a,.bool b=>some (a == b)
 | .s,.str a,.str b=>some (a == b)
 | _,_,_=>none
def ko:List CK→List D→List D→Option Bool
 | [],[],[]=>some true
 | k :: ks,x :: xs,y :: ys=>match qdi k x y,ko ks xs ys with
  | some a,some b=>some (a && b)
  | _,_=>none
 | _,_,_=>none
def qcp (P:Program) (g:TypeId→Option (List CK)):List Field→List CK→Option (List CK)
 | [],acc=>some acc
 | f :: fs,acc=>match g f.type with
  | some ks => if f.offset = acc.length ∧ f.name ≠ "_" ∧ qv P f.type = ks.length ∧ 0 < ks.length then qcp P g fs (acc ++ ks) else none
  | none=>none
def ZT (P:Program):Nat→TypeId→Option (List CK)
 | 0,_=>none
 | d+1,t=>match P.underlying t with
  | some .bool=>some [.b]
  | some (.int _)=>some [.i]
  | some .string=>some [.s]
  | some (.array n e)=>match ZT P d e with
   | some ks=>if qv P e = ks.length∧0 < ks.length then some (List.replicate n ks).flatten else none
   | none=>none
  | some (.struct fs)=>if P.stoodInHeld t then none else qcp P (ZT P d) fs.toList []
  | _=>none
def qzo:D→Option Bool
 | .vsl n _ _=>some n
 | .osl ..=>some false
 | _=>none
def Ks:Operand→Bool
 | .const _=>true
 | _=>false
def qkh (P:Program) (t:TypeId):Bool:=((P.info? t).map (·.comparable)).getD false
def eqD (P:Program) (t:TypeId) (cst:Bool) (x y:D):Option Bool :=
 match x,y with
 | .bool a,.bool b=>match P.underlying t with
  | some .bool=>some (a == b)
  | _=>none
 | .agg xs,.agg ys=>match ZT P 50 t with
  | some ks=>if VT P t = some true∧P.eqGuardType P.depth t = false then ko ks xs ys else none
  | none=>none
 | .vsl true _ _,.vsl n _ _=>match P.underlying t with
  | some (.slice _)=>some n
  | _=>none
 | .vsl n _ _,.vsl true _ _=>match P.underlying t with
  | some (.slice _)=>some n
  | _=>none
 | .osl ..,.vsl true _ _=>match P.underlying t with
  | some (.slice _)=>some false
  | _=>none
 | .nili,.nili=>match P.underlying t with
  | some (.interface _)=>if cst then some true else none
  | _=>none
 | .iface s (.int k a),.iface s' (.int k' b)=>match P.underlying t,P.underlying s with
  | some (.interface _),some (.int _)=>if s = s'∧k = k'∧qkh P s = true then some (a == b) else none
  | _,_=>none
 | .iface _ _,.nili=>match P.underlying t with
  | some (.interface _)=>some false
  | _=>none
 | .nilp,.nilp=>match P.underlying t with
  | some (.pointer _)=>some true
  | _=>none
 | .vptr _,.nilp=>match P.underlying t with
  | some (.pointer _)=>some false
  | _=>none
 | .optr ..,.nilp=>match P.underlying t with
  | some (.pointer _)=>some false
  | _=>none
 | _,_=>none
def qh3 (P:Program) (op:BinOp) (t:TypeId) (cst:Bool) (x y:D):Option D :=
 match op,x,y with
 | .shl,.int k a,.int _ b=>qeV .shl k a b
 | .shr,.int k a,.int _ b=>qeV .shr k a b
 | op,.int k a,.int k' b=>if k = k' then jQ op k a b else none
 | op,.str a,.str b=>strD op a b
 | .eql,x,y=>(eqD P t cst x y).map .bool
 | .neq,x,y=>(eqD P t cst x y).map fun b=>.bool !b
 | _,_,_=>none
def unD (op:UnOp) (x:D):Option D :=
 match op,x with
 | .neg,.int k n=>some (.int k (k.wrap (0 - n)))
 | .xor,.int k n=>some (.int k (k.wrap (BitVec.ofInt k.bits (if k.signed then -1 else k.max) ^^^ BitVec.ofInt k.bits n).toNat))
 | .not,.bool b=>some (.bool !b)
 | _,_=>none
def qs (H:qe) (ds:List D):qe:=H ++ [some ds]
def J9 (H:qe) (i:Nat):qe:=H.set i none
def Vu:List D→Option (List UInt8)
 | []=>some []
 | .int .u8 n :: l=>(Vu l).map fun r=>UInt8.ofNat n.toNat :: r
 | _=>none
def qd (s:List UInt8):List D:=s.map fun b=>.int .u8 (b.toNat:Int)
def qD:Nat:=140737488355328
def qde (P:Program) (H:qe) (src dst:TypeId) (x:D):Option (D × qe) :=
 match P.underlying src,P.underlying dst,x with
 | some _,some (.int k),.int _ n=>some (.int k (k.wrap n),H)
 | some .string,some .string,.str s=>some (.str s,H)
 | some (.int _),some .string,.int _ n=>some (.str (Utf8.encode n).data.toList,H)
 | some _,some (.slice e),.str s=>match P.underlying e with
  | some (.int .u8)=>some (.osl H.length s.length 0 s.length 1,qs H (qd s))
  | _=>none
 | some (.slice e),some .string,x=>match P.underlying e,Yn H 1 x with
  | some (.int .u8),some (cs,_)=>(Vu cs).map fun s=>(.str s,H)
  | _,_=>none
 | some (.slice _),some (.slice e),.osl i st off len k=>match P.underlying e,qf H i with
  | some (.int .u8),some ds=>if src = dst∧ds.length = st then some (.osl i st off len k,H) else none
  | _,_=>none
 | _,_,_=>none
def XX (place:Nat→Option (Nat × Nat)):List D→List (Nat × D)→Option (List D)
 | cells,[]=>some cells
 | cells,(i,d) :: rest=>match place i,cellsOf d with
  | some (off,size),some xs=>if xs.length = size∧off+xs.length≤cells.length then XX place (zM cells off xs) rest else none
  | _,_=>none
def Ys (X:Cx) (e:qr):List (Nat × Operand)→Option (List (Nat × D))
 | []=>some []
 | (i,x) :: l=>match qW X e x,Ys X e l with
  | some d,some ds=>some ((i,d) :: ds)
  | _,_=>none
def vL (X:Cx) (e:qr):List Operand→Option (List D)
 | []=>some []
 | x :: l=>match qW X e x,vL X e l with
  | some d,some ds=>some (d :: ds)
  | _,_=>none
def qed (P:Program) (fs:Array Field) (i:Nat):Option (Nat × Nat):=(fs[i]?).map fun f=>(f.offset,qv P f.type)
def qh2 (P:Program) (t:TypeId) (parts:List (Nat × D)):Option D :=
 match KQ P t,P.underlying t with
 | some (.agg z),some (.struct fs)=>if fs.all (fun f=>decide (0 < qv P f.type)) then (XX (qed P fs) z parts).map .agg else none
 | some (.agg z),some (.array _ e)=>if 0 < qv P e then (XX (fun i=>some (i * qv P e,qv P e)) z parts).map .agg else none
 | _,_=>none
def V0 (P:Program) (e:TypeId) (n:Nat):Option (List D) :=
 match (KQ P e).bind cellsOf with
 | some z=>if z.length = qv P e∧0 < qv P e then some ((List.replicate n z).flatten) else none
 | none=>none
def qbQ (P:Program) (H:qe) (t:TypeId) (len:Nat) (parts:List (Nat × D)):Option (D × qe) :=
 match P.underlying t with
 | some (.slice e)=>match V0 P e len with
  | some z=>if len * qv P e≤16777216 then (XX (fun i=>some (i * qv P e,qv P e)) z parts).bind fun cs =>
    if (H.isEmpty = false∨cs.all idFree)∧cs.length = len * qv P e then some (.osl H.length cs.length 0 len (qv P e),qs H cs) else none
   else none
  | none=>none
 | _=>none
def qfu (P:Program) (H:qe) (t:TypeId) (l c:D):Option (D × qe) :=
 match P.underlying t,l,c with
 | some (.slice e),.int .i64 l,.int .i64 c=>if 0≤l∧l≤c∧bytesOf P e * c≤qD∧c≤qD then
   (V0 P e l.toNat).bind fun z=>if z.length = l.toNat * qv P e∧z.all idFree then some (.osl H.length z.length 0 l.toNat (qv P e),qs H z) else none
  else none
 | _,_,_=>none
def qeS (P:Program) (H:qe) (k:Nat) (xt:TypeId) (x:D):Option (List D × Nat) :=
 match P.underlying xt,x with
 | some .string,.str b=>if k = 1 then some (qd b,b.length) else none
 | some (.slice _),x=>Yn H k x
 | _,_=>none
def qch (P:Program) (H:qe) (e xt:TypeId) (x:D):Option (List D × Nat) :=
 match P.underlying xt,x with
 | some (.int _),.int .i64 n=>if 0≤n∧n≤qD∧n.toNat * bytesOf P e≤qD then (V0 P e n.toNat).map (·,n.toNat) else none
 | _,x=>qeS P H (qv P e) xt x
def qT (P:Program) (H:qe) (st xt:TypeId) (s x:D):Option (D × qe) :=
 match P.underlying st with
 | some (.slice e)=>match qch P H e xt x,V0 P e 0,s with
  | some (xs,m),some _,.vsl true [] 0 =>
   if m = 0 then some (.vsl true [] 0,H)
   else if m * bytesOf P e≤qD∧m≤qD then some (.osl H.length xs.length 0 m (qv P e),qs H xs) else none
  | some (xs,m),some _,.osl i sm 0 len k=>match qf H i with
   | some ds=>if ds.length = sm∧k = qv P e∧len * k = sm∧(len+m) * bytesOf P e≤qD∧len+m≤qD
     then some (.osl i (sm+xs.length) 0 (len+m) k,qn H i (ds ++ xs))
     else if ds.length = sm∧k = qv P e∧len * k < sm∧(len+m) * bytesOf P e≤qD∧len+m≤qD
     then some (.osl H.length (len * k+xs.length) 0 (len+m) k,qs (J9 H i) (ds.take (len * k) ++ xs)) else none
   | none=>none
  | _,_,_=>none
 | _=>none
def qbP (P:Program) (H:qe) (dt xt:TypeId) (d x:D):Option (D × qe) :=
 match P.underlying dt with
 | some (.slice e)=>match qeS P H (qv P e) xt x,d with
  | some (xs,m),.osl i sm off len k=>match qf H i with
   | some ds=>if ds.length = sm∧k = qv P e∧0 < k∧off+len * k≤sm
     then some (.int .i64 (min m len:Nat),qn H i (zM ds off (xs.take (min m len * k)))) else none
   | none=>none
  | _,_=>none
 | _=>none
def qhw (P:Program) (H:qe) (t:TypeId) (x:D):Option (D × qe) :=
 match P.underlying t,x with
 | some (.slice e),.osl i sm off len k=>match V0 P e len,qf H i with
  | some z,some ds=>if ds.length = sm∧k = qv P e∧off+len * k≤sm∧0 < len
    then some (.tup [],qn H i (zM ds off z)) else none
  | _,_=>none
 | _,_=>none
def zf (P:Program) (t:TypeId) (x:D):Option D :=
 match P.underlying t,x with
 | some .string,.str s=>some (.int .i64 s.length)
 | some (.array n _),_=>some (.int .i64 n)
 | some (.slice _),.vsl _ _ len=>some (.int .i64 len)
 | some (.slice _),.osl _ _ _ len _=>some (.int .i64 len)
 | _,_=>none
def qft (mx:Bool):List D→Option D
 | [.int k a,.int k' b]=>if k = k' then some (.int k (if mx then (if a < b then b else a) else (if b < a then b else a))) else none
 | _=>none
def freeze (H:qe):D→Option D
 | .osl i st off len k=>match qf H i with
  | some ds=>if ds.length = st∧off+len * k≤st∧ds.all idFree then some (.vsl false ((ds.drop off).take (len * k)) len) else none
  | none=>none
 | .optr i st off=>match qf H i with
  | some ds=>if ds.length = st∧ds.all idFree then some (.vptr (ds.drop off)) else none
  | none=>none
 | .fn f caps=>(freezeL H caps).map (.fn f)
 | .agg cs=>(freezeL H cs).map .agg
 | d=>if idFree d then some d else none
where freezeL (H:qe):List D→Option (List D)
 | []=>some []
 | d :: l=>match freeze H d,freezeL H l with
  | some d,some l=>some (d :: l)
  | _,_=>none
def qbL (H:qe) (args:List D):Option (List D):=freeze.freezeL H args
def shift (n:Nat):D→D
 | .agg cs=>.agg (shiftL n cs)
 | .tup cs=>.tup (shiftL n cs)
 | .fn f cs=>.fn f (shiftL n cs)
 | .iface t d=>.iface t (shift n d)
 | .optr i st off=>.optr (n+i) st off
 | .osl i st off len k=>.osl (n+i) st off len k
 | d=>d
where shiftL (n:Nat):List D→List D
 | []=>[]
 | d :: l=>shift n d :: shiftL n l
def pack1 (n0:Nat) (H:qe) (seen:List Nat) (acc:qe):D→Option (D × List Nat × qe)
 | .osl i st off len k =>
  if i < n0 then some (.osl i st off len k,seen,acc)
  else match qf H i with
   | some ds=>if ds.all idFree∧i ∉ seen then some (.osl (n0+acc.length) st off len k,seen ++ [i],acc ++ [some ds]) else none
   | none=>none
 | .optr i st off =>
  if i < n0 then some (.optr i st off,seen,acc)
  else match qf H i with
   | some ds=>if ds.all idFree∧i ∉ seen then some (.optr (n0+acc.length) st off,seen ++ [i],acc ++ [some ds]) else none
   | none=>none
 | .agg cs=>(packs n0 H seen acc cs).map fun (cs,s,a)=>(.agg cs,s,a)
 | .tup cs=>(packs n0 H seen acc cs).map fun (cs,s,a)=>(.tup cs,s,a)
 | d=>if idFree d then some (d,seen,acc) else none
where packs (n0:Nat) (H:qe) (seen:List Nat) (acc:qe):List D→Option (List D × List Nat × qe)
 | []=>some ([],seen,acc)
 | d :: l=>match pack1 n0 H seen acc d with
  | some (d,seen,acc)=>match packs n0 H seen acc l with
   | some (l,seen,acc)=>some (d :: l,seen,acc)
   | none=>none
  | none=>none
def qdV (n:Nat):Option (List D)→Bool
 | some ds=>ds.all (closed n)
 | none=>true
def qd7 (n0:Nat) (H:qe) (r:D):Option (D × qe) :=
 match pack1 n0 H [] [] r with
 | some (r,_,acc)=>if (H.take n0).all (qdV n0) then some (r,H.take n0 ++ acc) else none
 | none=>none
def kX:List Nat→qr→qr
 | [],_=>[]
 | k :: ks,e=>match qi e k with
  | some d=>(k,d) :: kX ks e
  | none=>kX ks e
def qbO (n:Nat):qr→Bool
 | []=>true
 | (_,d) :: e=>closed n d && qbO n e
def vY (g:D→Option (D × List Nat)):List D→Option (List D × List Nat)
 | []=>some ([],[])
 | d :: l=>match g d,vY g l with
  | some (d,a),some (l,b)=>some (d :: l,a ++ b)
  | _,_=>none
def jf (H:qe):Nat→D→Option (D × List Nat)
 | 0,_=>none
 | n+1,d=>if idFree d then some (d,[]) else match d with
  | .osl i st off len k=>match qf H i with
   | some ds=>if ds.length = st∧off+len * k≤st then
     if idFree.idFreeL ds then some (.vsl false ((ds.drop off).take (len * k)) len,[i])
     else match vY (jf H n) ds with
      | some (ds',l)=>some (.vsl false ((ds'.drop off).take (len * k)) len,i :: l)
      | none=>none
    else none
   | none=>none
  | .optr i st off=>match qf H i with
   | some ds=>if ds.length = st then
     if idFree.idFreeL ds then some (.vptr (ds.drop off),[i])
     else match vY (jf H n) ds with
      | some (ds',l)=>some (.vptr (ds'.drop off),i :: l)
      | none=>none
    else none
   | none=>none
  | .agg cs=>(vY (jf H n) cs).map fun (cs,l)=>(.agg cs,l)
  | .tup cs=>(vY (jf H n) cs).map fun (cs,l)=>(.tup cs,l)
  | .fn f cs=>(vY (jf H n) cs).map fun (cs,l)=>(.fn f cs,l)
  | .iface t d=>(jf H n d).map fun (d,l)=>(.iface t d,l)
  | d=>some (d,[])
def jO:qe→List Nat→qe
 | H,[]=>H
 | H,i :: l=>jO (H.set i none) l
def qd1 (H:qe) (e:qr):List Nat→Option (qr × List Nat)
 | []=>some ([],[])
 | s :: ss=>match qi e s with
  | none=>qd1 H e ss
  | some d=>match jf H 9 d,qd1 H e ss with
   | some (d,a),some (e',b)=>some ((s,d) :: e',a ++ b)
   | _,_=>none
def qe0 (ss:List Nat) (e:qr) (H:qe):Option (qr × qe) :=
 match qd1 H e ss with
 | some (e',l)=>some (e' ++ e,jO H l)
 | none=>none
def qjR (X:Cx) (f n0 id:Nat) (e:qr) (H:qe):Option (qr × qe) :=
 match X.keep f id with
 | none=>some (e,H)
 | some (ks,0)=>some (kX ks e,H)
 | some (ks,k+1) =>
  if H.length≤n0+k then some (kX ks e,H)
  else if qbO (n0+k) (kX ks e) && (H.take (n0+k)).all (qdV (n0+k)) then some (kX ks e,H.take (n0+k)) else none
def qae (e:qr):List Nat→Option (List D)
 | []=>some []
 | s :: ss=>match qi e s,qae e ss with
  | some d,some ds=>some (d :: ds)
  | _,_=>none
def KP:List Nat→List D→qr
 | s :: ss,d :: ds=>(s,d) :: KP ss ds
 | _,_=>[]
def qgp (n0:Nat) (S ks:List Nat) (e:qr) (H:qe):Option (qr × qe) :=
 match qae e S with
 | none=>none
 | some ds=>match qd7 n0 H (.tup ds) with
  | some (.tup ds',H')=>if qbO n0 (kX ks e) then some (KP S ds' ++ kX ks e,H') else none
  | _=>none
def J0:List Nat→Nat→Nat→Option Nat
 | [],_,_=>none
 | a :: l,i,k=>if a = i then some k else J0 l i (k+1)
def renD (p:List Nat):D→Option D
 | .optr i st off=>(J0 p i 0).map fun j=>.optr j st off
 | .osl i st off len k=>(J0 p i 0).map fun j=>.osl j st off len k
 | .agg cs=>(renL p cs).map .agg
 | .tup cs=>(renL p cs).map .tup
 | .fn f cs=>(renL p cs).map (.fn f)
 | .iface t d=>(renD p d).map (.iface t)
 | d=>some d
where renL (p:List Nat):List D→Option (List D)
 | []=>some []
 | d :: l=>match renD p d,renL p l with
  | some d,some l=>some (d :: l)
  | _,_=>none
def qaj (p:List Nat) (d:D):Option D:=if idFree d then some d else renD p d
def X4 (p:List Nat) (ds:List D):Option (List D):=if idFree.idFreeL ds then some ds else renD.renL p ds
def qbj (p:List Nat):qr→Option qr
 | []=>some []
 | (s,d) :: e=>match qaj p d,qbj p e with
  | some d,some e=>some ((s,d) :: e)
  | _,_=>none
def X3 (p:List Nat) (H:qe):List Nat→Option qe
 | []=>some []
 | i :: l=>match qf H i with
  | none=>none
  | some ds=>match X4 p ds,X3 p H l with
   | some ds,some L=>some (some ds :: L)
   | _,_=>none
def XB:List D→List Nat
 | []=>[]
 | .optr i _ _ :: l=>i :: XB l
 | .osl i _ _ _ _ :: l=>i :: XB l
 | _ :: l=>XB l
def qfr (H:qe):List Nat→List Nat
 | []=>[]
 | i :: l=>(match qf H i with
  | some ds=>if idFree.idFreeL ds then [] else XB ds
  | none=>[]) ++ qfr H l
def Yg:List Nat→List Nat→List Nat
 | p,[]=>p
 | p,i :: l=>if i∈p then Yg p l else Yg (p ++ [i]) l
def V1:Nat→List Nat
 | 0=>[]
 | n+1=>V1 n ++ [n]
def Yo (n0:Nat) (p:List Nat) (e:qr) (H:qe):Option (qr × qe) :=
 match qbj p e,X3 p H p with
 | some e',some H'=>if p.Nodup∧p.take n0 = V1 n0 then some (e',H') else none
 | _,_=>none
def qi9 (n0:Nat) (S ks:List Nat) (e:qr) (H:qe):Option (qr × qe) :=
 match qae e S with
 | some ds=>Yo n0 (Yg (Yg (V1 n0) (XB ds)) (qfr H (Yg (V1 n0) (XB ds)))) (KP S ds ++ kX ks e) H
 | none=>none
def qqA:D→List Nat
 | .tup cs=>XB cs
 | d=>XB [d]
def qeA:Option (List D)→Bool
 | some ds=>ds.all idFree
 | none=>true
def qmz (n0:Nat) (H:qe) (r:D):Option (D × qe) :=
 match Yo n0 (Yg (Yg (V1 n0) (qqA r)) (qfr H (Yg (V1 n0) (qqA r)))) [(0,r)] H with
 | some ([(_,r')],H')=>if (H'.drop n0).all qeA then some (r',H') else none
 | _=>none
def orP {α:Type}:Option α→Option α→Option α
 | some q,_=>some q
 | none,x=>x
@[simp] theorem qwA {α:Type} (q:α) (x:Option α):orP (some q) x = some q:=rfl
@[simp] theorem qwB {α:Type} (x:Option α):orP none x = x:=rfl
def KX (n0:Nat) (H:qe) (r:D):Option (D × qe):=orP (qd7 n0 H r) (qmz n0 H r)
def qei (n0:Nat) (S ks:List Nat) (e:qr) (H:qe):Option (qr × qe) :=
 match qgp n0 S ks e H with
 | some r=>some r
 | none=>qi9 n0 S ks e H
def qyf (X:Cx) (f id:Nat):List Nat:=match X.keep f id with
 | some (ks,_)=>ks
 | none=>[]
def qhl (X:Cx) (f n0 id:Nat) (e:qr) (H:qe):Option (qr × qe) :=
 match X.ret f id with
 | []=>qjR X f n0 id e H
 | S=>qei n0 S (qyf X f id) e H
def qhk (X:Cx) (f n0 id:Nat) (e:qr) (H:qe):Option (qr × qe) :=
 match X.frz f id with
 | []=>qhl X f n0 id e H
 | ss=>match qe0 ss e H with
  | some (e,H)=>qhl X f n0 id e H
  | none=>none
def QZ (H:qe) (i:Nat):Option qe :=
 match qf H i with
 | some ds=>if ds.all idFree then some H else match vY (jf H 9) ds with
  | some (ds',l)=>if i∈l then none else some (qn (jO H l) i ds')
  | none=>none
 | none=>none
def qcg (e:qr):List Nat→qe→Option qe
 | [],H=>some H
 | s :: ss,H=>match qi e s with
  | some (.osl i _ _ _ _) | some (.optr i _ _)=>match QZ H i with
   | some H'=>qcg e ss H'
   | none=>none
  | _=>qcg e ss H
def enter (X:Cx) (f n0 id:Nat) (e:qr) (H:qe):Option (qr × qe) :=
 match X.frb f id with
 | []=>qhk X f n0 id e H
 | ss=>match qcg e ss H with
  | some H'=>qhk X f n0 id e H'
  | none=>none
def jE (z:Bool) (n0:Nat) (H:qe) (r:D):Option (D × qe) :=
 match z with
 | false=>KX n0 H r
 | true=>match jf H 9 r with
  | some (r,l)=>KX n0 (jO H l) r
  | none=>none
def qd6 (z:Bool) (H:qe) (r:D):Option (D × qe) :=
 match z with
 | false=>some (r,H)
 | true=>match jf H 9 r with
  | some (r,l)=>some (r,jO H l)
  | none=>none
def qbm (g z:Bool) (n0:Nat) (H:qe) (r:D):Option (D × qe) :=
 match g with
 | true=>qd6 z H r
 | false=>jE z n0 H r
abbrev zt:=Nat→List D→qe→Option (D × qe)
def qkw:Option (List D)→Bool
 | some ds=>ds.all vFree
 | none=>true
def noZ:D→Bool
 | .agg cs | .tup cs | .fn _ cs=>noZL cs
 | .iface _ d=>noZ d
 | .optr i _ _ | .osl i _ _ _ _=>decide (1≤i)
 | _=>true
where noZL:List D→Bool
 | []=>true
 | d :: l=>noZ d && noZL l
def VS (F:zt) (f:Nat) (args:List D) (H:qe):Option (D × qe) :=
 match args with
 | .optr i st off :: rest=>match qf H i with
  | some ds=>if rest.all idFree && ds.all idFree then match F f (.optr 0 st off :: rest) [some ds] with
    | some (r,some ds' :: L)=>if noZ r && ds'.all idFree && L.all qeA then some (shift (H.length - 1) r,qn H i ds' ++ L) else none
    | _=>none
   else none
  | none=>none
 | _=>none
def Z9 (p:List Nat) (n j:Nat):Nat:=match p[j]? with
 | some i=>i
 | none=>n+(j - p.length)
def mv (p:List Nat) (n:Nat):D→D
 | .optr i st off=>.optr (Z9 p n i) st off
 | .osl i st off len k=>.osl (Z9 p n i) st off len k
 | .agg cs=>.agg (mvL p n cs)
 | .tup cs=>.tup (mvL p n cs)
 | .fn f cs=>.fn f (mvL p n cs)
 | .iface t d=>.iface t (mv p n d)
 | d=>d
where mvL (p:List Nat) (n:Nat):List D→List D
 | []=>[]
 | d :: l=>mv p n d :: mvL p n l
def Jv:qe→List Nat→qe→qe
 | H,i :: p,b :: T=>Jv (H.set i b) p T
 | H,_,_=>H
def Yp (p:List Nat):List D→Option (List D)
 | []=>some []
 | d :: l=>match qaj p d,Yp p l with
  | some d,some l=>some (d :: l)
  | _,_=>none
def qe8 (_:zt) (_:Nat) (_:List D) (_:qe):Option (D × qe):=none
def qkk (H:qe):Nat→List Nat→List Nat
 | 0,p=>p
 | n+1,p=>qkk H n (Yg p (qfr H p))
def Kp (p:List Nat) (n:Nat) (b:Option (List D)):Option (List D):=b.map (mv.mvL p n)
def qdj (F:zt) (f:Nat) (args:List D) (H:qe) (p:List Nat):Option (D × qe) :=
 match Yp p args,X3 p H p with
 | some args',some H0=>if p.Nodup then match F f args' H0 with
   | some (r,T)=>some (mv p H.length r,Jv H p (T.map (Kp p H.length)) ++ (T.map (Kp p H.length)).drop p.length)
   | none=>none
  else none
 | _,_=>none
def qaU (F:zt) (f:Nat) (args:List D) (H:qe):Option (D × qe):=qdj F f args H (qkk H 6 (Yg [] (XB args)))
def qaT (X:Cx) (F:zt) (f:Nat) (args:List D) (H:qe):Option (D × qe) :=
 if X.lom f then qe8 F f args H else VS F f args H
def Xu (X:Cx) (F:zt) (f:Nat) (args:List D) (H:qe):Option (D × qe) :=
 if X.byRef f then (if X.loc f then (if X.gr f then qaU F f args H else qaT X F f args H) else F f args H)
 else if args.all idFree then match F f args [] with
  | none=>none
  | some (r,L)=>some (shift H.length r,H ++ L)
 else match qbL H args with
  | none=>none
  | some args'=>match F f args' [] with
   | none=>none
   | some (r,L)=>if vFree r && L.all qkw then some (shift H.length r,H ++ L) else none
def qaL (H:qe):D→Bool
 | .osl i _ _ _ _=>match qf H i with
  | some ds=>ds.all idFree
  | none=>false
 | d=>idFree d
def Zy (X:Cx) (F:zt) (f:Nat) (args:List D) (H:qe):Option (D × qe) :=
 if X.pureF f && !X.byRef f then
  if args.all idFree then match F f args [] with
   | some (r,[])=>if idFree r then some (r,H) else none
   | _=>none
  else if X.perm f && args.all (qaL H) then match qbL H args with
   | some args'=>match F f args' [] with
    | some (r,[])=>if idFree r && vFree r then some (r,H) else none
    | _=>none
   | none=>none
  else none
 else Xu X F f args H
def qin (H:qe):List D→Option qe
 | .optr i _ _ :: _=>QZ H i
 | _=>none
def Xv (X:Cx) (F:zt) (f:Nat) (args:List D) (H:qe):Option (D × qe) :=
 match X.perm f && X.byRef f with
 | false=>Zy X F f args H
 | true=>match qin H args with
  | some H'=>Zy X F f args H'
  | none=>none
def Vt (X:Cx) (F:zt) (f:Nat) (args:List D) (H:qe):Option (D × qe) :=
 match X.perm f && !X.pureF f && !X.byRef f with
 | false=>Xv X F f args H
 | true=>match vY (jf H 9) args with
  | some (args',l)=>Zy X F f args' (jO H l)
  | none=>none
def qdl (X:Cx) (b:Builtin) (ts:List TypeId) (args:List D) (H:qe):Option (D × qe) :=
 match b,ts,args with
 | .len,t :: _,x :: _=>(zf X.P t x).map (·,H)
 | .append,t :: u :: _,s :: x :: _=>qT X.P H t u s x
 | .copy,t :: u :: _,d :: x :: _=>qbP X.P H t u d x
 | .min,_,args=>(qft false args).map (·,H)
 | .max,_,args=>(qft true args).map (·,H)
 | .clear,t :: _,x :: _=>qhw X.P H t x
 | _,_,_=>none
def zw (X:Cx) (F:zt) (o:Op) (e:qr) (H:qe):Option (D × qe) :=
 match o with
 | .move x | .assign x=>(qW X e x).map (·,H)
 | .pick c a b=>match qW X e c with
  | some (.bool t)=>(qW X e (if t then a else b)).map (·,H)
  | _=>none
 | .alloc t=>match (KQ X.P t).bind cellsOf with
  | some cs=>some (.optr H.length cs.length 0,qs H cs)
  | none=>none
 | .box _ x=>match (qW X e x).bind cellsOf with
  | some cs=>if cs.all (closed H.length) then some (.optr H.length cs.length 0,qs H cs) else none
  | none=>none
 | .build t parts=>match Ys X e parts.toList with
  | some ps=>(qh2 X.P t ps).map (·,H)
  | none=>none
 | .buildSlice t len parts=>match Ys X e parts.toList with
  | some ps=>qbQ X.P H t len ps
  | none=>none
 | .load t p=>match qW X e p with
  | some p=>(ldD X.P H t p).map (·,H)
  | none=>none
 | .store t p x=>match qW X e p,qW X e x with
  | some p,some x=>(stD X.P H t p x).map (.tup [],·)
  | _,_=>none
 | .nilCheck x=>match qW X e x with
  | some (.vptr cs)=>some (.vptr cs,H)
  | some (.optr i st off)=>some (.optr i st off,H)
  | some (.fn f caps)=>some (.fn f caps,H)
  | some (.iface t d)=>some (.iface t d,H)
  | _=>none
 | .binOp op t x y _=>match qW X e x,qW X e y with
  | some a,some b=>(qh3 X.P op t (Ks x || Ks y) a b).map (·,H)
  | _,_=>none
 | .unOp op _ x=>match qW X e x with
  | some a=>(unD op a).map (·,H)
  | none=>none
 | .convert s d x=>match qW X e x with
  | some a=>qde X.P H s d a
  | none=>none
 | .makeInterface t x=>match qW X e x,X.P.underlying t with
  | some _,some (.interface _)=>none
  | some a,some _=>some (.iface t a,H)
  | _,_=>none
 | .makeFunc (.func f) first caps=>if first.isEmpty then (vL X e caps.toList).map fun cs=>(.fn f cs,H) else none
 | .makeSlice t l c=>match qW X e l,qW X e c with
  | some l,some c=>qfu X.P H t l c
  | _,_=>none
 | .slice t x lo hi none=>match qW X e x,lo.map (qW X e),hi.map (qW X e) with
  | some a,none,none=>(qag X.P t a none none).map (·,H)
  | some a,some (some l),none=>(qag X.P t a (some l) none).map (·,H)
  | some a,none,some (some h)=>(qag X.P t a none (some h)).map (·,H)
  | some a,some (some l),some (some h)=>(qag X.P t a (some l) (some h)).map (·,H)
  | _,_,_=>none
 | .fieldAddr s x f=>match qW X e x with
  | some p=>(qhh X.P s p f).map (·,H)
  | none=>none
 | .field s x f=>match qW X e x with
  | some a=>(qhg X.P s a f).map (·,H)
  | none=>none
 | .indexAddr t x i=>match qW X e x,qW X e i with
  | some a,some i=>(qgT X.P t a i).map (·,H)
  | _,_=>none
 | .index t x i=>match qW X e x,qW X e i with
  | some a,some i=>(qgS X.P t a i).map (·,H)
  | _,_=>none
 | .extract x i=>match qW X e x with
  | some (.tup cs)=>(cs[i]?).map (·,H)
  | _=>none
 | .call c=>match c.callee,vL X e c.args.toList with
  | .builtin b,some args=>qdl X b c.argTypes.toList args H
  | .value g,some args=>match qW X e g with
   | some (.fn f caps)=>Vt X F f (args ++ caps) H
   | _=>none
  | _,_=>none
 | _=>none
def vH (ops:Array Oper) (e:qr):Option (Nat × Bool)→Option Bool
 | none=>some true
 | some (j,want)=>match (ops[j]?).bind (·.dst) with
  | none=>some false
  | some t=>match qi e t with
   | some (.bool b)=>some (b == want)
   | some (.tup [])=>some false
   | _=>none
def ke (nt:Nat):Option Tmp→Bool
 | none=>true
 | some t=>decide (t < nt)
def KL (X:Cx) (c:Call) (e:qr):Bool :=
 match X.dynV,c.callee with
 | true,.value (.tmp t)=>match qi e t with
  | some (.fn f _)=>!(X.pureF f && !X.byRef f && !X.perm f)
  | _=>true
 | _,_=>false
def qX (X:Cx) (F:zt) (drw:Bool) (o:Op) (e:qr) (H:qe):Option (D × qe) :=
 match drw,o with
 | true,.buildSlice t len parts=>match Ys X e parts.toList with
  | some ps=>match qbQ X.P [] t len ps with
   | some (.osl _ _ _ _ _,[some ds])=>some (.vsl false ds len,H)
   | _=>none
  | none=>none
 | true,.convert s d x=>match qW X e x,X.P.underlying d with
  | some (.str b),some (.slice t)=>match X.P.underlying s,X.P.underlying t with
   | some _,some (.int .u8)=>some (.vsl false (qd b) b.length,H)
   | _,_=>none
  | some a,_=>qde X.P H s d a
  | _,_=>none
 | true,.call c=>if KL X c e then none else zw X F (.call c) e H
 | _,o=>zw X F o e H
def vP (X:Cx) (F:zt) (nt:Nat) (drw:Bool) (ops:Array Oper):List Oper→qr→qe→Option (qr × qe)
 | [],e,H=>some (e,H)
 | o :: l,e,H=>match ke nt o.dst,vH ops e o.guard with
  | true,some true=>match qX X F drw o.op e H with
   | some (d,H')=>vP X F nt drw ops l (jK e o.dst d) H'
   | none=>none
  | true,some false=>vP X F nt drw ops l (jK e o.dst (.tup [])) H
  | _,_=>none
def Yk:D→Option Nat
 | .optr i _ _=>some i
 | .osl i _ _ _ _=>some i
 | _=>none
def Q1:List (Option D)→List Nat
 | []=>[]
 | some d :: l=>(Yk d).toList ++ Q1 l
 | none :: l=>Q1 l
abbrev QP:=List (Nat × Nat)
def ZN (L:QP) (k:Nat):Bool:=L.any fun p=>p.1 == k
def ZS (L:QP) (k:Nat):Bool:=L.any fun p=>p.2 == k
def YW (L:QP) (k:Nat) (bs:List Nat):List (Nat × qe × qe)→Prop
 | []=>True
 | (i,A,B) :: l=>(L.contains (i,k) = true→∀ b,b∈bs→qf B b = qf A b)∧YW L k bs l
def YV (L:QP) (k:Nat) (A B:qe):List (Nat × List Nat)→Prop
 | []=>True
 | (j,bs) :: l=>(L.contains (k,j) = true→∀ b,b∈bs→qf B b = qf A b)∧YV L k A B l
def ZI (ow:List Nat):Option Tmp→Bool
 | some t=>!ow.contains t
 | none=>true
open Classical in
noncomputable def Qi (X:Cx) (F:zt) (nt:Nat) (ow:List Nat) (ops:Array Oper) (L:QP):Nat→List (Nat × qe × qe)→List (Nat × List Nat)→List Oper→qr→qe→Option (qr × qe)
 | _,_,_,[],e,H=>some (e,H)
 | k,ws,rs,o :: l,e,H=>match ke nt o.dst,vH ops e o.guard with
  | true,some true=>match qX X F (ZI ow o.dst) o.op e H with
   | some (d,H') =>
    if (ZS L k = true→YW L k (Q1 (o.op.operands.toList.map (qW X e))) ws)∧(ZN L k = true→H.length≤H'.length∧YV L k H H' rs) then
     Qi X F nt ow ops L (k+1) (if ZN L k then (k,H,H') :: ws else ws) (if ZS L k then (k,Q1 (o.op.operands.toList.map (qW X e))) :: rs else rs) l (jK e o.dst d) H'
    else none
   | none=>none
  | true,some false=>Qi X F nt ow ops L (k+1) ws rs l (jK e o.dst (.tup [])) H
  | _,_=>none
inductive Ex where
 | normal
 | exit (id:Nat)
 | ret
def QF (X:Cx) (e:qr) (H:qe):List ResultVar→Option (List D)
 | []=>some []
 | .tmp t :: l=>match qi e t,QF X e H l with
  | some d,some ds=>some (d :: ds)
  | _,_=>none
 | .cell a t :: l=>match (qi e a).bind (ldD X.P H t),QF X e H l with
  | some d,some ds=>some (d :: ds)
  | _,_=>none
def Vc:List D→D
 | [d]=>d
 | l=>.tup l
def kf:Nat→List D→qr
 | _,[]=>[]
 | i,d :: l=>(i,d) :: kf (i+1) l
inductive OpKind where
 | v | r | e | m
 deriving DecidableEq
def JL (X:Cx):Op→OpKind
 | .load .. | .convert ..=>.r
 | .alloc .. | .box .. | .makeSlice ..=>.e
 | .store ..=>.m
 | .call c=>match c.callee with
  | .builtin .len | .builtin .min | .builtin .max=>.v
  | .value (.func f)=>if X.byRef f then .m else if X.pureF f then (if X.perm f then .r else .v) else if X.perm f then .m else .e
  | .value (.tmp _)=>if X.dynV then .v else .m
  | _=>.m
 | _=>.v
def Zc (X:Cx) (bw:Bool) (o:Op):OpKind :=
 match bw,o with
 | false,.buildSlice .. | false,.convert ..=>.e
 | false,.call c=>match c.callee with
  | .value (.tmp _)=>.m
  | _=>JL X (.call c)
 | _,o=>JL X o
def qqv:Op→Bool
 | .call c=>match c.callee with
  | .builtin .append=>true
  | _=>false
 | _=>false
def qcr:List Oper→Bool
 | []=>false
 | o :: l=>qqv o.op || qcr l
def Yq (X:Cx) (f id:Nat) (draw:Bool) (ops:Array Oper):Bool:=match draw with
 | true=>!qcr ops.toList
 | false=>X.cv f id
def zZ (X:Cx) (bw:Bool) (o:Op):Bool:=match Zc X bw o with
 | .e | .m=>true
 | _=>false
def qic:Operand→List Tmp
 | .tmp t=>[t]
 | _=>[]
def Jx (ops:Array Oper) (o:Oper):List Tmp :=
 o.dst.toList ++ o.op.operands.toList.flatMap qic ++ (match o.guard with
  | some (k,_)=>((ops[k]?).bind (·.dst)).toList
  | none=>[])
def Vs (X:Cx) (bw:Option Tmp→Bool) (L:QP) (al:Option Nat) (ops:Array Oper) (i:Nat) (x:Oper) (j:Nat) (y:Oper):Bool :=
 x.dst.any (fun t=>(Jx ops y).contains t) || y.dst.any (fun t=>(Jx ops x).contains t) || (zZ X (bw x.dst) x.op && zZ X (bw y.dst) y.op && !(al == some (max i j))) ||
  (Zc X (bw x.dst) x.op == .m && Zc X (bw y.dst) y.op == .r && !L.contains (i,j)) || (Zc X (bw x.dst) x.op == .r && Zc X (bw y.dst) y.op == .m && !L.contains (j,i))
def qsW (X:Cx) (bw:Option Tmp→Bool) (al:Option Nat) (ops:Array Oper):Bool :=
 match al with
 | none=>true
 | some j=>match ops[j]? with
  | none=>false
  | some o=>match o.op,o.dst,o.guard with
   | .alloc _,some t,none =>
    let b:=Region.before ops
    ops.toList.zipIdx.all fun (y,k)=>k == j || !(Jx ops y).contains t || (decide (j < k) && ops.toList.zipIdx.all fun (x,i)=>!decide (i < j) || !zZ X (bw x.dst) x.op || (b.getD k 0).testBit i)
   | _,_,_=>false
def qhp (X:Cx) (bw:Option Tmp→Bool) (L:QP) (al:Option Nat) (ops:Array Oper):Bool :=
 let b:=Region.before ops
 qsW X bw al ops && ops.toList.zipIdx.all fun (y,j) =>
  y.after.all (fun e=>!Region.binds .any e || decide (e.on < j)) &&
  ops.toList.zipIdx.all fun (x,i)=>!decide (i < j) || (b.getD j 0).testBit i || !Vs X bw L al ops i x j y
def Zn (X:Cx) (f:Nat):Code→Bool
 | .region id ops draw=>!draw || match X.lp f id with
  | none=>qhp X (fun _=>!qcr ops.toList) [] (X.al f id) ops
  | some (L,ow)=>qhp X (ZI ow) L (X.al f id) ops
 | .seq a b=>Zn X f a && Zn X f b
 | .cond _ a b=>Zn X f a && Zn X f b
 | .block _ c | .loop c | .scope c=>Zn X f c
 | _=>true
noncomputable def Jk (X:Cx) (F:zt) (f nt id:Nat) (draw:Bool) (ops:Array Oper) (e:qr) (H:qe):Option (qr × qe) :=
 match draw,X.lp f id with
 | true,some (L,ow)=>Qi X F nt ow ops L 0 [] [] ops.toList e H
 | _,_=>vP X F nt (Yq X f id draw ops) ops ops.toList e H
mutual
noncomputable def zl (X:Cx):Nat→Nat→Nat→Nat→Code→qr→qe→Option (Ex × qr × qe)
 | 0,_,_,_,_,_,_=>none
 | n+1,f,nt,n0,c,e,H=>match c with
  | .skip=>some (.normal,e,H)
  | .label _=>some (.normal,e,H)
  | .region id ops draw=>match enter X f n0 id e H with
   | none=>none
   | some (e,H)=>(Jk X (vC X n) f nt id draw ops e H).map fun (e,H)=>(.normal,e,H)
  | .seq a b=>match zl X n f nt n0 a e H with
   | some (.normal,e,H)=>zl X n f nt n0 b e H
   | r=>r
  | .cond c a b=>match qW X e c with
   | some (.bool t)=>zl X n f nt n0 (if t then a else b) e H
   | _=>none
  | .block id c=>match zl X n f nt n0 c e H with
   | some (.exit i,e,H)=>if i = id then some (.normal,e,H) else some (.exit i,e,H)
   | r=>r
  | .loop c=>match zl X n f nt n0 c e H with
   | some (.normal,e,H)=>zl X n f nt n0 (.loop c) e H
   | r=>r
  | .exit id=>some (.exit id,e,H)
  | .scope c=>zl X n f nt n0 c e H
  | .ret=>some (.ret,e,H)
  | _=>none
noncomputable def vC (X:Cx):Nat→zt
 | 0,_,_,_=>none
 | n+1,f,args,H=>match X.con f args H with
 | some r=>some r
 | none=>match X.P.funcs[f]? with
  | none=>none
  | some fn=>match fn.body with
   | none=>(X.ext f args).map (·,H)
   | some c=>if X.bad f then none else match zl X n f fn.ntmps H.length c (kf 0 args) H with
    | some (.normal,e,H') | some (.ret,e,H')=>match QF X e H' fn.results.toList with
     | some ds=>qbm (X.gr f && X.byRef f) (X.fzr f) H.length H' (Vc ds)
     | none=>none
    | _=>none
end
@[simp] abbrev zb8 (t:List D):List D:=.int .u8 0::.int .u8 0::.int .u8 0::.int .u8 0::.int .u8 0::.int .u8 0::.int .u8 0::.int .u8 0::t
@[simp] abbrev qO (t:List D):List D:=.int .u8 0::.int .u8 0::.int .u8 0::.int .u8 0::.int .u8 0::.int .u8 0::.int .u8 0::.int .u8 0::.int .u8 0::.int .u8 0::.int .u8 0::.int .u8 0::.int .u8 0::.int .u8 0::.int .u8 0::.int .u8 0::t
@[simp] abbrev Xx (t:List D):List D:=.int .u64 0::.int .u64 0::.int .u64 0::.int .u64 0::t
@[simp] abbrev vE (t:List D):List D:=.int .u64 0::.int .u64 0::.int .u64 0::.int .u64 0::.int .u64 0::.int .u64 0::.int .u64 0::.int .u64 0::.int .u64 0::.int .u64 0::t
@[simp] abbrev qfK (t:List CK):List CK:=.i::.i::.i::.i::.i::.i::.i::.i::.i::.i::.i::.i::.i::.i::.i::.i::t
@[simp] abbrev JY (c0 c1 c2 c3 c4 c5 c6 c7 c8 c9 c10 c11 c12 c13 c14 c15:UInt8) (t:List D):List D:=.int .u8 (c0.toNat:Int)::.int .u8 (c1.toNat:Int)::.int .u8 (c2.toNat:Int)::.int .u8 (c3.toNat:Int)::.int .u8 (c4.toNat:Int)::.int .u8 (c5.toNat:Int)::.int .u8 (c6.toNat:Int)::.int .u8 (c7.toNat:Int)::.int .u8 (c8.toNat:Int)::.int .u8 (c9.toNat:Int)::.int .u8 (c10.toNat:Int)::.int .u8 (c11.toNat:Int)::.int .u8 (c12.toNat:Int)::.int .u8 (c13.toNat:Int)::.int .u8 (c14.toNat:Int)::.int .u8 (c15.toNat:Int)::t
abbrev qV:=Nat→Option (Nat × Nat)
def jh:qV:=fun _=>none
def jg:D→Bool
 | .agg _ | .tup _=>false
 | .raw v=>v.oneCell'
 | _=>true
inductive Rep (ok:Nat→Prop) (w:World):qV→qe→D→Value→Prop
 | bool {ι H} (b:Bool):Rep ok w ι H (.bool b) (.bool b)
 | int {ι H} (k:IntKind) (n:Int):Rep ok w ι H (.int k n) (.int k n)
 | str {ι H} (s:List UInt8):Rep ok w ι H (.str s) (.string ⟨s.toArray⟩)
 | nilp {ι H}:Rep ok w ι H .nilp (.pointer none)
 | nilf {ι H}:Rep ok w ι H .nilf .nilFunc
 | nili {ι H}:Rep ok w ι H .nili .nilIface
 | agg {ι H} {ds:List D} {vs:Array Value} (hl:vs.size = ds.length) (hc:∀ d,d∈ds→jg d = true)
   (h:∀ (j:Nat) d,ds[j]? = some d→Rep ok w ι H d (vs.getD j undef)):Rep ok w ι H (.agg ds) (.agg vs)
 | tup {ι H} {ds:List D} {vs:Array Value} (hl:vs.size = ds.length)
   (h:∀ (j:Nat) d,ds[j]? = some d→Rep ok w ι H d (vs.getD j undef)):Rep ok w ι H (.tup ds) (.tuple vs)
 | vptr {ι H} {ds:List D} (a:Addr) (f:Nat→Value) (ha:∀ d,d∈ds→ok a.block) (hc:∀ d,d∈ds→jg d = true)
   (hr:∀ (j:Nat) d,ds[j]? = some d→w.cell? (a.add j) = some (f j))
   (h:∀ (j:Nat) d,ds[j]? = some d→Rep ok w jh [] d (f j)):Rep ok w ι H (.vptr ds) (.pointer (some a))
 | optr {ι H} {i st off:Nat} (a:Addr) (hi:i < H.length)
   (h:∀ ds,qf H i = some ds→st≤ds.length∧(ds.length = st→∃ b s,ι i = some (b,s)∧a = ⟨b,off,none⟩)):Rep ok w ι H (.optr i st off) (.pointer (some a))
 | vnil {ι H}:Rep ok w ι H (.vsl true [] 0) (.slice none 0 0)
 | vsl {ι H} {ds:List D} {len c:Nat} (a:Addr) (f:Nat→Value) (ha:∀ d,d∈ds→ok a.block) (hc:∀ d,d∈ds→jg d = true)
   (hr:∀ (j:Nat) d,ds[j]? = some d→w.cell? (a.add j) = some (f j))
   (h:∀ (j:Nat) d,ds[j]? = some d→Rep ok w jh [] d (f j)) (zo:len≤c):Rep ok w ι H (.vsl false ds len) (.slice (some a) len c)
 | osl {ι H} {i st off len k c:Nat} (a:Addr) (hi:i < H.length)
   (h:∀ ds,qf H i = some ds→st≤ds.length∧(ds.length = st→∃ b s,ι i = some (b,s)∧a = ⟨b,off,none⟩∧off+c * k≤s)) (zo:len≤c) :
   Rep ok w ι H (.osl i st off len k) (.slice (some a) len c)
 | fn {ι H} {f:Nat} {ds:List D} {vs:Array Value} (hl:vs.size = ds.length)
   (h:∀ (j:Nat) d,ds[j]? = some d→Rep ok w ι H d (vs.getD j undef)):Rep ok w ι H (.fn f ds) (.func (.func f) #[] vs)
 | iface {ι H} {t:Nat} {d:D} {v:Value} (h:Rep ok w ι H d v):Rep ok w ι H (.iface t d) (.iface t v)
 | raw {ι H} (v:Value):Rep ok w ι H (.raw v) v
section
variable {ok ok':Nat→Prop} {w w':World} {ι ι':qV} {H H':qe}
theorem Rep.oneCell {d:D} {v:Value} (h:Rep ok w ι H d v) (hc:jg d = true):v.oneCell' = true:=by
 cases h <;> first | rfl | exact hc | simp [jg] at hc
theorem qc0 (l:List D):idFree.idFreeL l = true↔∀ d,d∈l→idFree d = true:=by
 induction l with
 | nil=>simp [idFree.idFreeL]
 | cons d l ih=>simp [idFree.idFreeL,ih]
theorem qga (l:List D):vFree.vFreeL l = true↔∀ d,d∈l→vFree d = true:=by
 induction l with
 | nil=>simp [vFree.vFreeL]
 | cons d l ih=>simp [vFree.vFreeL,ih]
theorem qe5 (n:Nat) (l:List D):closed.closedL n l = true↔∀ d,d∈l→closed n d = true:=by
 induction l with
 | nil=>simp [closed.closedL]
 | cons d l ih=>simp [closed.closedL,ih]
theorem mem_of_get? {ds:List D} {j:Nat} {d:D} (h:ds[j]? = some d):d∈ds:=Vy h
theorem Rep.closed {d:D} {v:Value} (h:Rep ok w ι H d v):Ev.closed H.length d = true:=by
 induction h with
 | agg hl hc h ih | tup hl h ih | fn hl h ih =>
  simp only [Ev.closed,qe5];intro d hd;obtain ⟨j,hj⟩:=List.mem_iff_getElem?.1 hd;exact ih j d hj
 | iface h ih=>simpa [Ev.closed] using ih
 | optr a hi h=>simpa [Ev.closed] using hi
 | osl a hi h=>simpa [Ev.closed] using hi
 | _=>rfl
theorem qew {n:Nat}:∀ d,idFree d = true→closed n d = true
 | .agg cs,h | .tup cs,h | .fn _ cs,h=>by
  simp only [closed,qe5,idFree,qc0] at h ⊢;intro d hd;exact qew d (h d hd)
 | .iface _ d,h=>by simp only [closed,idFree] at h ⊢;exact qew d h
 | .optr i _ _,h | .osl i _ _ _ _,h=>by simp [idFree] at h
 | .bool _,_ | .int _ _,_ | .str _,_ | .nilp,_ | .nilf,_ | .nili,_ | .vptr _,_ | .vsl _ _ _,_ | .raw _,_=>rfl
theorem Rep.free {d:D} {v:Value} (h:Rep ok w ι H d v) (hf:idFree d = true) (ι':qV) (H':qe):Rep ok w ι' H' d v:=by
 induction h with
 | bool b=>exact .bool b
 | int k n=>exact .int k n
 | str s=>exact .str s
 | nilp=>exact .nilp
 | nilf=>exact .nilf
 | nili=>exact .nili
 | raw v=>exact .raw v
 | agg hl hc h ih =>
  simp only [idFree,qc0] at hf;exact .agg hl hc fun j d hj=>ih j d hj (hf d (mem_of_get? hj))
 | tup hl h ih =>
  simp only [idFree,qc0] at hf;exact .tup hl fun j d hj=>ih j d hj (hf d (mem_of_get? hj))
 | fn hl h ih =>
  simp only [idFree,qc0] at hf;exact .fn hl fun j d hj=>ih j d hj (hf d (mem_of_get? hj))
 | iface h ih=>exact .iface (ih hf)
 | optr a hi h=>simp [idFree] at hf
 | osl a hi h=>simp [idFree] at hf
 | vptr a f ha hc hr h _=>exact .vptr a f ha hc hr h
 | vnil=>exact .vnil
 | vsl a f ha hc hr h zo _=>exact .vsl a f ha hc hr h zo
structure Evol (n:Nat) (ok:Nat→Prop) (w:World) (ι:qV) (H:qe) (ok':Nat→Prop) (w':World) (ι':qV) (H':qe):Prop where
 os:w'.os = w.os
 tape:w'.tape = w.tape
 output:w'.output = w.output
 size:w.heap.size≤w'.heap.size
 frame:∀ b,b < w.heap.size→(∀ i ds s,qf H i = some ds→ι i≠some (b,s))→w'.heap[b]? = w.heap[b]?
 okU:∀ b,ok b→ok' b
 okN:∀ b,ok' b→b < w.heap.size→ok b∨∃ i ds s,qf H i = some ds∧ι i = some (b,s)
 nle:n≤H.length∧n≤H'.length
 heap:∀ i,i < n→∀ ds',qf H' i = some ds'→∃ ds,qf H i = some ds∧ds.length≤ds'.length∧(ds.length = ds'.length→ι' i = ι i)
 own:∀ i ds' b s,qf H' i = some ds'→ι' i = some (b,s)→b < w.heap.size→∃ j ds s',qf H j = some ds∧ι j = some (b,s')
structure Sim (X:Cx) (ok:Nat→Prop) (w:World) (ι:qV) (H:qe):Prop where
 okS:∀ b,ok b→b < w.heap.size
 glob:∀ g cs,X.glob g = some cs→Rep ok w jh [] (.vptr cs) (.pointer (some ⟨g,0,none⟩))
 inj:∀ i j ds es b s s',qf H i = some ds→qf H j = some es→ι i = some (b,s)→ι j = some (b,s')→i = j
 blk:∀ i ds,qf H i = some ds→∃ b arr e fr,ι i = some (b,arr.size)∧¬ ok b∧w.heap[b]? = some (.cells arr e fr)∧ds.length≤arr.size ∧
  (fr.1 = fr.2∨arr.size≤fr.1)∧(∀ j,j < arr.size→(arr.getD j undef).oneCell' = true)∧(∀ d,d∈ds→jg d = true) ∧
  (∀ (j:Nat) d,ds[j]? = some d→Rep ok w ι H d (arr.getD j undef))
theorem qha {fr:Nat × Nat} {n:Nat} (h:fr.1 = fr.2∨n≤fr.1):∀ j,j < n→¬ (fr.1≤j∧j < fr.2):=by
 intro j hj;omega
theorem Sim.notOwn {X:Cx} (hs:Sim X ok w ι H) {b:Nat} (hb:ok b):∀ i ds s,qf H i = some ds→ι i≠some (b,s):=by
 intro i ds s hi he;obtain ⟨b',arr,e,fr,zC,hn,_⟩:=hs.blk i ds hi;rw [he] at zC;injection zC with zC;injection zC with zC;subst zC;exact hn hb
theorem qdW (a:Addr) (j:Nat):(a.add j).block = a.block:=by unfold Addr.add;split <;> rfl
theorem Rep.evol {X:Cx} {n:Nat} {d:D} {v:Value} (h:Rep ok w ι H d v) (hs:Sim X ok w ι H) (he:Evol n ok w ι H ok' w' ι' H') (hc:Ev.closed n d = true):Rep ok' w' ι' H' d v:=by
 have Zx:∀ a:Addr,∀ j v,ok a.block→w.cell? (a.add j) = some v→w'.cell? (a.add j) = some v:=by
  intro a j v ha hv;rw [World.cell?_of_block (w:=w)]
  ·exact hv
  ·rw [qdW];exact he.frame _ (hs.okS _ ha) (hs.notOwn ha)
 have inner:∀ {ι1:qV} {H1:qe} {d:D} {v:Value},Rep ok w ι1 H1 d v→ι1 = jh→H1 = []→Rep ok' w' jh [] d v:=by
  intro ι1 H1 d v h
  induction h with
  | bool b=>intros;exact .bool b
  | int k n=>intros;exact .int k n
  | str s=>intros;exact .str s
  | nilp=>intros;exact .nilp
  | nilf=>intros;exact .nilf
  | nili=>intros;exact .nili
  | raw v=>intros;exact .raw v
  | agg hl hc h ih=>intro h1 h2;exact .agg hl hc fun j d hj=>ih j d hj h1 h2
  | tup hl h ih=>intro h1 h2;exact .tup hl fun j d hj=>ih j d hj h1 h2
  | fn hl h ih=>intro h1 h2;exact .fn hl fun j d hj=>ih j d hj h1 h2
  | iface h ih=>intro h1 h2;exact .iface (ih h1 h2)
  | optr a hi h=>intro h1 h2;subst h2;simp at hi
  | osl a hi h=>intro h1 h2;subst h2;simp at hi
  | vptr a f ha hc hr h ih=>intros;exact .vptr a f (fun d hd=>he.okU _ (ha d hd)) hc (fun j d hj=>Zx a j _ (ha d (mem_of_get? hj)) (hr j d hj)) fun j d hj=>ih j d hj rfl rfl
  | vnil=>intros;exact .vnil
  | vsl a f ha hc hr h zo ih=>intros;exact .vsl a f (fun d hd=>he.okU _ (ha d hd)) hc (fun j d hj=>Zx a j _ (ha d (mem_of_get? hj)) (hr j d hj)) (fun j d hj=>ih j d hj rfl rfl) zo
 have main:∀ {ι1:qV} {H1:qe} {d:D} {v:Value},Rep ok w ι1 H1 d v→ι1 = ι→H1 = H→Ev.closed n d = true→Rep ok' w' ι' H' d v:=by
  intro ι1 H1 d v h
  induction h with
  | bool b=>intros;exact .bool b
  | int k n=>intros;exact .int k n
  | str s=>intros;exact .str s
  | nilp=>intros;exact .nilp
  | nilf=>intros;exact .nilf
  | nili=>intros;exact .nili
  | raw v=>intros;exact .raw v
  | agg hl hc h ih =>
   intro h1 h2 h3;simp only [Ev.closed,qe5] at h3;exact .agg hl hc fun j d hj=>ih j d hj h1 h2 (h3 d (mem_of_get? hj))
  | tup hl h ih =>
   intro h1 h2 h3;simp only [Ev.closed,qe5] at h3;exact .tup hl fun j d hj=>ih j d hj h1 h2 (h3 d (mem_of_get? hj))
  | fn hl h ih =>
   intro h1 h2 h3;simp only [Ev.closed,qe5] at h3;exact .fn hl fun j d hj=>ih j d hj h1 h2 (h3 d (mem_of_get? hj))
  | iface h ih=>intro h1 h2 h3;exact .iface (ih h1 h2 h3)
  | optr a hi hk =>
   intro h1 h2 h3;subst h1;subst h2;simp only [Ev.closed,decide_eq_true_eq] at h3;refine .optr a (jZ h3 he.nle.2) fun ds' zB=>?_;obtain ⟨ds,hd,jx,Qa⟩:=he.heap _ h3 ds' zB;obtain ⟨k1,k2⟩:=hk ds hd;refine ⟨by omega,fun e=>?_⟩;obtain ⟨b,s,q1,q2⟩:=k2 (by omega);exact ⟨b,s,by rw [Qa (by omega)];exact q1,q2⟩
  | osl a hi hk zo =>
   intro h1 h2 h3;subst h1;subst h2;simp only [Ev.closed,decide_eq_true_eq] at h3;refine .osl a (jZ h3 he.nle.2) (fun ds' zB=>?_) zo;obtain ⟨ds,hd,jx,Qa⟩:=he.heap _ h3 ds' zB;obtain ⟨k1,k2⟩:=hk ds hd;refine ⟨by omega,fun e=>?_⟩;obtain ⟨b,s,q1,q2⟩:=k2 (by omega);exact ⟨b,s,by rw [Qa (by omega)];exact q1,q2⟩
  | vptr a f ha hc hr h ih=>intros;exact .vptr a f (fun d hd=>he.okU _ (ha d hd)) hc (fun j d hj=>Zx a j _ (ha d (mem_of_get? hj)) (hr j d hj)) fun j d hj=>inner (h j d hj) rfl rfl
  | vnil=>intros;exact .vnil
  | vsl a f ha hc hr h zo ih=>intros;exact .vsl a f (fun d hd=>he.okU _ (ha d hd)) hc (fun j d hj=>Zx a j _ (ha d (mem_of_get? hj)) (hr j d hj)) (fun j d hj=>inner (h j d hj) rfl rfl) zo
 exact main h rfl rfl hc
theorem Evol.refl (n:Nat) (hn:n≤H.length):Evol n ok w ι H ok w ι H :=
 ⟨rfl,rfl,rfl,qE _,fun _ _ _=>rfl,fun _ h=>h,fun _ h _=>.inl h,⟨hn,hn⟩,fun _ _ ds hd=>⟨ds,hd,qE _,fun _=>rfl⟩,fun i ds _ s hd hi _=>⟨i,ds,s,hd,hi⟩⟩
theorem Evol.mono {n m:Nat} (he:Evol n ok w ι H ok' w' ι' H') (hm:m≤n):Evol m ok w ι H ok' w' ι' H' :=
 ⟨he.os,he.tape,he.output,he.size,he.frame,he.okU,he.okN,⟨by have:=he.nle;omega,by have:=he.nle;omega⟩,fun i hi=>he.heap i (by omega),he.own⟩
theorem Evol.trans {ok'':Nat→Prop} {w'':World} {ι'':qV} {H'':qe} {n:Nat} (h:Evol n ok w ι H ok' w' ι' H') (k:Evol n ok' w' ι' H' ok'' w'' ι'' H''):Evol n ok w ι H ok'' w'' ι'' H'' where
 os:=k.os.trans h.os
 tape:=k.tape.trans h.tape
 output:=k.output.trans h.output
 size:=zT h.size k.size
 frame b hb jo:=by
  rw [k.frame b (jZ hb h.size),h.frame b hb jo];intro i ds s hd hi;obtain ⟨j,ds0,s',hj,hι⟩:=h.own i ds b s hd hi hb;exact jo j ds0 s' hj hι
 okU b hb:=k.okU b (h.okU b hb)
 okN b hb qg:=by
  rcases k.okN b hb (jZ qg h.size) with hb | ⟨i,ds,s,hd,hi⟩
  ·exact h.okN b hb qg
  ·exact .inr (h.own i ds b s hd hi qg)
 nle:=⟨h.nle.1,k.nle.2⟩
 heap i hi ds'' hd'':=by
  obtain ⟨ds',zB,Vh,Qa⟩:=k.heap i hi ds'' hd'';obtain ⟨ds,hd,jx,JR⟩:=h.heap i hi ds' zB;exact ⟨ds,hd,by omega,fun e=>by rw [Qa (by omega),JR (by omega)]⟩
 own i ds' b s hd hi hb:=by
  obtain ⟨j,ds0,s',hj,hι⟩:=k.own i ds' b s hd hi (jZ hb h.size);exact h.own j ds0 b s' hj hι hb
def EnvRep (ok:Nat→Prop) (w:World) (ι:qV) (H:qe) (e:qr) (tmps:Array Value):Prop :=
 ∀ t d,qi e t = some d→t < tmps.size∧Rep ok w ι H d (tmps.getD t undef)
def RepL (ok:Nat→Prop) (w:World) (ι:qV) (H:qe) (ds:List D) (vs:List Value):Prop :=
 vs.length = ds.length∧∀ (j:Nat) d,ds[j]? = some d→Rep ok w ι H d (vs.getD j undef)
theorem EnvRep.put {e:qr} {tmps:Array Value} {t:Nat} {d:D} {v:Value} (he:EnvRep ok w ι H e tmps) (hd:Rep ok w ι H d v) (ht:t < tmps.size) :
  EnvRep ok w ι H ((t,d) :: e) (tmps.setIfInBounds t v):=by
 intro u d' hu;simp only [qi] at hu;by_cases h:t = u
 ·subst h;simp only [if_true,qw] at hu;subst hu;simp [ht,hd,Array.getD]
 ·simp only [h,if_false] at hu;obtain ⟨h1,h2⟩:=he u d' hu;refine ⟨by simpa using h1,?_⟩
  have:(tmps.setIfInBounds t v).getD u undef = tmps.getD u undef:=by
   simp only [jl,qeI h]
  rw [this];exact h2
theorem EnvRep.evol {X:Cx} {n:Nat} {e:qr} {tmps:Array Value} (he:EnvRep ok w ι H e tmps) (hs:Sim X ok w ι H) (hv:Evol n ok w ι H ok' w' ι' H')
  (hc:∀ t d,qi e t = some d→Ev.closed n d = true):EnvRep ok' w' ι' H' e tmps :=
 fun t d ht=>⟨(he t d ht).1,(he t d ht).2.evol hs hv (hc t d ht)⟩
theorem EnvRep.evol' {X:Cx} {e:qr} {tmps:Array Value} (he:EnvRep ok w ι H e tmps) (hs:Sim X ok w ι H) (hv:Evol H.length ok w ι H ok' w' ι' H'):EnvRep ok' w' ι' H' e tmps :=
 he.evol hs hv fun t d ht=>(he t d ht).2.closed
end
end Go.Ev
namespace Go.Ev
section
variable {X:Cx} {P:Program} {ok:Nat→Prop} {w w':World} {ι:qV} {H:qe}
theorem qkj:∀ d,closed 0 d = true→idFree d = true
 | .agg cs,h | .tup cs,h | .fn _ cs,h=>by
  simp only [closed,qe5,idFree,qc0] at h ⊢;intro d hd;exact qkj d (h d hd)
 | .iface _ d,h=>by simp only [closed,idFree] at h ⊢;exact qkj d h
 | .optr i _ _,h | .osl i _ _ _ _,h=>by simp [closed] at h
 | .bool _,_ | .int _ _,_ | .str _,_ | .nilp,_ | .nilf,_ | .nili,_ | .vptr _,_ | .vsl _ _ _,_ | .raw _,_=>rfl
theorem Rep.lift {d:D} {v:Value} (h:Rep ok w jh [] d v):Rep ok w ι H d v:=h.free (qkj d h.closed) _ _
theorem qA {i:Nat} {ds:List D} (h:qf H i = some ds):i < H.length:=by
 unfold qf at h;rcases qaa i H.length with qg | vN
 ·exact qg
 ·rw [List.getElem?_eq_none vN] at h;simp at h
theorem zG {i:Nat} {ds:List D} (h:i < H.length):qf (qn H i ds) i = some ds:=by
 simp [qf,qn,h]
theorem zN {i j:Nat} {ds:List D} (h:j≠i):qf (qn H i ds) j = qf H j:=by
 simp [qf,qn,Ne.symm h]
theorem Qo {i:Nat} {ds:List D}:(qn H i ds).length = H.length:=by simp [qn]
theorem zA {ds:List D}:qf (qs H ds) H.length = some ds:=by simp [qf,qs]
theorem vk {ds:List D} {i:Nat} (h:i < H.length):qf (qs H ds) i = qf H i:=by
 simp [qf,qs,kg h]
theorem zW {ds:List D}:(qs H ds).length = H.length+1:=by simp [qs]
def YX (w w':World):Prop:=w'.os = w.os∧w'.tape = w.tape∧w'.output = w.output
theorem Sim.lt (hs:Sim X ok w ι H) {i:Nat} {ds:List D} {b s:Nat} (hd:qf H i = some ds) (hi:ι i = some (b,s)):b < w.heap.size:=by
 obtain ⟨b',arr,e,fr,zC,hn,hh,_⟩:=hs.blk i ds hd;rw [hi] at zC;injection zC with zC;injection zC with zC _;subst zC;exact (Array.getElem?_eq_some_iff.1 hh).1
theorem qeQ {i:Nat} {ds ds':List D} {b sz b':Nat} {arr':Array Value} {e:TypeId} {fr:Nat × Nat} (hs:Sim X ok w ι H) (hd:qf H i = some ds) (hι:ι i = some (b,sz))
  (hw:YX w w') (jn:w.heap.size≤w'.heap.size) (hfr:∀ c,c < w.heap.size→c≠b→w'.heap[c]? = w.heap[c]?)
  (zC:w'.heap[b']? = some (.cells arr' e fr)) (qa4:(b' = b∧arr'.size = sz)∨(w.heap.size≤b'∧ds.length < ds'.length)) (hlen:ds.length≤ds'.length)
  (YG:ds'.length≤arr'.size) (QA:fr.1 = fr.2∨arr'.size≤fr.1) (Q6:∀ j,j < arr'.size→(arr'.getD j undef).oneCell' = true)
  (Zx:∀ d,d∈ds'→jg d = true) (hrep:∀ (j:Nat) d,ds'[j]? = some d→Rep ok w ι H d (arr'.getD j undef)) :
  ∃ ι',Sim X ok w' ι' (qn H i ds')∧Evol H.length ok w ι H ok w' ι' (qn H i ds')∧ι' i = some (b',arr'.size):=by
 have hi:=qA hd
 have ZY:¬ ok b:=by
  intro hb;exact hs.notOwn hb i ds sz hd hι
 refine ⟨fun k=>if k = i then some (b',arr'.size) else ι k,?_⟩
 have hev:Evol H.length ok w ι H ok w' (fun k=>if k = i then some (b',arr'.size) else ι k) (qn H i ds'):=by
  refine ⟨hw.1,hw.2.1,hw.2.2,jn,?_,fun _ h=>h,fun _ h _=>.inl h,⟨qE _,by rw [Qo];exact qE _⟩,?_,?_⟩
  ·intro c hc jo;exact hfr c hc (fun e=>jo i ds sz hd (by rw [hι,e]))
  ·intro k hk es he;by_cases vT:k = i
   ·subst vT;rw [zG hi] at he;injection he with he;subst he;refine ⟨ds,hd,hlen,fun Zw=>?_⟩;rcases qa4 with ⟨h1,h2⟩ | ⟨_,h2⟩
    ·simp only [if_true,h1,h2,hι]
    ·omega
   ·rw [zN vT] at he;exact ⟨es,he,qE _,fun _=>by simp [vT]⟩
  ·intro k es c s he hk hc;by_cases vT:k = i
   ·subst vT;simp only [if_true,qw,zm] at hk;rcases qa4 with ⟨h1,h2⟩ | ⟨h1,_⟩
    ·exact ⟨k,ds,sz,hd,by rw [hι,← hk.1,h1]⟩
    ·omega
   ·rw [zN vT] at he;simp only [vT,if_false] at hk;exact ⟨k,es,s,he,hk⟩
 refine ⟨⟨fun c hc=>jZ (hs.okS c hc) jn,?_,?_,?_⟩,hev,by simp⟩
 ·intro g cs hg;have h:=(hs.glob g cs hg).lift (ι:=ι) (H:=H);have h2:=h.evol hs hev rfl;exact h2.free rfl _ _
 ·intro p q es fs c s s' hp hq hιp hιq
  have old:∀ k,k≠i→∀ es c s,qf H k = some es→ι k = some (c,s)→c≠b':=by
   intro k hk es c s he hc Zw;rcases qa4 with ⟨h1,_⟩ | ⟨h1,_⟩
   ·exact hk (hs.inj k i es ds c s sz he hd hc (by rw [hι,Zw,h1]))
   ·have:=hs.lt he hc;omega
  by_cases hpi:p = i <;> by_cases hqi:q = i
  ·rw [hpi,hqi]
  ·subst hpi;rw [zN hqi] at hq;simp only [if_true,hqi,if_false,qw,zm] at hιp hιq;exact absurd hιp.1.symm (old q hqi fs c s' hq hιq)
  ·subst hqi;rw [zN hpi] at hp;simp only [if_true,hpi,if_false,qw,zm] at hιp hιq;exact absurd hιq.1.symm (old p hpi es c s hp hιp)
  ·rw [zN hpi] at hp;rw [zN hqi] at hq;simp only [hpi,hqi,if_false] at hιp hιq;exact hs.inj p q es fs c s s' hp hq hιp hιq
 ·intro k es he;by_cases vT:k = i
  ·subst vT;rw [zG hi] at he;injection he with he;subst he;refine ⟨b',arr',e,fr,by simp,?_,zC,YG,QA,Q6,Zx,fun j d hj=>(hrep j d hj).evol hs hev (hrep j d hj).closed⟩;rcases qa4 with ⟨h1,_⟩ | ⟨h1,_⟩
   ·rw [h1];exact ZY
   ·intro h;have:=hs.okS _ h;omega
  ·rw [zN vT] at he;obtain ⟨c,arr,e2,fr2,h1,h2,h3,h4,h5,h6,h7,h8⟩:=hs.blk k es he;refine ⟨c,arr,e2,fr2,by simp [vT,h1],h2,?_,h4,h5,h6,h7,fun j d hj=>(h8 j d hj).evol hs hev (h8 j d hj).closed⟩;rw [hfr c (hs.lt he h1)]
   ·exact h3
   ·rintro rfl;exact vT (hs.inj k i es ds c arr.size sz he hd h1 hι)
theorem qkZ {ds:List D} {b':Nat} {arr:Array Value} {e:TypeId} {fr:Nat × Nat} (hs:Sim X ok w ι H)
  (hw:YX w w') (jn:w.heap.size≤w'.heap.size) (hfr:∀ c,c < w.heap.size→w'.heap[c]? = w.heap[c]?)
  (zC:w'.heap[b']? = some (.cells arr e fr)) (qa4:w.heap.size≤b')
  (YG:ds.length≤arr.size) (QA:fr.1 = fr.2∨arr.size≤fr.1) (Q6:∀ j,j < arr.size→(arr.getD j undef).oneCell' = true)
  (Zx:∀ d,d∈ds→jg d = true) (hrep:∀ (j:Nat) d,ds[j]? = some d→Rep ok w ι H d (arr.getD j undef)) :
  ∃ ι',Sim X ok w' ι' (qs H ds)∧Evol H.length ok w ι H ok w' ι' (qs H ds)∧ι' H.length = some (b',arr.size):=by
 refine ⟨fun k=>if k = H.length then some (b',arr.size) else ι k,?_⟩
 have hev:Evol H.length ok w ι H ok w' (fun k=>if k = H.length then some (b',arr.size) else ι k) (qs H ds):=by
  refine ⟨hw.1,hw.2.1,hw.2.2,jn,fun c hc _=>hfr c hc,fun _ h=>h,fun _ h _=>.inl h,⟨qE _,by rw [zW];omega⟩,?_,?_⟩
  ·intro k hk es he;rw [vk hk] at he;exact ⟨es,he,qE _,fun _=>by simp [ZJ hk]⟩
  ·intro k es c s he hk hc;by_cases vT:k = H.length
   ·subst vT;simp only [if_true,qw,zm] at hk;omega
   ·have qg:k < H.length:=by
     have:=qA he;rw [zW] at this;omega
    rw [vk qg] at he;simp only [vT,if_false] at hk;exact ⟨k,es,s,he,hk⟩
 have split:∀ k es,qf (qs H ds) k = some es→(k = H.length∧es = ds)∨(k < H.length∧qf H k = some es):=by
  intro k es he;by_cases vT:k = H.length
  ·subst vT;rw [zA] at he;injection he with he;exact .inl ⟨rfl,he.symm⟩
  ·have qg:k < H.length:=by
    have:=qA he;rw [zW] at this;omega
   rw [vk qg] at he;exact .inr ⟨qg,he⟩
 refine ⟨⟨fun c hc=>jZ (hs.okS c hc) jn,?_,?_,?_⟩,hev,by simp⟩
 ·intro g cs hg;have h:=(hs.glob g cs hg).lift (ι:=ι) (H:=H);have h2:=h.evol hs hev rfl;exact h2.free rfl _ _
 ·intro p q es fs c s s' hp hq hιp hιq;rcases split p es hp with ⟨rfl,_⟩ | ⟨ku,ZB⟩ <;> rcases split q fs hq with ⟨rfl,_⟩ | ⟨kO,jL⟩
  ·rfl
  ·simp only [if_true,ZJ kO,if_false,qw,zm] at hιp hιq;have:=hs.lt jL hιq;omega
  ·simp only [if_true,ZJ ku,if_false,qw,zm] at hιp hιq;have:=hs.lt ZB hιp;omega
  ·simp only [ZJ ku,ZJ kO,if_false] at hιp hιq;exact hs.inj p q es fs c s s' ZB jL hιp hιq
 ·intro k es he;rcases split k es he with ⟨rfl,rfl⟩ | ⟨hk,he⟩
  ·exact ⟨b',arr,e,fr,by simp,fun h=>by have:=hs.okS _ h;omega,zC,YG,QA,Q6,Zx,fun j d hj=>(hrep j d hj).evol hs hev (hrep j d hj).closed⟩
  ·obtain ⟨c,arr2,e2,fr2,h1,h2,h3,h4,h5,h6,h7,h8⟩:=hs.blk k es he;refine ⟨c,arr2,e2,fr2,by simp [ZJ hk,h1],h2,?_,h4,h5,h6,h7,fun j d hj=>(h8 j d hj).evol hs hev (h8 j d hj).closed⟩;rw [hfr c (hs.lt he h1)];exact h3
theorem qzF {i:Nat}:qf (J9 H i) i = none:=by
 unfold qf J9;by_cases h:i < H.length
 ·simp [h]
 ·rw [List.getElem?_eq_none (by rw [ky];omega)];rfl
theorem qqM {i j:Nat} (h:j≠i):qf (J9 H i) j = qf H j:=by
 unfold qf J9;rw [List.getElem?_set_ne (fun e=>h e.symm)]
theorem qap {i:Nat}:(J9 H i).length = H.length:=by simp [J9]
theorem qla {i:Nat} {ds ds':List D} {b sz b':Nat} {arr':Array Value} {e:TypeId} {fr:Nat × Nat} (hs:Sim X ok w ι H) (hd:qf H i = some ds) (hι:ι i = some (b,sz))
  (hw:YX w w') (jn:w.heap.size≤w'.heap.size) (hfr:∀ c,c < w.heap.size→c≠b→w'.heap[c]? = w.heap[c]?)
  (zC:w'.heap[b']? = some (.cells arr' e fr)) (qa4:b' = b∨w.heap.size≤b')
  (YG:ds'.length≤arr'.size) (QA:fr.1 = fr.2∨arr'.size≤fr.1) (Q6:∀ j,j < arr'.size→(arr'.getD j undef).oneCell' = true)
  (Zx:∀ d,d∈ds'→jg d = true) (hrep:∀ (j:Nat) d,ds'[j]? = some d→Rep ok w ι H d (arr'.getD j undef)) :
  ∃ ι',Sim X ok w' ι' (qs (J9 H i) ds')∧Evol H.length ok w ι H ok w' ι' (qs (J9 H i) ds')∧ι' H.length = some (b',arr'.size):=by
 have hi:=qA hd
 have ZY:¬ ok b:=by
  intro hb;exact hs.notOwn hb i ds sz hd hι
 have split:∀ k es,qf (qs (J9 H i) ds') k = some es→(k = H.length∧es = ds')∨(k < H.length∧k≠i∧qf H k = some es):=by
  intro k es he;by_cases vT:k = H.length
  ·subst vT;rw [← qap (H:=H) (i:=i),zA] at he;injection he with he;exact .inl ⟨rfl,he.symm⟩
  ·have qg:k < H.length:=by
    have:=qA he;rw [zW,qap] at this;omega
   rw [vk (by rw [qap];exact qg)] at he;by_cases h2:k = i
   ·subst h2;rw [qzF] at he;cases he
   ·rw [qqM h2] at he;exact .inr ⟨qg,h2,he⟩
 refine ⟨fun k=>if k = H.length then some (b',arr'.size) else ι k,?_⟩
 have hev:Evol H.length ok w ι H ok w' (fun k=>if k = H.length then some (b',arr'.size) else ι k) (qs (J9 H i) ds'):=by
  refine ⟨hw.1,hw.2.1,hw.2.2,jn,?_,fun _ h=>h,fun _ h _=>.inl h,⟨qE _,by rw [zW,qap];omega⟩,?_,?_⟩
  ·intro c hc jo;exact hfr c hc (fun e=>jo i ds sz hd (by rw [hι,e]))
  ·intro k hk es he;rcases split k es he with ⟨rfl,_⟩ | ⟨_,_,h2⟩
   ·omega
   ·exact ⟨es,h2,qE _,fun _=>by simp [ZJ hk]⟩
  ·intro k es c s he hk hc;rcases split k es he with ⟨rfl,_⟩ | ⟨h1,_,h2⟩
   ·simp only [if_true,qw,zm] at hk;rcases qa4 with h1 | h1
    ·exact ⟨i,ds,sz,hd,by rw [hι,← hk.1,h1]⟩
    ·omega
   ·simp only [ZJ h1,if_false] at hk;exact ⟨k,es,s,h2,hk⟩
 refine ⟨⟨fun c hc=>jZ (hs.okS c hc) jn,?_,?_,?_⟩,hev,by simp⟩
 ·intro g cs hg;have h:=(hs.glob g cs hg).lift (ι:=ι) (H:=H);have h2:=h.evol hs hev rfl;exact h2.free rfl _ _
 ·intro p q es fs c s s' hp hq hιp hιq
  have old:∀ k,k≠i→∀ es c s,qf H k = some es→ι k = some (c,s)→c≠b':=by
   intro k hk es c s he hc Zw;rcases qa4 with h1 | h1
   ·exact hk (hs.inj k i es ds c s sz he hd hc (by rw [hι,Zw,h1]))
   ·have:=hs.lt he hc;omega
  rcases split p es hp with ⟨rfl,_⟩ | ⟨ku,hp3,ZB⟩ <;> rcases split q fs hq with ⟨rfl,_⟩ | ⟨kO,ZA,jL⟩
  ·rfl
  ·simp only [if_true,ZJ kO,if_false,qw,zm] at hιp hιq;exact absurd hιp.1.symm (old q ZA fs c s' jL hιq)
  ·simp only [if_true,ZJ ku,if_false,qw,zm] at hιp hιq;exact absurd hιq.1.symm (old p hp3 es c s ZB hιp)
  ·simp only [ZJ ku,ZJ kO,if_false] at hιp hιq;exact hs.inj p q es fs c s s' ZB jL hιp hιq
 ·intro k es he;rcases split k es he with ⟨rfl,rfl⟩ | ⟨hk,vT,he⟩
  ·refine ⟨b',arr',e,fr,by simp,?_,zC,YG,QA,Q6,Zx,fun j d hj=>(hrep j d hj).evol hs hev (hrep j d hj).closed⟩;rcases qa4 with h1 | h1
   ·rw [h1];exact ZY
   ·intro h;have:=hs.okS _ h;omega
  ·obtain ⟨c,arr,e2,fr2,h1,h2,h3,h4,h5,h6,h7,h8⟩:=hs.blk k es he;refine ⟨c,arr,e2,fr2,by simp [ZJ hk,h1],h2,?_,h4,h5,h6,h7,fun j d hj=>(h8 j d hj).evol hs hev (h8 j d hj).closed⟩;rw [hfr c (hs.lt he h1)]
   ·exact h3
   ·rintro rfl;exact vT (hs.inj k i es ds c arr.size sz he hd h1 hι)
theorem qua (hs:Sim X ok w ι H) (hw:YX w w') (hh:w'.heap = w.heap):Sim X ok w' ι H∧Evol H.length ok w ι H ok w' ι H:=by
 have hev:Evol H.length ok w ι H ok w' ι H :=
  ⟨hw.1,hw.2.1,hw.2.2,by rw [hh];exact qE _,fun _ _ _=>by rw [hh],fun _ h=>h,fun _ h _=>.inl h,⟨qE _,qE _⟩,fun _ _ ds hd=>⟨ds,hd,qE _,fun _=>rfl⟩,
   fun i ds _ s hd hi _=>⟨i,ds,s,hd,hi⟩⟩
 refine ⟨⟨fun c hc=>by rw [hh];exact hs.okS c hc,fun g cs hg=>?_,hs.inj,fun k es he=>?_⟩,hev⟩
 ·have h:=(hs.glob g cs hg).lift (ι:=ι) (H:=H);exact (h.evol hs hev rfl).free rfl _ _
 ·obtain ⟨c,arr2,e2,fr2,h1,h2,h3,h4,h5,h6,h7,h8⟩:=hs.blk k es he;exact ⟨c,arr2,e2,fr2,h1,h2,by rw [hh];exact h3,h4,h5,h6,h7,fun j d hj=>(h8 j d hj).evol hs hev (h8 j d hj).closed⟩
theorem JZ (b o j:Nat):(⟨b,o,none⟩:Addr).add j = ⟨b,o+j,none⟩:=by
 unfold Addr.add;split
 ·simp_all
 ·rfl
theorem qh9 (a:Addr) (i j:Nat):(a.add i).add j = a.add (i+j):=by
 unfold Addr.add;by_cases hi:i = 0 <;> by_cases hj:j = 0 <;> simp [hi,hj,qhB]
theorem qnc {p:D} {cs:List D} {a:Addr} (hs:Sim X ok w ι H) (hp:Rep ok w ι H p (.pointer (some a))) (hm:Yz H p = some cs) :
  (∀ d,d∈cs→jg d = true)∧∃ f:Nat→Value,∀ (j:Nat) d,cs[j]? = some d→w.cell? (a.add j) = some (f j)∧Rep ok w ι H d (f j):=by
 cases hp with
 | raw v=>simp [Yz] at hm
 | vptr a f ha hc hr h =>
  simp only [Yz,qw] at hm;subst hm;exact ⟨hc,f,fun j d hj=>⟨hr j d hj,(h j d hj).lift⟩⟩
 | optr a hi h =>
  rename_i i st off;simp only [Yz] at hm;split at hm
  ·rename_i ds hd;split at hm
   ·rename_i hst;injection hm with hm;subst hm;obtain ⟨b,s,h1,rfl⟩:=(h ds hd).2 hst;obtain ⟨b',arr,e,fr,k1,k2,k3,k4,k5,k6,k7,k8⟩:=hs.blk i ds hd;rw [h1] at k1;injection k1 with k1;injection k1 with k1 _;subst k1;refine ⟨fun d hd=>k7 d (Jq hd),fun j=>arr.getD (off+j) undef,fun j d hj=>?_⟩;rw [Qv] at hj;refine ⟨?_,k8 _ d hj⟩;have qg:off+j < arr.size:=jZ (List.getElem?_eq_some_iff.1 hj).1 k4;rw [JZ];simp [World.cell?,k3,qg]
   ·cases hm
  ·cases hm
theorem qgP {t:TypeId} {q:Bool} (h:VT P t = some q) (w:World):(isAgg t).run P w = .ok q w:=by
 unfold VT at h;unfold isAgg;rw [Sem.run_bind];cases hu:P.underlying t with
 | none=>simp [hu] at h
 | some d=>rw [run_underlying hu w];cases d <;> simp_all
theorem qzr {t:TypeId} {d:TypeDesc} (h:P.underlying t = some d):∃ i,P.info? t = some i:=by
 cases hi:P.info? t with
 | some i=>exact ⟨i,rfl⟩
 | none =>
  unfold Program.underlying at h;rw [hi] at h;simp at h
end
end Go.Ev
namespace Go.Ev
section
variable {X:Cx} {P:Program} {ok:Nat→Prop} {w w':World} {ι:qV} {H H':qe}
theorem Qy {t:TypeId} (h:0 < qv P t) (w:World):(sizeOf t).run P w = .ok (qv P t) w:=by
 unfold qv at h ⊢;cases hi:P.info? t with
 | none=>simp [hi] at h
 | some i=>simp [sizeOf,typeInfo,hi]
theorem qip {t:TypeId} {d:TypeDesc} (h:P.underlying t = some d) (w:World):(sizeOf t).run P w = .ok (qv P t) w:=by
 obtain ⟨i,hi⟩:=qzr h;simp [sizeOf,typeInfo,hi,qv]
theorem qfy {t:TypeId} (h:0 < qv P t):∃ i,P.info? t = some i∧i.size = qv P t∧i.bytes = bytesOf P t:=by
 unfold qv bytesOf at *;cases hi:P.info? t with
 | none=>simp [hi] at h
 | some i=>exact ⟨i,rfl,by simp,by simp⟩
theorem qmE {v:Value} {d:D} (h:qdB v = some d):Rep ok w ι H d v:=by
 unfold qdB at h;split at h <;> cases h
 ·exact .bool _
 ·exact .int _ _
 ·rename_i s;have:s = ⟨s.data.toList.toArray⟩:=by simp
  rw [this];exact .str _
 ·exact .nilp
 ·exact .vnil
 ·exact .nilf
 ·exact .nili
theorem qwP {v:Value} {d:D} (h:qdB v = some d):jg d = true:=by
 unfold qdB at h;split at h <;> cases h <;> rfl
theorem qmC:∀ {l:List Value} {ds:List D},qdA l = some ds→l.length = ds.length∧(∀ d,d∈ds→jg d = true)∧∀ (j:Nat) d,ds[j]? = some d→Rep ok w ι H d (l.getD j undef)
 | [],ds,h=>by
  simp only [qdA,qw] at h;subst h;simp
 | v :: l,ds,h=>by
  simp only [qdA] at h;split at h
  ·rename_i d ds' h1 h2;injection h with h;subst h;obtain ⟨k1,k2,k3⟩:=qmC h2;refine ⟨by simp [k1],?_,?_⟩
   ·intro x hx;rcases List.mem_cons.1 hx with rfl | hx
    ·exact qwP h1
    ·exact k2 x hx
   ·intro j x hx;cases j with
    | zero =>
     simp only [Z1,qw] at hx;subst hx;exact qmE h1
    | succ j=>exact k3 j x (by simpa using hx)
  ·cases h
theorem qmD {v:Value} {d:D} (h:qfq v = some d):Rep ok w ι H d v:=by
 unfold qfq at h;split at h
 ·rename_i cs;cases hv:qdA cs.toList with
  | none=>simp [hv] at h
  | some ds =>
   simp only [hv,jj,qw] at h;subst h;obtain ⟨k1,k2,k3⟩:=qmC (ok:=ok) (w:=w) (ι:=ι) (H:=H) hv;refine .agg (by simpa using k1) k2 fun j d hj=>?_;have:=k3 j d hj;simpa [jl,j8] using this
 ·exact qmE h
theorem vi (hs:Sim X ok w ι H) {e:qr} {a:Act} (he:EnvRep ok w ι H e a.tmps) {x:Operand} {d:D} (h:qW X e x = some d):Rep ok w ι H d (a.eval x):=by
 cases x with
 | tmp t=>exact (he t d h).2
 | const v=>exact qmD h
 | func f =>
  simp only [qW,qw] at h;subst h;exact .fn rfl (by simp)
 | global g =>
  simp only [qW] at h;cases hg:X.glob g with
  | none=>simp [hg] at h
  | some cs =>
   simp only [hg,jj,qw] at h;subst h;exact (hs.glob g cs hg).lift
theorem qfo (hs:Sim X ok w ι H) {e:qr} {a:Act} (he:EnvRep ok w ι H e a.tmps):∀ {l:List Operand} {ds:List D},vL X e l = some ds→RepL ok w ι H ds (l.map a.eval)
 | [],ds,h=>by
  simp only [vL,qw] at h;subst h;exact ⟨rfl,by simp⟩
 | x :: l,ds,h=>by
  simp only [vL] at h;split at h
  ·rename_i d ds' h1 h2;injection h with h;subst h;obtain ⟨k1,k2⟩:=qfo hs he h2;refine ⟨by simpa using k1,fun j x hx=>?_⟩;cases j with
   | zero =>
    simp only [Z1,qw] at hx;subst hx;exact vi hs he h1
   | succ j=>exact k2 j x (by simpa using hx)
  ·cases h
def Post (X:Cx) (n:Nat) (ok:Nat→Prop) (w:World) (ι:qV) (H:qe) (d:D) (H':qe) (v:Value) (w':World):Prop :=
 ∃ ι' ok',Sim X ok' w' ι' H'∧Rep ok' w' ι' H' d v∧Evol n ok w ι H ok' w' ι' H'
theorem Post.same (hs:Sim X ok w ι H) {d:D} {v:Value} (h:Rep ok w ι H d v):Post X H.length ok w ι H d H v w :=
 ⟨ι,ok,hs,h,.refl _ (qE _)⟩
theorem qaS {d:D} {v:Value} {cs:List D} (h:Rep ok w ι H d v) (hc:cellsOf d = some cs) :
  v.cells.size = cs.length∧(∀ d,d∈cs→jg d = true)∧∀ (j:Nat) d,cs[j]? = some d→Rep ok w ι H d (v.cells.getD j undef):=by
 have one:∀ {d:D} {v:Value},Rep ok w ι H d v→jg d = true→v.cells = #[v]→(#[v]:Array Value).size = [d].length∧(∀ x,x∈[d]→jg x = true)∧∀ (j:Nat) x,[d][j]? = some x→Rep ok w ι H x ((#[v]:Array Value).getD j undef):=by
  intro d v h hd _;refine ⟨rfl,by simpa using hd,fun j x hx=>?_⟩;cases j with
  | zero =>
   simp only [Z1,qw] at hx;subst hx;exact h
  | succ j=>simp at hx
 cases h with
 | agg hl hcs h =>
  simp only [cellsOf,qw] at hc;subst hc;exact ⟨hl,hcs,h⟩
 | tup hl h=>simp [cellsOf] at hc
 | raw v=>simp [cellsOf] at hc
 | bool b=>simp only [cellsOf,qw] at hc;subst hc;exact one (.bool b) rfl rfl
 | int k n=>simp only [cellsOf,qw] at hc;subst hc;exact one (.int k n) rfl rfl
 | str s=>simp only [cellsOf,qw] at hc;subst hc;exact one (.str s) rfl rfl
 | nilp=>simp only [cellsOf,qw] at hc;subst hc;exact one .nilp rfl rfl
 | nilf=>simp only [cellsOf,qw] at hc;subst hc;exact one .nilf rfl rfl
 | nili=>simp only [cellsOf,qw] at hc;subst hc;exact one .nili rfl rfl
 | vptr a f ha Vl hr h=>simp only [cellsOf,qw] at hc;subst hc;exact one (.vptr a f ha Vl hr h) rfl rfl
 | optr a hi h=>simp only [cellsOf,qw] at hc;subst hc;exact one (.optr a hi h) rfl rfl
 | vnil=>simp only [cellsOf,qw] at hc;subst hc;exact one .vnil rfl rfl
 | vsl a f ha Vl hr h zo=>simp only [cellsOf,qw] at hc;subst hc;exact one (.vsl a f ha Vl hr h zo) rfl rfl
 | osl a hi h zo=>simp only [cellsOf,qw] at hc;subst hc;exact one (.osl a hi h zo) rfl rfl
 | fn hl h=>simp only [cellsOf,qw] at hc;subst hc;exact one (.fn hl h) rfl rfl
 | iface h=>simp only [cellsOf,qw] at hc;subst hc;exact one (.iface h) rfl rfl
theorem Rep.ptr {p:D} {v:Value} {cs:List D} (h:Rep ok w ι H p v) (hm:Yz H p = some cs):∃ a,v = .pointer (some a):=by
 cases h <;> first | (simp [Yz] at hm;done) | exact ⟨_,rfl⟩
theorem q0p {f:Nat→Value} {n j:Nat} (h:j < n):(((List.range n).map f).toArray).getD j undef = f j:=by
 simp [h]
theorem qno {p d:D} {pv:Value} {t:TypeId} (hs:Sim X ok w ι H) (hp:Rep ok w ι H p pv) (h:ldD P H t p = some d) :
  ∃ v,(Instr.loadAt t pv).run P w = .ok v w∧Rep ok w ι H d v:=by
 unfold ldD at h;split at h
 ·rename_i cs hq hm;split at h
  ·rename_i jx;injection h with h;subst h;obtain ⟨a,rfl⟩:=hp.ptr hm;obtain ⟨hc,f,hf⟩:=qnc hs hp hm;have qg:∀ j,j < qv P t→∃ d,cs[j]? = some d:=fun j hj=>⟨cs[j],zn (by omega)⟩
   have hl:=run_loadCells (P:=P) w a (qv P t) f (fun j hj=>by
    obtain ⟨d,hd⟩:=qg j hj;exact (hf j d hd).1)
   have hu:∃ dsc,P.underlying t = some dsc:=by
    unfold VT at hq;cases hu:P.underlying t with
    | none=>simp [hu] at hq
    | some x=>exact ⟨x,rfl⟩
   obtain ⟨dsc,hu⟩:=hu;refine ⟨.agg ((List.range (qv P t)).map f).toArray,?_,?_⟩
   ·simp [Instr.loadAt,Instr.sureAddr,loadVar,qgP hq,qip hu,hl]
   ·refine .agg (by simp;omega) (fun d hd=>hc d (Vx hd)) fun j d hj=>?_;rw [KN] at hj;split at hj
    ·rename_i zO;rw [q0p zO];exact (hf j d hj).2
    ·cases hj
  ·cases h
 ·rename_i d' rest hq hm;injection h with h;subst h;obtain ⟨a,rfl⟩:=hp.ptr hm;obtain ⟨hc,f,hf⟩:=qnc hs hp hm;obtain ⟨h1,h2⟩:=hf 0 d' rfl;refine ⟨f 0,?_,h2⟩;have:a.add 0 = a:=rfl;rw [this] at h1;simp [Instr.loadAt,Instr.sureAddr,loadVar,qgP hq,h1]
 ·cases h
theorem Ye {b o:Nat} {arr:Array Value} {e:TypeId} {fr:Nat × Nat} (h:w.heap[b]? = some (.cells arr e fr)):w.cell? ⟨b,o,none⟩ = arr[o]?:=by
 simp [World.cell?,h]
theorem qhc {b o:Nat} {arr:Array Value} {e:TypeId} {fr:Nat × Nat} (h:w.heap[b]? = some (.cells arr e fr)):w.frozen? ⟨b,o,none⟩ = (decide (fr.1≤o) && decide (o < fr.2)):=by
 simp [World.frozen?,h]
theorem qge (b o:Nat) (e:TypeId) (fr:Nat × Nat):∀ (vs:List Value) (i:Nat) (arr:Array Value) (w:World),w.heap[b]? = some (.cells arr e fr)→o+i+vs.length≤arr.size →
  (∀ v,v∈vs→v.oneCell' = true)→(∀ j,j < arr.size→¬ (fr.1≤j∧j < fr.2)) →
  ∃ w' arr',(storeCells ⟨b,o,none⟩ vs i).run P w = .ok () w'∧YX w w'∧w'.heap.size = w.heap.size∧(∀ c,c≠b→w'.heap[c]? = w.heap[c]?)∧w'.heap[b]? = some (.cells arr' e fr)∧arr'.size = arr.size ∧
   ∀ j,arr'[j]? = if o+i≤j∧j < o+i+vs.length then vs[j - (o+i)]? else arr[j]?
 | [],i,arr,w,hb,hl,h1,hz=>by
  refine ⟨w,arr,rfl,⟨rfl,rfl,rfl⟩,rfl,fun _ _=>rfl,hb,rfl,fun j=>?_⟩;rw [if_neg (by simp)]
 | v :: vs,i,arr,w,hb,hl,h1,hz=>by
  simp only [vn] at hl;have qg:o+i < arr.size:=by omega
  have Zx:w.cell? ⟨b,o+i,none⟩ = some arr[o+i]:=by rw [Ye hb];simp [qg]
  have QA:w.frozen? ⟨b,o+i,none⟩ = false:=by
   rw [qhc hb];have:=hz _ qg;simp only [Bool.and_eq_false_iff,decide_eq_false_iff_not];omega
  have kQ:(w.setCell ⟨b,o+i,none⟩ v).heap[b]? = some (.cells (arr.setIfInBounds (o+i) v) e fr):=by
   simp [World.setCell,qk3,hb]
  obtain ⟨w',arr',k1,k2,k3,k4,k5,k6,k7⟩:=qge b o e fr vs (i+1) (arr.setIfInBounds (o+i) v) (w.setCell ⟨b,o+i,none⟩ v) kQ (by simp;omega)
   (fun u hu=>h1 u (Jr _ hu)) (by simpa using hz)
  refine ⟨w',arr',?_,⟨k2.1,k2.2.1,k2.2.2⟩,by simpa [World.setCell] using k3,?_,k5,by simpa using k6,?_⟩
  ·simp only [storeCells,Sem.run_bind,JZ,run_store P w _ v .plain (h1 v (VW ..)),Zx,QA,QE,if_false,Result.andThen_ok];exact k1
  ·intro c hc;rw [k4 c hc];simp [World.setCell,qk3,Ne.symm hc]
  ·intro j;rw [k7 j];simp only [vn];by_cases hj:j = o+i
   ·subst hj;rw [if_neg (by omega),if_pos (by omega)];simp [qg]
   ·by_cases hr:o+(i+1)≤j∧j < o+(i+1)+vs.length
    ·rw [if_pos hr,if_pos (by omega)];have:j - (o+i) = (j - (o+(i+1)))+1:=(by omega);rw [this,qdv]
    ·rw [if_neg hr,if_neg (by omega)];rw [qeI (by omega)]
theorem qeh {ds xs:List D} {off:Nat} (h:off+xs.length≤ds.length):(zM ds off xs).length = ds.length:=by
 simp [zM];omega
theorem qlu {ds xs:List D} {off:Nat} (h:off+xs.length≤ds.length) (j:Nat):(zM ds off xs)[j]? = if off≤j∧j < off+xs.length then xs[j - off]? else ds[j]?:=by
 unfold zM;have hl:(ds.take off).length = off:=by simp;omega
 by_cases h1:j < off
 ·rw [if_neg (by omega),Qj,kg (by omega),KN,if_pos h1]
 ·by_cases h2:j < off+xs.length
  ·rw [if_pos (by omega),Qj,kU (by omega),kg (by omega),hl]
  ·rw [if_neg (by omega),kU (by simp;omega),Qv];congr 1;simp;omega
theorem qnb {ds xs:List D} {off:Nat} {d:D} (h:d∈zM ds off xs):d∈ds∨d∈xs:=by
 unfold zM at h;simp only [vW] at h;rcases h with (h | h) | h
 ·exact .inl (Vx h)
 ·exact .inr h
 ·exact .inl (Jq h)
theorem qhQ {i st off b sz:Nat} {ds xs:List D} {vs:List Value} {a:Addr} (hs:Sim X ok w ι H) (hd:qf H i = some ds) (_hst:ds.length = st) (hι:ι i = some (b,sz)) (ha:a = ⟨b,off,none⟩)
  (jx:off+xs.length≤ds.length) (hl:vs.length = xs.length) (hc:∀ d,d∈xs→jg d = true) (hx:∀ (j:Nat) d,xs[j]? = some d→Rep ok w ι H d (vs.getD j undef)) :
  ∃ w' ι',(storeCells a vs).run P w = .ok () w'∧Sim X ok w' ι' (qn H i (zM ds off xs))∧Evol H.length ok w ι H ok w' ι' (qn H i (zM ds off xs)):=by
 obtain ⟨b',arr,e,fr,k1,k2,k3,k4,k5,k6,k7,k8⟩:=hs.blk i ds hd;rw [hι] at k1;injection k1 with k1;injection k1 with k1 k1';subst k1;subst ha
 have Q6:∀ v,v∈vs→v.oneCell' = true:=by
  intro v hv;obtain ⟨j,hj⟩:=List.mem_iff_getElem?.1 hv;have zO:j < vs.length:=(List.getElem?_eq_some_iff.1 hj).1;have Y7:xs[j]? = some (xs[j]'(by omega)):=zn (by omega);have h:=hx j _ Y7;rw [j8,hj] at h;exact h.oneCell (hc _ (mem_of_get? Y7))
 obtain ⟨w',arr',q1,q2,q3,q4,q5,q6,q7⟩:=qge (P:=P) b off e fr vs 0 arr w k3 (by omega) Q6 (qha k5)
 have qf:∀ j,j < arr.size→arr'.getD j undef = if off≤j∧j < off+xs.length then vs.getD (j - off) undef else arr.getD j undef:=by
  intro j hj;simp only [jl,q7 j,j8,Nat.add_zero,hl];split <;> rfl
 obtain ⟨ι',r1,r2,r3⟩:=qeQ (i:=i) (ds:=ds) (ds':=zM ds off xs) (b:=b) (sz:=sz) (b':=b) (arr':=arr') (e:=e) (fr:=fr) (w':=w') hs hd hι q2 (by omega) (fun c _ hc=>q4 c hc) q5 (.inl ⟨rfl,by omega⟩)
  (by rw [qeh jx];exact qE _) (by rw [qeh jx];omega) (by rw [q6];exact k5)
  (by
   intro j hj;rw [q6] at hj;rw [qf j hj];by_cases hr:off≤j∧j < off+xs.length
   ·rw [if_pos hr];have:j - off < vs.length:=(by omega);rw [j8,zn this];exact Q6 _ (v6 this)
   ·rw [if_neg hr];exact k6 j hj)
  (by
   intro d zB;rcases qnb zB with h | h
   ·exact k7 d h
   ·exact hc d h)
  (by
   intro j d hj
   have zO:j < ds.length:=by
    have:=(List.getElem?_eq_some_iff.1 hj).1
    rwa [qeh jx] at this
   rw [qf j (by omega)];rw [qlu jx] at hj;split at hj
   ·rename_i hr;rw [if_pos hr];exact hx _ d hj
   ·rename_i hr;rw [if_neg hr];exact k8 j d hj)
 exact ⟨w',ι',q1,r1,r2⟩
theorem qtZ {p x:D} {pv xv:Value} {t:TypeId} (hs:Sim X ok w ι H) (hp:Rep ok w ι H p pv) (hx:Rep ok w ι H x xv) (h:stD P H t p x = some H') :
  ∃ w' ι',(Instr.storeAt t pv xv).run P w = .ok () w'∧Sim X ok w' ι' H'∧Evol H.length ok w ι H ok w' ι' H':=by
 unfold stD at h;split at h
 ·rename_i i st off xs hcs;split at h
  ·rename_i ds hd;split at h
   ·rename_i hcond;obtain ⟨h1,h2,h3,h4,_⟩:=hcond;injection h with h;subst h;cases hp with
    | optr a hi hh =>
     obtain ⟨b,s,hι,rfl⟩:=(hh ds hd).2 h1;obtain ⟨c1,c2,c3⟩:=qaS hx hcs
     obtain ⟨w',ι',q1,q2,q3⟩:=qhQ (P:=P) (vs:=xv.cells.toList) hs hd h1 hι rfl h4 (by simpa using c1) c2 (fun j d hj=>by
      have:=c3 j d hj;simpa [jl,j8] using this)
     refine ⟨w',ι',?_,q2,q3⟩;simp [Instr.storeAt,Instr.sureAddr,storeVar,Qy h3,c1,h2,q1]
   ·cases h
  ·cases h
 ·cases h
end
end Go.Ev
namespace Go.Ev
section
variable {X:Cx} {P:Program} {ok:Nat→Prop} {w w':World} {ι:qV} {H H':qe}
theorem qmo {p p':D} {v:Value} {k:Nat} (hp:Rep ok w ι H p v) (h:qfl k p = some p'):∃ a,v = .pointer (some a)∧Rep ok w ι H p' (.pointer (some (a.add k))):=by
 cases hp <;> simp only [qfl,reduceCtorEq] at h
 ·rename_i ds a f ha hc hr hh;injection h with h;subst h;refine ⟨a,rfl,.vptr (a.add k) (fun j=>f (k+j)) (fun d hd=>by rw [qdW];exact ha d (Jq hd)) (fun d hd=>hc d (Jq hd)) (fun j d hj=>?_) (fun j d hj=>?_)⟩
  ·rw [qh9];exact hr _ d (by simpa [Qv] using hj)
  ·exact hh _ d (by simpa [Qv] using hj)
 ·rename_i i st off a hi hh;injection h with h;subst h;refine ⟨a,rfl,.optr _ hi fun ds hd=>⟨(hh ds hd).1,fun e=>?_⟩⟩;obtain ⟨b,s,h1,rfl⟩:=(hh ds hd).2 e;exact ⟨b,s,h1,JZ _ _ _⟩
theorem q0J {s:TypeId} {p p':D} {v:Value} {f:Nat} (hp:Rep ok w ι H p v) (h:qhh P s p f = some p') :
  ∃ v',(Instr.fieldAt s v f).run P w = .ok v' w∧Rep ok w ι H p' v':=by
 unfold qhh qf7 at h;cases hu:P.underlying s with
 | none=>simp [hu] at h
 | some d =>
  cases d <;> simp only [hu,reduceCtorEq] at h;rename_i fs;cases hf:fs[f]? with
  | none=>simp [hf] at h
  | some fd =>
   simp only [hf] at h;split at h
   ·cases h
   ·rename_i hz;obtain ⟨a,rfl,hr⟩:=qmo hp h;refine ⟨_,?_,hr⟩;simp [Instr.fieldAt,run_underlying hu,hf,Instr.sureAddr,fieldPlace,Qy (Nat.pos_of_ne_zero hz),hz]
theorem qzu {t:TypeId} {x i p':D} {v iv:Value} (hx:Rep ok w ι H x v) (hi:Rep ok w ι H i iv) (h:qgT P t x i = some p') :
  ∃ v',(Instr.indexAt t v iv).run P w = .ok v' w∧Rep ok w ι H p' v':=by
 unfold qgT at h;split at h
 ·rename_i n e k i hu;split at h
  ·rename_i hc;obtain ⟨a,rfl,hr⟩:=qmo hx h;cases hi;refine ⟨_,?_,hr⟩;simp [Instr.indexAt,asIntOf,run_underlying hu,Instr.sureAddr,hc.1,hc.2.1,Qy hc.2.2]
  ·cases h
 ·rename_i e cs len k i hu;split at h
  ·rename_i hc;injection h with h;subst h;cases hi;cases hx with
   | vsl a f ha Xi hr hh zo =>
    refine ⟨.pointer (some (a.add (i.toNat * qv P e))),?_,.vptr _ (fun j=>f (i.toNat * qv P e+j)) (fun d hd=>by rw [qdW];exact ha d (Jq hd)) (fun d hd=>Xi d (Jq hd)) (fun j d hj=>?_) (fun j d hj=>?_)⟩
    ·simp [Instr.indexAt,asIntOf,run_underlying hu,hc.1,hc.2.1,Qy hc.2.2]
    ·rw [qh9];exact hr _ d (by simpa [Qv] using hj)
    ·exact hh _ d (by simpa [Qv] using hj)
  ·cases h
 ·rename_i e id st off len k' k i hu;split at h
  ·rename_i hc;injection h with h;subst h;cases hi;cases hx with
   | osl a hi hh zo =>
    refine ⟨.pointer (some (a.add (i.toNat * qv P e))),?_,.optr _ hi fun ds hd=>⟨(hh ds hd).1,fun e=>?_⟩⟩
    ·simp [Instr.indexAt,asIntOf,run_underlying hu,hc.1,hc.2.1,Qy hc.2.2]
    ·obtain ⟨b,s,h1,rfl,_⟩:=(hh ds hd).2 e;exact ⟨b,s,h1,JZ _ _ _⟩
  ·cases h
 ·cases h
theorem qeo {t:TypeId} {cs:List D} {vs:Array Value} {off:Nat} {d:D} (hx:Rep ok w ι H (.agg cs) (.agg vs)) (h:qal P t cs off = some d) :
  ∃ v,(part t vs off).run P w = .ok v w∧Rep ok w ι H d v:=by
 cases hx with
 | agg hl hc hh =>
  unfold qal at h;split at h
  ·rename_i hq;split at h
   ·rename_i jx;injection h with h;subst h
    obtain ⟨dsc,hu⟩:∃ dsc,P.underlying t = some dsc:=by
     unfold VT at hq;cases hu:P.underlying t with
     | none=>simp [hu] at hq
     | some x=>exact ⟨x,rfl⟩
    refine ⟨.agg (vs.extract off (off+qv P t)),by simp [part,qgP hq,qip hu],?_⟩;refine .agg (by simp;omega) (fun d hd=>hc d (Jq (Vx hd))) fun j d hj=>?_;rw [KN] at hj;split at hj
    ·rename_i zO;rw [Qv] at hj;have:=hh _ d hj;rw [jl] at this ⊢;rw [Array.getElem?_extract];rw [if_pos (by omega)];exact this
    ·cases hj
   ·cases h
  ·rename_i hq;have qg:off < vs.size:=(by rw [hl];exact (List.getElem?_eq_some_iff.1 h).1);refine ⟨vs[off],by simp [part,qgP hq,qg],?_⟩;have:=hh _ d h;rw [jl,Z2 qg] at this;exact this
  ·cases h
theorem q0I {s:TypeId} {x d:D} {v:Value} {f:Nat} (hx:Rep ok w ι H x v) (h:qhg P s x f = some d) :
  ∃ v',(Instr.field s v f).run P w = .ok v' w∧Rep ok w ι H d v':=by
 unfold qhg qf7 at h;cases hu:P.underlying s with
 | none=>simp [hu] at h
 | some dd =>
  cases dd <;> simp only [hu,reduceCtorEq] at h;rename_i fs;cases hf:fs[f]? with
  | none=>simp [hf] at h
  | some fd =>
   simp only [hf] at h;cases hx <;> simp only [reduceCtorEq] at h;rename_i ds vs hl hc hh;obtain ⟨v',h1,h2⟩:=qeo (Rep.agg hl hc hh) h;exact ⟨v',by simp [Instr.field,run_underlying hu,hf,asAgg,h1],h2⟩
theorem qzs {t:TypeId} {x i d:D} {v iv:Value} (hx:Rep ok w ι H x v) (hi:Rep ok w ι H i iv) (h:qgS P t x i = some d) :
  ∃ v',(Instr.index t v iv).run P w = .ok v' w∧Rep ok w ι H d v':=by
 unfold qgS at h;split at h
 ·rename_i n e cs k i hu;split at h
  ·rename_i hc;cases hi;cases hx with
   | agg hl Xi hh =>
    obtain ⟨v',h1,h2⟩:=qeo (Rep.agg hl Xi hh) h;refine ⟨v',?_,h2⟩
    have hz:(sizeOf e).run P w = .ok (qv P e) w:=by
     unfold qal VT at h;cases hu:P.underlying e with
     | none=>simp [hu] at h
     | some x=>exact qip hu w
    simp [Instr.index,asIntOf,run_underlying hu,hc.1,hc.2,hz,h1]
  ·cases h
 ·rename_i s k i hu;split at h
  ·rename_i hc;cases hi;cases hx;cases hb:s[i.toNat]? with
   | none=>simp [hb] at h
   | some b =>
    simp only [hb,jj,qw] at h;subst h;have qg:i.toNat < s.length:=(List.getElem?_eq_some_iff.1 hb).1;refine ⟨.int .u8 b.toNat,?_,.int _ _⟩
    have hg:(⟨s.toArray⟩:ByteArray)[i.toNat]? = some b:=by
     have e1:s[i.toNat] = b:=(List.getElem?_eq_some_iff.1 hb).2;rw [getElem?_pos (⟨s.toArray⟩:ByteArray) i.toNat (by simpa [ByteArray.size] using qg)];rw [← e1];rfl
    simp [Instr.index,asIntOf,run_underlying hu,hc,hg]
  ·cases h
 ·cases h
theorem qzp {op:BinOp} {t:TypeId} {k:IntKind} {a b:Int} {d:D} (h1:op≠.shl) (h2:op≠.shr) (h:jQ op k a b = some d) :
  ∃ v,(binOp op t (.int k a) (.int k b)).run P w = .ok v w∧Rep ok w ι H d v:=by
 cases op <;> simp only [jQ,Yf,JK,qH,qbS,reduceCtorEq,qw,ne_eq] at h h1 h2
 case quo =>
  split at h
  ·cases h
  ·rename_i hb;injection h with h;subst h;exact ⟨_,by simp [binOp,Op.intDiv,hb],.int _ _⟩
 case rem =>
  split at h
  ·cases h
  ·rename_i hb;injection h with h;subst h;exact ⟨_,by simp [binOp,Op.intDiv,hb],.int _ _⟩
 case add | sub | mul =>
  subst h;exact ⟨_,by simp [binOp,Op.intArith],.int _ _⟩
 case and | or | xor | andNot =>
  subst h;exact ⟨_,by simp only [binOp,ne_eq,not_true_eq_false,if_false];rfl,.int _ _⟩
 all_goals
  subst h;exact ⟨_,by simp [binOp,Op.intCmp],.bool _⟩
theorem qls {op:BinOp} {t:TypeId} {k k':IntKind} {a b:Int} {d:D} (ho:op = .shl∨op = .shr) (h:qeV op k a b = some d) :
  ∃ v,(binOp op t (.int k a) (.int k' b)).run P w = .ok v w∧Rep ok w ι H d v:=by
 unfold qeV at h;split at h
 ·cases h
 ·rename_i hb;rcases ho with rfl | rfl <;> simp only [qw] at h <;> subst h
  ·exact ⟨_,by simp [binOp,Op.shift,hb],.int _ _⟩
  ·exact ⟨_,by simp [binOp,Op.shift,hb],.int _ _⟩
theorem qtY {op:BinOp} {t:TypeId} {x y:List UInt8} {d:D} (h:strD op x y = some d) :
  ∃ v,(binOp op t (.string ⟨x.toArray⟩) (.string ⟨y.toArray⟩)).run P w = .ok v w∧Rep ok w ι H d v:=by
 cases op <;> simp only [strD,reduceCtorEq] at h
 case add =>
  split at h
  ·rename_i hl;injection h with h;subst h;refine ⟨.string ⟨(x ++ y).toArray⟩,?_,.str _⟩
   have e:(⟨x.toArray⟩:ByteArray) ++ ⟨y.toArray⟩ = ⟨(x ++ y).toArray⟩:=by
    apply ByteArray.ext;simp
   simp only [binOp,Op.stringOp,e];rw [if_neg]
   ·rfl
   ·simp [ByteArray.size,IntKind.max,IntKind.bits,IntKind.signed];omega
  ·cases h
 all_goals
  injection h with h;subst h;exact ⟨_,by simp [binOp,Op.stringOp],.bool _⟩
theorem qt8 {op:UnOp} {x d:D} {v:Value} (hx:Rep ok w ι H x v) (h:unD op x = some d) :
  ∃ v',(Op.unary op v).run P w = .ok v' w∧Rep ok w ι H d v':=by
 unfold unD at h;split at h <;> cases h <;> cases hx
 ·exact ⟨_,by simp [Op.unary,Op.intArith],.int _ _⟩
 ·exact ⟨_,by simp [Op.unary,Op.intBits],.int _ _⟩
 ·exact ⟨_,by simp [Op.unary],.bool _⟩
end
end Go.Ev
namespace Go.Ev
section
variable {X:Cx} {P:Program} {ok:Nat→Prop} {w w':World} {ι:qV} {H H':qe}
theorem qko {w w1:World} (h:w1.heap = w.heap) (a:Addr):w1.cell? a = w.cell? a:=by simp [World.cell?,h]
theorem qll {k n:Nat} {x:D} {v:Value} {cs:List D} (hs:Sim X ok w ι H) (hx:Rep ok w ι H x v) (h:Yn H k x = some (cs,n)) :
  cs.length = n * k∧(∀ d,d∈cs→jg d = true)∧∃ A c,v = .slice A n c∧n≤c∧(A = none→n = 0) ∧
   ∃ f:Nat→Value,∀ (j:Nat) d,cs[j]? = some d→∃ a,A = some a∧w.cell? (a.add j) = some (f j)∧Rep ok w ι H d (f j):=by
 cases hx with
 | vnil =>
  simp only [Yn] at h;split at h
  ·rename_i hl;injection h with h;injection h with h1 h2;subst h1;subst h2;exact ⟨hl,by simp,none,0,rfl,qE _,fun _=>rfl,fun _=>undef,by simp⟩
  ·cases h
 | vsl a f ha hc hr hh zo =>
  simp only [Yn] at h;split at h
  ·rename_i hl;injection h with h;injection h with h1 h2;subst h1;subst h2;exact ⟨hl,hc,some a,_,rfl,zo,fun h=>by (cases h),f,fun j d hj=>⟨a,rfl,hr j d hj,(hh j d hj).lift⟩⟩
  ·cases h
 | @osl _ _ i st off len k' c a hi hh zo =>
  simp only [Yn] at h;split at h
  ·rename_i ds hd;split at h
   ·rename_i hcond;obtain ⟨h1,h2,h3⟩:=hcond;injection h with h;injection h with h4 h5;subst h4;subst h5;obtain ⟨b,s,q1,rfl,q3⟩:=(hh ds hd).2 h1;obtain ⟨b',arr,e,fr,k1,k2,k3,k4,k5,k6,k7,k8⟩:=hs.blk i ds hd;rw [q1] at k1;injection k1 with k1;injection k1 with k1 _;subst k1;refine ⟨by simp;omega,fun d hd=>k7 d (Jq (Vx hd)),some ⟨b,off,none⟩,c,rfl,zo,(fun h=>by cases h),fun j=>arr.getD (off+j) undef,fun j d hj=>⟨_,rfl,?_⟩⟩;rw [KN] at hj;split at hj
    ·rw [Qv] at hj;have qg:off+j < arr.size:=jZ (List.getElem?_eq_some_iff.1 hj).1 k4;refine ⟨?_,k8 _ d hj⟩;rw [JZ,Ye k3];simp [qg]
    ·cases hj
   ·cases h
  ·cases h
 | _=>simp [Yn] at h
def Yx (s:List UInt8):List Value:=s.map fun b=>.int .u8 (b.toNat:Int)
theorem qiZ (s:List UInt8) (j:Nat) (d:D) (h:(qd s)[j]? = some d):Rep ok w ι H d (((Yx s)).getD j undef):=by
 unfold qd at h;rw [VX] at h;cases hj:s[j]? with
 | none=>simp [hj] at h
 | some b =>
  simp only [hj,jj,qw] at h;subst h
  have:(Yx s).getD j undef = .int .u8 (b.toNat:Int):=by
   unfold Yx;simp [j8,hj]
  rw [this];exact .int _ _
theorem qle {k m:Nat} {xt:TypeId} {x:D} {v:Value} {xs:List D} (hs:Sim X ok w ι H) (hx:Rep ok w ι H x v) (h:qeS P H k xt x = some (xs,m)) :
  xs.length = m * k∧(∀ d,d∈xs→jg d = true)∧(∃ dsc,P.underlying xt = some dsc∧∀ q,dsc≠.int q) ∧
  (∀ w1:World,(Builtin.lenOf v).run P w1 = .ok m w1) ∧
  ∀ n,n≤m→∃ vs:List Value,vs.length = n * k∧(∀ w1:World,w1.heap = w.heap→(Builtin.firstCells k n v).run P w1 = .ok vs.toArray w1) ∧
   ∀ (j:Nat) d,j < n * k→xs[j]? = some d→Rep ok w ι H d (vs.getD j undef):=by
 unfold qeS at h;split at h
 ·rename_i b hu;split at h
  ·rename_i hk;subst hk;injection h with h;injection h with h1 h2;subst h1;subst h2;cases hx;refine ⟨by simp [qd],?_,⟨_,hu,fun q=>by simp⟩,fun w1=>by simp [Builtin.lenOf,ByteArray.size],fun n hn=>⟨(Yx b).take n,by simp [Yx];omega,fun w1 _=>?_,fun j d hj hd=>?_⟩⟩
   ·intro d hd;simp only [qd,ZM] at hd;obtain ⟨_,_,rfl⟩:=hd;rfl
   ·have he:(⟨b.toArray⟩:ByteArray).extract 0 n = ⟨(b.take n).toArray⟩:=by
     apply ByteArray.ext;simp
    simp [Builtin.firstCells,he,Yx,List.map_take]
   ·have h:=qiZ (ok:=ok) (w:=w) (ι:=ι) (H:=H) b j d hd;rw [j8] at h ⊢;rw [KN,if_pos (by omega)];exact h
  ·cases h
 ·rename_i e hu;obtain ⟨h1,h2,A,c,rfl,zo,hA,f,hf⟩:=qll hs hx h;refine ⟨h1,h2,⟨_,hu,fun q=>by simp⟩,fun w1=>by simp [Builtin.lenOf],fun n hn=>?_⟩;have qg:∀ j,j < n * k→∃ d,xs[j]? = some d:=fun j hj=>⟨xs[j]'(by have:=qaX k hn;omega),zn _⟩;cases A with
  | none =>
   have hm:m = 0:=hA rfl;subst hm;have Qr:n = 0:=(by omega);subst Qr;exact ⟨[],by simp,fun w1 _=>by simp [Builtin.firstCells],fun j d hj _=>by simp at hj⟩
  | some a =>
   refine ⟨(List.range (n * k)).map f,by simp,fun w1 jb=>?_,fun j d hj hd=>?_⟩
   ·have hl:=run_loadCells (P:=P) w1 a (n * k) f (fun j hj=>by
     obtain ⟨d,hd⟩:=qg j hj;obtain ⟨a',YK,hc,_⟩:=hf j d hd;injection YK with YK;subst YK;rw [qko jb];exact hc)
    simp [Builtin.firstCells,hl]
   ·obtain ⟨_,_,_,hr⟩:=hf j d hd;rw [j8];simpa [hj] using hr
 ·cases h
theorem qeK {t:TypeId} {z:D} (h:KQ P t = some z):∃ v,(∀ w1:World,(zeroValue t).run P w1 = .ok v w1)∧∀ (ok:Nat→Prop) (w:World) (ι:qV) (H:qe),Rep ok w ι H z v:=by
 unfold KQ at h;cases hi:P.info? t with
 | none=>simp [hi] at h
 | some i =>
  cases hz:i.zero with
  | none=>simp [hi,hz] at h
  | some v =>
   simp only [hi,hz,qaW] at h;exact ⟨v,fun w1=>by simp [zeroValue,typeInfo,hi,hz],fun ok w ι H=>qmD h⟩
theorem q09 {z:List D} {n j:Nat} (h:j < n * z.length):((List.replicate n z).flatten)[j]? = z[j % z.length]?:=by
 induction n generalizing j with
 | zero=>omega
 | succ n ih =>
  rw [KM,qeG];by_cases hj:j < z.length
  ·rw [kg hj,qeF hj]
  ·have hz:z.length≤j:=(by omega);have h':j < n * z.length+z.length:=(by rw [← Nat.succ_mul];exact h);rw [kU hz,ih (by omega)];congr 1;rw [Nat.mod_eq_sub_mod hz]
theorem qaY {t:TypeId} {n:Nat} {zs:List D} (h:V0 P t n = some zs):∃ v,(∀ w1:World,(zeroValue t).run P w1 = .ok v w1)∧v.cells.size = qv P t∧0 < qv P t∧zs.length = n * qv P t ∧
  (∀ d,d∈zs→jg d = true)∧(∀ j,j < qv P t→(v.cells.getD j undef).oneCell' = true) ∧
  ∀ (ok:Nat→Prop) (w:World) (ι:qV) (H:qe) (j:Nat) d,zs[j]? = some d→Rep ok w ι H d (v.cells.getD (j % qv P t) undef):=by
 unfold V0 at h;split at h
 ·rename_i z hz;split at h
  ·rename_i hl;obtain ⟨hl,QT⟩:=hl;injection h with h;subst h;cases Y5:KQ P t with
   | none=>simp [Y5] at hz
   | some zd =>
    simp only [Y5,qaW] at hz;obtain ⟨v,hv,hr⟩:=qeK Y5;obtain ⟨c1,c2,_⟩:=qaS (hr (fun _=>True) default jh []) hz;refine ⟨v,hv,by omega,QT,by simp [hl],?_,?_,?_⟩
    ·intro d hd;rw [List.mem_flatten] at hd;obtain ⟨l,h1,h2⟩:=hd;rw [(List.mem_replicate.1 h1).2] at h2;exact c2 d h2
    ·intro j hj;obtain ⟨_,c2,c3⟩:=qaS (hr (fun _=>True) default jh []) hz;have hz':z[j]? = some (z[j]'(by omega)):=zn (by omega);exact (c3 j _ hz').oneCell (c2 _ (mem_of_get? hz'))
    ·intro ok w ι H j d hj
     have zO:j < n * z.length:=by
      have:=(List.getElem?_eq_some_iff.1 hj).1;simpa using this
     rw [q09 zO,hl] at hj;obtain ⟨_,_,c3⟩:=qaS (hr ok w ι H) hz;exact c3 _ d hj
  ·cases h
 ·cases h
theorem qhN {z:Array Value} {n j:Nat} (h:j < n * z.size):(Builtin.zeroCells z n)[j]? = some (z.getD (j % z.size) undef):=by
 unfold Builtin.zeroCells
 have hz:0 < z.size:=by
  rcases Nat.eq_zero_or_pos z.size with h0 | h0
  ·rw [h0] at h;omega
  ·exact h0
 have hm:=Yh j hz;rw [Array.getElem?_map,Array.getElem?_range];simp only [h,if_true,jj,qw];rw [jl,Z2 hm];simp [hm]
theorem qeq {ds:List D} {arr:Array Value} {e:TypeId} (hs:Sim X ok w ι H) (w1:World) (jb:YX w w1) (hh:w1.heap = w.heap) (hl:ds.length≤arr.size)
  (Q6:∀ j,j < arr.size→(arr.getD j undef).oneCell' = true) (hc:∀ d,d∈ds→jg d = true) (hr:∀ (j:Nat) d,ds[j]? = some d→Rep ok w ι H d (arr.getD j undef)) :
  ∃ ι',Sim X ok (w1.alloc (.cells arr e)) ι' (qs H ds)∧Evol H.length ok w ι H ok (w1.alloc (.cells arr e)) ι' (qs H ds)∧ι' H.length = some (w.heap.size,arr.size):=by
 refine qkZ (fr:=(0,0)) (e:=e) hs jb (by simp [hh]) (fun c zq=>?_) ?_ (qE _) hl (.inl rfl) Q6 hc hr
 ·rw [← hh];exact heap_alloc_old w1 _ (by rw [hh];exact zq)
 ·rw [← hh];exact heap_alloc_new w1 _
theorem qjU (w:World):YX w w.drew:=⟨rfl,rfl,rfl⟩
theorem quJ {st xt ty e:TypeId} {dsc:TypeDesc} {zv xv:Value} {base:Option Addr} {sLen sCap m:Nat} {olds news:List Value} (hu:P.underlying st = some (.slice e)) (J2:P.underlying xt = some dsc)
  (hni:∀ q,dsc≠.int q) (hz:∀ w1:World,(zeroValue e).run P w1 = .ok zv w1) (jn:0 < qv P e) (hlen:∀ w1:World,(Builtin.lenOf xv).run P w1 = .ok m w1)
  (hold:∀ w1:World,w1.heap = w.heap→(Builtin.firstCells (qv P e) sLen (.slice base sLen sCap)).run P w1 = .ok olds.toArray w1)
  (Zs:∀ w1:World,w1.heap = w.heap→(Builtin.firstCells (qv P e) m xv).run P w1 = .ok news.toArray w1)
  (hg:sCap < sLen+m) (h1:sLen+m≤qD) (h2:(sLen+m) * bytesOf P e≤qD) :
  (Builtin.append_ #[st,xt] ty #[.slice base sLen sCap,xv]).run P w =
   .ok (.slice (some ⟨w.heap.size,0,none⟩) (sLen+m) (grownCap w (sLen+m) sCap e))
    (w.drew.alloc (.cells (olds.toArray ++ news.toArray ++ Builtin.zeroCells zv.cells (grownCap w (sLen+m) sCap e - (sLen+m))) e)):=by
 obtain ⟨i,hi,i2,i3⟩:=qfy jn;have hn:¬ (sLen+m≤sCap):=by omega
 simp only [qD] at h1 h2;have h63':¬ (9223372036854775807 < ((sLen:Int)+(m:Int))):=by omega
 have Vp:=growslice_fits (need:=sLen+m) (old:=sCap) (by omega) h2;have h48':¬ (281474976710656 < Builtin.nextslicecap (sLen+m) sCap * i.bytes):=by rw [i3];omega
 have hf:=Zs w.drew rfl;have hfo:=hold w.drew rfl;simp [Builtin.append_,run_underlying hu,run_underlying J2,Qy jn,hlen,typeInfo,hi,hn,h63',h48',Question.forced,hz,hf,hfo,newRow,grownCap];congr 2;apply Array.ext';simp [Qj]
theorem qj8 {e:TypeId} {zv:Value} {old news:List Value} {xs:List D} {n:Nat} (hz:zv.cells.size = qv P e) (QT:0 < qv P e) (z6:∀ j,j < qv P e→(zv.cells.getD j undef).oneCell' = true)
  (c2:∀ d,d∈xs→jg d = true) (hl:(old ++ news).length = xs.length) (hr:∀ (j:Nat) d,xs[j]? = some d→Rep ok w ι H d ((old ++ news).getD j undef)) :
  (∀ j,j < (old.toArray ++ news.toArray ++ Builtin.zeroCells zv.cells n).size→((old.toArray ++ news.toArray ++ Builtin.zeroCells zv.cells n).getD j undef).oneCell' = true) ∧
  ∀ (j:Nat) d,xs[j]? = some d→Rep ok w ι H d ((old.toArray ++ news.toArray ++ Builtin.zeroCells zv.cells n).getD j undef):=by
 have Zu:∀ j,j < xs.length→(old.toArray ++ news.toArray ++ Builtin.zeroCells zv.cells n).getD j undef = (old ++ news).getD j undef:=by
  intro j hj;rw [jl,qfX (by simp at hl ⊢;omega),j8];simp
 constructor
 ·intro j hj;by_cases hjx:j < xs.length
  ·rw [Zu j hjx];have Y7:xs[j]? = some (xs[j]'(by omega)):=zn (by omega);exact (hr j _ Y7).oneCell (c2 _ (mem_of_get? Y7))
  ·have XO:(old ++ news).length = old.length+news.length:=zz;rw [jl,Array.getElem?_append_right (by simp;omega)];simp only [Array.size_append,List.size_toArray,size_zeroCells] at hj ⊢;rw [qhN (by omega)];exact z6 _ (by rw [← hz];exact Yh _ (by omega))
 ·intro j d hj;rw [Zu j (List.getElem?_eq_some_iff.1 hj).1];exact hr j d hj
theorem qto {n:Int} (h0:0≤n) (h1:n < 9223372036854775808):IntKind.i64.wrap n = n:=by
 simp only [IntKind.wrap,IntKind.signed,IntKind.bits];simp;omega
structure AppOk (P:Program) (ok:Nat→Prop) (w:World) (ι:qV) (H:qe) (st xt ty e:TypeId) (xv:Value) (xs:List D) (m:Nat) (vs:List Value):Prop where
 len:xs.length = m * qv P e
 cell:∀ d,d∈xs→jg d = true
 vlen:vs.length = m * qv P e
 rep:∀ (j:Nat) d,xs[j]? = some d→Rep ok w ι H d (vs.getD j undef)
 nil:m = 0→(Builtin.append_ #[st,xt] ty #[.slice none 0 0,xv]).run P w = .ok (.slice none 0 0) w
 inp:∀ (a:Addr) (sLen sCap:Nat) (w':World),sLen+m≤sCap→(storeCells (a.add (sLen * qv P e)) vs).run P w = .ok () w' →
  (Builtin.append_ #[st,xt] ty #[.slice (some a) sLen sCap,xv]).run P w = .ok (.slice (some a) (sLen+m) sCap) w'
 grow:∀ (zv:Value) (base:Option Addr) (sLen sCap:Nat) (olds:List Value),(∀ w1:World,(zeroValue e).run P w1 = .ok zv w1) →
  (∀ w1:World,w1.heap = w.heap→(Builtin.firstCells (qv P e) sLen (.slice base sLen sCap)).run P w1 = .ok olds.toArray w1)→sCap < sLen+m→sLen+m≤qD→(sLen+m) * bytesOf P e≤qD →
  (Builtin.append_ #[st,xt] ty #[.slice base sLen sCap,xv]).run P w =
   .ok (.slice (some ⟨w.heap.size,0,none⟩) (sLen+m) (grownCap w (sLen+m) sCap e))
    (w.drew.alloc (.cells (olds.toArray ++ vs.toArray ++ Builtin.zeroCells zv.cells (grownCap w (sLen+m) sCap e - (sLen+m))) e))
theorem qio {st xt ty e:TypeId} {x:D} {xv:Value} {xs z0:List D} {m:Nat} (hu:P.underlying st = some (.slice e)) (hz:V0 P e 0 = some z0) (hs:Sim X ok w ι H) (hx:Rep ok w ι H x xv) (h:qch P H e xt x = some (xs,m)) :
  ∃ vs,AppOk P ok w ι H st xt ty e xv xs m vs:=by
 obtain ⟨_,_,_,z3,_⟩:=qaY hz;obtain ⟨inf,i1,i2,i3⟩:=qfy z3;unfold qch at h;split at h
 ·rename_i q n J2;split at h
  ·rename_i hc;obtain ⟨n1,n2,n3⟩:=hc;cases Y6:V0 P e n.toNat with
   | none=>rw [Y6] at h;cases h
   | some z =>
    rw [Y6] at h;simp only [jj,qw,zm] at h;obtain ⟨rfl,rfl⟩:=h;obtain ⟨zv,y1,y2,y3,y4,y5,y6,y7⟩:=qaY Y6;simp only [qD] at n2 n3;cases hx;have hw:IntKind.i64.wrap n = n:=qto n1 (by omega);have hneg:¬ n < 0:=by omega
    have hcast:n * (bytesOf P e:Int) = ((n.toNat * bytesOf P e:Nat):Int):=by
     rw [Int.natCast_mul,Int.toNat_of_nonneg n1]
    have Vp:¬ (281474976710656 < n * (bytesOf P e:Int)):=(by rw [hcast];omega);have hvs:((Builtin.zeroCells zv.cells n.toNat).toList).length = n.toNat * qv P e:=by rw [Array.length_toList,size_zeroCells,y2]
    have Ve:n.toNat * qv P e = 0→(Builtin.zeroCells zv.cells n.toNat) = #[]:=by
     intro h0;apply Array.eq_empty_of_size_eq_zero;rw [size_zeroCells,y2,h0]
    have YI:∀ w1:World,(if n.toNat * qv P e = 0 then (pure #[]:Sem (Array Value)) else do pure (Builtin.zeroCells (← zeroValue e).cells n.toNat)).run P w1 = .ok (Builtin.zeroCells zv.cells n.toNat) w1:=by
     intro w1;by_cases h0:n.toNat * qv P e = 0
     ·rw [if_pos h0,Ve h0];rfl
     ·rw [if_neg h0];simp [y1]
    refine ⟨(Builtin.zeroCells zv.cells n.toNat).toList,y4,y5,hvs,fun j d hj=>?_,fun hm=>?_,fun a sLen sCap w' XK hst=>?_,fun zv2 base sLen sCap olds kZ hold hg b1 b2=>?_⟩
    ·have zO:j < n.toNat * qv P e:=(by rw [← y4];exact (List.getElem?_eq_some_iff.1 hj).1);have:=y7 ok w ι H j d hj;rw [j8,Array.getElem?_toList,qhN (by rw [y2];exact zO),y2];exact this
    ·have Qr:n = 0:=(by omega);subst Qr;simp [Builtin.append_,run_underlying hu,run_underlying J2,Qy z3,typeInfo,i1,i3,asInt,asIntOf,hw]
    ·by_cases h0:n.toNat * qv P e = 0
     ·rw [Ve h0] at hst;simp [Builtin.append_,run_underlying hu,run_underlying J2,Qy z3,typeInfo,i1,i3,asInt,asIntOf,hw,hneg,Vp,XK,h0];rw [show (storeCells (a.add (sLen * qv P e)) []).run P w = .ok () w' from by simpa using hst];rfl
     ·simp [Builtin.append_,run_underlying hu,run_underlying J2,Qy z3,typeInfo,i1,i3,asInt,asIntOf,hw,hneg,Vp,XK,h0,y1];rw [hst];rfl
    ·have Y4:zv2 = zv:=by
      have e1:=kZ w;rw [y1 w] at e1;injection e1 with e1;exact e1.symm
     subst Y4;have hn:¬ (sLen+n.toNat≤sCap):=(by omega);simp only [qD] at b1 b2;have h63':¬ (9223372036854775807 < ((sLen:Int)+max n 0)):=(by omega);have h48a:¬ (281474976710656 < n * (inf.bytes:Int)):=(by rw [i3];exact Vp);have h48b:=growslice_fits (need:=sLen+n.toNat) (old:=sCap) (by omega) b2;have h48':¬ (281474976710656 < Builtin.nextslicecap (sLen+n.toNat) sCap * inf.bytes):=(by rw [i3];omega);have hfo:=hold w.drew rfl;by_cases h0:n.toNat * qv P e = 0
     ·simp [Builtin.append_,run_underlying hu,run_underlying J2,Qy z3,typeInfo,i1,asInt,asIntOf,hw,hneg,hn,h48a,h63',h48',Question.forced,kZ,hfo,newRow,grownCap,Ve h0]
     ·simp [Builtin.append_,run_underlying hu,run_underlying J2,Qy z3,typeInfo,i1,asInt,asIntOf,hw,hneg,h0,hn,h48a,h63',h48',Question.forced,kZ,hfo,newRow,grownCap]
  ·cases h
 ·obtain ⟨c1,c2,⟨dsc,J2,hni⟩,c3,c4⟩:=qle (P:=P) hs hx h;obtain ⟨vs,v1,v2,v3⟩:=c4 m (qE _);refine ⟨vs,c1,c2,v1,fun j d hj=>v3 j d (by have:=(List.getElem?_eq_some_iff.1 hj).1;omega) hj,fun hm=>?_,fun a sLen sCap w' XK hst=>?_,fun zv base sLen sCap olds kZ hold hg b1 b2=>quJ hu J2 hni kZ z3 c3 hold v2 hg b1 b2⟩
  ·subst hm;simp [Builtin.append_,run_underlying hu,run_underlying J2,Qy z3,c3,v2 w rfl]
  ·simp [Builtin.append_,run_underlying hu,run_underlying J2,Qy z3,c3,XK,v2 w rfl,hst]
theorem q2S {st xt ty:TypeId} {s x d:D} {sv xv:Value} (hs:Sim X ok w ι H) (hsv:Rep ok w ι H s sv) (hx:Rep ok w ι H x xv) (h:qT P H st xt s x = some (d,H')) :
  ∃ v w',(Builtin.append_ #[st,xt] ty #[sv,xv]).run P w = .ok v w'∧Post X H.length ok w ι H d H' v w':=by
 unfold qT at h;split at h
 ·rename_i e hu;split at h
  ·rename_i xs m _ Xd hz;obtain ⟨vs,hA⟩:=qio (P:=P) (ty:=ty) hu hz hs hx Xd;have c1:=hA.len;have c2:=hA.cell;have v1:=hA.vlen;have v3:=hA.rep;obtain ⟨zv,z1,z2,z3,_,_,z6,_⟩:=qaY hz;obtain ⟨inf,i1,i2,i3⟩:=qfy z3;cases hsv;split at h
   ·rename_i hm;injection h with h;injection h with h1 h2;subst h1;subst h2;exact ⟨.slice none 0 0,w,hA.nil hm,Post.same hs .vnil⟩
   ·rename_i hm;split at h
    ·rename_i hcond;obtain ⟨b1,b2⟩:=hcond;injection h with h;injection h with h1 h2;subst h1;subst h2;obtain ⟨g1,g2⟩:=qj8 (old:=[]) (news:=vs) (n:=grownCap w (0+m) 0 e - (0+m)) z2 z3 z6 c2 (by simp;omega) (fun j d hj=>v3 j d hj);obtain ⟨ι',n1,n2,n3⟩:=qeq (e:=e) (ds:=xs) hs w.drew (qjU w) rfl (by simp;omega) g1 c2 g2;refine ⟨_,_,hA.grow zv none 0 0 [] z1 (fun w1 _=>by simp [Builtin.firstCells]) (by omega) (by omega) (by rw [Jo];exact b1),ι',ok,n1,?_,n2⟩;have vN:=grownCap_ge w (0+m) 0 e;rw [Jo] at vN ⊢;refine .osl _ (by rw [zW];omega) (fun ds hd=>?_) vN;rw [zA] at hd;injection hd with hd;subst hd;refine ⟨qE _,fun _=>⟨_,_,n3,rfl,?_⟩⟩;simp only [Array.size_append,List.size_toArray,size_zeroCells,z2,v1,kp,Jo,← Jp];rw [show m+(grownCap w m 0 e - m) = grownCap w m 0 e by omega];exact qE _
    ·cases h
  ·rename_i xs m _ i sm len k Xd hz;split at h
   ·rename_i ds hd;split at h
    ·rename_i hcond;obtain ⟨b1,b2,b3,b4,b5⟩:=hcond;injection h with h;injection h with h1 h2;subst h1;subst h2;obtain ⟨vs,hA⟩:=qio (P:=P) (ty:=ty) hu hz hs hx Xd;have c1:=hA.len;have c2:=hA.cell;have v1:=hA.vlen;have v3:=hA.rep;obtain ⟨zv,z1,z2,z3,_,_,z6,_⟩:=qaY hz;subst b2;cases hsv with
     | @osl _ _ _ _ _ _ _ c a hi hh zo =>
      obtain ⟨b,s,q1,rfl,q3⟩:=(hh ds hd).2 b1;obtain ⟨b',arr,e2,fr,k1,k2,k3,k4,k5,k6,k7,k8⟩:=hs.blk i ds hd;rw [q1] at k1;injection k1 with k1;injection k1 with k1 k1';subst k1;have jp:ds.length = len * qv P e:=by omega
      have YI:∀ d,d∈ds ++ xs→jg d = true:=by
       intro d hd;rcases List.mem_append.1 hd with h | h
       ·exact k7 d h
       ·exact c2 d h
      by_cases XK:len+m≤c
      ·-- in place
       have hmul:(len+m) * qv P e≤c * qv P e:=qaX _ XK;rw [Jp] at hmul
       have Q6:∀ v,v∈vs→v.oneCell' = true:=by
        intro v hv;obtain ⟨j,hj⟩:=List.mem_iff_getElem?.1 hv;have zO:j < vs.length:=(List.getElem?_eq_some_iff.1 hj).1;have Y7:xs[j]? = some (xs[j]'(by omega)):=zn (by omega);have h:=v3 j _ Y7;rw [j8,hj] at h;exact h.oneCell (c2 _ (mem_of_get? Y7))
       obtain ⟨w',arr',r1,r2,r3,r4,r5,r6,r7⟩:=qge (P:=P) b (len * qv P e) e2 fr vs 0 arr w k3 (by omega) Q6 (qha k5)
       have qf:∀ j,j < arr.size→arr'.getD j undef = if len * qv P e≤j∧j < len * qv P e+m * qv P e then vs.getD (j - len * qv P e) undef else arr.getD j undef:=by
        intro j hj;simp only [jl,r7 j,j8,Nat.add_zero,v1];split <;> rfl
       obtain ⟨ι',s1,s2,s3⟩:=qeQ (i:=i) (ds:=ds) (ds':=ds ++ xs) (b:=b) (sz:=s) (b':=b) (arr':=arr') (e:=e2) (fr:=fr) (w':=w') hs hd q1 r2 (by omega) (fun c _ hc=>r4 c hc) r5 (.inl ⟨rfl,by omega⟩)
        (by simp) (by simp;omega) (by rw [r6];exact k5)
        (by
         intro j hj;rw [r6] at hj;rw [qf j hj];by_cases hr:len * qv P e≤j∧j < len * qv P e+m * qv P e
         ·rw [if_pos hr];have:j - len * qv P e < vs.length:=(by omega);rw [j8,zn this];exact Q6 _ (v6 this)
         ·rw [if_neg hr];exact k6 j hj)
        YI
        (by
         intro j d hj
         have zO:j < ds.length+xs.length:=by
          have:=(List.getElem?_eq_some_iff.1 hj).1;simpa using this
         rw [qf j (by omega)];by_cases Vi:j < ds.length
         ·rw [if_neg (by omega)];rw [kg Vi] at hj;exact k8 j d hj
         ·rw [if_pos (by omega)];rw [kU (by omega)] at hj;rw [← jp];exact v3 _ d hj)
       refine ⟨.slice (some ⟨b,0,none⟩) (len+m) c,w',?_,ι',ok,s1,?_,s2⟩
       ·exact hA.inp _ _ _ _ XK (by simpa [JZ] using r1)
       ·refine .osl _ (by rw [Qo];exact hi) (fun ds' zB=>?_) XK;rw [zG hi] at zB;injection zB with zB;subst zB;refine ⟨by simp [b1],fun _=>⟨b,arr'.size,s3,rfl,by omega⟩⟩
      ·-- a new block
       have hold:∀ w1:World,w1.heap = w.heap→(Builtin.firstCells (qv P e) len (.slice (some ⟨b,0,none⟩) len c)).run P w1 = .ok ((List.range (len * qv P e)).map fun j=>arr.getD j undef).toArray w1:=by
        intro w1 jb
        have hl:=run_loadCells (P:=P) w1 ⟨b,0,none⟩ (len * qv P e) (fun j=>arr.getD j undef) (fun j hj=>by
         rw [JZ,qko jb,Ye k3];have:j < arr.size:=(by omega);simp [this])
        simp only [Builtin.firstCells];exact hl
       obtain ⟨g1,g2⟩:=qj8 (xs:=ds ++ xs) (old:=(List.range (len * qv P e)).map fun j=>arr.getD j undef) (news:=vs) (n:=grownCap w (len+m) c e - (len+m)) z2 z3 z6 YI (by simp;omega)
        (fun j d hj=>by
         have zO:j < ds.length+xs.length:=by
          have:=(List.getElem?_eq_some_iff.1 hj).1;simpa using this
         rw [j8];by_cases Vi:j < ds.length
         ·rw [kg Vi] at hj;rw [kg (by simp;omega)];have:=k8 j d hj;simpa [show j < len * qv P e by omega] using this
         ·rw [kU (by omega)] at hj;rw [kU (by simp;omega)];have:=v3 _ d hj;rw [j8] at this;simpa [jp] using this)
       have hsize:(((List.range (len * qv P e)).map fun j=>arr.getD j undef).toArray ++ vs.toArray ++ Builtin.zeroCells zv.cells (grownCap w (len+m) c e - (len+m))).size = grownCap w (len+m) c e * qv P e:=by
        have vN:=grownCap_ge w (len+m) c e;simp only [Array.size_append,List.size_toArray,size_zeroCells,z2,v1,List.length_map,List.length_range,← Jp];rw [show len+m+(grownCap w (len+m) c e - (len+m)) = grownCap w (len+m) c e by omega]
       have hm:0 < m:=(by omega);have hmk:0 < m * qv P e:=Nat.mul_pos hm z3
       obtain ⟨ι',s1,s2,s3⟩:=qeQ (i:=i) (ds:=ds) (ds':=ds ++ xs) (b:=b) (sz:=s) (b':=w.heap.size) (w':=w.drew.alloc (.cells (((List.range (len * qv P e)).map fun j=>arr.getD j undef).toArray ++ vs.toArray ++ Builtin.zeroCells zv.cells (grownCap w (len+m) c e - (len+m))) e))
        (e:=e) (fr:=(0,0)) hs hd q1 (qjU w) (by simp) (fun c hc _=>heap_alloc_old w.drew _ hc) (heap_alloc_new w.drew _) (.inr ⟨qE _,by simp;omega⟩) (by simp)
        (by
         rw [hsize];have vN:=qaX (qv P e) (grownCap_ge w (len+m) c e);rw [Jp] at vN;simp;omega) (.inl rfl) g1 YI g2
       refine ⟨_,_,hA.grow zv _ _ _ _ z1 hold (by omega) b5 b4,ι',ok,s1,?_,s2⟩;refine .osl _ (by rw [Qo];exact hi) (fun ds' zB=>?_) (grownCap_ge w (len+m) c e);rw [zG hi] at zB;injection zB with zB;subst zB;refine ⟨by simp [b1],fun _=>⟨_,_,s3,rfl,by rw [hsize];omega⟩⟩
    ·split at h
     ·rename_i hcond;obtain ⟨b1,b2,b3,b4,b5⟩:=hcond;injection h with h;injection h with h1 h2;subst h1;subst h2;obtain ⟨vs,hA⟩:=qio (P:=P) (ty:=ty) hu hz hs hx Xd;have c1:=hA.len;have c2:=hA.cell;have v1:=hA.vlen;have v3:=hA.rep;obtain ⟨zv,z1,z2,z3,_,_,z6,_⟩:=qaY hz;subst b2;cases hsv with
      | @osl _ _ _ _ _ _ _ c a hi hh zo =>
       obtain ⟨b,s,q1,rfl,q3⟩:=(hh ds hd).2 b1;obtain ⟨b',arr,e2,fr,k1,k2,k3,k4,k5,k6,k7,k8⟩:=hs.blk i ds hd;rw [q1] at k1;injection k1 with k1;injection k1 with k1 k1';subst k1;have jp:(ds.take (len * qv P e)).length = len * qv P e:=by simp;omega
       have YI:∀ d,d∈ds.take (len * qv P e) ++ xs→jg d = true:=by
        intro d hd;rcases List.mem_append.1 hd with h | h
        ·exact k7 d (Vx h)
        ·exact c2 d h
       by_cases XK:len+m≤c
       ·-- in place
        have hmul:(len+m) * qv P e≤c * qv P e:=qaX _ XK;rw [Jp] at hmul
        have Q6:∀ v,v∈vs→v.oneCell' = true:=by
         intro v hv;obtain ⟨j,hj⟩:=List.mem_iff_getElem?.1 hv;have zO:j < vs.length:=(List.getElem?_eq_some_iff.1 hj).1;have Y7:xs[j]? = some (xs[j]'(by omega)):=zn (by omega);have h:=v3 j _ Y7;rw [j8,hj] at h;exact h.oneCell (c2 _ (mem_of_get? Y7))
        obtain ⟨w',arr',r1,r2,r3,r4,r5,r6,r7⟩:=qge (P:=P) b (len * qv P e) e2 fr vs 0 arr w k3 (by omega) Q6 (qha k5)
        have qf:∀ j,j < arr.size→arr'.getD j undef = if len * qv P e≤j∧j < len * qv P e+m * qv P e then vs.getD (j - len * qv P e) undef else arr.getD j undef:=by
         intro j hj;simp only [jl,r7 j,j8,Nat.add_zero,v1];split <;> rfl
        obtain ⟨ι',s1,s2,s3⟩:=qla (i:=i) (ds:=ds) (ds':=ds.take (len * qv P e) ++ xs) (b:=b) (sz:=s) (b':=b) (arr':=arr') (e:=e2) (fr:=fr) (w':=w') hs hd q1 r2 (by omega) (fun c _ hc=>r4 c hc) r5 (.inl rfl)
         (by rw [zz,jp];omega) (by rw [r6];exact k5)
         (by
          intro j hj;rw [r6] at hj;rw [qf j hj];by_cases hr:len * qv P e≤j∧j < len * qv P e+m * qv P e
          ·rw [if_pos hr];have:j - len * qv P e < vs.length:=(by omega);rw [j8,zn this];exact Q6 _ (v6 this)
          ·rw [if_neg hr];exact k6 j hj)
         YI
         (by
          intro j d hj
          have zO:j < len * qv P e+xs.length:=by
           have:=(List.getElem?_eq_some_iff.1 hj).1;rw [zz,jp] at this;exact this
          rw [qf j (by omega)];by_cases Vi:j < len * qv P e
          ·rw [if_neg (by omega)];rw [kg (by omega),List.getElem?_take_of_lt Vi] at hj;exact k8 j d hj
          ·rw [if_pos (by omega)];rw [kU (by omega)] at hj;rw [← jp];exact v3 _ d hj)
        refine ⟨.slice (some ⟨b,0,none⟩) (len+m) c,w',?_,ι',ok,s1,?_,s2⟩
        ·exact hA.inp _ _ _ _ XK (by simpa [JZ] using r1)
        ·refine .osl _ (by rw [zW,qap];omega) (fun ds' zB=>?_) XK;rw [← qap (H:=H) (i:=i),zA] at zB;injection zB with zB;subst zB;refine ⟨by rw [zz,jp];exact qE _,fun _=>⟨b,arr'.size,s3,rfl,by omega⟩⟩
       ·-- a new block
        have hold:∀ w1:World,w1.heap = w.heap→(Builtin.firstCells (qv P e) len (.slice (some ⟨b,0,none⟩) len c)).run P w1 = .ok ((List.range (len * qv P e)).map fun j=>arr.getD j undef).toArray w1:=by
         intro w1 jb
         have hl:=run_loadCells (P:=P) w1 ⟨b,0,none⟩ (len * qv P e) (fun j=>arr.getD j undef) (fun j hj=>by
          rw [JZ,qko jb,Ye k3];have:j < arr.size:=(by omega);simp [this])
         simp only [Builtin.firstCells];exact hl
        obtain ⟨g1,g2⟩:=qj8 (xs:=ds.take (len * qv P e) ++ xs) (old:=(List.range (len * qv P e)).map fun j=>arr.getD j undef) (news:=vs) (n:=grownCap w (len+m) c e - (len+m)) z2 z3 z6 YI (by simp;omega)
         (fun j d hj=>by
          have zO:j < len * qv P e+xs.length:=by
           have:=(List.getElem?_eq_some_iff.1 hj).1;rw [zz,jp] at this;exact this
          rw [j8];by_cases Vi:j < len * qv P e
          ·rw [kg (by omega),List.getElem?_take_of_lt Vi] at hj;rw [kg (by simp;omega)];have:=k8 j d hj;simpa [show j < len * qv P e by omega] using this
          ·rw [kU (by omega)] at hj;rw [kU (by simp;omega)];have:=v3 _ d hj;rw [j8] at this;simpa [jp] using this)
        have hsize:(((List.range (len * qv P e)).map fun j=>arr.getD j undef).toArray ++ vs.toArray ++ Builtin.zeroCells zv.cells (grownCap w (len+m) c e - (len+m))).size = grownCap w (len+m) c e * qv P e:=by
         have vN:=grownCap_ge w (len+m) c e;simp only [Array.size_append,List.size_toArray,size_zeroCells,z2,v1,List.length_map,List.length_range,← Jp];rw [show len+m+(grownCap w (len+m) c e - (len+m)) = grownCap w (len+m) c e by omega]
        have hm:0 < m:=(by omega);have hmk:0 < m * qv P e:=Nat.mul_pos hm z3
        obtain ⟨ι',s1,s2,s3⟩:=qla (i:=i) (ds:=ds) (ds':=ds.take (len * qv P e) ++ xs) (b:=b) (sz:=s) (b':=w.heap.size) (w':=w.drew.alloc (.cells (((List.range (len * qv P e)).map fun j=>arr.getD j undef).toArray ++ vs.toArray ++ Builtin.zeroCells zv.cells (grownCap w (len+m) c e - (len+m))) e))
         (e:=e) (fr:=(0,0)) hs hd q1 (qjU w) (by simp) (fun c hc _=>heap_alloc_old w.drew _ hc) (heap_alloc_new w.drew _) (.inr (qE _))
         (by
          rw [hsize];have vN:=qaX (qv P e) (grownCap_ge w (len+m) c e);rw [Jp] at vN;rw [zz,jp];omega) (.inl rfl) g1 YI g2
        refine ⟨_,_,hA.grow zv _ _ _ _ z1 hold (by omega) b5 b4,ι',ok,s1,?_,s2⟩;refine .osl _ (by rw [zW,qap];omega) (fun ds' zB=>?_) (grownCap_ge w (len+m) c e);rw [← qap (H:=H) (i:=i),zA] at zB;injection zB with zB;subst zB;refine ⟨by rw [zz,jp];exact qE _,fun _=>⟨_,_,s3,rfl,by rw [hsize];omega⟩⟩
     ·cases h
   ·cases h
  ·cases h
 ·cases h
end
end Go.Ev
namespace Go.Ev
section
variable {X:Cx} {P:Program} {ok:Nat→Prop} {w w':World} {ι:qV} {H H':qe}
theorem qgg {n:Nat} {l:Int} {k:IntKind} {c:BoundsCode} (h:0≤l∧l≤n) (w:World):(Instr.sliceBound (.int k l) n c).run P w = .ok l.toNat w:=by
 simp [Instr.sliceBound,asIntOf,h]
theorem qe9 {isSlice:Bool} {n c l h:Nat} {lo hi:Option D} {lov hiv:Option Value} (hl:∀ d,lo = some d→∃ v,lov = some v∧Rep ok w ι H d v) (VE:lo = none→lov = none)
  (hh:∀ d,hi = some d→∃ v,hiv = some v∧Rep ok w ι H d v) (hhn:hi = none→hiv = none) (hnc:n≤c) (hb:qdm n lo hi = some (l,h)) (w:World) :
  l≤h∧h≤n∧(Instr.sliceBounds isSlice n c lov hiv none).run P w = .ok (l,h,c) w:=by
 unfold qdm at hb;split at hb
 ·injection hb with hb;injection hb with h1 h2;subst h1;subst h2;rw [VE rfl,hhn rfl];exact ⟨vV _,qE _,by simp [Instr.sliceBounds]⟩
 ·rename_i k a;split at hb
  ·rename_i hc;injection hb with hb;injection hb with h1 h2;subst h1;subst h2;obtain ⟨v,rfl,hr⟩:=hl _ rfl;cases hr;rw [hhn rfl];exact ⟨by omega,qE _,by simp [Instr.sliceBounds,qgg hc]⟩
  ·cases hb
 ·rename_i k a;split at hb
  ·rename_i hc;injection hb with hb;injection hb with h1 h2;subst h1;subst h2;obtain ⟨v,rfl,hr⟩:=hh _ rfl;cases hr;rw [VE rfl];refine ⟨vV _,by omega,?_⟩;simp [Instr.sliceBounds,qgg (show 0≤a∧a≤(c:Int) from ⟨hc.1,by omega⟩)]
  ·cases hb
 ·rename_i k a k' a';split at hb
  ·rename_i hc;injection hb with hb;injection hb with h1 h2;subst h1;subst h2;obtain ⟨v,rfl,hr⟩:=hl _ rfl;obtain ⟨v',rfl,hr'⟩:=hh _ rfl;cases hr;cases hr';refine ⟨by omega,by omega,?_⟩;simp [Instr.sliceBounds,qgg (show 0≤a'∧a'≤(c:Int) from ⟨hc.1,by omega⟩),qgg (show 0≤a∧a≤(a'.toNat:Int) from ⟨hc.2.2.1,by omega⟩)]
  ·cases hb
 ·cases hb
theorem qgh {t:TypeId} {x d:D} {xv:Value} {lo hi:Option D} {lov hiv:Option Value} (hs:Sim X ok w ι H) (hx:Rep ok w ι H x xv) (hl:∀ d,lo = some d→∃ v,lov = some v∧Rep ok w ι H d v) (VE:lo = none→lov = none)
  (hh:∀ d,hi = some d→∃ v,hiv = some v∧Rep ok w ι H d v) (hhn:hi = none→hiv = none) (h:qag P t x lo hi = some d) :
  ∃ v,(Instr.sliceAt t xv lov hiv none).run P w = .ok v w∧Rep ok w ι H d v:=by
 unfold qag at h;split at h
 ·-- a text
  rename_i s hu;split at h
  ·rename_i l hb jy;injection h with h;subst h;cases hx;obtain ⟨b1,b2,b3⟩:=qe9 (P:=P) (isSlice:=false) (c:=s.length) hl VE hh hhn (qE _) jy w;refine ⟨.string ⟨((s.drop l).take (hb - l)).toArray⟩,?_,.str _⟩;have jn:(⟨s.toArray⟩:ByteArray).size = s.length:=by simp [ByteArray.size]
   have he:(⟨s.toArray⟩:ByteArray).extract l hb = ⟨((s.drop l).take (hb - l)).toArray⟩:=by
    apply ByteArray.ext;simp [List.extract_eq_take_drop]
   simp [Instr.sliceAt,run_underlying hu,Instr.slice,jn,b3,he]
  ·cases h
 ·-- a slice of others
  rename_i e nil cs len hu;split at h
  ·rename_i l hb jy;split at h
   ·rename_i hc;obtain ⟨hlen,QT⟩:=hc;injection h with h;subst h;cases hx with
    | vnil =>
     obtain ⟨b1,b2,b3⟩:=qe9 (P:=P) (isSlice:=true) (c:=0) hl VE hh hhn (qE _) jy w;have XT:hb = 0:=(by omega);have hl0:l = 0:=(by omega);subst XT;subst hl0;refine ⟨.slice none 0 0,?_,by simpa using Rep.vnil⟩;simp [Instr.sliceAt,run_underlying hu,Instr.slice,b3,Qy QT]
    | @vsl _ _ _ _ c a f ha Xi hr hhh zo =>
     obtain ⟨b1,b2,b3⟩:=qe9 (P:=P) (isSlice:=true) (c:=c) hl VE hh hhn zo jy w;refine ⟨.slice (some (if c = l then a else a.add (l * qv P e))) (hb - l) (c - l),?_,?_⟩
     ·simp only [Instr.sliceAt,Sem.run_bind,run_underlying hu,Result.andThen_ok,Instr.slice,b3,Qy QT,Sem.run_pure];split <;> rfl
     ·refine .vsl _ (fun j=>f (l * qv P e+j)) (fun d hd=>by have:=ha d (Jq (Vx hd));split <;> simp [qdW,this]) (fun d hd=>Xi d (Jq (Vx hd))) (fun j d hj=>?_) (fun j d hj=>?_) (by omega)
      ·rw [KN] at hj;split at hj
       ·rename_i zO;rw [Qv] at hj
        have zq:c≠l:=by
         rintro rfl;have:hb - c = 0:=(by omega);rw [this] at zO;omega
        rw [if_neg zq,qh9];exact hr _ d hj
       ·cases hj
      ·rw [KN] at hj;split at hj
       ·rw [Qv] at hj;exact hhh _ d hj
       ·cases hj
   ·cases h
  ·cases h
 ·-- a slice of the run's own
  rename_i e id st off len k hu;split at h
  ·rename_i l hb jy;split at h
   ·rename_i hc;obtain ⟨rfl,QT,hl0⟩:=hc;injection h with h;subst h;cases hx with
    | @osl _ _ _ _ _ _ _ c a Qa hhh zo =>
     obtain ⟨b1,b2,b3⟩:=qe9 (P:=P) (isSlice:=true) (c:=c) hl VE hh hhn zo jy w;refine ⟨.slice (some (if c = l then a else a.add (l * qv P e))) (hb - l) (c - l),?_,?_⟩
     ·simp only [Instr.sliceAt,Sem.run_bind,run_underlying hu,Result.andThen_ok,Instr.slice,b3,Qy QT,Sem.run_pure];split <;> rfl
     ·refine .osl _ Qa (fun ds hd=>⟨(hhh ds hd).1,fun he=>?_⟩) (by omega);obtain ⟨b,s,q1,rfl,q3⟩:=(hhh ds hd).2 he;have jx:l≤c:=(by omega);have hmul:l * qv P e+(c - l) * qv P e = c * qv P e:=(by rw [← Jp];congr 1;omega);refine ⟨b,s,q1,?_,by omega⟩;split
      ·rename_i zq;rcases hl0 with h0 | h0
       ·subst h0;simp
       ·omega
      ·rw [JZ]
   ·cases h
  ·cases h
 ·-- an array of others
  rename_i n e cs hu;split at h
  ·rename_i l hb jy;split at h
   ·rename_i hc;obtain ⟨YG,QT,hl0⟩:=hc;injection h with h;subst h;cases hx with
    | vptr a f ha Xi hr hhh =>
     obtain ⟨b1,b2,b3⟩:=qe9 (P:=P) (isSlice:=false) (c:=n) hl VE hh hhn (qE _) jy w;refine ⟨.slice (some (if n = l then a else a.add (l * qv P e))) (hb - l) (n - l),?_,?_⟩
     ·simp only [Instr.sliceAt,Sem.run_bind,run_underlying hu,Result.andThen_ok,Instr.sureAddr,b3,Qy QT,Sem.run_pure]
     ·refine .vsl _ (fun j=>f (l * qv P e+j)) (fun d hd=>by have:=ha d (Jq (Vx hd));split <;> simp [qdW,this]) (fun d hd=>Xi d (Jq (Vx hd))) (fun j d hj=>?_) (fun j d hj=>?_) (by omega)
      ·rw [KN] at hj;split at hj
       ·rename_i zO;rw [Qv] at hj
        have zq:n≠l:=by
         rintro rfl;have:hb - n = 0:=(by omega);rw [this] at zO;omega
        rw [if_neg zq,qh9];exact hr _ d hj
       ·cases hj
      ·rw [KN] at hj;split at hj
       ·rw [Qv] at hj;exact hhh _ d hj
       ·cases hj
   ·cases h
  ·cases h
 ·-- an array of the run's own
  rename_i n e id st off hu;split at h
  ·rename_i l hb jy;split at h
   ·rename_i hc;obtain ⟨hl0,YG,QT⟩:=hc;injection h with h;subst h;cases hx with
    | optr a Qa hhh =>
     obtain ⟨b1,b2,b3⟩:=qe9 (P:=P) (isSlice:=false) (c:=n) hl VE hh hhn (qE _) jy w;refine ⟨.slice (some (if n = l then a else a.add (l * qv P e))) (hb - l) (n - l),?_,?_⟩
     ·simp only [Instr.sliceAt,Sem.run_bind,run_underlying hu,Result.andThen_ok,Instr.sureAddr,b3,Qy QT,Sem.run_pure]
     ·refine .osl _ Qa (fun ds hd=>⟨(hhh ds hd).1,fun he=>?_⟩) (by omega);obtain ⟨b,s,q1,rfl⟩:=(hhh ds hd).2 he;have jx:l≤n:=(by omega);have hmul:l * qv P e+(n - l) * qv P e = n * qv P e:=(by rw [← Jp];congr 1;omega);obtain ⟨b',arr,e',fr,k1,k2,k3,k4,_⟩:=hs.blk id ds hd;rw [q1] at k1;injection k1 with k1;injection k1 with k1 k1';refine ⟨b,s,q1,?_,by omega⟩;split
      ·rename_i zq;rcases hl0 with h0 | h0
       ·subst h0;simp
       ·omega
      ·rw [JZ]
   ·cases h
  ·cases h
 ·cases h
theorem q13 {dt xt ty:TypeId} {x y d:D} {dv xv:Value} (hs:Sim X ok w ι H) (Vk:Rep ok w ι H y dv) (hx:Rep ok w ι H x xv) (h:qbP P H dt xt y x = some (d,H')) :
  ∃ v w',(Builtin.copy_ #[dt,xt] ty #[dv,xv]).run P w = .ok v w'∧Post X H.length ok w ι H d H' v w':=by
 unfold qbP at h;split at h
 ·rename_i e hu;split at h
  ·rename_i xs m i sm off len k Xd;split at h
   ·rename_i ds hd;split at h
    ·rename_i hcond;obtain ⟨b1,rfl,b3,b4⟩:=hcond;injection h with h;injection h with h1 h2;subst h1;subst h2;obtain ⟨c1,c2,⟨dsc,J2,hni⟩,c3,c4⟩:=qle (P:=P) hs hx Xd;obtain ⟨vs,v1,v2,v3⟩:=c4 (min m len) (Nat.min_le_left _ _);cases Vk with
     | osl a hi hh zo =>
      obtain ⟨b,s,q1,rfl,q3⟩:=(hh ds hd).2 b1;have jx:min m len * qv P e≤len * qv P e:=qaX _ (Nat.min_le_right _ _);have hlm:min m len * qv P e≤m * qv P e:=qaX _ (Nat.min_le_left _ _);have XF:(xs.take (min m len * qv P e)).length = min m len * qv P e:=by simp;omega
      obtain ⟨w',ι',r1,r2,r3⟩:=qhQ (P:=P) (vs:=vs) (xs:=xs.take (min m len * qv P e)) hs hd b1 q1 rfl (by rw [XF];exact zT (Nat.add_le_add_left jx off) (by rw [b1];exact b4)) (by rw [XF,v1]) (fun d hd=>c2 d (Vx hd))
       (fun j d hj=>by
        rw [KN] at hj;split at hj
        ·rename_i zO;exact v3 j d zO hj
        ·cases hj)
      refine ⟨.int .i64 (min m len:Nat),w',?_,ι',ok,r2,.int _ _,r3⟩;have hf:=v2 w rfl;rw [show min m len = Nat.min m len from rfl] at hf;simp [Builtin.copy_,run_underlying hu,c3,Qy b3,hf,goInt];rw [r1];rfl
    ·cases h
   ·cases h
  ·cases h
 ·cases h
theorem q2c {t ty:TypeId} {x d:D} {xv:Value} {ts:Array TypeId} {us:Array Value} (ht:ts[0]? = some t) (hu0:us[0]? = some xv) (hs:Sim X ok w ι H) (hx:Rep ok w ι H x xv) (h:qhw P H t x = some (d,H')) :
  ∃ v w',(Builtin.clear_ ts ty us).run P w = .ok v w'∧Post X H.length ok w ι H d H' v w':=by
 unfold qhw at h;split at h
 ·rename_i e i sm off len k hu;split at h
  ·rename_i z ds hz hd;split at h
   ·rename_i hcond;obtain ⟨b1,rfl,b4,b5⟩:=hcond;injection h with h;injection h with h1 h2;subst h1;subst h2;obtain ⟨zv,y1,y2,y3,y4,y5,y6,y7⟩:=qaY hz;cases hx with
    | osl a hi hh zo =>
     obtain ⟨b,s,q1,rfl,q3⟩:=(hh ds hd).2 b1;have hvs:((Builtin.zeroCells zv.cells len).toList).length = len * qv P e:=by rw [Array.length_toList,size_zeroCells,y2]
     obtain ⟨w',ι',r1,r2,r3⟩:=qhQ (P:=P) (vs:=(Builtin.zeroCells zv.cells len).toList) (xs:=z) hs hd b1 q1 rfl (by rw [y4,b1];exact b4) (by rw [hvs,y4]) y5 (fun j d hj=>by
      have zO:j < len * qv P e:=(by rw [← y4];exact (List.getElem?_eq_some_iff.1 hj).1);have:=y7 ok w ι H j d hj;rw [j8,Array.getElem?_toList,qhN (by rw [y2];exact zO),y2];exact this)
     refine ⟨.tuple #[],w',?_,ι',ok,r2,.tup rfl (by simp),r3⟩;obtain ⟨n,rfl⟩:∃ n,len = n+1:=⟨len - 1,by omega⟩;simp [Builtin.clear_,ht,hu0,run_underlying hu,y1];rw [r1];rfl
   ·cases h
  ·cases h
 ·cases h
theorem qx7 {t ty:TypeId} {x d:D} {v:Value} {ts:Array TypeId} {vs:Array Value} (ht:ts[0]? = some t) (hv:vs[0]? = some v) (hx:Rep ok w ι H x v) (h:zf P t x = some d) :
  ∃ r,(Builtin.len_ ts ty vs).run P w = .ok r w∧Rep ok w ι H d r:=by
 unfold zf at h;split at h <;> first | (cases h;done) | injection h with h
 ·rename_i s hu;subst h;cases hx;have jn:(⟨s.toArray⟩:ByteArray).size = s.length:=by simp [ByteArray.size]
  exact ⟨.int .i64 s.length,by simp [Builtin.len_,ht,hv,run_underlying hu,goInt,jn],.int _ _⟩
 ·rename_i n e hu;subst h;exact ⟨_,by simp [Builtin.len_,ht,hv,run_underlying hu,goInt],.int _ _⟩
 ·rename_i hu;subst h;cases hx <;> exact ⟨_,by simp [Builtin.len_,ht,hv,run_underlying hu,goInt],.int _ _⟩
 ·rename_i hu;subst h;cases hx <;> exact ⟨_,by simp [Builtin.len_,ht,hv,run_underlying hu,goInt],.int _ _⟩
end
end Go.Ev
namespace Go.Ev
section
variable {X:Cx} {P:Program} {ok:Nat→Prop} {w w':World} {ι:qV} {H H':qe}
theorem qsF:∀ {cs:List D} {s:List UInt8},Vu cs = some s→∃ ns:List Int,cs = ns.map (D.int .u8)∧s = ns.map fun n=>UInt8.ofNat n.toNat
 | [],s,h=>by
  simp only [Vu,qw] at h;exact ⟨[],rfl,h.symm⟩
 | .int .u8 n :: l,s,h=>by
  simp only [Vu] at h;cases hb:Vu l with
  | none=>simp [hb] at h
  | some r =>
   simp only [hb,jj,qw] at h;obtain ⟨ns,h1,h2⟩:=qsF hb;exact ⟨n :: ns,by simp [h1],by simp [← h,h2]⟩
 | .int .i8 _ :: _,_,h | .int .i16 _ :: _,_,h | .int .i32 _ :: _,_,h | .int .i64 _ :: _,_,h | .int .u16 _ :: _,_,h | .int .u32 _ :: _,_,h | .int .u64 _ :: _,_,h
 | .bool _ :: _,_,h | .str _ :: _,_,h | .nilp :: _,_,h | .nilf :: _,_,h | .nili :: _,_,h | .raw _ :: _,_,h | .agg _ :: _,_,h | .tup _ :: _,_,h | .vptr _ :: _,_,h | .optr _ _ _ :: _,_,h | .vsl _ _ _ :: _,_,h
 | .osl _ _ _ _ _ :: _,_,h | .fn _ _ :: _,_,h | .iface _ _ :: _,_,h=>by simp [Vu] at h
theorem qxw {i:Nat} {ds:List D} {b o:Nat} {arr:Array Value} {e:TypeId} {fr:Nat × Nat} (hs:Sim X ok w ι H) (hd:qf H i = some ds) (hι:ι i = some (b,arr.size)) (hb:w.heap[b]? = some (.cells arr e fr)) :
  ∃ w' ι',(markStringish ⟨b,o,none⟩).run P w = .ok () w'∧Sim X ok w' ι' H∧Evol H.length ok w ι H ok w' ι' H:=by
 obtain ⟨b0,arr0,e0,fr0,q1,q2,q3,q4,q5,q6,q7,q8⟩:=hs.blk i ds hd;rw [hι] at q1;injection q1 with q1;injection q1 with q1 q1';subst q1;rw [hb] at q3;injection q3 with q3;injection q3 with q3a q3b q3c;subst q3a;subst q3b;subst q3c;have qg:b < w.heap.size:=(Array.getElem?_eq_some_iff.1 hb).1
 have qn:qn H i ds = H:=by
  unfold qn;have hi:=qA hd;rw [qf,zn hi,Va] at hd;rw [← hd,List.set_getElem_self]
 obtain ⟨fr',hfr',hw'⟩:∃ fr':Nat × Nat,(fr'.1 = fr'.2∨arr.size≤fr'.1)∧(w.freeze ⟨b,arr.size,none⟩ 1).heap[b]? = some (.cells arr e fr'):=by
  obtain ⟨lo,hi⟩:=fr;refine ⟨if lo == hi then (arr.size,arr.size+1) else (min lo arr.size,max hi (arr.size+1)),?_,?_⟩
  ·simp only at q5;by_cases h:lo = hi
   ·simp [h]
   ·have:arr.size≤lo:=(by omega);simp [h];omega
  ·unfold World.freeze;simp only [Nat.one_ne_zero,if_false];rw [qk3];simp [hb]
 obtain ⟨ι',r1,r2,r3⟩:=qeQ (w':=w.freeze ⟨b,arr.size,none⟩ 1) (ds':=ds) hs hd hι ⟨by unfold World.freeze;split <;> rfl,by unfold World.freeze;split <;> rfl,by unfold World.freeze;split <;> rfl⟩ (by unfold World.freeze;split <;> simp)
  (fun c _ hc=>by
   unfold World.freeze;simp only [Nat.one_ne_zero,if_false];rw [qk3];simp [Ne.symm hc]) hw' (.inl ⟨rfl,rfl⟩) (qE _) q4 hfr' q6 q7 q8
 rw [qn] at r1 r2;refine ⟨_,ι',?_,r1,r2⟩;have e1:(shape b).run P w = .ok (w.shape? b) w:=rfl;have e2:w.shape? b = some (e,arr.size):=by unfold World.shape?;rw [hb]
 have e3:(Go.freeze ⟨b,arr.size,none⟩ 1).run P w = .ok () (w.freeze ⟨b,arr.size,none⟩ 1):=rfl;unfold markStringish;rw [Sem.run_bind,e1,Result.andThen_ok,e2];exact e3
theorem qsk {src dst:TypeId} {x d:D} {v:Value} (hs:Sim X ok w ι H) (hx:Rep ok w ι H x v) (h:qde P H src dst x = some (d,H')) :
  ∃ v' w',(convert src dst v).run P w = .ok v' w'∧Post X H.length ok w ι H d H' v' w':=by
 unfold qde at h;split at h
 ·rename_i k k' n h1 h2;injection h with h;injection h with h3 h4;subst h3;subst h4;cases hx;exact ⟨.int k (k.wrap n),w,by simp [convert,run_underlying h1,run_underlying h2,Conv.intToInt],Post.same hs (.int _ _)⟩
 ·rename_i s h1 h2;injection h with h;injection h with h3 h4;subst h3;subst h4;cases hx;exact ⟨.string ⟨s.toArray⟩,w,by simp [convert,run_underlying h1,run_underlying h2],Post.same hs (.str _)⟩
 ·rename_i k k' n h1 h2;injection h with h;injection h with h3 h4;subst h3;subst h4;cases hx;refine ⟨.string (Utf8.encode n),w,by simp [convert,run_underlying h1,run_underlying h2,Conv.intToString],Post.same hs ?_⟩;have:=Rep.str (ok:=ok) (w:=w) (ι:=ι) (H:=H) (Utf8.encode n).data.toList;simpa using this
 ·rename_i e s h1 h2;split at h
  ·rename_i he;injection h with h;injection h with h3 h4;subst h3;subst h4;cases hx;have jn:(⟨s.toArray⟩:ByteArray).size = s.length:=(by simp [ByteArray.size]);have vN:=grownCap_ge w s.length 0 e
   have hbs:(Lib.bytesCells w e ⟨s.toArray⟩).size = grownCap w s.length 0 e:=by
    unfold Lib.bytesCells;simp only [Array.size_append,Array.size_map,Array.size_replicate,jn];simp;omega
   have hbg:∀ j,j < s.length→(Lib.bytesCells w e ⟨s.toArray⟩).getD j undef = (Yx s).getD j undef:=by
    intro j hj;unfold Lib.bytesCells Yx;rw [jl,qfX (by simpa using hj),j8];simp
   have hbz:∀ j,s.length≤j→j < grownCap w s.length 0 e→(Lib.bytesCells w e ⟨s.toArray⟩).getD j undef = .int .u8 0:=by
    intro j hj zO;unfold Lib.bytesCells;rw [jl,Array.getElem?_append_right (by simpa using hj)];simp only [jn];rw [qhL,if_pos (by simp;omega)];rfl
   obtain ⟨ι',n1,n2,n3⟩:=qkZ (w':=Lib.bytesWorld w e ⟨s.toArray⟩) (b':=w.heap.size) (arr:=Lib.bytesCells w e ⟨s.toArray⟩) (ds:=qd s) hs
    (by
     refine ⟨?_,?_,?_⟩ <;> (unfold Lib.bytesWorld World.freeze;split <;> rfl))
    (by rw [Lib.bytesWorld_size];omega) (fun c hc=>Lib.bytesWorld_at_old w e _ c hc) (Lib.bytesWorld_at_new w e _) (qE _) (by rw [hbs];simpa [qd] using vN)
    (.inr (qE _))
    (fun j hj=>by
     rw [hbs] at hj;by_cases KB:j < s.length
     ·rw [hbg j KB];unfold Yx;simp [j8,KB,Value.oneCell']
     ·rw [hbz j (by omega) hj];rfl)
    (fun d hd=>by
     simp only [qd,ZM] at hd;obtain ⟨_,_,rfl⟩:=hd;rfl)
    (fun j d hj=>by
     have KB:j < s.length:=by
      have:=(List.getElem?_eq_some_iff.1 hj).1;simpa [qd] using this
     rw [hbg j KB];exact qiZ s j d hj)
   refine ⟨_,_,Lib.run_convert_string_bytes w src dst e ⟨s.toArray⟩ h1 h2 he,ι',ok,n1,?_,n2⟩;rw [jn];refine .osl _ (by rw [zW];omega) (fun ds hd=>?_) vN;rw [zA] at hd;injection hd with hd;subst hd;refine ⟨by simp [qd],fun _=>⟨_,_,n3,rfl,by rw [hbs];omega⟩⟩
  ·cases h
 ·rename_i _ e h1 h2;split at h
  ·rename_i cs n he kA;cases hb:Vu cs with
   | none=>simp [hb] at h
   | some s =>
    simp only [hb,jj,qw,zm] at h;obtain ⟨h3,h4⟩:=h;subst h3;subst h4;obtain ⟨ns,rfl,rfl⟩:=qsF hb;obtain ⟨k1,k2,A,c,rfl,zo,hA,f,hf⟩:=qll hs hx kA;simp only [List.length_map,Nat.mul_one] at k1;cases A with
    | none =>
     have hn:n = 0:=hA rfl;subst hn;have:ns = []:=qdw k1;subst this;refine ⟨.string ByteArray.empty,w,run_convert_bytes_nil w src e h1 he _ _ dst h2,Post.same hs ?_⟩;exact .str []
    | some a =>
     have hl:(loadCells a n).run P w = .ok (ns.map (Value.int .u8)).toArray w:=by
      have:=run_loadCells_list (P:=P) w a (ns.map (Value.int .u8)) (fun j v hj=>by
       rw [VX] at hj;cases QM:ns[j]? with
       | none=>simp [QM] at hj
       | some m =>
        simp only [QM,jj,qw] at hj;subst hj;obtain ⟨a',YK,hc,hr⟩:=hf j (.int .u8 m) (by simp [QM]);injection YK with YK;subst YK;rw [hc];generalize f j = fv at hr;cases hr;rfl)
      simpa [k1] using this
     refine ⟨_,w,?_,Post.same hs (.str _)⟩;rw [run_convert_bytes_string w src dst e _ n c h1 he h2,run_bytesToString w _ n c ns hl,foldl_push_bytes];simp [ByteArray.empty,ByteArray.emptyWithCapacity];rfl
  ·cases h
 ·rename_i _ e i st off len k h1 h2;split at h
  ·rename_i ds he hd;split at h
   ·rename_i hc;obtain ⟨rfl,hst⟩:=hc;injection h with h;injection h with h3 h4;subst h3;subst h4;have hrep:=hx;rw [h1] at h2;injection h2 with h2;injection h2 with h2;subst h2;cases hx with
    | osl a hi hh zo =>
     obtain ⟨b,sz,g1,g2,g3⟩:=(hh ds hd).2 hst;subst g2;obtain ⟨b',arr,e',fr,q1,q2,q3,_⟩:=hs.blk i ds hd;rw [g1] at q1;injection q1 with q1;injection q1 with q1 q1';subst q1;subst q1';obtain ⟨w',ι',m1,m2,m3⟩:=qxw (P:=P) (o:=off) hs hd g1 q3;refine ⟨_,w',?_,ι',ok,m2,hrep.evol hs m3 hrep.closed,m3⟩;simp [convert,run_underlying h1,run_underlying he,m1]
   ·cases h
  ·cases h
 ·cases h
theorem qr0 (off:Nat):∀ (l:List Value) (n:Nat) (cs:Array Value),
  ((l.zipIdx n).foldl (fun cs (c,j)=>cs.setIfInBounds (off+j) c) cs).size = cs.size ∧
  ∀ j,((l.zipIdx n).foldl (fun cs (c,j)=>cs.setIfInBounds (off+j) c) cs)[j]? = if off+n≤j∧j < off+n+l.length∧j < cs.size then l[j - (off+n)]? else cs[j]?
 | [],n,cs=>by
  refine ⟨rfl,fun j=>?_⟩;rw [if_neg (by simp;omega)];rfl
 | v :: l,n,cs=>by
  obtain ⟨h1,h2⟩:=qr0 off l (n+1) (cs.setIfInBounds (off+n) v);simp only [List.zipIdx_cons,List.foldl_cons];refine ⟨by rw [h1];simp,fun j=>?_⟩;rw [h2 j];simp only [Array.size_setIfInBounds,vn];by_cases hj:j = off+n
  ·subst hj;rw [if_neg (by omega)];by_cases qg:off+n < cs.size
   ·rw [if_pos (by omega)];simp [qg]
   ·rw [if_neg (by omega),qfW (by simp;omega),qfW (by omega)]
  ·rw [qeI (by omega)];by_cases hr:off+(n+1)≤j∧j < off+(n+1)+l.length∧j < cs.size
   ·rw [if_pos hr,if_pos (by omega)];rw [show j - (off+n) = (j - (off+(n+1)))+1 by omega,qdv]
   ·rw [if_neg hr,if_neg (by omega)]
def qdt (ok:Nat→Prop) (w:World) (ι:qV) (H:qe):List (Nat × D)→List (Nat × Value)→Prop
 | [],[]=>True
 | (i,d) :: ds,(j,v) :: vs=>i = j∧Rep ok w ι H d v∧qdt ok w ι H ds vs
 | _,_=>False
theorem qf6 {place:Nat→Option (Nat × Nat)}:∀ {parts:List (Nat × D)} {vps:List (Nat × Value)} {cs cs':List D} {arr:Array Value},qdt ok w ι H parts vps→arr.size = cs.length →
  (∀ d,d∈cs→jg d = true)→(∀ (j:Nat) d,cs[j]? = some d→Rep ok w ι H d (arr.getD j undef))→XX place cs parts = some cs' →
  ∃ arr',Instr.fill place arr vps = some arr'∧arr'.size = cs'.length∧(∀ d,d∈cs'→jg d = true)∧(∀ (j:Nat) d,cs'[j]? = some d→Rep ok w ι H d (arr'.getD j undef))∧cs'.length = cs.length
 | [],[],cs,cs',arr,_,hl,hc,hr,h=>by
  simp only [XX,qw] at h;subst h;exact ⟨arr,rfl,hl,hc,hr,rfl⟩
 | (i,d) :: ps,(i',v) :: vps,cs,cs',arr,hp,hl,hc,hr,h=>by
  obtain ⟨rfl,hv,hp⟩:=hp;simp only [XX] at h;split at h
  ·rename_i off size xs hpl hcs;split at h
   ·rename_i hcond;obtain ⟨h1,h2⟩:=hcond;obtain ⟨c1,c2,c3⟩:=qaS hv hcs;obtain ⟨f1,f2⟩:=qr0 off v.cells.toList 0 arr
    have hfold:v.cells.zipIdx.foldl (fun cs (c,j)=>cs.setIfInBounds (off+j) c) arr = (v.cells.toList.zipIdx 0).foldl (fun cs (c,j)=>cs.setIfInBounds (off+j) c) arr:=by
     rw [← Array.foldl_toList];simp
    have jx:off+xs.length≤cs.length:=h2
    obtain ⟨arr',q1,q2,q3,q4,q5⟩:=qf6 (place:=place) (arr:=v.cells.zipIdx.foldl (fun cs (c,j)=>cs.setIfInBounds (off+j) c) arr) hp (by rw [hfold,f1,qeh jx];exact hl)
     (fun d hd=>by
      rcases qnb hd with h | h
      ·exact hc d h
      ·exact c2 d h)
     (fun j d hj=>by
      have zO:j < cs.length:=by
       have:=(List.getElem?_eq_some_iff.1 hj).1
       rwa [qeh jx] at this
      rw [hfold,jl,f2 j];simp only [Nat.add_zero,Array.length_toList,c1];rw [qlu jx] at hj;by_cases hr':off≤j∧j < off+xs.length
      ·rw [if_pos hr'] at hj;rw [if_pos ⟨hr'.1,hr'.2,by omega⟩];have:=c3 _ d hj;simpa [jl] using this
      ·rw [if_neg hr'] at hj;rw [if_neg (by omega)];have:=hr j d hj
       rwa [jl] at this) h
    refine ⟨arr',?_,q2,q3,q4,by rw [q5,qeh jx]⟩;simp only [Instr.fill,hpl];rw [if_neg (by simp;omega)];exact q1
   ·cases h
  ·cases h
 | [],_ :: _,_,_,_,hp,_,_,_,_=>by simp [qdt] at hp
 | _ :: _,[],_,_,_,hp,_,_,_,_=>by simp [qdt] at hp
theorem qgx (hs:Sim X ok w ι H) {e:qr} {a:Act} (he:EnvRep ok w ι H e a.tmps):∀ {l:List (Nat × Operand)} {ps:List (Nat × D)},Ys X e l = some ps→qdt ok w ι H ps (l.map fun (i,x)=>(i,a.eval x))
 | [],ps,h=>by
  simp only [Ys,qw] at h;subst h;trivial
 | (i,x) :: l,ps,h=>by
  simp only [Ys] at h;split at h
  ·rename_i d ds h1 h2;injection h with h;subst h;exact ⟨rfl,vi hs he h1,qgx hs he h2⟩
  ·cases h
theorem qwd {fs:Array Field} (h:fs.all (fun f=>decide (0 < qv P f.type)) = true) (w:World) :
  (fs.mapM fun f=>(do pure (f.offset,← sizeOf f.type):Sem (Nat × Nat))).run P w = .ok (fs.map fun f=>(f.offset,qv P f.type)) w:=by
 have key:∀ l:List Field,(∀ f,f∈l→0 < qv P f.type)→(l.mapM fun f=>(do pure (f.offset,← sizeOf f.type):Sem (Nat × Nat))).run P w = .ok (l.map fun f=>(f.offset,qv P f.type)) w:=by
  intro l
  induction l with
  | nil=>intro _;simp
  | cons f l ih =>
   intro hl;have h1:=hl f (VW ..);have h2:=ih fun g hg=>hl g (Jr _ hg);rw [List.mapM_cons];simp only [Sem.run_bind,Qy h1,Result.andThen_ok,Sem.run_pure,h2,List.map_cons]
 rw [Array.mapM_eq_mapM_toList]
 rw [Sem.run_map,key fs.toList (fun f hf=>by
  have:=Array.all_eq_true'.1 h f (by simpa using hf);simpa using this)]
 simp;apply Array.ext';simp
theorem q29 {t:TypeId} {parts:List (Nat × D)} {vps:Array (Nat × Value)} {d:D} (hp:qdt ok w ι H parts vps.toList) (h:qh2 P t parts = some d) :
  ∃ v,(Instr.build t vps).run P w = .ok v w∧Rep ok w ι H d v:=by
 unfold qh2 at h;split at h
 ·rename_i z fs hz hu;split at h
  ·rename_i jB;obtain ⟨zv,z1,z2⟩:=qeK hz;have zr:=z2 ok w ι H;obtain ⟨c1,c2,c3⟩:=qaS zr rfl;cases hf:XX (qed P fs) z parts with
   | none=>simp [hf] at h
   | some cs =>
    simp only [hf,jj,qw] at h;subst h
    have hpl:(fun i=>(fs.map fun f=>(f.offset,qv P f.type))[i]?) = qed P fs:=by
     funext i;simp [qed]
    obtain ⟨arr,q1,q2,q3,q4,_⟩:=qf6 (place:=qed P fs) hp c1 c2 c3 hf;refine ⟨.agg arr,?_,.agg q2 q3 q4⟩;simp only [Instr.build,Sem.run_bind,z1,Result.andThen_ok,run_underlying hu,qwd jB,hpl,q1,Sem.run_pure]
  ·cases h
 ·rename_i z n e hz hu;split at h
  ·rename_i QT;obtain ⟨zv,z1,z2⟩:=qeK hz;have zr:=z2 ok w ι H;obtain ⟨c1,c2,c3⟩:=qaS zr rfl;cases hf:XX (fun i=>some (i * qv P e,qv P e)) z parts with
   | none=>simp [hf] at h
   | some cs =>
    simp only [hf,jj,qw] at h;subst h;obtain ⟨arr,q1,q2,q3,q4,_⟩:=qf6 (place:=fun i=>some (i * qv P e,qv P e)) hp c1 c2 c3 hf;refine ⟨.agg arr,?_,.agg q2 q3 q4⟩;simp only [Instr.build,Sem.run_bind,z1,Result.andThen_ok,run_underlying hu,Qy QT,q1,Sem.run_pure]
  ·cases h
 ·cases h
theorem qhM {z:Array Value} {n j:Nat} (hz:0 < z.size) (h:j < n):((Array.range n).map (z[· % z.size]!)).getD j undef = z.getD (j % z.size) undef:=by
 have hm:=Yh j hz;simp [jl,h,hm]
theorem q2A {t:TypeId} {len:Nat} {parts:List (Nat × D)} {vps:Array (Nat × Value)} {d:D} (hs:Sim X ok w ι H) (hp:qdt ok w ι H parts vps.toList) (h:qbQ P H t len parts = some (d,H')) :
  ∃ v w',(Instr.buildSlice t len vps).run P w = .ok v w'∧Post X H.length ok w ι H d H' v w':=by
 unfold qbQ at h;split at h
 ·rename_i e hu;split at h
  ·rename_i z hz;split at h
   ·rename_i hsmall;cases hf:XX (fun i=>some (i * qv P e,qv P e)) z parts with
    | none=>simp [hf] at h
    | some cs =>
     simp only [hf,qaW] at h;split at h
     ·rename_i hcs0;have hcs:=hcs0.2;clear hcs0;injection h with h;injection h with h1 h2;subst h1;subst h2;obtain ⟨zv,z1,z2,z3,z4,z5,z6,z7⟩:=qaY hz;have qQ:len * qv P e = 0→z = []:=fun h0=>qdw (by omega)
      obtain ⟨zc,hzc1,hzc2,hzget⟩:∃ zc:Array Value,(len * qv P e = 0→zc = #[])∧(¬ len * qv P e = 0→zc = zv.cells) ∧
        ∀ j,j < len * qv P e→((Array.range (len * qv P e)).map (zc[· % zc.size]!)).getD j undef = zv.cells.getD (j % qv P e) undef:=by
       by_cases h0:len * qv P e = 0
       ·exact ⟨#[],fun _=>rfl,fun h=>absurd h0 h,fun j hj=>by omega⟩
       ·refine ⟨zv.cells,fun h=>absurd h h0,fun _=>rfl,fun j hj=>?_⟩;rw [qhM (by omega) hj,z2]
      obtain ⟨arr,q1,q2,q3,q4,q5⟩:=qf6 (place:=fun i=>some (i * qv P e,qv P e)) (arr:=(Array.range (len * qv P e)).map (zc[· % zc.size]!)) hp (by simp [z4]) z5
       (fun j d hj=>by
        rw [hzget j (by have:=(List.getElem?_eq_some_iff.1 hj).1;omega)];exact z7 ok w ι H j d hj) hf
      obtain ⟨ι',n1,n2,n3⟩:=qeq (e:=e) (arr:=arr) (ds:=cs) hs w ⟨rfl,rfl,rfl⟩ rfl (by omega)
       (fun j hj=>by
        have QM:cs[j]? = some (cs[j]'(by omega)):=zn (by omega);exact (q4 j _ QM).oneCell (q3 _ (mem_of_get? QM)))
       q3 q4
      refine ⟨.slice (some ⟨w.heap.size,0,none⟩) len len,w.alloc (.cells arr e),?_,ι',ok,n1,?_,n2⟩
      ·have VA:¬ (16777216 < len * qv P e):=(by omega);simp only [Instr.buildSlice,Sem.run_bind,run_underlying hu,Result.andThen_ok,Qy z3];rw [if_neg (by simpa using hsmall)];by_cases h0:len * qv P e = 0
       ·rw [hzc1 h0] at q1;rw [if_pos h0];simp only [Sem.run_bind,Sem.run_pure,Result.andThen_ok,q1];simp [newRow]
       ·rw [hzc2 h0] at q1;rw [if_neg h0];simp only [Sem.run_bind,Sem.run_pure,Result.andThen_ok,z1,q1];simp [newRow]
      ·refine .osl _ (by rw [zW];omega) (fun ds hd=>?_) (qE _);rw [zA] at hd;injection hd with hd;subst hd;exact ⟨qE _,fun _=>⟨_,_,n3,rfl,by omega⟩⟩
     ·cases h
   ·cases h
  ·cases h
 ·cases h
theorem qxx {t:TypeId} {l c d:D} {lv cv:Value} (hs:Sim X ok w ι H) (hl:Rep ok w ι H l lv) (hc:Rep ok w ι H c cv) (h:qfu P H t l c = some (d,H')) :
  ∃ v w',(Instr.makeSlice t lv cv).run P w = .ok v w'∧Post X H.length ok w ι H d H' v w':=by
 unfold qfu at h;split at h
 ·rename_i e l c hu;split at h
  ·rename_i hcond;obtain ⟨b1,b2,b3,b4⟩:=hcond;cases hz:V0 P e l.toNat with
   | none=>simp [hz] at h
   | some z =>
    simp only [hz,qaW] at h;split at h
    ·rename_i Q2;injection h with h;injection h with h1 h2;subst h1;subst h2;cases hl;cases hc;obtain ⟨zv,z1,z2,z3,z4,z5,z6,z7⟩:=qaY hz;obtain ⟨inf,i1,i2,i3⟩:=qfy z3;simp only [qD] at b3 b4;have wl:IntKind.i64.wrap l = l:=(by rw [IntKind.wrap_i64];omega);have wc:IntKind.i64.wrap c = c:=(by rw [IntKind.wrap_i64];omega);have hcs:((Array.range (c.toNat * qv P e)).map (zv.cells[· % zv.cells.size]!)).size = c.toNat * qv P e:=(by simp);have jx:l.toNat * qv P e≤c.toNat * qv P e:=qaX _ (by omega);by_cases h0:c.toNat * qv P e = 0
     ·have XR:c.toNat = 0:=by
       rcases Nat.mul_eq_zero.1 h0 with h | h
       ·exact h
       ·omega
      have hl0:l.toNat = 0:=(by omega);have Ve:z = []:=qdw (by rw [z4,hl0,Nat.zero_mul]);subst Ve;obtain ⟨ι',n1,n2,n3⟩:=qeq (e:=e) (arr:= #[]) (ds:=[]) hs w ⟨rfl,rfl,rfl⟩ rfl (by simp) (by simp) (by simp) (by simp);refine ⟨.slice (some ⟨w.heap.size,0,none⟩) l.toNat c.toNat,w.alloc (.cells #[] e),?_,ι',ok,n1,?_,n2⟩
      ·simp only [Instr.makeSlice,Sem.run_bind,run_underlying hu,Result.andThen_ok,asInt,asIntOf,typeInfo,run_program,i1,Sem.run_pure,wl,wc]
       rw [if_neg (by
        simp only [i3,qdY,decide_eq_true_eq,not_or];refine ⟨⟨⟨by omega,?_⟩,by omega⟩,by omega⟩;omega)]
       simp [Qy z3,h0,newRow,show Array.range 0 = #[] from rfl]
      ·refine .osl _ (by rw [zW];omega) (fun ds hd=>?_) (by omega);rw [zA] at hd;injection hd with hd;subst hd;exact ⟨qE _,fun _=>⟨_,_,n3,rfl,by simp [h0]⟩⟩
     ·have hzget:∀ j,j < c.toNat * qv P e→((Array.range (c.toNat * qv P e)).map (zv.cells[· % zv.cells.size]!)).getD j undef = zv.cells.getD (j % qv P e) undef:=by
       intro j hj;rw [qhM (by omega) hj,z2]
      obtain ⟨ι',n1,n2,n3⟩:=qeq (e:=e) (arr:=(Array.range (c.toNat * qv P e)).map (zv.cells[· % zv.cells.size]!)) (ds:=z) hs w ⟨rfl,rfl,rfl⟩ rfl (by rw [hcs];omega)
       (fun j hj=>by
        rw [hcs] at hj;rw [hzget j hj];exact z6 _ (Yh _ z3))
       z5 (fun j d hj=>by
        rw [hzget j (by have:=(List.getElem?_eq_some_iff.1 hj).1;omega)];exact z7 ok w ι H j d hj)
      refine ⟨.slice (some ⟨w.heap.size,0,none⟩) l.toNat c.toNat,w.alloc (.cells ((Array.range (c.toNat * qv P e)).map (zv.cells[· % zv.cells.size]!)) e),?_,ι',ok,n1,?_,n2⟩
      ·simp only [Instr.makeSlice,Sem.run_bind,run_underlying hu,Result.andThen_ok,asInt,asIntOf,typeInfo,run_program,i1,Sem.run_pure,wl,wc]
       rw [if_neg (by
        simp only [i3,qdY,decide_eq_true_eq,not_or];refine ⟨⟨⟨by omega,?_⟩,by omega⟩,by omega⟩;omega)]
       simp [Qy z3,h0,newRow,z1]
      ·refine .osl _ (by rw [zW];omega) (fun ds hd=>?_) (by omega);rw [zA] at hd;injection hd with hd;subst hd;exact ⟨qE _,fun _=>⟨_,_,n3,rfl,by rw [hcs];omega⟩⟩
    ·cases h
  ·cases h
 ·cases h
end
end Go.Ev
namespace Go.Ev
section
variable {X:Cx} {P:Program} {ok:Nat→Prop} {w w':World} {ι:qV} {H H':qe}
theorem q2h {d:Nat} {t:TypeId} {k:CK} {x y:D} {a b:Value} {r:Bool}
  (hp:P.underlying t = some .bool∧k = .b∨(∃ q,P.underlying t = some (.int q))∧k = .i∨P.underlying t = some .string∧k = .s) (hx:Rep ok w ι H x a) (hy:Rep ok w ι H y b) (h:qdi k x y = some r) :
  (Op.equalIn (d+1) t a b).run P w = .ok r w:=by
 unfold qdi at h;rcases hp with ⟨hp,rfl⟩ | ⟨⟨q,hp⟩,rfl⟩ | ⟨hp,rfl⟩
 ·split at h <;> first | contradiction | skip
  injection h with h;subst h;cases hx;cases hy;exact run_equalIn_bool' w d t _ _ hp
 ·split at h <;> first | contradiction | skip
  split at h
  ·rename_i he;subst he;injection h with h;subst h;cases hx;cases hy;exact run_equalIn_int w d t _ _ _ _ hp
  ·cases h
 ·split at h <;> first | contradiction | skip
  injection h with h;subst h;cases hx;cases hy;rw [run_equalIn_string w d t _ _ hp];simp
theorem qfL:∀ {ks:List CK} {a c:List D} {r:Bool},ko ks a c = some r→a.length = ks.length∧c.length = ks.length
 | [],[],[],_,_=>⟨rfl,rfl⟩
 | k :: ks,x :: a,y :: c,r,h=>by
  simp only [ko] at h;split at h
  ·rename_i h1 h2;obtain ⟨k1,k2⟩:=qfL h2;simp [k1,k2]
  ·cases h
 | [],_ :: _,_,_,h | [],[],_ :: _,_,h | _ :: _,[],_,_,h | _ :: _,_ :: _,[],_,h=>by simp [ko] at h
theorem qkn:∀ {ks ls:List CK} {a c b d:List D} {r:Bool},a.length = ks.length→c.length = ks.length→ko (ks ++ ls) (a ++ b) (c ++ d) = some r→∃ p q,ko ks a c = some p∧ko ls b d = some q∧r = (p && q)
 | [],ls,[],[],b,d,r,_,_,h=>⟨true,r,rfl,h,by simp⟩
 | k :: ks,ls,x :: a,y :: c,b,d,r,hl,hl',h=>by
  simp only [Qw,ko] at h;split at h
  ·rename_i p q h1 h2;injection h with h;obtain ⟨p',q',k1,k2,k3⟩:=qkn (by simpa using hl) (by simpa using hl') h2;exact ⟨p && p',q',by simp [ko,h1,k1],k2,by rw [← h,k3,Bool.and_assoc]⟩
  ·cases h
 | [],_,_ :: _,_,_,_,_,hl,_,_=>by simp at hl
 | [],_,_,_ :: _,_,_,_,_,hl,_=>by simp at hl
 | _ :: _,_,[],_,_,_,_,hl,_,_=>by simp at hl
 | _ :: _,_,_ :: _,[],_,_,_,_,hl,_=>by simp at hl
def qk1 (P:Program) (d:Nat) (t:TypeId) (ks:List CK):Prop :=
 ∀ (ok:Nat→Prop) (w:World) (ι:qV) (H:qe) (xs ys:List D) (vs us:Array Value) (off:Nat) (r:Bool),Rep ok w ι H (.agg xs) (.agg vs)→Rep ok w ι H (.agg ys) (.agg us) →
  off+ks.length≤xs.length→off+ks.length≤ys.length→ko ks ((xs.drop off).take ks.length) ((ys.drop off).take ks.length) = some r →
  ∃ a b,(part t vs off).run P w = .ok a w∧(part t us off).run P w = .ok b w∧(Op.equalIn d t a b).run P w = .ok r w
def qth (P:Program) (d:Nat) (t:TypeId) (ks:List CK):Prop :=
 ∀ (ok:Nat→Prop) (w:World) (ι:qV) (H:qe) (xs ys:List D) (vs us:Array Value) (r:Bool),Rep ok w ι H (.agg xs) (.agg vs)→Rep ok w ι H (.agg ys) (.agg us) →
  ko ks xs ys = some r→(Op.equalIn d t (.agg vs) (.agg us)).run P w = .ok r w
theorem qho (xs:List D) (off k:Nat):xs.drop off = (xs.drop off).take k ++ xs.drop (off+k):=by
 rw [← jV,qhD]
theorem qmr (P:Program) (g:TypeId→Option (List CK)):∀ (fs:List Field) (acc ks:List CK),qcp P g fs acc = some ks→∃ ls,ks = acc ++ ls
 | [],acc,ks,h=>⟨[],by simp only [qcp,qw] at h;simp [h]⟩
 | f :: fs,acc,ks,h=>by
  simp only [qcp] at h;split at h
  ·split at h
   ·obtain ⟨ls,e⟩:=qmr P g fs _ _ h;exact ⟨_,by rw [e,Qj]⟩
   ·cases h
  ·cases h
theorem qrP {d:Nat} {g:TypeId→Option (List CK)} (hg:∀ t n,g t = some n→qv P t = n.length→qk1 P d t n) {xs ys:List D} {vs us:Array Value} (hx:Rep ok w ι H (.agg xs) (.agg vs)) (hy:Rep ok w ι H (.agg ys) (.agg us)) :
  ∀ (fs:List Field) (acc ls:List CK) (r:Bool),qcp P g fs acc = some (acc ++ ls)→ko ls (xs.drop acc.length) (ys.drop acc.length) = some r→acc.length≤xs.length→acc.length≤ys.length→(Op.eqFields d vs us fs).run P w = .ok r w
 | [],acc,ls,r,h,hc,_,_=>by
  simp only [qcp,qw] at h;have:ls = []:=by simpa using h
  subst this;obtain ⟨l1,l2⟩:=qfL hc;rw [qdw l1,qdw l2] at hc;simp only [ko,qw] at hc;subst hc;simp [Op.eqFields]
 | f :: fs,acc,ls,r,h,hc,Ky,hly=>by
  simp only [qcp] at h;split at h
  ·rename_i ks hk;split at h
   ·rename_i hcond;obtain ⟨h1,h2,h3,h4⟩:=hcond;obtain ⟨ms,hms⟩:=qmr P g fs _ _ h
    have hls:ls = ks ++ ms:=by
     have:acc ++ ls = acc ++ (ks ++ ms):=(by rw [hms,Qj]);exact List.append_cancel_left this
    subst hls;obtain ⟨l1,l2⟩:=qfL hc;simp only [vQ,zz] at l1 l2;rw [qho xs acc.length ks.length,qho ys acc.length ks.length] at hc;obtain ⟨p,q,c1,c2,c3⟩:=qkn (by simp;omega) (by simp;omega) hc;obtain ⟨a,b,p1,p2,p3⟩:=hg f.type ks hk h3 ok w ι H xs ys vs us acc.length p hx hy (by omega) (by omega) c1;have ih:=qrP hg hx hy fs (acc ++ ks) ms q (by rw [h,Qj]) (by simpa using c2) (by simp;omega) (by simp;omega);rw [← h1] at p1 p2;simp only [Op.eqFields,h2,ne_eq,not_false_eq_true,if_true,Sem.run_bind,p1,p2,p3,Result.andThen_ok];cases p
    ·simp [c3]
    ·simpa [c3] using ih
   ·cases h
  ·cases h
theorem q08 {α:Type} (n:Nat) (l:List α):(List.replicate (n+1) l).flatten = l ++ (List.replicate n l).flatten:=by
 rw [KM,qeG]
theorem qrO {d:Nat} {ks:List CK} {e:TypeId} (he:qk1 P d e ks) {xs ys:List D} {vs us:Array Value} (hx:Rep ok w ι H (.agg xs) (.agg vs)) (hy:Rep ok w ι H (.agg ys) (.agg us)) :
  ∀ (m i:Nat) (r:Bool),ko (List.replicate m ks).flatten (xs.drop (i * ks.length)) (ys.drop (i * ks.length)) = some r→i * ks.length≤xs.length→i * ks.length≤ys.length→(Op.eqItems d e ks.length vs us (List.range' i m)).run P w = .ok r w
 | 0,i,r,hc,_,_=>by
  obtain ⟨l1,l2⟩:=qfL hc;have e1:xs.drop (i * ks.length) = []:=qdw (by rw [l1];rfl);have e2:ys.drop (i * ks.length) = []:=qdw (by rw [l2];rfl);rw [e1,e2] at hc;simp only [List.replicate_zero,List.flatten_nil,ko,qw] at hc;subst hc;simp [Op.eqItems]
 | m+1,i,r,hc,Ky,hly=>by
  obtain ⟨l1,l2⟩:=qfL hc;rw [q08] at hc l1 l2;simp only [vQ,zz] at l1 l2;have hi1:(i+1) * ks.length = i * ks.length+ks.length:=by rw [Jp,Nat.one_mul]
  rw [qho xs (i * ks.length) ks.length,qho ys (i * ks.length) ks.length] at hc;obtain ⟨p,q,c1,c2,c3⟩:=qkn (by simp;omega) (by simp;omega) hc;obtain ⟨a,b,p1,p2,p3⟩:=he ok w ι H xs ys vs us (i * ks.length) p hx hy (by omega) (by omega) c1;have ih:=qrO he hx hy m (i+1) q (by rw [hi1];exact c2) (by omega) (by omega);rw [List.range'_succ];simp only [Op.eqItems,Sem.run_bind,p1,p2,p3,Result.andThen_ok];cases p
  ·simp [c3]
  ·simpa [c3] using ih
theorem q3p {t:TypeId} {m:Nat} {ks:List CK} (h:ZT P m t = some ks) :
  VT P t = some true∨(VT P t = some false∧∃ k,ks = [k]∧(P.underlying t = some .bool∧k = .b∨(∃ q,P.underlying t = some (.int q))∧k = .i∨P.underlying t = some .string∧k = .s)):=by
 cases m with
 | zero=>simp [ZT] at h
 | succ m =>
  unfold ZT at h;unfold VT;split at h
  ·rename_i hu;injection h with h;exact .inr ⟨by simp [hu],_,h.symm,.inl ⟨hu,rfl⟩⟩
  ·rename_i hu;injection h with h;exact .inr ⟨by simp [hu],_,h.symm,.inr (.inl ⟨⟨_,hu⟩,rfl⟩)⟩
  ·rename_i hu;injection h with h;exact .inr ⟨by simp [hu],_,h.symm,.inr (.inr ⟨hu,rfl⟩)⟩
  ·rename_i hu;exact .inl (by simp [hu])
  ·rename_i hu;exact .inl (by simp [hu])
  ·cases h
theorem qiQ:∀ (m d:Nat) (t:TypeId) (ks:List CK),ZT P m t = some ks→(qv P t = ks.length→qk1 P (d+m) t ks)∧(VT P t = some true→qth P (d+m) t ks)
 | 0,_,_,_,h=>by simp [ZT] at h
 | m+1,d,t,ks,h=>by
  have hagg:VT P t = some true→qth P (d+(m+1)) t ks:=by
   intro hq ok w ι H xs ys vs us r hx hy hc;unfold ZT at h;unfold VT at hq;split at h
   ·rename_i hu;simp [hu] at hq
   ·rename_i hu;simp [hu] at hq
   ·rename_i hu;simp [hu] at hq
   ·rename_i n' e hu;split at h
    ·rename_i ks' hk;split at h
     ·rename_i hcond;injection h with h;subst h;obtain ⟨i,hi,_⟩:=qfy (P:=P) (t:=e) (by omega);have ih:=(qiQ m d e ks' hk).1 hcond.1;rw [show d+(m+1) = (d+m)+1 from rfl,run_equalIn_array w (d+m) vs us hu hi];have hck:P.cellsOf e = ks'.length:=hcond.1;rw [hck,List.range_eq_range'];exact qrO ih hx hy n' 0 r (by simpa using hc) (by omega) (by omega)
     ·cases h
    ·cases h
   ·rename_i fs hu;split at h
    ·cases h
    ·rename_i hst;have hfs:P.fieldsOf t = fs:=(by simp [Program.fieldsOf,hu]);rw [show d+(m+1) = (d+m)+1 from rfl,run_equalIn_struct w (d+m) t vs us (by rw [hfs];exact hu) (by simpa using hst),hfs];exact qrP (g:=ZT P m) (fun t n ht hz=>(qiQ m d t n ht).1 hz) hx hy fs.toList [] ks r (by simpa using h) (by simpa using hc) (vV _) (vV _)
   ·cases h
  refine ⟨?_,hagg⟩;intro jn ok w ι H xs ys vs us off r hx hy Ky hly hc;rcases q3p h with hq | ⟨hq,k,rfl,hkind⟩
  ·obtain ⟨a,a1,a2⟩:=qeo (P:=P) (t:=t) (off:=off) (d:=.agg ((xs.drop off).take ks.length)) hx (by simp [qal,hq,jn,Ky]);obtain ⟨b,b1,b2⟩:=qeo (P:=P) (t:=t) (off:=off) (d:=.agg ((ys.drop off).take ks.length)) hy (by simp [qal,hq,jn,hly]);refine ⟨a,b,a1,b1,?_⟩;obtain ⟨va,rfl⟩:∃ va,a = .agg va:=by cases a2;exact ⟨_,rfl⟩
   obtain ⟨vb,rfl⟩:∃ vb,b = .agg vb:=by cases b2;exact ⟨_,rfl⟩
   exact hagg hq ok w ι H _ _ _ _ r a2 b2 hc
  ·simp only [vn,kp,Jo] at Ky hly hc;have hxo:xs[off]? = some (xs[off]'(by omega)):=zn (by omega);have hyo:ys[off]? = some (ys[off]'(by omega)):=zn (by omega);have t1:(xs.drop off).take 1 = [xs[off]'(by omega)]:=(by rw [zU (show off < xs.length by omega)];rfl);have t2:(ys.drop off).take 1 = [ys[off]'(by omega)]:=(by rw [zU (show off < ys.length by omega)];rfl);rw [t1,t2] at hc;simp only [ko] at hc;split at hc
   ·rename_i p q hpq J3;injection hc with hc;injection J3 with J3;subst J3;obtain ⟨a,a1,a2⟩:=qeo (P:=P) (t:=t) (off:=off) hx (by simp only [qal,hq];exact hxo);obtain ⟨b,b1,b2⟩:=qeo (P:=P) (t:=t) (off:=off) hy (by simp only [qal,hq];exact hyo);refine ⟨a,b,a1,b1,?_⟩;have:=q2h (P:=P) (d:=d+m) hkind a2 b2 hpq;rw [show d+(m+1) = d+m+1 from rfl,this,← hc];simp
   ·cases hc
theorem q1j {op:BinOp} {t:TypeId} {x y:Operand} {a b:Value} (h1:∀ p q,a = .agg p→b = .agg q→P.eqGuardType P.depth t = false) (h2:a = .nilIface→b = .nilIface→(Ks x || Ks y) = true) :
  (eqGuard op t x y a b).run P w = .ok () w:=by
 by_cases ha:a = .nilIface∧b = .nilIface
 ·obtain ⟨rfl,rfl⟩:=ha;have:=h2 rfl rfl;cases x <;> cases y <;> simp [Ks] at this <;> cases op <;> simp [eqGuard]
 ·by_cases hg:∃ p q,a = .agg p∧b = .agg q
  ·obtain ⟨p,q,rfl,rfl⟩:=hg;cases op <;> simp [eqGuard,run_program,h1 p q rfl rfl]
  ·cases op <;> simp only [eqGuard] <;> first | rfl | skip
   ·rw [if_neg (by simp)];split
    ·exact absurd ⟨rfl,rfl⟩ ha
    ·exact absurd ⟨_,_,rfl,rfl⟩ hg
    ·rfl
   ·rw [if_neg (by simp)];split
    ·exact absurd ⟨rfl,rfl⟩ ha
    ·exact absurd ⟨_,_,rfl,rfl⟩ hg
    ·rfl
theorem q1h (d:Nat) {t e:TypeId} (hu:P.underlying t = some (.slice e)) (q:Option Addr) (n c n' c':Nat):(Op.equalIn (d+1) t (.slice none n' c') (.slice q n c)).run P w = .ok q.isNone w:=by
 simp only [Op.equalIn,Sem.run_bind,run_underlying hu,Result.andThen_ok,Sem.run_pure]
theorem q1d (d:Nat) {t e:TypeId} (hu:P.underlying t = some (.slice e)) (q:Option Addr) (n c n' c':Nat):(Op.equalIn (d+1) t (.slice q n c) (.slice none n' c')).run P w = .ok q.isNone w:=by
 cases q <;> simp only [Op.equalIn,Sem.run_bind,run_underlying hu,Result.andThen_ok,Sem.run_pure,Option.isNone]
theorem q1g (d:Nat) {t:TypeId} {ms:Array (String × TypeId)} (hu:P.underlying t = some (.interface ms)):(Op.equalIn (d+1) t .nilIface .nilIface).run P w = .ok true w:=by
 simp only [Op.equalIn,Sem.run_bind,run_underlying hu,Result.andThen_ok,Sem.run_pure]
theorem q1i (d:Nat) {t u:TypeId} {v:Value} {ms:Array (String × TypeId)} (hu:P.underlying t = some (.interface ms)):(Op.equalIn (d+1) t (.iface u v) .nilIface).run P w = .ok false w:=by
 simp only [Op.equalIn,Sem.run_bind,run_underlying hu,Result.andThen_ok,Sem.run_pure]
theorem q1f (d:Nat) {t e:TypeId} (hu:P.underlying t = some (.pointer e)):(Op.equalIn (d+1) t (.pointer none) (.pointer none)).run P w = .ok true w:=by
 simp only [Op.equalIn,Sem.run_bind,run_underlying hu,Result.andThen_ok,Sem.run_pure,Option.isNone]
theorem q1e (d:Nat) {t e:TypeId} {a:Addr} (hu:P.underlying t = some (.pointer e)):(Op.equalIn (d+1) t (.pointer (some a)) (.pointer none)).run P w = .ok false w:=by
 simp only [Op.equalIn,Sem.run_bind,run_underlying hu,Result.andThen_ok,Sem.run_pure]
theorem qrN {t e:TypeId} (hu:P.underlying t = some (.slice e)) (q:Option Addr) (n c n' c':Nat):(Op.equal t (.slice none n' c') (.slice q n c)).run P w = .ok q.isNone w:=q1h 9999 hu q n c n' c'
theorem qjP {t e:TypeId} (hu:P.underlying t = some (.slice e)) (q:Option Addr) (n c n' c':Nat):(Op.equal t (.slice q n c) (.slice none n' c')).run P w = .ok q.isNone w:=q1d 9999 hu q n c n' c'
theorem q1a {t:TypeId} {ms:Array (String × TypeId)} (hu:P.underlying t = some (.interface ms)):(Op.equal t .nilIface .nilIface).run P w = .ok true w:=q1g 9999 hu
theorem q1b {t u:TypeId} {v:Value} {ms:Array (String × TypeId)} (hu:P.underlying t = some (.interface ms)):(Op.equal t (.iface u v) .nilIface).run P w = .ok false w:=q1i 9999 hu
theorem q0Z {t e:TypeId} (hu:P.underlying t = some (.pointer e)):(Op.equal t (.pointer none) (.pointer none)).run P w = .ok true w:=q1f 9999 hu
theorem qrM {t e:TypeId} {a:Addr} (hu:P.underlying t = some (.pointer e)):(Op.equal t (.pointer (some a)) (.pointer none)).run P w = .ok false w:=q1e 9999 hu
theorem q1c (w:World) {t tx:TypeId} {ms:Array (String × TypeId)} {k q:IntKind} (a b:Int)
  (ht:P.underlying t = some (.interface ms)) (hc:(P.info? tx).map (·.comparable) = some true) (hx:P.underlying tx = some (.int q)) :
  (Op.equal t (.iface tx (.int k a)) (.iface tx (.int k b))).run P w = .ok (a == b) w:=by
 cases hi:P.info? tx with
 | none=>simp [hi] at hc
 | some i =>
  have Xi:i.comparable = true:=by simpa [hi] using hc
  have h:∀ d:Nat,(Op.equalIn (d+2) t (.iface tx (.int k a)) (.iface tx (.int k b))).run P w = .ok (a == b) w:=fun d=>by
   simp [Op.equalIn,run_underlying ht,run_underlying hx,typeInfo,hi,Xi]
  simp [Op.equal,Op.maxDepth,h 9998]
theorem Xw {op:BinOp} {t:TypeId} {a b:Value} {r:Bool} (ho:op = .eql∨op = .neq) (he:(Op.equal t a b).run P w = .ok r w)
  (hb:binOp .eql t a b = (do pure (.bool (← Op.equal t a b)))∧binOp .neq t a b = (do pure (.bool (!(← Op.equal t a b))))) :
  (binOp op t a b).run P w = .ok (.bool (if op = .eql then r else !r)) w:=by
 rcases ho with rfl | rfl
 ·rw [hb.1];simp [he]
 ·rw [hb.2];simp [he]
theorem qrQ {t:TypeId} {c:Bool} {x y:D} {a b:Value} {r:Bool} (hx:Rep ok w ι H x a) (hy:Rep ok w ι H y b) (h:eqD P t c x y = some r) :
  (∀ p q,a = .agg p→b = .agg q→P.eqGuardType P.depth t = false)∧(a = .nilIface→b = .nilIface→c = true) ∧
  (∀ op,(op = .eql∨op = .neq)→(binOp op t a b).run P w = .ok (.bool (if op = .eql then r else !r)) w):=by
 unfold eqD at h;split at h
 ·cases hx;cases hy;split at h
  ·rename_i hu;injection h with h;subst h;exact ⟨fun _ _ h=>(by cases h),fun h=>(by cases h),fun op ho=>Xw ho (run_equal_bool w t _ _ hu) ⟨rfl,rfl⟩⟩
  ·cases h
 ·split at h
  ·rename_i ks hks;split at h
   ·rename_i hcond;obtain ⟨vs,rfl⟩:∃ va,a = .agg va:=by cases hx;exact ⟨_,rfl⟩
    obtain ⟨us,rfl⟩:∃ vb,b = .agg vb:=by cases hy;exact ⟨_,rfl⟩
    have he:(Op.equal t (.agg vs) (.agg us)).run P w = .ok r w:=(qiQ 50 9950 t ks hks).2 hcond.1 ok w ι H _ _ _ _ r hx hy h;exact ⟨fun _ _ _ _=>hcond.2,fun h=>(by cases h),fun op ho=>Xw ho he ⟨rfl,rfl⟩⟩
   ·cases h
  ·cases h
 ·split at h
  ·rename_i e hu;injection h with h;subst h;cases hx;cases hy with
   | vnil=>exact ⟨fun _ _ h=>(by cases h),fun h=>(by cases h),fun op ho=>Xw ho (qrN hu _ _ _ _ _) ⟨rfl,rfl⟩⟩
   | vsl a f ha hc hr hh zo=>exact ⟨fun _ _ h=>(by cases h),fun h=>(by cases h),fun op ho=>Xw ho (qrN hu _ _ _ _ _) ⟨rfl,rfl⟩⟩
  ·cases h
 ·split at h
  ·rename_i e hu;injection h with h;subst h;cases hy;cases hx with
   | vnil=>exact ⟨fun _ _ h=>(by cases h),fun h=>(by cases h),fun op ho=>Xw ho (qjP hu _ _ _ _ _) ⟨rfl,rfl⟩⟩
   | vsl a f ha hc hr hh zo=>exact ⟨fun _ _ h=>(by cases h),fun h=>(by cases h),fun op ho=>Xw ho (qjP hu _ _ _ _ _) ⟨rfl,rfl⟩⟩
  ·cases h
 ·split at h
  ·rename_i e hu;injection h with h;subst h;cases hy;cases hx;exact ⟨fun _ _ h=>(by cases h),fun h=>(by cases h),fun op ho=>Xw ho (qjP hu _ _ _ _ _) ⟨rfl,rfl⟩⟩
  ·cases h
 ·cases hx;cases hy;split at h
  ·rename_i e hu;split at h
   ·rename_i hc;injection h with h;subst h;exact ⟨fun _ _ h=>(by cases h),fun _ _=>hc,fun op ho=>Xw ho (q1a hu) ⟨rfl,rfl⟩⟩
   ·cases h
  ·cases h
 ·rename_i s k na s' k' nb;cases hx with
  | iface hx =>
  cases hy with
  | iface hy =>
  cases hx;cases hy;split at h
  ·rename_i e q hu hs;split at h
   ·rename_i hc;obtain ⟨rfl,rfl,hc⟩:=hc;injection h with h;subst h
    have Xi:(P.info? s).map (·.comparable) = some true:=by
     unfold qkh at hc;cases hm:(P.info? s).map (·.comparable) with
     | none=>rw [hm] at hc;simp at hc
     | some b=>rw [hm] at hc;simpa using hc
    exact ⟨fun _ _ h=>(by cases h),fun h=>(by cases h),fun op ho=>Xw ho (q1c w na nb hu Xi hs) ⟨rfl,rfl⟩⟩
   ·cases h
  ·cases h
 ·cases hx;cases hy;split at h
  ·rename_i e hu;injection h with h;subst h;exact ⟨fun _ _ h=>(by cases h),fun h=>(by cases h),fun op ho=>Xw ho (q1b hu) ⟨rfl,rfl⟩⟩
  ·cases h
 ·cases hx;cases hy;split at h
  ·rename_i e hu;injection h with h;subst h;exact ⟨fun _ _ h=>(by cases h),fun h=>(by cases h),fun op ho=>Xw ho (q0Z hu) ⟨rfl,rfl⟩⟩
  ·cases h
 ·cases hx;cases hy;split at h
  ·rename_i e hu;injection h with h;subst h;exact ⟨fun _ _ h=>(by cases h),fun h=>(by cases h),fun op ho=>Xw ho (qrM hu) ⟨rfl,rfl⟩⟩
  ·cases h
 ·cases hx;cases hy;split at h
  ·rename_i e hu;injection h with h;subst h;exact ⟨fun _ _ h=>(by cases h),fun h=>(by cases h),fun op ho=>Xw ho (qrM hu) ⟨rfl,rfl⟩⟩
  ·cases h
 ·cases h
theorem q2G {op:BinOp} {t:TypeId} {x y:Operand} {p q d:D} {a b:Value} (hx:Rep ok w ι H p a) (hy:Rep ok w ι H q b) (h:qh3 P op t (Ks x || Ks y) p q = some d) :
  ∃ v,(do eqGuard op t x y a b;binOp op t a b:Sem Value).run P w = .ok v w∧Rep ok w ι H d v:=by
 have fin:(∀ p q,a = .agg p→b = .agg q→P.eqGuardType P.depth t = false)→(a = .nilIface→b = .nilIface→(Ks x || Ks y) = true)→∀ v,(binOp op t a b).run P w = .ok v w →
   (do eqGuard op t x y a b;binOp op t a b:Sem Value).run P w = .ok v w:=by
  intro h1 h2 v hv;rw [Sem.run_bind,q1j h1 h2];exact hv
 unfold qh3 at h;split at h
 ·cases hx;cases hy;rename_i k a k' b;obtain ⟨v,h1,h2⟩:=qls (P:=P) (ok:=ok) (w:=w) (ι:=ι) (H:=H) (t:=t) (k':=k') (.inl rfl) h;exact ⟨v,fin (fun _ _ h=>by cases h) (fun h=>by cases h) v h1,h2⟩
 ·cases hx;cases hy;rename_i k a k' b;obtain ⟨v,h1,h2⟩:=qls (P:=P) (ok:=ok) (w:=w) (ι:=ι) (H:=H) (t:=t) (k':=k') (.inr rfl) h;exact ⟨v,fin (fun _ _ h=>by cases h) (fun h=>by cases h) v h1,h2⟩
 ·rename_i op' k a k' b hns1 hns2;split at h
  ·rename_i hk;subst hk;cases hx;cases hy;obtain ⟨v,h1,h2⟩:=qzp (P:=P) (ok:=ok) (w:=w) (ι:=ι) (H:=H) (t:=t) (fun e=>by subst e;simp_all) (fun e=>by subst e;simp_all) h;exact ⟨v,fin (fun _ _ h=>by cases h) (fun h=>by cases h) v h1,h2⟩
  ·cases h
 ·cases hx;cases hy;obtain ⟨v,h1,h2⟩:=qtY (P:=P) (ok:=ok) (w:=w) (ι:=ι) (H:=H) (t:=t) h;exact ⟨v,fin (fun _ _ h=>by cases h) (fun h=>by cases h) v h1,h2⟩
 ·cases he:eqD P t (Ks x || Ks y) p q with
  | none=>simp [he] at h
  | some r =>
   simp only [he,jj,qw] at h;subst h;obtain ⟨e2,e3,e4⟩:=qrQ hx hy he;exact ⟨.bool r,fin e2 e3 _ (by rw [e4 .eql (.inl rfl)];simp),.bool _⟩
 ·cases he:eqD P t (Ks x || Ks y) p q with
  | none=>simp [he] at h
  | some r =>
   simp only [he,jj,qw] at h;subst h;obtain ⟨e2,e3,e4⟩:=qrQ hx hy he;exact ⟨.bool !r,fin e2 e3 _ (by rw [e4 .neq (.inr rfl)];simp),.bool _⟩
 ·cases h
end
end Go.Ev
namespace Go.Ev
section
variable {X:Cx} {P:Program} {ok ok':Nat→Prop} {w w':World} {ι:qV} {H H':qe}
theorem Rep.okMono {d:D} {v:Value} (h:Rep ok w ι H d v) (hm:∀ b,ok b→ok' b):Rep ok' w ι H d v:=by
 induction h with
 | bool b=>exact .bool b
 | int k n=>exact .int k n
 | str s=>exact .str s
 | nilp=>exact .nilp
 | nilf=>exact .nilf
 | nili=>exact .nili
 | raw v=>exact .raw v
 | agg hl hc h ih=>exact .agg hl hc ih
 | tup hl h ih=>exact .tup hl ih
 | fn hl h ih=>exact .fn hl ih
 | iface h ih=>exact .iface ih
 | optr a hi h=>exact .optr a hi h
 | osl a hi h zo=>exact .osl a hi h zo
 | vptr a f ha hc hr h ih=>exact .vptr a f (fun d hd=>hm _ (ha d hd)) hc hr ih
 | vnil=>exact .vnil
 | vsl a f ha hc hr h zo ih=>exact .vsl a f (fun d hd=>hm _ (ha d hd)) hc hr ih zo
theorem Rep.vfree {d:D} {v:Value} (h:Rep ok w ι H d v) (hv:vFree d = true) (ok':Nat→Prop):Rep ok' w ι H d v:=by
 induction h with
 | bool b=>exact .bool b
 | int k n=>exact .int k n
 | str s=>exact .str s
 | nilp=>exact .nilp
 | nilf=>exact .nilf
 | nili=>exact .nili
 | raw v=>exact .raw v
 | agg hl hc h ih =>
  simp only [vFree,qga] at hv;exact .agg hl hc fun j d hj=>ih j d hj (hv d (mem_of_get? hj))
 | tup hl h ih =>
  simp only [vFree,qga] at hv;exact .tup hl fun j d hj=>ih j d hj (hv d (mem_of_get? hj))
 | fn hl h ih =>
  simp only [vFree,qga] at hv;exact .fn hl fun j d hj=>ih j d hj (hv d (mem_of_get? hj))
 | iface h ih=>exact .iface (ih hv)
 | optr a hi h=>exact .optr a hi h
 | osl a hi h zo=>exact .osl a hi h zo
 | vptr a f ha hc hr h ih=>simp [vFree] at hv
 | vnil=>exact .vnil
 | vsl a f ha hc hr h zo ih=>simp [vFree] at hv
def qg3 (ok:Nat→Prop) (ι:qV) (H:qe) (b:Nat):Prop:=ok b∨∃ i ds s,qf H i = some ds∧ι i = some (b,s)
theorem qdp {ds:List D} (h:ds.all idFree = true):∀ d,d∈ds→idFree d = true:=by
 intro d hd;exact List.all_eq_true.1 h d hd
theorem freeze_rep (hs:Sim X ok w ι H):∀ (d:D) {d':D} {v:Value},Rep ok w ι H d v→freeze H d = some d'→Rep (qg3 ok ι H) w jh [] d' v
 | .osl i st off len k,d',v,h,hf=>by
  simp only [freeze] at hf;split at hf
  ·rename_i ds hd;split at hf
   ·rename_i hcond;injection hf with hf;subst hf;cases h with
    | @osl _ _ _ _ _ _ _ c a hi hh zo =>
     obtain ⟨b,s,q1,rfl,q3⟩:=(hh ds hd).2 hcond.1;obtain ⟨b',arr,e,fr,k1,k2,k3,k4,k5,k6,k7,k8⟩:=hs.blk i ds hd;have k1':=k1;rw [q1] at k1;injection k1 with k1;injection k1 with k1 _;subst k1;refine .vsl _ (fun j=>arr.getD (off+j) undef) (fun _ _=>.inr ⟨i,ds,_,hd,q1⟩) (fun d hd=>k7 d (Jq (Vx hd))) (fun j d hj=>?_) (fun j d hj=>?_) zo
     ·rw [KN] at hj;split at hj
      ·rw [Qv] at hj;have qg:off+j < arr.size:=jZ (List.getElem?_eq_some_iff.1 hj).1 k4;rw [JZ,Ye k3];simp [qg]
      ·cases hj
     ·rw [KN] at hj;split at hj
      ·rw [Qv] at hj;exact ((k8 _ d hj).free (qdp hcond.2.2 d (mem_of_get? hj)) _ _).okMono fun b hb=>.inl hb
      ·cases hj
   ·cases hf
  ·cases hf
 | .optr i st off,d',v,h,hf=>by
  simp only [freeze] at hf;split at hf
  ·rename_i ds hd;split at hf
   ·rename_i hcond;injection hf with hf;subst hf;cases h with
    | optr a hi hh =>
     obtain ⟨b,s,q1,rfl⟩:=(hh ds hd).2 hcond.1;obtain ⟨b',arr,e,fr,k1,k2,k3,k4,k5,k6,k7,k8⟩:=hs.blk i ds hd;rw [q1] at k1;injection k1 with k1;injection k1 with k1 _;subst k1;refine .vptr _ (fun j=>arr.getD (off+j) undef) (fun _ _=>.inr ⟨i,ds,_,hd,q1⟩) (fun d hd=>k7 d (Jq hd)) (fun j d hj=>?_) (fun j d hj=>?_)
     ·rw [Qv] at hj;have qg:off+j < arr.size:=jZ (List.getElem?_eq_some_iff.1 hj).1 k4;rw [JZ,Ye k3];simp [qg]
     ·rw [Qv] at hj;exact ((k8 _ d hj).free (qdp hcond.2 d (mem_of_get? hj)) _ _).okMono fun b hb=>.inl hb
   ·cases hf
  ·cases hf
 | .fn f caps,d',v,h,hf=>by
  simp only [freeze] at hf;cases hc:freeze.freezeL H caps with
  | none=>simp [hc] at hf
  | some cs =>
   simp only [hc,jj,qw] at hf;subst hf;cases h with
   | fn hl hh =>
    obtain ⟨l1,l2⟩:=freezeL_rep hs caps (vs:=fun j=>(_:Array Value).getD j undef) hh hc;exact .fn (by rw [hl,l1]) l2
 | .agg cs,d',v,h,hf=>by
  simp only [freeze] at hf;cases hc:freeze.freezeL H cs with
  | none=>simp [hc] at hf
  | some cs' =>
   simp only [hc,jj,qw] at hf;subst hf;cases h with
   | agg hl Xi hh =>
    obtain ⟨l1,l2⟩:=freezeL_rep hs cs (vs:=fun j=>(_:Array Value).getD j undef) hh hc;refine .agg (by rw [hl,l1]) ?_ l2;intro d hd;obtain ⟨j,hj⟩:=List.mem_iff_getElem?.1 hd;have hr:=l2 j d hj;have zO:j < cs.length:=(by rw [l1];exact (List.getElem?_eq_some_iff.1 hj).1);have h0:cs[j]? = some cs[j]:=zn zO;have Q6:=(hh j _ h0).oneCell (Xi _ (mem_of_get? h0));generalize Array.getD _ j undef = x at hr Q6;cases hr <;> first | rfl | exact Q6 | simp [Value.oneCell'] at Q6
 | .tup cs,d',v,h,hf=>by
  simp only [freeze] at hf;split at hf
  ·rename_i kj;injection hf with hf;subst hf;exact (h.free kj _ _).okMono fun b hb=>.inl hb
  ·cases hf
 | .iface t d,d',v,h,hf=>by
  simp only [freeze] at hf;split at hf
  ·rename_i kj;injection hf with hf;subst hf;exact (h.free kj _ _).okMono fun b hb=>.inl hb
  ·cases hf
 | .bool _,d',v,h,hf | .int _ _,d',v,h,hf | .str _,d',v,h,hf | .nilp,d',v,h,hf | .nilf,d',v,h,hf | .nili,d',v,h,hf | .raw _,d',v,h,hf | .vptr _,d',v,h,hf | .vsl _ _ _,d',v,h,hf=>by
  simp only [freeze,idFree,if_true,qw] at hf;subst hf;exact (h.free rfl _ _).okMono fun b hb=>.inl hb
where freezeL_rep (hs:Sim X ok w ι H):∀ (l:List D) {l':List D} {vs:Nat→Value},(∀ (j:Nat) d,l[j]? = some d→Rep ok w ι H d (vs j))→freeze.freezeL H l = some l' →
      l.length = l'.length∧∀ (j:Nat) d,l'[j]? = some d→Rep (qg3 ok ι H) w jh [] d (vs j)
 | [],l',vs,_,hf=>by
  simp only [freeze.freezeL,qw] at hf;subst hf;simp
 | d :: l,l',vs,h,hf=>by
  simp only [freeze.freezeL] at hf;split at hf
  ·rename_i d1 l1 h1 h2;injection hf with hf;subst hf;obtain ⟨k1,k2⟩:=freezeL_rep hs l (vs:=fun j=>vs (j+1)) (fun j x hx=>h (j+1) x (by simpa using hx)) h2;refine ⟨by simp [k1],fun j x hx=>?_⟩;cases j with
   | zero =>
    simp only [Z1,qw] at hx;subst hx;exact freeze_rep hs d (h 0 d rfl) h1
   | succ j=>exact k2 j x (by simpa using hx)
  ·cases hf
theorem qeU (n:Nat):∀ (l:List D) (j:Nat),(shift.shiftL n l)[j]? = (l[j]?).map (shift n)
 | [],j=>by simp [shift.shiftL]
 | d :: l,0=>by simp [shift.shiftL]
 | d :: l,j+1=>by simp [shift.shiftL,qeU n l j]
theorem qgk (n:Nat):∀ (l:List D),(shift.shiftL n l).length = l.length
 | []=>rfl
 | d :: l=>by simp [shift.shiftL,qgk n l]
def qar (n:Nat) (ι ι1:qV):qV:=fun i=>if i < n then ι i else ι1 (i - n)
theorem qdL {L:qe} {i:Nat} (h:i < H.length):qf (H ++ L) i = qf H i:=by simp [qf,kg h]
theorem qf0 {L:qe} {i:Nat}:qf (H ++ L) (H.length+i) = qf L i:=by
 unfold qf;rw [kU (by omega)];congr 2;omega
theorem qjt {n i:Nat} {ι ι1:qV}:qar n ι ι1 (n+i) = ι1 i:=by
 unfold qar;rw [if_neg (by omega)];congr 1;omega
theorem quz {n:Nat} {d:D} (h:jg d = true):jg (shift n d) = true:=by cases d <;> first | rfl | exact h | simp [jg] at h
theorem Rep.shift {L:qe} {ι1:qV} {d:D} {v:Value} (h:Rep ok w ι1 L d v) (ι:qV) (H:qe):Rep ok w (qar H.length ι ι1) (H ++ L) (Ev.shift H.length d) v:=by
 induction h with
 | bool b=>exact .bool b
 | int k n=>exact .int k n
 | str s=>exact .str s
 | nilp=>exact .nilp
 | nilf=>exact .nilf
 | nili=>exact .nili
 | raw v=>exact .raw v
 | agg hl hc h ih =>
  refine .agg (by rw [qgk];exact hl) ?_ fun j d hj=>?_
  ·intro d hd;obtain ⟨j,hj⟩:=List.mem_iff_getElem?.1 hd;rw [qeU] at hj;simp only [VU] at hj;obtain ⟨x,hx,rfl⟩:=hj;exact quz (hc x (mem_of_get? hx))
  ·rw [qeU] at hj;simp only [VU] at hj;obtain ⟨x,hx,rfl⟩:=hj;exact ih j x hx
 | tup hl h ih =>
  refine .tup (by rw [qgk];exact hl) fun j d hj=>?_;rw [qeU] at hj;simp only [VU] at hj;obtain ⟨x,hx,rfl⟩:=hj;exact ih j x hx
 | fn hl h ih =>
  refine .fn (by rw [qgk];exact hl) fun j d hj=>?_;rw [qeU] at hj;simp only [VU] at hj;obtain ⟨x,hx,rfl⟩:=hj;exact ih j x hx
 | iface h ih=>exact .iface ih
 | optr a hi h =>
  refine .optr a (by simp;omega) fun ds hd=>?_;rw [qf0] at hd;obtain ⟨h1,h2⟩:=h ds hd;refine ⟨h1,fun e=>?_⟩;obtain ⟨b,s,q1,q2⟩:=h2 e;exact ⟨b,s,by rw [qjt];exact q1,q2⟩
 | osl a hi h zo =>
  refine .osl a (by simp;omega) (fun ds hd=>?_) zo;rw [qf0] at hd;obtain ⟨h1,h2⟩:=h ds hd;refine ⟨h1,fun e=>?_⟩;obtain ⟨b,s,q1,q2⟩:=h2 e;exact ⟨b,s,by rw [qjt];exact q1,q2⟩
 | vptr a f ha hc hr h ih=>exact .vptr a f ha hc hr h
 | vnil=>exact .vnil
 | vsl a f ha hc hr h zo ih=>exact .vsl a f ha hc hr h zo
theorem qsD {L:qe} {ι1:qV} {ok2:Nat→Prop} (hs:Sim X ok w ι H) (hw:YX w w') (jn:w.heap.size≤w'.heap.size) (hfr:∀ b,b < w.heap.size→w'.heap[b]? = w.heap[b]?)
  (h1:∀ b,ok b→ok2 b) (h2:∀ b,ok2 b→b < w.heap.size→ok b) (h3:∀ b,ok2 b→b < w'.heap.size)
  (hi:∀ i j ds es b s s',qf L i = some ds→qf L j = some es→ι1 i = some (b,s)→ι1 j = some (b,s')→i = j)
  (hL:∀ i ds,qf L i = some ds→∃ b arr e fr,ι1 i = some (b,arr.size)∧w.heap.size≤b∧¬ ok2 b∧w'.heap[b]? = some (.cells arr e fr)∧ds.length≤arr.size ∧
   (fr.1 = fr.2∨arr.size≤fr.1)∧(∀ j,j < arr.size→(arr.getD j undef).oneCell' = true)∧(∀ d,d∈ds→jg d = true) ∧
   (∀ (j:Nat) d,ds[j]? = some d→Rep ok2 w' jh [] d (arr.getD j undef))) :
  Sim X ok2 w' (qar H.length ι ι1) (H ++ L)∧Evol H.length ok w ι H ok2 w' (qar H.length ι ι1) (H ++ L):=by
 have vx:∀ i ds,qf (H ++ L) i = some ds→(i < H.length∧qf H i = some ds∧qar H.length ι ι1 i = ι i)∨(H.length≤i∧qf L (i - H.length) = some ds∧qar H.length ι ι1 i = ι1 (i - H.length)):=by
  intro i ds hd;by_cases qg:i < H.length
  ·rw [qdL qg] at hd;exact .inl ⟨qg,hd,by simp [qar,qg]⟩
  ·obtain ⟨k,rfl⟩:∃ k,i = H.length+k:=⟨i - H.length,by omega⟩;rw [qf0] at hd;exact .inr ⟨by omega,by simpa using hd,by rw [qjt];congr 1;omega⟩
 have hev:Evol H.length ok w ι H ok2 w' (qar H.length ι ι1) (H ++ L):=by
  refine ⟨hw.1,hw.2.1,hw.2.2,jn,fun b hb _=>hfr b hb,h1,fun b hb qg=>.inl (h2 b hb qg),⟨qE _,by simp⟩,?_,?_⟩
  ·intro i qg ds hd;rw [qdL qg] at hd;exact ⟨ds,hd,qE _,fun _=>by simp [qar,qg]⟩
  ·intro i ds b s hd hb qg;rcases vx i ds hd with ⟨k1,k2,k3⟩ | ⟨k1,k2,k3⟩
   ·exact ⟨i,ds,s,k2,by rw [← k3];exact hb⟩
   ·obtain ⟨b',arr,e,fr,q1,q2,_⟩:=hL _ ds k2;rw [k3,q1] at hb;injection hb with hb;injection hb with hb _;omega
 refine ⟨⟨h3,?_,?_,?_⟩,hev⟩
 ·intro g cs hg;exact (((hs.glob g cs hg).lift (ι:=ι) (H:=H)).evol hs hev rfl).free rfl _ _
 ·intro i j ds es b s s' hd he hb zC;rcases vx i ds hd with ⟨k1,k2,k3⟩ | ⟨k1,k2,k3⟩ <;> rcases vx j es he with ⟨l1,l2,l3⟩ | ⟨l1,l2,l3⟩
  ·exact hs.inj i j ds es b s s' k2 l2 (by rw [← k3];exact hb) (by rw [← l3];exact zC)
  ·have qg:=hs.lt k2 (by rw [← k3];exact hb);obtain ⟨b',arr,e,fr,q1,q2,_⟩:=hL _ es l2;rw [l3,q1] at zC;injection zC with zC;injection zC with zC _;omega
  ·have qg:=hs.lt l2 (by rw [← l3];exact zC);obtain ⟨b',arr,e,fr,q1,q2,_⟩:=hL _ ds k2;rw [k3,q1] at hb;injection hb with hb;injection hb with hb _;omega
  ·have:=hi _ _ ds es b s s' k2 l2 (by rw [← k3];exact hb) (by rw [← l3];exact zC);omega
 ·intro i ds hd;rcases vx i ds hd with ⟨k1,k2,k3⟩ | ⟨k1,k2,k3⟩
  ·obtain ⟨b,arr,e,fr,q1,q2,q3,q4,q5,q6,q7,q8⟩:=hs.blk i ds k2;have qg:=hs.lt k2 q1;exact ⟨b,arr,e,fr,by rw [k3];exact q1,fun h=>q2 (h2 b h qg),by rw [hfr b qg];exact q3,q4,q5,q6,q7,fun j d hj=>(q8 j d hj).evol hs hev (q8 j d hj).closed⟩
  ·obtain ⟨b,arr,e,fr,q1,q2,q3,q4,q5,q6,q7,q8,q9⟩:=hL _ ds k2;exact ⟨b,arr,e,fr,by rw [k3];exact q1,q3,q4,q5,q6,q7,q8,fun j d hj=>(q9 j d hj).lift⟩
end
end Go.Ev
namespace Go.Ev
section
variable {X:Cx} {P:Program} {ok ok':Nat→Prop} {w w':World} {ι:qV} {H H':qe}
structure PInv (n0:Nat) (H:qe) (seen:List Nat) (acc:qe):Prop where
 len:acc.length = seen.length
 at_:∀ (p i:Nat),seen[p]? = some i→n0≤i∧∃ ds,qf H i = some ds∧acc[p]? = some (some ds)∧ds.all idFree = true
 nd:seen.Nodup
def V4 (n0:Nat) (ι:qV) (S:List Nat):qV:=fun i=>if i < n0 then ι i else (S[i - n0]?).bind ι
def qtc (n0:Nat) (H:qe) (seen seen':List Nat) (acc acc':qe):Prop :=
 PInv n0 H seen' acc'∧(∃ t,seen' = seen ++ t)∧(∃ u,acc' = acc ++ u)
theorem qgV {n0 i:Nat} (h:i < n0):qf (H.take n0) i = qf H i:=by
 simp [qf,h]
theorem qgW {n0 i:Nat} {A:qe} (hn:n0≤H.length) (h:i < n0):qf (H.take n0 ++ A) i = qf H i:=by
 rw [qdL (by simp;omega),qgV h]
theorem qqL {n0 p:Nat} {A:qe} (hn:n0≤H.length):qf (H.take n0 ++ A) (n0+p) = qf A p:=by
 have:(H.take n0).length = n0:=by simp;omega
 have h:=qf0 (H:=H.take n0) (L:=A) (i:=p)
 rwa [this] at h
theorem qm0 {n0 p:Nat} {S:List Nat}:V4 n0 ι S (n0+p) = (S[p]?).bind ι:=by
 unfold V4;rw [if_neg (by omega)];congr 2;omega
theorem qrg {n0 i:Nat} {seen S:List Nat} {acc A:qe} (hn:n0≤H.length) (hinv:PInv n0 H seen acc) (hA:PInv n0 H S A) (hpre:∃ t,S = seen ++ [i] ++ t) :
  qf (H.take n0 ++ A) (n0+acc.length) = qf H i∧V4 n0 ι S (n0+acc.length) = ι i∧n0+acc.length < (H.take n0 ++ A).length:=by
 obtain ⟨t,rfl⟩:=hpre
 have hS:(seen ++ [i] ++ t)[acc.length]? = some i:=by
  rw [hinv.len];simp
 obtain ⟨_,ds,h1,h2,_⟩:=hA.at_ _ _ hS;refine ⟨?_,?_,?_⟩
 ·rw [qqL hn,h1];simp [qf,h2]
 ·rw [qm0,hS];rfl
 ·have:acc.length < A.length:=(List.getElem?_eq_some_iff.1 h2).1;simp;omega
theorem PInv.add {n0 i:Nat} {seen:List Nat} {acc:qe} {ds:List D} (hinv:PInv n0 H seen acc) (hi:n0≤i) (hd:qf H i = some ds) (hf:ds.all idFree = true) (XN:i ∉ seen):PInv n0 H (seen ++ [i]) (acc ++ [some ds]):=by
 refine ⟨by simp [hinv.len],fun p j hp=>?_,?_⟩
 ·by_cases qg:p < seen.length
  ·rw [kg qg] at hp;obtain ⟨h1,es,h2,h3,h4⟩:=hinv.at_ p j hp;exact ⟨h1,es,h2,by rw [kg (by rw [hinv.len];exact qg)];exact h3,h4⟩
  ·have Xf:p = seen.length:=by
    have:=(List.getElem?_eq_some_iff.1 hp).1;simp at this;omega
   subst Xf;simp at hp;subst hp;exact ⟨hi,ds,hd,by rw [← hinv.len];simp,hf⟩
 ·rw [List.nodup_append];exact ⟨hinv.nd,by simp,by intro a ha b hb;simp at hb;subst hb;intro e;subst e;exact XN ha⟩
theorem qm2 (n0:Nat) (hn:n0≤H.length):∀ (d:D) {seen seen':List Nat} {acc acc':qe} {d':D},PInv n0 H seen acc→pack1 n0 H seen acc d = some (d',seen',acc') →
  qtc n0 H seen seen' acc acc'∧(jg d = true→jg d' = true)∧∀ (S:List Nat) (A:qe) (v:Value),PInv n0 H S A→(∃ t,S = seen' ++ t)→Rep ok w ι H d v→Rep ok w (V4 n0 ι S) (H.take n0 ++ A) d' v
 | .osl i st off len k,seen,seen',acc,acc',d',hinv,h=>by
  simp only [pack1] at h;split at h
  ·rename_i qg;simp only [qw,zm] at h;obtain ⟨rfl,rfl,rfl⟩:=h;refine ⟨⟨hinv,⟨[],by simp⟩,⟨[],by simp⟩⟩,fun _=>rfl,fun S A v hA hp hr=>?_⟩;cases hr with
   | osl a hi hh zo =>
    refine .osl a (by simp;omega) (fun ds hd=>?_) zo;rw [qgW hn qg] at hd;have:V4 n0 ι S i = ι i:=(by simp [V4,qg]);rw [this];exact hh ds hd
  ·rename_i vN;split at h
   ·rename_i ds hd;split at h
    ·rename_i hcond;simp only [qw,zm] at h;obtain ⟨rfl,rfl,rfl⟩:=h;refine ⟨⟨hinv.add (by omega) hd hcond.1 hcond.2,⟨[i],rfl⟩,⟨_,rfl⟩⟩,fun _=>rfl,fun S A v hA hp hr=>?_⟩;obtain ⟨k1,k2,k3⟩:=qrg (ι:=ι) hn hinv hA hp;cases hr with
     | osl a hi hh zo =>
      refine .osl a k3 (fun ds hd=>?_) zo;rw [k1] at hd;rw [k2];exact hh ds hd
    ·cases h
   ·cases h
 | .optr i st off,seen,seen',acc,acc',d',hinv,h=>by
  simp only [pack1] at h;split at h
  ·rename_i qg;simp only [qw,zm] at h;obtain ⟨rfl,rfl,rfl⟩:=h;refine ⟨⟨hinv,⟨[],by simp⟩,⟨[],by simp⟩⟩,fun _=>rfl,fun S A v hA hp hr=>?_⟩;cases hr with
   | optr a hi hh =>
    refine .optr a (by simp;omega) fun ds hd=>?_;rw [qgW hn qg] at hd;have:V4 n0 ι S i = ι i:=(by simp [V4,qg]);rw [this];exact hh ds hd
  ·rename_i vN;split at h
   ·rename_i ds hd;split at h
    ·rename_i hcond;simp only [qw,zm] at h;obtain ⟨rfl,rfl,rfl⟩:=h;refine ⟨⟨hinv.add (by omega) hd hcond.1 hcond.2,⟨[i],rfl⟩,⟨_,rfl⟩⟩,fun _=>rfl,fun S A v hA hp hr=>?_⟩;obtain ⟨k1,k2,k3⟩:=qrg (ι:=ι) hn hinv hA hp;cases hr with
     | optr a hi hh =>
      refine .optr a k3 fun ds hd=>?_;rw [k1] at hd;rw [k2];exact hh ds hd
    ·cases h
   ·cases h
 | .agg cs,seen,seen',acc,acc',d',hinv,h=>by
  simp only [pack1] at h;cases hp:pack1.packs n0 H seen acc cs with
  | none=>simp [hp] at h
  | some r =>
   obtain ⟨cs',s',a'⟩:=r;simp only [hp,jj,qw,zm] at h;obtain ⟨rfl,rfl,rfl⟩:=h;obtain ⟨k1,k2,k3,k4⟩:=packs_rep n0 hn cs hinv hp;refine ⟨k1,fun h=>by simp [jg] at h,fun S A v hA hp hr=>?_⟩;cases hr with
   | agg hl hc hh=>exact .agg (by rw [hl,k2]) (k4 hc) (k3 S A (fun j=>(_:Array Value).getD j undef) hA hp hh)
 | .tup cs,seen,seen',acc,acc',d',hinv,h=>by
  simp only [pack1] at h;cases hp:pack1.packs n0 H seen acc cs with
  | none=>simp [hp] at h
  | some r =>
   obtain ⟨cs',s',a'⟩:=r;simp only [hp,jj,qw,zm] at h;obtain ⟨rfl,rfl,rfl⟩:=h;obtain ⟨k1,k2,k3,k4⟩:=packs_rep n0 hn cs hinv hp;refine ⟨k1,fun h=>by simp [jg] at h,fun S A v hA hp hr=>?_⟩;cases hr with
   | tup hl hh=>exact .tup (by rw [hl,k2]) (k3 S A (fun j=>(_:Array Value).getD j undef) hA hp hh)
 | .bool _,seen,seen',acc,acc',d',hinv,h | .int _ _,seen,seen',acc,acc',d',hinv,h | .str _,seen,seen',acc,acc',d',hinv,h | .nilp,seen,seen',acc,acc',d',hinv,h
 | .nilf,seen,seen',acc,acc',d',hinv,h | .nili,seen,seen',acc,acc',d',hinv,h | .raw _,seen,seen',acc,acc',d',hinv,h | .vptr _,seen,seen',acc,acc',d',hinv,h | .vsl _ _ _,seen,seen',acc,acc',d',hinv,h
 | .fn _ _,seen,seen',acc,acc',d',hinv,h | .iface _ _,seen,seen',acc,acc',d',hinv,h=>by
  simp only [pack1] at h;split at h
  ·rename_i hf;simp only [qw,zm] at h;obtain ⟨rfl,rfl,rfl⟩:=h;exact ⟨⟨hinv,⟨[],by simp⟩,⟨[],by simp⟩⟩,fun h=>h,fun S A v hA hp hr=>hr.free hf _ _⟩
  ·cases h
where packs_rep (n0:Nat) (hn:n0≤H.length):∀ (l:List D) {seen seen':List Nat} {acc acc':qe} {l':List D},PInv n0 H seen acc→pack1.packs n0 H seen acc l = some (l',seen',acc') →
      qtc n0 H seen seen' acc acc'∧l.length = l'.length∧(∀ (S:List Nat) (A:qe) (v:Nat→Value),PInv n0 H S A→(∃ t,S = seen' ++ t)→(∀ (j:Nat) d,l[j]? = some d→Rep ok w ι H d (v j)) →
      ∀ (j:Nat) d,l'[j]? = some d→Rep ok w (V4 n0 ι S) (H.take n0 ++ A) d (v j))∧((∀ d,d∈l→jg d = true)→∀ d,d∈l'→jg d = true)
 | [],seen,seen',acc,acc',l',hinv,h=>by
  simp only [pack1.packs,qw,zm] at h;obtain ⟨rfl,rfl,rfl⟩:=h;exact ⟨⟨hinv,⟨[],by simp⟩,⟨[],by simp⟩⟩,rfl,fun _ _ _ _ _ _=>by simp,fun _=>by simp⟩
 | d :: l,seen,seen',acc,acc',l',hinv,h=>by
  simp only [pack1.packs] at h;split at h
  ·rename_i d1 s1 a1 h1;split at h
   ·rename_i l1 s2 a2 h2;simp only [qw,zm] at h;obtain ⟨rfl,rfl,rfl⟩:=h;obtain ⟨⟨k1,⟨t1,k2⟩,⟨u1,k3⟩⟩,k4,k5⟩:=qm2 n0 hn d hinv h1;obtain ⟨⟨q1,⟨t2,q2⟩,⟨u2,q3⟩⟩,q4,q5,q6⟩:=packs_rep n0 hn l k1 h2;refine ⟨⟨q1,⟨t1 ++ t2,by rw [q2,k2];simp⟩,⟨u1 ++ u2,by rw [q3,k3];simp⟩⟩,by simp [q4],fun S A v hA hp hr j x hx=>?_,fun hc x hx=>?_⟩
    ·cases j with
     | zero =>
      simp only [Z1,qw] at hx;subst hx;obtain ⟨t,ht⟩:=hp;exact k5 S A (v 0) hA ⟨t2 ++ t,by rw [ht,q2];simp⟩ (hr 0 d rfl)
     | succ j=>exact q5 S A (fun j=>v (j+1)) hA hp (fun j x hx=>hr (j+1) x (by simpa using hx)) j x (by simpa using hx)
    ·rcases List.mem_cons.1 hx with rfl | hx
     ·exact k4 (hc d (VW ..))
     ·exact q6 (fun y hy=>hc y (Jr _ hy)) x hx
   ·cases h
  ·cases h
theorem qka {m:Nat} (hm:m≤H.length):Evol m ok w ι H ok w ι (H.take m) :=
 ⟨rfl,rfl,rfl,qE _,fun _ _ _=>rfl,fun _ h=>h,fun _ h _=>.inl h,⟨hm,by simp;omega⟩,fun i hi ds hd=>⟨ds,by rwa [qgV hi] at hd,qE _,fun _=>rfl⟩,
  fun i ds b s hd hb _=>by
   have hi:i < m:=by
    have:=qA hd;simp at this;omega
   rw [qgV hi] at hd;exact ⟨i,ds,s,hd,hb⟩⟩
theorem qsH {m i:Nat} {ds:List D} (h:(H.take m).all (qdV m) = true) (hi:i < m) (hd:qf H i = some ds):∀ d,d∈ds→closed m d = true:=by
 have hl:=qA hd
 have hg:H[i]? = some (some ds):=by
  unfold qf at hd;rw [zn hl] at hd ⊢;simpa using hd
 have JO:some ds∈H.take m:=Vy (i:=i) (by rw [KN,if_pos hi];exact hg);have:=List.all_eq_true.1 h _ JO;simp only [qdV] at this;exact List.all_eq_true.1 this
theorem q10 {m:Nat} (hm:m≤H.length) (hs:Sim X ok w ι H) (hc:(H.take m).all (qdV m) = true):Sim X ok w ι (H.take m):=by
 have qg:∀ i ds,qf (H.take m) i = some ds→i < m∧qf H i = some ds:=by
  intro i ds hd
  have hi:i < m:=by
   have:=qA hd;simp at this;omega
  exact ⟨hi,by rwa [qgV hi] at hd⟩
 refine ⟨hs.okS,hs.glob,fun i j ds es b s s' hd he=>hs.inj i j ds es b s s' (qg i ds hd).2 (qg j es he).2,fun i ds hd=>?_⟩;obtain ⟨hi,hd⟩:=qg i ds hd;obtain ⟨b,arr,e,fr,q1,q2,q3,q4,q5,q6,q7,q8⟩:=hs.blk i ds hd;exact ⟨b,arr,e,fr,q1,q2,q3,q4,q5,q6,q7,fun j d hj=>(q8 j d hj).evol hs (qka hm) (qsH hc hi hd d (mem_of_get? hj))⟩
theorem qmx {n0:Nat} (hn:n0≤H.length) (hs:Sim X ok w ι H) {r r':D} {v:Value} (hr:Rep ok w ι H r v) (h:qd7 n0 H r = some (r',H')) :
  ∃ ι',Sim X ok w ι' H'∧Rep ok w ι' H' r' v∧Evol n0 ok w ι H ok w ι' H'∧(∀ i ds,n0≤i→qf H' i = some ds→ds.all idFree = true):=by
 unfold qd7 at h;split at h
 ·rename_i r1 S A hp;split at h
  ·rename_i hc;simp only [qw,zm] at h;obtain ⟨rfl,rfl⟩:=h;obtain ⟨⟨k1,_,_⟩,_,k3⟩:=qm2 (ok:=ok) (w:=w) (ι:=ι) n0 hn r (seen:=[]) (acc:=[]) ⟨rfl,by simp,by simp⟩ hp;have hrep:=k3 S A v k1 ⟨[],by simp⟩ hr
   have vx:∀ i ds,qf (H.take n0 ++ A) i = some ds→(i < n0∧qf H i = some ds∧V4 n0 ι S i = ι i)∨(∃ p j,i = n0+p∧S[p]? = some j∧n0≤j∧qf H j = some ds∧V4 n0 ι S i = ι j∧ds.all idFree = true):=by
    intro i ds hd;by_cases qg:i < n0
    ·rw [qgW hn qg] at hd;exact .inl ⟨qg,hd,by simp [V4,qg]⟩
    ·obtain ⟨p,rfl⟩:∃ p,i = n0+p:=⟨i - n0,by omega⟩;rw [qqL hn] at hd;have hpl:=qA hd;have hSp:S[p]? = some (S[p]'(by rw [← k1.len];exact hpl)):=zn _;obtain ⟨q1,es,q2,q3,q4⟩:=k1.at_ _ _ hSp
     have:es = ds:=by
      unfold qf at hd;rw [q3] at hd;simpa using hd
     subst this;exact .inr ⟨p,_,rfl,hSp,q1,q2,by rw [qm0,hSp];rfl,q4⟩
   have hev:Evol n0 ok w ι H ok w (V4 n0 ι S) (H.take n0 ++ A):=by
    refine ⟨rfl,rfl,rfl,qE _,fun _ _ _=>rfl,fun _ h=>h,fun _ h _=>.inl h,⟨hn,by simp;omega⟩,?_,?_⟩
    ·intro i hi ds hd;rw [qgW hn hi] at hd;exact ⟨ds,hd,qE _,fun _=>by simp [V4,hi]⟩
    ·intro i ds b s hd hb _;rcases vx i ds hd with ⟨q1,q2,q3⟩ | ⟨p,j,_,_,_,q2,q3,_⟩
     ·exact ⟨i,ds,s,q2,by rw [← q3];exact hb⟩
     ·exact ⟨j,ds,s,q2,by rw [← q3];exact hb⟩
   refine ⟨V4 n0 ι S,⟨hs.okS,hs.glob,?_,?_⟩,hrep,hev,?_⟩
   ·intro i j ds es b s s' hd he hb zC;rcases vx i ds hd with ⟨q1,q2,q3⟩ | ⟨p,i',rfl,q1,q1',q2,q3,_⟩ <;> rcases vx j es he with ⟨l1,l2,l3⟩ | ⟨p',j',rfl,l1,l1',l2,l3,_⟩
    ·exact hs.inj i j ds es b s s' q2 l2 (by rw [← q3];exact hb) (by rw [← l3];exact zC)
    ·have:=hs.inj i j' ds es b s s' q2 l2 (by rw [← q3];exact hb) (by rw [← l3];exact zC);omega
    ·have:=hs.inj i' j ds es b s s' q2 l2 (by rw [← q3];exact hb) (by rw [← l3];exact zC);omega
    ·have:=hs.inj i' j' ds es b s s' q2 l2 (by rw [← q3];exact hb) (by rw [← l3];exact zC);subst this;have ku:=(List.getElem?_eq_some_iff.1 q1);have ZB:=(List.getElem?_eq_some_iff.1 l1);obtain ⟨a1,a2⟩:=ku;obtain ⟨b1,b2⟩:=ZB;have hpw:=List.pairwise_iff_getElem.1 k1.nd;rcases Nat.lt_trichotomy p p' with qg | Zw | hgt
     ·exact absurd (a2.trans b2.symm) (hpw p p' a1 b1 qg)
     ·omega
     ·exact absurd (b2.trans a2.symm) (hpw p' p b1 a1 hgt)
   ·intro i ds hd;rcases vx i ds hd with ⟨q1,q2,q3⟩ | ⟨p,j,rfl,q1,q1',q2,q3,q4⟩
    ·obtain ⟨b,arr,e,fr,c1,c2,c3,c4,c5,c6,c7,c8⟩:=hs.blk i ds q2;exact ⟨b,arr,e,fr,by rw [q3];exact c1,c2,c3,c4,c5,c6,c7,fun j d hj=>(c8 j d hj).evol hs hev (qsH hc q1 q2 d (mem_of_get? hj))⟩
    ·obtain ⟨b,arr,e,fr,c1,c2,c3,c4,c5,c6,c7,c8⟩:=hs.blk j ds q2;exact ⟨b,arr,e,fr,by rw [q3];exact c1,c2,c3,c4,c5,c6,c7,fun j d hj=>(c8 j d hj).free (qdp q4 d (mem_of_get? hj)) _ _⟩
   ·intro i ds hi hd;rcases vx i ds hd with ⟨q1,q2,q3⟩ | ⟨p,j,rfl,q1,q1',q2,q3,q4⟩
    ·omega
    ·exact q4
  ·cases h
 ·cases h
end
end Go.Ev
namespace Go.Ev
section
variable {X:Cx} {ok ok':Nat→Prop} {w w':World} {ι:qV} {H H':qe}
theorem qgO {d:D} {v:Value} (h:Rep ok w ι H d v) (Q6:v.oneCell' = true):jg d = true:=by
 cases h <;> first | rfl | exact Q6 | simp [Value.oneCell'] at Q6
theorem Zp:∀ (l:List Nat) (H:qe),(jO H l).length = H.length
 | [],H=>rfl
 | i :: l,H=>by rw [jO,Zp l,ky]
theorem qex:∀ (l:List Nat) (H:qe) {j:Nat} {ds:List D},qf (jO H l) j = some ds→qf H j = some ds∧j ∉ l
 | [],H,j,ds,h=>⟨h,by simp⟩
 | i :: l,H,j,ds,h=>by
  obtain ⟨h1,h2⟩:=qex l _ h;unfold qf at h1;by_cases zu:i = j
  ·subst zu;rw [List.getElem?_set] at h1;simp only [if_true] at h1;split at h1 <;> simp at h1
  ·rw [List.getElem?_set_ne zu] at h1;exact ⟨h1,by simp only [jT,not_or];exact ⟨fun h=>zu h.symm,h2⟩⟩
def X7 (ok:Nat→Prop) (ι:qV) (H:qe) (l:List Nat) (b:Nat):Prop:=ok b∨∃ i ds s,i∈l∧qf H i = some ds∧ι i = some (b,s)
theorem qcf {okF:Nat→Prop} {cond:Nat→Prop} {g:D→Option (D × List Nat)}
  (hg:∀ d d' l v,Rep ok w ι H d v→g d = some (d',l)→(∀ i,i∈l→cond i)→Rep okF w jh [] d' v) :
  ∀ (ds:List D) {ds':List D} {l:List Nat} {vs:Nat→Value},(∀ (j:Nat) d,ds[j]? = some d→Rep ok w ι H d (vs j))→vY g ds = some (ds',l)→(∀ i,i∈l→cond i) →
   ds.length = ds'.length∧∀ (j:Nat) d,ds'[j]? = some d→Rep okF w jh [] d (vs j)
 | [],ds',l,vs,_,h,_=>by
  simp only [vY,qw,zm] at h;obtain ⟨rfl,rfl⟩:=h;simp
 | d :: ds,ds',l,vs,hr,h,hl=>by
  simp only [vY] at h;split at h
  ·rename_i d1 a l1 b h1 h2;simp only [qw,zm] at h;obtain ⟨rfl,rfl⟩:=h;obtain ⟨k1,k2⟩:=qcf hg ds (vs:=fun j=>vs (j+1)) (fun j x hx=>hr (j+1) x (by simpa using hx)) h2 (fun i hi=>hl i (List.mem_append_right _ hi));refine ⟨by simp [k1],fun j x hx=>?_⟩;cases j with
   | zero =>
    simp only [Z1,qw] at hx;subst hx;exact hg d _ _ _ (hr 0 d rfl) h1 fun i hi=>hl i (qbZ _ hi)
   | succ j=>exact k2 j x (by simpa using hx)
  ·cases h
theorem qee (hs:Sim X ok w ι H) {okF:Nat→Prop} (hm:∀ b,ok b→okF b):∀ (n:Nat) (d d':D) (l:List Nat) (v:Value),Rep ok w ι H d v→jf H n d = some (d',l) →
  (∀ i,i∈l→∀ ds b s,qf H i = some ds→ι i = some (b,s)→okF b)→Rep okF w jh [] d' v
 | 0,d,d',l,v,_,h,_=>by simp [jf] at h
 | n+1,d,d',l,v,hr,h,hl=>by
  have ih:=qee hs hm n;have free_:idFree d = true→d' = d→Rep okF w jh [] d' v:=fun hf he=>by subst he;exact (hr.free hf _ _).okMono hm
  simp only [jf] at h;split at h
  ·rename_i kj;simp only [qw,zm] at h;exact free_ kj h.1.symm
  rename_i hnfree;clear hnfree;cases hr with
  | bool b=>simp only [qw,zm] at h;exact free_ rfl h.1.symm
  | int k n=>simp only [qw,zm] at h;exact free_ rfl h.1.symm
  | str s=>simp only [qw,zm] at h;exact free_ rfl h.1.symm
  | nilp=>simp only [qw,zm] at h;exact free_ rfl h.1.symm
  | nilf=>simp only [qw,zm] at h;exact free_ rfl h.1.symm
  | nili=>simp only [qw,zm] at h;exact free_ rfl h.1.symm
  | raw v=>simp only [qw,zm] at h;exact free_ rfl h.1.symm
  | vnil=>simp only [qw,zm] at h;exact free_ rfl h.1.symm
  | vptr a f ha hc hr hh=>simp only [qw,zm] at h;exact free_ rfl h.1.symm
  | vsl a f ha hc hr hh zo=>simp only [qw,zm] at h;exact free_ rfl h.1.symm
  | @agg _ _ cs vs hlen hc hh =>
   simp only at h;cases hst:vY (jf H n) cs with
   | none=>simp [hst] at h
   | some q =>
    obtain ⟨cs',l'⟩:=q;simp only [hst,jj,qw,zm] at h;obtain ⟨rfl,rfl⟩:=h;obtain ⟨k1,k2⟩:=qcf (cond:=fun i=>∀ ds b s,qf H i = some ds→ι i = some (b,s)→okF b) ih cs hh hst hl;refine .agg (by rw [hlen,k1]) (fun d hd=>?_) k2;obtain ⟨j,hj⟩:=List.mem_iff_getElem?.1 hd;have zO:j < cs.length:=(by rw [k1];exact (List.getElem?_eq_some_iff.1 hj).1);have h0:cs[j]? = some cs[j]:=zn zO;exact qgO (k2 j d hj) ((hh j _ h0).oneCell (hc _ (mem_of_get? h0)))
  | @tup _ _ cs vs hlen hh =>
   simp only at h;cases hst:vY (jf H n) cs with
   | none=>simp [hst] at h
   | some q =>
    obtain ⟨cs',l'⟩:=q;simp only [hst,jj,qw,zm] at h;obtain ⟨rfl,rfl⟩:=h;obtain ⟨k1,k2⟩:=qcf (cond:=fun i=>∀ ds b s,qf H i = some ds→ι i = some (b,s)→okF b) ih cs hh hst hl;exact .tup (by rw [hlen,k1]) k2
  | @fn _ _ f cs vs hlen hh =>
   simp only at h;cases hst:vY (jf H n) cs with
   | none=>simp [hst] at h
   | some q =>
    obtain ⟨cs',l'⟩:=q;simp only [hst,jj,qw,zm] at h;obtain ⟨rfl,rfl⟩:=h;obtain ⟨k1,k2⟩:=qcf (cond:=fun i=>∀ ds b s,qf H i = some ds→ι i = some (b,s)→okF b) ih cs hh hst hl;exact .fn (by rw [hlen,k1]) k2
  | iface hh =>
   simp only at h;rename_i t d v;cases hst:jf H n d with
   | none=>simp [hst] at h
   | some q =>
    obtain ⟨d1,l'⟩:=q;simp only [hst,jj,qw,zm] at h;obtain ⟨rfl,rfl⟩:=h;exact .iface (ih d _ _ _ hh hst hl)
  | @optr _ _ i st off a hi hh =>
   simp only at h;split at h
   ·rename_i ds hd;split at h
    ·rename_i hst;obtain ⟨b,s,q1,rfl⟩:=(hh ds hd).2 hst;obtain ⟨b',arr,e,fr,k1,k2,k3,k4,k5,k6,k7,k8⟩:=hs.blk i ds hd;have hq:=q1;rw [q1] at k1;injection k1 with k1;injection k1 with k1 _;subst k1
     have main:∀ ds':List D,ds.length = ds'.length→(∀ (j:Nat) d,ds'[j]? = some d→Rep okF w jh [] d (arr.getD j undef))→i∈l→Rep okF w jh [] (.vptr (ds'.drop off)) (.pointer (some ⟨b,off,none⟩)):=by
      intro ds' hlen hrep J8;refine .vptr _ (fun j=>arr.getD (off+j) undef) (fun _ _=>hl i J8 ds b s hd hq) (fun d zB=>?_) (fun j d hj=>?_) (fun j d hj=>?_)
      ·obtain ⟨j,hj⟩:=List.mem_iff_getElem?.1 (Jq zB);have zO:j < ds.length:=(by rw [hlen];exact (List.getElem?_eq_some_iff.1 hj).1);exact qgO (hrep j d hj) (k6 j (by omega))
      ·rw [Qv] at hj;have qg:off+j < arr.size:=(by have:=(List.getElem?_eq_some_iff.1 hj).1;omega);rw [JZ,Ye k3];simp [qg]
      ·rw [Qv] at hj;exact hrep _ d hj
     split at h
     ·rename_i kj;simp only [qw,zm] at h;obtain ⟨rfl,rfl⟩:=h;exact main ds rfl (fun j d hj=>((k8 j d hj).free ((qc0 _).1 kj d (mem_of_get? hj)) _ _).okMono hm) (by simp)
     ·split at h
      ·rename_i ds' l' kA;simp only [qw,zm] at h;obtain ⟨rfl,rfl⟩:=h;obtain ⟨e1,e2⟩:=qcf (cond:=fun i=>∀ ds b s,qf H i = some ds→ι i = some (b,s)→okF b) ih ds (vs:=fun j=>arr.getD j undef) k8 kA (fun i hi=>hl i (Jr _ hi));exact main ds' e1 e2 (by simp)
      ·cases h
    ·cases h
   ·cases h
  | @osl _ _ i st off len k c a hi hh zo =>
   simp only at h;split at h
   ·rename_i ds hd;split at h
    ·rename_i hst;obtain ⟨b,s,q1,rfl,q3⟩:=(hh ds hd).2 hst.1;obtain ⟨b',arr,e,fr,k1,k2,k3,k4,k5,k6,k7,k8⟩:=hs.blk i ds hd;have hq:=q1;rw [q1] at k1;injection k1 with k1;injection k1 with k1 _;subst k1
     have main:∀ ds':List D,ds.length = ds'.length→(∀ (j:Nat) d,ds'[j]? = some d→Rep okF w jh [] d (arr.getD j undef))→i∈l→Rep okF w jh [] (.vsl false ((ds'.drop off).take (len * k)) len) (.slice (some ⟨b,off,none⟩) len c):=by
      intro ds' hlen hrep J8;refine .vsl _ (fun j=>arr.getD (off+j) undef) (fun _ _=>hl i J8 ds b s hd hq) (fun d zB=>?_) (fun j d hj=>?_) (fun j d hj=>?_) zo
      ·obtain ⟨j,hj⟩:=List.mem_iff_getElem?.1 (Jq (Vx zB));have zO:j < ds.length:=(by rw [hlen];exact (List.getElem?_eq_some_iff.1 hj).1);exact qgO (hrep j d hj) (k6 j (by omega))
      ·rw [KN] at hj;split at hj
       ·rw [Qv] at hj;have qg:off+j < arr.size:=(by have:=(List.getElem?_eq_some_iff.1 hj).1;omega);rw [JZ,Ye k3];simp [qg]
       ·cases hj
      ·rw [KN] at hj;split at hj
       ·rw [Qv] at hj;exact hrep _ d hj
       ·cases hj
     split at h
     ·rename_i kj;simp only [qw,zm] at h;obtain ⟨rfl,rfl⟩:=h;exact main ds rfl (fun j d hj=>((k8 j d hj).free ((qc0 _).1 kj d (mem_of_get? hj)) _ _).okMono hm) (by simp)
     ·split at h
      ·rename_i ds' l' kA;simp only [qw,zm] at h;obtain ⟨rfl,rfl⟩:=h;obtain ⟨e1,e2⟩:=qcf (cond:=fun i=>∀ ds b s,qf H i = some ds→ι i = some (b,s)→okF b) ih ds (vs:=fun j=>arr.getD j undef) k8 kA (fun i hi=>hl i (Jr _ hi));exact main ds' e1 e2 (by simp)
      ·cases h
    ·cases h
   ·cases h
theorem qdT (l:List Nat):Evol H.length ok w ι H (X7 ok ι H l) w ι (jO H l) :=
 ⟨rfl,rfl,rfl,qE _,fun _ _ _=>rfl,fun _ h=>.inl h,fun b h _=>h.imp id fun ⟨i,ds,s,_,hd,hi⟩=>⟨i,ds,s,hd,hi⟩,⟨qE _,by rw [Zp];exact qE _⟩,
  fun i _ ds hd=>⟨ds,(qex l H hd).1,qE _,fun _=>rfl⟩,fun i ds b s hd hi _=>⟨i,ds,s,(qex l H hd).1,hi⟩⟩
theorem qfJ (hs:Sim X ok w ι H) (l:List Nat):Sim X (X7 ok ι H l) w ι (jO H l) where
 okS b hb:=by
  rcases hb with hb | ⟨i,ds,s,_,hd,hi⟩
  ·exact hs.okS b hb
  ·exact hs.lt hd hi
 glob g cs hg:=(hs.glob g cs hg).okMono fun b hb=>.inl hb
 inj i j ds es b s s' hd he hi hj:=hs.inj i j ds es b s s' (qex l H hd).1 (qex l H he).1 hi hj
 blk i ds hd:=by
  obtain ⟨h1,h2⟩:=qex l H hd;obtain ⟨b,arr,e,fr,k1,k2,k3,k4,k5,k6,k7,k8⟩:=hs.blk i ds h1;refine ⟨b,arr,e,fr,k1,?_,k3,k4,k5,k6,k7,fun j d hj=>(k8 j d hj).evol hs (qdT l) (k8 j d hj).closed⟩;rintro (hb | ⟨i',ds',s,hm,zB,Qa⟩)
  ·exact k2 hb
  ·have:=hs.inj i' i ds' ds b s arr.size zB h1 Qa k1;subst this;exact h2 hm
theorem qgI:∀ (e' e:qr) (t:Nat),qi (e' ++ e) t = (qi e' t).or (qi e t)
 | [],e,t=>by simp [qi]
 | (s,d) :: e',e,t=>by
  simp only [Qw,qi];by_cases h:s = t
  ·simp [h]
  ·simp only [h,if_false];exact qgI e' e t
theorem qii (hs:Sim X ok w ι H) {e:qr} {tmps:Array Value} (he:EnvRep ok w ι H e tmps) {okF:Nat→Prop} (hm:∀ b,ok b→okF b):∀ (ss:List Nat) {e':qr} {l:List Nat},qd1 H e ss = some (e',l) →
  (∀ i,i∈l→∀ ds b s,qf H i = some ds→ι i = some (b,s)→okF b)→EnvRep okF w jh [] e' tmps
 | [],e',l,h,_=>by
  simp only [qd1,qw,zm] at h;obtain ⟨rfl,rfl⟩:=h;intro t d ht;simp [qi] at ht
 | s :: ss,e',l,h,hl=>by
  simp only [qd1] at h;split at h
  ·exact qii hs he hm ss h hl
  ·rename_i d hd;split at h
   ·rename_i d1 a e1 b h1 h2;simp only [qw,zm] at h;obtain ⟨rfl,rfl⟩:=h;have ih:=qii hs he hm ss h2 fun i hi=>hl i (List.mem_append_right _ hi);intro t x ht;simp only [qi] at ht;split at ht
    ·rename_i hst;subst hst;injection ht with ht;subst ht;obtain ⟨q1,q2⟩:=he _ _ hd;exact ⟨q1,qee hs hm _ _ _ _ _ q2 h1 fun i hi=>hl i (qbZ _ hi)⟩
    ·exact ih t x ht
   ·cases h
theorem q04 {ss:List Nat} {e e':qr} {tmps:Array Value} (h:qe0 ss e H = some (e',H')) (hs:Sim X ok w ι H) (he:EnvRep ok w ι H e tmps) :
  ∃ ok',Sim X ok' w ι H'∧EnvRep ok' w ι H' e' tmps∧Evol H.length ok w ι H ok' w ι H':=by
 unfold qe0 at h;split at h
 ·rename_i e1 l hst;simp only [qw,zm] at h;obtain ⟨rfl,rfl⟩:=h;refine ⟨X7 ok ι H l,qfJ hs l,fun t d ht=>?_,qdT l⟩;rw [qgI] at ht;cases hx:qi e1 t with
  | some x =>
   rw [hx] at ht;simp only [Option.some_or,qw] at ht;subst ht;obtain ⟨q1,q2⟩:=qii hs he (okF:=X7 ok ι H l) (fun b hb=>.inl hb) ss hst (fun i hi ds b s hd hb=>.inr ⟨i,ds,s,hi,hd,hb⟩) t x hx;exact ⟨q1,q2.lift⟩
  | none =>
   rw [hx,Option.none_or] at ht;obtain ⟨q1,q2⟩:=he t d ht;exact ⟨q1,q2.evol hs (qdT l) q2.closed⟩
 ·cases h
theorem qkD {e:qr}:∀ {S:List Nat} {ds:List D},qae e S = some ds→S.length = ds.length∧∀ (j:Nat) s d,S[j]? = some s→ds[j]? = some d→qi e s = some d
 | [],ds,h=>by
  simp only [qae,qw] at h;subst h;simp
 | s :: ss,ds,h=>by
  simp only [qae] at h;split at h
  ·rename_i d ds' h1 h2;injection h with h;subst h;obtain ⟨k1,k2⟩:=qkD h2;refine ⟨by simp [k1],fun j s' d' hs hd=>?_⟩;cases j with
   | zero =>
    simp only [Z1,qw] at hs hd;subst hs;subst hd;exact h1
   | succ j=>exact k2 j s' d' (by simpa using hs) (by simpa using hd)
  ·cases h
theorem qnj:∀ {S:List Nat} {ds:List D} {t:Nat} {d:D},qi (KP S ds) t = some d→∃ j:Nat,S[j]? = some t∧ds[j]? = some d
 | [],_,t,d,h=>by simp [KP,qi] at h
 | _ :: _,[],t,d,h=>by simp [KP,qi] at h
 | s :: S,x :: ds,t,d,h=>by
  simp only [KP,qi] at h;split at h
  ·rename_i hst;subst hst;injection h with h;subst h;exact ⟨0,rfl,rfl⟩
  ·obtain ⟨j,h1,h2⟩:=qnj h;exact ⟨j+1,by simpa using h1,by simpa using h2⟩
theorem qgG:∀ {ks:List Nat} {e:qr} {t:Nat} {d:D},qi (kX ks e) t = some d→qi e t = some d
 | [],e,t,d,h=>by simp [kX,qi] at h
 | k :: ks,e,t,d,h=>by
  simp only [kX] at h;split at h
  ·rename_i x hk;simp only [qi] at h;split at h
   ·rename_i XQ;subst XQ;rw [hk];exact h
   ·exact qgG h
  ·exact qgG h
theorem qnl {n:Nat}:∀ {e:qr} {t:Nat} {d:D},qbO n e = true→qi e t = some d→closed n d = true
 | [],t,d,_,h=>by simp [qi] at h
 | (s,x) :: e,t,d,hc,h=>by
  simp only [qbO,jk] at hc;simp only [qi] at h;split at h
  ·injection h with h;subst h;exact hc.1
  ·exact qnl hc.2 h
theorem qvB {n0:Nat} {S ks:List Nat} {e e':qr} {tmps:Array Value} (h:qgp n0 S ks e H = some (e',H')) (hn:n0≤H.length) (hs:Sim X ok w ι H) (he:EnvRep ok w ι H e tmps) :
  ∃ ι',Sim X ok w ι' H'∧EnvRep ok w ι' H' e' tmps∧Evol n0 ok w ι H ok w ι' H':=by
 unfold qgp at h;split at h
 ·cases h
 ·rename_i ds hv;split at h
  ·rename_i ds' H1 hp;split at h
   ·rename_i hc;simp only [qw,zm] at h;obtain ⟨rfl,rfl⟩:=h;obtain ⟨g1,g2⟩:=qkD hv
    have hrep:Rep ok w ι H (.tup ds) (.tuple (S.map fun s=>tmps.getD s undef).toArray):=by
     refine .tup (by simp [g1]) fun j d hj=>?_;have KB:j < S.length:=(by rw [g1];exact (List.getElem?_eq_some_iff.1 hj).1);have h0:S[j]? = some S[j]:=zn KB;have:=(he _ _ (g2 j _ d h0 hj)).2;simpa [jl,KB] using this
    obtain ⟨ι2,p1,p2,p3,p4⟩:=qmx hn hs hrep hp;refine ⟨ι2,p1,fun t d ht=>?_,p3⟩;rw [qgI] at ht;cases hx:qi (KP S ds') t with
    | some x =>
     rw [hx] at ht;simp only [Option.some_or,qw] at ht;subst ht;obtain ⟨j,q1,q2⟩:=qnj hx;have KB:j < S.length:=(List.getElem?_eq_some_iff.1 q1).1;have Vi:j < ds.length:=(by omega);refine ⟨(he _ _ (g2 j t _ q1 (zn Vi))).1,?_⟩;cases p2 with
     | tup hl hh =>
      have:=hh j x q2;have e1:S[j] = t:=(by rw [zn KB] at q1;exact Option.some.inj q1);simpa [jl,KB,e1] using this
    | none =>
     rw [hx,Option.none_or] at ht;obtain ⟨q1,q2⟩:=he t d (qgG ht);exact ⟨q1,q2.evol hs p3 (qnl hc ht)⟩
   ·cases h
  ·cases h
theorem qj0:∀ {p:List Nat} {i k j:Nat},J0 p i k = some j→k≤j∧p[j - k]? = some i
 | [],i,k,j,h=>by cases h
 | a :: l,i,k,j,h=>by
  simp only [J0] at h;split at h
  ·rename_i ha;injection h with h;subst h;subst ha;exact ⟨qE _,by simp⟩
  ·obtain ⟨h1,h2⟩:=qj0 h;refine ⟨by omega,?_⟩;rw [show j - k = (j - (k+1))+1 by omega,qdv];exact h2
theorem qfg {p:List Nat}:∀ {cs ds:List D},renD.renL p cs = some ds→ds.length = cs.length
 | [],ds,h=>by
  simp only [renD.renL,qw] at h;subst h;rfl
 | c :: cs,ds,h=>by
  simp only [renD.renL] at h;split at h
  ·rename_i d l h1 h2;injection h with h;subst h;simp [qfg h2]
  ·cases h
theorem qd2 {p:List Nat}:∀ {cs ds:List D},renD.renL p cs = some ds→∀ {j:Nat} {d:D},ds[j]? = some d→∃ c,cs[j]? = some c∧renD p c = some d
 | [],ds,h,j,d,hj=>by
  simp only [renD.renL,qw] at h;subst h;simp at hj
 | c :: cs,ds,h,j,d,hj=>by
  simp only [renD.renL] at h;split at h
  ·rename_i d0 l h1 h2;injection h with h;subst h;cases j with
   | zero =>
    simp only [Z1,qw] at hj;subst hj;exact ⟨c,rfl,h1⟩
   | succ j=>exact qd2 h2 (by simpa using hj)
  ·cases h
theorem qmb {p:List Nat} {c d:D} (h:renD p c = some d) (hc:jg c = true):jg d = true:=by
 cases c <;> simp only [renD,VU,qw] at h <;> first | (simp [jg] at hc;done) | (obtain ⟨_,_,rfl⟩:=h;rfl) | (subst h;exact hc)
theorem qlV {p:List Nat} {ι2:qV} {H2:qe} (hp:∀ i j,J0 p i 0 = some j→i < H.length→j < H2.length∧ι2 j = ι i∧∀ ds2,qf H2 j = some ds2→∃ ds,qf H i = some ds∧ds.length = ds2.length)
  {ι1:qV} {H1:qe} {d:D} {v:Value} (h:Rep ok w ι1 H1 d v):ι1 = ι→H1 = H→∀ d2,renD p d = some d2→Rep ok w ι2 H2 d2 v:=by
 induction h with
 | bool b=>intro _ _ d2 hd;simp only [renD,qw] at hd;subst hd;exact .bool b
 | int k n=>intro _ _ d2 hd;simp only [renD,qw] at hd;subst hd;exact .int k n
 | str s=>intro _ _ d2 hd;simp only [renD,qw] at hd;subst hd;exact .str s
 | nilp=>intro _ _ d2 hd;simp only [renD,qw] at hd;subst hd;exact .nilp
 | nilf=>intro _ _ d2 hd;simp only [renD,qw] at hd;subst hd;exact .nilf
 | nili=>intro _ _ d2 hd;simp only [renD,qw] at hd;subst hd;exact .nili
 | raw v=>intro _ _ d2 hd;simp only [renD,qw] at hd;subst hd;exact .raw v
 | agg hl hc h ih =>
  intro h1 h2 d2 hd;simp only [renD,VU] at hd;obtain ⟨cs,hcs,rfl⟩:=hd;refine .agg (by rw [hl,qfg hcs]) (fun d hd=>?_) (fun j d hj=>?_)
  ·obtain ⟨j,hj,he⟩:=List.getElem_of_mem hd;obtain ⟨c,q1,q2⟩:=qd2 hcs (show cs[j]? = some d by rw [zn hj,he]);exact qmb q2 (hc c (mem_of_get? q1))
  ·obtain ⟨c,q1,q2⟩:=qd2 hcs hj;exact ih j c q1 h1 h2 d q2
 | tup hl h ih =>
  intro h1 h2 d2 hd;simp only [renD,VU] at hd;obtain ⟨cs,hcs,rfl⟩:=hd;refine .tup (by rw [hl,qfg hcs]) (fun j d hj=>?_);obtain ⟨c,q1,q2⟩:=qd2 hcs hj;exact ih j c q1 h1 h2 d q2
 | fn hl h ih =>
  intro h1 h2 d2 hd;simp only [renD,VU] at hd;obtain ⟨cs,hcs,rfl⟩:=hd;refine .fn (by rw [hl,qfg hcs]) (fun j d hj=>?_);obtain ⟨c,q1,q2⟩:=qd2 hcs hj;exact ih j c q1 h1 h2 d q2
 | iface h ih =>
  intro h1 h2 d2 hd;simp only [renD,VU] at hd;obtain ⟨c,hcs,rfl⟩:=hd;exact .iface (ih h1 h2 c hcs)
 | optr a hi hk =>
  intro h1 h2 d2 hd;subst h1;subst h2;simp only [renD,VU] at hd;obtain ⟨j,hj,rfl⟩:=hd;obtain ⟨q1,q2,q3⟩:=hp _ j hj hi;refine .optr a q1 fun ds2 jY=>?_;obtain ⟨ds,r1,r2⟩:=q3 ds2 jY;obtain ⟨k1,k2⟩:=hk ds r1;rw [r2] at k1 k2;rw [q2];exact ⟨k1,k2⟩
 | osl a hi hk zo =>
  intro h1 h2 d2 hd;subst h1;subst h2;simp only [renD,VU] at hd;obtain ⟨j,hj,rfl⟩:=hd;obtain ⟨q1,q2,q3⟩:=hp _ j hj hi;refine .osl a q1 (fun ds2 jY=>?_) zo;obtain ⟨ds,r1,r2⟩:=q3 ds2 jY;obtain ⟨k1,k2⟩:=hk ds r1;rw [r2] at k1 k2;rw [q2];exact ⟨k1,k2⟩
 | vptr a f ha hc hr h ih=>intro _ _ d2 hd;simp only [renD,qw] at hd;subst hd;exact .vptr a f ha hc hr h
 | vnil=>intro _ _ d2 hd;simp only [renD,qw] at hd;subst hd;exact .vnil
 | vsl a f ha hc hr h zo ih=>intro _ _ d2 hd;simp only [renD,qw] at hd;subst hd;exact .vsl a f ha hc hr h zo
theorem qiF {p:List Nat}:∀ {l:List Nat} {L:qe},X3 p H l = some L→L.length = l.length∧∀ {j:Nat} {ds2:List D},qf L j = some ds2→∃ i ds,l[j]? = some i∧qf H i = some ds∧X4 p ds = some ds2
 | [],L,h=>by
  simp only [X3,qw] at h;subst h;exact ⟨rfl,fun {j ds2} hj=>by simp [qf] at hj⟩
 | i :: l,L,h=>by
  simp only [X3] at h;split at h
  ·cases h
  ·rename_i ds hd;split at h
   ·rename_i ds' L' h1 h2;injection h with h;subst h;obtain ⟨g1,g2⟩:=qiF h2;refine ⟨by simp [g1],fun {j ds2} hj=>?_⟩;cases j with
    | zero =>
     simp only [qf,Z1,Va,qw] at hj;subst hj;exact ⟨i,ds,rfl,hd,h1⟩
    | succ j =>
     obtain ⟨i',ds0,q1,q2,q3⟩:=g2 (j:=j) (ds2:=ds2) (by simpa [qf] using hj);exact ⟨i',ds0,by simpa using q1,q2,q3⟩
   ·cases h
theorem qiE {p:List Nat}:∀ {l:List Nat} {L:qe},X3 p H l = some L→∀ {j i:Nat},l[j]? = some i→∃ ds ds2,qf H i = some ds∧X4 p ds = some ds2∧qf L j = some ds2
 | [],L,h,j,i,hj=>by simp at hj
 | i0 :: l,L,h,j,i,hj=>by
  simp only [X3] at h;split at h
  ·cases h
  ·rename_i ds hd;split at h
   ·rename_i ds' L' h1 h2;injection h with h;subst h;cases j with
    | zero =>
     simp only [Z1,qw] at hj;subst hj;exact ⟨ds,ds',hd,h1,by simp [qf]⟩
    | succ j =>
     obtain ⟨a,b,q1,q2,q3⟩:=qiE h2 (j:=j) (i:=i) (by simpa using hj);exact ⟨a,b,q1,q2,by simpa [qf] using q3⟩
   ·cases h
theorem qgr {p:List Nat} {ds ds2:List D} (h:X4 p ds = some ds2):ds2.length = ds.length:=by
 unfold X4 at h;split at h
 ·injection h with h;rw [h]
 ·exact qfg h
theorem qnk {p:List Nat}:∀ {e e':qr},qbj p e = some e'→∀ {t:Nat} {d2:D},qi e' t = some d2→∃ d,qi e t = some d∧qaj p d = some d2
 | [],e',h,t,d2,hl=>by
  simp only [qbj,qw] at h;subst h;simp [qi] at hl
 | (s,d) :: e,e',h,t,d2,hl=>by
  simp only [qbj] at h;split at h
  ·rename_i d' e1 h1 h2;injection h with h;subst h;simp only [qi] at hl ⊢;split at hl
   ·rename_i hst;injection hl with hl;subst hl;exact ⟨d,by rw [if_pos hst],h1⟩
   ·rename_i hst;obtain ⟨d0,q1,q2⟩:=qnk h2 hl;exact ⟨d0,by rw [if_neg hst];exact q1,q2⟩
  ·cases h
theorem qeP:∀ n,(V1 n).length = n
 | 0=>rfl
 | n+1=>by rw [V1,zz,qeP n];rfl
theorem qkF:∀ {n i:Nat},i < n→(V1 n)[i]? = some i
 | n+1,i,h=>by
  rw [V1];by_cases hi:i < n
  ·rw [kg (by rw [qeP];exact hi),qkF hi]
  ·have:i = n:=(by omega);subst this;rw [kU (by rw [qeP];exact qE _),qeP,Nat.sub_self];rfl
theorem qid {p:List Nat} {n0 i:Nat} (h:p.take n0 = V1 n0) (hi:i < n0):p[i]? = some i:=by
 rw [← List.getElem?_take_of_lt hi,h,qkF hi]
theorem qtO {p:List Nat} {n0:Nat} (h:p.take n0 = V1 n0):n0≤p.length:=by
 have:=congrArg List.length h;rw [jU,qeP] at this;omega
theorem qi8 {n0:Nat} {p:List Nat} {e e':qr} {tmps:Array Value} (h:Yo n0 p e H = some (e',H')) (hs:Sim X ok w ι H) (he:EnvRep ok w ι H e tmps) :
  Sim X ok w (fun j=>ι (p.getD j 0)) H'∧EnvRep ok w (fun j=>ι (p.getD j 0)) H' e' tmps∧Evol n0 ok w ι H ok w (fun j=>ι (p.getD j 0)) H':=by
 unfold Yo at h;split at h
 ·rename_i e1 H1 hE hH;split at h
  ·rename_i hnd0;obtain ⟨hnd,hup⟩:=hnd0;simp only [qw,zm] at h;obtain ⟨rfl,rfl⟩:=h;obtain ⟨hl,hg⟩:=qiF hH
   have hp:∀ i j,J0 p i 0 = some j→i < H.length→j < H1.length∧(fun j=>ι (p.getD j 0)) j = ι i∧∀ ds2,qf H1 j = some ds2→∃ ds,qf H i = some ds∧ds.length = ds2.length:=by
    intro i j zu _;obtain ⟨-,h1⟩:=qj0 zu;rw [Nat.sub_zero] at h1;have hj:=(List.getElem?_eq_some_iff.1 h1).1;refine ⟨by rw [hl];exact hj,?_,fun ds2 jY=>?_⟩
    ·show ι (p.getD j 0) = ι i;rw [j8,h1];rfl
    ·obtain ⟨i',ds,q1,q2,q3⟩:=hg jY;rw [h1] at q1;injection q1 with q1;subst q1;exact ⟨ds,q2,(qgr q3).symm⟩
   have hB:∀ {ds ds2:List D} {f:Nat→Value},X4 p ds = some ds2→(∀ (j:Nat) d,ds[j]? = some d→Rep ok w ι H d (f j))→∀ (j:Nat) d,ds2[j]? = some d→Rep ok w (fun j=>ι (p.getD j 0)) H1 d (f j):=by
    intro ds ds2 f hr hd j d hj;unfold X4 at hr;split at hr
    ·rename_i kj;injection hr with hr;subst hr;exact (hd j d hj).free ((qc0 _).1 kj d (mem_of_get? hj)) _ _
    ·obtain ⟨c,q1,q2⟩:=qd2 hr hj;exact qlV hp (hd j c q1) rfl rfl d q2
   have hC:∀ {ds ds2:List D},X4 p ds = some ds2→(∀ d,d∈ds→jg d = true)→∀ d,d∈ds2→jg d = true:=by
    intro ds ds2 hr hc d hd;unfold X4 at hr;split at hr
    ·injection hr with hr;subst hr;exact hc d hd
    ·obtain ⟨j,hj,hje⟩:=List.getElem_of_mem hd;obtain ⟨c,q1,q2⟩:=qd2 hr (show ds2[j]? = some d by rw [zn hj,hje]);exact qmb q2 (hc c (mem_of_get? q1))
   refine ⟨⟨hs.okS,hs.glob,?_,?_⟩,fun t d2 ht=>?_,?_⟩
   ·intro a b ds es blk s s' ha hb ia ib;obtain ⟨i1,d1,q1,q2,q3⟩:=hg ha;obtain ⟨i2,d2,r1,r2,r3⟩:=hg hb;have e1:p.getD a 0 = i1:=(by rw [j8,q1];rfl);have e2:p.getD b 0 = i2:=(by rw [j8,r1];rfl);simp only [e1] at ia;simp only [e2] at ib;have:=hs.inj i1 i2 d1 d2 blk s s' q2 r2 ia ib;subst this;obtain ⟨YK,hae⟩:=List.getElem?_eq_some_iff.1 q1;obtain ⟨zC,hbe⟩:=List.getElem?_eq_some_iff.1 r1;exact (List.getElem?_inj YK hnd).1 (q1.trans r1.symm)
   ·intro a ds2 ha;obtain ⟨i1,d1,q1,q2,q3⟩:=hg ha;have e1:p.getD a 0 = i1:=(by rw [j8,q1];rfl);obtain ⟨b,arr,ty,fr,u1,u2,u3,u4,u5,u6,u7,u8⟩:=hs.blk i1 d1 q2;exact ⟨b,arr,ty,fr,by show ι (p.getD a 0) = _;rw [e1];exact u1,u2,u3,by rw [qgr q3];exact u4,u5,u6,hC q3 u7,hB (f:=fun j=>arr.getD j undef) q3 u8⟩
   ·obtain ⟨d,q1,q2⟩:=qnk hE ht;obtain ⟨g1,g2⟩:=he t d q1;refine ⟨g1,?_⟩;unfold qaj at q2;split at q2
    ·rename_i hf;injection q2 with q2;subst q2;exact g2.free hf _ _
    ·exact qlV hp g2 rfl rfl d2 q2
   ·refine ⟨rfl,rfl,rfl,qE _,fun _ _ _=>rfl,fun _ h=>h,fun _ h _=>.inl h,⟨?_,by rw [hl];exact qtO hup⟩,fun i hi ds2 jY=>?_,fun j ds2 b s hd hi hb=>?_⟩
    ·rcases Nat.eq_zero_or_pos n0 with rfl | QT
     ·exact vV _
     ·obtain ⟨ds,_,q1,_⟩:=qiE hH (qid hup (show n0 - 1 < n0 by omega));have:=qA q1;omega
    ·obtain ⟨i1,ds,q1,q2,q3⟩:=hg jY;rw [qid hup hi] at q1;injection q1 with q1;subst q1;refine ⟨ds,q2,Nat.le_of_eq (qgr q3).symm,fun _=>?_⟩;show ι (p.getD i 0) = ι i;rw [j8,qid hup hi];rfl
    obtain ⟨i1,d1,q1,q2,q3⟩:=hg hd;have e1:p.getD j 0 = i1:=(by rw [j8,q1];rfl);simp only [e1] at hi;exact ⟨i1,d1,s,q2,hi⟩
  ·cases h
 ·cases h
theorem qxz {S:List Nat} {ds:List D} {e:qr} (hv:qae e S = some ds):∀ {t:Nat} {d:D},qi (KP S ds) t = some d→qi e t = some d:=by
 induction S generalizing ds with
 | nil =>
  intro t d h;simp only [qae,qw] at hv;subst hv;simp [KP,qi] at h
 | cons s S ih =>
  intro t d h;simp only [qae] at hv;split at hv
  ·rename_i d0 ds0 h1 h2;injection hv with hv;subst hv;simp only [KP,qi] at h;split at h
   ·rename_i hst;injection h with h;subst h;rw [← hst];exact h1
   ·exact ih h2 h
  ·cases hv
theorem qlU {n0:Nat} {p:List Nat} {e e':qr} {tmps:Array Value} (h:Yo n0 p e H = some (e',H')) (hs:Sim X ok w ι H) (he:EnvRep ok w ι H e tmps) :
  ∃ ι',Sim X ok w ι' H'∧EnvRep ok w ι' H' e' tmps∧Evol n0 ok w ι H ok w ι' H':=⟨_,qi8 h hs he⟩
theorem qm1 {n0:Nat} (hn:n0≤H.length) (hs:Sim X ok w ι H) {r r':D} {v:Value} (hr:Rep ok w ι H r v) (h:KX n0 H r = some (r',H')) :
  ∃ ι',Sim X ok w ι' H'∧Rep ok w ι' H' r' v∧Evol n0 ok w ι H ok w ι' H'∧(∀ i ds,n0≤i→qf H' i = some ds→ds.all idFree = true):=by
 unfold KX at h;cases hq0:qd7 n0 H r with
 | some q =>
  rw [hq0,qwA] at h;injection h with h;subst h;exact qmx hn hs hr hq0
 | none =>
  rw [hq0,qwB] at h;unfold qmz at h;split at h
  ·rename_i t r1 H1 hq;split at h
   ·rename_i jB;simp only [qw,zm] at h;obtain ⟨rfl,rfl⟩:=h
    have he:EnvRep ok w ι H [(0,r)] #[v]:=fun t d ht=>by
     simp only [qi] at ht;split at ht
     ·rename_i h0;injection ht with ht;subst ht;subst h0;exact ⟨by simp,hr⟩
     ·cases ht
    obtain ⟨ι',s1,s2,s3⟩:=qlU hq hs he
    have ht:t = 0:=by
     unfold Yo at hq;split at hq
     ·rename_i e1 H2 hE hH;split at hq
      ·simp only [qw,zm] at hq;obtain ⟨rfl,rfl⟩:=hq;simp only [qbj] at hE;split at hE
       ·rename_i d2 e2 g1 g2;simp only [qw,List.cons.injEq,zm] at hE;exact hE.1.1.symm
       ·cases hE
      ·cases hq
     ·cases hq
    subst ht;refine ⟨ι',s1,(s2 0 r1 (by simp [qi])).2,s3,fun i ds hi hd=>?_⟩
    have hm:some ds∈H1.drop n0:=by
     have qg:=qA hd;rw [List.mem_iff_getElem?];refine ⟨i - n0,?_⟩;rw [Qv,show n0+(i - n0) = i by omega];unfold qf at hd;rw [zn qg] at hd ⊢;simpa using hd
    have:=List.all_eq_true.1 jB _ hm;simpa [qeA] using this
   ·cases h
  ·cases h
theorem qmy {z:Bool} {n0:Nat} (hn:n0≤H.length) (hs:Sim X ok w ι H) {r r':D} {v:Value} (hr:Rep ok w ι H r v) (h:jE z n0 H r = some (r',H')) :
  ∃ ok' ι',Sim X ok' w ι' H'∧Rep ok' w ι' H' r' v∧Evol n0 ok w ι H ok' w ι' H'∧∀ i ds,n0≤i→qf H' i = some ds→ds.all idFree = true:=by
 cases z with
 | false =>
  simp only [jE] at h;obtain ⟨ι2,p1,p2,p3,p4⟩:=qm1 hn hs hr h;exact ⟨ok,ι2,p1,p2,p3,p4⟩
 | true =>
  simp only [jE] at h;split at h
  ·rename_i r1 l hst;have h1:=qee hs (okF:=X7 ok ι H l) (fun b hb=>.inl hb) _ _ _ _ _ hr hst (fun i hi ds b s hd hb=>.inr ⟨i,ds,s,hi,hd,hb⟩);obtain ⟨ι2,p1,p2,p3,p4⟩:=qm1 (by rw [Zp];exact hn) (qfJ hs l) (h1.lift (ι:=ι) (H:=jO H l)) h;exact ⟨_,ι2,p1,p2,((qdT l).mono hn).trans p3,p4⟩
  ·cases h
theorem qvC {n0:Nat} {S ks:List Nat} {e e':qr} {tmps:Array Value} (h:qei n0 S ks e H = some (e',H')) (hn:n0≤H.length) (hs:Sim X ok w ι H) (he:EnvRep ok w ι H e tmps) :
  ∃ ι',Sim X ok w ι' H'∧EnvRep ok w ι' H' e' tmps∧Evol n0 ok w ι H ok w ι' H':=by
 unfold qei at h;split at h
 ·rename_i r hr;injection h with h;subst h;exact qvB hr hn hs he
 ·unfold qi9 at h;split at h
  ·rename_i ds hv;refine qlU h hs fun t d ht=>?_;rw [qgI] at ht;cases hx:qi (KP S ds) t with
   | some x =>
    rw [hx] at ht;injection ht with ht;subst ht;exact he t _ (qxz hv hx)
   | none =>
    rw [hx] at ht;exact he t d (qgG ht)
  ·cases h
end
end Go.Ev
