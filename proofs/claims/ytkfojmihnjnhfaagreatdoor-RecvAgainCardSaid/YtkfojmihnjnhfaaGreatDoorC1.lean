import Derived.WalkKit
import Derived.Scope
import Derived.Laws.AppendOwn
import Derived.Laws.Append
import Derived.Lib.ConvBytes
import Derived.Laws.BytesArg
import Derived.ChangeKeysEq
import Derived.Laws.StructEq
namespace Go.Ev
theorem jp:type_of% @Array.getD_eq_getD_getElem?:=@Array.getD_eq_getD_getElem?
theorem qg6:type_of% @Array.getElem?_append_left:=@Array.getElem?_append_left
theorem Jx:type_of% @Array.getElem?_eq_getElem:=@Array.getElem?_eq_getElem
theorem qc5:type_of% @Array.getElem?_eq_none:=@Array.getElem?_eq_none
theorem qeK:type_of% @Array.getElem?_modify:=@Array.getElem?_modify
theorem qg5:type_of% @Array.getElem?_replicate:=@Array.getElem?_replicate
theorem qc4:type_of% @Array.getElem?_setIfInBounds_ne:=@Array.getElem?_setIfInBounds_ne
theorem qeJ:type_of% @BitVec.ofInt_natCast:=@BitVec.ofInt_natCast
theorem qdk:type_of% @BitVec.toNat_ofNat:=@BitVec.toNat_ofNat
theorem qT:type_of% @Bool.and_eq_true:=@Bool.and_eq_true
theorem Z3:type_of% @Bool.false_and:=@Bool.false_and
theorem vT:type_of% @Bool.false_eq_true:=@Bool.false_eq_true
theorem qbK:type_of% @Bool.or_eq_true:=@Bool.or_eq_true
theorem vS:type_of% @Bool.true_and:=@Bool.true_and
theorem qdj:type_of% @Classical.byContradiction:=@Classical.byContradiction
theorem KI:type_of% @Classical.em:=@Classical.em
theorem XQ:type_of% @List.all_cons:=@List.all_cons
theorem Y7:type_of% @List.all_eq_true:=@List.all_eq_true
theorem vI:type_of% @List.append_assoc:=@List.append_assoc
theorem Z2:type_of% @List.append_nil:=@List.append_nil
theorem qbI:type_of% @List.cons.injEq:=@List.cons.injEq
theorem kt:type_of% @List.cons_append:=@List.cons_append
theorem qD:type_of% @List.drop_append:=@List.drop_append
theorem kF:type_of% @List.drop_drop:=@List.drop_drop
theorem zm:type_of% @List.drop_eq_getElem_cons:=@List.drop_eq_getElem_cons
theorem zX:type_of% @List.drop_eq_nil_of_le:=@List.drop_eq_nil_of_le
theorem qc2:type_of% @List.drop_left':=@List.drop_left'
theorem VX:type_of% @List.eq_nil_of_length_eq_zero:=@List.eq_nil_of_length_eq_zero
theorem qc1:type_of% @List.flatten_cons:=@List.flatten_cons
theorem jV:type_of% @List.getD_eq_getElem?_getD:=@List.getD_eq_getElem?_getD
theorem ZY:type_of% @List.getElem?_append_left:=@List.getElem?_append_left
theorem VW:type_of% @List.getElem?_append_right:=@List.getElem?_append_right
theorem ZX:type_of% @List.getElem?_cons_zero:=@List.getElem?_cons_zero
theorem QE:type_of% @List.getElem?_drop:=@List.getElem?_drop
theorem zi:type_of% @List.getElem?_eq_getElem:=@List.getElem?_eq_getElem
theorem XP:type_of% @List.getElem?_map:=@List.getElem?_map
theorem VV:type_of% @List.getElem?_take:=@List.getElem?_take
theorem vw:type_of% @List.getElem_mem:=@List.getElem_mem
theorem qC:type_of% @List.length_append:=@List.length_append
theorem qG:type_of% @List.length_cons:=@List.length_cons
theorem jU:type_of% @List.length_drop:=@List.length_drop
theorem qX:type_of% @List.length_nil:=@List.length_nil
theorem qc0:type_of% @List.length_set:=@List.length_set
theorem js:type_of% @List.length_take:=@List.length_take
theorem Y6:type_of% @List.map_cons:=@List.map_cons
theorem qbH:type_of% @List.mem_append:=@List.mem_append
theorem qcz:type_of% @List.mem_append_left:=@List.mem_append_left
theorem qbG:type_of% @List.mem_cons:=@List.mem_cons
theorem kU:type_of% @List.mem_cons_of_mem:=@List.mem_cons_of_mem
theorem QY:type_of% @List.mem_cons_self:=@List.mem_cons_self
theorem qcy:type_of% @List.mem_of_getElem?:=@List.mem_of_getElem?
theorem V1:type_of% @List.mem_of_mem_drop:=@List.mem_of_mem_drop
theorem Jv:type_of% @List.mem_of_mem_take:=@List.mem_of_mem_take
theorem qg2:type_of% @List.mem_or_eq_of_mem_set:=@List.mem_or_eq_of_mem_set
theorem ZW:type_of% @List.nil_append:=@List.nil_append
theorem qa1:type_of% @List.replicate_succ:=@List.replicate_succ
theorem zW:type_of% @List.take_append:=@List.take_append
theorem V0:type_of% @List.take_append_drop:=@List.take_append_drop
theorem qx:type_of% @List.take_of_length_le:=@List.take_of_length_le
theorem qeG:type_of% @List.take_succ_cons:=@List.take_succ_cons
theorem qbF:type_of% @List.take_succ_eq_append_getElem:=@List.take_succ_eq_append_getElem
theorem Vz:type_of% @Nat.add_assoc:=@Nat.add_assoc
theorem vR:type_of% @Nat.add_mul:=@Nat.add_mul
theorem ZV:type_of% @Nat.le_of_lt:=@Nat.le_of_lt
theorem qB:type_of% @Nat.le_refl:=@Nat.le_refl
theorem kr:type_of% @Nat.le_trans:=@Nat.le_trans
theorem jP:type_of% @Nat.lt_of_lt_of_le:=@Nat.lt_of_lt_of_le
theorem ZU:type_of% @Nat.lt_or_ge:=@Nat.lt_or_ge
theorem qbE:type_of% @Nat.mod_eq_of_lt:=@Nat.mod_eq_of_lt
theorem JT:type_of% @Nat.mod_lt:=@Nat.mod_lt
theorem qbD:type_of% @Nat.mul_le_mul_right:=@Nat.mul_le_mul_right
theorem KH:type_of% @Nat.ne_of_lt:=@Nat.ne_of_lt
theorem Y4:type_of% @Nat.pow_le_pow_right:=@Nat.pow_le_pow_right
theorem XO:type_of% @Nat.pow_succ:=@Nat.pow_succ
theorem vQ:type_of% @Nat.zero_add:=@Nat.zero_add
theorem jk:type_of% @Nat.zero_le:=@Nat.zero_le
theorem Y3:type_of% @Option.bind_some:=@Option.bind_some
theorem Ju:type_of% @Option.getD_some:=@Option.getD_some
theorem ZT:type_of% @Option.map_eq_some_iff:=@Option.map_eq_some_iff
theorem jF:type_of% @Option.map_some:=@Option.map_some
theorem qbC:type_of% @Option.some.inj:=@Option.some.inj
theorem qu:type_of% @Option.some.injEq:=@Option.some.injEq
theorem qN:type_of% @Prod.mk.injEq:=@Prod.mk.injEq
theorem VU:type_of% @UInt8.toNat_ofNat_of_lt':=@UInt8.toNat_ofNat_of_lt'
inductive D where
 | bool (b:Bool)
 | int (k:IntKind) (n:Int)
 | str (s:List UInt8)
 | nilp
 | nilf
 | nili
 | agg (cs:List D)
 | tup (cs:List D)
 | vptr (cs:List D)
 | optr (id st off:Nat)
 | vsl (nil:Bool) (cs:List D) (len:Nat)
 | osl (id st off len k:Nat)
 | fn (f:Nat) (caps:List D)
 | iface (t:Nat) (d:D)
 | raw (v:Value)
 deriving Inhabited
abbrev qi:=List (Option (List D))
abbrev qr:=List (Nat × D)
def qq (H:qi) (i:Nat):Option (List D):=(H[i]?).getD none
def hset (H:qi) (i:Nat) (ds:List D):qi:=H.set i (some ds)
def qf:qr→Nat→Option D
 | [],_=>none
 | (s,d) :: e,t=>if s = t then some d else qf e t
def vj (e:qr):Option Tmp→D→qr
 | none,_=>e
 | some t,d=>(t,d) :: e
def qcc:Value→Option D
 | .bool b=>some (.bool b)
 | .int k n=>some (.int k n)
 | .string s=>some (.str s.data.toList)
 | .pointer none=>some .nilp
 | .slice none 0 0=>some (.vsl true [] 0)
 | .nilFunc=>some .nilf
 | .nilIface=>some .nili
 | _=>none
def qcb:List Value→Option (List D)
 | []=>some []
 | v :: l=>match qcc v,qcb l with
  | some d,some ds=>some (d :: ds)
  | _,_=>none
def Q2:Value→Option D
 | .agg cs=>(qcb cs.toList).map .agg
 | v=>qcc v
structure Cx where
 P:Program
 /-- what the package-level variables hold that are read -/
 glob:Nat→Option (List D)
 /-- function,region: the slots that are kept at its head,and how many blocks of the call's own -/
 keep:Nat→Nat→Option (List Nat × Nat)
 /-- functions that work on their caller's own memory -/
 byRef:Nat→Bool
 /-- functions that make nothing and are handed nothing of the run's own -/
 pureF:Nat→Bool
 /-- functions without a body -/
 ext:Nat→List D→Option D
 /-- functions that are not taken -/
 bad:Nat→Bool
 /-- function,region: the slots that are told by value for Vt at its head -/
 frz:Nat→Nat→List Nat
 /-- function,region: slots whose blocks alone are kept at its head -/
 ret:Nat→Nat→List Nat
 /-- functions whose result is told by value for Vt -/
 fzr:Nat→Bool
 /-- functions that are met by a contract -/
 con:Nat→List D→qi→Option (D × qi)
 /-- functions to which what is handed is told by value for Vt -/
 perm:Nat→Bool
 /-- in a region that draws its order,a function value must be one that makes nothing -/
 dynV:Bool
 /-- function,region: texts of bytes and of slices are told by value there,though it draws no order -/
 cv:Nat→Nat→Bool:=fun _ _=>false
 frb:Nat→Nat→List Nat:=fun _ _=>[]
 /-- function,region that draws its order: places of what writes and what reads that no order binds,looked at as they run;slots of texts that are the run's own (the others are told by value) -/
 lp:Nat→Nat→Option (List (Nat × Nat) × List Nat):=fun _ _=>none
 /-- functions (of byRef) that are run on their first argument's block alone -/
 loc:Nat→Bool:=fun _=>false
 /-- functions (of loc) that are run on their first argument's block and those that it names -/
 lom:Nat→Bool:=fun _=>false
 /-- function,region that draws its order: a variable's place that no order binds to what writes ahead of it -/
 al:Nat→Nat→Option Nat:=fun _ _=>none
def qQ (X:Cx) (e:qr):Operand→Option D
 | .tmp t=>qf e t
 | .const v=>Q2 v
 | .func f=>some (.fn f [])
 | .global g=>(X.glob g).map .vptr
def idFree:D→Bool
 | .agg cs | .tup cs | .fn _ cs=>idFreeL cs
 | .iface _ d=>idFree d
 | .optr .. | .osl ..=>false
 | _=>true
where idFreeL:List D→Bool
 | []=>true
 | d :: l=>idFree d && idFreeL l
def vFree:D→Bool
 | .agg cs | .tup cs | .fn _ cs=>vFreeL cs
 | .iface _ d=>vFree d
 | .vptr ..=>false
 | .vsl n _ _=>n
 | _=>true
where vFreeL:List D→Bool
 | []=>true
 | d :: l=>vFree d && vFreeL l
def closed (n:Nat):D→Bool
 | .agg cs | .tup cs | .fn _ cs=>closedL n cs
 | .iface _ d=>closed n d
 | .optr i _ _ | .osl i _ _ _ _=>decide (i < n)
 | _=>true
where closedL (n:Nat):List D→Bool
 | []=>true
 | d :: l=>closed n d && closedL n l
def qw (P:Program) (t:TypeId):Nat:=((P.info? t).map (·.size)).getD 0
def bytesOf (P:Program) (t:TypeId):Nat:=((P.info? t).map (·.bytes)).getD 0
def VZ (P:Program) (t:TypeId):Option D:=((P.info? t).bind (·.zero)).bind Q2
def Vy (P:Program) (t:TypeId):Option Bool :=
 match P.underlying t with
 | some (.struct _) | some (.array _ _)=>some true
 | some _=>some false
 | none=>none
def cellsOf:D→Option (List D)
 | .agg cs=>some cs
 | .tup _ | .raw _=>none
 | d=>some [d]
def X2 (H:qi):D→Option (List D)
 | .vptr cs=>some cs
 | .optr i st off=>match qq H i with
  | some ds=>if ds.length = st then some (ds.drop off) else none
  | none=>none
 | _=>none
def ldD (P:Program) (H:qi) (t:TypeId) (p:D):Option D :=
 match Vy P t,X2 H p with
 | some true,some cs=>if qw P t≤cs.length then some (.agg (cs.take (qw P t))) else none
 | some false,some (d :: _)=>some d
 | _,_=>none
def qH (ds:List D) (off:Nat) (xs:List D):List D:=ds.take off ++ xs ++ ds.drop (off+xs.length)
def stD (P:Program) (H:qi) (t:TypeId) (p x:D):Option qi :=
 match p,cellsOf x with
 | .optr i st off,some xs=>match qq H i with
  | some ds=>if ds.length = st∧xs.length = qw P t∧0 < qw P t∧off+xs.length≤ds.length∧xs.all (closed H.length) then some (hset H i (qH ds off xs)) else none
  | none=>none
 | _,_=>none
def Xo (H:qi) (k:Nat):D→Option (List D × Nat)
 | .vsl _ cs len=>if cs.length = len * k then some (cs,len) else none
 | .osl i st off len k'=>match qq H i with
  | some ds=>if ds.length = st∧k' = k∧off+len * k≤ds.length then some ((ds.drop off).take (len * k),len) else none
  | none=>none
 | _=>none
def qem (P:Program) (s:TypeId) (f:Nat):Option Field :=
 match P.underlying s with
 | some (.struct fs)=>fs[f]?
 | _=>none
def qdJ (k:Nat):D→Option D
 | .vptr cs=>some (.vptr (cs.drop k))
 | .optr i st off=>some (.optr i st (off+k))
 | _=>none
def qgd (P:Program) (s:TypeId) (p:D) (f:Nat):Option D :=
 match qem P s f with
 | some fd=>if qw P fd.type = 0 then none else qdJ fd.offset p
 | none=>none
def XZ (P:Program) (t:TypeId) (cs:List D) (off:Nat):Option D :=
 match Vy P t with
 | some true=>if off+qw P t≤cs.length then some (.agg ((cs.drop off).take (qw P t))) else none
 | some false=>cs[off]?
 | none=>none
def qgc (P:Program) (s:TypeId) (x:D) (f:Nat):Option D :=
 match qem P s f,x with
 | some fd,.agg cs=>XZ P fd.type cs fd.offset
 | _,_=>none
def qfQ (P:Program) (t:TypeId) (x i:D):Option D :=
 match P.underlying t,x,i with
 | some (.array n e),p,.int _ i=>if 0≤i∧i < n∧0 < qw P e then qdJ (i.toNat * qw P e) p else none
 | some (.slice e),.vsl false cs len,.int _ i=>if 0≤i∧i < len∧0 < qw P e then some (.vptr (cs.drop (i.toNat * qw P e))) else none
 | some (.slice e),.osl id st off len _,.int _ i=>if 0≤i∧i < len∧0 < qw P e then some (.optr id st (off+i.toNat * qw P e)) else none
 | _,_,_=>none
def qfP (P:Program) (t:TypeId) (x i:D):Option D :=
 match P.underlying t,x,i with
 | some (.array n e),.agg cs,.int _ i=>if 0≤i∧i < n then XZ P e cs (i.toNat * qw P e) else none
 | some .string,.str s,.int _ i=>if 0≤i then (s[i.toNat]?).map fun b=>.int .u8 b.toNat else none
 | _,_,_=>none
def qb8 (n:Nat):Option D→Option D→Option (Nat × Nat)
 | none,none=>some (0,n)
 | some (.int _ l),none=>if 0≤l∧l≤n then some (l.toNat,n) else none
 | none,some (.int _ h)=>if 0≤h∧h≤n then some (0,h.toNat) else none
 | some (.int _ l),some (.int _ h)=>if 0≤h∧h≤n∧0≤l∧l≤h then some (l.toNat,h.toNat) else none
 | _,_=>none
def qbS (P:Program) (t:TypeId) (x:D) (lo hi:Option D):Option D :=
 match P.underlying t,x with
 | some .string,.str s=>match qb8 s.length lo hi with
  | some (l,h)=>some (.str ((s.drop l).take (h - l)))
  | none=>none
 | some (.slice e),.vsl nil cs len=>match qb8 len lo hi with
  | some (l,h)=>if cs.length = len * qw P e∧0 < qw P e then some (.vsl nil ((cs.drop (l * qw P e)).take ((h - l) * qw P e)) (h - l)) else none
  | none=>none
 | some (.slice e),.osl id st off len k=>match qb8 len lo hi with
  | some (l,h)=>if k = qw P e∧0 < k∧(l = 0∨l < len) then some (.osl id st (off+l * k) (h - l) k) else none
  | none=>none
 | some (.array n e),.vptr cs=>match qb8 n lo hi with
  | some (l,h)=>if h * qw P e≤cs.length∧0 < qw P e∧(l = 0∨l < n) then some (.vsl false ((cs.drop (l * qw P e)).take ((h - l) * qw P e)) (h - l)) else none
  | none=>none
 | some (.array n e),.optr id st off=>match qb8 n lo hi with
  | some (l,h)=>if (l = 0∨l < n)∧off+n * qw P e≤st∧0 < qw P e then some (.osl id st (off+l * qw P e) (h - l) (qw P e)) else none
  | none=>none
 | _,_=>none
def Y2 (k:IntKind) (a b:Int):Int:=k.wrap (BitVec.ofInt k.bits a &&& BitVec.ofInt k.bits b).toNat
def Kh (k:IntKind) (a b:Int):Int:=k.wrap (BitVec.ofInt k.bits a ||| BitVec.ofInt k.bits b).toNat
def zt (k:IntKind) (a b:Int):Int:=k.wrap (BitVec.ofInt k.bits a ^^^ BitVec.ofInt k.bits b).toNat
def qoC (k:IntKind) (a b:Int):Int:=k.wrap (BitVec.ofInt k.bits a &&& ~~~ BitVec.ofInt k.bits b).toNat
def qfN (op:BinOp) (k:IntKind) (a b:Int):Option D :=
 match op with
 | .add=>some (.int k (k.wrap (a+b)))
 | .sub=>some (.int k (k.wrap (a - b)))
 | .mul=>some (.int k (k.wrap (a * b)))
 | .quo=>if b = 0 then none else some (.int k (k.wrap (a.tdiv b)))
 | .rem=>if b = 0 then none else some (.int k (a.tmod b))
 | .and=>some (.int k (Y2 k a b))
 | .or=>some (.int k (Kh k a b))
 | .xor=>some (.int k (zt k a b))
 | .andNot=>some (.int k (qoC k a b))
 | .eql=>some (.bool (a == b))
 | .neq=>some (.bool (a != b))
 | .lss=>some (.bool (decide (a < b)))
 | .leq=>some (.bool (decide (a≤b)))
 | .gtr=>some (.bool (decide (a > b)))
 | .geq=>some (.bool (decide (a ≥ b)))
 | _=>none
def qdz (op:BinOp) (k:IntKind) (a b:Int):Option D :=
 if b < 0 then none else
 match op with
 | .shl=>some (.int k (k.wrap (a * 2 ^ (min b.toNat k.bits))))
 | .shr=>some (.int k (a.fdiv (2 ^ (min b.toNat k.bits))))
 | _=>none
def strD (op:BinOp) (x y:List UInt8):Option D :=
 match op with
 | .add=>if x.length+y.length≤4611686018427387904 then some (.str (x ++ y)) else none
 | .eql=>some (.bool (x == y))
 | .neq=>some (.bool !(x == y))
 | .lss=>some (.bool (Op.bytesLess x y))
 | .leq=>some (.bool (Op.bytesLess x y || x == y))
 | .gtr=>some (.bool !(Op.bytesLess x y || x == y))
 | .geq=>some (.bool !(Op.bytesLess x y))
 | _=>none
inductive CK where
 | b | i | s
 deriving DecidableEq
def qb6:CK→D→D→Option Bool
 | .i,.int k a,.int k' b=>if k = k' then some (a == b) else none
 | .b,.bool a,.bool b=>some (a == b)
 | .s,.str a,.str b=>some (a == b)
 | _,_,_=>none
def jT:List CK→List D→List D→Option Bool
 | [],[],[]=>some true
 | k :: ks,x :: xs,y :: ys=>match qb6 k x y,jT ks xs ys with
  | some a,some b=>some (a && b)
  | _,_=>none
 | _,_,_=>none
def qaI (P:Program) (g:TypeId→Option (List CK)):List Field→List CK→Option (List CK)
 | [],acc=>some acc
 | f :: fs,acc=>match g f.type with
  | some ks => if f.offset = acc.length ∧ f.name ≠ "_" ∧ qw P f.type = ks.length ∧ 0 < ks.length then qaI P g fs (acc ++ ks) else none
  | none=>none
def QK (P:Program):Nat→TypeId→Option (List CK)
 | 0,_=>none
 | d+1,t=>match P.underlying t with
  | some .bool=>some [.b]
  | some (.int _)=>some [.i]
  | some .string=>some [.s]
  | some (.array n e)=>match QK P d e with
   | some ks=>if qw P e = ks.length∧0 < ks.length then some (List.replicate n ks).flatten else none
   | none=>none
  | some (.struct fs)=>if P.stoodInHeld t then none else qaI P (QK P d) fs.toList []
  | _=>none
def qxl:D→Option Bool
 | .vsl n _ _=>some n
 | .osl ..=>some false
 | _=>none
def V9:Operand→Bool
 | .const _=>true
 | _=>false
def Xh (P:Program) (t:TypeId):Bool:=((P.info? t).map (·.comparable)).getD false
def eqD (P:Program) (t:TypeId) (cst:Bool) (x y:D):Option Bool :=
 match x,y with
 | .bool a,.bool b=>match P.underlying t with
  | some .bool=>some (a == b)
  | _=>none
 | .agg xs,.agg ys=>match QK P 50 t with
  | some ks=>if Vy P t = some true∧P.eqGuardType P.depth t = false then jT ks xs ys else none
  | none=>none
 | .vsl true _ _,.vsl n _ _=>match P.underlying t with
  | some (.slice _)=>some n
  | _=>none
 | .vsl n _ _,.vsl true _ _=>match P.underlying t with
  | some (.slice _)=>some n
  | _=>none
 | .osl ..,.vsl true _ _=>match P.underlying t with
  | some (.slice _)=>some false
  | _=>none
 | .nili,.nili=>match P.underlying t with
  | some (.interface _)=>if cst then some true else none
  | _=>none
 | .iface s (.int k a),.iface s' (.int k' b)=>match P.underlying t,P.underlying s with
  | some (.interface _),some (.int _)=>if s = s'∧k = k'∧Xh P s = true then some (a == b) else none
  | _,_=>none
 | .iface _ _,.nili=>match P.underlying t with
  | some (.interface _)=>some false
  | _=>none
 | .nilp,.nilp=>match P.underlying t with
  | some (.pointer _)=>some true
  | _=>none
 | .vptr _,.nilp=>match P.underlying t with
  | some (.pointer _)=>some false
  | _=>none
 | .optr ..,.nilp=>match P.underlying t with
  | some (.pointer _)=>some false
  | _=>none
 | _,_=>none
def qgz (P:Program) (op:BinOp) (t:TypeId) (cst:Bool) (x y:D):Option D :=
 match op,x,y with
 | .shl,.int k a,.int _ b=>qdz .shl k a b
 | .shr,.int k a,.int _ b=>qdz .shr k a b
 | op,.int k a,.int k' b=>if k = k' then qfN op k a b else none
 | op,.str a,.str b=>strD op a b
 | .eql,x,y=>(eqD P t cst x y).map .bool
 | .neq,x,y=>(eqD P t cst x y).map fun b=>.bool !b
 | _,_,_=>none
def QZ (op:UnOp) (x:D):Option D :=
 match op,x with
 | .neg,.int k n=>some (.int k (k.wrap (0 - n)))
 | .xor,.int k n=>some (.int k (k.wrap (BitVec.ofInt k.bits (if k.signed then -1 else k.max) ^^^ BitVec.ofInt k.bits n).toNat))
 | .not,.bool b=>some (.bool !b)
 | _,_=>none
def vA (H:qi) (ds:List D):qi:=H ++ [some ds]
def kE:List D→Option (List UInt8)
 | []=>some []
 | .int .u8 n :: l=>(kE l).map fun r=>UInt8.ofNat n.toNat :: r
 | _=>none
def qd (s:List UInt8):List D:=s.map fun b=>.int .u8 (b.toNat:Int)
def qI:Nat:=140737488355328
def qb4 (P:Program) (H:qi) (src dst:TypeId) (x:D):Option (D × qi) :=
 match P.underlying src,P.underlying dst,x with
 | some _,some (.int k),.int _ n=>some (.int k (k.wrap n),H)
 | some .string,some .string,.str s=>some (.str s,H)
 | some (.int _),some .string,.int _ n=>some (.str (Utf8.encode n).data.toList,H)
 | some _,some (.slice e),.str s=>match P.underlying e with
  | some (.int .u8)=>some (.osl H.length s.length 0 s.length 1,vA H (qd s))
  | _=>none
 | some (.slice e),some .string,x=>match P.underlying e,Xo H 1 x with
  | some (.int .u8),some (cs,_)=>(kE cs).map fun s=>(.str s,H)
  | _,_=>none
 | some (.slice _),some (.slice e),.osl i st off len k=>match P.underlying e,qq H i with
  | some (.int .u8),some ds=>if src = dst∧ds.length = st then some (.osl i st off len k,H) else none
  | _,_=>none
 | _,_,_=>none
def Xc (place:Nat→Option (Nat × Nat)):List D→List (Nat × D)→Option (List D)
 | cells,[]=>some cells
 | cells,(i,d) :: rest=>match place i,cellsOf d with
  | some (off,size),some xs=>if xs.length = size∧off+xs.length≤cells.length then Xc place (qH cells off xs) rest else none
  | _,_=>none
def Xw (X:Cx) (e:qr):List (Nat × Operand)→Option (List (Nat × D))
 | []=>some []
 | (i,x) :: l=>match qQ X e x,Xw X e l with
  | some d,some ds=>some ((i,d) :: ds)
  | _,_=>none
def vz (X:Cx) (e:qr):List Operand→Option (List D)
 | []=>some []
 | x :: l=>match qQ X e x,vz X e l with
  | some d,some ds=>some (d :: ds)
  | _,_=>none
def qc7 (P:Program) (fs:Array Field) (i:Nat):Option (Nat × Nat):=(fs[i]?).map fun f=>(f.offset,qw P f.type)
def qgw (P:Program) (t:TypeId) (parts:List (Nat × D)):Option D :=
 match VZ P t,P.underlying t with
 | some (.agg z),some (.struct fs)=>if fs.all (fun f=>decide (0 < qw P f.type)) then (Xc (qc7 P fs) z parts).map .agg else none
 | some (.agg z),some (.array _ e)=>if 0 < qw P e then (Xc (fun i=>some (i * qw P e,qw P e)) z parts).map .agg else none
 | _,_=>none
def qbL (P:Program) (e:TypeId) (n:Nat):Option (List D) :=
 match (VZ P e).bind cellsOf with
 | some z=>if z.length = qw P e∧0 < qw P e then some ((List.replicate n z).flatten) else none
 | none=>none
def qau (P:Program) (H:qi) (t:TypeId) (len:Nat) (parts:List (Nat × D)):Option (D × qi) :=
 match P.underlying t with
 | some (.slice e)=>match qbL P e len with
  | some z=>if len * qw P e≤16777216 then (Xc (fun i=>some (i * qw P e,qw P e)) z parts).bind fun cs =>
    if (H.isEmpty = false∨cs.all idFree)∧cs.length = len * qw P e then some (.osl H.length cs.length 0 len (qw P e),vA H cs) else none
   else none
  | none=>none
 | _=>none
def qdW (P:Program) (H:qi) (t:TypeId) (l c:D):Option (D × qi) :=
 match P.underlying t,l,c with
 | some (.slice e),.int .i64 l,.int .i64 c=>if 0≤l∧l≤c∧bytesOf P e * c≤qI∧c≤qI then
   (qbL P e l.toNat).bind fun z=>if z.length = l.toNat * qw P e∧z.all idFree then some (.osl H.length z.length 0 l.toNat (qw P e),vA H z) else none
  else none
 | _,_,_=>none
def qdv (P:Program) (H:qi) (k:Nat) (xt:TypeId) (x:D):Option (List D × Nat) :=
 match P.underlying xt,x with
 | some .string,.str b=>if k = 1 then some (qd b,b.length) else none
 | some (.slice _),x=>Xo H k x
 | _,_=>none
def qg0 (P:Program) (H:qi) (st xt:TypeId) (s x:D):Option (D × qi) :=
 match P.underlying st with
 | some (.slice e)=>match qdv P H (qw P e) xt x,qbL P e 0,s with
  | some (xs,m),some _,.vsl true [] 0 =>
   if m = 0 then some (.vsl true [] 0,H)
   else if m * bytesOf P e≤qI∧m≤qI∧xs.all idFree then some (.osl H.length xs.length 0 m (qw P e),vA H xs) else none
  | some (xs,m),some _,.osl i sm 0 len k=>match qq H i with
   | some ds=>if ds.length = sm∧k = qw P e∧len * k = sm∧(len+m) * bytesOf P e≤qI∧len+m≤qI∧xs.all idFree
     then some (.osl i (sm+xs.length) 0 (len+m) k,hset H i (ds ++ xs)) else none
   | none=>none
  | _,_,_=>none
 | _=>none
def qgm (P:Program) (H:qi) (dt xt:TypeId) (d x:D):Option (D × qi) :=
 match P.underlying dt with
 | some (.slice e)=>match qdv P H (qw P e) xt x,d with
  | some (xs,m),.osl i sm off len k=>match qq H i with
   | some ds=>if ds.length = sm∧k = qw P e∧0 < k∧off+len * k≤sm∧xs.all idFree
     then some (.int .i64 (min m len:Nat),hset H i (qH ds off (xs.take (min m len * k)))) else none
   | none=>none
  | _,_=>none
 | _=>none
def qea (P:Program) (t:TypeId) (x:D):Option D :=
 match P.underlying t,x with
 | some .string,.str s=>some (.int .i64 s.length)
 | some (.array n _),_=>some (.int .i64 n)
 | some (.slice _),.vsl _ _ len=>some (.int .i64 len)
 | some (.slice _),.osl _ _ _ len _=>some (.int .i64 len)
 | _,_=>none
def qdV (mx:Bool):List D→Option D
 | [.int k a,.int k' b]=>if k = k' then some (.int k (if mx then (if a < b then b else a) else (if b < a then b else a))) else none
 | _=>none
def freeze (H:qi):D→Option D
 | .osl i st off len k=>match qq H i with
  | some ds=>if ds.length = st∧off+len * k≤st∧ds.all idFree then some (.vsl false ((ds.drop off).take (len * k)) len) else none
  | none=>none
 | .optr i st off=>match qq H i with
  | some ds=>if ds.length = st∧ds.all idFree then some (.vptr (ds.drop off)) else none
  | none=>none
 | .fn f caps=>(freezeL H caps).map (.fn f)
 | .agg cs=>(freezeL H cs).map .agg
 | d=>if idFree d then some d else none
where freezeL (H:qi):List D→Option (List D)
 | []=>some []
 | d :: l=>match freeze H d,freezeL H l with
  | some d,some l=>some (d :: l)
  | _,_=>none
def qao (H:qi) (args:List D):Option (List D):=freeze.freezeL H args
def shift (n:Nat):D→D
 | .agg cs=>.agg (shiftL n cs)
 | .tup cs=>.tup (shiftL n cs)
 | .fn f cs=>.fn f (shiftL n cs)
 | .iface t d=>.iface t (shift n d)
 | .optr i st off=>.optr (n+i) st off
 | .osl i st off len k=>.osl (n+i) st off len k
 | d=>d
where shiftL (n:Nat):List D→List D
 | []=>[]
 | d :: l=>shift n d :: shiftL n l
def pack1 (n0:Nat) (H:qi) (seen:List Nat) (acc:qi):D→Option (D × List Nat × qi)
 | .osl i st off len k =>
  if i < n0 then some (.osl i st off len k,seen,acc)
  else match qq H i with
   | some ds=>if ds.all idFree∧i ∉ seen then some (.osl (n0+acc.length) st off len k,seen ++ [i],acc ++ [some ds]) else none
   | none=>none
 | .optr i st off =>
  if i < n0 then some (.optr i st off,seen,acc)
  else match qq H i with
   | some ds=>if ds.all idFree∧i ∉ seen then some (.optr (n0+acc.length) st off,seen ++ [i],acc ++ [some ds]) else none
   | none=>none
 | .agg cs=>(packs n0 H seen acc cs).map fun (cs,s,a)=>(.agg cs,s,a)
 | .tup cs=>(packs n0 H seen acc cs).map fun (cs,s,a)=>(.tup cs,s,a)
 | d=>if idFree d then some (d,seen,acc) else none
where packs (n0:Nat) (H:qi) (seen:List Nat) (acc:qi):List D→Option (List D × List Nat × qi)
 | []=>some ([],seen,acc)
 | d :: l=>match pack1 n0 H seen acc d with
  | some (d,seen,acc)=>match packs n0 H seen acc l with
   | some (l,seen,acc)=>some (d :: l,seen,acc)
   | none=>none
  | none=>none
def kR (n:Nat):Option (List D)→Bool
 | some ds=>ds.all (closed n)
 | none=>true
def YG (n0:Nat) (H:qi) (r:D):Option (D × qi) :=
 match pack1 n0 H [] [] r with
 | some (r,_,acc)=>if (H.take n0).all (kR n0) then some (r,H.take n0 ++ acc) else none
 | none=>none
def kf:List Nat→qr→qr
 | [],_=>[]
 | k :: ks,e=>match qf e k with
  | some d=>(k,d) :: kf ks e
  | none=>kf ks e
def qaq (n:Nat):qr→Bool
 | []=>true
 | (_,d) :: e=>closed n d && qaq n e
def v7 (g:D→Option (D × List Nat)):List D→Option (List D × List Nat)
 | []=>some ([],[])
 | d :: l=>match g d,v7 g l with
  | some (d,a),some (l,b)=>some (d :: l,a ++ b)
  | _,_=>none
def jA (H:qi):Nat→D→Option (D × List Nat)
 | 0,_=>none
 | n+1,d=>if idFree d then some (d,[]) else match d with
  | .osl i st off len k=>match qq H i with
   | some ds=>if ds.length = st∧off+len * k≤st then
     if idFree.idFreeL ds then some (.vsl false ((ds.drop off).take (len * k)) len,[i])
     else match v7 (jA H n) ds with
      | some (ds',l)=>some (.vsl false ((ds'.drop off).take (len * k)) len,i :: l)
      | none=>none
    else none
   | none=>none
  | .optr i st off=>match qq H i with
   | some ds=>if ds.length = st then
     if idFree.idFreeL ds then some (.vptr (ds.drop off),[i])
     else match v7 (jA H n) ds with
      | some (ds',l)=>some (.vptr (ds'.drop off),i :: l)
      | none=>none
    else none
   | none=>none
  | .agg cs=>(v7 (jA H n) cs).map fun (cs,l)=>(.agg cs,l)
  | .tup cs=>(v7 (jA H n) cs).map fun (cs,l)=>(.tup cs,l)
  | .fn f cs=>(v7 (jA H n) cs).map fun (cs,l)=>(.fn f cs,l)
  | .iface t d=>(jA H n d).map fun (d,l)=>(.iface t d,l)
  | d=>some (d,[])
def Vv:qi→List Nat→qi
 | H,[]=>H
 | H,i :: l=>Vv (H.set i none) l
def qbR (H:qi) (e:qr):List Nat→Option (qr × List Nat)
 | []=>some ([],[])
 | s :: ss=>match qf e s with
  | none=>qbR H e ss
  | some d=>match jA H 9 d,qbR H e ss with
   | some (d,a),some (e',b)=>some ((s,d) :: e',a ++ b)
   | _,_=>none
def qcU (ss:List Nat) (e:qr) (H:qi):Option (qr × qi) :=
 match qbR H e ss with
 | some (e',l)=>some (e' ++ e,Vv H l)
 | none=>none
def qiA (X:Cx) (f n0 id:Nat) (e:qr) (H:qi):Option (qr × qi) :=
 match X.keep f id with
 | none=>some (e,H)
 | some (ks,0)=>some (kf ks e,H)
 | some (ks,k+1) =>
  if H.length≤n0+k then some (kf ks e,H)
  else if qaq (n0+k) (kf ks e) && (H.take (n0+k)).all (kR (n0+k)) then some (kf ks e,H.take (n0+k)) else none
def XT (e:qr):List Nat→Option (List D)
 | []=>some []
 | s :: ss=>match qf e s,XT e ss with
  | some d,some ds=>some (d :: ds)
  | _,_=>none
def VY:List Nat→List D→qr
 | s :: ss,d :: ds=>(s,d) :: VY ss ds
 | _,_=>[]
def qfp (n0:Nat) (S ks:List Nat) (e:qr) (H:qi):Option (qr × qi) :=
 match XT e S with
 | none=>none
 | some ds=>match YG n0 H (.tup ds) with
  | some (.tup ds',H')=>if qaq n0 (kf ks e) then some (VY S ds' ++ kf ks e,H') else none
  | _=>none
def Jh:List Nat→Nat→Nat→Option Nat
 | [],_,_=>none
 | a :: l,i,k=>if a = i then some k else Jh l i (k+1)
def renD (p:List Nat):D→Option D
 | .optr i st off=>(Jh p i 0).map fun j=>.optr j st off
 | .osl i st off len k=>(Jh p i 0).map fun j=>.osl j st off len k
 | .agg cs=>(renL p cs).map .agg
 | .tup cs=>(renL p cs).map .tup
 | .fn f cs=>(renL p cs).map (.fn f)
 | .iface t d=>(renD p d).map (.iface t)
 | d=>some d
where renL (p:List Nat):List D→Option (List D)
 | []=>some []
 | d :: l=>match renD p d,renL p l with
  | some d,some l=>some (d :: l)
  | _,_=>none
def qbX (p:List Nat) (d:D):Option D:=if idFree d then some d else renD p d
def Xs (p:List Nat) (ds:List D):Option (List D):=if idFree.idFreeL ds then some ds else renD.renL p ds
def YE (p:List Nat):qr→Option qr
 | []=>some []
 | (s,d) :: e=>match qbX p d,YE p e with
  | some d,some e=>some ((s,d) :: e)
  | _,_=>none
def YD (p:List Nat) (H:qi):List Nat→Option qi
 | []=>some []
 | i :: l=>match qq H i with
  | none=>none
  | some ds=>match Xs p ds,YD p H l with
   | some ds,some L=>some (some ds :: L)
   | _,_=>none
def X6:List D→List Nat
 | []=>[]
 | .optr i _ _ :: l=>i :: X6 l
 | .osl i _ _ _ _ :: l=>i :: X6 l
 | _ :: l=>X6 l
def qdU (H:qi):List Nat→List Nat
 | []=>[]
 | i :: l=>(match qq H i with
  | some ds=>if idFree.idFreeL ds then [] else X6 ds
  | none=>[]) ++ qdU H l
def Xm:List Nat→List Nat→List Nat
 | p,[]=>p
 | p,i :: l=>if i∈p then Xm p l else Xm (p ++ [i]) l
def JU:Nat→List Nat
 | 0=>[]
 | n+1=>JU n ++ [n]
def Xr (n0:Nat) (p:List Nat) (e:qr) (H:qi):Option (qr × qi) :=
 match YE p e,YD p H p with
 | some e',some H'=>if p.Nodup∧p.take n0 = JU n0 then some (e',H') else none
 | _,_=>none
def qhl (n0:Nat) (S ks:List Nat) (e:qr) (H:qi):Option (qr × qi) :=
 match XT e S with
 | some ds=>Xr n0 (Xm (Xm (JU n0) (X6 ds)) (qdU H (Xm (JU n0) (X6 ds)))) (VY S ds ++ kf ks e) H
 | none=>none
def qcj:D→List Nat
 | .tup cs=>X6 cs
 | d=>X6 [d]
def qdg:Option (List D)→Bool
 | some ds=>ds.all idFree
 | none=>true
def qca (n0:Nat) (H:qi) (r:D):Option (D × qi) :=
 match Xr n0 (Xm (Xm (JU n0) (qcj r)) (qdU H (Xm (JU n0) (qcj r)))) [(0,r)] H with
 | some ([(_,r')],H')=>if (H'.drop n0).all qdg then some (r',H') else none
 | _=>none
def orP {α:Type}:Option α→Option α→Option α
 | some q,_=>some q
 | none,x=>x
@[simp] theorem qsL {α:Type} (q:α) (x:Option α):orP (some q) x = some q:=rfl
@[simp] theorem qsM {α:Type} (x:Option α):orP none x = x:=rfl
theorem qh8 {α β:Type} {c:Prop} [Decidable c] {r:α} {A B:β} {Z:Option (α × β)} (h:c∧A = B):orP (if c then some (r,A) else none) Z = some (r,B):=by
 obtain ⟨hc,rfl⟩:=h;rw [if_pos hc];rfl
theorem qaO {α β:Type} {c:Prop} [Decidable c] {A:α} {B:β} {Z:Option (α × β)} {P:α→β→Prop} (h:∃ x y,(c∧A = x∧B = y)∧P x y):∃ a b,orP (if c then some (A,B) else none) Z = some (a,b)∧P a b:=by
 obtain ⟨x,y,⟨hc,rfl,rfl⟩,hp⟩:=h;exact ⟨A,B,by rw [if_pos hc];rfl,hp⟩
def qdK (n0:Nat) (H:qi) (r:D):Option (D × qi):=orP (YG n0 H r) (qca n0 H r)
def qcC (n0:Nat) (S ks:List Nat) (e:qr) (H:qi):Option (qr × qi) :=
 match qfp n0 S ks e H with
 | some r=>some r
 | none=>qhl n0 S ks e H
def qxg (X:Cx) (f id:Nat):List Nat:=match X.keep f id with
 | some (ks,_)=>ks
 | none=>[]
def qgi (X:Cx) (f n0 id:Nat) (e:qr) (H:qi):Option (qr × qi) :=
 match X.ret f id with
 | []=>qiA X f n0 id e H
 | S=>qcC n0 S (qxg X f id) e H
def qgh (X:Cx) (f n0 id:Nat) (e:qr) (H:qi):Option (qr × qi) :=
 match X.frz f id with
 | []=>qgi X f n0 id e H
 | ss=>match qcU ss e H with
  | some (e,H)=>qgi X f n0 id e H
  | none=>none
def qc9 (H:qi) (i:Nat):Option qi :=
 match qq H i with
 | some ds=>if ds.all idFree then some H else match v7 (jA H 9) ds with
  | some (ds',l)=>if i∈l then none else some (hset (Vv H l) i ds')
  | none=>none
 | none=>none
def qa8 (e:qr):List Nat→qi→Option qi
 | [],H=>some H
 | s :: ss,H=>match qf e s with
  | some (.osl i _ _ _ _) | some (.optr i _ _)=>match qc9 H i with
   | some H'=>qa8 e ss H'
   | none=>none
  | _=>qa8 e ss H
def enter (X:Cx) (f n0 id:Nat) (e:qr) (H:qi):Option (qr × qi) :=
 match X.frb f id with
 | []=>qgh X f n0 id e H
 | ss=>match qa8 e ss H with
  | some H'=>qgh X f n0 id e H'
  | none=>none
def J9 (z:Bool) (n0:Nat) (H:qi) (r:D):Option (D × qi) :=
 match z with
 | false=>qdK n0 H r
 | true=>match jA H 9 r with
  | some (r,l)=>qdK n0 (Vv H l) r
  | none=>none
abbrev zn:=Nat→List D→qi→Option (D × qi)
def qiU:Option (List D)→Bool
 | some ds=>ds.all vFree
 | none=>true
def noZ:D→Bool
 | .agg cs | .tup cs | .fn _ cs=>noZL cs
 | .iface _ d=>noZ d
 | .optr i _ _ | .osl i _ _ _ _=>decide (1≤i)
 | _=>true
where noZL:List D→Bool
 | []=>true
 | d :: l=>noZ d && noZL l
def VT (F:zn) (f:Nat) (args:List D) (H:qi):Option (D × qi) :=
 match args with
 | .optr i st off :: rest=>match qq H i with
  | some ds=>if rest.all idFree && ds.all idFree then match F f (.optr 0 st off :: rest) [some ds] with
    | some (r,some ds' :: L)=>if noZ r && ds'.all idFree then some (shift (H.length - 1) r,hset H i ds' ++ L) else none
    | _=>none
   else none
  | none=>none
 | _=>none
def V7 (p:List Nat) (n j:Nat):Nat:=match p[j]? with
 | some i=>i
 | none=>n+(j - p.length)
def mv (p:List Nat) (n:Nat):D→D
 | .optr i st off=>.optr (V7 p n i) st off
 | .osl i st off len k=>.osl (V7 p n i) st off len k
 | .agg cs=>.agg (mvL p n cs)
 | .tup cs=>.tup (mvL p n cs)
 | .fn f cs=>.fn f (mvL p n cs)
 | .iface t d=>.iface t (mv p n d)
 | d=>d
where mvL (p:List Nat) (n:Nat):List D→List D
 | []=>[]
 | d :: l=>mv p n d :: mvL p n l
def Jc:qi→List Nat→qi→qi
 | H,i :: p,b :: T=>Jc (H.set i b) p T
 | H,_,_=>H
def qcD (p:List Nat):List D→Option (List D)
 | []=>some []
 | d :: l=>match qbX p d,qcD p l with
  | some d,some l=>some (d :: l)
  | _,_=>none
def qde (F:zn) (f:Nat) (args:List D) (H:qi) (p:List Nat):Option (D × qi) :=
 match qcD p args,YD p H p with
 | some args',some H0=>if decide p.Nodup && (H0.drop 1).all qdg then match F f args' H0 with
   | some (r,some A :: T)=>if T.all qdg then some (mv p H.length r,Jc H p (some (mv.mvL p H.length A) :: T) ++ T.drop (p.length - 1)) else none
   | _=>none
  else none
 | _,_=>none
def Yx (F:zn) (f:Nat) (args:List D) (H:qi):Option (D × qi) :=
 match Xm (Xm [] (X6 args)) (qdU H (Xm [] (X6 args))) with
 | []=>none
 | i :: p=>qde F f args H (i :: p)
def Yy (X:Cx) (F:zn) (f:Nat) (args:List D) (H:qi):Option (D × qi) :=
 if X.lom f then Yx F f args H else VT F f args H
def KC (X:Cx) (F:zn) (f:Nat) (args:List D) (H:qi):Option (D × qi) :=
 if X.byRef f then (if X.loc f then Yy X F f args H else F f args H)
 else if args.all idFree then match F f args [] with
  | none=>none
  | some (r,L)=>some (shift H.length r,H ++ L)
 else match qao H args with
  | none=>none
  | some args'=>match F f args' [] with
   | none=>none
   | some (r,L)=>if vFree r && L.all qiU then some (shift H.length r,H ++ L) else none
def Yt (H:qi):D→Bool
 | .osl i _ _ _ _=>match qq H i with
  | some ds=>ds.all idFree
  | none=>false
 | d=>idFree d
def QX (X:Cx) (F:zn) (f:Nat) (args:List D) (H:qi):Option (D × qi) :=
 if X.pureF f && !X.byRef f then
  if args.all idFree then match F f args [] with
   | some (r,[])=>if idFree r then some (r,H) else none
   | _=>none
  else if X.perm f && args.all (Yt H) then match qao H args with
   | some args'=>match F f args' [] with
    | some (r,[])=>if idFree r && vFree r then some (r,H) else none
    | _=>none
   | none=>none
  else none
 else KC X F f args H
def qgO (H:qi):List D→Option qi
 | .optr i _ _ :: _=>qc9 H i
 | _=>none
def KD (X:Cx) (F:zn) (f:Nat) (args:List D) (H:qi):Option (D × qi) :=
 match X.perm f && X.byRef f with
 | false=>QX X F f args H
 | true=>match qgO H args with
  | some H'=>QX X F f args H'
  | none=>none
def JO (X:Cx) (F:zn) (f:Nat) (args:List D) (H:qi):Option (D × qi) :=
 match X.perm f && !X.pureF f && !X.byRef f with
 | false=>KD X F f args H
 | true=>match v7 (jA H 9) args with
  | some (args',l)=>QX X F f args' (Vv H l)
  | none=>none
def qb7 (X:Cx) (b:Builtin) (ts:List TypeId) (args:List D) (H:qi):Option (D × qi) :=
 match b,ts,args with
 | .len,t :: _,x :: _=>(qea X.P t x).map (·,H)
 | .append,t :: u :: _,s :: x :: _=>qg0 X.P H t u s x
 | .copy,t :: u :: _,d :: x :: _=>qgm X.P H t u d x
 | .min,_,args=>(qdV false args).map (·,H)
 | .max,_,args=>(qdV true args).map (·,H)
 | _,_,_=>none
def zk (X:Cx) (F:zn) (o:Op) (e:qr) (H:qi):Option (D × qi) :=
 match o with
 | .move x | .assign x=>(qQ X e x).map (·,H)
 | .pick c a b=>match qQ X e c with
  | some (.bool t)=>(qQ X e (if t then a else b)).map (·,H)
  | _=>none
 | .alloc t=>match (VZ X.P t).bind cellsOf with
  | some cs=>some (.optr H.length cs.length 0,vA H cs)
  | none=>none
 | .box _ x=>match (qQ X e x).bind cellsOf with
  | some cs=>if cs.all (closed H.length) then some (.optr H.length cs.length 0,vA H cs) else none
  | none=>none
 | .build t parts=>match Xw X e parts.toList with
  | some ps=>(qgw X.P t ps).map (·,H)
  | none=>none
 | .buildSlice t len parts=>match Xw X e parts.toList with
  | some ps=>qau X.P H t len ps
  | none=>none
 | .load t p=>match qQ X e p with
  | some p=>(ldD X.P H t p).map (·,H)
  | none=>none
 | .store t p x=>match qQ X e p,qQ X e x with
  | some p,some x=>(stD X.P H t p x).map (.tup [],·)
  | _,_=>none
 | .nilCheck x=>match qQ X e x with
  | some (.vptr cs)=>some (.vptr cs,H)
  | some (.optr i st off)=>some (.optr i st off,H)
  | some (.fn f caps)=>some (.fn f caps,H)
  | some (.iface t d)=>some (.iface t d,H)
  | _=>none
 | .binOp op t x y _=>match qQ X e x,qQ X e y with
  | some a,some b=>(qgz X.P op t (V9 x || V9 y) a b).map (·,H)
  | _,_=>none
 | .unOp op _ x=>match qQ X e x with
  | some a=>(QZ op a).map (·,H)
  | none=>none
 | .convert s d x=>match qQ X e x with
  | some a=>qb4 X.P H s d a
  | none=>none
 | .makeInterface t x=>match qQ X e x,X.P.underlying t with
  | some _,some (.interface _)=>none
  | some a,some _=>some (.iface t a,H)
  | _,_=>none
 | .makeFunc (.func f) first caps=>if first.isEmpty then (vz X e caps.toList).map fun cs=>(.fn f cs,H) else none
 | .makeSlice t l c=>match qQ X e l,qQ X e c with
  | some l,some c=>qdW X.P H t l c
  | _,_=>none
 | .slice t x lo hi none=>match qQ X e x,lo.map (qQ X e),hi.map (qQ X e) with
  | some a,none,none=>(qbS X.P t a none none).map (·,H)
  | some a,some (some l),none=>(qbS X.P t a (some l) none).map (·,H)
  | some a,none,some (some h)=>(qbS X.P t a none (some h)).map (·,H)
  | some a,some (some l),some (some h)=>(qbS X.P t a (some l) (some h)).map (·,H)
  | _,_,_=>none
 | .fieldAddr s x f=>match qQ X e x with
  | some p=>(qgd X.P s p f).map (·,H)
  | none=>none
 | .field s x f=>match qQ X e x with
  | some a=>(qgc X.P s a f).map (·,H)
  | none=>none
 | .indexAddr t x i=>match qQ X e x,qQ X e i with
  | some a,some i=>(qfQ X.P t a i).map (·,H)
  | _,_=>none
 | .index t x i=>match qQ X e x,qQ X e i with
  | some a,some i=>(qfP X.P t a i).map (·,H)
  | _,_=>none
 | .extract x i=>match qQ X e x with
  | some (.tup cs)=>(cs[i]?).map (·,H)
  | _=>none
 | .call c=>match c.callee,vz X e c.args.toList with
  | .builtin b,some args=>qb7 X b c.argTypes.toList args H
  | .value g,some args=>match qQ X e g with
   | some (.fn f caps)=>JO X F f (args ++ caps) H
   | _=>none
  | _,_=>none
 | _=>none
def jy (ops:Array Oper) (e:qr):Option (Nat × Bool)→Option Bool
 | none=>some true
 | some (j,want)=>match (ops[j]?).bind (·.dst) with
  | none=>some false
  | some t=>match qf e t with
   | some (.bool b)=>some (b == want)
   | some (.tup [])=>some false
   | _=>none
def vv (nt:Nat):Option Tmp→Bool
 | none=>true
 | some t=>decide (t < nt)
def VS (X:Cx) (c:Call) (e:qr):Bool :=
 match X.dynV,c.callee with
 | true,.value (.tmp t)=>match qf e t with
  | some (.fn f _)=>!(X.pureF f && !X.byRef f && !X.perm f)
  | _=>true
 | _,_=>false
def qL (X:Cx) (F:zn) (drw:Bool) (o:Op) (e:qr) (H:qi):Option (D × qi) :=
 match drw,o with
 | true,.buildSlice t len parts=>match Xw X e parts.toList with
  | some ps=>match qau X.P [] t len ps with
   | some (.osl _ _ _ _ _,[some ds])=>some (.vsl false ds len,H)
   | _=>none
  | none=>none
 | true,.convert s d x=>match qQ X e x,X.P.underlying d with
  | some (.str b),some (.slice t)=>match X.P.underlying s,X.P.underlying t with
   | some _,some (.int .u8)=>some (.vsl false (qd b) b.length,H)
   | _,_=>none
  | some a,_=>qb4 X.P H s d a
  | _,_=>none
 | true,.call c=>if VS X c e then none else zk X F (.call c) e H
 | _,o=>zk X F o e H
def j9 (X:Cx) (F:zn) (nt:Nat) (drw:Bool) (ops:Array Oper):List Oper→qr→qi→Option (qr × qi)
 | [],e,H=>some (e,H)
 | o :: l,e,H=>match vv nt o.dst,jy ops e o.guard with
  | true,some true=>match qL X F drw o.op e H with
   | some (d,H')=>j9 X F nt drw ops l (vj e o.dst d) H'
   | none=>none
  | true,some false=>j9 X F nt drw ops l (vj e o.dst (.tup [])) H
  | _,_=>none
def Xn:D→Option Nat
 | .optr i _ _=>some i
 | .osl i _ _ _ _=>some i
 | _=>none
def kJ:List (Option D)→List Nat
 | []=>[]
 | some d :: l=>(Xn d).toList ++ kJ l
 | none :: l=>kJ l
abbrev Qj:=List (Nat × Nat)
def Zl (L:Qj) (k:Nat):Bool:=L.any fun p=>p.1 == k
def Zq (L:Qj) (k:Nat):Bool:=L.any fun p=>p.2 == k
def XL (L:Qj) (k:Nat) (bs:List Nat):List (Nat × qi × qi)→Prop
 | []=>True
 | (i,A,B) :: l=>(L.contains (i,k) = true→∀ b,b∈bs→qq B b = qq A b)∧XL L k bs l
def XK (L:Qj) (k:Nat) (A B:qi):List (Nat × List Nat)→Prop
 | []=>True
 | (j,bs) :: l=>(L.contains (k,j) = true→∀ b,b∈bs→qq B b = qq A b)∧XK L k A B l
def Zk (ow:List Nat):Option Tmp→Bool
 | some t=>!ow.contains t
 | none=>true
open Classical in
noncomputable def kp (X:Cx) (F:zn) (nt:Nat) (ow:List Nat) (ops:Array Oper) (L:Qj):Nat→List (Nat × qi × qi)→List (Nat × List Nat)→List Oper→qr→qi→Option (qr × qi)
 | _,_,_,[],e,H=>some (e,H)
 | k,ws,rs,o :: l,e,H=>match vv nt o.dst,jy ops e o.guard with
  | true,some true=>match qL X F (Zk ow o.dst) o.op e H with
   | some (d,H') =>
    if (Zq L k = true→XL L k (kJ (o.op.operands.toList.map (qQ X e))) ws)∧(Zl L k = true→H.length≤H'.length∧XK L k H H' rs) then
     kp X F nt ow ops L (k+1) (if Zl L k then (k,H,H') :: ws else ws) (if Zq L k then (k,kJ (o.op.operands.toList.map (qQ X e))) :: rs else rs) l (vj e o.dst d) H'
    else none
   | none=>none
  | true,some false=>kp X F nt ow ops L (k+1) ws rs l (vj e o.dst (.tup [])) H
  | _,_=>none
inductive Ex where
 | normal
 | exit (id:Nat)
 | ret
def Qz (X:Cx) (e:qr) (H:qi):List ResultVar→Option (List D)
 | []=>some []
 | .tmp t :: l=>match qf e t,Qz X e H l with
  | some d,some ds=>some (d :: ds)
  | _,_=>none
 | .cell a t :: l=>match (qf e a).bind (ldD X.P H t),Qz X e H l with
  | some d,some ds=>some (d :: ds)
  | _,_=>none
def JA:List D→D
 | [d]=>d
 | l=>.tup l
def Qv:Nat→List D→qr
 | _,[]=>[]
 | i,d :: l=>(i,d) :: Qv (i+1) l
inductive OpKind where
 | v | r | e | m
 deriving DecidableEq
def Je (X:Cx):Op→OpKind
 | .load .. | .convert ..=>.r
 | .alloc .. | .box .. | .makeSlice ..=>.e
 | .store ..=>.m
 | .call c=>match c.callee with
  | .builtin .len | .builtin .min | .builtin .max=>.v
  | .value (.func f)=>if X.byRef f then .m else if X.pureF f then (if X.perm f then .r else .v) else if X.perm f then .m else .e
  | .value (.tmp _)=>if X.dynV then .v else .m
  | _=>.m
 | _=>.v
def Q1 (X:Cx) (bw:Bool) (o:Op):OpKind :=
 match bw,o with
 | false,.buildSlice .. | false,.convert ..=>.e
 | false,.call c=>match c.callee with
  | .value (.tmp _)=>.m
  | _=>Je X (.call c)
 | _,o=>Je X o
def qmf:Op→Bool
 | .call c=>match c.callee with
  | .builtin .append=>true
  | _=>false
 | _=>false
def qaM:List Oper→Bool
 | []=>false
 | o :: l=>qmf o.op || qaM l
def qdB (X:Cx) (f id:Nat) (draw:Bool) (ops:Array Oper):Bool:=match draw with
 | true=>!qaM ops.toList
 | false=>X.cv f id
def zK (X:Cx) (bw:Bool) (o:Op):Bool:=match Q1 X bw o with
 | .e | .m=>true
 | _=>false
def qgF:Operand→List Tmp
 | .tmp t=>[t]
 | _=>[]
def Z7 (ops:Array Oper) (o:Oper):List Tmp :=
 o.dst.toList ++ o.op.operands.toList.flatMap qgF ++ (match o.guard with
  | some (k,_)=>((ops[k]?).bind (·.dst)).toList
  | none=>[])
def JN (X:Cx) (bw:Option Tmp→Bool) (L:Qj) (al:Option Nat) (ops:Array Oper) (i:Nat) (x:Oper) (j:Nat) (y:Oper):Bool :=
 x.dst.any (fun t=>(Z7 ops y).contains t) || y.dst.any (fun t=>(Z7 ops x).contains t) || (zK X (bw x.dst) x.op && zK X (bw y.dst) y.op && !(al == some (max i j))) ||
  (Q1 X (bw x.dst) x.op == .m && Q1 X (bw y.dst) y.op == .r && !L.contains (i,j)) || (Q1 X (bw x.dst) x.op == .r && Q1 X (bw y.dst) y.op == .m && !L.contains (j,i))
def qoF (X:Cx) (bw:Option Tmp→Bool) (al:Option Nat) (ops:Array Oper):Bool :=
 match al with
 | none=>true
 | some j=>match ops[j]? with
  | none=>false
  | some o=>match o.op,o.dst,o.guard with
   | .alloc _,some t,none =>
    let b:=Region.before ops
    ops.toList.zipIdx.all fun (y,k)=>k == j || !(Z7 ops y).contains t || (decide (j < k) && ops.toList.zipIdx.all fun (x,i)=>!decide (i < j) || !zK X (bw x.dst) x.op || (b.getD k 0).testBit i)
   | _,_,_=>false
def qgl (X:Cx) (bw:Option Tmp→Bool) (L:Qj) (al:Option Nat) (ops:Array Oper):Bool :=
 let b:=Region.before ops
 qoF X bw al ops && ops.toList.zipIdx.all fun (y,j) =>
  y.after.all (fun e=>!Region.binds .any e || decide (e.on < j)) &&
  ops.toList.zipIdx.all fun (x,i)=>!decide (i < j) || (b.getD j 0).testBit i || !JN X bw L al ops i x j y
def QL (X:Cx) (f:Nat):Code→Bool
 | .region id ops draw=>!draw || match X.lp f id with
  | none=>qgl X (fun _=>!qaM ops.toList) [] (X.al f id) ops
  | some (L,ow)=>qgl X (Zk ow) L (X.al f id) ops
 | .seq a b=>QL X f a && QL X f b
 | .cond _ a b=>QL X f a && QL X f b
 | .block _ c | .loop c | .scope c=>QL X f c
 | _=>true
noncomputable def Jr (X:Cx) (F:zn) (f nt id:Nat) (draw:Bool) (ops:Array Oper) (e:qr) (H:qi):Option (qr × qi) :=
 match draw,X.lp f id with
 | true,some (L,ow)=>kp X F nt ow ops L 0 [] [] ops.toList e H
 | _,_=>j9 X F nt (qdB X f id draw ops) ops ops.toList e H
mutual
noncomputable def qP (X:Cx):Nat→Nat→Nat→Nat→Code→qr→qi→Option (Ex × qr × qi)
 | 0,_,_,_,_,_,_=>none
 | n+1,f,nt,n0,c,e,H=>match c with
  | .skip=>some (.normal,e,H)
  | .label _=>some (.normal,e,H)
  | .region id ops draw=>match enter X f n0 id e H with
   | none=>none
   | some (e,H)=>(Jr X (jY X n) f nt id draw ops e H).map fun (e,H)=>(.normal,e,H)
  | .seq a b=>match qP X n f nt n0 a e H with
   | some (.normal,e,H)=>qP X n f nt n0 b e H
   | r=>r
  | .cond c a b=>match qQ X e c with
   | some (.bool t)=>qP X n f nt n0 (if t then a else b) e H
   | _=>none
  | .block id c=>match qP X n f nt n0 c e H with
   | some (.exit i,e,H)=>if i = id then some (.normal,e,H) else some (.exit i,e,H)
   | r=>r
  | .loop c=>match qP X n f nt n0 c e H with
   | some (.normal,e,H)=>qP X n f nt n0 (.loop c) e H
   | r=>r
  | .exit id=>some (.exit id,e,H)
  | .scope c=>qP X n f nt n0 c e H
  | .ret=>some (.ret,e,H)
  | _=>none
noncomputable def jY (X:Cx):Nat→zn
 | 0,_,_,_=>none
 | n+1,f,args,H=>match X.con f args H with
 | some r=>some r
 | none=>match X.P.funcs[f]? with
  | none=>none
  | some fn=>match fn.body with
   | none=>(X.ext f args).map (·,H)
   | some c=>if X.bad f then none else match qP X n f fn.ntmps H.length c (Qv 0 args) H with
    | some (.normal,e,H') | some (.ret,e,H')=>match Qz X e H' fn.results.toList with
     | some ds=>J9 (X.fzr f) H.length H' (JA ds)
     | none=>none
    | _=>none
end
abbrev qF:=Nat→Option (Nat × Nat)
def zg:qF:=fun _=>none
def zR:D→Bool
 | .agg _ | .tup _=>false
 | .raw v=>v.oneCell'
 | _=>true
inductive Rep (ok:Nat→Prop) (w:World):qF→qi→D→Value→Prop
 | bool {ι H} (b:Bool):Rep ok w ι H (.bool b) (.bool b)
 | int {ι H} (k:IntKind) (n:Int):Rep ok w ι H (.int k n) (.int k n)
 | str {ι H} (s:List UInt8):Rep ok w ι H (.str s) (.string ⟨s.toArray⟩)
 | nilp {ι H}:Rep ok w ι H .nilp (.pointer none)
 | nilf {ι H}:Rep ok w ι H .nilf .nilFunc
 | nili {ι H}:Rep ok w ι H .nili .nilIface
 | agg {ι H} {ds:List D} {vs:Array Value} (hl:vs.size = ds.length) (hc:∀ d,d∈ds→zR d = true)
   (h:∀ (j:Nat) d,ds[j]? = some d→Rep ok w ι H d (vs.getD j undef)):Rep ok w ι H (.agg ds) (.agg vs)
 | tup {ι H} {ds:List D} {vs:Array Value} (hl:vs.size = ds.length)
   (h:∀ (j:Nat) d,ds[j]? = some d→Rep ok w ι H d (vs.getD j undef)):Rep ok w ι H (.tup ds) (.tuple vs)
 | vptr {ι H} {ds:List D} (a:Addr) (f:Nat→Value) (ha:∀ d,d∈ds→ok a.block) (hc:∀ d,d∈ds→zR d = true)
   (hr:∀ (j:Nat) d,ds[j]? = some d→w.cell? (a.add j) = some (f j))
   (h:∀ (j:Nat) d,ds[j]? = some d→Rep ok w zg [] d (f j)):Rep ok w ι H (.vptr ds) (.pointer (some a))
 | optr {ι H} {i st off:Nat} (a:Addr) (hi:i < H.length)
   (h:∀ ds,qq H i = some ds→st≤ds.length∧(ds.length = st→∃ b s,ι i = some (b,s)∧a = ⟨b,off,none⟩)):Rep ok w ι H (.optr i st off) (.pointer (some a))
 | vnil {ι H}:Rep ok w ι H (.vsl true [] 0) (.slice none 0 0)
 | vsl {ι H} {ds:List D} {len c:Nat} (a:Addr) (f:Nat→Value) (ha:∀ d,d∈ds→ok a.block) (hc:∀ d,d∈ds→zR d = true)
   (hr:∀ (j:Nat) d,ds[j]? = some d→w.cell? (a.add j) = some (f j))
   (h:∀ (j:Nat) d,ds[j]? = some d→Rep ok w zg [] d (f j)) (qR:len≤c):Rep ok w ι H (.vsl false ds len) (.slice (some a) len c)
 | osl {ι H} {i st off len k c:Nat} (a:Addr) (hi:i < H.length)
   (h:∀ ds,qq H i = some ds→st≤ds.length∧(ds.length = st→∃ b s,ι i = some (b,s)∧a = ⟨b,off,none⟩∧off+c * k≤s)) (qR:len≤c) :
   Rep ok w ι H (.osl i st off len k) (.slice (some a) len c)
 | fn {ι H} {f:Nat} {ds:List D} {vs:Array Value} (hl:vs.size = ds.length)
   (h:∀ (j:Nat) d,ds[j]? = some d→Rep ok w ι H d (vs.getD j undef)):Rep ok w ι H (.fn f ds) (.func (.func f) #[] vs)
 | iface {ι H} {t:Nat} {d:D} {v:Value} (h:Rep ok w ι H d v):Rep ok w ι H (.iface t d) (.iface t v)
 | raw {ι H} (v:Value):Rep ok w ι H (.raw v) v
section
variable {ok ok':Nat→Prop} {w w':World} {ι ι':qF} {H H':qi}
theorem Rep.oneCell {d:D} {v:Value} (h:Rep ok w ι H d v) (hc:zR d = true):v.oneCell' = true:=by
 cases h <;> first | rfl | exact hc | simp [zR] at hc
theorem qck (l:List D):idFree.idFreeL l = true↔∀ d,d∈l→idFree d = true:=by
 induction l with
 | nil=>simp [idFree.idFreeL]
 | cons d l ih=>simp [idFree.idFreeL,ih]
theorem qgC (l:List D):vFree.vFreeL l = true↔∀ d,d∈l→vFree d = true:=by
 induction l with
 | nil=>simp [vFree.vFreeL]
 | cons d l ih=>simp [vFree.vFreeL,ih]
theorem qe5 (n:Nat) (l:List D):closed.closedL n l = true↔∀ d,d∈l→closed n d = true:=by
 induction l with
 | nil=>simp [closed.closedL]
 | cons d l ih=>simp [closed.closedL,ih]
theorem mem_of_get? {ds:List D} {j:Nat} {d:D} (h:ds[j]? = some d):d∈ds:=qcy h
theorem Rep.closed {d:D} {v:Value} (h:Rep ok w ι H d v):Ev.closed H.length d = true:=by
 induction h with
 | agg hl hc h ih | tup hl h ih | fn hl h ih =>
  simp only [Ev.closed,qe5];intro d hd;obtain ⟨j,hj⟩:=List.mem_iff_getElem?.1 hd;exact ih j d hj
 | iface h ih=>simpa [Ev.closed] using ih
 | optr a hi h=>simpa [Ev.closed] using hi
 | osl a hi h=>simpa [Ev.closed] using hi
 | _=>rfl
theorem Rep.free {d:D} {v:Value} (h:Rep ok w ι H d v) (hf:idFree d = true) (ι':qF) (H':qi):Rep ok w ι' H' d v:=by
 induction h with
 | bool b=>exact .bool b
 | int k n=>exact .int k n
 | str s=>exact .str s
 | nilp=>exact .nilp
 | nilf=>exact .nilf
 | nili=>exact .nili
 | raw v=>exact .raw v
 | agg hl hc h ih =>
  simp only [idFree,qck] at hf;exact .agg hl hc fun j d hj=>ih j d hj (hf d (mem_of_get? hj))
 | tup hl h ih =>
  simp only [idFree,qck] at hf;exact .tup hl fun j d hj=>ih j d hj (hf d (mem_of_get? hj))
 | fn hl h ih =>
  simp only [idFree,qck] at hf;exact .fn hl fun j d hj=>ih j d hj (hf d (mem_of_get? hj))
 | iface h ih=>exact .iface (ih hf)
 | optr a hi h=>simp [idFree] at hf
 | osl a hi h=>simp [idFree] at hf
 | vptr a f ha hc hr h _=>exact .vptr a f ha hc hr h
 | vnil=>exact .vnil
 | vsl a f ha hc hr h qR _=>exact .vsl a f ha hc hr h qR
structure Evol (n:Nat) (ok:Nat→Prop) (w:World) (ι:qF) (H:qi) (ok':Nat→Prop) (w':World) (ι':qF) (H':qi):Prop where
 os:w'.os = w.os
 tape:w'.tape = w.tape
 output:w'.output = w.output
 size:w.heap.size≤w'.heap.size
 frame:∀ b,b < w.heap.size→(∀ i ds s,qq H i = some ds→ι i≠some (b,s))→w'.heap[b]? = w.heap[b]?
 okU:∀ b,ok b→ok' b
 okN:∀ b,ok' b→b < w.heap.size→ok b∨∃ i ds s,qq H i = some ds∧ι i = some (b,s)
 nle:n≤H.length∧n≤H'.length
 heap:∀ i,i < n→∀ ds',qq H' i = some ds'→∃ ds,qq H i = some ds∧ds.length≤ds'.length∧(ds.length = ds'.length→ι' i = ι i)
 own:∀ i ds' b s,qq H' i = some ds'→ι' i = some (b,s)→b < w.heap.size→∃ j ds s',qq H j = some ds∧ι j = some (b,s')
structure Sim (X:Cx) (ok:Nat→Prop) (w:World) (ι:qF) (H:qi):Prop where
 okS:∀ b,ok b→b < w.heap.size
 glob:∀ g cs,X.glob g = some cs→Rep ok w zg [] (.vptr cs) (.pointer (some ⟨g,0,none⟩))
 inj:∀ i j ds es b s s',qq H i = some ds→qq H j = some es→ι i = some (b,s)→ι j = some (b,s')→i = j
 blk:∀ i ds,qq H i = some ds→∃ b arr e fr,ι i = some (b,arr.size)∧¬ ok b∧w.heap[b]? = some (.cells arr e fr)∧ds.length≤arr.size ∧
  (fr.1 = fr.2∨arr.size≤fr.1)∧(∀ j,j < arr.size→(arr.getD j undef).oneCell' = true)∧(∀ d,d∈ds→zR d = true) ∧
  (∀ (j:Nat) d,ds[j]? = some d→Rep ok w ι H d (arr.getD j undef))
theorem qmS {fr:Nat × Nat} {n:Nat} (h:fr.1 = fr.2∨n≤fr.1):∀ j,j < n→¬ (fr.1≤j∧j < fr.2):=by
 intro j hj;omega
theorem Sim.notOwn {X:Cx} (hs:Sim X ok w ι H) {b:Nat} (hb:ok b):∀ i ds s,qq H i = some ds→ι i≠some (b,s):=by
 intro i ds s hi he;obtain ⟨b',arr,e,fr,zq,hn,_⟩:=hs.blk i ds hi;rw [he] at zq;injection zq with zq;injection zq with zq;subst zq;exact hn hb
theorem qcv (a:Addr) (j:Nat):(a.add j).block = a.block:=by unfold Addr.add;split <;> rfl
theorem Rep.evol {X:Cx} {n:Nat} {d:D} {v:Value} (h:Rep ok w ι H d v) (hs:Sim X ok w ι H) (he:Evol n ok w ι H ok' w' ι' H') (hc:Ev.closed n d = true):Rep ok' w' ι' H' d v:=by
 have Jp:∀ a:Addr,∀ j v,ok a.block→w.cell? (a.add j) = some v→w'.cell? (a.add j) = some v:=by
  intro a j v ha hv;rw [World.cell?_of_block (w:=w)]
  ·exact hv
  ·rw [qcv];exact he.frame _ (hs.okS _ ha) (hs.notOwn ha)
 have inner:∀ {ι1:qF} {H1:qi} {d:D} {v:Value},Rep ok w ι1 H1 d v→ι1 = zg→H1 = []→Rep ok' w' zg [] d v:=by
  intro ι1 H1 d v h
  induction h with
  | bool b=>intros;exact .bool b
  | int k n=>intros;exact .int k n
  | str s=>intros;exact .str s
  | nilp=>intros;exact .nilp
  | nilf=>intros;exact .nilf
  | nili=>intros;exact .nili
  | raw v=>intros;exact .raw v
  | agg hl hc h ih=>intro h1 h2;exact .agg hl hc fun j d hj=>ih j d hj h1 h2
  | tup hl h ih=>intro h1 h2;exact .tup hl fun j d hj=>ih j d hj h1 h2
  | fn hl h ih=>intro h1 h2;exact .fn hl fun j d hj=>ih j d hj h1 h2
  | iface h ih=>intro h1 h2;exact .iface (ih h1 h2)
  | optr a hi h=>intro h1 h2;subst h2;simp at hi
  | osl a hi h=>intro h1 h2;subst h2;simp at hi
  | vptr a f ha hc hr h ih=>intros;exact .vptr a f (fun d hd=>he.okU _ (ha d hd)) hc (fun j d hj=>Jp a j _ (ha d (mem_of_get? hj)) (hr j d hj)) fun j d hj=>ih j d hj rfl rfl
  | vnil=>intros;exact .vnil
  | vsl a f ha hc hr h qR ih=>intros;exact .vsl a f (fun d hd=>he.okU _ (ha d hd)) hc (fun j d hj=>Jp a j _ (ha d (mem_of_get? hj)) (hr j d hj)) (fun j d hj=>ih j d hj rfl rfl) qR
 have main:∀ {ι1:qF} {H1:qi} {d:D} {v:Value},Rep ok w ι1 H1 d v→ι1 = ι→H1 = H→Ev.closed n d = true→Rep ok' w' ι' H' d v:=by
  intro ι1 H1 d v h
  induction h with
  | bool b=>intros;exact .bool b
  | int k n=>intros;exact .int k n
  | str s=>intros;exact .str s
  | nilp=>intros;exact .nilp
  | nilf=>intros;exact .nilf
  | nili=>intros;exact .nili
  | raw v=>intros;exact .raw v
  | agg hl hc h ih =>
   intro h1 h2 h3;simp only [Ev.closed,qe5] at h3;exact .agg hl hc fun j d hj=>ih j d hj h1 h2 (h3 d (mem_of_get? hj))
  | tup hl h ih =>
   intro h1 h2 h3;simp only [Ev.closed,qe5] at h3;exact .tup hl fun j d hj=>ih j d hj h1 h2 (h3 d (mem_of_get? hj))
  | fn hl h ih =>
   intro h1 h2 h3;simp only [Ev.closed,qe5] at h3;exact .fn hl fun j d hj=>ih j d hj h1 h2 (h3 d (mem_of_get? hj))
  | iface h ih=>intro h1 h2 h3;exact .iface (ih h1 h2 h3)
  | optr a hi hk =>
   intro h1 h2 h3;subst h1;subst h2;simp only [Ev.closed,decide_eq_true_eq] at h3;refine .optr a (jP h3 he.nle.2) fun ds' zp=>?_;obtain ⟨ds,hd,hle,ZG⟩:=he.heap _ h3 ds' zp;obtain ⟨k1,k2⟩:=hk ds hd;refine ⟨by omega,fun e=>?_⟩;obtain ⟨b,s,q1,q2⟩:=k2 (by omega);exact ⟨b,s,by rw [ZG (by omega)];exact q1,q2⟩
  | osl a hi hk qR =>
   intro h1 h2 h3;subst h1;subst h2;simp only [Ev.closed,decide_eq_true_eq] at h3;refine .osl a (jP h3 he.nle.2) (fun ds' zp=>?_) qR;obtain ⟨ds,hd,hle,ZG⟩:=he.heap _ h3 ds' zp;obtain ⟨k1,k2⟩:=hk ds hd;refine ⟨by omega,fun e=>?_⟩;obtain ⟨b,s,q1,q2⟩:=k2 (by omega);exact ⟨b,s,by rw [ZG (by omega)];exact q1,q2⟩
  | vptr a f ha hc hr h ih=>intros;exact .vptr a f (fun d hd=>he.okU _ (ha d hd)) hc (fun j d hj=>Jp a j _ (ha d (mem_of_get? hj)) (hr j d hj)) fun j d hj=>inner (h j d hj) rfl rfl
  | vnil=>intros;exact .vnil
  | vsl a f ha hc hr h qR ih=>intros;exact .vsl a f (fun d hd=>he.okU _ (ha d hd)) hc (fun j d hj=>Jp a j _ (ha d (mem_of_get? hj)) (hr j d hj)) (fun j d hj=>inner (h j d hj) rfl rfl) qR
 exact main h rfl rfl hc
theorem Evol.refl (n:Nat) (hn:n≤H.length):Evol n ok w ι H ok w ι H :=
 ⟨rfl,rfl,rfl,qB _,fun _ _ _=>rfl,fun _ h=>h,fun _ h _=>.inl h,⟨hn,hn⟩,fun _ _ ds hd=>⟨ds,hd,qB _,fun _=>rfl⟩,fun i ds _ s hd hi _=>⟨i,ds,s,hd,hi⟩⟩
theorem Evol.mono {n m:Nat} (he:Evol n ok w ι H ok' w' ι' H') (hm:m≤n):Evol m ok w ι H ok' w' ι' H' :=
 ⟨he.os,he.tape,he.output,he.size,he.frame,he.okU,he.okN,⟨by have:=he.nle;omega,by have:=he.nle;omega⟩,fun i hi=>he.heap i (by omega),he.own⟩
theorem Evol.trans {ok'':Nat→Prop} {w'':World} {ι'':qF} {H'':qi} {n:Nat} (h:Evol n ok w ι H ok' w' ι' H') (k:Evol n ok' w' ι' H' ok'' w'' ι'' H''):Evol n ok w ι H ok'' w'' ι'' H'' where
 os:=k.os.trans h.os
 tape:=k.tape.trans h.tape
 output:=k.output.trans h.output
 size:=kr h.size k.size
 frame b hb zT:=by
  rw [k.frame b (jP hb h.size),h.frame b hb zT];intro i ds s hd hi;obtain ⟨j,ds0,s',hj,hι⟩:=h.own i ds b s hd hi hb;exact zT j ds0 s' hj hι
 okU b hb:=k.okU b (h.okU b hb)
 okN b hb qg:=by
  rcases k.okN b hb (jP qg h.size) with hb | ⟨i,ds,s,hd,hi⟩
  ·exact h.okN b hb qg
  ·exact .inr (h.own i ds b s hd hi qg)
 nle:=⟨h.nle.1,k.nle.2⟩
 heap i hi ds'' hd'':=by
  obtain ⟨ds',zp,jB,ZG⟩:=k.heap i hi ds'' hd'';obtain ⟨ds,hd,hle,VJ⟩:=h.heap i hi ds' zp;exact ⟨ds,hd,by omega,fun e=>by rw [ZG (by omega),VJ (by omega)]⟩
 own i ds' b s hd hi hb:=by
  obtain ⟨j,ds0,s',hj,hι⟩:=k.own i ds' b s hd hi (jP hb h.size);exact h.own j ds0 b s' hj hι hb
def EnvRep (ok:Nat→Prop) (w:World) (ι:qF) (H:qi) (e:qr) (tmps:Array Value):Prop :=
 ∀ t d,qf e t = some d→t < tmps.size∧Rep ok w ι H d (tmps.getD t undef)
def RepL (ok:Nat→Prop) (w:World) (ι:qF) (H:qi) (ds:List D) (vs:List Value):Prop :=
 vs.length = ds.length∧∀ (j:Nat) d,ds[j]? = some d→Rep ok w ι H d (vs.getD j undef)
theorem EnvRep.put {e:qr} {tmps:Array Value} {t:Nat} {d:D} {v:Value} (he:EnvRep ok w ι H e tmps) (hd:Rep ok w ι H d v) (ht:t < tmps.size) :
  EnvRep ok w ι H ((t,d) :: e) (tmps.setIfInBounds t v):=by
 intro u d' hu;simp only [qf] at hu;by_cases h:t = u
 ·subst h;simp only [if_true,qu] at hu;subst hu;simp [ht,hd,Array.getD]
 ·simp only [h,if_false] at hu;obtain ⟨h1,h2⟩:=he u d' hu;refine ⟨by simpa using h1,?_⟩
  have:(tmps.setIfInBounds t v).getD u undef = tmps.getD u undef:=by
   simp only [jp,qc4 h]
  rw [this];exact h2
theorem EnvRep.evol {X:Cx} {n:Nat} {e:qr} {tmps:Array Value} (he:EnvRep ok w ι H e tmps) (hs:Sim X ok w ι H) (hv:Evol n ok w ι H ok' w' ι' H')
  (hc:∀ t d,qf e t = some d→Ev.closed n d = true):EnvRep ok' w' ι' H' e tmps :=
 fun t d ht=>⟨(he t d ht).1,(he t d ht).2.evol hs hv (hc t d ht)⟩
theorem EnvRep.evol' {X:Cx} {e:qr} {tmps:Array Value} (he:EnvRep ok w ι H e tmps) (hs:Sim X ok w ι H) (hv:Evol H.length ok w ι H ok' w' ι' H'):EnvRep ok' w' ι' H' e tmps :=
 he.evol hs hv fun t d ht=>(he t d ht).2.closed
end
end Go.Ev
namespace Go.Ev
section
variable {X:Cx} {P:Program} {ok:Nat→Prop} {w w':World} {ι:qF} {H:qi}
theorem qiM:∀ d,closed 0 d = true→idFree d = true
 | .agg cs,h | .tup cs,h | .fn _ cs,h=>by
  simp only [closed,qe5,idFree,qck] at h ⊢;intro d hd;exact qiM d (h d hd)
 | .iface _ d,h=>by simp only [closed,idFree] at h ⊢;exact qiM d h
 | .optr i _ _,h | .osl i _ _ _ _,h=>by simp [closed] at h
 | .bool _,_ | .int _ _,_ | .str _,_ | .nilp,_ | .nilf,_ | .nili,_ | .vptr _,_ | .vsl _ _ _,_ | .raw _,_=>rfl
theorem Rep.lift {d:D} {v:Value} (h:Rep ok w zg [] d v):Rep ok w ι H d v:=h.free (qiM d h.closed) _ _
theorem ZH {i:Nat} {ds:List D} (h:qq H i = some ds):i < H.length:=by
 unfold qq at h;rcases ZU i H.length with qg | hge
 ·exact qg
 ·rw [List.getElem?_eq_none hge] at h;simp at h
theorem qfX {i:Nat} {ds:List D} (h:i < H.length):qq (hset H i ds) i = some ds:=by
 simp [qq,hset,h]
theorem qco {i j:Nat} {ds:List D} (h:j≠i):qq (hset H i ds) j = qq H j:=by
 simp [qq,hset,Ne.symm h]
theorem qhR {i:Nat} {ds:List D}:(hset H i ds).length = H.length:=by simp [hset]
theorem Ym {ds:List D}:qq (vA H ds) H.length = some ds:=by simp [qq,vA]
theorem qcl {ds:List D} {i:Nat} (h:i < H.length):qq (vA H ds) i = qq H i:=by
 simp [qq,vA,ZY h]
theorem Vb {ds:List D}:(vA H ds).length = H.length+1:=by simp [vA]
def qax (w w':World):Prop:=w'.os = w.os∧w'.tape = w.tape∧w'.output = w.output
theorem Sim.lt (hs:Sim X ok w ι H) {i:Nat} {ds:List D} {b s:Nat} (hd:qq H i = some ds) (hi:ι i = some (b,s)):b < w.heap.size:=by
 obtain ⟨b',arr,e,fr,zq,hn,hh,_⟩:=hs.blk i ds hd;rw [hi] at zq;injection zq with zq;injection zq with zq _;subst zq;exact (Array.getElem?_eq_some_iff.1 hh).1
theorem qeV {i:Nat} {ds ds':List D} {b sz b':Nat} {arr':Array Value} {e:TypeId} {fr:Nat × Nat} (hs:Sim X ok w ι H) (hd:qq H i = some ds) (hι:ι i = some (b,sz))
  (hw:qax w w') (zh:w.heap.size≤w'.heap.size) (zf:∀ c,c < w.heap.size→c≠b→w'.heap[c]? = w.heap[c]?)
  (zq:w'.heap[b']? = some (.cells arr' e fr)) (hloc:(b' = b∧arr'.size = sz)∨(w.heap.size≤b'∧ds.length < ds'.length)) (zo:ds.length≤ds'.length)
  (qab:ds'.length≤arr'.size) (kC:fr.1 = fr.2∨arr'.size≤fr.1) (Zi:∀ j,j < arr'.size→(arr'.getD j undef).oneCell' = true)
  (Jp:∀ d,d∈ds'→zR d = true) (hrep:∀ (j:Nat) d,ds'[j]? = some d→Rep ok w ι H d (arr'.getD j undef)) :
  ∃ ι',Sim X ok w' ι' (hset H i ds')∧Evol H.length ok w ι H ok w' ι' (hset H i ds')∧ι' i = some (b',arr'.size):=by
 have hi:=ZH hd
 have hnb:¬ ok b:=by
  intro hb;exact hs.notOwn hb i ds sz hd hι
 refine ⟨fun k=>if k = i then some (b',arr'.size) else ι k,?_⟩
 have hev:Evol H.length ok w ι H ok w' (fun k=>if k = i then some (b',arr'.size) else ι k) (hset H i ds'):=by
  refine ⟨hw.1,hw.2.1,hw.2.2,zh,?_,fun _ h=>h,fun _ h _=>.inl h,⟨qB _,by rw [qhR];exact qB _⟩,?_,?_⟩
  ·intro c hc zT;exact zf c hc (fun e=>zT i ds sz hd (by rw [hι,e]))
  ·intro k hk es he;by_cases vK:k = i
   ·subst vK;rw [qfX hi] at he;injection he with he;subst he;refine ⟨ds,hd,zo,fun heq=>?_⟩;rcases hloc with ⟨h1,h2⟩ | ⟨_,h2⟩
    ·simp only [if_true,h1,h2,hι]
    ·omega
   ·rw [qco vK] at he;exact ⟨es,he,qB _,fun _=>by simp [vK]⟩
  ·intro k es c s he hk hc;by_cases vK:k = i
   ·subst vK;simp only [if_true,qu,qN] at hk;rcases hloc with ⟨h1,h2⟩ | ⟨h1,_⟩
    ·exact ⟨k,ds,sz,hd,by rw [hι,← hk.1,h1]⟩
    ·omega
   ·rw [qco vK] at he;simp only [vK,if_false] at hk;exact ⟨k,es,s,he,hk⟩
 refine ⟨⟨fun c hc=>jP (hs.okS c hc) zh,?_,?_,?_⟩,hev,by simp⟩
 ·intro g cs hg;have h:=(hs.glob g cs hg).lift (ι:=ι) (H:=H);have h2:=h.evol hs hev rfl;exact h2.free rfl _ _
 ·intro p q es fs c s s' hp hq hιp hιq
  have old:∀ k,k≠i→∀ es c s,qq H k = some es→ι k = some (c,s)→c≠b':=by
   intro k hk es c s he hc heq;rcases hloc with ⟨h1,_⟩ | ⟨h1,_⟩
   ·exact hk (hs.inj k i es ds c s sz he hd hc (by rw [hι,heq,h1]))
   ·have:=hs.lt he hc;omega
  by_cases X9:p = i <;> by_cases hqi:q = i
  ·rw [X9,hqi]
  ·subst X9;rw [qco hqi] at hq;simp only [if_true,hqi,if_false,qu,qN] at hιp hιq;exact absurd hιp.1.symm (old q hqi fs c s' hq hιq)
  ·subst hqi;rw [qco X9] at hp;simp only [if_true,X9,if_false,qu,qN] at hιp hιq;exact absurd hιq.1.symm (old p X9 es c s hp hιp)
  ·rw [qco X9] at hp;rw [qco hqi] at hq;simp only [X9,hqi,if_false] at hιp hιq;exact hs.inj p q es fs c s s' hp hq hιp hιq
 ·intro k es he;by_cases vK:k = i
  ·subst vK;rw [qfX hi] at he;injection he with he;subst he;refine ⟨b',arr',e,fr,by simp,?_,zq,qab,kC,Zi,Jp,fun j d hj=>(hrep j d hj).evol hs hev (hrep j d hj).closed⟩;rcases hloc with ⟨h1,_⟩ | ⟨h1,_⟩
   ·rw [h1];exact hnb
   ·intro h;have:=hs.okS _ h;omega
  ·rw [qco vK] at he;obtain ⟨c,arr,e2,fr2,h1,h2,h3,h4,h5,h6,h7,h8⟩:=hs.blk k es he;refine ⟨c,arr,e2,fr2,by simp [vK,h1],h2,?_,h4,h5,h6,h7,fun j d hj=>(h8 j d hj).evol hs hev (h8 j d hj).closed⟩;rw [zf c (hs.lt he h1)]
   ·exact h3
   ·rintro rfl;exact vK (hs.inj k i es ds c arr.size sz he hd h1 hι)
theorem qjC {ds:List D} {b':Nat} {arr:Array Value} {e:TypeId} {fr:Nat × Nat} (hs:Sim X ok w ι H)
  (hw:qax w w') (zh:w.heap.size≤w'.heap.size) (zf:∀ c,c < w.heap.size→w'.heap[c]? = w.heap[c]?)
  (zq:w'.heap[b']? = some (.cells arr e fr)) (hloc:w.heap.size≤b')
  (qab:ds.length≤arr.size) (kC:fr.1 = fr.2∨arr.size≤fr.1) (Zi:∀ j,j < arr.size→(arr.getD j undef).oneCell' = true)
  (Jp:∀ d,d∈ds→zR d = true) (hrep:∀ (j:Nat) d,ds[j]? = some d→Rep ok w ι H d (arr.getD j undef)) :
  ∃ ι',Sim X ok w' ι' (vA H ds)∧Evol H.length ok w ι H ok w' ι' (vA H ds)∧ι' H.length = some (b',arr.size):=by
 refine ⟨fun k=>if k = H.length then some (b',arr.size) else ι k,?_⟩
 have hev:Evol H.length ok w ι H ok w' (fun k=>if k = H.length then some (b',arr.size) else ι k) (vA H ds):=by
  refine ⟨hw.1,hw.2.1,hw.2.2,zh,fun c hc _=>zf c hc,fun _ h=>h,fun _ h _=>.inl h,⟨qB _,by rw [Vb];omega⟩,?_,?_⟩
  ·intro k hk es he;rw [qcl hk] at he;exact ⟨es,he,qB _,fun _=>by simp [KH hk]⟩
  ·intro k es c s he hk hc;by_cases vK:k = H.length
   ·subst vK;simp only [if_true,qu,qN] at hk;omega
   ·have qg:k < H.length:=by
     have:=ZH he;rw [Vb] at this;omega
    rw [qcl qg] at he;simp only [vK,if_false] at hk;exact ⟨k,es,s,he,hk⟩
 have split:∀ k es,qq (vA H ds) k = some es→(k = H.length∧es = ds)∨(k < H.length∧qq H k = some es):=by
  intro k es he;by_cases vK:k = H.length
  ·subst vK;rw [Ym] at he;injection he with he;exact .inl ⟨rfl,he.symm⟩
  ·have qg:k < H.length:=by
    have:=ZH he;rw [Vb] at this;omega
   rw [qcl qg] at he;exact .inr ⟨qg,he⟩
 refine ⟨⟨fun c hc=>jP (hs.okS c hc) zh,?_,?_,?_⟩,hev,by simp⟩
 ·intro g cs hg;have h:=(hs.glob g cs hg).lift (ι:=ι) (H:=H);have h2:=h.evol hs hev rfl;exact h2.free rfl _ _
 ·intro p q es fs c s s' hp hq hιp hιq;rcases split p es hp with ⟨rfl,_⟩ | ⟨Kt,hp2⟩ <;> rcases split q fs hq with ⟨rfl,_⟩ | ⟨hq1,ZC⟩
  ·rfl
  ·simp only [if_true,KH hq1,if_false,qu,qN] at hιp hιq;have:=hs.lt ZC hιq;omega
  ·simp only [if_true,KH Kt,if_false,qu,qN] at hιp hιq;have:=hs.lt hp2 hιp;omega
  ·simp only [KH Kt,KH hq1,if_false] at hιp hιq;exact hs.inj p q es fs c s s' hp2 ZC hιp hιq
 ·intro k es he;rcases split k es he with ⟨rfl,rfl⟩ | ⟨hk,he⟩
  ·exact ⟨b',arr,e,fr,by simp,fun h=>by have:=hs.okS _ h;omega,zq,qab,kC,Zi,Jp,fun j d hj=>(hrep j d hj).evol hs hev (hrep j d hj).closed⟩
  ·obtain ⟨c,arr2,e2,fr2,h1,h2,h3,h4,h5,h6,h7,h8⟩:=hs.blk k es he;refine ⟨c,arr2,e2,fr2,by simp [KH hk,h1],h2,?_,h4,h5,h6,h7,fun j d hj=>(h8 j d hj).evol hs hev (h8 j d hj).closed⟩;rw [zf c (hs.lt he h1)];exact h3
theorem qpO (hs:Sim X ok w ι H) (hw:qax w w') (hh:w'.heap = w.heap):Sim X ok w' ι H∧Evol H.length ok w ι H ok w' ι H:=by
 have hev:Evol H.length ok w ι H ok w' ι H :=
  ⟨hw.1,hw.2.1,hw.2.2,by rw [hh];exact qB _,fun _ _ _=>by rw [hh],fun _ h=>h,fun _ h _=>.inl h,⟨qB _,qB _⟩,fun _ _ ds hd=>⟨ds,hd,qB _,fun _=>rfl⟩,
   fun i ds _ s hd hi _=>⟨i,ds,s,hd,hi⟩⟩
 refine ⟨⟨fun c hc=>by rw [hh];exact hs.okS c hc,fun g cs hg=>?_,hs.inj,fun k es he=>?_⟩,hev⟩
 ·have h:=(hs.glob g cs hg).lift (ι:=ι) (H:=H);exact (h.evol hs hev rfl).free rfl _ _
 ·obtain ⟨c,arr2,e2,fr2,h1,h2,h3,h4,h5,h6,h7,h8⟩:=hs.blk k es he;exact ⟨c,arr2,e2,fr2,h1,h2,by rw [hh];exact h3,h4,h5,h6,h7,fun j d hj=>(h8 j d hj).evol hs hev (h8 j d hj).closed⟩
theorem ZR (b o j:Nat):(⟨b,o,none⟩:Addr).add j = ⟨b,o+j,none⟩:=by
 unfold Addr.add;split
 ·simp_all
 ·rfl
theorem qg1 (a:Addr) (i j:Nat):(a.add i).add j = a.add (i+j):=by
 unfold Addr.add;by_cases hi:i = 0 <;> by_cases hj:j = 0 <;> simp [hi,hj,Vz]
theorem qlD {p:D} {cs:List D} {a:Addr} (hs:Sim X ok w ι H) (hp:Rep ok w ι H p (.pointer (some a))) (hm:X2 H p = some cs) :
  (∀ d,d∈cs→zR d = true)∧∃ f:Nat→Value,∀ (j:Nat) d,cs[j]? = some d→w.cell? (a.add j) = some (f j)∧Rep ok w ι H d (f j):=by
 cases hp with
 | raw v=>simp [X2] at hm
 | vptr a f ha hc hr h =>
  simp only [X2,qu] at hm;subst hm;exact ⟨hc,f,fun j d hj=>⟨hr j d hj,(h j d hj).lift⟩⟩
 | optr a hi h =>
  rename_i i st off;simp only [X2] at hm;split at hm
  ·rename_i ds hd;split at hm
   ·rename_i hst;injection hm with hm;subst hm;obtain ⟨b,s,h1,rfl⟩:=(h ds hd).2 hst;obtain ⟨b',arr,e,fr,k1,k2,k3,k4,k5,k6,k7,k8⟩:=hs.blk i ds hd;rw [h1] at k1;injection k1 with k1;injection k1 with k1 _;subst k1;refine ⟨fun d hd=>k7 d (V1 hd),fun j=>arr.getD (off+j) undef,fun j d hj=>?_⟩;rw [QE] at hj;refine ⟨?_,k8 _ d hj⟩;have qg:off+j < arr.size:=jP (List.getElem?_eq_some_iff.1 hj).1 k4;rw [ZR];simp [World.cell?,k3,qg]
   ·cases hm
  ·cases hm
theorem qfM {t:TypeId} {q:Bool} (h:Vy P t = some q) (w:World):(isAgg t).run P w = .ok q w:=by
 unfold Vy at h;unfold isAgg;rw [Sem.run_bind];cases hu:P.underlying t with
 | none=>simp [hu] at h
 | some d=>rw [run_underlying hu w];cases d <;> simp_all
theorem qxp {t:TypeId} {d:TypeDesc} (h:P.underlying t = some d):∃ i,P.info? t = some i:=by
 cases hi:P.info? t with
 | some i=>exact ⟨i,rfl⟩
 | none =>
  unfold Program.underlying at h;rw [hi] at h;simp at h
end
end Go.Ev
namespace Go.Ev
section
variable {X:Cx} {P:Program} {ok:Nat→Prop} {w w':World} {ι:qF} {H H':qi}
theorem Zb {t:TypeId} (h:0 < qw P t) (w:World):(sizeOf t).run P w = .ok (qw P t) w:=by
 unfold qw at h ⊢;cases hi:P.info? t with
 | none=>simp [hi] at h
 | some i=>simp [sizeOf,typeInfo,hi]
theorem qgS {t:TypeId} {d:TypeDesc} (h:P.underlying t = some d) (w:World):(sizeOf t).run P w = .ok (qw P t) w:=by
 obtain ⟨i,hi⟩:=qxp h;simp [sizeOf,typeInfo,hi,qw]
theorem qfO {t:TypeId} (h:0 < qw P t):∃ i,P.info? t = some i∧i.size = qw P t∧i.bytes = bytesOf P t:=by
 unfold qw bytesOf at *;cases hi:P.info? t with
 | none=>simp [hi] at h
 | some i=>exact ⟨i,rfl,by simp,by simp⟩
theorem qlx {v:Value} {d:D} (h:qcc v = some d):Rep ok w ι H d v:=by
 unfold qcc at h;split at h <;> cases h
 ·exact .bool _
 ·exact .int _ _
 ·rename_i s;have:s = ⟨s.data.toList.toArray⟩:=by simp
  rw [this];exact .str _
 ·exact .nilp
 ·exact .vnil
 ·exact .nilf
 ·exact .nili
theorem qta {v:Value} {d:D} (h:qcc v = some d):zR d = true:=by
 unfold qcc at h;split at h <;> cases h <;> rfl
theorem qlv:∀ {l:List Value} {ds:List D},qcb l = some ds→l.length = ds.length∧(∀ d,d∈ds→zR d = true)∧∀ (j:Nat) d,ds[j]? = some d→Rep ok w ι H d (l.getD j undef)
 | [],ds,h=>by
  simp only [qcb,qu] at h;subst h;simp
 | v :: l,ds,h=>by
  simp only [qcb] at h;split at h
  ·rename_i d ds' h1 h2;injection h with h;subst h;obtain ⟨k1,k2,k3⟩:=qlv h2;refine ⟨by simp [k1],?_,?_⟩
   ·intro x hx;rcases List.mem_cons.1 hx with rfl | hx
    ·exact qta h1
    ·exact k2 x hx
   ·intro j x hx;cases j with
    | zero =>
     simp only [ZX,qu] at hx;subst hx;exact qlx h1
    | succ j=>exact k3 j x (by simpa using hx)
  ·cases h
theorem qlw {v:Value} {d:D} (h:Q2 v = some d):Rep ok w ι H d v:=by
 unfold Q2 at h;split at h
 ·rename_i cs;cases hv:qcb cs.toList with
  | none=>simp [hv] at h
  | some ds =>
   simp only [hv,jF,qu] at h;subst h;obtain ⟨k1,k2,k3⟩:=qlv (ok:=ok) (w:=w) (ι:=ι) (H:=H) hv;refine .agg (by simpa using k1) k2 fun j d hj=>?_;have:=k3 j d hj;simpa [jp,jV] using this
 ·exact qlx h
theorem jJ (hs:Sim X ok w ι H) {e:qr} {a:Act} (he:EnvRep ok w ι H e a.tmps) {x:Operand} {d:D} (h:qQ X e x = some d):Rep ok w ι H d (a.eval x):=by
 cases x with
 | tmp t=>exact (he t d h).2
 | const v=>exact qlw h
 | func f =>
  simp only [qQ,qu] at h;subst h;exact .fn rfl (by simp)
 | global g =>
  simp only [qQ] at h;cases hg:X.glob g with
  | none=>simp [hg] at h
  | some cs =>
   simp only [hg,jF,qu] at h;subst h;exact (hs.glob g cs hg).lift
theorem qfz (hs:Sim X ok w ι H) {e:qr} {a:Act} (he:EnvRep ok w ι H e a.tmps):∀ {l:List Operand} {ds:List D},vz X e l = some ds→RepL ok w ι H ds (l.map a.eval)
 | [],ds,h=>by
  simp only [vz,qu] at h;subst h;exact ⟨rfl,by simp⟩
 | x :: l,ds,h=>by
  simp only [vz] at h;split at h
  ·rename_i d ds' h1 h2;injection h with h;subst h;obtain ⟨k1,k2⟩:=qfz hs he h2;refine ⟨by simpa using k1,fun j x hx=>?_⟩;cases j with
   | zero =>
    simp only [ZX,qu] at hx;subst hx;exact jJ hs he h1
   | succ j=>exact k2 j x (by simpa using hx)
  ·cases h
def Post (X:Cx) (n:Nat) (ok:Nat→Prop) (w:World) (ι:qF) (H:qi) (d:D) (H':qi) (v:Value) (w':World):Prop :=
 ∃ ι' ok',Sim X ok' w' ι' H'∧Rep ok' w' ι' H' d v∧Evol n ok w ι H ok' w' ι' H'
theorem Post.same (hs:Sim X ok w ι H) {d:D} {v:Value} (h:Rep ok w ι H d v):Post X H.length ok w ι H d H v w :=
 ⟨ι,ok,hs,h,.refl _ (qB _)⟩
theorem Yv {d:D} {v:Value} {cs:List D} (h:Rep ok w ι H d v) (hc:cellsOf d = some cs) :
  v.cells.size = cs.length∧(∀ d,d∈cs→zR d = true)∧∀ (j:Nat) d,cs[j]? = some d→Rep ok w ι H d (v.cells.getD j undef):=by
 have one:∀ {d:D} {v:Value},Rep ok w ι H d v→zR d = true→v.cells = #[v]→(#[v]:Array Value).size = [d].length∧(∀ x,x∈[d]→zR x = true)∧∀ (j:Nat) x,[d][j]? = some x→Rep ok w ι H x ((#[v]:Array Value).getD j undef):=by
  intro d v h hd _;refine ⟨rfl,by simpa using hd,fun j x hx=>?_⟩;cases j with
  | zero =>
   simp only [ZX,qu] at hx;subst hx;exact h
  | succ j=>simp at hx
 cases h with
 | agg hl hcs h =>
  simp only [cellsOf,qu] at hc;subst hc;exact ⟨hl,hcs,h⟩
 | tup hl h=>simp [cellsOf] at hc
 | raw v=>simp [cellsOf] at hc
 | bool b=>simp only [cellsOf,qu] at hc;subst hc;exact one (.bool b) rfl rfl
 | int k n=>simp only [cellsOf,qu] at hc;subst hc;exact one (.int k n) rfl rfl
 | str s=>simp only [cellsOf,qu] at hc;subst hc;exact one (.str s) rfl rfl
 | nilp=>simp only [cellsOf,qu] at hc;subst hc;exact one .nilp rfl rfl
 | nilf=>simp only [cellsOf,qu] at hc;subst hc;exact one .nilf rfl rfl
 | nili=>simp only [cellsOf,qu] at hc;subst hc;exact one .nili rfl rfl
 | vptr a f ha hc1 hr h=>simp only [cellsOf,qu] at hc;subst hc;exact one (.vptr a f ha hc1 hr h) rfl rfl
 | optr a hi h=>simp only [cellsOf,qu] at hc;subst hc;exact one (.optr a hi h) rfl rfl
 | vnil=>simp only [cellsOf,qu] at hc;subst hc;exact one .vnil rfl rfl
 | vsl a f ha hc1 hr h qR=>simp only [cellsOf,qu] at hc;subst hc;exact one (.vsl a f ha hc1 hr h qR) rfl rfl
 | osl a hi h qR=>simp only [cellsOf,qu] at hc;subst hc;exact one (.osl a hi h qR) rfl rfl
 | fn hl h=>simp only [cellsOf,qu] at hc;subst hc;exact one (.fn hl h) rfl rfl
 | iface h=>simp only [cellsOf,qu] at hc;subst hc;exact one (.iface h) rfl rfl
theorem Rep.ptr {p:D} {v:Value} {cs:List D} (h:Rep ok w ι H p v) (hm:X2 H p = some cs):∃ a,v = .pointer (some a):=by
 cases h <;> first | (simp [X2] at hm;done) | exact ⟨_,rfl⟩
theorem qya {f:Nat→Value} {n j:Nat} (h:j < n):(((List.range n).map f).toArray).getD j undef = f j:=by
 simp [h]
theorem qlQ {p d:D} {pv:Value} {t:TypeId} (hs:Sim X ok w ι H) (hp:Rep ok w ι H p pv) (h:ldD P H t p = some d) :
  ∃ v,(Instr.loadAt t pv).run P w = .ok v w∧Rep ok w ι H d v:=by
 unfold ldD at h;split at h
 ·rename_i cs hq hm;split at h
  ·rename_i hle;injection h with h;subst h;obtain ⟨a,rfl⟩:=hp.ptr hm;obtain ⟨hc,f,hf⟩:=qlD hs hp hm;have qg:∀ j,j < qw P t→∃ d,cs[j]? = some d:=fun j hj=>⟨cs[j],zi (by omega)⟩
   have hl:=run_loadCells (P:=P) w a (qw P t) f (fun j hj=>by
    obtain ⟨d,hd⟩:=qg j hj;exact (hf j d hd).1)
   have hu:∃ dsc,P.underlying t = some dsc:=by
    unfold Vy at hq;cases hu:P.underlying t with
    | none=>simp [hu] at hq
    | some x=>exact ⟨x,rfl⟩
   obtain ⟨dsc,hu⟩:=hu;refine ⟨.agg ((List.range (qw P t)).map f).toArray,?_,?_⟩
   ·simp [Instr.loadAt,Instr.sureAddr,loadVar,qfM hq,qgS hu,hl]
   ·refine .agg (by simp;omega) (fun d hd=>hc d (Jv hd)) fun j d hj=>?_;rw [VV] at hj;split at hj
    ·rename_i vt;rw [qya vt];exact (hf j d hj).2
    ·cases hj
  ·cases h
 ·rename_i d' rest hq hm;injection h with h;subst h;obtain ⟨a,rfl⟩:=hp.ptr hm;obtain ⟨hc,f,hf⟩:=qlD hs hp hm;obtain ⟨h1,h2⟩:=hf 0 d' rfl;refine ⟨f 0,?_,h2⟩;have:a.add 0 = a:=rfl;rw [this] at h1;simp [Instr.loadAt,Instr.sureAddr,loadVar,qfM hq,h1]
 ·cases h
theorem cell_of_heap {b o:Nat} {arr:Array Value} {e:TypeId} {fr:Nat × Nat} (h:w.heap[b]? = some (.cells arr e fr)):w.cell? ⟨b,o,none⟩ = arr[o]?:=by
 simp [World.cell?,h]
theorem frozen_of_heap {b o:Nat} {arr:Array Value} {e:TypeId} {fr:Nat × Nat} (h:w.heap[b]? = some (.cells arr e fr)):w.frozen? ⟨b,o,none⟩ = (decide (fr.1≤o) && decide (o < fr.2)):=by
 simp [World.frozen?,h]
theorem qgK (b o:Nat) (e:TypeId) (fr:Nat × Nat):∀ (vs:List Value) (i:Nat) (arr:Array Value) (w:World),w.heap[b]? = some (.cells arr e fr)→o+i+vs.length≤arr.size →
  (∀ v,v∈vs→v.oneCell' = true)→(∀ j,j < arr.size→¬ (fr.1≤j∧j < fr.2)) →
  ∃ w' arr',(storeCells ⟨b,o,none⟩ vs i).run P w = .ok () w'∧qax w w'∧w'.heap.size = w.heap.size∧(∀ c,c≠b→w'.heap[c]? = w.heap[c]?)∧w'.heap[b]? = some (.cells arr' e fr)∧arr'.size = arr.size ∧
   ∀ j,arr'[j]? = if o+i≤j∧j < o+i+vs.length then vs[j - (o+i)]? else arr[j]?
 | [],i,arr,w,hb,hl,h1,hz=>by
  refine ⟨w,arr,rfl,⟨rfl,rfl,rfl⟩,rfl,fun _ _=>rfl,hb,rfl,fun j=>?_⟩;rw [if_neg (by simp)]
 | v :: vs,i,arr,w,hb,hl,h1,hz=>by
  simp only [qG] at hl;have qg:o+i < arr.size:=by omega
  have Jp:w.cell? ⟨b,o+i,none⟩ = some arr[o+i]:=by rw [cell_of_heap hb];simp [qg]
  have kC:w.frozen? ⟨b,o+i,none⟩ = false:=by
   rw [frozen_of_heap hb];have:=hz _ qg;simp only [Bool.and_eq_false_iff,decide_eq_false_iff_not];omega
  have zE:(w.setCell ⟨b,o+i,none⟩ v).heap[b]? = some (.cells (arr.setIfInBounds (o+i) v) e fr):=by
   simp [World.setCell,qeK,hb]
  obtain ⟨w',arr',k1,k2,k3,k4,k5,k6,k7⟩:=qgK b o e fr vs (i+1) (arr.setIfInBounds (o+i) v) (w.setCell ⟨b,o+i,none⟩ v) zE (by simp;omega)
   (fun u hu=>h1 u (kU _ hu)) (by simpa using hz)
  refine ⟨w',arr',?_,⟨k2.1,k2.2.1,k2.2.2⟩,by simpa [World.setCell] using k3,?_,k5,by simpa using k6,?_⟩
  ·simp only [storeCells,Sem.run_bind,ZR,run_store P w _ v .plain (h1 v (QY ..)),Jp,kC,vT,if_false,Result.andThen_ok];exact k1
  ·intro c hc;rw [k4 c hc];simp [World.setCell,qeK,Ne.symm hc]
  ·intro j;rw [k7 j];simp only [qG];by_cases hj:j = o+i
   ·subst hj;rw [if_neg (by omega),if_pos (by omega)];simp [qg]
   ·by_cases hr:o+(i+1)≤j∧j < o+(i+1)+vs.length
    ·rw [if_pos hr,if_pos (by omega)];have:j - (o+i) = (j - (o+(i+1)))+1:=(by omega);rw [this,List.getElem?_cons_succ]
    ·rw [if_neg hr,if_neg (by omega)];rw [qc4 (by omega)]
theorem qcA {ds xs:List D} {off:Nat} (h:off+xs.length≤ds.length):(qH ds off xs).length = ds.length:=by
 simp [qH];omega
theorem qjQ {ds xs:List D} {off:Nat} (h:off+xs.length≤ds.length) (j:Nat):(qH ds off xs)[j]? = if off≤j∧j < off+xs.length then xs[j - off]? else ds[j]?:=by
 unfold qH;have hl:(ds.take off).length = off:=by simp;omega
 by_cases h1:j < off
 ·rw [if_neg (by omega),vI,ZY (by omega),VV,if_pos h1]
 ·by_cases h2:j < off+xs.length
  ·rw [if_pos (by omega),vI,VW (by omega),ZY (by omega),hl]
  ·rw [if_neg (by omega),VW (by simp;omega),QE];congr 1;simp;omega
theorem qlC {ds xs:List D} {off:Nat} {d:D} (h:d∈qH ds off xs):d∈ds∨d∈xs:=by
 unfold qH at h;simp only [qbH] at h;rcases h with (h | h) | h
 ·exact .inl (Jv h)
 ·exact .inr h
 ·exact .inl (V1 h)
theorem qji {i st off b sz:Nat} {ds xs:List D} {vs:List Value} {a:Addr} (hs:Sim X ok w ι H) (hd:qq H i = some ds) (_hst:ds.length = st) (hι:ι i = some (b,sz)) (ha:a = ⟨b,off,none⟩)
  (hle:off+xs.length≤ds.length) (hl:vs.length = xs.length) (hc:∀ d,d∈xs→zR d = true) (hx:∀ (j:Nat) d,xs[j]? = some d→Rep ok w ι H d (vs.getD j undef)) :
  ∃ w' ι',(storeCells a vs).run P w = .ok () w'∧Sim X ok w' ι' (hset H i (qH ds off xs))∧Evol H.length ok w ι H ok w' ι' (hset H i (qH ds off xs)):=by
 obtain ⟨b',arr,e,fr,k1,k2,k3,k4,k5,k6,k7,k8⟩:=hs.blk i ds hd;rw [hι] at k1;injection k1 with k1;injection k1 with k1 k1';subst k1;subst ha
 have Zi:∀ v,v∈vs→v.oneCell' = true:=by
  intro v hv;obtain ⟨j,hj⟩:=List.mem_iff_getElem?.1 hv;have vt:j < vs.length:=(List.getElem?_eq_some_iff.1 hj).1;have hxj:xs[j]? = some (xs[j]'(by omega)):=zi (by omega);have h:=hx j _ hxj;rw [jV,hj] at h;exact h.oneCell (hc _ (mem_of_get? hxj))
 obtain ⟨w',arr',q1,q2,q3,q4,q5,q6,q7⟩:=qgK (P:=P) b off e fr vs 0 arr w k3 (by omega) Zi (qmS k5)
 have qq:∀ j,j < arr.size→arr'.getD j undef = if off≤j∧j < off+xs.length then vs.getD (j - off) undef else arr.getD j undef:=by
  intro j hj;simp only [jp,q7 j,jV,Nat.add_zero,hl];split <;> rfl
 obtain ⟨ι',r1,r2,r3⟩:=qeV (i:=i) (ds:=ds) (ds':=qH ds off xs) (b:=b) (sz:=sz) (b':=b) (arr':=arr') (e:=e) (fr:=fr) (w':=w') hs hd hι q2 (by omega) (fun c _ hc=>q4 c hc) q5 (.inl ⟨rfl,by omega⟩)
  (by rw [qcA hle];exact qB _) (by rw [qcA hle];omega) (by rw [q6];exact k5)
  (by
   intro j hj;rw [q6] at hj;rw [qq j hj];by_cases hr:off≤j∧j < off+xs.length
   ·rw [if_pos hr];have:j - off < vs.length:=(by omega);rw [jV,zi this];exact Zi _ (vw this)
   ·rw [if_neg hr];exact k6 j hj)
  (by
   intro d zp;rcases qlC zp with h | h
   ·exact k7 d h
   ·exact hc d h)
  (by
   intro j d hj
   have vt:j < ds.length:=by
    have:=(List.getElem?_eq_some_iff.1 hj).1
    rwa [qcA hle] at this
   rw [qq j (by omega)];rw [qjQ hle] at hj;split at hj
   ·rename_i hr;rw [if_pos hr];exact hx _ d hj
   ·rename_i hr;rw [if_neg hr];exact k8 j d hj)
 exact ⟨w',ι',q1,r1,r2⟩
theorem qpM {p x:D} {pv xv:Value} {t:TypeId} (hs:Sim X ok w ι H) (hp:Rep ok w ι H p pv) (hx:Rep ok w ι H x xv) (h:stD P H t p x = some H') :
  ∃ w' ι',(Instr.storeAt t pv xv).run P w = .ok () w'∧Sim X ok w' ι' H'∧Evol H.length ok w ι H ok w' ι' H':=by
 unfold stD at h;split at h
 ·rename_i i st off xs hcs;split at h
  ·rename_i ds hd;split at h
   ·rename_i hcond;obtain ⟨h1,h2,h3,h4,_⟩:=hcond;injection h with h;subst h;cases hp with
    | optr a hi hh =>
     obtain ⟨b,s,hι,rfl⟩:=(hh ds hd).2 h1;obtain ⟨c1,c2,c3⟩:=Yv hx hcs
     obtain ⟨w',ι',q1,q2,q3⟩:=qji (P:=P) (vs:=xv.cells.toList) hs hd h1 hι rfl h4 (by simpa using c1) c2 (fun j d hj=>by
      have:=c3 j d hj;simpa [jp,jV] using this)
     refine ⟨w',ι',?_,q2,q3⟩;simp [Instr.storeAt,Instr.sureAddr,storeVar,Zb h3,c1,h2,q1]
   ·cases h
  ·cases h
 ·cases h
end
end Go.Ev
namespace Go.Ev
section
variable {X:Cx} {P:Program} {ok:Nat→Prop} {w w':World} {ι:qF} {H H':qi}
theorem qkZ {p p':D} {v:Value} {k:Nat} (hp:Rep ok w ι H p v) (h:qdJ k p = some p'):∃ a,v = .pointer (some a)∧Rep ok w ι H p' (.pointer (some (a.add k))):=by
 cases hp <;> simp only [qdJ,reduceCtorEq] at h
 ·rename_i ds a f ha hc hr hh;injection h with h;subst h;refine ⟨a,rfl,.vptr (a.add k) (fun j=>f (k+j)) (fun d hd=>by rw [qcv];exact ha d (V1 hd)) (fun d hd=>hc d (V1 hd)) (fun j d hj=>?_) (fun j d hj=>?_)⟩
  ·rw [qg1];exact hr _ d (by simpa [QE] using hj)
  ·exact hh _ d (by simpa [QE] using hj)
 ·rename_i i st off a hi hh;injection h with h;subst h;refine ⟨a,rfl,.optr _ hi fun ds hd=>⟨(hh ds hd).1,fun e=>?_⟩⟩;obtain ⟨b,s,h1,rfl⟩:=(hh ds hd).2 e;exact ⟨b,s,h1,ZR _ _ _⟩
theorem qyz {s:TypeId} {p p':D} {v:Value} {f:Nat} (hp:Rep ok w ι H p v) (h:qgd P s p f = some p') :
  ∃ v',(Instr.fieldAt s v f).run P w = .ok v' w∧Rep ok w ι H p' v':=by
 unfold qgd qem at h;cases hu:P.underlying s with
 | none=>simp [hu] at h
 | some d =>
  cases d <;> simp only [hu,reduceCtorEq] at h;rename_i fs;cases hf:fs[f]? with
  | none=>simp [hf] at h
  | some fd =>
   simp only [hf] at h;split at h
   ·cases h
   ·rename_i hz;obtain ⟨a,rfl,hr⟩:=qkZ hp h;refine ⟨_,?_,hr⟩;simp [Instr.fieldAt,run_underlying hu,hf,Instr.sureAddr,fieldPlace,Zb (Nat.pos_of_ne_zero hz),hz]
theorem qxs {t:TypeId} {x i p':D} {v iv:Value} (hx:Rep ok w ι H x v) (hi:Rep ok w ι H i iv) (h:qfQ P t x i = some p') :
  ∃ v',(Instr.indexAt t v iv).run P w = .ok v' w∧Rep ok w ι H p' v':=by
 unfold qfQ at h;split at h
 ·rename_i n e k i hu;split at h
  ·rename_i hc;obtain ⟨a,rfl,hr⟩:=qkZ hx h;cases hi;refine ⟨_,?_,hr⟩;simp [Instr.indexAt,asIntOf,run_underlying hu,Instr.sureAddr,hc.1,hc.2.1,Zb hc.2.2]
  ·cases h
 ·rename_i e cs len k i hu;split at h
  ·rename_i hc;injection h with h;subst h;cases hi;cases hx with
   | vsl a f ha Vo hr hh qR =>
    refine ⟨.pointer (some (a.add (i.toNat * qw P e))),?_,.vptr _ (fun j=>f (i.toNat * qw P e+j)) (fun d hd=>by rw [qcv];exact ha d (V1 hd)) (fun d hd=>Vo d (V1 hd)) (fun j d hj=>?_) (fun j d hj=>?_)⟩
    ·simp [Instr.indexAt,asIntOf,run_underlying hu,hc.1,hc.2.1,Zb hc.2.2]
    ·rw [qg1];exact hr _ d (by simpa [QE] using hj)
    ·exact hh _ d (by simpa [QE] using hj)
  ·cases h
 ·rename_i e id st off len k' k i hu;split at h
  ·rename_i hc;injection h with h;subst h;cases hi;cases hx with
   | osl a hi hh qR =>
    refine ⟨.pointer (some (a.add (i.toNat * qw P e))),?_,.optr _ hi fun ds hd=>⟨(hh ds hd).1,fun e=>?_⟩⟩
    ·simp [Instr.indexAt,asIntOf,run_underlying hu,hc.1,hc.2.1,Zb hc.2.2]
    ·obtain ⟨b,s,h1,rfl,_⟩:=(hh ds hd).2 e;exact ⟨b,s,h1,ZR _ _ _⟩
  ·cases h
 ·cases h
theorem qcI {t:TypeId} {cs:List D} {vs:Array Value} {off:Nat} {d:D} (hx:Rep ok w ι H (.agg cs) (.agg vs)) (h:XZ P t cs off = some d) :
  ∃ v,(part t vs off).run P w = .ok v w∧Rep ok w ι H d v:=by
 cases hx with
 | agg hl hc hh =>
  unfold XZ at h;split at h
  ·rename_i hq;split at h
   ·rename_i hle;injection h with h;subst h
    obtain ⟨dsc,hu⟩:∃ dsc,P.underlying t = some dsc:=by
     unfold Vy at hq;cases hu:P.underlying t with
     | none=>simp [hu] at hq
     | some x=>exact ⟨x,rfl⟩
    refine ⟨.agg (vs.extract off (off+qw P t)),by simp [part,qfM hq,qgS hu],?_⟩;refine .agg (by simp;omega) (fun d hd=>hc d (V1 (Jv hd))) fun j d hj=>?_;rw [VV] at hj;split at hj
    ·rename_i vt;rw [QE] at hj;have:=hh _ d hj;rw [jp] at this ⊢;rw [Array.getElem?_extract];rw [if_pos (by omega)];exact this
    ·cases hj
   ·cases h
  ·rename_i hq;have qg:off < vs.size:=(by rw [hl];exact (List.getElem?_eq_some_iff.1 h).1);refine ⟨vs[off],by simp [part,qfM hq,qg],?_⟩;have:=hh _ d h;rw [jp,Jx qg] at this;exact this
  ·cases h
theorem qyy {s:TypeId} {x d:D} {v:Value} {f:Nat} (hx:Rep ok w ι H x v) (h:qgc P s x f = some d) :
  ∃ v',(Instr.field s v f).run P w = .ok v' w∧Rep ok w ι H d v':=by
 unfold qgc qem at h;cases hu:P.underlying s with
 | none=>simp [hu] at h
 | some dd =>
  cases dd <;> simp only [hu,reduceCtorEq] at h;rename_i fs;cases hf:fs[f]? with
  | none=>simp [hf] at h
  | some fd =>
   simp only [hf] at h;cases hx <;> simp only [reduceCtorEq] at h;rename_i ds vs hl hc hh;obtain ⟨v',h1,h2⟩:=qcI (Rep.agg hl hc hh) h;exact ⟨v',by simp [Instr.field,run_underlying hu,hf,asAgg,h1],h2⟩
theorem qxq {t:TypeId} {x i d:D} {v iv:Value} (hx:Rep ok w ι H x v) (hi:Rep ok w ι H i iv) (h:qfP P t x i = some d) :
  ∃ v',(Instr.index t v iv).run P w = .ok v' w∧Rep ok w ι H d v':=by
 unfold qfP at h;split at h
 ·rename_i n e cs k i hu;split at h
  ·rename_i hc;cases hi;cases hx with
   | agg hl Vo hh =>
    obtain ⟨v',h1,h2⟩:=qcI (Rep.agg hl Vo hh) h;refine ⟨v',?_,h2⟩
    have hz:(sizeOf e).run P w = .ok (qw P e) w:=by
     unfold XZ Vy at h;cases hu:P.underlying e with
     | none=>simp [hu] at h
     | some x=>exact qgS hu w
    simp [Instr.index,asIntOf,run_underlying hu,hc.1,hc.2,hz,h1]
  ·cases h
 ·rename_i s k i hu;split at h
  ·rename_i hc;cases hi;cases hx;cases hb:s[i.toNat]? with
   | none=>simp [hb] at h
   | some b =>
    simp only [hb,jF,qu] at h;subst h;have qg:i.toNat < s.length:=(List.getElem?_eq_some_iff.1 hb).1;refine ⟨.int .u8 b.toNat,?_,.int _ _⟩
    have hg:(⟨s.toArray⟩:ByteArray)[i.toNat]? = some b:=by
     have e1:s[i.toNat] = b:=(List.getElem?_eq_some_iff.1 hb).2;rw [getElem?_pos (⟨s.toArray⟩:ByteArray) i.toNat (by simpa [ByteArray.size] using qg)];rw [← e1];rfl
    simp [Instr.index,asIntOf,run_underlying hu,hc,hg]
  ·cases h
 ·cases h
theorem qxo {op:BinOp} {t:TypeId} {k:IntKind} {a b:Int} {d:D} (h1:op≠.shl) (h2:op≠.shr) (h:qfN op k a b = some d) :
  ∃ v,(binOp op t (.int k a) (.int k b)).run P w = .ok v w∧Rep ok w ι H d v:=by
 cases op <;> simp only [qfN,Y2,Kh,zt,qoC,reduceCtorEq,qu,ne_eq] at h h1 h2
 case quo =>
  split at h
  ·cases h
  ·rename_i hb;injection h with h;subst h;exact ⟨_,by simp [binOp,Op.intDiv,hb],.int _ _⟩
 case rem =>
  split at h
  ·cases h
  ·rename_i hb;injection h with h;subst h;exact ⟨_,by simp [binOp,Op.intDiv,hb],.int _ _⟩
 case add | sub | mul =>
  subst h;exact ⟨_,by simp [binOp,Op.intArith],.int _ _⟩
 case and | or | xor | andNot =>
  subst h;exact ⟨_,by simp only [binOp,ne_eq,not_true_eq_false,if_false];rfl,.int _ _⟩
 all_goals
  subst h;exact ⟨_,by simp [binOp,Op.intCmp],.bool _⟩
theorem qjO {op:BinOp} {t:TypeId} {k k':IntKind} {a b:Int} {d:D} (ho:op = .shl∨op = .shr) (h:qdz op k a b = some d) :
  ∃ v,(binOp op t (.int k a) (.int k' b)).run P w = .ok v w∧Rep ok w ι H d v:=by
 unfold qdz at h;split at h
 ·cases h
 ·rename_i hb;rcases ho with rfl | rfl <;> simp only [qu] at h <;> subst h
  ·exact ⟨_,by simp [binOp,Op.shift,hb],.int _ _⟩
  ·exact ⟨_,by simp [binOp,Op.shift,hb],.int _ _⟩
theorem qpL {op:BinOp} {t:TypeId} {x y:List UInt8} {d:D} (h:strD op x y = some d) :
  ∃ v,(binOp op t (.string ⟨x.toArray⟩) (.string ⟨y.toArray⟩)).run P w = .ok v w∧Rep ok w ι H d v:=by
 cases op <;> simp only [strD,reduceCtorEq] at h
 case add =>
  split at h
  ·rename_i hl;injection h with h;subst h;refine ⟨.string ⟨(x ++ y).toArray⟩,?_,.str _⟩
   have e:(⟨x.toArray⟩:ByteArray) ++ ⟨y.toArray⟩ = ⟨(x ++ y).toArray⟩:=by
    apply ByteArray.ext;simp
   simp only [binOp,Op.stringOp,e];rw [if_neg]
   ·rfl
   ·simp [ByteArray.size,IntKind.max,IntKind.bits,IntKind.signed];omega
  ·cases h
 all_goals
  injection h with h;subst h;exact ⟨_,by simp [binOp,Op.stringOp],.bool _⟩
theorem qpl {op:UnOp} {x d:D} {v:Value} (hx:Rep ok w ι H x v) (h:QZ op x = some d) :
  ∃ v',(Op.unary op v).run P w = .ok v' w∧Rep ok w ι H d v':=by
 unfold QZ at h;split at h <;> cases h <;> cases hx
 ·exact ⟨_,by simp [Op.unary,Op.intArith],.int _ _⟩
 ·exact ⟨_,by simp [Op.unary,Op.intBits],.int _ _⟩
 ·exact ⟨_,by simp [Op.unary],.bool _⟩
end
end Go.Ev
namespace Go.Ev
section
variable {X:Cx} {P:Program} {ok:Nat→Prop} {w w':World} {ι:qF} {H H':qi}
theorem qon {w w1:World} (h:w1.heap = w.heap) (a:Addr):w1.cell? a = w.cell? a:=by simp [World.cell?,h]
theorem qjI {k n:Nat} {x:D} {v:Value} {cs:List D} (hs:Sim X ok w ι H) (hx:Rep ok w ι H x v) (h:Xo H k x = some (cs,n)) :
  cs.length = n * k∧(∀ d,d∈cs→zR d = true)∧∃ A c,v = .slice A n c∧n≤c∧(A = none→n = 0) ∧
   ∃ f:Nat→Value,∀ (j:Nat) d,cs[j]? = some d→∃ a,A = some a∧w.cell? (a.add j) = some (f j)∧Rep ok w ι H d (f j):=by
 cases hx with
 | vnil =>
  simp only [Xo] at h;split at h
  ·rename_i hl;injection h with h;injection h with h1 h2;subst h1;subst h2;exact ⟨hl,by simp,none,0,rfl,qB _,fun _=>rfl,fun _=>undef,by simp⟩
  ·cases h
 | vsl a f ha hc hr hh qR =>
  simp only [Xo] at h;split at h
  ·rename_i hl;injection h with h;injection h with h1 h2;subst h1;subst h2;exact ⟨hl,hc,some a,_,rfl,qR,fun h=>by (cases h),f,fun j d hj=>⟨a,rfl,hr j d hj,(hh j d hj).lift⟩⟩
  ·cases h
 | @osl _ _ i st off len k' c a hi hh qR =>
  simp only [Xo] at h;split at h
  ·rename_i ds hd;split at h
   ·rename_i hcond;obtain ⟨h1,h2,h3⟩:=hcond;injection h with h;injection h with h4 h5;subst h4;subst h5;obtain ⟨b,s,q1,rfl,q3⟩:=(hh ds hd).2 h1;obtain ⟨b',arr,e,fr,k1,k2,k3,k4,k5,k6,k7,k8⟩:=hs.blk i ds hd;rw [q1] at k1;injection k1 with k1;injection k1 with k1 _;subst k1;refine ⟨by simp;omega,fun d hd=>k7 d (V1 (Jv hd)),some ⟨b,off,none⟩,c,rfl,qR,(fun h=>by cases h),fun j=>arr.getD (off+j) undef,fun j d hj=>⟨_,rfl,?_⟩⟩;rw [VV] at hj;split at hj
    ·rw [QE] at hj;have qg:off+j < arr.size:=jP (List.getElem?_eq_some_iff.1 hj).1 k4;refine ⟨?_,k8 _ d hj⟩;rw [ZR,cell_of_heap k3];simp [qg]
    ·cases hj
   ·cases h
  ·cases h
 | _=>simp [Xo] at h
def Xz (s:List UInt8):List Value:=s.map fun b=>.int .u8 (b.toNat:Int)
theorem qhB (s:List UInt8) (j:Nat) (d:D) (h:(qd s)[j]? = some d):Rep ok w ι H d (((Xz s)).getD j undef):=by
 unfold qd at h;rw [XP] at h;cases hj:s[j]? with
 | none=>simp [hj] at h
 | some b =>
  simp only [hj,jF,qu] at h;subst h
  have:(Xz s).getD j undef = .int .u8 (b.toNat:Int):=by
   unfold Xz;simp [jV,hj]
  rw [this];exact .int _ _
theorem qgR {k m:Nat} {xt:TypeId} {x:D} {v:Value} {xs:List D} (hs:Sim X ok w ι H) (hx:Rep ok w ι H x v) (h:qdv P H k xt x = some (xs,m)) :
  xs.length = m * k∧(∀ d,d∈xs→zR d = true)∧(∃ dsc,P.underlying xt = some dsc∧∀ q,dsc≠.int q) ∧
  (∀ w1:World,(Builtin.lenOf v).run P w1 = .ok m w1) ∧
  ∀ n,n≤m→∃ vs:List Value,vs.length = n * k∧(∀ w1:World,w1.heap = w.heap→(Builtin.firstCells k n v).run P w1 = .ok vs.toArray w1) ∧
   ∀ (j:Nat) d,j < n * k→xs[j]? = some d→Rep ok w ι H d (vs.getD j undef):=by
 unfold qdv at h;split at h
 ·rename_i b hu;split at h
  ·rename_i hk;subst hk;injection h with h;injection h with h1 h2;subst h1;subst h2;cases hx;refine ⟨by simp [qd],?_,⟨_,hu,fun q=>by simp⟩,fun w1=>by simp [Builtin.lenOf,ByteArray.size],fun n hn=>⟨(Xz b).take n,by simp [Xz];omega,fun w1 _=>?_,fun j d hj hd=>?_⟩⟩
   ·intro d hd;simp only [qd,List.mem_map] at hd;obtain ⟨_,_,rfl⟩:=hd;rfl
   ·have he:(⟨b.toArray⟩:ByteArray).extract 0 n = ⟨(b.take n).toArray⟩:=by
     apply ByteArray.ext;simp
    simp [Builtin.firstCells,he,Xz,List.map_take]
   ·have h:=qhB (ok:=ok) (w:=w) (ι:=ι) (H:=H) b j d hd;rw [jV] at h ⊢;rw [VV,if_pos (by omega)];exact h
  ·cases h
 ·rename_i e hu;obtain ⟨h1,h2,A,c,rfl,qR,hA,f,hf⟩:=qjI hs hx h;refine ⟨h1,h2,⟨_,hu,fun q=>by simp⟩,fun w1=>by simp [Builtin.lenOf],fun n hn=>?_⟩;have qg:∀ j,j < n * k→∃ d,xs[j]? = some d:=fun j hj=>⟨xs[j]'(by have:=qbD k hn;omega),zi _⟩;cases A with
  | none =>
   have hm:m = 0:=hA rfl;subst hm;have QO:n = 0:=(by omega);subst QO;exact ⟨[],by simp,fun w1 _=>by simp [Builtin.firstCells],fun j d hj _=>by simp at hj⟩
  | some a =>
   refine ⟨(List.range (n * k)).map f,by simp,fun w1 qO=>?_,fun j d hj hd=>?_⟩
   ·have hl:=run_loadCells (P:=P) w1 a (n * k) f (fun j hj=>by
     obtain ⟨d,hd⟩:=qg j hj;obtain ⟨a',VL,hc,_⟩:=hf j d hd;injection VL with VL;subst VL;rw [qon qO];exact hc)
    simp [Builtin.firstCells,hl]
   ·obtain ⟨_,_,_,hr⟩:=hf j d hd;rw [jV];simpa [hj] using hr
 ·cases h
theorem qdl {t:TypeId} {z:D} (h:VZ P t = some z):∃ v,(∀ w1:World,(zeroValue t).run P w1 = .ok v w1)∧∀ (ok:Nat→Prop) (w:World) (ι:qF) (H:qi),Rep ok w ι H z v:=by
 unfold VZ at h;cases hi:P.info? t with
 | none=>simp [hi] at h
 | some i =>
  cases hz:i.zero with
  | none=>simp [hi,hz] at h
  | some v =>
   simp only [hi,hz,Y3] at h;exact ⟨v,fun w1=>by simp [zeroValue,typeInfo,hi,hz],fun ok w ι H=>qlw h⟩
theorem qyq {z:List D} {n j:Nat} (h:j < n * z.length):((List.replicate n z).flatten)[j]? = z[j % z.length]?:=by
 induction n generalizing j with
 | zero=>omega
 | succ n ih =>
  rw [qa1,qc1];by_cases hj:j < z.length
  ·rw [ZY hj,qbE hj]
  ·have hz:z.length≤j:=(by omega);have h':j < n * z.length+z.length:=(by rw [← Nat.succ_mul];exact h);rw [VW hz,ih (by omega)];congr 1;rw [Nat.mod_eq_sub_mod hz]
theorem qdm {t:TypeId} {n:Nat} {zs:List D} (h:qbL P t n = some zs):∃ v,(∀ w1:World,(zeroValue t).run P w1 = .ok v w1)∧v.cells.size = qw P t∧0 < qw P t∧zs.length = n * qw P t ∧
  (∀ d,d∈zs→zR d = true)∧(∀ j,j < qw P t→(v.cells.getD j undef).oneCell' = true) ∧
  ∀ (ok:Nat→Prop) (w:World) (ι:qF) (H:qi) (j:Nat) d,zs[j]? = some d→Rep ok w ι H d (v.cells.getD (j % qw P t) undef):=by
 unfold qbL at h;split at h
 ·rename_i z hz;split at h
  ·rename_i hl;obtain ⟨hl,kh⟩:=hl;injection h with h;subst h;cases X7:VZ P t with
   | none=>simp [X7] at hz
   | some zd =>
    simp only [X7,Y3] at hz;obtain ⟨v,hv,hr⟩:=qdl X7;obtain ⟨c1,c2,_⟩:=Yv (hr (fun _=>True) default zg []) hz;refine ⟨v,hv,by omega,kh,by simp [hl],?_,?_,?_⟩
    ·intro d hd;rw [List.mem_flatten] at hd;obtain ⟨l,h1,h2⟩:=hd;rw [(List.mem_replicate.1 h1).2] at h2;exact c2 d h2
    ·intro j hj;obtain ⟨_,c2,c3⟩:=Yv (hr (fun _=>True) default zg []) hz;have hz':z[j]? = some (z[j]'(by omega)):=zi (by omega);exact (c3 j _ hz').oneCell (c2 _ (mem_of_get? hz'))
    ·intro ok w ι H j d hj
     have vt:j < n * z.length:=by
      have:=(List.getElem?_eq_some_iff.1 hj).1;simpa using this
     rw [qyq vt,hl] at hj;obtain ⟨_,_,c3⟩:=Yv (hr ok w ι H) hz;exact c3 _ d hj
  ·cases h
 ·cases h
theorem qoS {z:Array Value} {n j:Nat} (h:j < n * z.size):(Builtin.zeroCells z n)[j]? = some (z.getD (j % z.size) undef):=by
 unfold Builtin.zeroCells
 have hz:0 < z.size:=by
  rcases Nat.eq_zero_or_pos z.size with h0 | h0
  ·rw [h0] at h;omega
  ·exact h0
 have hm:=JT j hz;rw [Array.getElem?_map,Array.getElem?_range];simp only [h,if_true,jF,qu];rw [jp,Jx hm];simp [hm]
theorem qcK {ds:List D} {arr:Array Value} {e:TypeId} (hs:Sim X ok w ι H) (w1:World) (qO:qax w w1) (hh:w1.heap = w.heap) (hl:ds.length≤arr.size)
  (Zi:∀ j,j < arr.size→(arr.getD j undef).oneCell' = true) (hc:∀ d,d∈ds→zR d = true) (hr:∀ (j:Nat) d,ds[j]? = some d→Rep ok w ι H d (arr.getD j undef)) :
  ∃ ι',Sim X ok (w1.alloc (.cells arr e)) ι' (vA H ds)∧Evol H.length ok w ι H ok (w1.alloc (.cells arr e)) ι' (vA H ds)∧ι' H.length = some (w.heap.size,arr.size):=by
 refine qjC (fr:=(0,0)) (e:=e) hs qO (by simp [hh]) (fun c jC=>?_) ?_ (qB _) hl (.inl rfl) Zi hc hr
 ·rw [← hh];exact heap_alloc_old w1 _ (by rw [hh];exact jC)
 ·rw [← hh];exact heap_alloc_new w1 _
theorem qnA (w:World):qax w w.drew:=⟨rfl,rfl,rfl⟩
theorem qka {st xt ty e:TypeId} {dsc:TypeDesc} {zv xv:Value} {base:Option Addr} {sLen sCap m:Nat} {olds news:List Value} (hu:P.underlying st = some (.slice e)) (hxu:P.underlying xt = some dsc)
  (hni:∀ q,dsc≠.int q) (hz:∀ w1:World,(zeroValue e).run P w1 = .ok zv w1) (zh:0 < qw P e) (zo:∀ w1:World,(Builtin.lenOf xv).run P w1 = .ok m w1)
  (hold:∀ w1:World,w1.heap = w.heap→(Builtin.firstCells (qw P e) sLen (.slice base sLen sCap)).run P w1 = .ok olds.toArray w1)
  (hnew:∀ w1:World,w1.heap = w.heap→(Builtin.firstCells (qw P e) m xv).run P w1 = .ok news.toArray w1)
  (hg:sCap < sLen+m) (h1:sLen+m≤qI) (h2:(sLen+m) * bytesOf P e≤qI) :
  (Builtin.append_ #[st,xt] ty #[.slice base sLen sCap,xv]).run P w =
   .ok (.slice (some ⟨w.heap.size,0,none⟩) (sLen+m) (grownCap w (sLen+m) sCap e))
    (w.drew.alloc (.cells (olds.toArray ++ news.toArray ++ Builtin.zeroCells zv.cells (grownCap w (sLen+m) sCap e - (sLen+m))) e)):=by
 obtain ⟨i,hi,i2,i3⟩:=qfO zh;have hn:¬ (sLen+m≤sCap):=by omega
 simp only [qI] at h1 h2;have h63':¬ (9223372036854775807 < ((sLen:Int)+(m:Int))):=by omega
 have h48:=growslice_fits (need:=sLen+m) (old:=sCap) (by omega) h2;have h48':¬ (281474976710656 < Builtin.nextslicecap (sLen+m) sCap * i.bytes):=by rw [i3];omega
 have hf:=hnew w.drew rfl;have hfo:=hold w.drew rfl;simp [Builtin.append_,run_underlying hu,run_underlying hxu,Zb zh,zo,typeInfo,hi,hn,h63',h48',Question.forced,hz,hf,hfo,newRow,grownCap];congr 2;apply Array.ext';simp [vI]
theorem qmG {e:TypeId} {zv:Value} {old news:List Value} {xs:List D} {n:Nat} (hz:zv.cells.size = qw P e) (kh:0 < qw P e) (z6:∀ j,j < qw P e→(zv.cells.getD j undef).oneCell' = true)
  (c2:∀ d,d∈xs→zR d = true) (hl:(old ++ news).length = xs.length) (hr:∀ (j:Nat) d,xs[j]? = some d→Rep ok w ι H d ((old ++ news).getD j undef)) :
  (∀ j,j < (old.toArray ++ news.toArray ++ Builtin.zeroCells zv.cells n).size→((old.toArray ++ news.toArray ++ Builtin.zeroCells zv.cells n).getD j undef).oneCell' = true) ∧
  ∀ (j:Nat) d,xs[j]? = some d→Rep ok w ι H d ((old.toArray ++ news.toArray ++ Builtin.zeroCells zv.cells n).getD j undef):=by
 have kx:∀ j,j < xs.length→(old.toArray ++ news.toArray ++ Builtin.zeroCells zv.cells n).getD j undef = (old ++ news).getD j undef:=by
  intro j hj;rw [jp,qg6 (by simp at hl ⊢;omega),jV];simp
 constructor
 ·intro j hj;by_cases hjx:j < xs.length
  ·rw [kx j hjx];have hxj:xs[j]? = some (xs[j]'(by omega)):=zi (by omega);exact (hr j _ hxj).oneCell (c2 _ (mem_of_get? hxj))
  ·have hll:(old ++ news).length = old.length+news.length:=qC;rw [jp,Array.getElem?_append_right (by simp;omega)];simp only [Array.size_append,List.size_toArray,size_zeroCells] at hj ⊢;rw [qoS (by omega)];exact z6 _ (by rw [← hz];exact JT _ (by omega))
 ·intro j d hj;rw [kx j (List.getElem?_eq_some_iff.1 hj).1];exact hr j d hj
theorem q0C {st xt ty:TypeId} {s x d:D} {sv xv:Value} (hs:Sim X ok w ι H) (hsv:Rep ok w ι H s sv) (hx:Rep ok w ι H x xv) (h:qg0 P H st xt s x = some (d,H')) :
  ∃ v w',(Builtin.append_ #[st,xt] ty #[sv,xv]).run P w = .ok v w'∧Post X H.length ok w ι H d H' v w':=by
 unfold qg0 at h;split at h
 ·rename_i e hu;split at h
  ·rename_i xs m _ hsrc hz;obtain ⟨c1,c2,⟨dsc,hxu,hni⟩,c3,c4⟩:=qgR (P:=P) hs hx hsrc;obtain ⟨zv,z1,z2,z3,_,_,z6,_⟩:=qdm hz;obtain ⟨inf,i1,i2,i3⟩:=qfO z3;cases hsv;split at h
   ·rename_i hm;subst hm;injection h with h;injection h with h1 h2;subst h1;subst h2;obtain ⟨vs,v1,v2,_⟩:=c4 0 (qB _);refine ⟨.slice none 0 0,w,?_,Post.same hs .vnil⟩;simp [Builtin.append_,run_underlying hu,run_underlying hxu,Zb z3,c3,v2 w rfl]
   ·rename_i hm;split at h
    ·rename_i hcond;obtain ⟨b1,b2,b3⟩:=hcond;injection h with h;injection h with h1 h2;subst h1;subst h2;obtain ⟨vs,v1,v2,v3⟩:=c4 m (qB _);obtain ⟨g1,g2⟩:=qmG (old:=[]) (news:=vs) (n:=grownCap w (0+m) 0 e - (0+m)) z2 z3 z6 c2 (by simp;omega) (fun j d hj=>v3 j d (by have:=(List.getElem?_eq_some_iff.1 hj).1;omega) hj);obtain ⟨ι',n1,n2,n3⟩:=qcK (e:=e) (ds:=xs) hs w.drew (qnA w) rfl (by simp;omega) g1 c2 g2;refine ⟨_,_,qka (olds:=[]) (news:=vs) hu hxu hni z1 z3 c3 (fun w1 _=>by simp [Builtin.firstCells]) v2 (by omega) (by omega) (by rw [vQ];exact b1),ι',ok,n1,?_,n2⟩;have hge:=grownCap_ge w (0+m) 0 e;rw [vQ] at hge ⊢;refine .osl _ (by rw [Vb];omega) (fun ds hd=>?_) hge;rw [Ym] at hd;injection hd with hd;subst hd;refine ⟨qB _,fun _=>⟨_,_,n3,rfl,?_⟩⟩;simp only [Array.size_append,List.size_toArray,size_zeroCells,z2,v1,qX,vQ,← vR];rw [show m+(grownCap w m 0 e - m) = grownCap w m 0 e by omega];exact qB _
    ·cases h
  ·rename_i xs m _ i sm len k hsrc hz;split at h
   ·rename_i ds hd;split at h
    ·rename_i hcond;obtain ⟨b1,b2,b3,b4,b5,b6⟩:=hcond;injection h with h;injection h with h1 h2;subst h1;subst h2;obtain ⟨c1,c2,⟨dsc,hxu,hni⟩,c3,c4⟩:=qgR (P:=P) hs hx hsrc;obtain ⟨zv,z1,z2,z3,_,_,z6,_⟩:=qdm hz;obtain ⟨vs,v1,v2,v3⟩:=c4 m (qB _);subst b2;cases hsv with
     | @osl _ _ _ _ _ _ _ c a hi hh qR =>
      obtain ⟨b,s,q1,rfl,q3⟩:=(hh ds hd).2 b1;obtain ⟨b',arr,e2,fr,k1,k2,k3,k4,k5,k6,k7,k8⟩:=hs.blk i ds hd;rw [q1] at k1;injection k1 with k1;injection k1 with k1 k1';subst k1;have vY:ds.length = len * qw P e:=by omega
      have happ:∀ d,d∈ds ++ xs→zR d = true:=by
       intro d hd;rcases List.mem_append.1 hd with h | h
       ·exact k7 d h
       ·exact c2 d h
      by_cases hroom:len+m≤c
      ·-- in place
       have hmul:(len+m) * qw P e≤c * qw P e:=qbD _ hroom;rw [vR] at hmul
       have Zi:∀ v,v∈vs→v.oneCell' = true:=by
        intro v hv;obtain ⟨j,hj⟩:=List.mem_iff_getElem?.1 hv;have vt:j < vs.length:=(List.getElem?_eq_some_iff.1 hj).1;have hxj:xs[j]? = some (xs[j]'(by omega)):=zi (by omega);have h:=v3 j _ (by omega) hxj;rw [jV,hj] at h;exact h.oneCell (c2 _ (mem_of_get? hxj))
       obtain ⟨w',arr',r1,r2,r3,r4,r5,r6,r7⟩:=qgK (P:=P) b (len * qw P e) e2 fr vs 0 arr w k3 (by omega) Zi (qmS k5)
       have qq:∀ j,j < arr.size→arr'.getD j undef = if len * qw P e≤j∧j < len * qw P e+m * qw P e then vs.getD (j - len * qw P e) undef else arr.getD j undef:=by
        intro j hj;simp only [jp,r7 j,jV,Nat.add_zero,v1];split <;> rfl
       obtain ⟨ι',s1,s2,s3⟩:=qeV (i:=i) (ds:=ds) (ds':=ds ++ xs) (b:=b) (sz:=s) (b':=b) (arr':=arr') (e:=e2) (fr:=fr) (w':=w') hs hd q1 r2 (by omega) (fun c _ hc=>r4 c hc) r5 (.inl ⟨rfl,by omega⟩)
        (by simp) (by simp;omega) (by rw [r6];exact k5)
        (by
         intro j hj;rw [r6] at hj;rw [qq j hj];by_cases hr:len * qw P e≤j∧j < len * qw P e+m * qw P e
         ·rw [if_pos hr];have:j - len * qw P e < vs.length:=(by omega);rw [jV,zi this];exact Zi _ (vw this)
         ·rw [if_neg hr];exact k6 j hj)
        happ
        (by
         intro j d hj
         have vt:j < ds.length+xs.length:=by
          have:=(List.getElem?_eq_some_iff.1 hj).1;simpa using this
         rw [qq j (by omega)];by_cases hjd:j < ds.length
         ·rw [if_neg (by omega)];rw [ZY hjd] at hj;exact k8 j d hj
         ·rw [if_pos (by omega)];rw [VW (by omega)] at hj;rw [← vY];exact v3 _ d (by omega) hj)
       refine ⟨.slice (some ⟨b,0,none⟩) (len+m) c,w',?_,ι',ok,s1,?_,s2⟩
       ·simp [Builtin.append_,run_underlying hu,run_underlying hxu,Zb z3,c3,hroom,v2 w rfl,ZR,r1]
       ·refine .osl _ (by rw [qhR];exact hi) (fun ds' zp=>?_) hroom;rw [qfX hi] at zp;injection zp with zp;subst zp;refine ⟨by simp [b1],fun _=>⟨b,arr'.size,s3,rfl,by omega⟩⟩
      ·-- a new block
       have hold:∀ w1:World,w1.heap = w.heap→(Builtin.firstCells (qw P e) len (.slice (some ⟨b,0,none⟩) len c)).run P w1 = .ok ((List.range (len * qw P e)).map fun j=>arr.getD j undef).toArray w1:=by
        intro w1 qO
        have hl:=run_loadCells (P:=P) w1 ⟨b,0,none⟩ (len * qw P e) (fun j=>arr.getD j undef) (fun j hj=>by
         rw [ZR,qon qO,cell_of_heap k3];have:j < arr.size:=(by omega);simp [this])
        simp only [Builtin.firstCells];exact hl
       obtain ⟨g1,g2⟩:=qmG (xs:=ds ++ xs) (old:=(List.range (len * qw P e)).map fun j=>arr.getD j undef) (news:=vs) (n:=grownCap w (len+m) c e - (len+m)) z2 z3 z6 happ (by simp;omega)
        (fun j d hj=>by
         have vt:j < ds.length+xs.length:=by
          have:=(List.getElem?_eq_some_iff.1 hj).1;simpa using this
         rw [jV];by_cases hjd:j < ds.length
         ·rw [ZY hjd] at hj;rw [ZY (by simp;omega)];have:=k8 j d hj;simpa [show j < len * qw P e by omega] using this
         ·rw [VW (by omega)] at hj;rw [VW (by simp;omega)];have:=v3 _ d (by omega) hj;rw [jV] at this;simpa [vY] using this)
       have YO:(((List.range (len * qw P e)).map fun j=>arr.getD j undef).toArray ++ vs.toArray ++ Builtin.zeroCells zv.cells (grownCap w (len+m) c e - (len+m))).size = grownCap w (len+m) c e * qw P e:=by
        have hge:=grownCap_ge w (len+m) c e;simp only [Array.size_append,List.size_toArray,size_zeroCells,z2,v1,List.length_map,List.length_range,← vR];rw [show len+m+(grownCap w (len+m) c e - (len+m)) = grownCap w (len+m) c e by omega]
       have hm:0 < m:=(by omega);have hmk:0 < m * qw P e:=Nat.mul_pos hm z3
       obtain ⟨ι',s1,s2,s3⟩:=qeV (i:=i) (ds:=ds) (ds':=ds ++ xs) (b:=b) (sz:=s) (b':=w.heap.size) (w':=w.drew.alloc (.cells (((List.range (len * qw P e)).map fun j=>arr.getD j undef).toArray ++ vs.toArray ++ Builtin.zeroCells zv.cells (grownCap w (len+m) c e - (len+m))) e))
        (e:=e) (fr:=(0,0)) hs hd q1 (qnA w) (by simp) (fun c hc _=>heap_alloc_old w.drew _ hc) (heap_alloc_new w.drew _) (.inr ⟨qB _,by simp;omega⟩) (by simp)
        (by
         rw [YO];have hge:=qbD (qw P e) (grownCap_ge w (len+m) c e);rw [vR] at hge;simp;omega) (.inl rfl) g1 happ g2
       refine ⟨_,_,qka hu hxu hni z1 z3 c3 hold v2 (by omega) b5 b4,ι',ok,s1,?_,s2⟩;refine .osl _ (by rw [qhR];exact hi) (fun ds' zp=>?_) (grownCap_ge w (len+m) c e);rw [qfX hi] at zp;injection zp with zp;subst zp;refine ⟨by simp [b1],fun _=>⟨_,_,s3,rfl,by rw [YO];omega⟩⟩
    ·cases h
   ·cases h
  ·cases h
 ·cases h
end
end Go.Ev
namespace Go.Ev
section
variable {X:Cx} {P:Program} {ok:Nat→Prop} {w w':World} {ι:qF} {H H':qi}
theorem qfa {n:Nat} {l:Int} {k:IntKind} {c:BoundsCode} (h:0≤l∧l≤n) (w:World):(Instr.sliceBound (.int k l) n c).run P w = .ok l.toNat w:=by
 simp [Instr.sliceBound,asIntOf,h]
theorem qdf {isSlice:Bool} {n c l h:Nat} {lo hi:Option D} {lov hiv:Option Value} (hl:∀ d,lo = some d→∃ v,lov = some v∧Rep ok w ι H d v) (Qq:lo = none→lov = none)
  (hh:∀ d,hi = some d→∃ v,hiv = some v∧Rep ok w ι H d v) (YW:hi = none→hiv = none) (hnc:n≤c) (hb:qb8 n lo hi = some (l,h)) (w:World) :
  l≤h∧h≤n∧(Instr.sliceBounds isSlice n c lov hiv none).run P w = .ok (l,h,c) w:=by
 unfold qb8 at hb;split at hb
 ·injection hb with hb;injection hb with h1 h2;subst h1;subst h2;rw [Qq rfl,YW rfl];exact ⟨jk _,qB _,by simp [Instr.sliceBounds]⟩
 ·rename_i k a;split at hb
  ·rename_i hc;injection hb with hb;injection hb with h1 h2;subst h1;subst h2;obtain ⟨v,rfl,hr⟩:=hl _ rfl;cases hr;rw [YW rfl];exact ⟨by omega,qB _,by simp [Instr.sliceBounds,qfa hc]⟩
  ·cases hb
 ·rename_i k a;split at hb
  ·rename_i hc;injection hb with hb;injection hb with h1 h2;subst h1;subst h2;obtain ⟨v,rfl,hr⟩:=hh _ rfl;cases hr;rw [Qq rfl];refine ⟨jk _,by omega,?_⟩;simp [Instr.sliceBounds,qfa (show 0≤a∧a≤(c:Int) from ⟨hc.1,by omega⟩)]
  ·cases hb
 ·rename_i k a k' a';split at hb
  ·rename_i hc;injection hb with hb;injection hb with h1 h2;subst h1;subst h2;obtain ⟨v,rfl,hr⟩:=hl _ rfl;obtain ⟨v',rfl,hr'⟩:=hh _ rfl;cases hr;cases hr';refine ⟨by omega,by omega,?_⟩;simp [Instr.sliceBounds,qfa (show 0≤a'∧a'≤(c:Int) from ⟨hc.1,by omega⟩),qfa (show 0≤a∧a≤(a'.toNat:Int) from ⟨hc.2.2.1,by omega⟩)]
  ·cases hb
 ·cases hb
theorem qfc {t:TypeId} {x d:D} {xv:Value} {lo hi:Option D} {lov hiv:Option Value} (hs:Sim X ok w ι H) (hx:Rep ok w ι H x xv) (hl:∀ d,lo = some d→∃ v,lov = some v∧Rep ok w ι H d v) (Qq:lo = none→lov = none)
  (hh:∀ d,hi = some d→∃ v,hiv = some v∧Rep ok w ι H d v) (YW:hi = none→hiv = none) (h:qbS P t x lo hi = some d) :
  ∃ v,(Instr.sliceAt t xv lov hiv none).run P w = .ok v w∧Rep ok w ι H d v:=by
 unfold qbS at h;split at h
 ·-- a text
  rename_i s hu;split at h
  ·rename_i l hb zN;injection h with h;subst h;cases hx;obtain ⟨b1,b2,b3⟩:=qdf (P:=P) (isSlice:=false) (c:=s.length) hl Qq hh YW (qB _) zN w;refine ⟨.string ⟨((s.drop l).take (hb - l)).toArray⟩,?_,.str _⟩;have zh:(⟨s.toArray⟩:ByteArray).size = s.length:=by simp [ByteArray.size]
   have he:(⟨s.toArray⟩:ByteArray).extract l hb = ⟨((s.drop l).take (hb - l)).toArray⟩:=by
    apply ByteArray.ext;simp [List.extract_eq_take_drop]
   simp [Instr.sliceAt,run_underlying hu,Instr.slice,zh,b3,he]
  ·cases h
 ·-- a slice of others
  rename_i e nil cs len hu;split at h
  ·rename_i l hb zN;split at h
   ·rename_i hc;obtain ⟨zo,kh⟩:=hc;injection h with h;subst h;cases hx with
    | vnil =>
     obtain ⟨b1,b2,b3⟩:=qdf (P:=P) (isSlice:=true) (c:=0) hl Qq hh YW (qB _) zN w;have Kw:hb = 0:=(by omega);have jL:l = 0:=(by omega);subst Kw;subst jL;refine ⟨.slice none 0 0,?_,by simpa using Rep.vnil⟩;simp [Instr.sliceAt,run_underlying hu,Instr.slice,b3,Zb kh]
    | @vsl _ _ _ _ c a f ha Vo hr YX qR =>
     obtain ⟨b1,b2,b3⟩:=qdf (P:=P) (isSlice:=true) (c:=c) hl Qq hh YW qR zN w;refine ⟨.slice (some (if c = l then a else a.add (l * qw P e))) (hb - l) (c - l),?_,?_⟩
     ·simp only [Instr.sliceAt,Sem.run_bind,run_underlying hu,Result.andThen_ok,Instr.slice,b3,Zb kh,Sem.run_pure];split <;> rfl
     ·refine .vsl _ (fun j=>f (l * qw P e+j)) (fun d hd=>by have:=ha d (V1 (Jv hd));split <;> simp [qcv,this]) (fun d hd=>Vo d (V1 (Jv hd))) (fun j d hj=>?_) (fun j d hj=>?_) (by omega)
      ·rw [VV] at hj;split at hj
       ·rename_i vt;rw [QE] at hj
        have jC:c≠l:=by
         rintro rfl;have:hb - c = 0:=(by omega);rw [this] at vt;omega
        rw [if_neg jC,qg1];exact hr _ d hj
       ·cases hj
      ·rw [VV] at hj;split at hj
       ·rw [QE] at hj;exact YX _ d hj
       ·cases hj
   ·cases h
  ·cases h
 ·-- a slice of the run's own
  rename_i e id st off len k hu;split at h
  ·rename_i l hb zN;split at h
   ·rename_i hc;obtain ⟨rfl,kh,jL⟩:=hc;injection h with h;subst h;cases hx with
    | @osl _ _ _ _ _ _ _ c a ZG YX qR =>
     obtain ⟨b1,b2,b3⟩:=qdf (P:=P) (isSlice:=true) (c:=c) hl Qq hh YW qR zN w;refine ⟨.slice (some (if c = l then a else a.add (l * qw P e))) (hb - l) (c - l),?_,?_⟩
     ·simp only [Instr.sliceAt,Sem.run_bind,run_underlying hu,Result.andThen_ok,Instr.slice,b3,Zb kh,Sem.run_pure];split <;> rfl
     ·refine .osl _ ZG (fun ds hd=>⟨(YX ds hd).1,fun he=>?_⟩) (by omega);obtain ⟨b,s,q1,rfl,q3⟩:=(YX ds hd).2 he;have hle:l≤c:=(by omega);have hmul:l * qw P e+(c - l) * qw P e = c * qw P e:=(by rw [← vR];congr 1;omega);refine ⟨b,s,q1,?_,by omega⟩;split
      ·rename_i jC;rcases jL with h0 | h0
       ·subst h0;simp
       ·omega
      ·rw [ZR]
   ·cases h
  ·cases h
 ·-- an array of others
  rename_i n e cs hu;split at h
  ·rename_i l hb zN;split at h
   ·rename_i hc;obtain ⟨qab,kh,jL⟩:=hc;injection h with h;subst h;cases hx with
    | vptr a f ha Vo hr YX =>
     obtain ⟨b1,b2,b3⟩:=qdf (P:=P) (isSlice:=false) (c:=n) hl Qq hh YW (qB _) zN w;refine ⟨.slice (some (if n = l then a else a.add (l * qw P e))) (hb - l) (n - l),?_,?_⟩
     ·simp only [Instr.sliceAt,Sem.run_bind,run_underlying hu,Result.andThen_ok,Instr.sureAddr,b3,Zb kh,Sem.run_pure]
     ·refine .vsl _ (fun j=>f (l * qw P e+j)) (fun d hd=>by have:=ha d (V1 (Jv hd));split <;> simp [qcv,this]) (fun d hd=>Vo d (V1 (Jv hd))) (fun j d hj=>?_) (fun j d hj=>?_) (by omega)
      ·rw [VV] at hj;split at hj
       ·rename_i vt;rw [QE] at hj
        have jC:n≠l:=by
         rintro rfl;have:hb - n = 0:=(by omega);rw [this] at vt;omega
        rw [if_neg jC,qg1];exact hr _ d hj
       ·cases hj
      ·rw [VV] at hj;split at hj
       ·rw [QE] at hj;exact YX _ d hj
       ·cases hj
   ·cases h
  ·cases h
 ·-- an array of the run's own
  rename_i n e id st off hu;split at h
  ·rename_i l hb zN;split at h
   ·rename_i hc;obtain ⟨jL,qab,kh⟩:=hc;injection h with h;subst h;cases hx with
    | optr a ZG YX =>
     obtain ⟨b1,b2,b3⟩:=qdf (P:=P) (isSlice:=false) (c:=n) hl Qq hh YW (qB _) zN w;refine ⟨.slice (some (if n = l then a else a.add (l * qw P e))) (hb - l) (n - l),?_,?_⟩
     ·simp only [Instr.sliceAt,Sem.run_bind,run_underlying hu,Result.andThen_ok,Instr.sureAddr,b3,Zb kh,Sem.run_pure]
     ·refine .osl _ ZG (fun ds hd=>⟨(YX ds hd).1,fun he=>?_⟩) (by omega);obtain ⟨b,s,q1,rfl⟩:=(YX ds hd).2 he;have hle:l≤n:=(by omega);have hmul:l * qw P e+(n - l) * qw P e = n * qw P e:=(by rw [← vR];congr 1;omega);obtain ⟨b',arr,e',fr,k1,k2,k3,k4,_⟩:=hs.blk id ds hd;rw [q1] at k1;injection k1 with k1;injection k1 with k1 k1';refine ⟨b,s,q1,?_,by omega⟩;split
      ·rename_i jC;rcases jL with h0 | h0
       ·subst h0;simp
       ·omega
      ·rw [ZR]
   ·cases h
  ·cases h
 ·cases h
theorem qzk {dt xt ty:TypeId} {x y d:D} {dv xv:Value} (hs:Sim X ok w ι H) (hdv:Rep ok w ι H y dv) (hx:Rep ok w ι H x xv) (h:qgm P H dt xt y x = some (d,H')) :
  ∃ v w',(Builtin.copy_ #[dt,xt] ty #[dv,xv]).run P w = .ok v w'∧Post X H.length ok w ι H d H' v w':=by
 unfold qgm at h;split at h
 ·rename_i e hu;split at h
  ·rename_i xs m i sm off len k hsrc;split at h
   ·rename_i ds hd;split at h
    ·rename_i hcond;obtain ⟨b1,rfl,b3,b4,b5⟩:=hcond;injection h with h;injection h with h1 h2;subst h1;subst h2;obtain ⟨c1,c2,⟨dsc,hxu,hni⟩,c3,c4⟩:=qgR (P:=P) hs hx hsrc;obtain ⟨vs,v1,v2,v3⟩:=c4 (min m len) (Nat.min_le_left _ _);cases hdv with
     | osl a hi hh qR =>
      obtain ⟨b,s,q1,rfl,q3⟩:=(hh ds hd).2 b1;have hle:min m len * qw P e≤len * qw P e:=qbD _ (Nat.min_le_right _ _);have hlm:min m len * qw P e≤m * qw P e:=qbD _ (Nat.min_le_left _ _);have jH:(xs.take (min m len * qw P e)).length = min m len * qw P e:=by simp;omega
      obtain ⟨w',ι',r1,r2,r3⟩:=qji (P:=P) (vs:=vs) (xs:=xs.take (min m len * qw P e)) hs hd b1 q1 rfl (by rw [jH];exact kr (Nat.add_le_add_left hle off) (by rw [b1];exact b4)) (by rw [jH,v1]) (fun d hd=>c2 d (Jv hd))
       (fun j d hj=>by
        rw [VV] at hj;split at hj
        ·rename_i vt;exact v3 j d vt hj
        ·cases hj)
      refine ⟨.int .i64 (min m len:Nat),w',?_,ι',ok,r2,.int _ _,r3⟩;have hf:=v2 w rfl;rw [show min m len = Nat.min m len from rfl] at hf;simp [Builtin.copy_,run_underlying hu,c3,Zb b3,hf,goInt];rw [r1];rfl
    ·cases h
   ·cases h
  ·cases h
 ·cases h
theorem qtX {t ty:TypeId} {x d:D} {v:Value} {ts:Array TypeId} {vs:Array Value} (ht:ts[0]? = some t) (hv:vs[0]? = some v) (hx:Rep ok w ι H x v) (h:qea P t x = some d) :
  ∃ r,(Builtin.len_ ts ty vs).run P w = .ok r w∧Rep ok w ι H d r:=by
 unfold qea at h;split at h <;> first | (cases h;done) | injection h with h
 ·rename_i s hu;subst h;cases hx;have zh:(⟨s.toArray⟩:ByteArray).size = s.length:=by simp [ByteArray.size]
  exact ⟨.int .i64 s.length,by simp [Builtin.len_,ht,hv,run_underlying hu,goInt,zh],.int _ _⟩
 ·rename_i n e hu;subst h;exact ⟨_,by simp [Builtin.len_,ht,hv,run_underlying hu,goInt],.int _ _⟩
 ·rename_i hu;subst h;cases hx <;> exact ⟨_,by simp [Builtin.len_,ht,hv,run_underlying hu,goInt],.int _ _⟩
 ·rename_i hu;subst h;cases hx <;> exact ⟨_,by simp [Builtin.len_,ht,hv,run_underlying hu,goInt],.int _ _⟩
end
end Go.Ev
namespace Go.Ev
section
variable {X:Cx} {P:Program} {ok:Nat→Prop} {w w':World} {ι:qF} {H H':qi}
theorem qot:∀ {cs:List D} {s:List UInt8},kE cs = some s→∃ ns:List Int,cs = ns.map (D.int .u8)∧s = ns.map fun n=>UInt8.ofNat n.toNat
 | [],s,h=>by
  simp only [kE,qu] at h;exact ⟨[],rfl,h.symm⟩
 | .int .u8 n :: l,s,h=>by
  simp only [kE] at h;cases hb:kE l with
  | none=>simp [hb] at h
  | some r =>
   simp only [hb,jF,qu] at h;obtain ⟨ns,h1,h2⟩:=qot hb;exact ⟨n :: ns,by simp [h1],by simp [← h,h2]⟩
 | .int .i8 _ :: _,_,h | .int .i16 _ :: _,_,h | .int .i32 _ :: _,_,h | .int .i64 _ :: _,_,h | .int .u16 _ :: _,_,h | .int .u32 _ :: _,_,h | .int .u64 _ :: _,_,h
 | .bool _ :: _,_,h | .str _ :: _,_,h | .nilp :: _,_,h | .nilf :: _,_,h | .nili :: _,_,h | .raw _ :: _,_,h | .agg _ :: _,_,h | .tup _ :: _,_,h | .vptr _ :: _,_,h | .optr _ _ _ :: _,_,h | .vsl _ _ _ :: _,_,h
 | .osl _ _ _ _ _ :: _,_,h | .fn _ _ :: _,_,h | .iface _ _ :: _,_,h=>by simp [kE] at h
theorem qtI {i:Nat} {ds:List D} {b o:Nat} {arr:Array Value} {e:TypeId} {fr:Nat × Nat} (hs:Sim X ok w ι H) (hd:qq H i = some ds) (hι:ι i = some (b,arr.size)) (hb:w.heap[b]? = some (.cells arr e fr)) :
  ∃ w' ι',(markStringish ⟨b,o,none⟩).run P w = .ok () w'∧Sim X ok w' ι' H∧Evol H.length ok w ι H ok w' ι' H:=by
 obtain ⟨b0,arr0,e0,fr0,q1,q2,q3,q4,q5,q6,q7,q8⟩:=hs.blk i ds hd;rw [hι] at q1;injection q1 with q1;injection q1 with q1 q1';subst q1;rw [hb] at q3;injection q3 with q3;injection q3 with q3a q3b q3c;subst q3a;subst q3b;subst q3c;have qg:b < w.heap.size:=(Array.getElem?_eq_some_iff.1 hb).1
 have hset:hset H i ds = H:=by
  unfold hset;have hi:=ZH hd;rw [qq,zi hi,Ju] at hd;rw [← hd,List.set_getElem_self]
 obtain ⟨fr',hfr',hw'⟩:∃ fr':Nat × Nat,(fr'.1 = fr'.2∨arr.size≤fr'.1)∧(w.freeze ⟨b,arr.size,none⟩ 1).heap[b]? = some (.cells arr e fr'):=by
  obtain ⟨lo,hi⟩:=fr;refine ⟨if lo == hi then (arr.size,arr.size+1) else (min lo arr.size,max hi (arr.size+1)),?_,?_⟩
  ·simp only at q5;by_cases h:lo = hi
   ·simp [h]
   ·have:arr.size≤lo:=(by omega);simp [h];omega
  ·unfold World.freeze;simp only [Nat.one_ne_zero,if_false];rw [qeK];simp [hb]
 obtain ⟨ι',r1,r2,r3⟩:=qeV (w':=w.freeze ⟨b,arr.size,none⟩ 1) (ds':=ds) hs hd hι ⟨by unfold World.freeze;split <;> rfl,by unfold World.freeze;split <;> rfl,by unfold World.freeze;split <;> rfl⟩ (by unfold World.freeze;split <;> simp)
  (fun c _ hc=>by
   unfold World.freeze;simp only [Nat.one_ne_zero,if_false];rw [qeK];simp [Ne.symm hc]) hw' (.inl ⟨rfl,rfl⟩) (qB _) q4 hfr' q6 q7 q8
 rw [hset] at r1 r2;refine ⟨_,ι',?_,r1,r2⟩;have e1:(shape b).run P w = .ok (w.shape? b) w:=rfl;have e2:w.shape? b = some (e,arr.size):=by unfold World.shape?;rw [hb]
 have e3:(Go.freeze ⟨b,arr.size,none⟩ 1).run P w = .ok () (w.freeze ⟨b,arr.size,none⟩ 1):=rfl;unfold markStringish;rw [Sem.run_bind,e1,Result.andThen_ok,e2];exact e3
theorem qnU {src dst:TypeId} {x d:D} {v:Value} (hs:Sim X ok w ι H) (hx:Rep ok w ι H x v) (h:qb4 P H src dst x = some (d,H')) :
  ∃ v' w',(convert src dst v).run P w = .ok v' w'∧Post X H.length ok w ι H d H' v' w':=by
 unfold qb4 at h;split at h
 ·rename_i k k' n h1 h2;injection h with h;injection h with h3 h4;subst h3;subst h4;cases hx;exact ⟨.int k (k.wrap n),w,by simp [convert,run_underlying h1,run_underlying h2,Conv.intToInt],Post.same hs (.int _ _)⟩
 ·rename_i s h1 h2;injection h with h;injection h with h3 h4;subst h3;subst h4;cases hx;exact ⟨.string ⟨s.toArray⟩,w,by simp [convert,run_underlying h1,run_underlying h2],Post.same hs (.str _)⟩
 ·rename_i k k' n h1 h2;injection h with h;injection h with h3 h4;subst h3;subst h4;cases hx;refine ⟨.string (Utf8.encode n),w,by simp [convert,run_underlying h1,run_underlying h2,Conv.intToString],Post.same hs ?_⟩;have:=Rep.str (ok:=ok) (w:=w) (ι:=ι) (H:=H) (Utf8.encode n).data.toList;simpa using this
 ·rename_i e s h1 h2;split at h
  ·rename_i he;injection h with h;injection h with h3 h4;subst h3;subst h4;cases hx;have zh:(⟨s.toArray⟩:ByteArray).size = s.length:=(by simp [ByteArray.size]);have hge:=grownCap_ge w s.length 0 e
   have ZJ:(Lib.bytesCells w e ⟨s.toArray⟩).size = grownCap w s.length 0 e:=by
    unfold Lib.bytesCells;simp only [Array.size_append,Array.size_map,Array.size_replicate,zh];simp;omega
   have Ys:∀ j,j < s.length→(Lib.bytesCells w e ⟨s.toArray⟩).getD j undef = (Xz s).getD j undef:=by
    intro j hj;unfold Lib.bytesCells Xz;rw [jp,qg6 (by simpa using hj),jV];simp
   have hbz:∀ j,s.length≤j→j < grownCap w s.length 0 e→(Lib.bytesCells w e ⟨s.toArray⟩).getD j undef = .int .u8 0:=by
    intro j hj vt;unfold Lib.bytesCells;rw [jp,Array.getElem?_append_right (by simpa using hj)];simp only [zh];rw [qg5,if_pos (by simp;omega)];rfl
   obtain ⟨ι',n1,n2,n3⟩:=qjC (w':=Lib.bytesWorld w e ⟨s.toArray⟩) (b':=w.heap.size) (arr:=Lib.bytesCells w e ⟨s.toArray⟩) (ds:=qd s) hs
    (by
     refine ⟨?_,?_,?_⟩ <;> (unfold Lib.bytesWorld World.freeze;split <;> rfl))
    (by rw [Lib.bytesWorld_size];omega) (fun c hc=>Lib.bytesWorld_at_old w e _ c hc) (Lib.bytesWorld_at_new w e _) (qB _) (by rw [ZJ];simpa [qd] using hge)
    (.inr (qB _))
    (fun j hj=>by
     rw [ZJ] at hj;by_cases VI:j < s.length
     ·rw [Ys j VI];unfold Xz;simp [jV,VI,Value.oneCell']
     ·rw [hbz j (by omega) hj];rfl)
    (fun d hd=>by
     simp only [qd,List.mem_map] at hd;obtain ⟨_,_,rfl⟩:=hd;rfl)
    (fun j d hj=>by
     have VI:j < s.length:=by
      have:=(List.getElem?_eq_some_iff.1 hj).1;simpa [qd] using this
     rw [Ys j VI];exact qhB s j d hj)
   refine ⟨_,_,Lib.run_convert_string_bytes w src dst e ⟨s.toArray⟩ h1 h2 he,ι',ok,n1,?_,n2⟩;rw [zh];refine .osl _ (by rw [Vb];omega) (fun ds hd=>?_) hge;rw [Ym] at hd;injection hd with hd;subst hd;refine ⟨by simp [qd],fun _=>⟨_,_,n3,rfl,by rw [ZJ];omega⟩⟩
  ·cases h
 ·rename_i _ e h1 h2;split at h
  ·rename_i cs n he hsl;cases hb:kE cs with
   | none=>simp [hb] at h
   | some s =>
    simp only [hb,jF,qu,qN] at h;obtain ⟨h3,h4⟩:=h;subst h3;subst h4;obtain ⟨ns,rfl,rfl⟩:=qot hb;obtain ⟨k1,k2,A,c,rfl,qR,hA,f,hf⟩:=qjI hs hx hsl;simp only [List.length_map,Nat.mul_one] at k1;cases A with
    | none =>
     have hn:n = 0:=hA rfl;subst hn;have:ns = []:=VX k1;subst this;refine ⟨.string ByteArray.empty,w,run_convert_bytes_nil w src e h1 he _ _ dst h2,Post.same hs ?_⟩;exact .str []
    | some a =>
     have hl:(loadCells a n).run P w = .ok (ns.map (Value.int .u8)).toArray w:=by
      have:=run_loadCells_list (P:=P) w a (ns.map (Value.int .u8)) (fun j v hj=>by
       rw [XP] at hj;cases kL:ns[j]? with
       | none=>simp [kL] at hj
       | some m =>
        simp only [kL,jF,qu] at hj;subst hj;obtain ⟨a',VL,hc,hr⟩:=hf j (.int .u8 m) (by simp [kL]);injection VL with VL;subst VL;rw [hc];generalize f j = fv at hr;cases hr;rfl)
      simpa [k1] using this
     refine ⟨_,w,?_,Post.same hs (.str _)⟩;rw [run_convert_bytes_string w src dst e _ n c h1 he h2,run_bytesToString w _ n c ns hl,foldl_push_bytes];simp [ByteArray.empty,ByteArray.emptyWithCapacity];rfl
  ·cases h
 ·rename_i _ e i st off len k h1 h2;split at h
  ·rename_i ds he hd;split at h
   ·rename_i hc;obtain ⟨rfl,hst⟩:=hc;injection h with h;injection h with h3 h4;subst h3;subst h4;have hrep:=hx;rw [h1] at h2;injection h2 with h2;injection h2 with h2;subst h2;cases hx with
    | osl a hi hh qR =>
     obtain ⟨b,sz,g1,g2,g3⟩:=(hh ds hd).2 hst;subst g2;obtain ⟨b',arr,e',fr,q1,q2,q3,_⟩:=hs.blk i ds hd;rw [g1] at q1;injection q1 with q1;injection q1 with q1 q1';subst q1;subst q1';obtain ⟨w',ι',m1,m2,m3⟩:=qtI (P:=P) (o:=off) hs hd g1 q3;refine ⟨_,w',?_,ι',ok,m2,hrep.evol hs m3 hrep.closed,m3⟩;simp [convert,run_underlying h1,run_underlying he,m1]
   ·cases h
  ·cases h
 ·cases h
theorem qmZ (off:Nat):∀ (l:List Value) (n:Nat) (cs:Array Value),
  ((l.zipIdx n).foldl (fun cs (c,j)=>cs.setIfInBounds (off+j) c) cs).size = cs.size ∧
  ∀ j,((l.zipIdx n).foldl (fun cs (c,j)=>cs.setIfInBounds (off+j) c) cs)[j]? = if off+n≤j∧j < off+n+l.length∧j < cs.size then l[j - (off+n)]? else cs[j]?
 | [],n,cs=>by
  refine ⟨rfl,fun j=>?_⟩;rw [if_neg (by simp;omega)];rfl
 | v :: l,n,cs=>by
  obtain ⟨h1,h2⟩:=qmZ off l (n+1) (cs.setIfInBounds (off+n) v);simp only [List.zipIdx_cons,List.foldl_cons];refine ⟨by rw [h1];simp,fun j=>?_⟩;rw [h2 j];simp only [Array.size_setIfInBounds,qG];by_cases hj:j = off+n
  ·subst hj;rw [if_neg (by omega)];by_cases qg:off+n < cs.size
   ·rw [if_pos (by omega)];simp [qg]
   ·rw [if_neg (by omega),qc5 (by simp;omega),qc5 (by omega)]
  ·rw [qc4 (by omega)];by_cases hr:off+(n+1)≤j∧j < off+(n+1)+l.length∧j < cs.size
   ·rw [if_pos hr,if_pos (by omega)];rw [show j - (off+n) = (j - (off+(n+1)))+1 by omega,List.getElem?_cons_succ]
   ·rw [if_neg hr,if_neg (by omega)]
def qbB (ok:Nat→Prop) (w:World) (ι:qF) (H:qi):List (Nat × D)→List (Nat × Value)→Prop
 | [],[]=>True
 | (i,d) :: ds,(j,v) :: vs=>i = j∧Rep ok w ι H d v∧qbB ok w ι H ds vs
 | _,_=>False
theorem qel {place:Nat→Option (Nat × Nat)}:∀ {parts:List (Nat × D)} {vps:List (Nat × Value)} {cs cs':List D} {arr:Array Value},qbB ok w ι H parts vps→arr.size = cs.length →
  (∀ d,d∈cs→zR d = true)→(∀ (j:Nat) d,cs[j]? = some d→Rep ok w ι H d (arr.getD j undef))→Xc place cs parts = some cs' →
  ∃ arr',Instr.fill place arr vps = some arr'∧arr'.size = cs'.length∧(∀ d,d∈cs'→zR d = true)∧(∀ (j:Nat) d,cs'[j]? = some d→Rep ok w ι H d (arr'.getD j undef))∧cs'.length = cs.length
 | [],[],cs,cs',arr,_,hl,hc,hr,h=>by
  simp only [Xc,qu] at h;subst h;exact ⟨arr,rfl,hl,hc,hr,rfl⟩
 | (i,d) :: ps,(i',v) :: vps,cs,cs',arr,hp,hl,hc,hr,h=>by
  obtain ⟨rfl,hv,hp⟩:=hp;simp only [Xc] at h;split at h
  ·rename_i off size xs vD hcs;split at h
   ·rename_i hcond;obtain ⟨h1,h2⟩:=hcond;obtain ⟨c1,c2,c3⟩:=Yv hv hcs;obtain ⟨f1,f2⟩:=qmZ off v.cells.toList 0 arr
    have hfold:v.cells.zipIdx.foldl (fun cs (c,j)=>cs.setIfInBounds (off+j) c) arr = (v.cells.toList.zipIdx 0).foldl (fun cs (c,j)=>cs.setIfInBounds (off+j) c) arr:=by
     rw [← Array.foldl_toList];simp
    have hle:off+xs.length≤cs.length:=h2
    obtain ⟨arr',q1,q2,q3,q4,q5⟩:=qel (place:=place) (arr:=v.cells.zipIdx.foldl (fun cs (c,j)=>cs.setIfInBounds (off+j) c) arr) hp (by rw [hfold,f1,qcA hle];exact hl)
     (fun d hd=>by
      rcases qlC hd with h | h
      ·exact hc d h
      ·exact c2 d h)
     (fun j d hj=>by
      have vt:j < cs.length:=by
       have:=(List.getElem?_eq_some_iff.1 hj).1
       rwa [qcA hle] at this
      rw [hfold,jp,f2 j];simp only [Nat.add_zero,Array.length_toList,c1];rw [qjQ hle] at hj;by_cases hr':off≤j∧j < off+xs.length
      ·rw [if_pos hr'] at hj;rw [if_pos ⟨hr'.1,hr'.2,by omega⟩];have:=c3 _ d hj;simpa [jp] using this
      ·rw [if_neg hr'] at hj;rw [if_neg (by omega)];have:=hr j d hj
       rwa [jp] at this) h
    refine ⟨arr',?_,q2,q3,q4,by rw [q5,qcA hle]⟩;simp only [Instr.fill,vD];rw [if_neg (by simp;omega)];exact q1
   ·cases h
  ·cases h
 | [],_ :: _,_,_,_,hp,_,_,_,_=>by simp [qbB] at hp
 | _ :: _,[],_,_,_,hp,_,_,_,_=>by simp [qbB] at hp
theorem qfv (hs:Sim X ok w ι H) {e:qr} {a:Act} (he:EnvRep ok w ι H e a.tmps):∀ {l:List (Nat × Operand)} {ps:List (Nat × D)},Xw X e l = some ps→qbB ok w ι H ps (l.map fun (i,x)=>(i,a.eval x))
 | [],ps,h=>by
  simp only [Xw,qu] at h;subst h;trivial
 | (i,x) :: l,ps,h=>by
  simp only [Xw] at h;split at h
  ·rename_i d ds h1 h2;injection h with h;subst h;exact ⟨rfl,jJ hs he h1,qfv hs he h2⟩
  ·cases h
theorem qsu {fs:Array Field} (h:fs.all (fun f=>decide (0 < qw P f.type)) = true) (w:World) :
  (fs.mapM fun f=>(do pure (f.offset,← sizeOf f.type):Sem (Nat × Nat))).run P w = .ok (fs.map fun f=>(f.offset,qw P f.type)) w:=by
 have key:∀ l:List Field,(∀ f,f∈l→0 < qw P f.type)→(l.mapM fun f=>(do pure (f.offset,← sizeOf f.type):Sem (Nat × Nat))).run P w = .ok (l.map fun f=>(f.offset,qw P f.type)) w:=by
  intro l
  induction l with
  | nil=>intro _;simp
  | cons f l ih =>
   intro hl;have h1:=hl f (QY ..);have h2:=ih fun g hg=>hl g (kU _ hg);rw [List.mapM_cons];simp only [Sem.run_bind,Zb h1,Result.andThen_ok,Sem.run_pure,h2,Y6]
 rw [Array.mapM_eq_mapM_toList]
 rw [Sem.run_map,key fs.toList (fun f hf=>by
  have:=Array.all_eq_true'.1 h f (by simpa using hf);simpa using this)]
 simp;apply Array.ext';simp
theorem q0n {t:TypeId} {parts:List (Nat × D)} {vps:Array (Nat × Value)} {d:D} (hp:qbB ok w ι H parts vps.toList) (h:qgw P t parts = some d) :
  ∃ v,(Instr.build t vps).run P w = .ok v w∧Rep ok w ι H d v:=by
 unfold qgw at h;split at h
 ·rename_i z fs hz hu;split at h
  ·rename_i vg;obtain ⟨zv,z1,z2⟩:=qdl hz;have zr:=z2 ok w ι H;obtain ⟨c1,c2,c3⟩:=Yv zr rfl;cases hf:Xc (qc7 P fs) z parts with
   | none=>simp [hf] at h
   | some cs =>
    simp only [hf,jF,qu] at h;subst h
    have vD:(fun i=>(fs.map fun f=>(f.offset,qw P f.type))[i]?) = qc7 P fs:=by
     funext i;simp [qc7]
    obtain ⟨arr,q1,q2,q3,q4,_⟩:=qel (place:=qc7 P fs) hp c1 c2 c3 hf;refine ⟨.agg arr,?_,.agg q2 q3 q4⟩;simp only [Instr.build,Sem.run_bind,z1,Result.andThen_ok,run_underlying hu,qsu vg,vD,q1,Sem.run_pure]
  ·cases h
 ·rename_i z n e hz hu;split at h
  ·rename_i kh;obtain ⟨zv,z1,z2⟩:=qdl hz;have zr:=z2 ok w ι H;obtain ⟨c1,c2,c3⟩:=Yv zr rfl;cases hf:Xc (fun i=>some (i * qw P e,qw P e)) z parts with
   | none=>simp [hf] at h
   | some cs =>
    simp only [hf,jF,qu] at h;subst h;obtain ⟨arr,q1,q2,q3,q4,_⟩:=qel (place:=fun i=>some (i * qw P e,qw P e)) hp c1 c2 c3 hf;refine ⟨.agg arr,?_,.agg q2 q3 q4⟩;simp only [Instr.build,Sem.run_bind,z1,Result.andThen_ok,run_underlying hu,Zb kh,q1,Sem.run_pure]
  ·cases h
 ·cases h
theorem qg7 {z:Array Value} {n j:Nat} (hz:0 < z.size) (h:j < n):((Array.range n).map (z[· % z.size]!)).getD j undef = z.getD (j % z.size) undef:=by
 have hm:=JT j hz;simp [jp,h,hm]
theorem q0o {t:TypeId} {len:Nat} {parts:List (Nat × D)} {vps:Array (Nat × Value)} {d:D} (hs:Sim X ok w ι H) (hp:qbB ok w ι H parts vps.toList) (h:qau P H t len parts = some (d,H')) :
  ∃ v w',(Instr.buildSlice t len vps).run P w = .ok v w'∧Post X H.length ok w ι H d H' v w':=by
 unfold qau at h;split at h
 ·rename_i e hu;split at h
  ·rename_i z hz;split at h
   ·rename_i hsmall;cases hf:Xc (fun i=>some (i * qw P e,qw P e)) z parts with
    | none=>simp [hf] at h
    | some cs =>
     simp only [hf,Y3] at h;split at h
     ·rename_i hcs0;have hcs:=hcs0.2;clear hcs0;injection h with h;injection h with h1 h2;subst h1;subst h2;obtain ⟨zv,z1,z2,z3,z4,z5,z6,z7⟩:=qdm hz;have qt:len * qw P e = 0→z = []:=fun h0=>VX (by omega)
      obtain ⟨zc,hzc1,hzc2,hzget⟩:∃ zc:Array Value,(len * qw P e = 0→zc = #[])∧(¬ len * qw P e = 0→zc = zv.cells) ∧
        ∀ j,j < len * qw P e→((Array.range (len * qw P e)).map (zc[· % zc.size]!)).getD j undef = zv.cells.getD (j % qw P e) undef:=by
       by_cases h0:len * qw P e = 0
       ·exact ⟨#[],fun _=>rfl,fun h=>absurd h0 h,fun j hj=>by omega⟩
       ·refine ⟨zv.cells,fun h=>absurd h h0,fun _=>rfl,fun j hj=>?_⟩;rw [qg7 (by omega) hj,z2]
      obtain ⟨arr,q1,q2,q3,q4,q5⟩:=qel (place:=fun i=>some (i * qw P e,qw P e)) (arr:=(Array.range (len * qw P e)).map (zc[· % zc.size]!)) hp (by simp [z4]) z5
       (fun j d hj=>by
        rw [hzget j (by have:=(List.getElem?_eq_some_iff.1 hj).1;omega)];exact z7 ok w ι H j d hj) hf
      obtain ⟨ι',n1,n2,n3⟩:=qcK (e:=e) (arr:=arr) (ds:=cs) hs w ⟨rfl,rfl,rfl⟩ rfl (by omega)
       (fun j hj=>by
        have kL:cs[j]? = some (cs[j]'(by omega)):=zi (by omega);exact (q4 j _ kL).oneCell (q3 _ (mem_of_get? kL)))
       q3 q4
      refine ⟨.slice (some ⟨w.heap.size,0,none⟩) len len,w.alloc (.cells arr e),?_,ι',ok,n1,?_,n2⟩
      ·have hs16:¬ (16777216 < len * qw P e):=(by omega);simp only [Instr.buildSlice,Sem.run_bind,run_underlying hu,Result.andThen_ok,Zb z3];rw [if_neg (by simpa using hsmall)];by_cases h0:len * qw P e = 0
       ·rw [hzc1 h0] at q1;rw [if_pos h0];simp only [Sem.run_bind,Sem.run_pure,Result.andThen_ok,q1];simp [newRow]
       ·rw [hzc2 h0] at q1;rw [if_neg h0];simp only [Sem.run_bind,Sem.run_pure,Result.andThen_ok,z1,q1];simp [newRow]
      ·refine .osl _ (by rw [Vb];omega) (fun ds hd=>?_) (qB _);rw [Ym] at hd;injection hd with hd;subst hd;exact ⟨qB _,fun _=>⟨_,_,n3,rfl,by omega⟩⟩
     ·cases h
   ·cases h
  ·cases h
 ·cases h
theorem qtJ {t:TypeId} {l c d:D} {lv cv:Value} (hs:Sim X ok w ι H) (hl:Rep ok w ι H l lv) (hc:Rep ok w ι H c cv) (h:qdW P H t l c = some (d,H')) :
  ∃ v w',(Instr.makeSlice t lv cv).run P w = .ok v w'∧Post X H.length ok w ι H d H' v w':=by
 unfold qdW at h;split at h
 ·rename_i e l c hu;split at h
  ·rename_i hcond;obtain ⟨b1,b2,b3,b4⟩:=hcond;cases hz:qbL P e l.toNat with
   | none=>simp [hz] at h
   | some z =>
    simp only [hz,Y3] at h;split at h
    ·rename_i hzl;injection h with h;injection h with h1 h2;subst h1;subst h2;cases hl;cases hc;obtain ⟨zv,z1,z2,z3,z4,z5,z6,z7⟩:=qdm hz;obtain ⟨inf,i1,i2,i3⟩:=qfO z3;simp only [qI] at b3 b4;have wl:IntKind.i64.wrap l = l:=(by rw [IntKind.wrap_i64];omega);have wc:IntKind.i64.wrap c = c:=(by rw [IntKind.wrap_i64];omega);have hcs:((Array.range (c.toNat * qw P e)).map (zv.cells[· % zv.cells.size]!)).size = c.toNat * qw P e:=(by simp);have hle:l.toNat * qw P e≤c.toNat * qw P e:=qbD _ (by omega);by_cases h0:c.toNat * qw P e = 0
     ·have Yq:c.toNat = 0:=by
       rcases Nat.mul_eq_zero.1 h0 with h | h
       ·exact h
       ·omega
      have jL:l.toNat = 0:=(by omega);have hz0:z = []:=VX (by rw [z4,jL,Nat.zero_mul]);subst hz0;obtain ⟨ι',n1,n2,n3⟩:=qcK (e:=e) (arr:= #[]) (ds:=[]) hs w ⟨rfl,rfl,rfl⟩ rfl (by simp) (by simp) (by simp) (by simp);refine ⟨.slice (some ⟨w.heap.size,0,none⟩) l.toNat c.toNat,w.alloc (.cells #[] e),?_,ι',ok,n1,?_,n2⟩
      ·simp only [Instr.makeSlice,Sem.run_bind,run_underlying hu,Result.andThen_ok,asInt,asIntOf,typeInfo,run_program,i1,Sem.run_pure,wl,wc]
       rw [if_neg (by
        simp only [i3,qbK,decide_eq_true_eq,not_or];refine ⟨⟨⟨by omega,?_⟩,by omega⟩,by omega⟩;omega)]
       simp [Zb z3,h0,newRow,show Array.range 0 = #[] from rfl]
      ·refine .osl _ (by rw [Vb];omega) (fun ds hd=>?_) (by omega);rw [Ym] at hd;injection hd with hd;subst hd;exact ⟨qB _,fun _=>⟨_,_,n3,rfl,by simp [h0]⟩⟩
     ·have hzget:∀ j,j < c.toNat * qw P e→((Array.range (c.toNat * qw P e)).map (zv.cells[· % zv.cells.size]!)).getD j undef = zv.cells.getD (j % qw P e) undef:=by
       intro j hj;rw [qg7 (by omega) hj,z2]
      obtain ⟨ι',n1,n2,n3⟩:=qcK (e:=e) (arr:=(Array.range (c.toNat * qw P e)).map (zv.cells[· % zv.cells.size]!)) (ds:=z) hs w ⟨rfl,rfl,rfl⟩ rfl (by rw [hcs];omega)
       (fun j hj=>by
        rw [hcs] at hj;rw [hzget j hj];exact z6 _ (JT _ z3))
       z5 (fun j d hj=>by
        rw [hzget j (by have:=(List.getElem?_eq_some_iff.1 hj).1;omega)];exact z7 ok w ι H j d hj)
      refine ⟨.slice (some ⟨w.heap.size,0,none⟩) l.toNat c.toNat,w.alloc (.cells ((Array.range (c.toNat * qw P e)).map (zv.cells[· % zv.cells.size]!)) e),?_,ι',ok,n1,?_,n2⟩
      ·simp only [Instr.makeSlice,Sem.run_bind,run_underlying hu,Result.andThen_ok,asInt,asIntOf,typeInfo,run_program,i1,Sem.run_pure,wl,wc]
       rw [if_neg (by
        simp only [i3,qbK,decide_eq_true_eq,not_or];refine ⟨⟨⟨by omega,?_⟩,by omega⟩,by omega⟩;omega)]
       simp [Zb z3,h0,newRow,z1]
      ·refine .osl _ (by rw [Vb];omega) (fun ds hd=>?_) (by omega);rw [Ym] at hd;injection hd with hd;subst hd;exact ⟨qB _,fun _=>⟨_,_,n3,rfl,by rw [hcs];omega⟩⟩
    ·cases h
  ·cases h
 ·cases h
end
end Go.Ev
namespace Go.Ev
section
variable {X:Cx} {P:Program} {ok:Nat→Prop} {w w':World} {ι:qF} {H H':qi}
theorem qzN {d:Nat} {t:TypeId} {k:CK} {x y:D} {a b:Value} {r:Bool}
  (hp:P.underlying t = some .bool∧k = .b∨(∃ q,P.underlying t = some (.int q))∧k = .i∨P.underlying t = some .string∧k = .s) (hx:Rep ok w ι H x a) (hy:Rep ok w ι H y b) (h:qb6 k x y = some r) :
  (Op.equalIn (d+1) t a b).run P w = .ok r w:=by
 unfold qb6 at h;rcases hp with ⟨hp,rfl⟩ | ⟨⟨q,hp⟩,rfl⟩ | ⟨hp,rfl⟩
 ·split at h <;> first | contradiction | skip
  injection h with h;subst h;cases hx;cases hy;exact run_equalIn_bool' w d t _ _ hp
 ·split at h <;> first | contradiction | skip
  split at h
  ·rename_i he;subst he;injection h with h;subst h;cases hx;cases hy;exact run_equalIn_int w d t _ _ _ _ hp
  ·cases h
 ·split at h <;> first | contradiction | skip
  injection h with h;subst h;cases hx;cases hy;rw [run_equalIn_string w d t _ _ hp];simp
theorem qe6:∀ {ks:List CK} {a c:List D} {r:Bool},jT ks a c = some r→a.length = ks.length∧c.length = ks.length
 | [],[],[],_,_=>⟨rfl,rfl⟩
 | k :: ks,x :: a,y :: c,r,h=>by
  simp only [jT] at h;split at h
  ·rename_i h1 h2;obtain ⟨k1,k2⟩:=qe6 h2;simp [k1,k2]
  ·cases h
 | [],_ :: _,_,_,h | [],[],_ :: _,_,h | _ :: _,[],_,_,h | _ :: _,_ :: _,[],_,h=>by simp [jT] at h
theorem qiO:∀ {ks ls:List CK} {a c b d:List D} {r:Bool},a.length = ks.length→c.length = ks.length→jT (ks ++ ls) (a ++ b) (c ++ d) = some r→∃ p q,jT ks a c = some p∧jT ls b d = some q∧r = (p && q)
 | [],ls,[],[],b,d,r,_,_,h=>⟨true,r,rfl,h,by simp⟩
 | k :: ks,ls,x :: a,y :: c,b,d,r,hl,ky,h=>by
  simp only [kt,jT] at h;split at h
  ·rename_i p q h1 h2;injection h with h;obtain ⟨p',q',k1,k2,k3⟩:=qiO (by simpa using hl) (by simpa using ky) h2;exact ⟨p && p',q',by simp [jT,h1,k1],k2,by rw [← h,k3,Bool.and_assoc]⟩
  ·cases h
 | [],_,_ :: _,_,_,_,_,hl,_,_=>by simp at hl
 | [],_,_,_ :: _,_,_,_,_,hl,_=>by simp at hl
 | _ :: _,_,[],_,_,_,_,hl,_,_=>by simp at hl
 | _ :: _,_,_ :: _,[],_,_,_,_,hl,_=>by simp at hl
def qja (P:Program) (d:Nat) (t:TypeId) (ks:List CK):Prop :=
 ∀ (ok:Nat→Prop) (w:World) (ι:qF) (H:qi) (xs ys:List D) (vs us:Array Value) (off:Nat) (r:Bool),Rep ok w ι H (.agg xs) (.agg vs)→Rep ok w ι H (.agg ys) (.agg us) →
  off+ks.length≤xs.length→off+ks.length≤ys.length→jT ks ((xs.drop off).take ks.length) ((ys.drop off).take ks.length) = some r →
  ∃ a b,(part t vs off).run P w = .ok a w∧(part t us off).run P w = .ok b w∧(Op.equalIn d t a b).run P w = .ok r w
def qoR (P:Program) (d:Nat) (t:TypeId) (ks:List CK):Prop :=
 ∀ (ok:Nat→Prop) (w:World) (ι:qF) (H:qi) (xs ys:List D) (vs us:Array Value) (r:Bool),Rep ok w ι H (.agg xs) (.agg vs)→Rep ok w ι H (.agg ys) (.agg us) →
  jT ks xs ys = some r→(Op.equalIn d t (.agg vs) (.agg us)).run P w = .ok r w
theorem qgk (xs:List D) (off k:Nat):xs.drop off = (xs.drop off).take k ++ xs.drop (off+k):=by
 rw [← kF,V0]
theorem qle (P:Program) (g:TypeId→Option (List CK)):∀ (fs:List Field) (acc ks:List CK),qaI P g fs acc = some ks→∃ ls,ks = acc ++ ls
 | [],acc,ks,h=>⟨[],by simp only [qaI,qu] at h;simp [h]⟩
 | f :: fs,acc,ks,h=>by
  simp only [qaI] at h;split at h
  ·split at h
   ·obtain ⟨ls,e⟩:=qle P g fs _ _ h;exact ⟨_,by rw [e,vI]⟩
   ·cases h
  ·cases h
theorem qny {d:Nat} {g:TypeId→Option (List CK)} (hg:∀ t n,g t = some n→qw P t = n.length→qja P d t n) {xs ys:List D} {vs us:Array Value} (hx:Rep ok w ι H (.agg xs) (.agg vs)) (hy:Rep ok w ι H (.agg ys) (.agg us)) :
  ∀ (fs:List Field) (acc ls:List CK) (r:Bool),qaI P g fs acc = some (acc ++ ls)→jT ls (xs.drop acc.length) (ys.drop acc.length) = some r→acc.length≤xs.length→acc.length≤ys.length→(Op.eqFields d vs us fs).run P w = .ok r w
 | [],acc,ls,r,h,hc,_,_=>by
  simp only [qaI,qu] at h;have:ls = []:=by simpa using h
  subst this;obtain ⟨l1,l2⟩:=qe6 hc;rw [VX l1,VX l2] at hc;simp only [jT,qu] at hc;subst hc;simp [Op.eqFields]
 | f :: fs,acc,ls,r,h,hc,hlx,hly=>by
  simp only [qaI] at h;split at h
  ·rename_i ks hk;split at h
   ·rename_i hcond;obtain ⟨h1,h2,h3,h4⟩:=hcond;obtain ⟨ms,hms⟩:=qle P g fs _ _ h
    have hls:ls = ks ++ ms:=by
     have:acc ++ ls = acc ++ (ks ++ ms):=(by rw [hms,vI]);exact List.append_cancel_left this
    subst hls;obtain ⟨l1,l2⟩:=qe6 hc;simp only [jU,qC] at l1 l2;rw [qgk xs acc.length ks.length,qgk ys acc.length ks.length] at hc;obtain ⟨p,q,c1,c2,c3⟩:=qiO (by simp;omega) (by simp;omega) hc;obtain ⟨a,b,p1,p2,p3⟩:=hg f.type ks hk h3 ok w ι H xs ys vs us acc.length p hx hy (by omega) (by omega) c1;have ih:=qny hg hx hy fs (acc ++ ks) ms q (by rw [h,vI]) (by simpa using c2) (by simp;omega) (by simp;omega);rw [← h1] at p1 p2;simp only [Op.eqFields,h2,ne_eq,not_false_eq_true,if_true,Sem.run_bind,p1,p2,p3,Result.andThen_ok];cases p
    ·simp [c3]
    ·simpa [c3] using ih
   ·cases h
  ·cases h
theorem qyp {α:Type} (n:Nat) (l:List α):(List.replicate (n+1) l).flatten = l ++ (List.replicate n l).flatten:=by
 rw [qa1,qc1]
theorem qnx {d:Nat} {ks:List CK} {e:TypeId} (he:qja P d e ks) {xs ys:List D} {vs us:Array Value} (hx:Rep ok w ι H (.agg xs) (.agg vs)) (hy:Rep ok w ι H (.agg ys) (.agg us)) :
  ∀ (m i:Nat) (r:Bool),jT (List.replicate m ks).flatten (xs.drop (i * ks.length)) (ys.drop (i * ks.length)) = some r→i * ks.length≤xs.length→i * ks.length≤ys.length→(Op.eqItems d e ks.length vs us (List.range' i m)).run P w = .ok r w
 | 0,i,r,hc,_,_=>by
  obtain ⟨l1,l2⟩:=qe6 hc;have e1:xs.drop (i * ks.length) = []:=VX (by rw [l1];rfl);have e2:ys.drop (i * ks.length) = []:=VX (by rw [l2];rfl);rw [e1,e2] at hc;simp only [List.replicate_zero,List.flatten_nil,jT,qu] at hc;subst hc;simp [Op.eqItems]
 | m+1,i,r,hc,hlx,hly=>by
  obtain ⟨l1,l2⟩:=qe6 hc;rw [qyp] at hc l1 l2;simp only [jU,qC] at l1 l2;have hi1:(i+1) * ks.length = i * ks.length+ks.length:=by rw [vR,Nat.one_mul]
  rw [qgk xs (i * ks.length) ks.length,qgk ys (i * ks.length) ks.length] at hc;obtain ⟨p,q,c1,c2,c3⟩:=qiO (by simp;omega) (by simp;omega) hc;obtain ⟨a,b,p1,p2,p3⟩:=he ok w ι H xs ys vs us (i * ks.length) p hx hy (by omega) (by omega) c1;have ih:=qnx he hx hy m (i+1) q (by rw [hi1];exact c2) (by omega) (by omega);rw [List.range'_succ];simp only [Op.eqItems,Sem.run_bind,p1,p2,p3,Result.andThen_ok];cases p
  ·simp [c3]
  ·simpa [c3] using ih
theorem q0Y {t:TypeId} {m:Nat} {ks:List CK} (h:QK P m t = some ks) :
  Vy P t = some true∨(Vy P t = some false∧∃ k,ks = [k]∧(P.underlying t = some .bool∧k = .b∨(∃ q,P.underlying t = some (.int q))∧k = .i∨P.underlying t = some .string∧k = .s)):=by
 cases m with
 | zero=>simp [QK] at h
 | succ m =>
  unfold QK at h;unfold Vy;split at h
  ·rename_i hu;injection h with h;exact .inr ⟨by simp [hu],_,h.symm,.inl ⟨hu,rfl⟩⟩
  ·rename_i hu;injection h with h;exact .inr ⟨by simp [hu],_,h.symm,.inr (.inl ⟨⟨_,hu⟩,rfl⟩)⟩
  ·rename_i hu;injection h with h;exact .inr ⟨by simp [hu],_,h.symm,.inr (.inr ⟨hu,rfl⟩)⟩
  ·rename_i hu;exact .inl (by simp [hu])
  ·rename_i hu;exact .inl (by simp [hu])
  ·cases h
theorem qh4:∀ (m d:Nat) (t:TypeId) (ks:List CK),QK P m t = some ks→(qw P t = ks.length→qja P (d+m) t ks)∧(Vy P t = some true→qoR P (d+m) t ks)
 | 0,_,_,_,h=>by simp [QK] at h
 | m+1,d,t,ks,h=>by
  have hagg:Vy P t = some true→qoR P (d+(m+1)) t ks:=by
   intro hq ok w ι H xs ys vs us r hx hy hc;unfold QK at h;unfold Vy at hq;split at h
   ·rename_i hu;simp [hu] at hq
   ·rename_i hu;simp [hu] at hq
   ·rename_i hu;simp [hu] at hq
   ·rename_i n' e hu;split at h
    ·rename_i ks' hk;split at h
     ·rename_i hcond;injection h with h;subst h;obtain ⟨i,hi,_⟩:=qfO (P:=P) (t:=e) (by omega);have ih:=(qh4 m d e ks' hk).1 hcond.1;rw [show d+(m+1) = (d+m)+1 from rfl,run_equalIn_array w (d+m) vs us hu hi];have hck:P.cellsOf e = ks'.length:=hcond.1;rw [hck,List.range_eq_range'];exact qnx ih hx hy n' 0 r (by simpa using hc) (by omega) (by omega)
     ·cases h
    ·cases h
   ·rename_i fs hu;split at h
    ·cases h
    ·rename_i hst;have hfs:P.fieldsOf t = fs:=(by simp [Program.fieldsOf,hu]);rw [show d+(m+1) = (d+m)+1 from rfl,run_equalIn_struct w (d+m) t vs us (by rw [hfs];exact hu) (by simpa using hst),hfs];exact qny (g:=QK P m) (fun t n ht hz=>(qh4 m d t n ht).1 hz) hx hy fs.toList [] ks r (by simpa using h) (by simpa using hc) (jk _) (jk _)
   ·cases h
  refine ⟨?_,hagg⟩;intro zh ok w ι H xs ys vs us off r hx hy hlx hly hc;rcases q0Y h with hq | ⟨hq,k,rfl,hkind⟩
  ·obtain ⟨a,a1,a2⟩:=qcI (P:=P) (t:=t) (off:=off) (d:=.agg ((xs.drop off).take ks.length)) hx (by simp [XZ,hq,zh,hlx]);obtain ⟨b,b1,b2⟩:=qcI (P:=P) (t:=t) (off:=off) (d:=.agg ((ys.drop off).take ks.length)) hy (by simp [XZ,hq,zh,hly]);refine ⟨a,b,a1,b1,?_⟩;obtain ⟨va,rfl⟩:∃ va,a = .agg va:=by cases a2;exact ⟨_,rfl⟩
   obtain ⟨vb,rfl⟩:∃ vb,b = .agg vb:=by cases b2;exact ⟨_,rfl⟩
   exact hagg hq ok w ι H _ _ _ _ r a2 b2 hc
  ·simp only [qG,qX,vQ] at hlx hly hc;have hxo:xs[off]? = some (xs[off]'(by omega)):=zi (by omega);have hyo:ys[off]? = some (ys[off]'(by omega)):=zi (by omega);have t1:(xs.drop off).take 1 = [xs[off]'(by omega)]:=(by rw [zm (show off < xs.length by omega)];rfl);have t2:(ys.drop off).take 1 = [ys[off]'(by omega)]:=(by rw [zm (show off < ys.length by omega)];rfl);rw [t1,t2] at hc;simp only [jT] at hc;split at hc
   ·rename_i p q hpq hq';injection hc with hc;injection hq' with hq';subst hq';obtain ⟨a,a1,a2⟩:=qcI (P:=P) (t:=t) (off:=off) hx (by simp only [XZ,hq];exact hxo);obtain ⟨b,b1,b2⟩:=qcI (P:=P) (t:=t) (off:=off) hy (by simp only [XZ,hq];exact hyo);refine ⟨a,b,a1,b1,?_⟩;have:=qzN (P:=P) (d:=d+m) hkind a2 b2 hpq;rw [show d+(m+1) = d+m+1 from rfl,this,← hc];simp
   ·cases hc
theorem qyK {op:BinOp} {t:TypeId} {x y:Operand} {a b:Value} (h1:∀ p q,a = .agg p→b = .agg q→P.eqGuardType P.depth t = false) (h2:a = .nilIface→b = .nilIface→(V9 x || V9 y) = true) :
  (eqGuard op t x y a b).run P w = .ok () w:=by
 by_cases ha:a = .nilIface∧b = .nilIface
 ·obtain ⟨rfl,rfl⟩:=ha;have:=h2 rfl rfl;cases x <;> cases y <;> simp [V9] at this <;> cases op <;> simp [eqGuard]
 ·by_cases hg:∃ p q,a = .agg p∧b = .agg q
  ·obtain ⟨p,q,rfl,rfl⟩:=hg;cases op <;> simp [eqGuard,run_program,h1 p q rfl rfl]
  ·cases op <;> simp only [eqGuard] <;> first | rfl | skip
   ·rw [if_neg (by simp)];split
    ·exact absurd ⟨rfl,rfl⟩ ha
    ·exact absurd ⟨_,_,rfl,rfl⟩ hg
    ·rfl
   ·rw [if_neg (by simp)];split
    ·exact absurd ⟨rfl,rfl⟩ ha
    ·exact absurd ⟨_,_,rfl,rfl⟩ hg
    ·rfl
theorem qyG (d:Nat) {t e:TypeId} (hu:P.underlying t = some (.slice e)) (q:Option Addr) (n c n' c':Nat):(Op.equalIn (d+1) t (.slice none n' c') (.slice q n c)).run P w = .ok q.isNone w:=by
 simp only [Op.equalIn,Sem.run_bind,run_underlying hu,Result.andThen_ok,Sem.run_pure]
theorem qyC (d:Nat) {t e:TypeId} (hu:P.underlying t = some (.slice e)) (q:Option Addr) (n c n' c':Nat):(Op.equalIn (d+1) t (.slice q n c) (.slice none n' c')).run P w = .ok q.isNone w:=by
 cases q <;> simp only [Op.equalIn,Sem.run_bind,run_underlying hu,Result.andThen_ok,Sem.run_pure,Option.isNone]
theorem qyF (d:Nat) {t:TypeId} {ms:Array (String × TypeId)} (hu:P.underlying t = some (.interface ms)):(Op.equalIn (d+1) t .nilIface .nilIface).run P w = .ok true w:=by
 simp only [Op.equalIn,Sem.run_bind,run_underlying hu,Result.andThen_ok,Sem.run_pure]
theorem qyH (d:Nat) {t u:TypeId} {v:Value} {ms:Array (String × TypeId)} (hu:P.underlying t = some (.interface ms)):(Op.equalIn (d+1) t (.iface u v) .nilIface).run P w = .ok false w:=by
 simp only [Op.equalIn,Sem.run_bind,run_underlying hu,Result.andThen_ok,Sem.run_pure]
theorem qyE (d:Nat) {t e:TypeId} (hu:P.underlying t = some (.pointer e)):(Op.equalIn (d+1) t (.pointer none) (.pointer none)).run P w = .ok true w:=by
 simp only [Op.equalIn,Sem.run_bind,run_underlying hu,Result.andThen_ok,Sem.run_pure,Option.isNone]
theorem qyD (d:Nat) {t e:TypeId} {a:Addr} (hu:P.underlying t = some (.pointer e)):(Op.equalIn (d+1) t (.pointer (some a)) (.pointer none)).run P w = .ok false w:=by
 simp only [Op.equalIn,Sem.run_bind,run_underlying hu,Result.andThen_ok,Sem.run_pure]
theorem qnw {t e:TypeId} (hu:P.underlying t = some (.slice e)) (q:Option Addr) (n c n' c':Nat):(Op.equal t (.slice none n' c') (.slice q n c)).run P w = .ok q.isNone w:=qyG 9999 hu q n c n' c'
theorem qi8 {t e:TypeId} (hu:P.underlying t = some (.slice e)) (q:Option Addr) (n c n' c':Nat):(Op.equal t (.slice q n c) (.slice none n' c')).run P w = .ok q.isNone w:=qyC 9999 hu q n c n' c'
theorem qy9 {t:TypeId} {ms:Array (String × TypeId)} (hu:P.underlying t = some (.interface ms)):(Op.equal t .nilIface .nilIface).run P w = .ok true w:=qyF 9999 hu
theorem qyA {t u:TypeId} {v:Value} {ms:Array (String × TypeId)} (hu:P.underlying t = some (.interface ms)):(Op.equal t (.iface u v) .nilIface).run P w = .ok false w:=qyH 9999 hu
theorem qy8 {t e:TypeId} (hu:P.underlying t = some (.pointer e)):(Op.equal t (.pointer none) (.pointer none)).run P w = .ok true w:=qyE 9999 hu
theorem qnv {t e:TypeId} {a:Addr} (hu:P.underlying t = some (.pointer e)):(Op.equal t (.pointer (some a)) (.pointer none)).run P w = .ok false w:=qyD 9999 hu
theorem qyB (w:World) {t tx:TypeId} {ms:Array (String × TypeId)} {k q:IntKind} (a b:Int)
  (ht:P.underlying t = some (.interface ms)) (hc:(P.info? tx).map (·.comparable) = some true) (hx:P.underlying tx = some (.int q)) :
  (Op.equal t (.iface tx (.int k a)) (.iface tx (.int k b))).run P w = .ok (a == b) w:=by
 cases hi:P.info? tx with
 | none=>simp [hi] at hc
 | some i =>
  have Vo:i.comparable = true:=by simpa [hi] using hc
  have h:∀ d:Nat,(Op.equalIn (d+2) t (.iface tx (.int k a)) (.iface tx (.int k b))).run P w = .ok (a == b) w:=fun d=>by
   simp [Op.equalIn,run_underlying ht,run_underlying hx,typeInfo,hi,Vo]
  simp [Op.equal,Op.maxDepth,h 9998]
theorem KE {op:BinOp} {t:TypeId} {a b:Value} {r:Bool} (ho:op = .eql∨op = .neq) (he:(Op.equal t a b).run P w = .ok r w)
  (hb:binOp .eql t a b = (do pure (.bool (← Op.equal t a b)))∧binOp .neq t a b = (do pure (.bool (!(← Op.equal t a b))))) :
  (binOp op t a b).run P w = .ok (.bool (if op = .eql then r else !r)) w:=by
 rcases ho with rfl | rfl
 ·rw [hb.1];simp [he]
 ·rw [hb.2];simp [he]
theorem qnz {t:TypeId} {c:Bool} {x y:D} {a b:Value} {r:Bool} (hx:Rep ok w ι H x a) (hy:Rep ok w ι H y b) (h:eqD P t c x y = some r) :
  (∀ p q,a = .agg p→b = .agg q→P.eqGuardType P.depth t = false)∧(a = .nilIface→b = .nilIface→c = true) ∧
  (∀ op,(op = .eql∨op = .neq)→(binOp op t a b).run P w = .ok (.bool (if op = .eql then r else !r)) w):=by
 unfold eqD at h;split at h
 ·cases hx;cases hy;split at h
  ·rename_i hu;injection h with h;subst h;exact ⟨fun _ _ h=>(by cases h),fun h=>(by cases h),fun op ho=>KE ho (run_equal_bool w t _ _ hu) ⟨rfl,rfl⟩⟩
  ·cases h
 ·split at h
  ·rename_i ks hks;split at h
   ·rename_i hcond;obtain ⟨vs,rfl⟩:∃ va,a = .agg va:=by cases hx;exact ⟨_,rfl⟩
    obtain ⟨us,rfl⟩:∃ vb,b = .agg vb:=by cases hy;exact ⟨_,rfl⟩
    have he:(Op.equal t (.agg vs) (.agg us)).run P w = .ok r w:=(qh4 50 9950 t ks hks).2 hcond.1 ok w ι H _ _ _ _ r hx hy h;exact ⟨fun _ _ _ _=>hcond.2,fun h=>(by cases h),fun op ho=>KE ho he ⟨rfl,rfl⟩⟩
   ·cases h
  ·cases h
 ·split at h
  ·rename_i e hu;injection h with h;subst h;cases hx;cases hy with
   | vnil=>exact ⟨fun _ _ h=>(by cases h),fun h=>(by cases h),fun op ho=>KE ho (qnw hu _ _ _ _ _) ⟨rfl,rfl⟩⟩
   | vsl a f ha hc hr hh qR=>exact ⟨fun _ _ h=>(by cases h),fun h=>(by cases h),fun op ho=>KE ho (qnw hu _ _ _ _ _) ⟨rfl,rfl⟩⟩
  ·cases h
 ·split at h
  ·rename_i e hu;injection h with h;subst h;cases hy;cases hx with
   | vnil=>exact ⟨fun _ _ h=>(by cases h),fun h=>(by cases h),fun op ho=>KE ho (qi8 hu _ _ _ _ _) ⟨rfl,rfl⟩⟩
   | vsl a f ha hc hr hh qR=>exact ⟨fun _ _ h=>(by cases h),fun h=>(by cases h),fun op ho=>KE ho (qi8 hu _ _ _ _ _) ⟨rfl,rfl⟩⟩
  ·cases h
 ·split at h
  ·rename_i e hu;injection h with h;subst h;cases hy;cases hx;exact ⟨fun _ _ h=>(by cases h),fun h=>(by cases h),fun op ho=>KE ho (qi8 hu _ _ _ _ _) ⟨rfl,rfl⟩⟩
  ·cases h
 ·cases hx;cases hy;split at h
  ·rename_i e hu;split at h
   ·rename_i hc;injection h with h;subst h;exact ⟨fun _ _ h=>(by cases h),fun _ _=>hc,fun op ho=>KE ho (qy9 hu) ⟨rfl,rfl⟩⟩
   ·cases h
  ·cases h
 ·rename_i s k na s' k' nb;cases hx with
  | iface hx =>
  cases hy with
  | iface hy =>
  cases hx;cases hy;split at h
  ·rename_i e q hu hs;split at h
   ·rename_i hc;obtain ⟨rfl,rfl,hc⟩:=hc;injection h with h;subst h
    have Vo:(P.info? s).map (·.comparable) = some true:=by
     unfold Xh at hc;cases hm:(P.info? s).map (·.comparable) with
     | none=>rw [hm] at hc;simp at hc
     | some b=>rw [hm] at hc;simpa using hc
    exact ⟨fun _ _ h=>(by cases h),fun h=>(by cases h),fun op ho=>KE ho (qyB w na nb hu Vo hs) ⟨rfl,rfl⟩⟩
   ·cases h
  ·cases h
 ·cases hx;cases hy;split at h
  ·rename_i e hu;injection h with h;subst h;exact ⟨fun _ _ h=>(by cases h),fun h=>(by cases h),fun op ho=>KE ho (qyA hu) ⟨rfl,rfl⟩⟩
  ·cases h
 ·cases hx;cases hy;split at h
  ·rename_i e hu;injection h with h;subst h;exact ⟨fun _ _ h=>(by cases h),fun h=>(by cases h),fun op ho=>KE ho (qy8 hu) ⟨rfl,rfl⟩⟩
  ·cases h
 ·cases hx;cases hy;split at h
  ·rename_i e hu;injection h with h;subst h;exact ⟨fun _ _ h=>(by cases h),fun h=>(by cases h),fun op ho=>KE ho (qnv hu) ⟨rfl,rfl⟩⟩
  ·cases h
 ·cases hx;cases hy;split at h
  ·rename_i e hu;injection h with h;subst h;exact ⟨fun _ _ h=>(by cases h),fun h=>(by cases h),fun op ho=>KE ho (qnv hu) ⟨rfl,rfl⟩⟩
  ·cases h
 ·cases h
theorem q0u {op:BinOp} {t:TypeId} {x y:Operand} {p q d:D} {a b:Value} (hx:Rep ok w ι H p a) (hy:Rep ok w ι H q b) (h:qgz P op t (V9 x || V9 y) p q = some d) :
  ∃ v,(do eqGuard op t x y a b;binOp op t a b:Sem Value).run P w = .ok v w∧Rep ok w ι H d v:=by
 have fin:(∀ p q,a = .agg p→b = .agg q→P.eqGuardType P.depth t = false)→(a = .nilIface→b = .nilIface→(V9 x || V9 y) = true)→∀ v,(binOp op t a b).run P w = .ok v w →
   (do eqGuard op t x y a b;binOp op t a b:Sem Value).run P w = .ok v w:=by
  intro h1 h2 v hv;rw [Sem.run_bind,qyK h1 h2];exact hv
 unfold qgz at h;split at h
 ·cases hx;cases hy;rename_i k a k' b;obtain ⟨v,h1,h2⟩:=qjO (P:=P) (ok:=ok) (w:=w) (ι:=ι) (H:=H) (t:=t) (k':=k') (.inl rfl) h;exact ⟨v,fin (fun _ _ h=>by cases h) (fun h=>by cases h) v h1,h2⟩
 ·cases hx;cases hy;rename_i k a k' b;obtain ⟨v,h1,h2⟩:=qjO (P:=P) (ok:=ok) (w:=w) (ι:=ι) (H:=H) (t:=t) (k':=k') (.inr rfl) h;exact ⟨v,fin (fun _ _ h=>by cases h) (fun h=>by cases h) v h1,h2⟩
 ·rename_i op' k a k' b hns1 hns2;split at h
  ·rename_i hk;subst hk;cases hx;cases hy;obtain ⟨v,h1,h2⟩:=qxo (P:=P) (ok:=ok) (w:=w) (ι:=ι) (H:=H) (t:=t) (fun e=>by subst e;simp_all) (fun e=>by subst e;simp_all) h;exact ⟨v,fin (fun _ _ h=>by cases h) (fun h=>by cases h) v h1,h2⟩
  ·cases h
 ·cases hx;cases hy;obtain ⟨v,h1,h2⟩:=qpL (P:=P) (ok:=ok) (w:=w) (ι:=ι) (H:=H) (t:=t) h;exact ⟨v,fin (fun _ _ h=>by cases h) (fun h=>by cases h) v h1,h2⟩
 ·cases he:eqD P t (V9 x || V9 y) p q with
  | none=>simp [he] at h
  | some r =>
   simp only [he,jF,qu] at h;subst h;obtain ⟨e2,e3,e4⟩:=qnz hx hy he;exact ⟨.bool r,fin e2 e3 _ (by rw [e4 .eql (.inl rfl)];simp),.bool _⟩
 ·cases he:eqD P t (V9 x || V9 y) p q with
  | none=>simp [he] at h
  | some r =>
   simp only [he,jF,qu] at h;subst h;obtain ⟨e2,e3,e4⟩:=qnz hx hy he;exact ⟨.bool !r,fin e2 e3 _ (by rw [e4 .neq (.inr rfl)];simp),.bool _⟩
 ·cases h
end
end Go.Ev
namespace Go.Ev
section
variable {X:Cx} {P:Program} {ok ok':Nat→Prop} {w w':World} {ι:qF} {H H':qi}
theorem Rep.okMono {d:D} {v:Value} (h:Rep ok w ι H d v) (hm:∀ b,ok b→ok' b):Rep ok' w ι H d v:=by
 induction h with
 | bool b=>exact .bool b
 | int k n=>exact .int k n
 | str s=>exact .str s
 | nilp=>exact .nilp
 | nilf=>exact .nilf
 | nili=>exact .nili
 | raw v=>exact .raw v
 | agg hl hc h ih=>exact .agg hl hc ih
 | tup hl h ih=>exact .tup hl ih
 | fn hl h ih=>exact .fn hl ih
 | iface h ih=>exact .iface ih
 | optr a hi h=>exact .optr a hi h
 | osl a hi h qR=>exact .osl a hi h qR
 | vptr a f ha hc hr h ih=>exact .vptr a f (fun d hd=>hm _ (ha d hd)) hc hr ih
 | vnil=>exact .vnil
 | vsl a f ha hc hr h qR ih=>exact .vsl a f (fun d hd=>hm _ (ha d hd)) hc hr ih qR
theorem Rep.vfree {d:D} {v:Value} (h:Rep ok w ι H d v) (hv:vFree d = true) (ok':Nat→Prop):Rep ok' w ι H d v:=by
 induction h with
 | bool b=>exact .bool b
 | int k n=>exact .int k n
 | str s=>exact .str s
 | nilp=>exact .nilp
 | nilf=>exact .nilf
 | nili=>exact .nili
 | raw v=>exact .raw v
 | agg hl hc h ih =>
  simp only [vFree,qgC] at hv;exact .agg hl hc fun j d hj=>ih j d hj (hv d (mem_of_get? hj))
 | tup hl h ih =>
  simp only [vFree,qgC] at hv;exact .tup hl fun j d hj=>ih j d hj (hv d (mem_of_get? hj))
 | fn hl h ih =>
  simp only [vFree,qgC] at hv;exact .fn hl fun j d hj=>ih j d hj (hv d (mem_of_get? hj))
 | iface h ih=>exact .iface (ih hv)
 | optr a hi h=>exact .optr a hi h
 | osl a hi h qR=>exact .osl a hi h qR
 | vptr a f ha hc hr h ih=>simp [vFree] at hv
 | vnil=>exact .vnil
 | vsl a f ha hc hr h qR ih=>simp [vFree] at hv
def qf0 (ok:Nat→Prop) (ι:qF) (H:qi) (b:Nat):Prop:=ok b∨∃ i ds s,qq H i = some ds∧ι i = some (b,s)
theorem KG {ds:List D} (h:ds.all idFree = true):∀ d,d∈ds→idFree d = true:=by
 intro d hd;exact List.all_eq_true.1 h d hd
theorem freeze_rep (hs:Sim X ok w ι H):∀ (d:D) {d':D} {v:Value},Rep ok w ι H d v→freeze H d = some d'→Rep (qf0 ok ι H) w zg [] d' v
 | .osl i st off len k,d',v,h,hf=>by
  simp only [freeze] at hf;split at hf
  ·rename_i ds hd;split at hf
   ·rename_i hcond;injection hf with hf;subst hf;cases h with
    | @osl _ _ _ _ _ _ _ c a hi hh qR =>
     obtain ⟨b,s,q1,rfl,q3⟩:=(hh ds hd).2 hcond.1;obtain ⟨b',arr,e,fr,k1,k2,k3,k4,k5,k6,k7,k8⟩:=hs.blk i ds hd;have k1':=k1;rw [q1] at k1;injection k1 with k1;injection k1 with k1 _;subst k1;refine .vsl _ (fun j=>arr.getD (off+j) undef) (fun _ _=>.inr ⟨i,ds,_,hd,q1⟩) (fun d hd=>k7 d (V1 (Jv hd))) (fun j d hj=>?_) (fun j d hj=>?_) qR
     ·rw [VV] at hj;split at hj
      ·rw [QE] at hj;have qg:off+j < arr.size:=jP (List.getElem?_eq_some_iff.1 hj).1 k4;rw [ZR,cell_of_heap k3];simp [qg]
      ·cases hj
     ·rw [VV] at hj;split at hj
      ·rw [QE] at hj;exact ((k8 _ d hj).free (KG hcond.2.2 d (mem_of_get? hj)) _ _).okMono fun b hb=>.inl hb
      ·cases hj
   ·cases hf
  ·cases hf
 | .optr i st off,d',v,h,hf=>by
  simp only [freeze] at hf;split at hf
  ·rename_i ds hd;split at hf
   ·rename_i hcond;injection hf with hf;subst hf;cases h with
    | optr a hi hh =>
     obtain ⟨b,s,q1,rfl⟩:=(hh ds hd).2 hcond.1;obtain ⟨b',arr,e,fr,k1,k2,k3,k4,k5,k6,k7,k8⟩:=hs.blk i ds hd;rw [q1] at k1;injection k1 with k1;injection k1 with k1 _;subst k1;refine .vptr _ (fun j=>arr.getD (off+j) undef) (fun _ _=>.inr ⟨i,ds,_,hd,q1⟩) (fun d hd=>k7 d (V1 hd)) (fun j d hj=>?_) (fun j d hj=>?_)
     ·rw [QE] at hj;have qg:off+j < arr.size:=jP (List.getElem?_eq_some_iff.1 hj).1 k4;rw [ZR,cell_of_heap k3];simp [qg]
     ·rw [QE] at hj;exact ((k8 _ d hj).free (KG hcond.2 d (mem_of_get? hj)) _ _).okMono fun b hb=>.inl hb
   ·cases hf
  ·cases hf
 | .fn f caps,d',v,h,hf=>by
  simp only [freeze] at hf;cases hc:freeze.freezeL H caps with
  | none=>simp [hc] at hf
  | some cs =>
   simp only [hc,jF,qu] at hf;subst hf;cases h with
   | fn hl hh =>
    obtain ⟨l1,l2⟩:=freezeL_rep hs caps (vs:=fun j=>(_:Array Value).getD j undef) hh hc;exact .fn (by rw [hl,l1]) l2
 | .agg cs,d',v,h,hf=>by
  simp only [freeze] at hf;cases hc:freeze.freezeL H cs with
  | none=>simp [hc] at hf
  | some cs' =>
   simp only [hc,jF,qu] at hf;subst hf;cases h with
   | agg hl Vo hh =>
    obtain ⟨l1,l2⟩:=freezeL_rep hs cs (vs:=fun j=>(_:Array Value).getD j undef) hh hc;refine .agg (by rw [hl,l1]) ?_ l2;intro d hd;obtain ⟨j,hj⟩:=List.mem_iff_getElem?.1 hd;have hr:=l2 j d hj;have vt:j < cs.length:=(by rw [l1];exact (List.getElem?_eq_some_iff.1 hj).1);have h0:cs[j]? = some cs[j]:=zi vt;have Zi:=(hh j _ h0).oneCell (Vo _ (mem_of_get? h0));generalize Array.getD _ j undef = x at hr Zi;cases hr <;> first | rfl | exact Zi | simp [Value.oneCell'] at Zi
 | .tup cs,d',v,h,hf=>by
  simp only [freeze] at hf;split at hf
  ·rename_i hfree;injection hf with hf;subst hf;exact (h.free hfree _ _).okMono fun b hb=>.inl hb
  ·cases hf
 | .iface t d,d',v,h,hf=>by
  simp only [freeze] at hf;split at hf
  ·rename_i hfree;injection hf with hf;subst hf;exact (h.free hfree _ _).okMono fun b hb=>.inl hb
  ·cases hf
 | .bool _,d',v,h,hf | .int _ _,d',v,h,hf | .str _,d',v,h,hf | .nilp,d',v,h,hf | .nilf,d',v,h,hf | .nili,d',v,h,hf | .raw _,d',v,h,hf | .vptr _,d',v,h,hf | .vsl _ _ _,d',v,h,hf=>by
  simp only [freeze,idFree,if_true,qu] at hf;subst hf;exact (h.free rfl _ _).okMono fun b hb=>.inl hb
where freezeL_rep (hs:Sim X ok w ι H):∀ (l:List D) {l':List D} {vs:Nat→Value},(∀ (j:Nat) d,l[j]? = some d→Rep ok w ι H d (vs j))→freeze.freezeL H l = some l' →
      l.length = l'.length∧∀ (j:Nat) d,l'[j]? = some d→Rep (qf0 ok ι H) w zg [] d (vs j)
 | [],l',vs,_,hf=>by
  simp only [freeze.freezeL,qu] at hf;subst hf;simp
 | d :: l,l',vs,h,hf=>by
  simp only [freeze.freezeL] at hf;split at hf
  ·rename_i d1 l1 h1 h2;injection hf with hf;subst hf;obtain ⟨k1,k2⟩:=freezeL_rep hs l (vs:=fun j=>vs (j+1)) (fun j x hx=>h (j+1) x (by simpa using hx)) h2;refine ⟨by simp [k1],fun j x hx=>?_⟩;cases j with
   | zero =>
    simp only [ZX,qu] at hx;subst hx;exact freeze_rep hs d (h 0 d rfl) h1
   | succ j=>exact k2 j x (by simpa using hx)
  ·cases hf
theorem qdx (n:Nat):∀ (l:List D) (j:Nat),(shift.shiftL n l)[j]? = (l[j]?).map (shift n)
 | [],j=>by simp [shift.shiftL]
 | d :: l,0=>by simp [shift.shiftL]
 | d :: l,j+1=>by simp [shift.shiftL,qdx n l j]
theorem qfh (n:Nat):∀ (l:List D),(shift.shiftL n l).length = l.length
 | []=>rfl
 | d :: l=>by simp [shift.shiftL,qfh n l]
def Yc (n:Nat) (ι ι1:qF):qF:=fun i=>if i < n then ι i else ι1 (i - n)
theorem qcm {L:qi} {i:Nat} (h:i < H.length):qq (H ++ L) i = qq H i:=by simp [qq,ZY h]
theorem qcn {L:qi} {i:Nat}:qq (H ++ L) (H.length+i) = qq L i:=by
 unfold qq;rw [VW (by omega)];congr 2;omega
theorem qhY {n i:Nat} {ι ι1:qF}:Yc n ι ι1 (n+i) = ι1 i:=by
 unfold Yc;rw [if_neg (by omega)];congr 1;omega
theorem qqp {n:Nat} {d:D} (h:zR d = true):zR (shift n d) = true:=by cases d <;> first | rfl | exact h | simp [zR] at h
theorem Rep.shift {L:qi} {ι1:qF} {d:D} {v:Value} (h:Rep ok w ι1 L d v) (ι:qF) (H:qi):Rep ok w (Yc H.length ι ι1) (H ++ L) (Ev.shift H.length d) v:=by
 induction h with
 | bool b=>exact .bool b
 | int k n=>exact .int k n
 | str s=>exact .str s
 | nilp=>exact .nilp
 | nilf=>exact .nilf
 | nili=>exact .nili
 | raw v=>exact .raw v
 | agg hl hc h ih =>
  refine .agg (by rw [qfh];exact hl) ?_ fun j d hj=>?_
  ·intro d hd;obtain ⟨j,hj⟩:=List.mem_iff_getElem?.1 hd;rw [qdx] at hj;simp only [ZT] at hj;obtain ⟨x,hx,rfl⟩:=hj;exact qqp (hc x (mem_of_get? hx))
  ·rw [qdx] at hj;simp only [ZT] at hj;obtain ⟨x,hx,rfl⟩:=hj;exact ih j x hx
 | tup hl h ih =>
  refine .tup (by rw [qfh];exact hl) fun j d hj=>?_;rw [qdx] at hj;simp only [ZT] at hj;obtain ⟨x,hx,rfl⟩:=hj;exact ih j x hx
 | fn hl h ih =>
  refine .fn (by rw [qfh];exact hl) fun j d hj=>?_;rw [qdx] at hj;simp only [ZT] at hj;obtain ⟨x,hx,rfl⟩:=hj;exact ih j x hx
 | iface h ih=>exact .iface ih
 | optr a hi h =>
  refine .optr a (by simp;omega) fun ds hd=>?_;rw [qcn] at hd;obtain ⟨h1,h2⟩:=h ds hd;refine ⟨h1,fun e=>?_⟩;obtain ⟨b,s,q1,q2⟩:=h2 e;exact ⟨b,s,by rw [qhY];exact q1,q2⟩
 | osl a hi h qR =>
  refine .osl a (by simp;omega) (fun ds hd=>?_) qR;rw [qcn] at hd;obtain ⟨h1,h2⟩:=h ds hd;refine ⟨h1,fun e=>?_⟩;obtain ⟨b,s,q1,q2⟩:=h2 e;exact ⟨b,s,by rw [qhY];exact q1,q2⟩
 | vptr a f ha hc hr h ih=>exact .vptr a f ha hc hr h
 | vnil=>exact .vnil
 | vsl a f ha hc hr h qR ih=>exact .vsl a f ha hc hr h qR
theorem qoo {L:qi} {ι1:qF} {ok2:Nat→Prop} (hs:Sim X ok w ι H) (hw:qax w w') (zh:w.heap.size≤w'.heap.size) (zf:∀ b,b < w.heap.size→w'.heap[b]? = w.heap[b]?)
  (h1:∀ b,ok b→ok2 b) (h2:∀ b,ok2 b→b < w.heap.size→ok b) (h3:∀ b,ok2 b→b < w'.heap.size)
  (hi:∀ i j ds es b s s',qq L i = some ds→qq L j = some es→ι1 i = some (b,s)→ι1 j = some (b,s')→i = j)
  (hL:∀ i ds,qq L i = some ds→∃ b arr e fr,ι1 i = some (b,arr.size)∧w.heap.size≤b∧¬ ok2 b∧w'.heap[b]? = some (.cells arr e fr)∧ds.length≤arr.size ∧
   (fr.1 = fr.2∨arr.size≤fr.1)∧(∀ j,j < arr.size→(arr.getD j undef).oneCell' = true)∧(∀ d,d∈ds→zR d = true) ∧
   (∀ (j:Nat) d,ds[j]? = some d→Rep ok2 w' zg [] d (arr.getD j undef))) :
  Sim X ok2 w' (Yc H.length ι ι1) (H ++ L)∧Evol H.length ok w ι H ok2 w' (Yc H.length ι ι1) (H ++ L):=by
 have kg:∀ i ds,qq (H ++ L) i = some ds→(i < H.length∧qq H i = some ds∧Yc H.length ι ι1 i = ι i)∨(H.length≤i∧qq L (i - H.length) = some ds∧Yc H.length ι ι1 i = ι1 (i - H.length)):=by
  intro i ds hd;by_cases qg:i < H.length
  ·rw [qcm qg] at hd;exact .inl ⟨qg,hd,by simp [Yc,qg]⟩
  ·obtain ⟨k,rfl⟩:∃ k,i = H.length+k:=⟨i - H.length,by omega⟩;rw [qcn] at hd;exact .inr ⟨by omega,by simpa using hd,by rw [qhY];congr 1;omega⟩
 have hev:Evol H.length ok w ι H ok2 w' (Yc H.length ι ι1) (H ++ L):=by
  refine ⟨hw.1,hw.2.1,hw.2.2,zh,fun b hb _=>zf b hb,h1,fun b hb qg=>.inl (h2 b hb qg),⟨qB _,by simp⟩,?_,?_⟩
  ·intro i qg ds hd;rw [qcm qg] at hd;exact ⟨ds,hd,qB _,fun _=>by simp [Yc,qg]⟩
  ·intro i ds b s hd hb qg;rcases kg i ds hd with ⟨k1,k2,k3⟩ | ⟨k1,k2,k3⟩
   ·exact ⟨i,ds,s,k2,by rw [← k3];exact hb⟩
   ·obtain ⟨b',arr,e,fr,q1,q2,_⟩:=hL _ ds k2;rw [k3,q1] at hb;injection hb with hb;injection hb with hb _;omega
 refine ⟨⟨h3,?_,?_,?_⟩,hev⟩
 ·intro g cs hg;exact (((hs.glob g cs hg).lift (ι:=ι) (H:=H)).evol hs hev rfl).free rfl _ _
 ·intro i j ds es b s s' hd he hb zq;rcases kg i ds hd with ⟨k1,k2,k3⟩ | ⟨k1,k2,k3⟩ <;> rcases kg j es he with ⟨l1,l2,l3⟩ | ⟨l1,l2,l3⟩
  ·exact hs.inj i j ds es b s s' k2 l2 (by rw [← k3];exact hb) (by rw [← l3];exact zq)
  ·have qg:=hs.lt k2 (by rw [← k3];exact hb);obtain ⟨b',arr,e,fr,q1,q2,_⟩:=hL _ es l2;rw [l3,q1] at zq;injection zq with zq;injection zq with zq _;omega
  ·have qg:=hs.lt l2 (by rw [← l3];exact zq);obtain ⟨b',arr,e,fr,q1,q2,_⟩:=hL _ ds k2;rw [k3,q1] at hb;injection hb with hb;injection hb with hb _;omega
  ·have:=hi _ _ ds es b s s' k2 l2 (by rw [← k3];exact hb) (by rw [← l3];exact zq);omega
 ·intro i ds hd;rcases kg i ds hd with ⟨k1,k2,k3⟩ | ⟨k1,k2,k3⟩
  ·obtain ⟨b,arr,e,fr,q1,q2,q3,q4,q5,q6,q7,q8⟩:=hs.blk i ds k2;have qg:=hs.lt k2 q1;exact ⟨b,arr,e,fr,by rw [k3];exact q1,fun h=>q2 (h2 b h qg),by rw [zf b qg];exact q3,q4,q5,q6,q7,fun j d hj=>(q8 j d hj).evol hs hev (q8 j d hj).closed⟩
  ·obtain ⟨b,arr,e,fr,q1,q2,q3,q4,q5,q6,q7,q8,q9⟩:=hL _ ds k2;exact ⟨b,arr,e,fr,by rw [k3];exact q1,q3,q4,q5,q6,q7,q8,fun j d hj=>(q9 j d hj).lift⟩
end
end Go.Ev
namespace Go.Ev
section
variable {X:Cx} {P:Program} {ok ok':Nat→Prop} {w w':World} {ι:qF} {H H':qi}
structure PInv (n0:Nat) (H:qi) (seen:List Nat) (acc:qi):Prop where
 len:acc.length = seen.length
 at_:∀ (p i:Nat),seen[p]? = some i→n0≤i∧∃ ds,qq H i = some ds∧acc[p]? = some (some ds)∧ds.all idFree = true
 nd:seen.Nodup
def JY (n0:Nat) (ι:qF) (S:List Nat):qF:=fun i=>if i < n0 then ι i else (S[i - n0]?).bind ι
def qoM (n0:Nat) (H:qi) (seen seen':List Nat) (acc acc':qi):Prop :=
 PInv n0 H seen' acc'∧(∃ t,seen' = seen ++ t)∧(∃ u,acc' = acc ++ u)
theorem qfV {n0 i:Nat} (h:i < n0):qq (H.take n0) i = qq H i:=by
 simp [qq,h]
theorem qfW {n0 i:Nat} {A:qi} (hn:n0≤H.length) (h:i < n0):qq (H.take n0 ++ A) i = qq H i:=by
 rw [qcm (by simp;omega),qfV h]
theorem qm0 {n0 p:Nat} {A:qi} (hn:n0≤H.length):qq (H.take n0 ++ A) (n0+p) = qq A p:=by
 have:(H.take n0).length = n0:=by simp;omega
 have h:=qcn (H:=H.take n0) (L:=A) (i:=p)
 rwa [this] at h
theorem qlk {n0 p:Nat} {S:List Nat}:JY n0 ι S (n0+p) = (S[p]?).bind ι:=by
 unfold JY;rw [if_neg (by omega)];congr 2;omega
theorem qmC {n0 i:Nat} {seen S:List Nat} {acc A:qi} (hn:n0≤H.length) (hinv:PInv n0 H seen acc) (hA:PInv n0 H S A) (hpre:∃ t,S = seen ++ [i] ++ t) :
  qq (H.take n0 ++ A) (n0+acc.length) = qq H i∧JY n0 ι S (n0+acc.length) = ι i∧n0+acc.length < (H.take n0 ++ A).length:=by
 obtain ⟨t,rfl⟩:=hpre
 have hS:(seen ++ [i] ++ t)[acc.length]? = some i:=by
  rw [hinv.len];simp
 obtain ⟨_,ds,h1,h2,_⟩:=hA.at_ _ _ hS;refine ⟨?_,?_,?_⟩
 ·rw [qm0 hn,h1];simp [qq,h2]
 ·rw [qlk,hS];rfl
 ·have:acc.length < A.length:=(List.getElem?_eq_some_iff.1 h2).1;simp;omega
theorem PInv.add {n0 i:Nat} {seen:List Nat} {acc:qi} {ds:List D} (hinv:PInv n0 H seen acc) (hi:n0≤i) (hd:qq H i = some ds) (hf:ds.all idFree = true) (hns:i ∉ seen):PInv n0 H (seen ++ [i]) (acc ++ [some ds]):=by
 refine ⟨by simp [hinv.len],fun p j hp=>?_,?_⟩
 ·by_cases qg:p < seen.length
  ·rw [ZY qg] at hp;obtain ⟨h1,es,h2,h3,h4⟩:=hinv.at_ p j hp;exact ⟨h1,es,h2,by rw [ZY (by rw [hinv.len];exact qg)];exact h3,h4⟩
  ·have Yk:p = seen.length:=by
    have:=(List.getElem?_eq_some_iff.1 hp).1;simp at this;omega
   subst Yk;simp at hp;subst hp;exact ⟨hi,ds,hd,by rw [← hinv.len];simp,hf⟩
 ·rw [List.nodup_append];exact ⟨hinv.nd,by simp,by intro a ha b hb;simp at hb;subst hb;intro e;subst e;exact hns ha⟩
theorem qlm (n0:Nat) (hn:n0≤H.length):∀ (d:D) {seen seen':List Nat} {acc acc':qi} {d':D},PInv n0 H seen acc→pack1 n0 H seen acc d = some (d',seen',acc') →
  qoM n0 H seen seen' acc acc'∧(zR d = true→zR d' = true)∧∀ (S:List Nat) (A:qi) (v:Value),PInv n0 H S A→(∃ t,S = seen' ++ t)→Rep ok w ι H d v→Rep ok w (JY n0 ι S) (H.take n0 ++ A) d' v
 | .osl i st off len k,seen,seen',acc,acc',d',hinv,h=>by
  simp only [pack1] at h;split at h
  ·rename_i qg;simp only [qu,qN] at h;obtain ⟨rfl,rfl,rfl⟩:=h;refine ⟨⟨hinv,⟨[],by simp⟩,⟨[],by simp⟩⟩,fun _=>rfl,fun S A v hA hp hr=>?_⟩;cases hr with
   | osl a hi hh qR =>
    refine .osl a (by simp;omega) (fun ds hd=>?_) qR;rw [qfW hn qg] at hd;have:JY n0 ι S i = ι i:=(by simp [JY,qg]);rw [this];exact hh ds hd
  ·rename_i hge;split at h
   ·rename_i ds hd;split at h
    ·rename_i hcond;simp only [qu,qN] at h;obtain ⟨rfl,rfl,rfl⟩:=h;refine ⟨⟨hinv.add (by omega) hd hcond.1 hcond.2,⟨[i],rfl⟩,⟨_,rfl⟩⟩,fun _=>rfl,fun S A v hA hp hr=>?_⟩;obtain ⟨k1,k2,k3⟩:=qmC (ι:=ι) hn hinv hA hp;cases hr with
     | osl a hi hh qR =>
      refine .osl a k3 (fun ds hd=>?_) qR;rw [k1] at hd;rw [k2];exact hh ds hd
    ·cases h
   ·cases h
 | .optr i st off,seen,seen',acc,acc',d',hinv,h=>by
  simp only [pack1] at h;split at h
  ·rename_i qg;simp only [qu,qN] at h;obtain ⟨rfl,rfl,rfl⟩:=h;refine ⟨⟨hinv,⟨[],by simp⟩,⟨[],by simp⟩⟩,fun _=>rfl,fun S A v hA hp hr=>?_⟩;cases hr with
   | optr a hi hh =>
    refine .optr a (by simp;omega) fun ds hd=>?_;rw [qfW hn qg] at hd;have:JY n0 ι S i = ι i:=(by simp [JY,qg]);rw [this];exact hh ds hd
  ·rename_i hge;split at h
   ·rename_i ds hd;split at h
    ·rename_i hcond;simp only [qu,qN] at h;obtain ⟨rfl,rfl,rfl⟩:=h;refine ⟨⟨hinv.add (by omega) hd hcond.1 hcond.2,⟨[i],rfl⟩,⟨_,rfl⟩⟩,fun _=>rfl,fun S A v hA hp hr=>?_⟩;obtain ⟨k1,k2,k3⟩:=qmC (ι:=ι) hn hinv hA hp;cases hr with
     | optr a hi hh =>
      refine .optr a k3 fun ds hd=>?_;rw [k1] at hd;rw [k2];exact hh ds hd
    ·cases h
   ·cases h
 | .agg cs,seen,seen',acc,acc',d',hinv,h=>by
  simp only [pack1] at h;cases hp:pack1.packs n0 H seen acc cs with
  | none=>simp [hp] at h
  | some r =>
   obtain ⟨cs',s',a'⟩:=r;simp only [hp,jF,qu,qN] at h;obtain ⟨rfl,rfl,rfl⟩:=h;obtain ⟨k1,k2,k3,k4⟩:=packs_rep n0 hn cs hinv hp;refine ⟨k1,fun h=>by simp [zR] at h,fun S A v hA hp hr=>?_⟩;cases hr with
   | agg hl hc hh=>exact .agg (by rw [hl,k2]) (k4 hc) (k3 S A (fun j=>(_:Array Value).getD j undef) hA hp hh)
 | .tup cs,seen,seen',acc,acc',d',hinv,h=>by
  simp only [pack1] at h;cases hp:pack1.packs n0 H seen acc cs with
  | none=>simp [hp] at h
  | some r =>
   obtain ⟨cs',s',a'⟩:=r;simp only [hp,jF,qu,qN] at h;obtain ⟨rfl,rfl,rfl⟩:=h;obtain ⟨k1,k2,k3,k4⟩:=packs_rep n0 hn cs hinv hp;refine ⟨k1,fun h=>by simp [zR] at h,fun S A v hA hp hr=>?_⟩;cases hr with
   | tup hl hh=>exact .tup (by rw [hl,k2]) (k3 S A (fun j=>(_:Array Value).getD j undef) hA hp hh)
 | .bool _,seen,seen',acc,acc',d',hinv,h | .int _ _,seen,seen',acc,acc',d',hinv,h | .str _,seen,seen',acc,acc',d',hinv,h | .nilp,seen,seen',acc,acc',d',hinv,h
 | .nilf,seen,seen',acc,acc',d',hinv,h | .nili,seen,seen',acc,acc',d',hinv,h | .raw _,seen,seen',acc,acc',d',hinv,h | .vptr _,seen,seen',acc,acc',d',hinv,h | .vsl _ _ _,seen,seen',acc,acc',d',hinv,h
 | .fn _ _,seen,seen',acc,acc',d',hinv,h | .iface _ _,seen,seen',acc,acc',d',hinv,h=>by
  simp only [pack1] at h;split at h
  ·rename_i hf;simp only [qu,qN] at h;obtain ⟨rfl,rfl,rfl⟩:=h;exact ⟨⟨hinv,⟨[],by simp⟩,⟨[],by simp⟩⟩,fun h=>h,fun S A v hA hp hr=>hr.free hf _ _⟩
  ·cases h
where packs_rep (n0:Nat) (hn:n0≤H.length):∀ (l:List D) {seen seen':List Nat} {acc acc':qi} {l':List D},PInv n0 H seen acc→pack1.packs n0 H seen acc l = some (l',seen',acc') →
      qoM n0 H seen seen' acc acc'∧l.length = l'.length∧(∀ (S:List Nat) (A:qi) (v:Nat→Value),PInv n0 H S A→(∃ t,S = seen' ++ t)→(∀ (j:Nat) d,l[j]? = some d→Rep ok w ι H d (v j)) →
      ∀ (j:Nat) d,l'[j]? = some d→Rep ok w (JY n0 ι S) (H.take n0 ++ A) d (v j))∧((∀ d,d∈l→zR d = true)→∀ d,d∈l'→zR d = true)
 | [],seen,seen',acc,acc',l',hinv,h=>by
  simp only [pack1.packs,qu,qN] at h;obtain ⟨rfl,rfl,rfl⟩:=h;exact ⟨⟨hinv,⟨[],by simp⟩,⟨[],by simp⟩⟩,rfl,fun _ _ _ _ _ _=>by simp,fun _=>by simp⟩
 | d :: l,seen,seen',acc,acc',l',hinv,h=>by
  simp only [pack1.packs] at h;split at h
  ·rename_i d1 s1 a1 h1;split at h
   ·rename_i l1 s2 a2 h2;simp only [qu,qN] at h;obtain ⟨rfl,rfl,rfl⟩:=h;obtain ⟨⟨k1,⟨t1,k2⟩,⟨u1,k3⟩⟩,k4,k5⟩:=qlm n0 hn d hinv h1;obtain ⟨⟨q1,⟨t2,q2⟩,⟨u2,q3⟩⟩,q4,q5,q6⟩:=packs_rep n0 hn l k1 h2;refine ⟨⟨q1,⟨t1 ++ t2,by rw [q2,k2];simp⟩,⟨u1 ++ u2,by rw [q3,k3];simp⟩⟩,by simp [q4],fun S A v hA hp hr j x hx=>?_,fun hc x hx=>?_⟩
    ·cases j with
     | zero =>
      simp only [ZX,qu] at hx;subst hx;obtain ⟨t,ht⟩:=hp;exact k5 S A (v 0) hA ⟨t2 ++ t,by rw [ht,q2];simp⟩ (hr 0 d rfl)
     | succ j=>exact q5 S A (fun j=>v (j+1)) hA hp (fun j x hx=>hr (j+1) x (by simpa using hx)) j x (by simpa using hx)
    ·rcases List.mem_cons.1 hx with rfl | hx
     ·exact k4 (hc d (QY ..))
     ·exact q6 (fun y hy=>hc y (kU _ hy)) x hx
   ·cases h
  ·cases h
theorem qiF {m:Nat} (hm:m≤H.length):Evol m ok w ι H ok w ι (H.take m) :=
 ⟨rfl,rfl,rfl,qB _,fun _ _ _=>rfl,fun _ h=>h,fun _ h _=>.inl h,⟨hm,by simp;omega⟩,fun i hi ds hd=>⟨ds,by rwa [qfV hi] at hd,qB _,fun _=>rfl⟩,
  fun i ds b s hd hb _=>by
   have hi:i < m:=by
    have:=ZH hd;simp at this;omega
   rw [qfV hi] at hd;exact ⟨i,ds,s,hd,hb⟩⟩
theorem qoz {m i:Nat} {ds:List D} (h:(H.take m).all (kR m) = true) (hi:i < m) (hd:qq H i = some ds):∀ d,d∈ds→closed m d = true:=by
 have hl:=ZH hd
 have hg:H[i]? = some (some ds):=by
  unfold qq at hd;rw [zi hl] at hd ⊢;simpa using hd
 have VE:some ds∈H.take m:=qcy (i:=i) (by rw [VV,if_pos hi];exact hg);have:=List.all_eq_true.1 h _ VE;simp only [kR] at this;exact List.all_eq_true.1 this
theorem qzf {m:Nat} (hm:m≤H.length) (hs:Sim X ok w ι H) (hc:(H.take m).all (kR m) = true):Sim X ok w ι (H.take m):=by
 have qg:∀ i ds,qq (H.take m) i = some ds→i < m∧qq H i = some ds:=by
  intro i ds hd
  have hi:i < m:=by
   have:=ZH hd;simp at this;omega
  exact ⟨hi,by rwa [qfV hi] at hd⟩
 refine ⟨hs.okS,hs.glob,fun i j ds es b s s' hd he=>hs.inj i j ds es b s s' (qg i ds hd).2 (qg j es he).2,fun i ds hd=>?_⟩;obtain ⟨hi,hd⟩:=qg i ds hd;obtain ⟨b,arr,e,fr,q1,q2,q3,q4,q5,q6,q7,q8⟩:=hs.blk i ds hd;exact ⟨b,arr,e,fr,q1,q2,q3,q4,q5,q6,q7,fun j d hj=>(q8 j d hj).evol hs (qiF hm) (qoz hc hi hd d (mem_of_get? hj))⟩
theorem qli {n0:Nat} (hn:n0≤H.length) (hs:Sim X ok w ι H) {r r':D} {v:Value} (hr:Rep ok w ι H r v) (h:YG n0 H r = some (r',H')) :
  ∃ ι',Sim X ok w ι' H'∧Rep ok w ι' H' r' v∧Evol n0 ok w ι H ok w ι' H'∧(∀ i ds,n0≤i→qq H' i = some ds→ds.all idFree = true):=by
 unfold YG at h;split at h
 ·rename_i r1 S A hp;split at h
  ·rename_i hc;simp only [qu,qN] at h;obtain ⟨rfl,rfl⟩:=h;obtain ⟨⟨k1,_,_⟩,_,k3⟩:=qlm (ok:=ok) (w:=w) (ι:=ι) n0 hn r (seen:=[]) (acc:=[]) ⟨rfl,by simp,by simp⟩ hp;have hrep:=k3 S A v k1 ⟨[],by simp⟩ hr
   have kg:∀ i ds,qq (H.take n0 ++ A) i = some ds→(i < n0∧qq H i = some ds∧JY n0 ι S i = ι i)∨(∃ p j,i = n0+p∧S[p]? = some j∧n0≤j∧qq H j = some ds∧JY n0 ι S i = ι j∧ds.all idFree = true):=by
    intro i ds hd;by_cases qg:i < n0
    ·rw [qfW hn qg] at hd;exact .inl ⟨qg,hd,by simp [JY,qg]⟩
    ·obtain ⟨p,rfl⟩:∃ p,i = n0+p:=⟨i - n0,by omega⟩;rw [qm0 hn] at hd;have vD:=ZH hd;have hSp:S[p]? = some (S[p]'(by rw [← k1.len];exact vD)):=zi _;obtain ⟨q1,es,q2,q3,q4⟩:=k1.at_ _ _ hSp
     have:es = ds:=by
      unfold qq at hd;rw [q3] at hd;simpa using hd
     subst this;exact .inr ⟨p,_,rfl,hSp,q1,q2,by rw [qlk,hSp];rfl,q4⟩
   have hev:Evol n0 ok w ι H ok w (JY n0 ι S) (H.take n0 ++ A):=by
    refine ⟨rfl,rfl,rfl,qB _,fun _ _ _=>rfl,fun _ h=>h,fun _ h _=>.inl h,⟨hn,by simp;omega⟩,?_,?_⟩
    ·intro i hi ds hd;rw [qfW hn hi] at hd;exact ⟨ds,hd,qB _,fun _=>by simp [JY,hi]⟩
    ·intro i ds b s hd hb _;rcases kg i ds hd with ⟨q1,q2,q3⟩ | ⟨p,j,_,_,_,q2,q3,_⟩
     ·exact ⟨i,ds,s,q2,by rw [← q3];exact hb⟩
     ·exact ⟨j,ds,s,q2,by rw [← q3];exact hb⟩
   refine ⟨JY n0 ι S,⟨hs.okS,hs.glob,?_,?_⟩,hrep,hev,?_⟩
   ·intro i j ds es b s s' hd he hb zq;rcases kg i ds hd with ⟨q1,q2,q3⟩ | ⟨p,i',rfl,q1,q1',q2,q3,_⟩ <;> rcases kg j es he with ⟨l1,l2,l3⟩ | ⟨p',j',rfl,l1,l1',l2,l3,_⟩
    ·exact hs.inj i j ds es b s s' q2 l2 (by rw [← q3];exact hb) (by rw [← l3];exact zq)
    ·have:=hs.inj i j' ds es b s s' q2 l2 (by rw [← q3];exact hb) (by rw [← l3];exact zq);omega
    ·have:=hs.inj i' j ds es b s s' q2 l2 (by rw [← q3];exact hb) (by rw [← l3];exact zq);omega
    ·have:=hs.inj i' j' ds es b s s' q2 l2 (by rw [← q3];exact hb) (by rw [← l3];exact zq);subst this;have Kt:=(List.getElem?_eq_some_iff.1 q1);have hp2:=(List.getElem?_eq_some_iff.1 l1);obtain ⟨a1,a2⟩:=Kt;obtain ⟨b1,b2⟩:=hp2;have hpw:=List.pairwise_iff_getElem.1 k1.nd;rcases Nat.lt_trichotomy p p' with qg | heq | hgt
     ·exact absurd (a2.trans b2.symm) (hpw p p' a1 b1 qg)
     ·omega
     ·exact absurd (b2.trans a2.symm) (hpw p' p b1 a1 hgt)
   ·intro i ds hd;rcases kg i ds hd with ⟨q1,q2,q3⟩ | ⟨p,j,rfl,q1,q1',q2,q3,q4⟩
    ·obtain ⟨b,arr,e,fr,c1,c2,c3,c4,c5,c6,c7,c8⟩:=hs.blk i ds q2;exact ⟨b,arr,e,fr,by rw [q3];exact c1,c2,c3,c4,c5,c6,c7,fun j d hj=>(c8 j d hj).evol hs hev (qoz hc q1 q2 d (mem_of_get? hj))⟩
    ·obtain ⟨b,arr,e,fr,c1,c2,c3,c4,c5,c6,c7,c8⟩:=hs.blk j ds q2;exact ⟨b,arr,e,fr,by rw [q3];exact c1,c2,c3,c4,c5,c6,c7,fun j d hj=>(c8 j d hj).free (KG q4 d (mem_of_get? hj)) _ _⟩
   ·intro i ds hi hd;rcases kg i ds hd with ⟨q1,q2,q3⟩ | ⟨p,j,rfl,q1,q1',q2,q3,q4⟩
    ·omega
    ·exact q4
  ·cases h
 ·cases h
end
end Go.Ev
namespace Go.Ev
section
variable {X:Cx} {ok ok':Nat→Prop} {w w':World} {ι:qF} {H H':qi}
theorem qfL {d:D} {v:Value} (h:Rep ok w ι H d v) (Zi:v.oneCell' = true):zR d = true:=by
 cases h <;> first | rfl | exact Zi | simp [Value.oneCell'] at Zi
theorem qcM:∀ (l:List Nat) (H:qi),(Vv H l).length = H.length
 | [],H=>rfl
 | i :: l,H=>by rw [Vv,qcM l,qc0]
theorem qcS:∀ (l:List Nat) (H:qi) {j:Nat} {ds:List D},qq (Vv H l) j = some ds→qq H j = some ds∧j ∉ l
 | [],H,j,ds,h=>⟨h,by simp⟩
 | i :: l,H,j,ds,h=>by
  obtain ⟨h1,h2⟩:=qcS l _ h;unfold qq at h1;by_cases jj:i = j
  ·subst jj;rw [List.getElem?_set] at h1;simp only [if_true] at h1;split at h1 <;> simp at h1
  ·rw [List.getElem?_set_ne jj] at h1;exact ⟨h1,by simp only [qbG,not_or];exact ⟨fun h=>jj h.symm,h2⟩⟩
def Xx (ok:Nat→Prop) (ι:qF) (H:qi) (l:List Nat) (b:Nat):Prop:=ok b∨∃ i ds s,i∈l∧qq H i = some ds∧ι i = some (b,s)
theorem qa7 {okF:Nat→Prop} {cond:Nat→Prop} {g:D→Option (D × List Nat)}
  (hg:∀ d d' l v,Rep ok w ι H d v→g d = some (d',l)→(∀ i,i∈l→cond i)→Rep okF w zg [] d' v) :
  ∀ (ds:List D) {ds':List D} {l:List Nat} {vs:Nat→Value},(∀ (j:Nat) d,ds[j]? = some d→Rep ok w ι H d (vs j))→v7 g ds = some (ds',l)→(∀ i,i∈l→cond i) →
   ds.length = ds'.length∧∀ (j:Nat) d,ds'[j]? = some d→Rep okF w zg [] d (vs j)
 | [],ds',l,vs,_,h,_=>by
  simp only [v7,qu,qN] at h;obtain ⟨rfl,rfl⟩:=h;simp
 | d :: ds,ds',l,vs,hr,h,hl=>by
  simp only [v7] at h;split at h
  ·rename_i d1 a l1 b h1 h2;simp only [qu,qN] at h;obtain ⟨rfl,rfl⟩:=h;obtain ⟨k1,k2⟩:=qa7 hg ds (vs:=fun j=>vs (j+1)) (fun j x hx=>hr (j+1) x (by simpa using hx)) h2 (fun i hi=>hl i (List.mem_append_right _ hi));refine ⟨by simp [k1],fun j x hx=>?_⟩;cases j with
   | zero =>
    simp only [ZX,qu] at hx;subst hx;exact hg d _ _ _ (hr 0 d rfl) h1 fun i hi=>hl i (qcz _ hi)
   | succ j=>exact k2 j x (by simpa using hx)
  ·cases h
theorem qdt (hs:Sim X ok w ι H) {okF:Nat→Prop} (hm:∀ b,ok b→okF b):∀ (n:Nat) (d d':D) (l:List Nat) (v:Value),Rep ok w ι H d v→jA H n d = some (d',l) →
  (∀ i,i∈l→∀ ds b s,qq H i = some ds→ι i = some (b,s)→okF b)→Rep okF w zg [] d' v
 | 0,d,d',l,v,_,h,_=>by simp [jA] at h
 | n+1,d,d',l,v,hr,h,hl=>by
  have ih:=qdt hs hm n;have free_:idFree d = true→d' = d→Rep okF w zg [] d' v:=fun hf he=>by subst he;exact (hr.free hf _ _).okMono hm
  simp only [jA] at h;split at h
  ·rename_i hfree;simp only [qu,qN] at h;exact free_ hfree h.1.symm
  rename_i hnfree;clear hnfree;cases hr with
  | bool b=>simp only [qu,qN] at h;exact free_ rfl h.1.symm
  | int k n=>simp only [qu,qN] at h;exact free_ rfl h.1.symm
  | str s=>simp only [qu,qN] at h;exact free_ rfl h.1.symm
  | nilp=>simp only [qu,qN] at h;exact free_ rfl h.1.symm
  | nilf=>simp only [qu,qN] at h;exact free_ rfl h.1.symm
  | nili=>simp only [qu,qN] at h;exact free_ rfl h.1.symm
  | raw v=>simp only [qu,qN] at h;exact free_ rfl h.1.symm
  | vnil=>simp only [qu,qN] at h;exact free_ rfl h.1.symm
  | vptr a f ha hc hr hh=>simp only [qu,qN] at h;exact free_ rfl h.1.symm
  | vsl a f ha hc hr hh qR=>simp only [qu,qN] at h;exact free_ rfl h.1.symm
  | @agg _ _ cs vs zo hc hh =>
   simp only at h;cases hst:v7 (jA H n) cs with
   | none=>simp [hst] at h
   | some q =>
    obtain ⟨cs',l'⟩:=q;simp only [hst,jF,qu,qN] at h;obtain ⟨rfl,rfl⟩:=h;obtain ⟨k1,k2⟩:=qa7 (cond:=fun i=>∀ ds b s,qq H i = some ds→ι i = some (b,s)→okF b) ih cs hh hst hl;refine .agg (by rw [zo,k1]) (fun d hd=>?_) k2;obtain ⟨j,hj⟩:=List.mem_iff_getElem?.1 hd;have vt:j < cs.length:=(by rw [k1];exact (List.getElem?_eq_some_iff.1 hj).1);have h0:cs[j]? = some cs[j]:=zi vt;exact qfL (k2 j d hj) ((hh j _ h0).oneCell (hc _ (mem_of_get? h0)))
  | @tup _ _ cs vs zo hh =>
   simp only at h;cases hst:v7 (jA H n) cs with
   | none=>simp [hst] at h
   | some q =>
    obtain ⟨cs',l'⟩:=q;simp only [hst,jF,qu,qN] at h;obtain ⟨rfl,rfl⟩:=h;obtain ⟨k1,k2⟩:=qa7 (cond:=fun i=>∀ ds b s,qq H i = some ds→ι i = some (b,s)→okF b) ih cs hh hst hl;exact .tup (by rw [zo,k1]) k2
  | @fn _ _ f cs vs zo hh =>
   simp only at h;cases hst:v7 (jA H n) cs with
   | none=>simp [hst] at h
   | some q =>
    obtain ⟨cs',l'⟩:=q;simp only [hst,jF,qu,qN] at h;obtain ⟨rfl,rfl⟩:=h;obtain ⟨k1,k2⟩:=qa7 (cond:=fun i=>∀ ds b s,qq H i = some ds→ι i = some (b,s)→okF b) ih cs hh hst hl;exact .fn (by rw [zo,k1]) k2
  | iface hh =>
   simp only at h;rename_i t d v;cases hst:jA H n d with
   | none=>simp [hst] at h
   | some q =>
    obtain ⟨d1,l'⟩:=q;simp only [hst,jF,qu,qN] at h;obtain ⟨rfl,rfl⟩:=h;exact .iface (ih d _ _ _ hh hst hl)
  | @optr _ _ i st off a hi hh =>
   simp only at h;split at h
   ·rename_i ds hd;split at h
    ·rename_i hst;obtain ⟨b,s,q1,rfl⟩:=(hh ds hd).2 hst;obtain ⟨b',arr,e,fr,k1,k2,k3,k4,k5,k6,k7,k8⟩:=hs.blk i ds hd;have hq:=q1;rw [q1] at k1;injection k1 with k1;injection k1 with k1 _;subst k1
     have main:∀ ds':List D,ds.length = ds'.length→(∀ (j:Nat) d,ds'[j]? = some d→Rep okF w zg [] d (arr.getD j undef))→i∈l→Rep okF w zg [] (.vptr (ds'.drop off)) (.pointer (some ⟨b,off,none⟩)):=by
      intro ds' zo hrep YV;refine .vptr _ (fun j=>arr.getD (off+j) undef) (fun _ _=>hl i YV ds b s hd hq) (fun d zp=>?_) (fun j d hj=>?_) (fun j d hj=>?_)
      ·obtain ⟨j,hj⟩:=List.mem_iff_getElem?.1 (V1 zp);have vt:j < ds.length:=(by rw [zo];exact (List.getElem?_eq_some_iff.1 hj).1);exact qfL (hrep j d hj) (k6 j (by omega))
      ·rw [QE] at hj;have qg:off+j < arr.size:=(by have:=(List.getElem?_eq_some_iff.1 hj).1;omega);rw [ZR,cell_of_heap k3];simp [qg]
      ·rw [QE] at hj;exact hrep _ d hj
     split at h
     ·rename_i hfree;simp only [qu,qN] at h;obtain ⟨rfl,rfl⟩:=h;exact main ds rfl (fun j d hj=>((k8 j d hj).free ((qck _).1 hfree d (mem_of_get? hj)) _ _).okMono hm) (by simp)
     ·split at h
      ·rename_i ds' l' hsl;simp only [qu,qN] at h;obtain ⟨rfl,rfl⟩:=h;obtain ⟨e1,e2⟩:=qa7 (cond:=fun i=>∀ ds b s,qq H i = some ds→ι i = some (b,s)→okF b) ih ds (vs:=fun j=>arr.getD j undef) k8 hsl (fun i hi=>hl i (kU _ hi));exact main ds' e1 e2 (by simp)
      ·cases h
    ·cases h
   ·cases h
  | @osl _ _ i st off len k c a hi hh qR =>
   simp only at h;split at h
   ·rename_i ds hd;split at h
    ·rename_i hst;obtain ⟨b,s,q1,rfl,q3⟩:=(hh ds hd).2 hst.1;obtain ⟨b',arr,e,fr,k1,k2,k3,k4,k5,k6,k7,k8⟩:=hs.blk i ds hd;have hq:=q1;rw [q1] at k1;injection k1 with k1;injection k1 with k1 _;subst k1
     have main:∀ ds':List D,ds.length = ds'.length→(∀ (j:Nat) d,ds'[j]? = some d→Rep okF w zg [] d (arr.getD j undef))→i∈l→Rep okF w zg [] (.vsl false ((ds'.drop off).take (len * k)) len) (.slice (some ⟨b,off,none⟩) len c):=by
      intro ds' zo hrep YV;refine .vsl _ (fun j=>arr.getD (off+j) undef) (fun _ _=>hl i YV ds b s hd hq) (fun d zp=>?_) (fun j d hj=>?_) (fun j d hj=>?_) qR
      ·obtain ⟨j,hj⟩:=List.mem_iff_getElem?.1 (V1 (Jv zp));have vt:j < ds.length:=(by rw [zo];exact (List.getElem?_eq_some_iff.1 hj).1);exact qfL (hrep j d hj) (k6 j (by omega))
      ·rw [VV] at hj;split at hj
       ·rw [QE] at hj;have qg:off+j < arr.size:=(by have:=(List.getElem?_eq_some_iff.1 hj).1;omega);rw [ZR,cell_of_heap k3];simp [qg]
       ·cases hj
      ·rw [VV] at hj;split at hj
       ·rw [QE] at hj;exact hrep _ d hj
       ·cases hj
     split at h
     ·rename_i hfree;simp only [qu,qN] at h;obtain ⟨rfl,rfl⟩:=h;exact main ds rfl (fun j d hj=>((k8 j d hj).free ((qck _).1 hfree d (mem_of_get? hj)) _ _).okMono hm) (by simp)
     ·split at h
      ·rename_i ds' l' hsl;simp only [qu,qN] at h;obtain ⟨rfl,rfl⟩:=h;obtain ⟨e1,e2⟩:=qa7 (cond:=fun i=>∀ ds b s,qq H i = some ds→ι i = some (b,s)→okF b) ih ds (vs:=fun j=>arr.getD j undef) k8 hsl (fun i hi=>hl i (kU _ hi));exact main ds' e1 e2 (by simp)
      ·cases h
    ·cases h
   ·cases h
theorem qdc (l:List Nat):Evol H.length ok w ι H (Xx ok ι H l) w ι (Vv H l) :=
 ⟨rfl,rfl,rfl,qB _,fun _ _ _=>rfl,fun _ h=>.inl h,fun b h _=>h.imp id fun ⟨i,ds,s,_,hd,hi⟩=>⟨i,ds,s,hd,hi⟩,⟨qB _,by rw [qcM];exact qB _⟩,
  fun i _ ds hd=>⟨ds,(qcS l H hd).1,qB _,fun _=>rfl⟩,fun i ds b s hd hi _=>⟨i,ds,s,(qcS l H hd).1,hi⟩⟩
theorem qgp (hs:Sim X ok w ι H) (l:List Nat):Sim X (Xx ok ι H l) w ι (Vv H l) where
 okS b hb:=by
  rcases hb with hb | ⟨i,ds,s,_,hd,hi⟩
  ·exact hs.okS b hb
  ·exact hs.lt hd hi
 glob g cs hg:=(hs.glob g cs hg).okMono fun b hb=>.inl hb
 inj i j ds es b s s' hd he hi hj:=hs.inj i j ds es b s s' (qcS l H hd).1 (qcS l H he).1 hi hj
 blk i ds hd:=by
  obtain ⟨h1,h2⟩:=qcS l H hd;obtain ⟨b,arr,e,fr,k1,k2,k3,k4,k5,k6,k7,k8⟩:=hs.blk i ds h1;refine ⟨b,arr,e,fr,k1,?_,k3,k4,k5,k6,k7,fun j d hj=>(k8 j d hj).evol hs (qdc l) (k8 j d hj).closed⟩;rintro (hb | ⟨i',ds',s,hm,zp,ZG⟩)
  ·exact k2 hb
  ·have:=hs.inj i' i ds' ds b s arr.size zp h1 ZG k1;subst this;exact h2 hm
theorem qfG:∀ (e' e:qr) (t:Nat),qf (e' ++ e) t = (qf e' t).or (qf e t)
 | [],e,t=>by simp [qf]
 | (s,d) :: e',e,t=>by
  simp only [kt,qf];by_cases h:s = t
  ·simp [h]
  ·simp only [h,if_false];exact qfG e' e t
theorem qgM (hs:Sim X ok w ι H) {e:qr} {tmps:Array Value} (he:EnvRep ok w ι H e tmps) {okF:Nat→Prop} (hm:∀ b,ok b→okF b):∀ (ss:List Nat) {e':qr} {l:List Nat},qbR H e ss = some (e',l) →
  (∀ i,i∈l→∀ ds b s,qq H i = some ds→ι i = some (b,s)→okF b)→EnvRep okF w zg [] e' tmps
 | [],e',l,h,_=>by
  simp only [qbR,qu,qN] at h;obtain ⟨rfl,rfl⟩:=h;intro t d ht;simp [qf] at ht
 | s :: ss,e',l,h,hl=>by
  simp only [qbR] at h;split at h
  ·exact qgM hs he hm ss h hl
  ·rename_i d hd;split at h
   ·rename_i d1 a e1 b h1 h2;simp only [qu,qN] at h;obtain ⟨rfl,rfl⟩:=h;have ih:=qgM hs he hm ss h2 fun i hi=>hl i (List.mem_append_right _ hi);intro t x ht;simp only [qf] at ht;split at ht
    ·rename_i hst;subst hst;injection ht with ht;subst ht;obtain ⟨q1,q2⟩:=he _ _ hd;exact ⟨q1,qdt hs hm _ _ _ _ _ q2 h1 fun i hi=>hl i (qcz _ hi)⟩
    ·exact ih t x ht
   ·cases h
theorem qyk {ss:List Nat} {e e':qr} {tmps:Array Value} (h:qcU ss e H = some (e',H')) (hs:Sim X ok w ι H) (he:EnvRep ok w ι H e tmps) :
  ∃ ok',Sim X ok' w ι H'∧EnvRep ok' w ι H' e' tmps∧Evol H.length ok w ι H ok' w ι H':=by
 unfold qcU at h;split at h
 ·rename_i e1 l hst;simp only [qu,qN] at h;obtain ⟨rfl,rfl⟩:=h;refine ⟨Xx ok ι H l,qgp hs l,fun t d ht=>?_,qdc l⟩;rw [qfG] at ht;cases hx:qf e1 t with
  | some x =>
   rw [hx] at ht;simp only [Option.some_or,qu] at ht;subst ht;obtain ⟨q1,q2⟩:=qgM hs he (okF:=Xx ok ι H l) (fun b hb=>.inl hb) ss hst (fun i hi ds b s hd hb=>.inr ⟨i,ds,s,hi,hd,hb⟩) t x hx;exact ⟨q1,q2.lift⟩
  | none =>
   rw [hx,Option.none_or] at ht;obtain ⟨q1,q2⟩:=he t d ht;exact ⟨q1,q2.evol hs (qdc l) q2.closed⟩
 ·cases h
theorem qjq {e:qr}:∀ {S:List Nat} {ds:List D},XT e S = some ds→S.length = ds.length∧∀ (j:Nat) s d,S[j]? = some s→ds[j]? = some d→qf e s = some d
 | [],ds,h=>by
  simp only [XT,qu] at h;subst h;simp
 | s :: ss,ds,h=>by
  simp only [XT] at h;split at h
  ·rename_i d ds' h1 h2;injection h with h;subst h;obtain ⟨k1,k2⟩:=qjq h2;refine ⟨by simp [k1],fun j s' d' hs hd=>?_⟩;cases j with
   | zero =>
    simp only [ZX,qu] at hs hd;subst hs;subst hd;exact h1
   | succ j=>exact k2 j s' d' (by simpa using hs) (by simpa using hd)
  ·cases h
theorem qlJ:∀ {S:List Nat} {ds:List D} {t:Nat} {d:D},qf (VY S ds) t = some d→∃ j:Nat,S[j]? = some t∧ds[j]? = some d
 | [],_,t,d,h=>by simp [VY,qf] at h
 | _ :: _,[],t,d,h=>by simp [VY,qf] at h
 | s :: S,x :: ds,t,d,h=>by
  simp only [VY,qf] at h;split at h
  ·rename_i hst;subst hst;injection h with h;subst h;exact ⟨0,rfl,rfl⟩
  ·obtain ⟨j,h1,h2⟩:=qlJ h;exact ⟨j+1,by simpa using h1,by simpa using h2⟩
theorem qfE:∀ {ks:List Nat} {e:qr} {t:Nat} {d:D},qf (kf ks e) t = some d→qf e t = some d
 | [],e,t,d,h=>by simp [kf,qf] at h
 | k :: ks,e,t,d,h=>by
  simp only [kf] at h;split at h
  ·rename_i x hk;simp only [qf] at h;split at h
   ·rename_i KY;subst KY;rw [hk];exact h
   ·exact qfE h
  ·exact qfE h
theorem qlL {n:Nat}:∀ {e:qr} {t:Nat} {d:D},qaq n e = true→qf e t = some d→closed n d = true
 | [],t,d,_,h=>by simp [qf] at h
 | (s,x) :: e,t,d,hc,h=>by
  simp only [qaq,qT] at hc;simp only [qf] at h;split at h
  ·injection h with h;subst h;exact hc.1
  ·exact qlL hc.2 h
theorem qrA {n0:Nat} {S ks:List Nat} {e e':qr} {tmps:Array Value} (h:qfp n0 S ks e H = some (e',H')) (hn:n0≤H.length) (hs:Sim X ok w ι H) (he:EnvRep ok w ι H e tmps) :
  ∃ ι',Sim X ok w ι' H'∧EnvRep ok w ι' H' e' tmps∧Evol n0 ok w ι H ok w ι' H':=by
 unfold qfp at h;split at h
 ·cases h
 ·rename_i ds hv;split at h
  ·rename_i ds' H1 hp;split at h
   ·rename_i hc;simp only [qu,qN] at h;obtain ⟨rfl,rfl⟩:=h;obtain ⟨g1,g2⟩:=qjq hv
    have hrep:Rep ok w ι H (.tup ds) (.tuple (S.map fun s=>tmps.getD s undef).toArray):=by
     refine .tup (by simp [g1]) fun j d hj=>?_;have VI:j < S.length:=(by rw [g1];exact (List.getElem?_eq_some_iff.1 hj).1);have h0:S[j]? = some S[j]:=zi VI;have:=(he _ _ (g2 j _ d h0 hj)).2;simpa [jp,VI] using this
    obtain ⟨ι2,p1,p2,p3,p4⟩:=qli hn hs hrep hp;refine ⟨ι2,p1,fun t d ht=>?_,p3⟩;rw [qfG] at ht;cases hx:qf (VY S ds') t with
    | some x =>
     rw [hx] at ht;simp only [Option.some_or,qu] at ht;subst ht;obtain ⟨j,q1,q2⟩:=qlJ hx;have VI:j < S.length:=(List.getElem?_eq_some_iff.1 q1).1;have hjd:j < ds.length:=(by omega);refine ⟨(he _ _ (g2 j t _ q1 (zi hjd))).1,?_⟩;cases p2 with
     | tup hl hh =>
      have:=hh j x q2;have e1:S[j] = t:=(by rw [zi VI] at q1;exact qbC q1);simpa [jp,VI,e1] using this
    | none =>
     rw [hx,Option.none_or] at ht;obtain ⟨q1,q2⟩:=he t d (qfE ht);exact ⟨q1,q2.evol hs p3 (qlL hc ht)⟩
   ·cases h
  ·cases h
theorem qie:∀ {p:List Nat} {i k j:Nat},Jh p i k = some j→k≤j∧p[j - k]? = some i
 | [],i,k,j,h=>by cases h
 | a :: l,i,k,j,h=>by
  simp only [Jh] at h;split at h
  ·rename_i ha;injection h with h;subst h;subst ha;exact ⟨qB _,by simp⟩
  ·obtain ⟨h1,h2⟩:=qie h;refine ⟨by omega,?_⟩;rw [show j - k = (j - (k+1))+1 by omega,List.getElem?_cons_succ];exact h2
theorem qdA {p:List Nat}:∀ {cs ds:List D},renD.renL p cs = some ds→ds.length = cs.length
 | [],ds,h=>by
  simp only [renD.renL,qu] at h;subst h;rfl
 | c :: cs,ds,h=>by
  simp only [renD.renL] at h;split at h
  ·rename_i d l h1 h2;injection h with h;subst h;simp [qdA h2]
  ·cases h
theorem qbY {p:List Nat}:∀ {cs ds:List D},renD.renL p cs = some ds→∀ {j:Nat} {d:D},ds[j]? = some d→∃ c,cs[j]? = some c∧renD p c = some d
 | [],ds,h,j,d,hj=>by
  simp only [renD.renL,qu] at h;subst h;simp at hj
 | c :: cs,ds,h,j,d,hj=>by
  simp only [renD.renL] at h;split at h
  ·rename_i d0 l h1 h2;injection h with h;subst h;cases j with
   | zero =>
    simp only [ZX,qu] at hj;subst hj;exact ⟨c,rfl,h1⟩
   | succ j=>exact qbY h2 (by simpa using hj)
  ·cases h
theorem qkG {p:List Nat} {c d:D} (h:renD p c = some d) (hc:zR c = true):zR d = true:=by
 cases c <;> simp only [renD,ZT,qu] at h <;> first | (simp [zR] at hc;done) | (obtain ⟨_,_,rfl⟩:=h;rfl) | (subst h;exact hc)
theorem qk9 {p:List Nat} {ι2:qF} {H2:qi} (hp:∀ i j,Jh p i 0 = some j→i < H.length→j < H2.length∧ι2 j = ι i∧∀ ds2,qq H2 j = some ds2→∃ ds,qq H i = some ds∧ds.length = ds2.length)
  {ι1:qF} {H1:qi} {d:D} {v:Value} (h:Rep ok w ι1 H1 d v):ι1 = ι→H1 = H→∀ d2,renD p d = some d2→Rep ok w ι2 H2 d2 v:=by
 induction h with
 | bool b=>intro _ _ d2 hd;simp only [renD,qu] at hd;subst hd;exact .bool b
 | int k n=>intro _ _ d2 hd;simp only [renD,qu] at hd;subst hd;exact .int k n
 | str s=>intro _ _ d2 hd;simp only [renD,qu] at hd;subst hd;exact .str s
 | nilp=>intro _ _ d2 hd;simp only [renD,qu] at hd;subst hd;exact .nilp
 | nilf=>intro _ _ d2 hd;simp only [renD,qu] at hd;subst hd;exact .nilf
 | nili=>intro _ _ d2 hd;simp only [renD,qu] at hd;subst hd;exact .nili
 | raw v=>intro _ _ d2 hd;simp only [renD,qu] at hd;subst hd;exact .raw v
 | agg hl hc h ih =>
  intro h1 h2 d2 hd;simp only [renD,ZT] at hd;obtain ⟨cs,hcs,rfl⟩:=hd;refine .agg (by rw [hl,qdA hcs]) (fun d hd=>?_) (fun j d hj=>?_)
  ·obtain ⟨j,hj,he⟩:=List.getElem_of_mem hd;obtain ⟨c,q1,q2⟩:=qbY hcs (show cs[j]? = some d by rw [zi hj,he]);exact qkG q2 (hc c (mem_of_get? q1))
  ·obtain ⟨c,q1,q2⟩:=qbY hcs hj;exact ih j c q1 h1 h2 d q2
 | tup hl h ih =>
  intro h1 h2 d2 hd;simp only [renD,ZT] at hd;obtain ⟨cs,hcs,rfl⟩:=hd;refine .tup (by rw [hl,qdA hcs]) (fun j d hj=>?_);obtain ⟨c,q1,q2⟩:=qbY hcs hj;exact ih j c q1 h1 h2 d q2
 | fn hl h ih =>
  intro h1 h2 d2 hd;simp only [renD,ZT] at hd;obtain ⟨cs,hcs,rfl⟩:=hd;refine .fn (by rw [hl,qdA hcs]) (fun j d hj=>?_);obtain ⟨c,q1,q2⟩:=qbY hcs hj;exact ih j c q1 h1 h2 d q2
 | iface h ih =>
  intro h1 h2 d2 hd;simp only [renD,ZT] at hd;obtain ⟨c,hcs,rfl⟩:=hd;exact .iface (ih h1 h2 c hcs)
 | optr a hi hk =>
  intro h1 h2 d2 hd;subst h1;subst h2;simp only [renD,ZT] at hd;obtain ⟨j,hj,rfl⟩:=hd;obtain ⟨q1,q2,q3⟩:=hp _ j hj hi;refine .optr a q1 fun ds2 vZ=>?_;obtain ⟨ds,r1,r2⟩:=q3 ds2 vZ;obtain ⟨k1,k2⟩:=hk ds r1;rw [r2] at k1 k2;rw [q2];exact ⟨k1,k2⟩
 | osl a hi hk qR =>
  intro h1 h2 d2 hd;subst h1;subst h2;simp only [renD,ZT] at hd;obtain ⟨j,hj,rfl⟩:=hd;obtain ⟨q1,q2,q3⟩:=hp _ j hj hi;refine .osl a q1 (fun ds2 vZ=>?_) qR;obtain ⟨ds,r1,r2⟩:=q3 ds2 vZ;obtain ⟨k1,k2⟩:=hk ds r1;rw [r2] at k1 k2;rw [q2];exact ⟨k1,k2⟩
 | vptr a f ha hc hr h ih=>intro _ _ d2 hd;simp only [renD,qu] at hd;subst hd;exact .vptr a f ha hc hr h
 | vnil=>intro _ _ d2 hd;simp only [renD,qu] at hd;subst hd;exact .vnil
 | vsl a f ha hc hr h qR ih=>intro _ _ d2 hd;simp only [renD,qu] at hd;subst hd;exact .vsl a f ha hc hr h qR
theorem qhq {p:List Nat}:∀ {l:List Nat} {L:qi},YD p H l = some L→L.length = l.length∧∀ {j:Nat} {ds2:List D},qq L j = some ds2→∃ i ds,l[j]? = some i∧qq H i = some ds∧Xs p ds = some ds2
 | [],L,h=>by
  simp only [YD,qu] at h;subst h;exact ⟨rfl,fun {j ds2} hj=>by simp [qq] at hj⟩
 | i :: l,L,h=>by
  simp only [YD] at h;split at h
  ·cases h
  ·rename_i ds hd;split at h
   ·rename_i ds' L' h1 h2;injection h with h;subst h;obtain ⟨g1,g2⟩:=qhq h2;refine ⟨by simp [g1],fun {j ds2} hj=>?_⟩;cases j with
    | zero =>
     simp only [qq,ZX,Ju,qu] at hj;subst hj;exact ⟨i,ds,rfl,hd,h1⟩
    | succ j =>
     obtain ⟨i',ds0,q1,q2,q3⟩:=g2 (j:=j) (ds2:=ds2) (by simpa [qq] using hj);exact ⟨i',ds0,by simpa using q1,q2,q3⟩
   ·cases h
theorem qhp {p:List Nat}:∀ {l:List Nat} {L:qi},YD p H l = some L→∀ {j i:Nat},l[j]? = some i→∃ ds ds2,qq H i = some ds∧Xs p ds = some ds2∧qq L j = some ds2
 | [],L,h,j,i,hj=>by simp at hj
 | i0 :: l,L,h,j,i,hj=>by
  simp only [YD] at h;split at h
  ·cases h
  ·rename_i ds hd;split at h
   ·rename_i ds' L' h1 h2;injection h with h;subst h;cases j with
    | zero =>
     simp only [ZX,qu] at hj;subst hj;exact ⟨ds,ds',hd,h1,by simp [qq]⟩
    | succ j =>
     obtain ⟨a,b,q1,q2,q3⟩:=qhp h2 (j:=j) (i:=i) (by simpa using hj);exact ⟨a,b,q1,q2,by simpa [qq] using q3⟩
   ·cases h
theorem qfs {p:List Nat} {ds ds2:List D} (h:Xs p ds = some ds2):ds2.length = ds.length:=by
 unfold Xs at h;split at h
 ·injection h with h;rw [h]
 ·exact qdA h
theorem qlK {p:List Nat}:∀ {e e':qr},YE p e = some e'→∀ {t:Nat} {d2:D},qf e' t = some d2→∃ d,qf e t = some d∧qbX p d = some d2
 | [],e',h,t,d2,hl=>by
  simp only [YE,qu] at h;subst h;simp [qf] at hl
 | (s,d) :: e,e',h,t,d2,hl=>by
  simp only [YE] at h;split at h
  ·rename_i d' e1 h1 h2;injection h with h;subst h;simp only [qf] at hl ⊢;split at hl
   ·rename_i hst;injection hl with hl;subst hl;exact ⟨d,by rw [if_pos hst],h1⟩
   ·rename_i hst;obtain ⟨d0,q1,q2⟩:=qlK h2 hl;exact ⟨d0,by rw [if_neg hst];exact q1,q2⟩
  ·cases h
theorem qdo:∀ n,(JU n).length = n
 | 0=>rfl
 | n+1=>by rw [JU,qC,qdo n];rfl
theorem qjt:∀ {n i:Nat},i < n→(JU n)[i]? = some i
 | n+1,i,h=>by
  rw [JU];by_cases hi:i < n
  ·rw [ZY (by rw [qdo];exact hi),qjt hi]
  ·have:i = n:=(by omega);subst this;rw [VW (by rw [qdo];exact qB _),qdo,Nat.sub_self];rfl
theorem qgI {p:List Nat} {n0 i:Nat} (h:p.take n0 = JU n0) (hi:i < n0):p[i]? = some i:=by
 rw [← List.getElem?_take_of_lt hi,h,qjt hi]
theorem qp6 {p:List Nat} {n0:Nat} (h:p.take n0 = JU n0):n0≤p.length:=by
 have:=congrArg List.length h;rw [js,qdo] at this;omega
theorem qhk {n0:Nat} {p:List Nat} {e e':qr} {tmps:Array Value} (h:Xr n0 p e H = some (e',H')) (hs:Sim X ok w ι H) (he:EnvRep ok w ι H e tmps) :
  Sim X ok w (fun j=>ι (p.getD j 0)) H'∧EnvRep ok w (fun j=>ι (p.getD j 0)) H' e' tmps∧Evol n0 ok w ι H ok w (fun j=>ι (p.getD j 0)) H':=by
 unfold Xr at h;split at h
 ·rename_i e1 H1 hE hH;split at h
  ·rename_i hnd0;obtain ⟨YT,hup⟩:=hnd0;simp only [qu,qN] at h;obtain ⟨rfl,rfl⟩:=h;obtain ⟨hl,hg⟩:=qhq hH
   have hp:∀ i j,Jh p i 0 = some j→i < H.length→j < H1.length∧(fun j=>ι (p.getD j 0)) j = ι i∧∀ ds2,qq H1 j = some ds2→∃ ds,qq H i = some ds∧ds.length = ds2.length:=by
    intro i j jj _;obtain ⟨-,h1⟩:=qie jj;rw [Nat.sub_zero] at h1;have hj:=(List.getElem?_eq_some_iff.1 h1).1;refine ⟨by rw [hl];exact hj,?_,fun ds2 vZ=>?_⟩
    ·show ι (p.getD j 0) = ι i;rw [jV,h1];rfl
    ·obtain ⟨i',ds,q1,q2,q3⟩:=hg vZ;rw [h1] at q1;injection q1 with q1;subst q1;exact ⟨ds,q2,(qfs q3).symm⟩
   have hB:∀ {ds ds2:List D} {f:Nat→Value},Xs p ds = some ds2→(∀ (j:Nat) d,ds[j]? = some d→Rep ok w ι H d (f j))→∀ (j:Nat) d,ds2[j]? = some d→Rep ok w (fun j=>ι (p.getD j 0)) H1 d (f j):=by
    intro ds ds2 f hr hd j d hj;unfold Xs at hr;split at hr
    ·rename_i hfree;injection hr with hr;subst hr;exact (hd j d hj).free ((qck _).1 hfree d (mem_of_get? hj)) _ _
    ·obtain ⟨c,q1,q2⟩:=qbY hr hj;exact qk9 hp (hd j c q1) rfl rfl d q2
   have hC:∀ {ds ds2:List D},Xs p ds = some ds2→(∀ d,d∈ds→zR d = true)→∀ d,d∈ds2→zR d = true:=by
    intro ds ds2 hr hc d hd;unfold Xs at hr;split at hr
    ·injection hr with hr;subst hr;exact hc d hd
    ·obtain ⟨j,hj,hje⟩:=List.getElem_of_mem hd;obtain ⟨c,q1,q2⟩:=qbY hr (show ds2[j]? = some d by rw [zi hj,hje]);exact qkG q2 (hc c (mem_of_get? q1))
   refine ⟨⟨hs.okS,hs.glob,?_,?_⟩,fun t d2 ht=>?_,?_⟩
   ·intro a b ds es blk s s' ha hb ia ib;obtain ⟨i1,d1,q1,q2,q3⟩:=hg ha;obtain ⟨i2,d2,r1,r2,r3⟩:=hg hb;have e1:p.getD a 0 = i1:=(by rw [jV,q1];rfl);have e2:p.getD b 0 = i2:=(by rw [jV,r1];rfl);simp only [e1] at ia;simp only [e2] at ib;have:=hs.inj i1 i2 d1 d2 blk s s' q2 r2 ia ib;subst this;obtain ⟨VL,hae⟩:=List.getElem?_eq_some_iff.1 q1;obtain ⟨zq,jN⟩:=List.getElem?_eq_some_iff.1 r1;exact (List.getElem?_inj VL YT).1 (q1.trans r1.symm)
   ·intro a ds2 ha;obtain ⟨i1,d1,q1,q2,q3⟩:=hg ha;have e1:p.getD a 0 = i1:=(by rw [jV,q1];rfl);obtain ⟨b,arr,ty,fr,u1,u2,u3,u4,u5,u6,u7,u8⟩:=hs.blk i1 d1 q2;exact ⟨b,arr,ty,fr,by show ι (p.getD a 0) = _;rw [e1];exact u1,u2,u3,by rw [qfs q3];exact u4,u5,u6,hC q3 u7,hB (f:=fun j=>arr.getD j undef) q3 u8⟩
   ·obtain ⟨d,q1,q2⟩:=qlK hE ht;obtain ⟨g1,g2⟩:=he t d q1;refine ⟨g1,?_⟩;unfold qbX at q2;split at q2
    ·rename_i hf;injection q2 with q2;subst q2;exact g2.free hf _ _
    ·exact qk9 hp g2 rfl rfl d2 q2
   ·refine ⟨rfl,rfl,rfl,qB _,fun _ _ _=>rfl,fun _ h=>h,fun _ h _=>.inl h,⟨?_,by rw [hl];exact qp6 hup⟩,fun i hi ds2 vZ=>?_,fun j ds2 b s hd hi hb=>?_⟩
    ·rcases Nat.eq_zero_or_pos n0 with rfl | kh
     ·exact jk _
     ·obtain ⟨ds,_,q1,_⟩:=qhp hH (qgI hup (show n0 - 1 < n0 by omega));have:=ZH q1;omega
    ·obtain ⟨i1,ds,q1,q2,q3⟩:=hg vZ;rw [qgI hup hi] at q1;injection q1 with q1;subst q1;refine ⟨ds,q2,Nat.le_of_eq (qfs q3).symm,fun _=>?_⟩;show ι (p.getD i 0) = ι i;rw [jV,qgI hup hi];rfl
    obtain ⟨i1,d1,q1,q2,q3⟩:=hg hd;have e1:p.getD j 0 = i1:=(by rw [jV,q1];rfl);simp only [e1] at hi;exact ⟨i1,d1,s,q2,hi⟩
  ·cases h
 ·cases h
theorem qtQ {S:List Nat} {ds:List D} {e:qr} (hv:XT e S = some ds):∀ {t:Nat} {d:D},qf (VY S ds) t = some d→qf e t = some d:=by
 induction S generalizing ds with
 | nil =>
  intro t d h;simp only [XT,qu] at hv;subst hv;simp [VY,qf] at h
 | cons s S ih =>
  intro t d h;simp only [XT] at hv;split at hv
  ·rename_i d0 ds0 h1 h2;injection hv with hv;subst hv;simp only [VY,qf] at h;split at h
   ·rename_i hst;injection h with h;subst h;rw [← hst];exact h1
   ·exact ih h2 h
  ·cases hv
theorem qk7 {n0:Nat} {p:List Nat} {e e':qr} {tmps:Array Value} (h:Xr n0 p e H = some (e',H')) (hs:Sim X ok w ι H) (he:EnvRep ok w ι H e tmps) :
  ∃ ι',Sim X ok w ι' H'∧EnvRep ok w ι' H' e' tmps∧Evol n0 ok w ι H ok w ι' H':=⟨_,qhk h hs he⟩
theorem qll {n0:Nat} (hn:n0≤H.length) (hs:Sim X ok w ι H) {r r':D} {v:Value} (hr:Rep ok w ι H r v) (h:qdK n0 H r = some (r',H')) :
  ∃ ι',Sim X ok w ι' H'∧Rep ok w ι' H' r' v∧Evol n0 ok w ι H ok w ι' H'∧(∀ i ds,n0≤i→qq H' i = some ds→ds.all idFree = true):=by
 unfold qdK at h;cases hq0:YG n0 H r with
 | some q =>
  rw [hq0,qsL] at h;injection h with h;subst h;exact qli hn hs hr hq0
 | none =>
  rw [hq0,qsM] at h;unfold qca at h;split at h
  ·rename_i t r1 H1 hq;split at h
   ·rename_i vg;simp only [qu,qN] at h;obtain ⟨rfl,rfl⟩:=h
    have he:EnvRep ok w ι H [(0,r)] #[v]:=fun t d ht=>by
     simp only [qf] at ht;split at ht
     ·rename_i h0;injection ht with ht;subst ht;subst h0;exact ⟨by simp,hr⟩
     ·cases ht
    obtain ⟨ι',s1,s2,s3⟩:=qk7 hq hs he
    have ht:t = 0:=by
     unfold Xr at hq;split at hq
     ·rename_i e1 H2 hE hH;split at hq
      ·simp only [qu,qN] at hq;obtain ⟨rfl,rfl⟩:=hq;simp only [YE] at hE;split at hE
       ·rename_i d2 e2 g1 g2;simp only [qu,qbI,qN] at hE;exact hE.1.1.symm
       ·cases hE
      ·cases hq
     ·cases hq
    subst ht;refine ⟨ι',s1,(s2 0 r1 (by simp [qf])).2,s3,fun i ds hi hd=>?_⟩
    have hm:some ds∈H1.drop n0:=by
     have qg:=ZH hd;rw [List.mem_iff_getElem?];refine ⟨i - n0,?_⟩;rw [QE,show n0+(i - n0) = i by omega];unfold qq at hd;rw [zi qg] at hd ⊢;simpa using hd
    have:=List.all_eq_true.1 vg _ hm;simpa [qdg] using this
   ·cases h
  ·cases h
theorem qlj {z:Bool} {n0:Nat} (hn:n0≤H.length) (hs:Sim X ok w ι H) {r r':D} {v:Value} (hr:Rep ok w ι H r v) (h:J9 z n0 H r = some (r',H')) :
  ∃ ok' ι',Sim X ok' w ι' H'∧Rep ok' w ι' H' r' v∧Evol n0 ok w ι H ok' w ι' H'∧∀ i ds,n0≤i→qq H' i = some ds→ds.all idFree = true:=by
 cases z with
 | false =>
  simp only [J9] at h;obtain ⟨ι2,p1,p2,p3,p4⟩:=qll hn hs hr h;exact ⟨ok,ι2,p1,p2,p3,p4⟩
 | true =>
  simp only [J9] at h;split at h
  ·rename_i r1 l hst;have h1:=qdt hs (okF:=Xx ok ι H l) (fun b hb=>.inl hb) _ _ _ _ _ hr hst (fun i hi ds b s hd hb=>.inr ⟨i,ds,s,hi,hd,hb⟩);obtain ⟨ι2,p1,p2,p3,p4⟩:=qll (by rw [qcM];exact hn) (qgp hs l) (h1.lift (ι:=ι) (H:=Vv H l)) h;exact ⟨_,ι2,p1,p2,((qdc l).mono hn).trans p3,p4⟩
  ·cases h
theorem qrB {n0:Nat} {S ks:List Nat} {e e':qr} {tmps:Array Value} (h:qcC n0 S ks e H = some (e',H')) (hn:n0≤H.length) (hs:Sim X ok w ι H) (he:EnvRep ok w ι H e tmps) :
  ∃ ι',Sim X ok w ι' H'∧EnvRep ok w ι' H' e' tmps∧Evol n0 ok w ι H ok w ι' H':=by
 unfold qcC at h;split at h
 ·rename_i r hr;injection h with h;subst h;exact qrA hr hn hs he
 ·unfold qhl at h;split at h
  ·rename_i ds hv;refine qk7 h hs fun t d ht=>?_;rw [qfG] at ht;cases hx:qf (VY S ds) t with
   | some x =>
    rw [hx] at ht;injection ht with ht;subst ht;exact he t _ (qtQ hv hx)
   | none =>
    rw [hx] at ht;exact he t d (qfE ht)
  ·cases h
end
end Go.Ev
