import Derived.WalkKit
import Derived.Scope
import Derived.Laws.AppendOwn
import Derived.Laws.Append
import Derived.Lib.ConvBytes
import Derived.Laws.BytesArg
import Derived.ChangeKeysEq
import Derived.Laws.StructEq
/-
  The evaluator: Go's code on plain data.
-/
namespace Go.Ev

/-- Plain data: what a value reads as. Slices and pointers of others by value (vsl, vptr); of the run's own memory by name (osl, optr: the block's name, its length when the handle was made, the place, ..). -/
inductive D where
  | bool (b : Bool)
  | int (k : IntKind) (n : Int)
  | str (s : List UInt8)
  | nilp
  | nilf
  | nili
  | agg (cs : List D)
  | tup (cs : List D)
  | vptr (cs : List D)
  | optr (id st off : Nat)
  | vsl (nil : Bool) (cs : List D) (len : Nat)
  | osl (id st off len k : Nat)
  | fn (f : Nat) (caps : List D)
  | iface (t : Nat) (d : D)
  | raw (v : Value)
  deriving Inhabited

abbrev Heap := List (Option (List D))
abbrev Env := List (Nat × D)

def hget (H : Heap) (i : Nat) : Option (List D) := (H[i]?).getD none
def hset (H : Heap) (i : Nat) (ds : List D) : Heap := H.set i (some ds)

def look : Env → Nat → Option D
  | [], _ => none
  | (s, d) :: e, t => if s = t then some d else look e t

def putE (e : Env) : Option Tmp → D → Env
  | none, _ => e
  | some t, d => (t, d) :: e

/-- One cell of a constant. -/
def ofVal1 : Value → Option D
  | .bool b => some (.bool b)
  | .int k n => some (.int k n)
  | .string s => some (.str s.data.toList)
  | .pointer none => some .nilp
  | .slice none 0 0 => some (.vsl true [] 0)
  | .nilFunc => some .nilf
  | .nilIface => some .nili
  | _ => none

def ofVals : List Value → Option (List D)
  | [] => some []
  | v :: l => match ofVal1 v, ofVals l with
    | some d, some ds => some (d :: ds)
    | _, _ => none

def ofVal : Value → Option D
  | .agg cs => (ofVals cs.toList).map .agg
  | v => ofVal1 v

structure Cx where
  P : Program
  /-- what the package-level variables hold that are read -/
  glob : Nat → Option (List D)
  /-- function, region: the slots that are kept at its head, and how many blocks of the call's own -/
  keep : Nat → Nat → Option (List Nat × Nat)
  /-- functions that work on their caller's own memory -/
  byRef : Nat → Bool
  /-- functions that make nothing and are handed nothing of the run's own -/
  pureF : Nat → Bool
  /-- functions without a body -/
  ext : Nat → List D → Option D
  /-- functions that are not taken -/
  bad : Nat → Bool
  /-- function, region: the slots that are told by value for good at its head -/
  frz : Nat → Nat → List Nat
  /-- function, region: slots whose blocks alone are kept at its head -/
  ret : Nat → Nat → List Nat
  /-- functions whose result is told by value for good -/
  fzr : Nat → Bool
  /-- functions that are met by a contract -/
  con : Nat → List D → Heap → Option (D × Heap)
  /-- functions to which what is handed is told by value for good -/
  perm : Nat → Bool
  /-- in a region that draws its order, a function value must be one that makes nothing -/
  dynV : Bool
  /-- function, region: texts of bytes and of slices are told by value there, though it draws no order -/
  cv : Nat → Nat → Bool := fun _ _ => false
  frb : Nat → Nat → List Nat := fun _ _ => []
  /-- function, region that draws its order: places of what writes and what reads that no order binds, looked at as they run; slots of texts that are the run's own (the others are told by value) -/
  lp : Nat → Nat → Option (List (Nat × Nat) × List Nat) := fun _ _ => none
  /-- functions (of byRef) that are run on their first argument's block alone -/
  loc : Nat → Bool := fun _ => false
  /-- functions (of loc) that are run on their first argument's block and those that it names -/
  lom : Nat → Bool := fun _ => false
  /-- function, region that draws its order: a variable's place that no order binds to what writes ahead of it -/
  al : Nat → Nat → Option Nat := fun _ _ => none
  /-- functions (of byRef) that are run on all blocks that can be come to from what they are handed -/
  gr : Nat → Bool := fun _ => false

def opd (X : Cx) (e : Env) : Operand → Option D
  | .tmp t => look e t
  | .const v => ofVal v
  | .func f => some (.fn f [])
  | .global g => (X.glob g).map .vptr

/-- No name of the run's own memory in it. -/
def idFree : D → Bool
  | .agg cs | .tup cs | .fn _ cs => idFreeL cs
  | .iface _ d => idFree d
  | .optr .. | .osl .. => false
  | _ => true
where idFreeL : List D → Bool
  | [] => true
  | d :: l => idFree d && idFreeL l

/-- Nothing of others' memory in it. -/
def vFree : D → Bool
  | .agg cs | .tup cs | .fn _ cs => vFreeL cs
  | .iface _ d => vFree d
  | .vptr .. => false
  | .vsl n _ _ => n
  | _ => true
where vFreeL : List D → Bool
  | [] => true
  | d :: l => vFree d && vFreeL l

/-- Every name in it is below n. -/
def closed (n : Nat) : D → Bool
  | .agg cs | .tup cs | .fn _ cs => closedL n cs
  | .iface _ d => closed n d
  | .optr i _ _ | .osl i _ _ _ _ => decide (i < n)
  | _ => true
where closedL (n : Nat) : List D → Bool
  | [] => true
  | d :: l => closed n d && closedL n l

def szOf (P : Program) (t : TypeId) : Nat := ((P.info? t).map (·.size)).getD 0
def bytesOf (P : Program) (t : TypeId) : Nat := ((P.info? t).map (·.bytes)).getD 0
def zeroOf (P : Program) (t : TypeId) : Option D := ((P.info? t).bind (·.zero)).bind ofVal
def aggQ (P : Program) (t : TypeId) : Option Bool :=
  match P.underlying t with
  | some (.struct _) | some (.array _ _) => some true
  | some _ => some false
  | none => none

/-- The cells of a value. -/
def cellsOf : D → Option (List D)
  | .agg cs => some cs
  | .tup _ | .raw _ => none
  | d => some [d]

/-- What lies from a place on. -/
def mem (H : Heap) : D → Option (List D)
  | .vptr cs => some cs
  | .optr i st off => match hget H i with
    | some ds => if ds.length = st then some (ds.drop off) else none
    | none => none
  | _ => none

def ldD (P : Program) (H : Heap) (t : TypeId) (p : D) : Option D :=
  match aggQ P t, mem H p with
  | some true, some cs => if szOf P t ≤ cs.length then some (.agg (cs.take (szOf P t))) else none
  | some false, some (d :: _) => some d
  | _, _ => none

def setRange (ds : List D) (off : Nat) (xs : List D) : List D := ds.take off ++ xs ++ ds.drop (off + xs.length)

def stD (P : Program) (H : Heap) (t : TypeId) (p x : D) : Option Heap :=
  match p, cellsOf x with
  | .optr i st off, some xs => match hget H i with
    | some ds => if ds.length = st ∧ xs.length = szOf P t ∧ 0 < szOf P t ∧ off + xs.length ≤ ds.length ∧ xs.all (closed H.length) then some (hset H i (setRange ds off xs)) else none
    | none => none
  | _, _ => none

/-- The cells of a slice's elements, each of k cells. -/
def slc (H : Heap) (k : Nat) : D → Option (List D × Nat)
  | .vsl _ cs len => if cs.length = len * k then some (cs, len) else none
  | .osl i st off len k' => match hget H i with
    | some ds => if ds.length = st ∧ k' = k ∧ off + len * k ≤ ds.length then some ((ds.drop off).take (len * k), len) else none
    | none => none
  | _ => none

def fieldOf (P : Program) (s : TypeId) (f : Nat) : Option Field :=
  match P.underlying s with
  | some (.struct fs) => fs[f]?
  | _ => none

/-- A place k cells on. -/
def ptrAdd (k : Nat) : D → Option D
  | .vptr cs => some (.vptr (cs.drop k))
  | .optr i st off => some (.optr i st (off + k))
  | _ => none

def fieldAddrD (P : Program) (s : TypeId) (p : D) (f : Nat) : Option D :=
  match fieldOf P s f with
  | some fd => if szOf P fd.type = 0 then none else ptrAdd fd.offset p
  | none => none

def partD (P : Program) (t : TypeId) (cs : List D) (off : Nat) : Option D :=
  match aggQ P t with
  | some true => if off + szOf P t ≤ cs.length then some (.agg ((cs.drop off).take (szOf P t))) else none
  | some false => cs[off]?
  | none => none

def fieldD (P : Program) (s : TypeId) (x : D) (f : Nat) : Option D :=
  match fieldOf P s f, x with
  | some fd, .agg cs => partD P fd.type cs fd.offset
  | _, _ => none

def indexAddrD (P : Program) (t : TypeId) (x i : D) : Option D :=
  match P.underlying t, x, i with
  | some (.array n e), p, .int _ i => if 0 ≤ i ∧ i < n ∧ 0 < szOf P e then ptrAdd (i.toNat * szOf P e) p else none
  | some (.slice e), .vsl false cs len, .int _ i => if 0 ≤ i ∧ i < len ∧ 0 < szOf P e then some (.vptr (cs.drop (i.toNat * szOf P e))) else none
  | some (.slice e), .osl id st off len _, .int _ i => if 0 ≤ i ∧ i < len ∧ 0 < szOf P e then some (.optr id st (off + i.toNat * szOf P e)) else none
  | _, _, _ => none

def indexD (P : Program) (t : TypeId) (x i : D) : Option D :=
  match P.underlying t, x, i with
  | some (.array n e), .agg cs, .int _ i => if 0 ≤ i ∧ i < n then partD P e cs (i.toNat * szOf P e) else none
  | some .string, .str s, .int _ i => if 0 ≤ i then (s[i.toNat]?).map fun b => .int .u8 b.toNat else none
  | _, _, _ => none

/-- The two bounds of a slice expression, of something of length n. -/
def bounds (n : Nat) : Option D → Option D → Option (Nat × Nat)
  | none, none => some (0, n)
  | some (.int _ l), none => if 0 ≤ l ∧ l ≤ n then some (l.toNat, n) else none
  | none, some (.int _ h) => if 0 ≤ h ∧ h ≤ n then some (0, h.toNat) else none
  | some (.int _ l), some (.int _ h) => if 0 ≤ h ∧ h ≤ n ∧ 0 ≤ l ∧ l ≤ h then some (l.toNat, h.toNat) else none
  | _, _ => none

def sliceD (P : Program) (t : TypeId) (x : D) (lo hi : Option D) : Option D :=
  match P.underlying t, x with
  | some .string, .str s => match bounds s.length lo hi with
    | some (l, h) => some (.str ((s.drop l).take (h - l)))
    | none => none
  | some (.slice e), .vsl nil cs len => match bounds len lo hi with
    | some (l, h) => if cs.length = len * szOf P e ∧ 0 < szOf P e then some (.vsl nil ((cs.drop (l * szOf P e)).take ((h - l) * szOf P e)) (h - l)) else none
    | none => none
  | some (.slice e), .osl id st off len k => match bounds len lo hi with
    | some (l, h) => if k = szOf P e ∧ 0 < k ∧ (l = 0 ∨ l < len) then some (.osl id st (off + l * k) (h - l) k) else none
    | none => none
  | some (.array n e), .vptr cs => match bounds n lo hi with
    | some (l, h) => if h * szOf P e ≤ cs.length ∧ 0 < szOf P e ∧ (l = 0 ∨ l < n) then some (.vsl false ((cs.drop (l * szOf P e)).take ((h - l) * szOf P e)) (h - l)) else none
    | none => none
  | some (.array n e), .optr id st off => match bounds n lo hi with
    | some (l, h) => if (l = 0 ∨ l < n) ∧ off + n * szOf P e ≤ st ∧ 0 < szOf P e then some (.osl id st (off + l * szOf P e) (h - l) (szOf P e)) else none
    | none => none
  | _, _ => none

/-- The operators on numbers. -/
def andI (k : IntKind) (a b : Int) : Int := k.wrap (BitVec.ofInt k.bits a &&& BitVec.ofInt k.bits b).toNat
def orI (k : IntKind) (a b : Int) : Int := k.wrap (BitVec.ofInt k.bits a ||| BitVec.ofInt k.bits b).toNat
def xorI (k : IntKind) (a b : Int) : Int := k.wrap (BitVec.ofInt k.bits a ^^^ BitVec.ofInt k.bits b).toNat
def andNotI (k : IntKind) (a b : Int) : Int := k.wrap (BitVec.ofInt k.bits a &&& ~~~ BitVec.ofInt k.bits b).toNat
def intD (op : BinOp) (k : IntKind) (a b : Int) : Option D :=
  match op with
  | .add => some (.int k (k.wrap (a + b)))
  | .sub => some (.int k (k.wrap (a - b)))
  | .mul => some (.int k (k.wrap (a * b)))
  | .quo => if b = 0 then none else some (.int k (k.wrap (a.tdiv b)))
  | .rem => if b = 0 then none else some (.int k (a.tmod b))
  | .and => some (.int k (andI k a b))
  | .or => some (.int k (orI k a b))
  | .xor => some (.int k (xorI k a b))
  | .andNot => some (.int k (andNotI k a b))
  | .eql => some (.bool (a == b))
  | .neq => some (.bool (a != b))
  | .lss => some (.bool (decide (a < b)))
  | .leq => some (.bool (decide (a ≤ b)))
  | .gtr => some (.bool (decide (a > b)))
  | .geq => some (.bool (decide (a ≥ b)))
  | _ => none

def shiftD (op : BinOp) (k : IntKind) (a b : Int) : Option D :=
  if b < 0 then none else
  match op with
  | .shl => some (.int k (k.wrap (a * 2 ^ (min b.toNat k.bits))))
  | .shr => some (.int k (a.fdiv (2 ^ (min b.toNat k.bits))))
  | _ => none

def strD (op : BinOp) (x y : List UInt8) : Option D :=
  match op with
  | .add => if x.length + y.length ≤ 4611686018427387904 then some (.str (x ++ y)) else none
  | .eql => some (.bool (x == y))
  | .neq => some (.bool !(x == y))
  | .lss => some (.bool (Op.bytesLess x y))
  | .leq => some (.bool (Op.bytesLess x y || x == y))
  | .gtr => some (.bool !(Op.bytesLess x y || x == y))
  | .geq => some (.bool !(Op.bytesLess x y))
  | _ => none

/-- Kinds of cells that '==' takes. -/
inductive CK where
  | b | i | s
  deriving DecidableEq

def cellEq : CK → D → D → Option Bool
  | .i, .int k a, .int k' b => if k = k' then some (a == b) else none
  | .b, .bool a, .bool b => some (a == b)
  | .s, .str a, .str b => some (a == b)
  | _, _, _ => none

def cellsEq : List CK → List D → List D → Option Bool
  | [], [], [] => some true
  | k :: ks, x :: xs, y :: ys => match cellEq k x y, cellsEq ks xs ys with
    | some a, some b => some (a && b)
    | _, _ => none
  | _, _, _ => none

def plainFs (P : Program) (g : TypeId → Option (List CK)) : List Field → List CK → Option (List CK)
  | [], acc => some acc
  | f :: fs, acc => match g f.type with
    | some ks => if f.offset = acc.length ∧ f.name ≠ "_" ∧ szOf P f.type = ks.length ∧ 0 < ks.length then plainFs P g fs (acc ++ ks) else none
    | none => none

/-- A type of numbers, texts and bools alone, cell behind cell: their kinds. -/
def plainTy (P : Program) : Nat → TypeId → Option (List CK)
  | 0, _ => none
  | d + 1, t => match P.underlying t with
    | some .bool => some [.b]
    | some (.int _) => some [.i]
    | some .string => some [.s]
    | some (.array n e) => match plainTy P d e with
      | some ks => if szOf P e = ks.length ∧ 0 < ks.length then some (List.replicate n ks).flatten else none
      | none => none
    | some (.struct fs) => if P.stoodInHeld t then none else plainFs P (plainTy P d) fs.toList []
    | _ => none

def isNilD : D → Option Bool
  | .vsl n _ _ => some n
  | .osl .. => some false
  | _ => none

def isConstOp : Operand → Bool
  | .const _ => true
  | _ => false

/-- May values of this type be compared? -/
def cmpQ (P : Program) (t : TypeId) : Bool := ((P.info? t).map (·.comparable)).getD false
def eqD (P : Program) (t : TypeId) (cst : Bool) (x y : D) : Option Bool :=
  match x, y with
  | .bool a, .bool b => match P.underlying t with
    | some .bool => some (a == b)
    | _ => none
  | .agg xs, .agg ys => match plainTy P 50 t with
    | some ks => if aggQ P t = some true ∧ P.eqGuardType P.depth t = false then cellsEq ks xs ys else none
    | none => none
  | .vsl true _ _, .vsl n _ _ => match P.underlying t with
    | some (.slice _) => some n
    | _ => none
  | .vsl n _ _, .vsl true _ _ => match P.underlying t with
    | some (.slice _) => some n
    | _ => none
  | .osl .., .vsl true _ _ => match P.underlying t with
    | some (.slice _) => some false
    | _ => none
  | .nili, .nili => match P.underlying t with
    | some (.interface _) => if cst then some true else none
    | _ => none
  | .iface s (.int k a), .iface s' (.int k' b) => match P.underlying t, P.underlying s with
    | some (.interface _), some (.int _) => if s = s' ∧ k = k' ∧ cmpQ P s = true then some (a == b) else none
    | _, _ => none
  | .iface _ _, .nili => match P.underlying t with
    | some (.interface _) => some false
    | _ => none
  | .nilp, .nilp => match P.underlying t with
    | some (.pointer _) => some true
    | _ => none
  | .vptr _, .nilp => match P.underlying t with
    | some (.pointer _) => some false
    | _ => none
  | .optr .., .nilp => match P.underlying t with
    | some (.pointer _) => some false
    | _ => none
  | _, _ => none

def binD (P : Program) (op : BinOp) (t : TypeId) (cst : Bool) (x y : D) : Option D :=
  match op, x, y with
  | .shl, .int k a, .int _ b => shiftD .shl k a b
  | .shr, .int k a, .int _ b => shiftD .shr k a b
  | op, .int k a, .int k' b => if k = k' then intD op k a b else none
  | op, .str a, .str b => strD op a b
  | .eql, x, y => (eqD P t cst x y).map .bool
  | .neq, x, y => (eqD P t cst x y).map fun b => .bool !b
  | _, _, _ => none

def unD (op : UnOp) (x : D) : Option D :=
  match op, x with
  | .neg, .int k n => some (.int k (k.wrap (0 - n)))
  | .xor, .int k n => some (.int k (k.wrap (BitVec.ofInt k.bits (if k.signed then -1 else k.max) ^^^ BitVec.ofInt k.bits n).toNat))
  | .not, .bool b => some (.bool !b)
  | _, _ => none

def newBlk (H : Heap) (ds : List D) : Heap := H ++ [some ds]

/-- The bytes that cells are. -/
def bytesD : List D → Option (List UInt8)
  | [] => some []
  | .int .u8 n :: l => (bytesD l).map fun r => UInt8.ofNat n.toNat :: r
  | _ => none

def ofBytes (s : List UInt8) : List D := s.map fun b => .int .u8 (b.toNat : Int)

def maxBytes : Nat := 140737488355328

def convD (P : Program) (H : Heap) (src dst : TypeId) (x : D) : Option (D × Heap) :=
  match P.underlying src, P.underlying dst, x with
  | some _, some (.int k), .int _ n => some (.int k (k.wrap n), H)
  | some .string, some .string, .str s => some (.str s, H)
  | some (.int _), some .string, .int _ n => some (.str (Utf8.encode n).data.toList, H)
  | some _, some (.slice e), .str s => match P.underlying e with
    | some (.int .u8) => some (.osl H.length s.length 0 s.length 1, newBlk H (ofBytes s))
    | _ => none
  | some (.slice e), some .string, x => match P.underlying e, slc H 1 x with
    | some (.int .u8), some (cs, _) => (bytesD cs).map fun s => (.str s, H)
    | _, _ => none
  | some (.slice _), some (.slice e), .osl i st off len k => match P.underlying e, hget H i with
    | some (.int .u8), some ds => if src = dst ∧ ds.length = st then some (.osl i st off len k, H) else none
    | _, _ => none
  | _, _, _ => none

/-- Parts laid into cells: place of part i: offset and size. -/
def fillD (place : Nat → Option (Nat × Nat)) : List D → List (Nat × D) → Option (List D)
  | cells, [] => some cells
  | cells, (i, d) :: rest => match place i, cellsOf d with
    | some (off, size), some xs => if xs.length = size ∧ off + xs.length ≤ cells.length then fillD place (setRange cells off xs) rest else none
    | _, _ => none

def partsD (X : Cx) (e : Env) : List (Nat × Operand) → Option (List (Nat × D))
  | [] => some []
  | (i, x) :: l => match opd X e x, partsD X e l with
    | some d, some ds => some ((i, d) :: ds)
    | _, _ => none

def opds (X : Cx) (e : Env) : List Operand → Option (List D)
  | [] => some []
  | x :: l => match opd X e x, opds X e l with
    | some d, some ds => some (d :: ds)
    | _, _ => none

def structPlace (P : Program) (fs : Array Field) (i : Nat) : Option (Nat × Nat) := (fs[i]?).map fun f => (f.offset, szOf P f.type)

def buildD (P : Program) (t : TypeId) (parts : List (Nat × D)) : Option D :=
  match zeroOf P t, P.underlying t with
  | some (.agg z), some (.struct fs) => if fs.all (fun f => decide (0 < szOf P f.type)) then (fillD (structPlace P fs) z parts).map .agg else none
  | some (.agg z), some (.array _ e) => if 0 < szOf P e then (fillD (fun i => some (i * szOf P e, szOf P e)) z parts).map .agg else none
  | _, _ => none

def zeroCellsD (P : Program) (e : TypeId) (n : Nat) : Option (List D) :=
  match (zeroOf P e).bind cellsOf with
  | some z => if z.length = szOf P e ∧ 0 < szOf P e then some ((List.replicate n z).flatten) else none
  | none => none

def buildSliceD (P : Program) (H : Heap) (t : TypeId) (len : Nat) (parts : List (Nat × D)) : Option (D × Heap) :=
  match P.underlying t with
  | some (.slice e) => match zeroCellsD P e len with
    | some z => if len * szOf P e ≤ 16777216 then (fillD (fun i => some (i * szOf P e, szOf P e)) z parts).bind fun cs =>
        if (H.isEmpty = false ∨ cs.all idFree) ∧ cs.length = len * szOf P e then some (.osl H.length cs.length 0 len (szOf P e), newBlk H cs) else none
      else none
    | none => none
  | _ => none

def makeSliceD (P : Program) (H : Heap) (t : TypeId) (l c : D) : Option (D × Heap) :=
  match P.underlying t, l, c with
  | some (.slice e), .int .i64 l, .int .i64 c => if 0 ≤ l ∧ l ≤ c ∧ bytesOf P e * c ≤ maxBytes ∧ c ≤ maxBytes then
      (zeroCellsD P e l.toNat).bind fun z => if z.length = l.toNat * szOf P e ∧ z.all idFree then some (.osl H.length z.length 0 l.toNat (szOf P e), newBlk H z) else none
    else none
  | _, _, _ => none

/-- What is appended or copied: its cells, how many elements. -/
def srcD (P : Program) (H : Heap) (k : Nat) (xt : TypeId) (x : D) : Option (List D × Nat) :=
  match P.underlying xt, x with
  | some .string, .str b => if k = 1 then some (ofBytes b, b.length) else none
  | some (.slice _), x => slc H k x
  | _, _ => none

/-- What is appended: its cells, how many elements; of a number so many zeros. -/
def srcA (P : Program) (H : Heap) (e xt : TypeId) (x : D) : Option (List D × Nat) :=
  match P.underlying xt, x with
  | some (.int _), .int .i64 n => if 0 ≤ n ∧ n ≤ maxBytes ∧ n.toNat * bytesOf P e ≤ maxBytes then (zeroCellsD P e n.toNat).map (·, n.toNat) else none
  | _, x => srcD P H (szOf P e) xt x

def appendD (P : Program) (H : Heap) (st xt : TypeId) (s x : D) : Option (D × Heap) :=
  match P.underlying st with
  | some (.slice e) => match srcA P H e xt x, zeroCellsD P e 0, s with
    | some (xs, m), some _, .vsl true [] 0 =>
      if m = 0 then some (.vsl true [] 0, H)
      else if m * bytesOf P e ≤ maxBytes ∧ m ≤ maxBytes then some (.osl H.length xs.length 0 m (szOf P e), newBlk H xs) else none
    | some (xs, m), some _, .osl i sm 0 len k => match hget H i with
      | some ds => if ds.length = sm ∧ k = szOf P e ∧ len * k = sm ∧ (len + m) * bytesOf P e ≤ maxBytes ∧ len + m ≤ maxBytes
          then some (.osl i (sm + xs.length) 0 (len + m) k, hset H i (ds ++ xs)) else none
      | none => none
    | _, _, _ => none
  | _ => none

def copyD (P : Program) (H : Heap) (dt xt : TypeId) (d x : D) : Option (D × Heap) :=
  match P.underlying dt with
  | some (.slice e) => match srcD P H (szOf P e) xt x, d with
    | some (xs, m), .osl i sm off len k => match hget H i with
      | some ds => if ds.length = sm ∧ k = szOf P e ∧ 0 < k ∧ off + len * k ≤ sm
          then some (.int .i64 (min m len : Nat), hset H i (setRange ds off (xs.take (min m len * k)))) else none
      | none => none
    | _, _ => none
  | _ => none

/-- A slice of the run's own is made zeros. -/
def clearD (P : Program) (H : Heap) (t : TypeId) (x : D) : Option (D × Heap) :=
  match P.underlying t, x with
  | some (.slice e), .osl i sm off len k => match zeroCellsD P e len, hget H i with
    | some z, some ds => if ds.length = sm ∧ k = szOf P e ∧ off + len * k ≤ sm ∧ 0 < len
        then some (.tup [], hset H i (setRange ds off z)) else none
    | _, _ => none
  | _, _ => none

def lenD (P : Program) (t : TypeId) (x : D) : Option D :=
  match P.underlying t, x with
  | some .string, .str s => some (.int .i64 s.length)
  | some (.array n _), _ => some (.int .i64 n)
  | some (.slice _), .vsl _ _ len => some (.int .i64 len)
  | some (.slice _), .osl _ _ _ len _ => some (.int .i64 len)
  | _, _ => none

def minmaxD (mx : Bool) : List D → Option D
  | [.int k a, .int k' b] => if k = k' then some (.int k (if mx then (if a < b then b else a) else (if b < a then b else a))) else none
  | _ => none

/-- A slice of the run's own, told by value. -/
def freeze (H : Heap) : D → Option D
  | .osl i st off len k => match hget H i with
    | some ds => if ds.length = st ∧ off + len * k ≤ st ∧ ds.all idFree then some (.vsl false ((ds.drop off).take (len * k)) len) else none
    | none => none
  | .optr i st off => match hget H i with
    | some ds => if ds.length = st ∧ ds.all idFree then some (.vptr (ds.drop off)) else none
    | none => none
  | .fn f caps => (freezeL H caps).map (.fn f)
  | .agg cs => (freezeL H cs).map .agg
  | d => if idFree d then some d else none
where freezeL (H : Heap) : List D → Option (List D)
  | [] => some []
  | d :: l => match freeze H d, freezeL H l with
    | some d, some l => some (d :: l)
    | _, _ => none


def freezeArgs (H : Heap) (args : List D) : Option (List D) := freeze.freezeL H args

/-- Names moved up by n. -/
def shift (n : Nat) : D → D
  | .agg cs => .agg (shiftL n cs)
  | .tup cs => .tup (shiftL n cs)
  | .fn f cs => .fn f (shiftL n cs)
  | .iface t d => .iface t (shift n d)
  | .optr i st off => .optr (n + i) st off
  | .osl i st off len k => .osl (n + i) st off len k
  | d => d
where shiftL (n : Nat) : List D → List D
  | [] => []
  | d :: l => shift n d :: shiftL n l

/-- The blocks that go with a result, the call's own ones from n0 on. -/
def pack1 (n0 : Nat) (H : Heap) (seen : List Nat) (acc : Heap) : D → Option (D × List Nat × Heap)
  | .osl i st off len k =>
    if i < n0 then some (.osl i st off len k, seen, acc)
    else match hget H i with
      | some ds => if ds.all idFree ∧ i ∉ seen then some (.osl (n0 + acc.length) st off len k, seen ++ [i], acc ++ [some ds]) else none
      | none => none
  | .optr i st off =>
    if i < n0 then some (.optr i st off, seen, acc)
    else match hget H i with
      | some ds => if ds.all idFree ∧ i ∉ seen then some (.optr (n0 + acc.length) st off, seen ++ [i], acc ++ [some ds]) else none
      | none => none
  | .agg cs => (packs n0 H seen acc cs).map fun (cs, s, a) => (.agg cs, s, a)
  | .tup cs => (packs n0 H seen acc cs).map fun (cs, s, a) => (.tup cs, s, a)
  | d => if idFree d then some (d, seen, acc) else none
where packs (n0 : Nat) (H : Heap) (seen : List Nat) (acc : Heap) : List D → Option (List D × List Nat × Heap)
  | [] => some ([], seen, acc)
  | d :: l => match pack1 n0 H seen acc d with
    | some (d, seen, acc) => match packs n0 H seen acc l with
      | some (l, seen, acc) => some (d :: l, seen, acc)
      | none => none
    | none => none

def blkClosed (n : Nat) : Option (List D) → Bool
  | some ds => ds.all (closed n)
  | none => true

def pack (n0 : Nat) (H : Heap) (r : D) : Option (D × Heap) :=
  match pack1 n0 H [] [] r with
  | some (r, _, acc) => if (H.take n0).all (blkClosed n0) then some (r, H.take n0 ++ acc) else none
  | none => none

def keepE : List Nat → Env → Env
  | [], _ => []
  | k :: ks, e => match look e k with
    | some d => (k, d) :: keepE ks e
    | none => keepE ks e

def envClosed (n : Nat) : Env → Bool
  | [] => true
  | (_, d) :: e => closed n d && envClosed n e

def stayL (g : D → Option (D × List Nat)) : List D → Option (List D × List Nat)
  | [] => some ([], [])
  | d :: l => match g d, stayL g l with
    | some (d, a), some (l, b) => some (d :: l, a ++ b)
    | _, _ => none

/-- A value that is told by value for good; the names of the blocks that go with it. -/
def stay (H : Heap) : Nat → D → Option (D × List Nat)
  | 0, _ => none
  | n + 1, d => if idFree d then some (d, []) else match d with
    | .osl i st off len k => match hget H i with
      | some ds => if ds.length = st ∧ off + len * k ≤ st then
          if idFree.idFreeL ds then some (.vsl false ((ds.drop off).take (len * k)) len, [i])
          else match stayL (stay H n) ds with
            | some (ds', l) => some (.vsl false ((ds'.drop off).take (len * k)) len, i :: l)
            | none => none
        else none
      | none => none
    | .optr i st off => match hget H i with
      | some ds => if ds.length = st then
          if idFree.idFreeL ds then some (.vptr (ds.drop off), [i])
          else match stayL (stay H n) ds with
            | some (ds', l) => some (.vptr (ds'.drop off), i :: l)
            | none => none
        else none
      | none => none
    | .agg cs => (stayL (stay H n) cs).map fun (cs, l) => (.agg cs, l)
    | .tup cs => (stayL (stay H n) cs).map fun (cs, l) => (.tup cs, l)
    | .fn f cs => (stayL (stay H n) cs).map fun (cs, l) => (.fn f cs, l)
    | .iface t d => (stay H n d).map fun (d, l) => (.iface t d, l)
    | d => some (d, [])

/-- Blocks that are given up. -/
def clr : Heap → List Nat → Heap
  | H, [] => H
  | H, i :: l => clr (H.set i none) l

def staySlots (H : Heap) (e : Env) : List Nat → Option (Env × List Nat)
  | [] => some ([], [])
  | s :: ss => match look e s with
    | none => staySlots H e ss
    | some d => match stay H 9 d, staySlots H e ss with
      | some (d, a), some (e', b) => some ((s, d) :: e', a ++ b)
      | _, _ => none

def freezeE (ss : List Nat) (e : Env) (H : Heap) : Option (Env × Heap) :=
  match staySlots H e ss with
  | some (e', l) => some (e' ++ e, clr H l)
  | none => none

def enterB (X : Cx) (f n0 id : Nat) (e : Env) (H : Heap) : Option (Env × Heap) :=
  match X.keep f id with
  | none => some (e, H)
  | some (ks, 0) => some (keepE ks e, H)
  | some (ks, k + 1) =>
    if H.length ≤ n0 + k then some (keepE ks e, H)
    else if envClosed (n0 + k) (keepE ks e) && (H.take (n0 + k)).all (blkClosed (n0 + k)) then some (keepE ks e, H.take (n0 + k)) else none

def valsE (e : Env) : List Nat → Option (List D)
  | [] => some []
  | s :: ss => match look e s, valsE e ss with
    | some d, some ds => some (d :: ds)
    | _, _ => none
def zipE : List Nat → List D → Env
  | s :: ss, d :: ds => (s, d) :: zipE ss ds
  | _, _ => []
/-- Some slots' blocks alone are kept, by new names. -/
def retF (n0 : Nat) (S ks : List Nat) (e : Env) (H : Heap) : Option (Env × Heap) :=
  match valsE e S with
  | none => none
  | some ds => match pack n0 H (.tup ds) with
    | some (.tup ds', H') => if envClosed n0 (keepE ks e) then some (zipE S ds' ++ keepE ks e, H') else none
    | _ => none
/-- Where a name stands in a row. -/
def idxP : List Nat → Nat → Nat → Option Nat
  | [], _, _ => none
  | a :: l, i, k => if a = i then some k else idxP l i (k + 1)
/-- Names by their places in a row. -/
def renD (p : List Nat) : D → Option D
  | .optr i st off => (idxP p i 0).map fun j => .optr j st off
  | .osl i st off len k => (idxP p i 0).map fun j => .osl j st off len k
  | .agg cs => (renL p cs).map .agg
  | .tup cs => (renL p cs).map .tup
  | .fn f cs => (renL p cs).map (.fn f)
  | .iface t d => (renD p d).map (.iface t)
  | d => some d
where renL (p : List Nat) : List D → Option (List D)
  | [] => some []
  | d :: l => match renD p d, renL p l with
    | some d, some l => some (d :: l)
    | _, _ => none
def renV (p : List Nat) (d : D) : Option D := if idFree d then some d else renD p d
def renB (p : List Nat) (ds : List D) : Option (List D) := if idFree.idFreeL ds then some ds else renD.renL p ds
def renE (p : List Nat) : Env → Option Env
  | [] => some []
  | (s, d) :: e => match renV p d, renE p e with
    | some d, some e => some ((s, d) :: e)
    | _, _ => none
def renH (p : List Nat) (H : Heap) : List Nat → Option Heap
  | [] => some []
  | i :: l => match hget H i with
    | none => none
    | some ds => match renB p ds, renH p H l with
      | some ds, some L => some (some ds :: L)
      | _, _ => none
def idsD : List D → List Nat
  | [] => []
  | .optr i _ _ :: l => i :: idsD l
  | .osl i _ _ _ _ :: l => i :: idsD l
  | _ :: l => idsD l
def namesB (H : Heap) : List Nat → List Nat
  | [] => []
  | i :: l => (match hget H i with
    | some ds => if idFree.idFreeL ds then [] else idsD ds
    | none => []) ++ namesB H l
def addN : List Nat → List Nat → List Nat
  | p, [] => p
  | p, i :: l => if i ∈ p then addN p l else addN (p ++ [i]) l
/-- The first names. -/
def upN : Nat → List Nat
  | 0 => []
  | n + 1 => upN n ++ [n]
/-- The caller's blocks, those of some slots, and those that they name, alone are kept, by new names. -/
def retP (n0 : Nat) (p : List Nat) (e : Env) (H : Heap) : Option (Env × Heap) :=
  match renE p e, renH p H p with
  | some e', some H' => if p.Nodup ∧ p.take n0 = upN n0 then some (e', H') else none
  | _, _ => none
def retN (n0 : Nat) (S ks : List Nat) (e : Env) (H : Heap) : Option (Env × Heap) :=
  match valsE e S with
  | some ds => retP n0 (addN (addN (upN n0) (idsD ds)) (namesB H (addN (upN n0) (idsD ds)))) (zipE S ds ++ keepE ks e) H
  | none => none
def idsT : D → List Nat
  | .tup cs => idsD cs
  | d => idsD [d]
def blkFree : Option (List D) → Bool
  | some ds => ds.all idFree
  | none => true
/-- What is handed back, where the caller's blocks name new ones. -/
def packN (n0 : Nat) (H : Heap) (r : D) : Option (D × Heap) :=
  match retP n0 (addN (addN (upN n0) (idsT r)) (namesB H (addN (upN n0) (idsT r)))) [(0, r)] H with
  | some ([(_, r')], H') => if (H'.drop n0).all blkFree then some (r', H') else none
  | _ => none
def orP {α : Type} : Option α → Option α → Option α
  | some q, _ => some q
  | none, x => x
@[simp] theorem orP_some {α : Type} (q : α) (x : Option α) : orP (some q) x = some q := rfl
@[simp] theorem orP_none {α : Type} (x : Option α) : orP none x = x := rfl
theorem orP_if {α β : Type} {c : Prop} [Decidable c] {r : α} {A B : β} {Z : Option (α × β)} (h : c ∧ A = B) : orP (if c then some (r, A) else none) Z = some (r, B) := by
  obtain ⟨hc, rfl⟩ := h
  rw [if_pos hc]
  rfl
theorem orP_fin {α β : Type} {c : Prop} [Decidable c] {A : α} {B : β} {Z : Option (α × β)} {P : α → β → Prop} (h : ∃ x y, (c ∧ A = x ∧ B = y) ∧ P x y) : ∃ a b, orP (if c then some (A, B) else none) Z = some (a, b) ∧ P a b := by
  obtain ⟨x, y, ⟨hc, rfl, rfl⟩, hp⟩ := h
  exact ⟨A, B, by rw [if_pos hc]; rfl, hp⟩
def packA (n0 : Nat) (H : Heap) (r : D) : Option (D × Heap) := orP (pack n0 H r) (packN n0 H r)
def retE (n0 : Nat) (S ks : List Nat) (e : Env) (H : Heap) : Option (Env × Heap) :=
  match retF n0 S ks e H with
  | some r => some r
  | none => retN n0 S ks e H
def keepL (X : Cx) (f id : Nat) : List Nat := match X.keep f id with
  | some (ks, _) => ks
  | none => []
def enterC (X : Cx) (f n0 id : Nat) (e : Env) (H : Heap) : Option (Env × Heap) :=
  match X.ret f id with
  | [] => enterB X f n0 id e H
  | S => retE n0 S (keepL X f id) e H

def enterF (X : Cx) (f n0 id : Nat) (e : Env) (H : Heap) : Option (Env × Heap) :=
  match X.frz f id with
  | [] => enterC X f n0 id e H
  | ss => match freezeE ss e H with
    | some (e, H) => enterC X f n0 id e H
    | none => none

/-- The names in a block, told by value for good. -/
def stayBlk (H : Heap) (i : Nat) : Option Heap :=
  match hget H i with
  | some ds => if ds.all idFree then some H else match stayL (stay H 9) ds with
    | some (ds', l) => if i ∈ l then none else some (hset (clr H l) i ds')
    | none => none
  | none => none
/-- The names in the blocks of some slots. -/
def stayIn (e : Env) : List Nat → Heap → Option Heap
  | [], H => some H
  | s :: ss, H => match look e s with
    | some (.osl i _ _ _ _) | some (.optr i _ _) => match stayBlk H i with
      | some H' => stayIn e ss H'
      | none => none
    | _ => stayIn e ss H

def enter (X : Cx) (f n0 id : Nat) (e : Env) (H : Heap) : Option (Env × Heap) :=
  match X.frb f id with
  | [] => enterF X f n0 id e H
  | ss => match stayIn e ss H with
    | some H' => enterF X f n0 id e H'
    | none => none

/-- What is handed back of a function's end. -/
def packR (z : Bool) (n0 : Nat) (H : Heap) (r : D) : Option (D × Heap) :=
  match z with
  | false => packA n0 H r
  | true => match stay H 9 r with
    | some (r, l) => packA n0 (clr H l) r
    | none => none

/-- What is handed back, where all that was made stays. -/
def packG (z : Bool) (H : Heap) (r : D) : Option (D × Heap) :=
  match z with
  | false => some (r, H)
  | true => match stay H 9 r with
    | some (r, l) => some (r, clr H l)
    | none => none
def packS (g z : Bool) (n0 : Nat) (H : Heap) (r : D) : Option (D × Heap) :=
  match g with
  | true => packG z H r
  | false => packR z n0 H r

abbrev CallF := Nat → List D → Heap → Option (D × Heap)

def blkVFree : Option (List D) → Bool
  | some ds => ds.all vFree
  | none => true

/-- No name is 0. -/
def noZ : D → Bool
  | .agg cs | .tup cs | .fn _ cs => noZL cs
  | .iface _ d => noZ d
  | .optr i _ _ | .osl i _ _ _ _ => decide (1 ≤ i)
  | _ => true
where noZL : List D → Bool
  | [] => true
  | d :: l => noZ d && noZL l

/-- A call that works on one block alone. -/
def callL (F : CallF) (f : Nat) (args : List D) (H : Heap) : Option (D × Heap) :=
  match args with
  | .optr i st off :: rest => match hget H i with
    | some ds => if rest.all idFree && ds.all idFree then match F f (.optr 0 st off :: rest) [some ds] with
        | some (r, some ds' :: L) => if noZ r && ds'.all idFree then some (shift (H.length - 1) r, hset H i ds' ++ L) else none
        | _ => none
      else none
    | none => none
  | _ => none

/-- Names moved back: those of a row to where they were, the others behind n. -/
def mvN (p : List Nat) (n j : Nat) : Nat := match p[j]? with
  | some i => i
  | none => n + (j - p.length)
def mv (p : List Nat) (n : Nat) : D → D
  | .optr i st off => .optr (mvN p n i) st off
  | .osl i st off len k => .osl (mvN p n i) st off len k
  | .agg cs => .agg (mvL p n cs)
  | .tup cs => .tup (mvL p n cs)
  | .fn f cs => .fn f (mvL p n cs)
  | .iface t d => .iface t (mv p n d)
  | d => d
where mvL (p : List Nat) (n : Nat) : List D → List D
  | [] => []
  | d :: l => mv p n d :: mvL p n l
def setAll : Heap → List Nat → Heap → Heap
  | H, i :: p, b :: T => setAll (H.set i b) p T
  | H, _, _ => H
def renA (p : List Nat) : List D → Option (List D)
  | [] => some []
  | d :: l => match renV p d, renA p l with
    | some d, some l => some (d :: l)
    | _, _ => none
/-- A call that works on some blocks alone, whose first one may name the others. -/
def callP (F : CallF) (f : Nat) (args : List D) (H : Heap) (p : List Nat) : Option (D × Heap) :=
  match renA p args, renH p H p with
  | some args', some H0 => if decide p.Nodup && (H0.drop 1).all blkFree then match F f args' H0 with
      | some (r, some A :: T) => if T.all blkFree then some (mv p H.length r, setAll H p (some (mv.mvL p H.length A) :: T) ++ T.drop (p.length - 1)) else none
      | _ => none
    else none
  | _, _ => none
def callM (F : CallF) (f : Nat) (args : List D) (H : Heap) : Option (D × Heap) :=
  match addN (addN [] (idsD args)) (namesB H (addN [] (idsD args))) with
  | [] => none
  | i :: p => callP F f args H (i :: p)

/-- What can be come to. -/
def closeN (H : Heap) : Nat → List Nat → List Nat
  | 0, p => p
  | n + 1, p => closeN H n (addN p (namesB H p))
def mvB (p : List Nat) (n : Nat) (b : Option (List D)) : Option (List D) := b.map (mv.mvL p n)
/-- A call that works on some blocks alone, by new names. -/
def callQ (F : CallF) (f : Nat) (args : List D) (H : Heap) (p : List Nat) : Option (D × Heap) :=
  match renA p args, renH p H p with
  | some args', some H0 => if p.Nodup then match F f args' H0 with
      | some (r, T) => some (mv p H.length r, setAll H p (T.map (mvB p H.length)) ++ (T.map (mvB p H.length)).drop p.length)
      | none => none
    else none
  | _, _ => none
def callG (F : CallF) (f : Nat) (args : List D) (H : Heap) : Option (D × Heap) := callQ F f args H (closeN H 6 (addN [] (idsD args)))

def callK (X : Cx) (F : CallF) (f : Nat) (args : List D) (H : Heap) : Option (D × Heap) :=
  if X.lom f then callM F f args H else callL F f args H

def callV (X : Cx) (F : CallF) (f : Nat) (args : List D) (H : Heap) : Option (D × Heap) :=
  if X.byRef f then (if X.loc f then (if X.gr f then callG F f args H else callK X F f args H) else F f args H)
  else if args.all idFree then match F f args [] with
    | none => none
    | some (r, L) => some (shift H.length r, H ++ L)
  else match freezeArgs H args with
    | none => none
    | some args' => match F f args' [] with
      | none => none
      | some (r, L) => if vFree r && L.all blkVFree then some (shift H.length r, H ++ L) else none

/-- A slice of the run's own in whose block there are no names. -/
def flatQ (H : Heap) : D → Bool
  | .osl i _ _ _ _ => match hget H i with
    | some ds => ds.all idFree
    | none => false
  | d => idFree d

def callW (X : Cx) (F : CallF) (f : Nat) (args : List D) (H : Heap) : Option (D × Heap) :=
  if X.pureF f && !X.byRef f then
    if args.all idFree then match F f args [] with
      | some (r, []) => if idFree r then some (r, H) else none
      | _ => none
    else if X.perm f && args.all (flatQ H) then match freezeArgs H args with
      | some args' => match F f args' [] with
        | some (r, []) => if idFree r && vFree r then some (r, H) else none
        | _ => none
      | none => none
    else none
  else callV X F f args H

/-- The names in the block that a call is run on, told by value for good. -/
def stayB (H : Heap) : List D → Option Heap
  | .optr i _ _ :: _ => stayBlk H i
  | _ => none

def callB (X : Cx) (F : CallF) (f : Nat) (args : List D) (H : Heap) : Option (D × Heap) :=
  match X.perm f && X.byRef f with
  | false => callW X F f args H
  | true => match stayB H args with
    | some H' => callW X F f args H'
    | none => none

def callD (X : Cx) (F : CallF) (f : Nat) (args : List D) (H : Heap) : Option (D × Heap) :=
  match X.perm f && !X.pureF f && !X.byRef f with
  | false => callB X F f args H
  | true => match stayL (stay H 9) args with
    | some (args', l) => callW X F f args' (clr H l)
    | none => none

def builtinD (X : Cx) (b : Builtin) (ts : List TypeId) (args : List D) (H : Heap) : Option (D × Heap) :=
  match b, ts, args with
  | .len, t :: _, x :: _ => (lenD X.P t x).map (·, H)
  | .append, t :: u :: _, s :: x :: _ => appendD X.P H t u s x
  | .copy, t :: u :: _, d :: x :: _ => copyD X.P H t u d x
  | .min, _, args => (minmaxD false args).map (·, H)
  | .max, _, args => (minmaxD true args).map (·, H)
  | .clear, t :: _, x :: _ => clearD X.P H t x
  | _, _, _ => none

/-- One operation. -/
def evOp (X : Cx) (F : CallF) (o : Op) (e : Env) (H : Heap) : Option (D × Heap) :=
  match o with
  | .move x | .assign x => (opd X e x).map (·, H)
  | .pick c a b => match opd X e c with
    | some (.bool t) => (opd X e (if t then a else b)).map (·, H)
    | _ => none
  | .alloc t => match (zeroOf X.P t).bind cellsOf with
    | some cs => some (.optr H.length cs.length 0, newBlk H cs)
    | none => none
  | .box _ x => match (opd X e x).bind cellsOf with
    | some cs => if cs.all (closed H.length) then some (.optr H.length cs.length 0, newBlk H cs) else none
    | none => none
  | .build t parts => match partsD X e parts.toList with
    | some ps => (buildD X.P t ps).map (·, H)
    | none => none
  | .buildSlice t len parts => match partsD X e parts.toList with
    | some ps => buildSliceD X.P H t len ps
    | none => none
  | .load t p => match opd X e p with
    | some p => (ldD X.P H t p).map (·, H)
    | none => none
  | .store t p x => match opd X e p, opd X e x with
    | some p, some x => (stD X.P H t p x).map (.tup [], ·)
    | _, _ => none
  | .nilCheck x => match opd X e x with
    | some (.vptr cs) => some (.vptr cs, H)
    | some (.optr i st off) => some (.optr i st off, H)
    | some (.fn f caps) => some (.fn f caps, H)
    | some (.iface t d) => some (.iface t d, H)
    | _ => none
  | .binOp op t x y _ => match opd X e x, opd X e y with
    | some a, some b => (binD X.P op t (isConstOp x || isConstOp y) a b).map (·, H)
    | _, _ => none
  | .unOp op _ x => match opd X e x with
    | some a => (unD op a).map (·, H)
    | none => none
  | .convert s d x => match opd X e x with
    | some a => convD X.P H s d a
    | none => none
  | .makeInterface t x => match opd X e x, X.P.underlying t with
    | some _, some (.interface _) => none
    | some a, some _ => some (.iface t a, H)
    | _, _ => none
  | .makeFunc (.func f) first caps => if first.isEmpty then (opds X e caps.toList).map fun cs => (.fn f cs, H) else none
  | .makeSlice t l c => match opd X e l, opd X e c with
    | some l, some c => makeSliceD X.P H t l c
    | _, _ => none
  | .slice t x lo hi none => match opd X e x, lo.map (opd X e), hi.map (opd X e) with
    | some a, none, none => (sliceD X.P t a none none).map (·, H)
    | some a, some (some l), none => (sliceD X.P t a (some l) none).map (·, H)
    | some a, none, some (some h) => (sliceD X.P t a none (some h)).map (·, H)
    | some a, some (some l), some (some h) => (sliceD X.P t a (some l) (some h)).map (·, H)
    | _, _, _ => none
  | .fieldAddr s x f => match opd X e x with
    | some p => (fieldAddrD X.P s p f).map (·, H)
    | none => none
  | .field s x f => match opd X e x with
    | some a => (fieldD X.P s a f).map (·, H)
    | none => none
  | .indexAddr t x i => match opd X e x, opd X e i with
    | some a, some i => (indexAddrD X.P t a i).map (·, H)
    | _, _ => none
  | .index t x i => match opd X e x, opd X e i with
    | some a, some i => (indexD X.P t a i).map (·, H)
    | _, _ => none
  | .extract x i => match opd X e x with
    | some (.tup cs) => (cs[i]?).map (·, H)
    | _ => none
  | .call c => match c.callee, opds X e c.args.toList with
    | .builtin b, some args => builtinD X b c.argTypes.toList args H
    | .value g, some args => match opd X e g with
      | some (.fn f caps) => callD X F f (args ++ caps) H
      | _ => none
    | _, _ => none
  | _ => none

/-- Is the operation wanted? -/
def guardQ (ops : Array Oper) (e : Env) : Option (Nat × Bool) → Option Bool
  | none => some true
  | some (j, want) => match (ops[j]?).bind (·.dst) with
    | none => some false
    | some t => match look e t with
      | some (.bool b) => some (b == want)
      | some (.tup []) => some false
      | _ => none

def dstOk (nt : Nat) : Option Tmp → Bool
  | none => true
  | some t => decide (t < nt)

/-- A function value that may make something. -/
def dynBad (X : Cx) (c : Call) (e : Env) : Bool :=
  match X.dynV, c.callee with
  | true, .value (.tmp t) => match look e t with
    | some (.fn f _) => !(X.pureF f && !X.byRef f && !X.perm f)
    | _ => true
  | _, _ => false

/-- One operation; in a region that draws its order, texts of slices and of bytes are told by value. -/
def evOpW (X : Cx) (F : CallF) (drw : Bool) (o : Op) (e : Env) (H : Heap) : Option (D × Heap) :=
  match drw, o with
  | true, .buildSlice t len parts => match partsD X e parts.toList with
    | some ps => match buildSliceD X.P [] t len ps with
      | some (.osl _ _ _ _ _, [some ds]) => some (.vsl false ds len, H)
      | _ => none
    | none => none
  | true, .convert s d x => match opd X e x, X.P.underlying d with
    | some (.str b), some (.slice t) => match X.P.underlying s, X.P.underlying t with
      | some _, some (.int .u8) => some (.vsl false (ofBytes b) b.length, H)
      | _, _ => none
    | some a, _ => convD X.P H s d a
    | _, _ => none
  | true, .call c => if dynBad X c e then none else evOp X F (.call c) e H
  | _, o => evOp X F o e H

def evOps (X : Cx) (F : CallF) (nt : Nat) (drw : Bool) (ops : Array Oper) : List Oper → Env → Heap → Option (Env × Heap)
  | [], e, H => some (e, H)
  | o :: l, e, H => match dstOk nt o.dst, guardQ ops e o.guard with
    | true, some true => match evOpW X F drw o.op e H with
      | some (d, H') => evOps X F nt drw ops l (putE e o.dst d) H'
      | none => none
    | true, some false => evOps X F nt drw ops l (putE e o.dst (.tup [])) H
    | _, _ => none

def topId : D → Option Nat
  | .optr i _ _ => some i
  | .osl i _ _ _ _ => some i
  | _ => none
def idsL : List (Option D) → List Nat
  | [] => []
  | some d :: l => (topId d).toList ++ idsL l
  | none :: l => idsL l
abbrev Pairs := List (Nat × Nat)
def wIn (L : Pairs) (k : Nat) : Bool := L.any fun p => p.1 == k
def rIn (L : Pairs) (k : Nat) : Bool := L.any fun p => p.2 == k
/-- What was written before, and what is read at k, are apart. -/
def apartR (L : Pairs) (k : Nat) (bs : List Nat) : List (Nat × Heap × Heap) → Prop
  | [] => True
  | (i, A, B) :: l => (L.contains (i, k) = true → ∀ b, b ∈ bs → hget B b = hget A b) ∧ apartR L k bs l
/-- What was read before, and what is written at k, are apart. -/
def apartW (L : Pairs) (k : Nat) (A B : Heap) : List (Nat × List Nat) → Prop
  | [] => True
  | (j, bs) :: l => (L.contains (k, j) = true → ∀ b, b ∈ bs → hget B b = hget A b) ∧ apartW L k A B l
/-- Is a text told by value? -/
def bwD (ow : List Nat) : Option Tmp → Bool
  | some t => !ow.contains t
  | none => true
open Classical in
/-- Operations of a region with places that no order binds. -/
noncomputable def evOpsL (X : Cx) (F : CallF) (nt : Nat) (ow : List Nat) (ops : Array Oper) (L : Pairs) : Nat → List (Nat × Heap × Heap) → List (Nat × List Nat) → List Oper → Env → Heap → Option (Env × Heap)
  | _, _, _, [], e, H => some (e, H)
  | k, ws, rs, o :: l, e, H => match dstOk nt o.dst, guardQ ops e o.guard with
    | true, some true => match evOpW X F (bwD ow o.dst) o.op e H with
      | some (d, H') =>
        if (rIn L k = true → apartR L k (idsL (o.op.operands.toList.map (opd X e))) ws) ∧ (wIn L k = true → H.length ≤ H'.length ∧ apartW L k H H' rs) then
          evOpsL X F nt ow ops L (k + 1) (if wIn L k then (k, H, H') :: ws else ws) (if rIn L k then (k, idsL (o.op.operands.toList.map (opd X e))) :: rs else rs) l (putE e o.dst d) H'
        else none
      | none => none
    | true, some false => evOpsL X F nt ow ops L (k + 1) ws rs l (putE e o.dst (.tup [])) H
    | _, _ => none

inductive Ex where
  | normal
  | exit (id : Nat)
  | ret

def resD (X : Cx) (e : Env) (H : Heap) : List ResultVar → Option (List D)
  | [] => some []
  | .tmp t :: l => match look e t, resD X e H l with
    | some d, some ds => some (d :: ds)
    | _, _ => none
  | .cell a t :: l => match (look e a).bind (ldD X.P H t), resD X e H l with
    | some d, some ds => some (d :: ds)
    | _, _ => none

def oneOrTup : List D → D
  | [d] => d
  | l => .tup l

def argEnv : Nat → List D → Env
  | _, [] => []
  | i, d :: l => (i, d) :: argEnv (i + 1) l

/-- What an operation does to memory: nothing; it reads; it makes; it writes. -/
inductive OpKind where
  | v | r | e | m
  deriving DecidableEq

def opKind (X : Cx) : Op → OpKind
  | .load .. | .convert .. => .r
  | .alloc .. | .box .. | .makeSlice .. => .e
  | .store .. => .m
  | .call c => match c.callee with
    | .builtin .len | .builtin .min | .builtin .max => .v
    | .value (.func f) => if X.byRef f then .m else if X.pureF f then (if X.perm f then .r else .v) else if X.perm f then .m else .e
    | .value (.tmp _) => if X.dynV then .v else .m
    | _ => .m
  | _ => .v

/-- The kinds, where texts of bytes and of slices are the run's own (false). -/
def opKindB (X : Cx) (bw : Bool) (o : Op) : OpKind :=
  match bw, o with
  | false, .buildSlice .. | false, .convert .. => .e
  | false, .call c => match c.callee with
    | .value (.tmp _) => .m
    | _ => opKind X (.call c)
  | _, o => opKind X o

def isApp : Op → Bool
  | .call c => match c.callee with
    | .builtin .append => true
    | _ => false
  | _ => false
/-- Does a region append? Then its texts are the run's own. -/
def ownL : List Oper → Bool
  | [] => false
  | o :: l => isApp o.op || ownL l

/-- Are texts told by value in a region? -/
def regW (X : Cx) (f id : Nat) (draw : Bool) (ops : Array Oper) : Bool := match draw with
  | true => !ownL ops.toList
  | false => X.cv f id

def isK (X : Cx) (bw : Bool) (o : Op) : Bool := match opKindB X bw o with
  | .e | .m => true
  | _ => false

def tmpOf : Operand → List Tmp
  | .tmp t => [t]
  | _ => []

/-- The slots that an operation names. -/
def namesOf (ops : Array Oper) (o : Oper) : List Tmp :=
  o.dst.toList ++ o.op.operands.toList.flatMap tmpOf ++ (match o.guard with
    | some (k, _) => ((ops[k]?).bind (·.dst)).toList
    | none => [])

def clash (X : Cx) (bw : Option Tmp → Bool) (L : Pairs) (al : Option Nat) (ops : Array Oper) (i : Nat) (x : Oper) (j : Nat) (y : Oper) : Bool :=
  x.dst.any (fun t => (namesOf ops y).contains t) || y.dst.any (fun t => (namesOf ops x).contains t) || (isK X (bw x.dst) x.op && isK X (bw y.dst) y.op && !(al == some (max i j))) ||
    (opKindB X (bw x.dst) x.op == .m && opKindB X (bw y.dst) y.op == .r && !L.contains (i, j)) || (opKindB X (bw x.dst) x.op == .r && opKindB X (bw y.dst) y.op == .m && !L.contains (j, i))

/-- A variable's place that may be made ahead of what the text has ahead of it: who names it comes behind all that. -/
def alOk (X : Cx) (bw : Option Tmp → Bool) (al : Option Nat) (ops : Array Oper) : Bool :=
  match al with
  | none => true
  | some j => match ops[j]? with
    | none => false
    | some o => match o.op, o.dst, o.guard with
      | .alloc _, some t, none =>
        let b := Region.before ops
        ops.toList.zipIdx.all fun (y, k) => k == j || !(namesOf ops y).contains t || (decide (j < k) && ops.toList.zipIdx.all fun (x, i) => !decide (i < j) || !isK X (bw x.dst) x.op || (b.getD k 0).testBit i)
      | _, _, _ => false

/-- Whatever order a region draws, what matters goes as the text has it. -/
def drawOk (X : Cx) (bw : Option Tmp → Bool) (L : Pairs) (al : Option Nat) (ops : Array Oper) : Bool :=
  let b := Region.before ops
  alOk X bw al ops && ops.toList.zipIdx.all fun (y, j) =>
    y.after.all (fun e => !Region.binds .any e || decide (e.on < j)) &&
    ops.toList.zipIdx.all fun (x, i) => !decide (i < j) || (b.getD j 0).testBit i || !clash X bw L al ops i x j y

/-- All regions of it that draw may be taken in the text's order. -/
def okCode (X : Cx) (f : Nat) : Code → Bool
  | .region id ops draw => !draw || match X.lp f id with
    | none => drawOk X (fun _ => !ownL ops.toList) [] (X.al f id) ops
    | some (L, ow) => drawOk X (bwD ow) L (X.al f id) ops
  | .seq a b => okCode X f a && okCode X f b
  | .cond _ a b => okCode X f a && okCode X f b
  | .block _ c | .loop c | .scope c => okCode X f c
  | _ => true

/-- A region's operations. -/
noncomputable def evR (X : Cx) (F : CallF) (f nt id : Nat) (draw : Bool) (ops : Array Oper) (e : Env) (H : Heap) : Option (Env × Heap) :=
  match draw, X.lp f id with
  | true, some (L, ow) => evOpsL X F nt ow ops L 0 [] [] ops.toList e H
  | _, _ => evOps X F nt (regW X f id draw ops) ops ops.toList e H

mutual
noncomputable def evC (X : Cx) : Nat → Nat → Nat → Nat → Code → Env → Heap → Option (Ex × Env × Heap)
  | 0, _, _, _, _, _, _ => none
  | n + 1, f, nt, n0, c, e, H => match c with
    | .skip => some (.normal, e, H)
    | .label _ => some (.normal, e, H)
    | .region id ops draw => match enter X f n0 id e H with
      | none => none
      | some (e, H) => (evR X (evF X n) f nt id draw ops e H).map fun (e, H) => (.normal, e, H)
    | .seq a b => match evC X n f nt n0 a e H with
      | some (.normal, e, H) => evC X n f nt n0 b e H
      | r => r
    | .cond c a b => match opd X e c with
      | some (.bool t) => evC X n f nt n0 (if t then a else b) e H
      | _ => none
    | .block id c => match evC X n f nt n0 c e H with
      | some (.exit i, e, H) => if i = id then some (.normal, e, H) else some (.exit i, e, H)
      | r => r
    | .loop c => match evC X n f nt n0 c e H with
      | some (.normal, e, H) => evC X n f nt n0 (.loop c) e H
      | r => r
    | .exit id => some (.exit id, e, H)
    | .scope c => evC X n f nt n0 c e H
    | .ret => some (.ret, e, H)
    | _ => none
noncomputable def evF (X : Cx) : Nat → CallF
  | 0, _, _, _ => none
  | n + 1, f, args, H => match X.con f args H with
   | some r => some r
   | none => match X.P.funcs[f]? with
    | none => none
    | some fn => match fn.body with
      | none => (X.ext f args).map (·, H)
      | some c => if X.bad f then none else match evC X n f fn.ntmps H.length c (argEnv 0 args) H with
        | some (.normal, e, H') | some (.ret, e, H') => match resD X e H' fn.results.toList with
          | some ds => packS (X.gr f && X.byRef f) (X.fzr f) H.length H' (oneOrTup ds)
          | none => none
        | _ => none
end

end Go.Ev
/-
  What a value reads as, in a world; what a step leaves.
-/
namespace Go.Ev

abbrev Iota := Nat → Option (Nat × Nat)
def iota0 : Iota := fun _ => none

def isCell : D → Bool
  | .agg _ | .tup _ => false
  | .raw v => v.oneCell'
  | _ => true

inductive Rep (ok : Nat → Prop) (w : World) : Iota → Heap → D → Value → Prop
  | bool {ι H} (b : Bool) : Rep ok w ι H (.bool b) (.bool b)
  | int {ι H} (k : IntKind) (n : Int) : Rep ok w ι H (.int k n) (.int k n)
  | str {ι H} (s : List UInt8) : Rep ok w ι H (.str s) (.string ⟨s.toArray⟩)
  | nilp {ι H} : Rep ok w ι H .nilp (.pointer none)
  | nilf {ι H} : Rep ok w ι H .nilf .nilFunc
  | nili {ι H} : Rep ok w ι H .nili .nilIface
  | agg {ι H} {ds : List D} {vs : Array Value} (hl : vs.size = ds.length) (hc : ∀ d, d ∈ ds → isCell d = true)
      (h : ∀ (j : Nat) d, ds[j]? = some d → Rep ok w ι H d (vs.getD j undef)) : Rep ok w ι H (.agg ds) (.agg vs)
  | tup {ι H} {ds : List D} {vs : Array Value} (hl : vs.size = ds.length)
      (h : ∀ (j : Nat) d, ds[j]? = some d → Rep ok w ι H d (vs.getD j undef)) : Rep ok w ι H (.tup ds) (.tuple vs)
  | vptr {ι H} {ds : List D} (a : Addr) (f : Nat → Value) (ha : ∀ d, d ∈ ds → ok a.block) (hc : ∀ d, d ∈ ds → isCell d = true)
      (hr : ∀ (j : Nat) d, ds[j]? = some d → w.cell? (a.add j) = some (f j))
      (h : ∀ (j : Nat) d, ds[j]? = some d → Rep ok w iota0 [] d (f j)) : Rep ok w ι H (.vptr ds) (.pointer (some a))
  | optr {ι H} {i st off : Nat} (a : Addr) (hi : i < H.length)
      (h : ∀ ds, hget H i = some ds → st ≤ ds.length ∧ (ds.length = st → ∃ b s, ι i = some (b, s) ∧ a = ⟨b, off, none⟩)) : Rep ok w ι H (.optr i st off) (.pointer (some a))
  | vnil {ι H} : Rep ok w ι H (.vsl true [] 0) (.slice none 0 0)
  | vsl {ι H} {ds : List D} {len c : Nat} (a : Addr) (f : Nat → Value) (ha : ∀ d, d ∈ ds → ok a.block) (hc : ∀ d, d ∈ ds → isCell d = true)
      (hr : ∀ (j : Nat) d, ds[j]? = some d → w.cell? (a.add j) = some (f j))
      (h : ∀ (j : Nat) d, ds[j]? = some d → Rep ok w iota0 [] d (f j)) (hlc : len ≤ c) : Rep ok w ι H (.vsl false ds len) (.slice (some a) len c)
  | osl {ι H} {i st off len k c : Nat} (a : Addr) (hi : i < H.length)
      (h : ∀ ds, hget H i = some ds → st ≤ ds.length ∧ (ds.length = st → ∃ b s, ι i = some (b, s) ∧ a = ⟨b, off, none⟩ ∧ off + c * k ≤ s)) (hlc : len ≤ c) :
      Rep ok w ι H (.osl i st off len k) (.slice (some a) len c)
  | fn {ι H} {f : Nat} {ds : List D} {vs : Array Value} (hl : vs.size = ds.length)
      (h : ∀ (j : Nat) d, ds[j]? = some d → Rep ok w ι H d (vs.getD j undef)) : Rep ok w ι H (.fn f ds) (.func (.func f) #[] vs)
  | iface {ι H} {t : Nat} {d : D} {v : Value} (h : Rep ok w ι H d v) : Rep ok w ι H (.iface t d) (.iface t v)
  | raw {ι H} (v : Value) : Rep ok w ι H (.raw v) v

section
variable {ok ok' : Nat → Prop} {w w' : World} {ι ι' : Iota} {H H' : Heap}

theorem Rep.oneCell {d : D} {v : Value} (h : Rep ok w ι H d v) (hc : isCell d = true) : v.oneCell' = true := by
  cases h <;> first | rfl | exact hc | simp [isCell] at hc

theorem idFreeL_iff (l : List D) : idFree.idFreeL l = true ↔ ∀ d, d ∈ l → idFree d = true := by
  induction l with
  | nil => simp [idFree.idFreeL]
  | cons d l ih => simp [idFree.idFreeL, ih]
theorem vFreeL_iff (l : List D) : vFree.vFreeL l = true ↔ ∀ d, d ∈ l → vFree d = true := by
  induction l with
  | nil => simp [vFree.vFreeL]
  | cons d l ih => simp [vFree.vFreeL, ih]
theorem closedL_iff (n : Nat) (l : List D) : closed.closedL n l = true ↔ ∀ d, d ∈ l → closed n d = true := by
  induction l with
  | nil => simp [closed.closedL]
  | cons d l ih => simp [closed.closedL, ih]

theorem mem_of_get? {ds : List D} {j : Nat} {d : D} (h : ds[j]? = some d) : d ∈ ds := List.mem_of_getElem? h

/-- A value's names are of blocks that there are. -/
theorem Rep.closed {d : D} {v : Value} (h : Rep ok w ι H d v) : Ev.closed H.length d = true := by
  induction h with
  | agg hl hc h ih | tup hl h ih | fn hl h ih =>
    simp only [Ev.closed, closedL_iff]
    intro d hd
    obtain ⟨j, hj⟩ := List.mem_iff_getElem?.1 hd
    exact ih j d hj
  | iface h ih => simpa [Ev.closed] using ih
  | optr a hi h => simpa [Ev.closed] using hi
  | osl a hi h => simpa [Ev.closed] using hi
  | _ => rfl

theorem closed_mono {n m : Nat} (hnm : n ≤ m) : ∀ d, closed n d = true → closed m d = true
  | .agg cs, h | .tup cs, h | .fn _ cs, h => by
    simp only [closed, closedL_iff] at h ⊢
    intro d hd
    exact closed_mono hnm d (h d hd)
  | .iface _ d, h => by simp only [closed] at h ⊢; exact closed_mono hnm d h
  | .optr i _ _, h | .osl i _ _ _ _, h => by simp only [closed, decide_eq_true_eq] at h ⊢; omega
  | .bool _, _ | .int _ _, _ | .str _, _ | .nilp, _ | .nilf, _ | .nili, _ | .vptr _, _ | .vsl _ _ _, _ | .raw _, _ => rfl

theorem idFree_closed {n : Nat} : ∀ d, idFree d = true → closed n d = true
  | .agg cs, h | .tup cs, h | .fn _ cs, h => by
    simp only [closed, closedL_iff, idFree, idFreeL_iff] at h ⊢
    intro d hd
    exact idFree_closed d (h d hd)
  | .iface _ d, h => by simp only [closed, idFree] at h ⊢; exact idFree_closed d h
  | .optr i _ _, h | .osl i _ _ _ _, h => by simp [idFree] at h
  | .bool _, _ | .int _ _, _ | .str _, _ | .nilp, _ | .nilf, _ | .nili, _ | .vptr _, _ | .vsl _ _ _, _ | .raw _, _ => rfl

/-- What has no names reads the same whatever the names are. -/
theorem Rep.free {d : D} {v : Value} (h : Rep ok w ι H d v) (hf : idFree d = true) (ι' : Iota) (H' : Heap) : Rep ok w ι' H' d v := by
  induction h with
  | bool b => exact .bool b
  | int k n => exact .int k n
  | str s => exact .str s
  | nilp => exact .nilp
  | nilf => exact .nilf
  | nili => exact .nili
  | raw v => exact .raw v
  | agg hl hc h ih =>
    simp only [idFree, idFreeL_iff] at hf
    exact .agg hl hc fun j d hj => ih j d hj (hf d (mem_of_get? hj))
  | tup hl h ih =>
    simp only [idFree, idFreeL_iff] at hf
    exact .tup hl fun j d hj => ih j d hj (hf d (mem_of_get? hj))
  | fn hl h ih =>
    simp only [idFree, idFreeL_iff] at hf
    exact .fn hl fun j d hj => ih j d hj (hf d (mem_of_get? hj))
  | iface h ih => exact .iface (ih hf)
  | optr a hi h => simp [idFree] at hf
  | osl a hi h => simp [idFree] at hf
  | vptr a f ha hc hr h _ => exact .vptr a f ha hc hr h
  | vnil => exact .vnil
  | vsl a f ha hc hr h hlc _ => exact .vsl a f ha hc hr h hlc

/-- What a step from one state to another leaves; n: the names that go on. -/
structure Evol (n : Nat) (ok : Nat → Prop) (w : World) (ι : Iota) (H : Heap) (ok' : Nat → Prop) (w' : World) (ι' : Iota) (H' : Heap) : Prop where
  os : w'.os = w.os
  tape : w'.tape = w.tape
  output : w'.output = w.output
  size : w.heap.size ≤ w'.heap.size
  frame : ∀ b, b < w.heap.size → (∀ i ds s, hget H i = some ds → ι i ≠ some (b, s)) → w'.heap[b]? = w.heap[b]?
  okU : ∀ b, ok b → ok' b
  okN : ∀ b, ok' b → b < w.heap.size → ok b ∨ ∃ i ds s, hget H i = some ds ∧ ι i = some (b, s)
  nle : n ≤ H.length ∧ n ≤ H'.length
  heap : ∀ i, i < n → ∀ ds', hget H' i = some ds' → ∃ ds, hget H i = some ds ∧ ds.length ≤ ds'.length ∧ (ds.length = ds'.length → ι' i = ι i)
  own : ∀ i ds' b s, hget H' i = some ds' → ι' i = some (b, s) → b < w.heap.size → ∃ j ds s', hget H j = some ds ∧ ι j = some (b, s')

structure Sim (X : Cx) (ok : Nat → Prop) (w : World) (ι : Iota) (H : Heap) : Prop where
  okS : ∀ b, ok b → b < w.heap.size
  glob : ∀ g cs, X.glob g = some cs → Rep ok w iota0 [] (.vptr cs) (.pointer (some ⟨g, 0, none⟩))
  inj : ∀ i j ds es b s s', hget H i = some ds → hget H j = some es → ι i = some (b, s) → ι j = some (b, s') → i = j
  blk : ∀ i ds, hget H i = some ds → ∃ b arr e fr, ι i = some (b, arr.size) ∧ ¬ ok b ∧ w.heap[b]? = some (.cells arr e fr) ∧ ds.length ≤ arr.size ∧
    (fr.1 = fr.2 ∨ arr.size ≤ fr.1) ∧ (∀ j, j < arr.size → (arr.getD j undef).oneCell' = true) ∧ (∀ d, d ∈ ds → isCell d = true) ∧
    (∀ (j : Nat) d, ds[j]? = some d → Rep ok w ι H d (arr.getD j undef))

theorem fz_of {fr : Nat × Nat} {n : Nat} (h : fr.1 = fr.2 ∨ n ≤ fr.1) : ∀ j, j < n → ¬ (fr.1 ≤ j ∧ j < fr.2) := by
  intro j hj
  omega
theorem Sim.notOwn {X : Cx} (hs : Sim X ok w ι H) {b : Nat} (hb : ok b) : ∀ i ds s, hget H i = some ds → ι i ≠ some (b, s) := by
  intro i ds s hi he
  obtain ⟨b', arr, e, fr, hb', hn, _⟩ := hs.blk i ds hi
  rw [he] at hb'
  injection hb' with hb'
  injection hb' with hb'
  subst hb'
  exact hn hb

theorem add_block (a : Addr) (j : Nat) : (a.add j).block = a.block := by unfold Addr.add; split <;> rfl

/-- A value still reads as it did. -/
theorem Rep.evol {X : Cx} {n : Nat} {d : D} {v : Value} (h : Rep ok w ι H d v) (hs : Sim X ok w ι H) (he : Evol n ok w ι H ok' w' ι' H') (hc : Ev.closed n d = true) : Rep ok' w' ι' H' d v := by
  have hcell : ∀ a : Addr, ∀ j v, ok a.block → w.cell? (a.add j) = some v → w'.cell? (a.add j) = some v := by
    intro a j v ha hv
    rw [World.cell?_of_block (w := w)]
    · exact hv
    · rw [add_block]
      exact he.frame _ (hs.okS _ ha) (hs.notOwn ha)
  have inner : ∀ {ι1 : Iota} {H1 : Heap} {d : D} {v : Value}, Rep ok w ι1 H1 d v → ι1 = iota0 → H1 = [] → Rep ok' w' iota0 [] d v := by
    intro ι1 H1 d v h
    induction h with
    | bool b => intros; exact .bool b
    | int k n => intros; exact .int k n
    | str s => intros; exact .str s
    | nilp => intros; exact .nilp
    | nilf => intros; exact .nilf
    | nili => intros; exact .nili
    | raw v => intros; exact .raw v
    | agg hl hc h ih => intro h1 h2; exact .agg hl hc fun j d hj => ih j d hj h1 h2
    | tup hl h ih => intro h1 h2; exact .tup hl fun j d hj => ih j d hj h1 h2
    | fn hl h ih => intro h1 h2; exact .fn hl fun j d hj => ih j d hj h1 h2
    | iface h ih => intro h1 h2; exact .iface (ih h1 h2)
    | optr a hi h => intro h1 h2; subst h2; simp at hi
    | osl a hi h => intro h1 h2; subst h2; simp at hi
    | vptr a f ha hc hr h ih => intros; exact .vptr a f (fun d hd => he.okU _ (ha d hd)) hc (fun j d hj => hcell a j _ (ha d (mem_of_get? hj)) (hr j d hj)) fun j d hj => ih j d hj rfl rfl
    | vnil => intros; exact .vnil
    | vsl a f ha hc hr h hlc ih => intros; exact .vsl a f (fun d hd => he.okU _ (ha d hd)) hc (fun j d hj => hcell a j _ (ha d (mem_of_get? hj)) (hr j d hj)) (fun j d hj => ih j d hj rfl rfl) hlc
  have main : ∀ {ι1 : Iota} {H1 : Heap} {d : D} {v : Value}, Rep ok w ι1 H1 d v → ι1 = ι → H1 = H → Ev.closed n d = true → Rep ok' w' ι' H' d v := by
    intro ι1 H1 d v h
    induction h with
    | bool b => intros; exact .bool b
    | int k n => intros; exact .int k n
    | str s => intros; exact .str s
    | nilp => intros; exact .nilp
    | nilf => intros; exact .nilf
    | nili => intros; exact .nili
    | raw v => intros; exact .raw v
    | agg hl hc h ih =>
      intro h1 h2 h3
      simp only [Ev.closed, closedL_iff] at h3
      exact .agg hl hc fun j d hj => ih j d hj h1 h2 (h3 d (mem_of_get? hj))
    | tup hl h ih =>
      intro h1 h2 h3
      simp only [Ev.closed, closedL_iff] at h3
      exact .tup hl fun j d hj => ih j d hj h1 h2 (h3 d (mem_of_get? hj))
    | fn hl h ih =>
      intro h1 h2 h3
      simp only [Ev.closed, closedL_iff] at h3
      exact .fn hl fun j d hj => ih j d hj h1 h2 (h3 d (mem_of_get? hj))
    | iface h ih => intro h1 h2 h3; exact .iface (ih h1 h2 h3)
    | optr a hi hk =>
      intro h1 h2 h3
      subst h1; subst h2
      simp only [Ev.closed, decide_eq_true_eq] at h3
      refine .optr a (Nat.lt_of_lt_of_le h3 he.nle.2) fun ds' hd' => ?_
      obtain ⟨ds, hd, hle, hi'⟩ := he.heap _ h3 ds' hd'
      obtain ⟨k1, k2⟩ := hk ds hd
      refine ⟨by omega, fun e => ?_⟩
      obtain ⟨b, s, q1, q2⟩ := k2 (by omega)
      exact ⟨b, s, by rw [hi' (by omega)]; exact q1, q2⟩
    | osl a hi hk hlc =>
      intro h1 h2 h3
      subst h1; subst h2
      simp only [Ev.closed, decide_eq_true_eq] at h3
      refine .osl a (Nat.lt_of_lt_of_le h3 he.nle.2) (fun ds' hd' => ?_) hlc
      obtain ⟨ds, hd, hle, hi'⟩ := he.heap _ h3 ds' hd'
      obtain ⟨k1, k2⟩ := hk ds hd
      refine ⟨by omega, fun e => ?_⟩
      obtain ⟨b, s, q1, q2⟩ := k2 (by omega)
      exact ⟨b, s, by rw [hi' (by omega)]; exact q1, q2⟩
    | vptr a f ha hc hr h ih => intros; exact .vptr a f (fun d hd => he.okU _ (ha d hd)) hc (fun j d hj => hcell a j _ (ha d (mem_of_get? hj)) (hr j d hj)) fun j d hj => inner (h j d hj) rfl rfl
    | vnil => intros; exact .vnil
    | vsl a f ha hc hr h hlc ih => intros; exact .vsl a f (fun d hd => he.okU _ (ha d hd)) hc (fun j d hj => hcell a j _ (ha d (mem_of_get? hj)) (hr j d hj)) (fun j d hj => inner (h j d hj) rfl rfl) hlc
  exact main h rfl rfl hc

theorem Evol.refl (n : Nat) (hn : n ≤ H.length) : Evol n ok w ι H ok w ι H :=
  ⟨rfl, rfl, rfl, Nat.le_refl _, fun _ _ _ => rfl, fun _ h => h, fun _ h _ => .inl h, ⟨hn, hn⟩, fun _ _ ds hd => ⟨ds, hd, Nat.le_refl _, fun _ => rfl⟩, fun i ds _ s hd hi _ => ⟨i, ds, s, hd, hi⟩⟩

theorem Evol.mono {n m : Nat} (he : Evol n ok w ι H ok' w' ι' H') (hm : m ≤ n) : Evol m ok w ι H ok' w' ι' H' :=
  ⟨he.os, he.tape, he.output, he.size, he.frame, he.okU, he.okN, ⟨by have := he.nle; omega, by have := he.nle; omega⟩, fun i hi => he.heap i (by omega), he.own⟩

theorem Evol.trans {ok'' : Nat → Prop} {w'' : World} {ι'' : Iota} {H'' : Heap} {n : Nat} (h : Evol n ok w ι H ok' w' ι' H') (k : Evol n ok' w' ι' H' ok'' w'' ι'' H'') : Evol n ok w ι H ok'' w'' ι'' H'' where
  os := k.os.trans h.os
  tape := k.tape.trans h.tape
  output := k.output.trans h.output
  size := Nat.le_trans h.size k.size
  frame b hb hno := by
    rw [k.frame b (Nat.lt_of_lt_of_le hb h.size), h.frame b hb hno]
    intro i ds s hd hi
    obtain ⟨j, ds0, s', hj, hι⟩ := h.own i ds b s hd hi hb
    exact hno j ds0 s' hj hι
  okU b hb := k.okU b (h.okU b hb)
  okN b hb hlt := by
    rcases k.okN b hb (Nat.lt_of_lt_of_le hlt h.size) with hb | ⟨i, ds, s, hd, hi⟩
    · exact h.okN b hb hlt
    · exact .inr (h.own i ds b s hd hi hlt)
  nle := ⟨h.nle.1, k.nle.2⟩
  heap i hi ds'' hd'' := by
    obtain ⟨ds', hd', hle', hi'⟩ := k.heap i hi ds'' hd''
    obtain ⟨ds, hd, hle, hi0⟩ := h.heap i hi ds' hd'
    exact ⟨ds, hd, by omega, fun e => by rw [hi' (by omega), hi0 (by omega)]⟩
  own i ds' b s hd hi hb := by
    obtain ⟨j, ds0, s', hj, hι⟩ := k.own i ds' b s hd hi (Nat.lt_of_lt_of_le hb h.size)
    exact h.own j ds0 b s' hj hι hb

def EnvRep (ok : Nat → Prop) (w : World) (ι : Iota) (H : Heap) (e : Env) (tmps : Array Value) : Prop :=
  ∀ t d, look e t = some d → t < tmps.size ∧ Rep ok w ι H d (tmps.getD t undef)

def RepL (ok : Nat → Prop) (w : World) (ι : Iota) (H : Heap) (ds : List D) (vs : List Value) : Prop :=
  vs.length = ds.length ∧ ∀ (j : Nat) d, ds[j]? = some d → Rep ok w ι H d (vs.getD j undef)

theorem EnvRep.put {e : Env} {tmps : Array Value} {t : Nat} {d : D} {v : Value} (he : EnvRep ok w ι H e tmps) (hd : Rep ok w ι H d v) (ht : t < tmps.size) :
    EnvRep ok w ι H ((t, d) :: e) (tmps.setIfInBounds t v) := by
  intro u d' hu
  simp only [look] at hu
  by_cases h : t = u
  · subst h
    simp only [if_true, Option.some.injEq] at hu
    subst hu
    simp [ht, hd, Array.getD]
  · simp only [h, if_false] at hu
    obtain ⟨h1, h2⟩ := he u d' hu
    refine ⟨by simpa using h1, ?_⟩
    have : (tmps.setIfInBounds t v).getD u undef = tmps.getD u undef := by
      simp only [Array.getD_eq_getD_getElem?, Array.getElem?_setIfInBounds_ne h]
    rw [this]
    exact h2

theorem EnvRep.evol {X : Cx} {n : Nat} {e : Env} {tmps : Array Value} (he : EnvRep ok w ι H e tmps) (hs : Sim X ok w ι H) (hv : Evol n ok w ι H ok' w' ι' H')
    (hc : ∀ t d, look e t = some d → Ev.closed n d = true) : EnvRep ok' w' ι' H' e tmps :=
  fun t d ht => ⟨(he t d ht).1, (he t d ht).2.evol hs hv (hc t d ht)⟩

theorem EnvRep.evol' {X : Cx} {e : Env} {tmps : Array Value} (he : EnvRep ok w ι H e tmps) (hs : Sim X ok w ι H) (hv : Evol H.length ok w ι H ok' w' ι' H') : EnvRep ok' w' ι' H' e tmps :=
  he.evol hs hv fun t d ht => (he t d ht).2.closed
end
end Go.Ev
/-
  Steps on memory: a new block, a block that is written, cells read.
-/
namespace Go.Ev

section
variable {X : Cx} {P : Program} {ok : Nat → Prop} {w w' : World} {ι : Iota} {H : Heap}

theorem closed0_idFree : ∀ d, closed 0 d = true → idFree d = true
  | .agg cs, h | .tup cs, h | .fn _ cs, h => by
    simp only [closed, closedL_iff, idFree, idFreeL_iff] at h ⊢
    intro d hd
    exact closed0_idFree d (h d hd)
  | .iface _ d, h => by simp only [closed, idFree] at h ⊢; exact closed0_idFree d h
  | .optr i _ _, h | .osl i _ _ _ _, h => by simp [closed] at h
  | .bool _, _ | .int _ _, _ | .str _, _ | .nilp, _ | .nilf, _ | .nili, _ | .vptr _, _ | .vsl _ _ _, _ | .raw _, _ => rfl

theorem Rep.lift {d : D} {v : Value} (h : Rep ok w iota0 [] d v) : Rep ok w ι H d v := h.free (closed0_idFree d h.closed) _ _

theorem hget_lt {i : Nat} {ds : List D} (h : hget H i = some ds) : i < H.length := by
  unfold hget at h
  rcases Nat.lt_or_ge i H.length with hlt | hge
  · exact hlt
  · rw [List.getElem?_eq_none hge] at h; simp at h
theorem hget_hset_same {i : Nat} {ds : List D} (h : i < H.length) : hget (hset H i ds) i = some ds := by
  simp [hget, hset, h]
theorem hget_hset_other {i j : Nat} {ds : List D} (h : j ≠ i) : hget (hset H i ds) j = hget H j := by
  simp [hget, hset, Ne.symm h]
theorem length_hset {i : Nat} {ds : List D} : (hset H i ds).length = H.length := by simp [hset]
theorem hget_newBlk_same {ds : List D} : hget (newBlk H ds) H.length = some ds := by simp [hget, newBlk]
theorem hget_newBlk_lt {ds : List D} {i : Nat} (h : i < H.length) : hget (newBlk H ds) i = hget H i := by
  simp [hget, newBlk, List.getElem?_append_left h]
theorem length_newBlk {ds : List D} : (newBlk H ds).length = H.length + 1 := by simp [newBlk]

/-- the streams are as they were -/
def SameS (w w' : World) : Prop := w'.os = w.os ∧ w'.tape = w.tape ∧ w'.output = w.output

theorem Sim.lt (hs : Sim X ok w ι H) {i : Nat} {ds : List D} {b s : Nat} (hd : hget H i = some ds) (hi : ι i = some (b, s)) : b < w.heap.size := by
  obtain ⟨b', arr, e, fr, hb', hn, hh, _⟩ := hs.blk i ds hd
  rw [hi] at hb'
  injection hb' with hb'
  injection hb' with hb' _
  subst hb'
  exact (Array.getElem?_eq_some_iff.1 hh).1

theorem step_set {i : Nat} {ds ds' : List D} {b sz b' : Nat} {arr' : Array Value} {e : TypeId} {fr : Nat × Nat} (hs : Sim X ok w ι H) (hd : hget H i = some ds) (hι : ι i = some (b, sz))
    (hw : SameS w w') (hsz : w.heap.size ≤ w'.heap.size) (hfr : ∀ c, c < w.heap.size → c ≠ b → w'.heap[c]? = w.heap[c]?)
    (hb' : w'.heap[b']? = some (.cells arr' e fr)) (hloc : (b' = b ∧ arr'.size = sz) ∨ (w.heap.size ≤ b' ∧ ds.length < ds'.length)) (hlen : ds.length ≤ ds'.length)
    (hfit : ds'.length ≤ arr'.size) (hfz : fr.1 = fr.2 ∨ arr'.size ≤ fr.1) (hone : ∀ j, j < arr'.size → (arr'.getD j undef).oneCell' = true)
    (hcell : ∀ d, d ∈ ds' → isCell d = true) (hrep : ∀ (j : Nat) d, ds'[j]? = some d → Rep ok w ι H d (arr'.getD j undef)) :
    ∃ ι', Sim X ok w' ι' (hset H i ds') ∧ Evol H.length ok w ι H ok w' ι' (hset H i ds') ∧ ι' i = some (b', arr'.size) := by
  have hi := hget_lt hd
  have hnb : ¬ ok b := by
    intro hb
    exact hs.notOwn hb i ds sz hd hι
  refine ⟨fun k => if k = i then some (b', arr'.size) else ι k, ?_⟩
  have hev : Evol H.length ok w ι H ok w' (fun k => if k = i then some (b', arr'.size) else ι k) (hset H i ds') := by
    refine ⟨hw.1, hw.2.1, hw.2.2, hsz, ?_, fun _ h => h, fun _ h _ => .inl h, ⟨Nat.le_refl _, by rw [length_hset]; exact Nat.le_refl _⟩, ?_, ?_⟩
    · intro c hc hno
      exact hfr c hc (fun e => hno i ds sz hd (by rw [hι, e]))
    · intro k hk es he
      by_cases hki : k = i
      · subst hki
        rw [hget_hset_same hi] at he
        injection he with he
        subst he
        refine ⟨ds, hd, hlen, fun heq => ?_⟩
        rcases hloc with ⟨h1, h2⟩ | ⟨_, h2⟩
        · simp only [if_true, h1, h2, hι]
        · omega
      · rw [hget_hset_other hki] at he
        exact ⟨es, he, Nat.le_refl _, fun _ => by simp [hki]⟩
    · intro k es c s he hk hc
      by_cases hki : k = i
      · subst hki
        simp only [if_true, Option.some.injEq, Prod.mk.injEq] at hk
        rcases hloc with ⟨h1, h2⟩ | ⟨h1, _⟩
        · exact ⟨k, ds, sz, hd, by rw [hι, ← hk.1, h1]⟩
        · omega
      · rw [hget_hset_other hki] at he
        simp only [hki, if_false] at hk
        exact ⟨k, es, s, he, hk⟩
  refine ⟨⟨fun c hc => Nat.lt_of_lt_of_le (hs.okS c hc) hsz, ?_, ?_, ?_⟩, hev, by simp⟩
  · intro g cs hg
    have h := (hs.glob g cs hg).lift (ι := ι) (H := H)
    have h2 := h.evol hs hev rfl
    exact h2.free rfl _ _
  · intro p q es fs c s s' hp hq hιp hιq
    have old : ∀ k, k ≠ i → ∀ es c s, hget H k = some es → ι k = some (c, s) → c ≠ b' := by
      intro k hk es c s he hc heq
      rcases hloc with ⟨h1, _⟩ | ⟨h1, _⟩
      · exact hk (hs.inj k i es ds c s sz he hd hc (by rw [hι, heq, h1]))
      · have := hs.lt he hc; omega
    by_cases hpi : p = i <;> by_cases hqi : q = i
    · rw [hpi, hqi]
    · subst hpi
      rw [hget_hset_other hqi] at hq
      simp only [if_true, hqi, if_false, Option.some.injEq, Prod.mk.injEq] at hιp hιq
      exact absurd hιp.1.symm (old q hqi fs c s' hq hιq)
    · subst hqi
      rw [hget_hset_other hpi] at hp
      simp only [if_true, hpi, if_false, Option.some.injEq, Prod.mk.injEq] at hιp hιq
      exact absurd hιq.1.symm (old p hpi es c s hp hιp)
    · rw [hget_hset_other hpi] at hp
      rw [hget_hset_other hqi] at hq
      simp only [hpi, hqi, if_false] at hιp hιq
      exact hs.inj p q es fs c s s' hp hq hιp hιq
  · intro k es he
    by_cases hki : k = i
    · subst hki
      rw [hget_hset_same hi] at he
      injection he with he
      subst he
      refine ⟨b', arr', e, fr, by simp, ?_, hb', hfit, hfz, hone, hcell, fun j d hj => (hrep j d hj).evol hs hev (hrep j d hj).closed⟩
      rcases hloc with ⟨h1, _⟩ | ⟨h1, _⟩
      · rw [h1]; exact hnb
      · intro h; have := hs.okS _ h; omega
    · rw [hget_hset_other hki] at he
      obtain ⟨c, arr, e2, fr2, h1, h2, h3, h4, h5, h6, h7, h8⟩ := hs.blk k es he
      refine ⟨c, arr, e2, fr2, by simp [hki, h1], h2, ?_, h4, h5, h6, h7, fun j d hj => (h8 j d hj).evol hs hev (h8 j d hj).closed⟩
      rw [hfr c (hs.lt he h1)]
      · exact h3
      · rintro rfl
        exact hki (hs.inj k i es ds c arr.size sz he hd h1 hι)

theorem step_new {ds : List D} {b' : Nat} {arr : Array Value} {e : TypeId} {fr : Nat × Nat} (hs : Sim X ok w ι H)
    (hw : SameS w w') (hsz : w.heap.size ≤ w'.heap.size) (hfr : ∀ c, c < w.heap.size → w'.heap[c]? = w.heap[c]?)
    (hb' : w'.heap[b']? = some (.cells arr e fr)) (hloc : w.heap.size ≤ b')
    (hfit : ds.length ≤ arr.size) (hfz : fr.1 = fr.2 ∨ arr.size ≤ fr.1) (hone : ∀ j, j < arr.size → (arr.getD j undef).oneCell' = true)
    (hcell : ∀ d, d ∈ ds → isCell d = true) (hrep : ∀ (j : Nat) d, ds[j]? = some d → Rep ok w ι H d (arr.getD j undef)) :
    ∃ ι', Sim X ok w' ι' (newBlk H ds) ∧ Evol H.length ok w ι H ok w' ι' (newBlk H ds) ∧ ι' H.length = some (b', arr.size) := by
  refine ⟨fun k => if k = H.length then some (b', arr.size) else ι k, ?_⟩
  have hev : Evol H.length ok w ι H ok w' (fun k => if k = H.length then some (b', arr.size) else ι k) (newBlk H ds) := by
    refine ⟨hw.1, hw.2.1, hw.2.2, hsz, fun c hc _ => hfr c hc, fun _ h => h, fun _ h _ => .inl h, ⟨Nat.le_refl _, by rw [length_newBlk]; omega⟩, ?_, ?_⟩
    · intro k hk es he
      rw [hget_newBlk_lt hk] at he
      exact ⟨es, he, Nat.le_refl _, fun _ => by simp [Nat.ne_of_lt hk]⟩
    · intro k es c s he hk hc
      by_cases hki : k = H.length
      · subst hki
        simp only [if_true, Option.some.injEq, Prod.mk.injEq] at hk
        omega
      · have hlt : k < H.length := by
          have := hget_lt he
          rw [length_newBlk] at this
          omega
        rw [hget_newBlk_lt hlt] at he
        simp only [hki, if_false] at hk
        exact ⟨k, es, s, he, hk⟩
  have split : ∀ k es, hget (newBlk H ds) k = some es → (k = H.length ∧ es = ds) ∨ (k < H.length ∧ hget H k = some es) := by
    intro k es he
    by_cases hki : k = H.length
    · subst hki
      rw [hget_newBlk_same] at he
      injection he with he
      exact .inl ⟨rfl, he.symm⟩
    · have hlt : k < H.length := by
        have := hget_lt he
        rw [length_newBlk] at this
        omega
      rw [hget_newBlk_lt hlt] at he
      exact .inr ⟨hlt, he⟩
  refine ⟨⟨fun c hc => Nat.lt_of_lt_of_le (hs.okS c hc) hsz, ?_, ?_, ?_⟩, hev, by simp⟩
  · intro g cs hg
    have h := (hs.glob g cs hg).lift (ι := ι) (H := H)
    have h2 := h.evol hs hev rfl
    exact h2.free rfl _ _
  · intro p q es fs c s s' hp hq hιp hιq
    rcases split p es hp with ⟨rfl, _⟩ | ⟨hp1, hp2⟩ <;> rcases split q fs hq with ⟨rfl, _⟩ | ⟨hq1, hq2⟩
    · rfl
    · simp only [if_true, Nat.ne_of_lt hq1, if_false, Option.some.injEq, Prod.mk.injEq] at hιp hιq
      have := hs.lt hq2 hιq
      omega
    · simp only [if_true, Nat.ne_of_lt hp1, if_false, Option.some.injEq, Prod.mk.injEq] at hιp hιq
      have := hs.lt hp2 hιp
      omega
    · simp only [Nat.ne_of_lt hp1, Nat.ne_of_lt hq1, if_false] at hιp hιq
      exact hs.inj p q es fs c s s' hp2 hq2 hιp hιq
  · intro k es he
    rcases split k es he with ⟨rfl, rfl⟩ | ⟨hk, he⟩
    · exact ⟨b', arr, e, fr, by simp, fun h => by have := hs.okS _ h; omega, hb', hfit, hfz, hone, hcell, fun j d hj => (hrep j d hj).evol hs hev (hrep j d hj).closed⟩
    · obtain ⟨c, arr2, e2, fr2, h1, h2, h3, h4, h5, h6, h7, h8⟩ := hs.blk k es he
      refine ⟨c, arr2, e2, fr2, by simp [Nat.ne_of_lt hk, h1], h2, ?_, h4, h5, h6, h7, fun j d hj => (h8 j d hj).evol hs hev (h8 j d hj).closed⟩
      rw [hfr c (hs.lt he h1)]
      exact h3

/-- A step that turns nothing that is told of: a draw. -/
theorem step_same (hs : Sim X ok w ι H) (hw : SameS w w') (hh : w'.heap = w.heap) : Sim X ok w' ι H ∧ Evol H.length ok w ι H ok w' ι H := by
  have hev : Evol H.length ok w ι H ok w' ι H :=
    ⟨hw.1, hw.2.1, hw.2.2, by rw [hh]; exact Nat.le_refl _, fun _ _ _ => by rw [hh], fun _ h => h, fun _ h _ => .inl h, ⟨Nat.le_refl _, Nat.le_refl _⟩, fun _ _ ds hd => ⟨ds, hd, Nat.le_refl _, fun _ => rfl⟩,
      fun i ds _ s hd hi _ => ⟨i, ds, s, hd, hi⟩⟩
  refine ⟨⟨fun c hc => by rw [hh]; exact hs.okS c hc, fun g cs hg => ?_, hs.inj, fun k es he => ?_⟩, hev⟩
  · have h := (hs.glob g cs hg).lift (ι := ι) (H := H)
    exact (h.evol hs hev rfl).free rfl _ _
  · obtain ⟨c, arr2, e2, fr2, h1, h2, h3, h4, h5, h6, h7, h8⟩ := hs.blk k es he
    exact ⟨c, arr2, e2, fr2, h1, h2, by rw [hh]; exact h3, h4, h5, h6, h7, fun j d hj => (h8 j d hj).evol hs hev (h8 j d hj).closed⟩

theorem addr_add (b o j : Nat) : (⟨b, o, none⟩ : Addr).add j = ⟨b, o + j, none⟩ := by
  unfold Addr.add
  split
  · simp_all
  · rfl
theorem addr_add_add (a : Addr) (i j : Nat) : (a.add i).add j = a.add (i + j) := by
  unfold Addr.add
  by_cases hi : i = 0 <;> by_cases hj : j = 0 <;> simp [hi, hj, Nat.add_assoc]

/-- What lies from a place on is read so. -/
theorem mem_read {p : D} {cs : List D} {a : Addr} (hs : Sim X ok w ι H) (hp : Rep ok w ι H p (.pointer (some a))) (hm : mem H p = some cs) :
    (∀ d, d ∈ cs → isCell d = true) ∧ ∃ f : Nat → Value, ∀ (j : Nat) d, cs[j]? = some d → w.cell? (a.add j) = some (f j) ∧ Rep ok w ι H d (f j) := by
  cases hp with
  | raw v => simp [mem] at hm
  | vptr a f ha hc hr h =>
    simp only [mem, Option.some.injEq] at hm
    subst hm
    exact ⟨hc, f, fun j d hj => ⟨hr j d hj, (h j d hj).lift⟩⟩
  | optr a hi h =>
    rename_i i st off
    simp only [mem] at hm
    split at hm
    · rename_i ds hd
      split at hm
      · rename_i hst
        injection hm with hm
        subst hm
        obtain ⟨b, s, h1, rfl⟩ := (h ds hd).2 hst
        obtain ⟨b', arr, e, fr, k1, k2, k3, k4, k5, k6, k7, k8⟩ := hs.blk i ds hd
        rw [h1] at k1
        injection k1 with k1
        injection k1 with k1 _
        subst k1
        refine ⟨fun d hd => k7 d (List.mem_of_mem_drop hd), fun j => arr.getD (off + j) undef, fun j d hj => ?_⟩
        rw [List.getElem?_drop] at hj
        refine ⟨?_, k8 _ d hj⟩
        have hlt : off + j < arr.size := Nat.lt_of_lt_of_le (List.getElem?_eq_some_iff.1 hj).1 k4
        rw [addr_add]
        simp [World.cell?, k3, hlt]
      · cases hm
    · cases hm

theorem isAgg_run {t : TypeId} {q : Bool} (h : aggQ P t = some q) (w : World) : (isAgg t).run P w = .ok q w := by
  unfold aggQ at h
  unfold isAgg
  rw [Sem.run_bind]
  cases hu : P.underlying t with
  | none => simp [hu] at h
  | some d => rw [run_underlying hu w]; cases d <;> simp_all

theorem info_of_underlying {t : TypeId} {d : TypeDesc} (h : P.underlying t = some d) : ∃ i, P.info? t = some i := by
  cases hi : P.info? t with
  | some i => exact ⟨i, rfl⟩
  | none =>
    unfold Program.underlying at h
    rw [hi] at h
    simp at h

end
end Go.Ev
/-
  Each operation on data is what the operation does.
-/
namespace Go.Ev

section
variable {X : Cx} {P : Program} {ok : Nat → Prop} {w w' : World} {ι : Iota} {H H' : Heap}

theorem sizeOf_run {t : TypeId} (h : 0 < szOf P t) (w : World) : (sizeOf t).run P w = .ok (szOf P t) w := by
  unfold szOf at h ⊢
  cases hi : P.info? t with
  | none => simp [hi] at h
  | some i => simp [sizeOf, typeInfo, hi]

theorem sizeOf_run' {t : TypeId} {d : TypeDesc} (h : P.underlying t = some d) (w : World) : (sizeOf t).run P w = .ok (szOf P t) w := by
  obtain ⟨i, hi⟩ := info_of_underlying h
  simp [sizeOf, typeInfo, hi, szOf]

theorem info_sz {t : TypeId} (h : 0 < szOf P t) : ∃ i, P.info? t = some i ∧ i.size = szOf P t ∧ i.bytes = bytesOf P t := by
  unfold szOf bytesOf at *
  cases hi : P.info? t with
  | none => simp [hi] at h
  | some i => exact ⟨i, rfl, by simp, by simp⟩

theorem ofVal1_rep {v : Value} {d : D} (h : ofVal1 v = some d) : Rep ok w ι H d v := by
  unfold ofVal1 at h
  split at h <;> cases h
  · exact .bool _
  · exact .int _ _
  · rename_i s
    have : s = ⟨s.data.toList.toArray⟩ := by simp
    rw [this]
    exact .str _
  · exact .nilp
  · exact .vnil
  · exact .nilf
  · exact .nili

theorem ofVal1_cell {v : Value} {d : D} (h : ofVal1 v = some d) : isCell d = true := by
  unfold ofVal1 at h
  split at h <;> cases h <;> rfl

theorem ofVals_rep : ∀ {l : List Value} {ds : List D}, ofVals l = some ds → l.length = ds.length ∧ (∀ d, d ∈ ds → isCell d = true) ∧ ∀ (j : Nat) d, ds[j]? = some d → Rep ok w ι H d (l.getD j undef)
  | [], ds, h => by
    simp only [ofVals, Option.some.injEq] at h
    subst h
    simp
  | v :: l, ds, h => by
    simp only [ofVals] at h
    split at h
    · rename_i d ds' h1 h2
      injection h with h
      subst h
      obtain ⟨k1, k2, k3⟩ := ofVals_rep h2
      refine ⟨by simp [k1], ?_, ?_⟩
      · intro x hx
        rcases List.mem_cons.1 hx with rfl | hx
        · exact ofVal1_cell h1
        · exact k2 x hx
      · intro j x hx
        cases j with
        | zero =>
          simp only [List.getElem?_cons_zero, Option.some.injEq] at hx
          subst hx
          exact ofVal1_rep h1
        | succ j => exact k3 j x (by simpa using hx)
    · cases h

theorem ofVal_rep {v : Value} {d : D} (h : ofVal v = some d) : Rep ok w ι H d v := by
  unfold ofVal at h
  split at h
  · rename_i cs
    cases hv : ofVals cs.toList with
    | none => simp [hv] at h
    | some ds =>
      simp only [hv, Option.map_some, Option.some.injEq] at h
      subst h
      obtain ⟨k1, k2, k3⟩ := ofVals_rep (ok := ok) (w := w) (ι := ι) (H := H) hv
      refine .agg (by simpa using k1) k2 fun j d hj => ?_
      have := k3 j d hj
      simpa [Array.getD_eq_getD_getElem?, List.getD_eq_getElem?_getD] using this
  · exact ofVal1_rep h

theorem opd_rep (hs : Sim X ok w ι H) {e : Env} {a : Act} (he : EnvRep ok w ι H e a.tmps) {x : Operand} {d : D} (h : opd X e x = some d) : Rep ok w ι H d (a.eval x) := by
  cases x with
  | tmp t => exact (he t d h).2
  | const v => exact ofVal_rep h
  | func f =>
    simp only [opd, Option.some.injEq] at h
    subst h
    exact .fn rfl (by simp)
  | global g =>
    simp only [opd] at h
    cases hg : X.glob g with
    | none => simp [hg] at h
    | some cs =>
      simp only [hg, Option.map_some, Option.some.injEq] at h
      subst h
      exact (hs.glob g cs hg).lift

theorem opds_rep (hs : Sim X ok w ι H) {e : Env} {a : Act} (he : EnvRep ok w ι H e a.tmps) : ∀ {l : List Operand} {ds : List D}, opds X e l = some ds → RepL ok w ι H ds (l.map a.eval)
  | [], ds, h => by
    simp only [opds, Option.some.injEq] at h
    subst h
    exact ⟨rfl, by simp⟩
  | x :: l, ds, h => by
    simp only [opds] at h
    split at h
    · rename_i d ds' h1 h2
      injection h with h
      subst h
      obtain ⟨k1, k2⟩ := opds_rep hs he h2
      refine ⟨by simpa using k1, fun j x hx => ?_⟩
      cases j with
      | zero =>
        simp only [List.getElem?_cons_zero, Option.some.injEq] at hx
        subst hx
        exact opd_rep hs he h1
      | succ j => exact k2 j x (by simpa using hx)
    · cases h

/-- What an operation leaves. -/
def Post (X : Cx) (n : Nat) (ok : Nat → Prop) (w : World) (ι : Iota) (H : Heap) (d : D) (H' : Heap) (v : Value) (w' : World) : Prop :=
  ∃ ι' ok', Sim X ok' w' ι' H' ∧ Rep ok' w' ι' H' d v ∧ Evol n ok w ι H ok' w' ι' H'

theorem Post.same (hs : Sim X ok w ι H) {d : D} {v : Value} (h : Rep ok w ι H d v) : Post X H.length ok w ι H d H v w :=
  ⟨ι, ok, hs, h, .refl _ (Nat.le_refl _)⟩

theorem cellsOf_rep {d : D} {v : Value} {cs : List D} (h : Rep ok w ι H d v) (hc : cellsOf d = some cs) :
    v.cells.size = cs.length ∧ (∀ d, d ∈ cs → isCell d = true) ∧ ∀ (j : Nat) d, cs[j]? = some d → Rep ok w ι H d (v.cells.getD j undef) := by
  have one : ∀ {d : D} {v : Value}, Rep ok w ι H d v → isCell d = true → v.cells = #[v] → (#[v] : Array Value).size = [d].length ∧ (∀ x, x ∈ [d] → isCell x = true) ∧ ∀ (j : Nat) x, [d][j]? = some x → Rep ok w ι H x ((#[v] : Array Value).getD j undef) := by
    intro d v h hd _
    refine ⟨rfl, by simpa using hd, fun j x hx => ?_⟩
    cases j with
    | zero =>
      simp only [List.getElem?_cons_zero, Option.some.injEq] at hx
      subst hx
      exact h
    | succ j => simp at hx
  cases h with
  | agg hl hcs h =>
    simp only [cellsOf, Option.some.injEq] at hc
    subst hc
    exact ⟨hl, hcs, h⟩
  | tup hl h => simp [cellsOf] at hc
  | raw v => simp [cellsOf] at hc
  | bool b => simp only [cellsOf, Option.some.injEq] at hc; subst hc; exact one (.bool b) rfl rfl
  | int k n => simp only [cellsOf, Option.some.injEq] at hc; subst hc; exact one (.int k n) rfl rfl
  | str s => simp only [cellsOf, Option.some.injEq] at hc; subst hc; exact one (.str s) rfl rfl
  | nilp => simp only [cellsOf, Option.some.injEq] at hc; subst hc; exact one .nilp rfl rfl
  | nilf => simp only [cellsOf, Option.some.injEq] at hc; subst hc; exact one .nilf rfl rfl
  | nili => simp only [cellsOf, Option.some.injEq] at hc; subst hc; exact one .nili rfl rfl
  | vptr a f ha hc1 hr h => simp only [cellsOf, Option.some.injEq] at hc; subst hc; exact one (.vptr a f ha hc1 hr h) rfl rfl
  | optr a hi h => simp only [cellsOf, Option.some.injEq] at hc; subst hc; exact one (.optr a hi h) rfl rfl
  | vnil => simp only [cellsOf, Option.some.injEq] at hc; subst hc; exact one .vnil rfl rfl
  | vsl a f ha hc1 hr h hlc => simp only [cellsOf, Option.some.injEq] at hc; subst hc; exact one (.vsl a f ha hc1 hr h hlc) rfl rfl
  | osl a hi h hlc => simp only [cellsOf, Option.some.injEq] at hc; subst hc; exact one (.osl a hi h hlc) rfl rfl
  | fn hl h => simp only [cellsOf, Option.some.injEq] at hc; subst hc; exact one (.fn hl h) rfl rfl
  | iface h => simp only [cellsOf, Option.some.injEq] at hc; subst hc; exact one (.iface h) rfl rfl

theorem Rep.ptr {p : D} {v : Value} {cs : List D} (h : Rep ok w ι H p v) (hm : mem H p = some cs) : ∃ a, v = .pointer (some a) := by
  cases h <;> first | (simp [mem] at hm; done) | exact ⟨_, rfl⟩

theorem getD_range_map {f : Nat → Value} {n j : Nat} (h : j < n) : (((List.range n).map f).toArray).getD j undef = f j := by
  simp [h]

theorem load_run {p d : D} {pv : Value} {t : TypeId} (hs : Sim X ok w ι H) (hp : Rep ok w ι H p pv) (h : ldD P H t p = some d) :
    ∃ v, (Instr.loadAt t pv).run P w = .ok v w ∧ Rep ok w ι H d v := by
  unfold ldD at h
  split at h
  · rename_i cs hq hm
    split at h
    · rename_i hle
      injection h with h
      subst h
      obtain ⟨a, rfl⟩ := hp.ptr hm
      obtain ⟨hc, f, hf⟩ := mem_read hs hp hm
      have hlt : ∀ j, j < szOf P t → ∃ d, cs[j]? = some d := fun j hj => ⟨cs[j], List.getElem?_eq_getElem (by omega)⟩
      have hl := run_loadCells (P := P) w a (szOf P t) f (fun j hj => by
        obtain ⟨d, hd⟩ := hlt j hj
        exact (hf j d hd).1)
      have hu : ∃ dsc, P.underlying t = some dsc := by
        unfold aggQ at hq
        cases hu : P.underlying t with
        | none => simp [hu] at hq
        | some x => exact ⟨x, rfl⟩
      obtain ⟨dsc, hu⟩ := hu
      refine ⟨.agg ((List.range (szOf P t)).map f).toArray, ?_, ?_⟩
      · simp [Instr.loadAt, Instr.sureAddr, loadVar, isAgg_run hq, sizeOf_run' hu, hl]
      · refine .agg (by simp; omega) (fun d hd => hc d (List.mem_of_mem_take hd)) fun j d hj => ?_
        rw [List.getElem?_take] at hj
        split at hj
        · rename_i hjl
          rw [getD_range_map hjl]
          exact (hf j d hj).2
        · cases hj
    · cases h
  · rename_i d' rest hq hm
    injection h with h
    subst h
    obtain ⟨a, rfl⟩ := hp.ptr hm
    obtain ⟨hc, f, hf⟩ := mem_read hs hp hm
    obtain ⟨h1, h2⟩ := hf 0 d' rfl
    refine ⟨f 0, ?_, h2⟩
    have : a.add 0 = a := rfl
    rw [this] at h1
    simp [Instr.loadAt, Instr.sureAddr, loadVar, isAgg_run hq, h1]
  · cases h

theorem cell_of_heap {b o : Nat} {arr : Array Value} {e : TypeId} {fr : Nat × Nat} (h : w.heap[b]? = some (.cells arr e fr)) : w.cell? ⟨b, o, none⟩ = arr[o]? := by
  simp [World.cell?, h]
theorem frozen_of_heap {b o : Nat} {arr : Array Value} {e : TypeId} {fr : Nat × Nat} (h : w.heap[b]? = some (.cells arr e fr)) : w.frozen? ⟨b, o, none⟩ = (decide (fr.1 ≤ o) && decide (o < fr.2)) := by
  simp [World.frozen?, h]

/-- Cells stored one behind the other into a block. -/
theorem storeCells_run (b o : Nat) (e : TypeId) (fr : Nat × Nat) : ∀ (vs : List Value) (i : Nat) (arr : Array Value) (w : World), w.heap[b]? = some (.cells arr e fr) → o + i + vs.length ≤ arr.size →
    (∀ v, v ∈ vs → v.oneCell' = true) → (∀ j, j < arr.size → ¬ (fr.1 ≤ j ∧ j < fr.2)) →
    ∃ w' arr', (storeCells ⟨b, o, none⟩ vs i).run P w = .ok () w' ∧ SameS w w' ∧ w'.heap.size = w.heap.size ∧ (∀ c, c ≠ b → w'.heap[c]? = w.heap[c]?) ∧ w'.heap[b]? = some (.cells arr' e fr) ∧ arr'.size = arr.size ∧
      ∀ j, arr'[j]? = if o + i ≤ j ∧ j < o + i + vs.length then vs[j - (o + i)]? else arr[j]?
  | [], i, arr, w, hb, hl, h1, hz => by
    refine ⟨w, arr, rfl, ⟨rfl, rfl, rfl⟩, rfl, fun _ _ => rfl, hb, rfl, fun j => ?_⟩
    rw [if_neg (by simp)]
  | v :: vs, i, arr, w, hb, hl, h1, hz => by
    simp only [List.length_cons] at hl
    have hlt : o + i < arr.size := by omega
    have hcell : w.cell? ⟨b, o + i, none⟩ = some arr[o + i] := by rw [cell_of_heap hb]; simp [hlt]
    have hfz : w.frozen? ⟨b, o + i, none⟩ = false := by
      rw [frozen_of_heap hb]
      have := hz _ hlt
      simp only [Bool.and_eq_false_iff, decide_eq_false_iff_not]
      omega
    have hb2 : (w.setCell ⟨b, o + i, none⟩ v).heap[b]? = some (.cells (arr.setIfInBounds (o + i) v) e fr) := by
      simp [World.setCell, Array.getElem?_modify, hb]
    obtain ⟨w', arr', k1, k2, k3, k4, k5, k6, k7⟩ := storeCells_run b o e fr vs (i + 1) (arr.setIfInBounds (o + i) v) (w.setCell ⟨b, o + i, none⟩ v) hb2 (by simp; omega)
      (fun u hu => h1 u (List.mem_cons_of_mem _ hu)) (by simpa using hz)
    refine ⟨w', arr', ?_, ⟨k2.1, k2.2.1, k2.2.2⟩, by simpa [World.setCell] using k3, ?_, k5, by simpa using k6, ?_⟩
    · simp only [storeCells, Sem.run_bind, addr_add, run_store P w _ v .plain (h1 v (List.mem_cons_self ..)), hcell, hfz, Bool.false_eq_true, if_false, Result.andThen_ok]
      exact k1
    · intro c hc
      rw [k4 c hc]
      simp [World.setCell, Array.getElem?_modify, Ne.symm hc]
    · intro j
      rw [k7 j]
      simp only [List.length_cons]
      by_cases hj : j = o + i
      · subst hj
        rw [if_neg (by omega), if_pos (by omega)]
        simp [hlt]
      · by_cases hr : o + (i + 1) ≤ j ∧ j < o + (i + 1) + vs.length
        · rw [if_pos hr, if_pos (by omega)]
          have : j - (o + i) = (j - (o + (i + 1))) + 1 := by omega
          rw [this, List.getElem?_cons_succ]
        · rw [if_neg hr, if_neg (by omega)]
          rw [Array.getElem?_setIfInBounds_ne (by omega)]

theorem setRange_length {ds xs : List D} {off : Nat} (h : off + xs.length ≤ ds.length) : (setRange ds off xs).length = ds.length := by
  simp [setRange]; omega

theorem setRange_get {ds xs : List D} {off : Nat} (h : off + xs.length ≤ ds.length) (j : Nat) : (setRange ds off xs)[j]? = if off ≤ j ∧ j < off + xs.length then xs[j - off]? else ds[j]? := by
  unfold setRange
  have hl : (ds.take off).length = off := by simp; omega
  by_cases h1 : j < off
  · rw [if_neg (by omega), List.append_assoc, List.getElem?_append_left (by omega), List.getElem?_take, if_pos h1]
  · by_cases h2 : j < off + xs.length
    · rw [if_pos (by omega), List.append_assoc, List.getElem?_append_right (by omega), List.getElem?_append_left (by omega), hl]
    · rw [if_neg (by omega), List.getElem?_append_right (by simp; omega), List.getElem?_drop]
      congr 1
      simp
      omega

theorem mem_setRange {ds xs : List D} {off : Nat} {d : D} (h : d ∈ setRange ds off xs) : d ∈ ds ∨ d ∈ xs := by
  unfold setRange at h
  simp only [List.mem_append] at h
  rcases h with (h | h) | h
  · exact .inl (List.mem_of_mem_take h)
  · exact .inr h
  · exact .inl (List.mem_of_mem_drop h)

/-- A range of a block of the run's own is written. -/
theorem write_run {i st off b sz : Nat} {ds xs : List D} {vs : List Value} {a : Addr} (hs : Sim X ok w ι H) (hd : hget H i = some ds) (_hst : ds.length = st) (hι : ι i = some (b, sz)) (ha : a = ⟨b, off, none⟩)
    (hle : off + xs.length ≤ ds.length) (hl : vs.length = xs.length) (hc : ∀ d, d ∈ xs → isCell d = true) (hx : ∀ (j : Nat) d, xs[j]? = some d → Rep ok w ι H d (vs.getD j undef)) :
    ∃ w' ι', (storeCells a vs).run P w = .ok () w' ∧ Sim X ok w' ι' (hset H i (setRange ds off xs)) ∧ Evol H.length ok w ι H ok w' ι' (hset H i (setRange ds off xs)) := by
  obtain ⟨b', arr, e, fr, k1, k2, k3, k4, k5, k6, k7, k8⟩ := hs.blk i ds hd
  rw [hι] at k1
  injection k1 with k1
  injection k1 with k1 k1'
  subst k1
  subst ha
  have hone : ∀ v, v ∈ vs → v.oneCell' = true := by
    intro v hv
    obtain ⟨j, hj⟩ := List.mem_iff_getElem?.1 hv
    have hjl : j < vs.length := (List.getElem?_eq_some_iff.1 hj).1
    have hxj : xs[j]? = some (xs[j]'(by omega)) := List.getElem?_eq_getElem (by omega)
    have h := hx j _ hxj
    rw [List.getD_eq_getElem?_getD, hj] at h
    exact h.oneCell (hc _ (mem_of_get? hxj))
  obtain ⟨w', arr', q1, q2, q3, q4, q5, q6, q7⟩ := storeCells_run (P := P) b off e fr vs 0 arr w k3 (by omega) hone (fz_of k5)
  have hget : ∀ j, j < arr.size → arr'.getD j undef = if off ≤ j ∧ j < off + xs.length then vs.getD (j - off) undef else arr.getD j undef := by
    intro j hj
    simp only [Array.getD_eq_getD_getElem?, q7 j, List.getD_eq_getElem?_getD, Nat.add_zero, hl]
    split <;> rfl
  obtain ⟨ι', r1, r2, r3⟩ := step_set (i := i) (ds := ds) (ds' := setRange ds off xs) (b := b) (sz := sz) (b' := b) (arr' := arr') (e := e) (fr := fr) (w' := w') hs hd hι q2 (by omega) (fun c _ hc => q4 c hc) q5 (.inl ⟨rfl, by omega⟩)
    (by rw [setRange_length hle]; exact Nat.le_refl _) (by rw [setRange_length hle]; omega) (by rw [q6]; exact k5)
    (by
      intro j hj
      rw [q6] at hj
      rw [hget j hj]
      by_cases hr : off ≤ j ∧ j < off + xs.length
      · rw [if_pos hr]
        have : j - off < vs.length := by omega
        rw [List.getD_eq_getElem?_getD, List.getElem?_eq_getElem this]
        exact hone _ (List.getElem_mem this)
      · rw [if_neg hr]
        exact k6 j hj)
    (by
      intro d hd'
      rcases mem_setRange hd' with h | h
      · exact k7 d h
      · exact hc d h)
    (by
      intro j d hj
      have hjl : j < ds.length := by
        have := (List.getElem?_eq_some_iff.1 hj).1
        rwa [setRange_length hle] at this
      rw [hget j (by omega)]
      rw [setRange_get hle] at hj
      split at hj
      · rename_i hr
        rw [if_pos hr]
        exact hx _ d hj
      · rename_i hr
        rw [if_neg hr]
        exact k8 j d hj)
  exact ⟨w', ι', q1, r1, r2⟩

theorem store_run {p x : D} {pv xv : Value} {t : TypeId} (hs : Sim X ok w ι H) (hp : Rep ok w ι H p pv) (hx : Rep ok w ι H x xv) (h : stD P H t p x = some H') :
    ∃ w' ι', (Instr.storeAt t pv xv).run P w = .ok () w' ∧ Sim X ok w' ι' H' ∧ Evol H.length ok w ι H ok w' ι' H' := by
  unfold stD at h
  split at h
  · rename_i i st off xs hcs
    split at h
    · rename_i ds hd
      split at h
      · rename_i hcond
        obtain ⟨h1, h2, h3, h4, _⟩ := hcond
        injection h with h
        subst h
        cases hp with
        | optr a hi hh =>
          obtain ⟨b, s, hι, rfl⟩ := (hh ds hd).2 h1
          obtain ⟨c1, c2, c3⟩ := cellsOf_rep hx hcs
          obtain ⟨w', ι', q1, q2, q3⟩ := write_run (P := P) (vs := xv.cells.toList) hs hd h1 hι rfl h4 (by simpa using c1) c2 (fun j d hj => by
            have := c3 j d hj
            simpa [Array.getD_eq_getD_getElem?, List.getD_eq_getElem?_getD] using this)
          refine ⟨w', ι', ?_, q2, q3⟩
          simp [Instr.storeAt, Instr.sureAddr, storeVar, sizeOf_run h3, c1, h2, q1]
      · cases h
    · cases h
  · cases h

end
end Go.Ev
/-
  Each operation on data is what the operation does: places, parts, numbers.
-/
namespace Go.Ev

section
variable {X : Cx} {P : Program} {ok : Nat → Prop} {w w' : World} {ι : Iota} {H H' : Heap}

theorem ptrAdd_rep {p p' : D} {v : Value} {k : Nat} (hp : Rep ok w ι H p v) (h : ptrAdd k p = some p') : ∃ a, v = .pointer (some a) ∧ Rep ok w ι H p' (.pointer (some (a.add k))) := by
  cases hp <;> simp only [ptrAdd, reduceCtorEq] at h
  · rename_i ds a f ha hc hr hh
    injection h with h
    subst h
    refine ⟨a, rfl, .vptr (a.add k) (fun j => f (k + j)) (fun d hd => by rw [add_block]; exact ha d (List.mem_of_mem_drop hd)) (fun d hd => hc d (List.mem_of_mem_drop hd)) (fun j d hj => ?_) (fun j d hj => ?_)⟩
    · rw [addr_add_add]
      exact hr _ d (by simpa [List.getElem?_drop] using hj)
    · exact hh _ d (by simpa [List.getElem?_drop] using hj)
  · rename_i i st off a hi hh
    injection h with h
    subst h
    refine ⟨a, rfl, .optr _ hi fun ds hd => ⟨(hh ds hd).1, fun e => ?_⟩⟩
    obtain ⟨b, s, h1, rfl⟩ := (hh ds hd).2 e
    exact ⟨b, s, h1, addr_add _ _ _⟩

theorem fieldAt_run {s : TypeId} {p p' : D} {v : Value} {f : Nat} (hp : Rep ok w ι H p v) (h : fieldAddrD P s p f = some p') :
    ∃ v', (Instr.fieldAt s v f).run P w = .ok v' w ∧ Rep ok w ι H p' v' := by
  unfold fieldAddrD fieldOf at h
  cases hu : P.underlying s with
  | none => simp [hu] at h
  | some d =>
    cases d <;> simp only [hu, reduceCtorEq] at h
    rename_i fs
    cases hf : fs[f]? with
    | none => simp [hf] at h
    | some fd =>
      simp only [hf] at h
      split at h
      · cases h
      · rename_i hz
        obtain ⟨a, rfl, hr⟩ := ptrAdd_rep hp h
        refine ⟨_, ?_, hr⟩
        simp [Instr.fieldAt, run_underlying hu, hf, Instr.sureAddr, fieldPlace, sizeOf_run (Nat.pos_of_ne_zero hz), hz]

theorem indexAt_run {t : TypeId} {x i p' : D} {v iv : Value} (hx : Rep ok w ι H x v) (hi : Rep ok w ι H i iv) (h : indexAddrD P t x i = some p') :
    ∃ v', (Instr.indexAt t v iv).run P w = .ok v' w ∧ Rep ok w ι H p' v' := by
  unfold indexAddrD at h
  split at h
  · rename_i n e k i hu
    split at h
    · rename_i hc
      obtain ⟨a, rfl, hr⟩ := ptrAdd_rep hx h
      cases hi
      refine ⟨_, ?_, hr⟩
      simp [Instr.indexAt, asIntOf, run_underlying hu, Instr.sureAddr, hc.1, hc.2.1, sizeOf_run hc.2.2]
    · cases h
  · rename_i e cs len k i hu
    split at h
    · rename_i hc
      injection h with h
      subst h
      cases hi
      cases hx with
      | vsl a f ha hcc hr hh hlc =>
        refine ⟨.pointer (some (a.add (i.toNat * szOf P e))), ?_, .vptr _ (fun j => f (i.toNat * szOf P e + j)) (fun d hd => by rw [add_block]; exact ha d (List.mem_of_mem_drop hd)) (fun d hd => hcc d (List.mem_of_mem_drop hd)) (fun j d hj => ?_) (fun j d hj => ?_)⟩
        · simp [Instr.indexAt, asIntOf, run_underlying hu, hc.1, hc.2.1, sizeOf_run hc.2.2]
        · rw [addr_add_add]
          exact hr _ d (by simpa [List.getElem?_drop] using hj)
        · exact hh _ d (by simpa [List.getElem?_drop] using hj)
    · cases h
  · rename_i e id st off len k' k i hu
    split at h
    · rename_i hc
      injection h with h
      subst h
      cases hi
      cases hx with
      | osl a hi hh hlc =>
        refine ⟨.pointer (some (a.add (i.toNat * szOf P e))), ?_, .optr _ hi fun ds hd => ⟨(hh ds hd).1, fun e => ?_⟩⟩
        · simp [Instr.indexAt, asIntOf, run_underlying hu, hc.1, hc.2.1, sizeOf_run hc.2.2]
        · obtain ⟨b, s, h1, rfl, _⟩ := (hh ds hd).2 e
          exact ⟨b, s, h1, addr_add _ _ _⟩
    · cases h
  · cases h

theorem part_run {t : TypeId} {cs : List D} {vs : Array Value} {off : Nat} {d : D} (hx : Rep ok w ι H (.agg cs) (.agg vs)) (h : partD P t cs off = some d) :
    ∃ v, (part t vs off).run P w = .ok v w ∧ Rep ok w ι H d v := by
  cases hx with
  | agg hl hc hh =>
    unfold partD at h
    split at h
    · rename_i hq
      split at h
      · rename_i hle
        injection h with h
        subst h
        obtain ⟨dsc, hu⟩ : ∃ dsc, P.underlying t = some dsc := by
          unfold aggQ at hq
          cases hu : P.underlying t with
          | none => simp [hu] at hq
          | some x => exact ⟨x, rfl⟩
        refine ⟨.agg (vs.extract off (off + szOf P t)), by simp [part, isAgg_run hq, sizeOf_run' hu], ?_⟩
        refine .agg (by simp; omega) (fun d hd => hc d (List.mem_of_mem_drop (List.mem_of_mem_take hd))) fun j d hj => ?_
        rw [List.getElem?_take] at hj
        split at hj
        · rename_i hjl
          rw [List.getElem?_drop] at hj
          have := hh _ d hj
          rw [Array.getD_eq_getD_getElem?] at this ⊢
          rw [Array.getElem?_extract]
          rw [if_pos (by omega)]
          exact this
        · cases hj
      · cases h
    · rename_i hq
      have hlt : off < vs.size := by rw [hl]; exact (List.getElem?_eq_some_iff.1 h).1
      refine ⟨vs[off], by simp [part, isAgg_run hq, hlt], ?_⟩
      have := hh _ d h
      rw [Array.getD_eq_getD_getElem?, Array.getElem?_eq_getElem hlt] at this
      exact this
    · cases h

theorem field_run {s : TypeId} {x d : D} {v : Value} {f : Nat} (hx : Rep ok w ι H x v) (h : fieldD P s x f = some d) :
    ∃ v', (Instr.field s v f).run P w = .ok v' w ∧ Rep ok w ι H d v' := by
  unfold fieldD fieldOf at h
  cases hu : P.underlying s with
  | none => simp [hu] at h
  | some dd =>
    cases dd <;> simp only [hu, reduceCtorEq] at h
    rename_i fs
    cases hf : fs[f]? with
    | none => simp [hf] at h
    | some fd =>
      simp only [hf] at h
      cases hx <;> simp only [reduceCtorEq] at h
      rename_i ds vs hl hc hh
      obtain ⟨v', h1, h2⟩ := part_run (Rep.agg hl hc hh) h
      exact ⟨v', by simp [Instr.field, run_underlying hu, hf, asAgg, h1], h2⟩

theorem index_run {t : TypeId} {x i d : D} {v iv : Value} (hx : Rep ok w ι H x v) (hi : Rep ok w ι H i iv) (h : indexD P t x i = some d) :
    ∃ v', (Instr.index t v iv).run P w = .ok v' w ∧ Rep ok w ι H d v' := by
  unfold indexD at h
  split at h
  · rename_i n e cs k i hu
    split at h
    · rename_i hc
      cases hi
      cases hx with
      | agg hl hcc hh =>
        obtain ⟨v', h1, h2⟩ := part_run (Rep.agg hl hcc hh) h
        refine ⟨v', ?_, h2⟩
        have hz : (sizeOf e).run P w = .ok (szOf P e) w := by
          unfold partD aggQ at h
          cases hu : P.underlying e with
          | none => simp [hu] at h
          | some x => exact sizeOf_run' hu w
        simp [Instr.index, asIntOf, run_underlying hu, hc.1, hc.2, hz, h1]
    · cases h
  · rename_i s k i hu
    split at h
    · rename_i hc
      cases hi
      cases hx
      cases hb : s[i.toNat]? with
      | none => simp [hb] at h
      | some b =>
        simp only [hb, Option.map_some, Option.some.injEq] at h
        subst h
        have hlt : i.toNat < s.length := (List.getElem?_eq_some_iff.1 hb).1
        refine ⟨.int .u8 b.toNat, ?_, .int _ _⟩
        have hg : (⟨s.toArray⟩ : ByteArray)[i.toNat]? = some b := by
          have e1 : s[i.toNat] = b := (List.getElem?_eq_some_iff.1 hb).2
          rw [getElem?_pos (⟨s.toArray⟩ : ByteArray) i.toNat (by simpa [ByteArray.size] using hlt)]
          rw [← e1]
          rfl
        simp [Instr.index, asIntOf, run_underlying hu, hc, hg]
    · cases h
  · cases h

theorem intD_run {op : BinOp} {t : TypeId} {k : IntKind} {a b : Int} {d : D} (h1 : op ≠ .shl) (h2 : op ≠ .shr) (h : intD op k a b = some d) :
    ∃ v, (binOp op t (.int k a) (.int k b)).run P w = .ok v w ∧ Rep ok w ι H d v := by
  cases op <;> simp only [intD, andI, orI, xorI, andNotI, reduceCtorEq, Option.some.injEq, ne_eq] at h h1 h2
  case quo =>
    split at h
    · cases h
    · rename_i hb
      injection h with h
      subst h
      exact ⟨_, by simp [binOp, Op.intDiv, hb], .int _ _⟩
  case rem =>
    split at h
    · cases h
    · rename_i hb
      injection h with h
      subst h
      exact ⟨_, by simp [binOp, Op.intDiv, hb], .int _ _⟩
  case add | sub | mul =>
    subst h
    exact ⟨_, by simp [binOp, Op.intArith], .int _ _⟩
  case and | or | xor | andNot =>
    subst h
    exact ⟨_, by simp only [binOp, ne_eq, not_true_eq_false, if_false]; rfl, .int _ _⟩
  all_goals
    subst h
    exact ⟨_, by simp [binOp, Op.intCmp], .bool _⟩

theorem shiftD_run {op : BinOp} {t : TypeId} {k k' : IntKind} {a b : Int} {d : D} (ho : op = .shl ∨ op = .shr) (h : shiftD op k a b = some d) :
    ∃ v, (binOp op t (.int k a) (.int k' b)).run P w = .ok v w ∧ Rep ok w ι H d v := by
  unfold shiftD at h
  split at h
  · cases h
  · rename_i hb
    rcases ho with rfl | rfl <;> simp only [Option.some.injEq] at h <;> subst h
    · exact ⟨_, by simp [binOp, Op.shift, hb], .int _ _⟩
    · exact ⟨_, by simp [binOp, Op.shift, hb], .int _ _⟩

theorem bytes_toList (x : List UInt8) : (⟨x.toArray⟩ : ByteArray).toList = x := by
  rw [ByteArray.toList_eq]

theorem strD_run {op : BinOp} {t : TypeId} {x y : List UInt8} {d : D} (h : strD op x y = some d) :
    ∃ v, (binOp op t (.string ⟨x.toArray⟩) (.string ⟨y.toArray⟩)).run P w = .ok v w ∧ Rep ok w ι H d v := by
  cases op <;> simp only [strD, reduceCtorEq] at h
  case add =>
    split at h
    · rename_i hl
      injection h with h
      subst h
      refine ⟨.string ⟨(x ++ y).toArray⟩, ?_, .str _⟩
      have e : (⟨x.toArray⟩ : ByteArray) ++ ⟨y.toArray⟩ = ⟨(x ++ y).toArray⟩ := by
        apply ByteArray.ext
        simp
      simp only [binOp, Op.stringOp, e]
      rw [if_neg]
      · rfl
      · simp [ByteArray.size, IntKind.max, IntKind.bits, IntKind.signed]
        omega
    · cases h
  all_goals
    injection h with h
    subst h
    exact ⟨_, by simp [binOp, Op.stringOp], .bool _⟩

theorem unD_run {op : UnOp} {x d : D} {v : Value} (hx : Rep ok w ι H x v) (h : unD op x = some d) :
    ∃ v', (Op.unary op v).run P w = .ok v' w ∧ Rep ok w ι H d v' := by
  unfold unD at h
  split at h <;> cases h <;> cases hx
  · exact ⟨_, by simp [Op.unary, Op.intArith], .int _ _⟩
  · exact ⟨_, by simp [Op.unary, Op.intBits], .int _ _⟩
  · exact ⟨_, by simp [Op.unary], .bool _⟩

end
end Go.Ev
/-
  Each operation on data is what the operation does: slices, append, copy.
-/
namespace Go.Ev

section
variable {X : Cx} {P : Program} {ok : Nat → Prop} {w w' : World} {ι : Iota} {H H' : Heap}

theorem cell_of_sameHeap {w w1 : World} (h : w1.heap = w.heap) (a : Addr) : w1.cell? a = w.cell? a := by simp [World.cell?, h]

/-- The cells of a slice's elements are read so. -/
theorem slc_read {k n : Nat} {x : D} {v : Value} {cs : List D} (hs : Sim X ok w ι H) (hx : Rep ok w ι H x v) (h : slc H k x = some (cs, n)) :
    cs.length = n * k ∧ (∀ d, d ∈ cs → isCell d = true) ∧ ∃ A c, v = .slice A n c ∧ n ≤ c ∧ (A = none → n = 0) ∧
      ∃ f : Nat → Value, ∀ (j : Nat) d, cs[j]? = some d → ∃ a, A = some a ∧ w.cell? (a.add j) = some (f j) ∧ Rep ok w ι H d (f j) := by
  cases hx with
  | vnil =>
    simp only [slc] at h
    split at h
    · rename_i hl
      injection h with h
      injection h with h1 h2
      subst h1; subst h2
      exact ⟨hl, by simp, none, 0, rfl, Nat.le_refl _, fun _ => rfl, fun _ => undef, by simp⟩
    · cases h
  | vsl a f ha hc hr hh hlc =>
    simp only [slc] at h
    split at h
    · rename_i hl
      injection h with h
      injection h with h1 h2
      subst h1; subst h2
      exact ⟨hl, hc, some a, _, rfl, hlc, fun h => by (cases h), f, fun j d hj => ⟨a, rfl, hr j d hj, (hh j d hj).lift⟩⟩
    · cases h
  | @osl _ _ i st off len k' c a hi hh hlc =>
    simp only [slc] at h
    split at h
    · rename_i ds hd
      split at h
      · rename_i hcond
        obtain ⟨h1, h2, h3⟩ := hcond
        injection h with h
        injection h with h4 h5
        subst h4; subst h5
        obtain ⟨b, s, q1, rfl, q3⟩ := (hh ds hd).2 h1
        obtain ⟨b', arr, e, fr, k1, k2, k3, k4, k5, k6, k7, k8⟩ := hs.blk i ds hd
        rw [q1] at k1
        injection k1 with k1
        injection k1 with k1 _
        subst k1
        refine ⟨by simp; omega, fun d hd => k7 d (List.mem_of_mem_drop (List.mem_of_mem_take hd)), some ⟨b, off, none⟩, c, rfl, hlc, (fun h => by cases h), fun j => arr.getD (off + j) undef, fun j d hj => ⟨_, rfl, ?_⟩⟩
        rw [List.getElem?_take] at hj
        split at hj
        · rw [List.getElem?_drop] at hj
          have hlt : off + j < arr.size := Nat.lt_of_lt_of_le (List.getElem?_eq_some_iff.1 hj).1 k4
          refine ⟨?_, k8 _ d hj⟩
          rw [addr_add, cell_of_heap k3]
          simp [hlt]
        · cases hj
      · cases h
    · cases h
  | _ => simp [slc] at h

def ofBytesV (s : List UInt8) : List Value := s.map fun b => .int .u8 (b.toNat : Int)

theorem ofBytes_rep (s : List UInt8) (j : Nat) (d : D) (h : (ofBytes s)[j]? = some d) : Rep ok w ι H d (((ofBytesV s)).getD j undef) := by
  unfold ofBytes at h
  rw [List.getElem?_map] at h
  cases hj : s[j]? with
  | none => simp [hj] at h
  | some b =>
    simp only [hj, Option.map_some, Option.some.injEq] at h
    subst h
    have : (ofBytesV s).getD j undef = .int .u8 (b.toNat : Int) := by
      unfold ofBytesV
      simp [List.getD_eq_getElem?_getD, hj]
    rw [this]
    exact .int _ _

/-- What is appended or copied, as the built-ins read it. -/
theorem src_run {k m : Nat} {xt : TypeId} {x : D} {v : Value} {xs : List D} (hs : Sim X ok w ι H) (hx : Rep ok w ι H x v) (h : srcD P H k xt x = some (xs, m)) :
    xs.length = m * k ∧ (∀ d, d ∈ xs → isCell d = true) ∧ (∃ dsc, P.underlying xt = some dsc ∧ ∀ q, dsc ≠ .int q) ∧
    (∀ w1 : World, (Builtin.lenOf v).run P w1 = .ok m w1) ∧
    ∀ n, n ≤ m → ∃ vs : List Value, vs.length = n * k ∧ (∀ w1 : World, w1.heap = w.heap → (Builtin.firstCells k n v).run P w1 = .ok vs.toArray w1) ∧
      ∀ (j : Nat) d, j < n * k → xs[j]? = some d → Rep ok w ι H d (vs.getD j undef) := by
  unfold srcD at h
  split at h
  · rename_i b hu
    split at h
    · rename_i hk
      subst hk
      injection h with h
      injection h with h1 h2
      subst h1; subst h2
      cases hx
      refine ⟨by simp [ofBytes], ?_, ⟨_, hu, fun q => by simp⟩, fun w1 => by simp [Builtin.lenOf, ByteArray.size], fun n hn => ⟨(ofBytesV b).take n, by simp [ofBytesV]; omega, fun w1 _ => ?_, fun j d hj hd => ?_⟩⟩
      · intro d hd
        simp only [ofBytes, List.mem_map] at hd
        obtain ⟨_, _, rfl⟩ := hd
        rfl
      · have he : (⟨b.toArray⟩ : ByteArray).extract 0 n = ⟨(b.take n).toArray⟩ := by
          apply ByteArray.ext
          simp
        simp [Builtin.firstCells, he, ofBytesV, List.map_take]
      · have h := ofBytes_rep (ok := ok) (w := w) (ι := ι) (H := H) b j d hd
        rw [List.getD_eq_getElem?_getD] at h ⊢
        rw [List.getElem?_take, if_pos (by omega)]
        exact h
    · cases h
  · rename_i e hu
    obtain ⟨h1, h2, A, c, rfl, hlc, hA, f, hf⟩ := slc_read hs hx h
    refine ⟨h1, h2, ⟨_, hu, fun q => by simp⟩, fun w1 => by simp [Builtin.lenOf], fun n hn => ?_⟩
    have hlt : ∀ j, j < n * k → ∃ d, xs[j]? = some d := fun j hj => ⟨xs[j]'(by have := Nat.mul_le_mul_right k hn; omega), List.getElem?_eq_getElem _⟩
    cases A with
    | none =>
      have hm : m = 0 := hA rfl
      subst hm
      have hn0 : n = 0 := by omega
      subst hn0
      exact ⟨[], by simp, fun w1 _ => by simp [Builtin.firstCells], fun j d hj _ => by simp at hj⟩
    | some a =>
      refine ⟨(List.range (n * k)).map f, by simp, fun w1 hw1 => ?_, fun j d hj hd => ?_⟩
      · have hl := run_loadCells (P := P) w1 a (n * k) f (fun j hj => by
          obtain ⟨d, hd⟩ := hlt j hj
          obtain ⟨a', ha', hc, _⟩ := hf j d hd
          injection ha' with ha'
          subst ha'
          rw [cell_of_sameHeap hw1]
          exact hc)
        simp [Builtin.firstCells, hl]
      · obtain ⟨_, _, _, hr⟩ := hf j d hd
        rw [List.getD_eq_getElem?_getD]
        simpa [hj] using hr
  · cases h

theorem zeroOf_run {t : TypeId} {z : D} (h : zeroOf P t = some z) : ∃ v, (∀ w1 : World, (zeroValue t).run P w1 = .ok v w1) ∧ ∀ (ok : Nat → Prop) (w : World) (ι : Iota) (H : Heap), Rep ok w ι H z v := by
  unfold zeroOf at h
  cases hi : P.info? t with
  | none => simp [hi] at h
  | some i =>
    cases hz : i.zero with
    | none => simp [hi, hz] at h
    | some v =>
      simp only [hi, hz, Option.bind_some] at h
      exact ⟨v, fun w1 => by simp [zeroValue, typeInfo, hi, hz], fun ok w ι H => ofVal_rep h⟩

theorem flatten_replicate_get {z : List D} {n j : Nat} (h : j < n * z.length) : ((List.replicate n z).flatten)[j]? = z[j % z.length]? := by
  induction n generalizing j with
  | zero => omega
  | succ n ih =>
    rw [List.replicate_succ, List.flatten_cons]
    by_cases hj : j < z.length
    · rw [List.getElem?_append_left hj, Nat.mod_eq_of_lt hj]
    · have hz : z.length ≤ j := by omega
      have h' : j < n * z.length + z.length := by rw [← Nat.succ_mul]; exact h
      rw [List.getElem?_append_right hz, ih (by omega)]
      congr 1
      rw [Nat.mod_eq_sub_mod hz]

theorem zeroCells_run {t : TypeId} {n : Nat} {zs : List D} (h : zeroCellsD P t n = some zs) : ∃ v, (∀ w1 : World, (zeroValue t).run P w1 = .ok v w1) ∧ v.cells.size = szOf P t ∧ 0 < szOf P t ∧ zs.length = n * szOf P t ∧
    (∀ d, d ∈ zs → isCell d = true) ∧ (∀ j, j < szOf P t → (v.cells.getD j undef).oneCell' = true) ∧
    ∀ (ok : Nat → Prop) (w : World) (ι : Iota) (H : Heap) (j : Nat) d, zs[j]? = some d → Rep ok w ι H d (v.cells.getD (j % szOf P t) undef) := by
  unfold zeroCellsD at h
  split at h
  · rename_i z hz
    split at h
    · rename_i hl
      obtain ⟨hl, hpos⟩ := hl
      injection h with h
      subst h
      cases hzo : zeroOf P t with
      | none => simp [hzo] at hz
      | some zd =>
        simp only [hzo, Option.bind_some] at hz
        obtain ⟨v, hv, hr⟩ := zeroOf_run hzo
        obtain ⟨c1, c2, _⟩ := cellsOf_rep (hr (fun _ => True) default iota0 []) hz
        refine ⟨v, hv, by omega, hpos, by simp [hl], ?_, ?_, ?_⟩
        · intro d hd
          rw [List.mem_flatten] at hd
          obtain ⟨l, h1, h2⟩ := hd
          rw [(List.mem_replicate.1 h1).2] at h2
          exact c2 d h2
        · intro j hj
          obtain ⟨_, c2, c3⟩ := cellsOf_rep (hr (fun _ => True) default iota0 []) hz
          have hz' : z[j]? = some (z[j]'(by omega)) := List.getElem?_eq_getElem (by omega)
          exact (c3 j _ hz').oneCell (c2 _ (mem_of_get? hz'))
        · intro ok w ι H j d hj
          have hjl : j < n * z.length := by
            have := (List.getElem?_eq_some_iff.1 hj).1
            simpa using this
          rw [flatten_replicate_get hjl, hl] at hj
          obtain ⟨_, _, c3⟩ := cellsOf_rep (hr ok w ι H) hz
          exact c3 _ d hj
    · cases h
  · cases h

theorem zeroCells_get {z : Array Value} {n j : Nat} (h : j < n * z.size) : (Builtin.zeroCells z n)[j]? = some (z.getD (j % z.size) undef) := by
  unfold Builtin.zeroCells
  have hz : 0 < z.size := by
    rcases Nat.eq_zero_or_pos z.size with h0 | h0
    · rw [h0] at h; omega
    · exact h0
  have hm := Nat.mod_lt j hz
  rw [Array.getElem?_map, Array.getElem?_range]
  simp only [h, if_true, Option.map_some, Option.some.injEq]
  rw [Array.getD_eq_getD_getElem?, Array.getElem?_eq_getElem hm]
  simp [hm]

/-- A new block made of cells that stand so. -/
theorem new_run {ds : List D} {arr : Array Value} {e : TypeId} (hs : Sim X ok w ι H) (w1 : World) (hw1 : SameS w w1) (hh : w1.heap = w.heap) (hl : ds.length ≤ arr.size)
    (hone : ∀ j, j < arr.size → (arr.getD j undef).oneCell' = true) (hc : ∀ d, d ∈ ds → isCell d = true) (hr : ∀ (j : Nat) d, ds[j]? = some d → Rep ok w ι H d (arr.getD j undef)) :
    ∃ ι', Sim X ok (w1.alloc (.cells arr e)) ι' (newBlk H ds) ∧ Evol H.length ok w ι H ok (w1.alloc (.cells arr e)) ι' (newBlk H ds) ∧ ι' H.length = some (w.heap.size, arr.size) := by
  refine step_new (fr := (0, 0)) (e := e) hs hw1 (by simp [hh]) (fun c hcl => ?_) ?_ (Nat.le_refl _) hl (.inl rfl) hone hc hr
  · rw [← hh]; exact heap_alloc_old w1 _ (by rw [hh]; exact hcl)
  · rw [← hh]; exact heap_alloc_new w1 _

theorem drew_same (w : World) : SameS w w.drew := ⟨rfl, rfl, rfl⟩

theorem drew_eq (w : World) : ({ w with drawn := w.drawn + 1 } : World) = w.drew := rfl

theorem run_append_grown {st xt ty e : TypeId} {dsc : TypeDesc} {zv xv : Value} {base : Option Addr} {sLen sCap m : Nat} {olds news : List Value} (hu : P.underlying st = some (.slice e)) (hxu : P.underlying xt = some dsc)
    (hni : ∀ q, dsc ≠ .int q) (hz : ∀ w1 : World, (zeroValue e).run P w1 = .ok zv w1) (hsz : 0 < szOf P e) (hlen : ∀ w1 : World, (Builtin.lenOf xv).run P w1 = .ok m w1)
    (hold : ∀ w1 : World, w1.heap = w.heap → (Builtin.firstCells (szOf P e) sLen (.slice base sLen sCap)).run P w1 = .ok olds.toArray w1)
    (hnew : ∀ w1 : World, w1.heap = w.heap → (Builtin.firstCells (szOf P e) m xv).run P w1 = .ok news.toArray w1)
    (hg : sCap < sLen + m) (h1 : sLen + m ≤ maxBytes) (h2 : (sLen + m) * bytesOf P e ≤ maxBytes) :
    (Builtin.append_ #[st, xt] ty #[.slice base sLen sCap, xv]).run P w =
      .ok (.slice (some ⟨w.heap.size, 0, none⟩) (sLen + m) (grownCap w (sLen + m) sCap e))
        (w.drew.alloc (.cells (olds.toArray ++ news.toArray ++ Builtin.zeroCells zv.cells (grownCap w (sLen + m) sCap e - (sLen + m))) e)) := by
  obtain ⟨i, hi, i2, i3⟩ := info_sz hsz
  have hn : ¬ (sLen + m ≤ sCap) := by omega
  simp only [maxBytes] at h1 h2
  have h63' : ¬ (9223372036854775807 < ((sLen : Int) + (m : Int))) := by omega
  have h48 := growslice_fits (need := sLen + m) (old := sCap) (by omega) h2
  have h48' : ¬ (281474976710656 < Builtin.nextslicecap (sLen + m) sCap * i.bytes) := by rw [i3]; omega
  have hf := hnew w.drew rfl
  have hfo := hold w.drew rfl
  simp [Builtin.append_, run_underlying hu, run_underlying hxu, sizeOf_run hsz, hlen, typeInfo, hi, hn, h63', h48', Question.forced, hz, hf, hfo, newRow, grownCap]
  congr 2
  apply Array.ext'
  simp [List.append_assoc]

theorem grown_get {e : TypeId} {zv : Value} {old news : List Value} {xs : List D} {n : Nat} (hz : zv.cells.size = szOf P e) (hpos : 0 < szOf P e) (z6 : ∀ j, j < szOf P e → (zv.cells.getD j undef).oneCell' = true)
    (c2 : ∀ d, d ∈ xs → isCell d = true) (hl : (old ++ news).length = xs.length) (hr : ∀ (j : Nat) d, xs[j]? = some d → Rep ok w ι H d ((old ++ news).getD j undef)) :
    (∀ j, j < (old.toArray ++ news.toArray ++ Builtin.zeroCells zv.cells n).size → ((old.toArray ++ news.toArray ++ Builtin.zeroCells zv.cells n).getD j undef).oneCell' = true) ∧
    ∀ (j : Nat) d, xs[j]? = some d → Rep ok w ι H d ((old.toArray ++ news.toArray ++ Builtin.zeroCells zv.cells n).getD j undef) := by
  have hlo : ∀ j, j < xs.length → (old.toArray ++ news.toArray ++ Builtin.zeroCells zv.cells n).getD j undef = (old ++ news).getD j undef := by
    intro j hj
    rw [Array.getD_eq_getD_getElem?, Array.getElem?_append_left (by simp at hl ⊢; omega), List.getD_eq_getElem?_getD]
    simp
  constructor
  · intro j hj
    by_cases hjx : j < xs.length
    · rw [hlo j hjx]
      have hxj : xs[j]? = some (xs[j]'(by omega)) := List.getElem?_eq_getElem (by omega)
      exact (hr j _ hxj).oneCell (c2 _ (mem_of_get? hxj))
    · have hll : (old ++ news).length = old.length + news.length := List.length_append
      rw [Array.getD_eq_getD_getElem?, Array.getElem?_append_right (by simp; omega)]
      simp only [Array.size_append, List.size_toArray, size_zeroCells] at hj ⊢
      rw [zeroCells_get (by omega)]
      exact z6 _ (by rw [← hz]; exact Nat.mod_lt _ (by omega))
  · intro j d hj
    rw [hlo j (List.getElem?_eq_some_iff.1 hj).1]
    exact hr j d hj

theorem wrap64_id {n : Int} (h0 : 0 ≤ n) (h1 : n < 9223372036854775808) : IntKind.i64.wrap n = n := by
  simp only [IntKind.wrap, IntKind.signed, IntKind.bits]
  simp
  omega
/-- What is appended, made ready. -/
structure AppOk (P : Program) (ok : Nat → Prop) (w : World) (ι : Iota) (H : Heap) (st xt ty e : TypeId) (xv : Value) (xs : List D) (m : Nat) (vs : List Value) : Prop where
  len : xs.length = m * szOf P e
  cell : ∀ d, d ∈ xs → isCell d = true
  vlen : vs.length = m * szOf P e
  rep : ∀ (j : Nat) d, xs[j]? = some d → Rep ok w ι H d (vs.getD j undef)
  nil : m = 0 → (Builtin.append_ #[st, xt] ty #[.slice none 0 0, xv]).run P w = .ok (.slice none 0 0) w
  inp : ∀ (a : Addr) (sLen sCap : Nat) (w' : World), sLen + m ≤ sCap → (storeCells (a.add (sLen * szOf P e)) vs).run P w = .ok () w' →
    (Builtin.append_ #[st, xt] ty #[.slice (some a) sLen sCap, xv]).run P w = .ok (.slice (some a) (sLen + m) sCap) w'
  grow : ∀ (zv : Value) (base : Option Addr) (sLen sCap : Nat) (olds : List Value), (∀ w1 : World, (zeroValue e).run P w1 = .ok zv w1) →
    (∀ w1 : World, w1.heap = w.heap → (Builtin.firstCells (szOf P e) sLen (.slice base sLen sCap)).run P w1 = .ok olds.toArray w1) → sCap < sLen + m → sLen + m ≤ maxBytes → (sLen + m) * bytesOf P e ≤ maxBytes →
    (Builtin.append_ #[st, xt] ty #[.slice base sLen sCap, xv]).run P w =
      .ok (.slice (some ⟨w.heap.size, 0, none⟩) (sLen + m) (grownCap w (sLen + m) sCap e))
        (w.drew.alloc (.cells (olds.toArray ++ vs.toArray ++ Builtin.zeroCells zv.cells (grownCap w (sLen + m) sCap e - (sLen + m))) e))
theorem srcA_run {st xt ty e : TypeId} {x : D} {xv : Value} {xs z0 : List D} {m : Nat} (hu : P.underlying st = some (.slice e)) (hz : zeroCellsD P e 0 = some z0) (hs : Sim X ok w ι H) (hx : Rep ok w ι H x xv) (h : srcA P H e xt x = some (xs, m)) :
    ∃ vs, AppOk P ok w ι H st xt ty e xv xs m vs := by
  obtain ⟨_, _, _, z3, _⟩ := zeroCells_run hz
  obtain ⟨inf, i1, i2, i3⟩ := info_sz z3
  unfold srcA at h
  split at h
  · rename_i q n hxu
    split at h
    · rename_i hc
      obtain ⟨n1, n2, n3⟩ := hc
      cases hzn : zeroCellsD P e n.toNat with
      | none => rw [hzn] at h; cases h
      | some z =>
        rw [hzn] at h
        simp only [Option.map_some, Option.some.injEq, Prod.mk.injEq] at h
        obtain ⟨rfl, rfl⟩ := h
        obtain ⟨zv, y1, y2, y3, y4, y5, y6, y7⟩ := zeroCells_run hzn
        simp only [maxBytes] at n2 n3
        cases hx
        have hw : IntKind.i64.wrap n = n := wrap64_id n1 (by omega)
        have hneg : ¬ n < 0 := by omega
        have hcast : n * (bytesOf P e : Int) = ((n.toNat * bytesOf P e : Nat) : Int) := by
          rw [Int.natCast_mul, Int.toNat_of_nonneg n1]
        have h48 : ¬ (281474976710656 < n * (bytesOf P e : Int)) := by rw [hcast]; omega
        have hvs : ((Builtin.zeroCells zv.cells n.toNat).toList).length = n.toNat * szOf P e := by rw [Array.length_toList, size_zeroCells, y2]
        have hz0 : n.toNat * szOf P e = 0 → (Builtin.zeroCells zv.cells n.toNat) = #[] := by
          intro h0
          apply Array.eq_empty_of_size_eq_zero
          rw [size_zeroCells, y2, h0]
        have happ : ∀ w1 : World, (if n.toNat * szOf P e = 0 then (pure #[] : Sem (Array Value)) else do pure (Builtin.zeroCells (← zeroValue e).cells n.toNat)).run P w1 = .ok (Builtin.zeroCells zv.cells n.toNat) w1 := by
          intro w1
          by_cases h0 : n.toNat * szOf P e = 0
          · rw [if_pos h0, hz0 h0]
            rfl
          · rw [if_neg h0]
            simp [y1]
        refine ⟨(Builtin.zeroCells zv.cells n.toNat).toList, y4, y5, hvs, fun j d hj => ?_, fun hm => ?_, fun a sLen sCap w' hroom hst => ?_, fun zv2 base sLen sCap olds hz2 hold hg b1 b2 => ?_⟩
        · have hjl : j < n.toNat * szOf P e := by rw [← y4]; exact (List.getElem?_eq_some_iff.1 hj).1
          have := y7 ok w ι H j d hj
          rw [List.getD_eq_getElem?_getD, Array.getElem?_toList, zeroCells_get (by rw [y2]; exact hjl), y2]
          exact this
        · have hn0 : n = 0 := by omega
          subst hn0
          simp [Builtin.append_, run_underlying hu, run_underlying hxu, sizeOf_run z3, typeInfo, i1, i3, asInt, asIntOf, hw]
        · by_cases h0 : n.toNat * szOf P e = 0
          · rw [hz0 h0] at hst
            simp [Builtin.append_, run_underlying hu, run_underlying hxu, sizeOf_run z3, typeInfo, i1, i3, asInt, asIntOf, hw, hneg, h48, hroom, h0]
            rw [show (storeCells (a.add (sLen * szOf P e)) []).run P w = .ok () w' from by simpa using hst]
            rfl
          · simp [Builtin.append_, run_underlying hu, run_underlying hxu, sizeOf_run z3, typeInfo, i1, i3, asInt, asIntOf, hw, hneg, h48, hroom, h0, y1]
            rw [hst]
            rfl
        · have hzz : zv2 = zv := by
            have e1 := hz2 w
            rw [y1 w] at e1
            injection e1 with e1
            exact e1.symm
          subst hzz
          have hn : ¬ (sLen + n.toNat ≤ sCap) := by omega
          simp only [maxBytes] at b1 b2
          have h63' : ¬ (9223372036854775807 < ((sLen : Int) + max n 0)) := by omega
          have h48a : ¬ (281474976710656 < n * (inf.bytes : Int)) := by rw [i3]; exact h48
          have h48b := growslice_fits (need := sLen + n.toNat) (old := sCap) (by omega) b2
          have h48' : ¬ (281474976710656 < Builtin.nextslicecap (sLen + n.toNat) sCap * inf.bytes) := by rw [i3]; omega
          have hfo := hold w.drew rfl
          by_cases h0 : n.toNat * szOf P e = 0
          · simp [Builtin.append_, run_underlying hu, run_underlying hxu, sizeOf_run z3, typeInfo, i1, asInt, asIntOf, hw, hneg, hn, h48a, h63', h48', Question.forced, hz2, hfo, newRow, grownCap, hz0 h0]
          · simp [Builtin.append_, run_underlying hu, run_underlying hxu, sizeOf_run z3, typeInfo, i1, asInt, asIntOf, hw, hneg, h0, hn, h48a, h63', h48', Question.forced, hz2, hfo, newRow, grownCap]
    · cases h
  · obtain ⟨c1, c2, ⟨dsc, hxu, hni⟩, c3, c4⟩ := src_run (P := P) hs hx h
    obtain ⟨vs, v1, v2, v3⟩ := c4 m (Nat.le_refl _)
    refine ⟨vs, c1, c2, v1, fun j d hj => v3 j d (by have := (List.getElem?_eq_some_iff.1 hj).1; omega) hj, fun hm => ?_, fun a sLen sCap w' hroom hst => ?_, fun zv base sLen sCap olds hz2 hold hg b1 b2 => run_append_grown hu hxu hni hz2 z3 c3 hold v2 hg b1 b2⟩
    · subst hm
      simp [Builtin.append_, run_underlying hu, run_underlying hxu, sizeOf_run z3, c3, v2 w rfl]
    · simp [Builtin.append_, run_underlying hu, run_underlying hxu, sizeOf_run z3, c3, hroom, v2 w rfl, hst]
theorem append_run {st xt ty : TypeId} {s x d : D} {sv xv : Value} (hs : Sim X ok w ι H) (hsv : Rep ok w ι H s sv) (hx : Rep ok w ι H x xv) (h : appendD P H st xt s x = some (d, H')) :
    ∃ v w', (Builtin.append_ #[st, xt] ty #[sv, xv]).run P w = .ok v w' ∧ Post X H.length ok w ι H d H' v w' := by
  unfold appendD at h
  split at h
  · rename_i e hu
    split at h
    · rename_i xs m _ hsrc hz
      obtain ⟨vs, hA⟩ := srcA_run (P := P) (ty := ty) hu hz hs hx hsrc
      have c1 := hA.len
      have c2 := hA.cell
      have v1 := hA.vlen
      have v3 := hA.rep
      obtain ⟨zv, z1, z2, z3, _, _, z6, _⟩ := zeroCells_run hz
      obtain ⟨inf, i1, i2, i3⟩ := info_sz z3
      cases hsv
      split at h
      · rename_i hm
        injection h with h
        injection h with h1 h2
        subst h1; subst h2
        exact ⟨.slice none 0 0, w, hA.nil hm, Post.same hs .vnil⟩
      · rename_i hm
        split at h
        · rename_i hcond
          obtain ⟨b1, b2⟩ := hcond
          injection h with h
          injection h with h1 h2
          subst h1; subst h2
          obtain ⟨g1, g2⟩ := grown_get (old := []) (news := vs) (n := grownCap w (0 + m) 0 e - (0 + m)) z2 z3 z6 c2 (by simp; omega) (fun j d hj => v3 j d hj)
          obtain ⟨ι', n1, n2, n3⟩ := new_run (e := e) (ds := xs) hs w.drew (drew_same w) rfl (by simp; omega) g1 c2 g2
          refine ⟨_, _, hA.grow zv none 0 0 [] z1 (fun w1 _ => by simp [Builtin.firstCells]) (by omega) (by omega) (by rw [Nat.zero_add]; exact b1), ι', ok, n1, ?_, n2⟩
          have hge := grownCap_ge w (0 + m) 0 e
          rw [Nat.zero_add] at hge ⊢
          refine .osl _ (by rw [length_newBlk]; omega) (fun ds hd => ?_) hge
          rw [hget_newBlk_same] at hd
          injection hd with hd
          subst hd
          refine ⟨Nat.le_refl _, fun _ => ⟨_, _, n3, rfl, ?_⟩⟩
          simp only [Array.size_append, List.size_toArray, size_zeroCells, z2, v1, List.length_nil, Nat.zero_add, ← Nat.add_mul]
          rw [show m + (grownCap w m 0 e - m) = grownCap w m 0 e by omega]
          exact Nat.le_refl _
        · cases h
    · rename_i xs m _ i sm len k hsrc hz
      split at h
      · rename_i ds hd
        split at h
        · rename_i hcond
          obtain ⟨b1, b2, b3, b4, b5⟩ := hcond
          injection h with h
          injection h with h1 h2
          subst h1; subst h2
          obtain ⟨vs, hA⟩ := srcA_run (P := P) (ty := ty) hu hz hs hx hsrc
          have c1 := hA.len
          have c2 := hA.cell
          have v1 := hA.vlen
          have v3 := hA.rep
          obtain ⟨zv, z1, z2, z3, _, _, z6, _⟩ := zeroCells_run hz
          subst b2
          cases hsv with
          | @osl _ _ _ _ _ _ _ c a hi hh hlc =>
            obtain ⟨b, s, q1, rfl, q3⟩ := (hh ds hd).2 b1
            obtain ⟨b', arr, e2, fr, k1, k2, k3, k4, k5, k6, k7, k8⟩ := hs.blk i ds hd
            rw [q1] at k1
            injection k1 with k1
            injection k1 with k1 k1'
            subst k1
            have hdl : ds.length = len * szOf P e := by omega
            have happ : ∀ d, d ∈ ds ++ xs → isCell d = true := by
              intro d hd
              rcases List.mem_append.1 hd with h | h
              · exact k7 d h
              · exact c2 d h
            by_cases hroom : len + m ≤ c
            · -- in place
              have hmul : (len + m) * szOf P e ≤ c * szOf P e := Nat.mul_le_mul_right _ hroom
              rw [Nat.add_mul] at hmul
              have hone : ∀ v, v ∈ vs → v.oneCell' = true := by
                intro v hv
                obtain ⟨j, hj⟩ := List.mem_iff_getElem?.1 hv
                have hjl : j < vs.length := (List.getElem?_eq_some_iff.1 hj).1
                have hxj : xs[j]? = some (xs[j]'(by omega)) := List.getElem?_eq_getElem (by omega)
                have h := v3 j _ hxj
                rw [List.getD_eq_getElem?_getD, hj] at h
                exact h.oneCell (c2 _ (mem_of_get? hxj))
              obtain ⟨w', arr', r1, r2, r3, r4, r5, r6, r7⟩ := storeCells_run (P := P) b (len * szOf P e) e2 fr vs 0 arr w k3 (by omega) hone (fz_of k5)
              have hget : ∀ j, j < arr.size → arr'.getD j undef = if len * szOf P e ≤ j ∧ j < len * szOf P e + m * szOf P e then vs.getD (j - len * szOf P e) undef else arr.getD j undef := by
                intro j hj
                simp only [Array.getD_eq_getD_getElem?, r7 j, List.getD_eq_getElem?_getD, Nat.add_zero, v1]
                split <;> rfl
              obtain ⟨ι', s1, s2, s3⟩ := step_set (i := i) (ds := ds) (ds' := ds ++ xs) (b := b) (sz := s) (b' := b) (arr' := arr') (e := e2) (fr := fr) (w' := w') hs hd q1 r2 (by omega) (fun c _ hc => r4 c hc) r5 (.inl ⟨rfl, by omega⟩)
                (by simp) (by simp; omega) (by rw [r6]; exact k5)
                (by
                  intro j hj
                  rw [r6] at hj
                  rw [hget j hj]
                  by_cases hr : len * szOf P e ≤ j ∧ j < len * szOf P e + m * szOf P e
                  · rw [if_pos hr]
                    have : j - len * szOf P e < vs.length := by omega
                    rw [List.getD_eq_getElem?_getD, List.getElem?_eq_getElem this]
                    exact hone _ (List.getElem_mem this)
                  · rw [if_neg hr]
                    exact k6 j hj)
                happ
                (by
                  intro j d hj
                  have hjl : j < ds.length + xs.length := by
                    have := (List.getElem?_eq_some_iff.1 hj).1
                    simpa using this
                  rw [hget j (by omega)]
                  by_cases hjd : j < ds.length
                  · rw [if_neg (by omega)]
                    rw [List.getElem?_append_left hjd] at hj
                    exact k8 j d hj
                  · rw [if_pos (by omega)]
                    rw [List.getElem?_append_right (by omega)] at hj
                    rw [← hdl]
                    exact v3 _ d hj)
              refine ⟨.slice (some ⟨b, 0, none⟩) (len + m) c, w', ?_, ι', ok, s1, ?_, s2⟩
              · exact hA.inp _ _ _ _ hroom (by simpa [addr_add] using r1)
              · refine .osl _ (by rw [length_hset]; exact hi) (fun ds' hd' => ?_) hroom
                rw [hget_hset_same hi] at hd'
                injection hd' with hd'
                subst hd'
                refine ⟨by simp [b1], fun _ => ⟨b, arr'.size, s3, rfl, by omega⟩⟩
            · -- a new block
              have hold : ∀ w1 : World, w1.heap = w.heap → (Builtin.firstCells (szOf P e) len (.slice (some ⟨b, 0, none⟩) len c)).run P w1 = .ok ((List.range (len * szOf P e)).map fun j => arr.getD j undef).toArray w1 := by
                intro w1 hw1
                have hl := run_loadCells (P := P) w1 ⟨b, 0, none⟩ (len * szOf P e) (fun j => arr.getD j undef) (fun j hj => by
                  rw [addr_add, cell_of_sameHeap hw1, cell_of_heap k3]
                  have : j < arr.size := by omega
                  simp [this])
                simp only [Builtin.firstCells]
                exact hl
              obtain ⟨g1, g2⟩ := grown_get (xs := ds ++ xs) (old := (List.range (len * szOf P e)).map fun j => arr.getD j undef) (news := vs) (n := grownCap w (len + m) c e - (len + m)) z2 z3 z6 happ (by simp; omega)
                (fun j d hj => by
                  have hjl : j < ds.length + xs.length := by
                    have := (List.getElem?_eq_some_iff.1 hj).1
                    simpa using this
                  rw [List.getD_eq_getElem?_getD]
                  by_cases hjd : j < ds.length
                  · rw [List.getElem?_append_left hjd] at hj
                    rw [List.getElem?_append_left (by simp; omega)]
                    have := k8 j d hj
                    simpa [show j < len * szOf P e by omega] using this
                  · rw [List.getElem?_append_right (by omega)] at hj
                    rw [List.getElem?_append_right (by simp; omega)]
                    have := v3 _ d hj
                    rw [List.getD_eq_getElem?_getD] at this
                    simpa [hdl] using this)
              have hsize : (((List.range (len * szOf P e)).map fun j => arr.getD j undef).toArray ++ vs.toArray ++ Builtin.zeroCells zv.cells (grownCap w (len + m) c e - (len + m))).size = grownCap w (len + m) c e * szOf P e := by
                have hge := grownCap_ge w (len + m) c e
                simp only [Array.size_append, List.size_toArray, size_zeroCells, z2, v1, List.length_map, List.length_range, ← Nat.add_mul]
                rw [show len + m + (grownCap w (len + m) c e - (len + m)) = grownCap w (len + m) c e by omega]
              have hm : 0 < m := by omega
              have hmk : 0 < m * szOf P e := Nat.mul_pos hm z3
              obtain ⟨ι', s1, s2, s3⟩ := step_set (i := i) (ds := ds) (ds' := ds ++ xs) (b := b) (sz := s) (b' := w.heap.size) (w' := w.drew.alloc (.cells (((List.range (len * szOf P e)).map fun j => arr.getD j undef).toArray ++ vs.toArray ++ Builtin.zeroCells zv.cells (grownCap w (len + m) c e - (len + m))) e))
                (e := e) (fr := (0, 0)) hs hd q1 (drew_same w) (by simp) (fun c hc _ => heap_alloc_old w.drew _ hc) (heap_alloc_new w.drew _) (.inr ⟨Nat.le_refl _, by simp; omega⟩) (by simp)
                (by
                  rw [hsize]
                  have hge := Nat.mul_le_mul_right (szOf P e) (grownCap_ge w (len + m) c e)
                  rw [Nat.add_mul] at hge
                  simp
                  omega) (.inl rfl) g1 happ g2
              refine ⟨_, _, hA.grow zv _ _ _ _ z1 hold (by omega) b5 b4, ι', ok, s1, ?_, s2⟩
              refine .osl _ (by rw [length_hset]; exact hi) (fun ds' hd' => ?_) (grownCap_ge w (len + m) c e)
              rw [hget_hset_same hi] at hd'
              injection hd' with hd'
              subst hd'
              refine ⟨by simp [b1], fun _ => ⟨_, _, s3, rfl, by rw [hsize]; omega⟩⟩
        · cases h
      · cases h
    · cases h
  · cases h

end
end Go.Ev
/-
  Each operation on data is what the operation does: the rest of what makes slices.
-/
namespace Go.Ev

section
variable {X : Cx} {P : Program} {ok : Nat → Prop} {w w' : World} {ι : Iota} {H H' : Heap}

theorem sliceBound_run {n : Nat} {l : Int} {k : IntKind} {c : BoundsCode} (h : 0 ≤ l ∧ l ≤ n) (w : World) : (Instr.sliceBound (.int k l) n c).run P w = .ok l.toNat w := by
  simp [Instr.sliceBound, asIntOf, h]

/-- The bounds, as the operation reckons them; the top bound is what there is. -/
theorem bounds_run {isSlice : Bool} {n c l h : Nat} {lo hi : Option D} {lov hiv : Option Value} (hl : ∀ d, lo = some d → ∃ v, lov = some v ∧ Rep ok w ι H d v) (hln : lo = none → lov = none)
    (hh : ∀ d, hi = some d → ∃ v, hiv = some v ∧ Rep ok w ι H d v) (hhn : hi = none → hiv = none) (hnc : n ≤ c) (hb : bounds n lo hi = some (l, h)) (w : World) :
    l ≤ h ∧ h ≤ n ∧ (Instr.sliceBounds isSlice n c lov hiv none).run P w = .ok (l, h, c) w := by
  unfold bounds at hb
  split at hb
  · injection hb with hb
    injection hb with h1 h2
    subst h1; subst h2
    rw [hln rfl, hhn rfl]
    exact ⟨Nat.zero_le _, Nat.le_refl _, by simp [Instr.sliceBounds]⟩
  · rename_i k a
    split at hb
    · rename_i hc
      injection hb with hb
      injection hb with h1 h2
      subst h1; subst h2
      obtain ⟨v, rfl, hr⟩ := hl _ rfl
      cases hr
      rw [hhn rfl]
      exact ⟨by omega, Nat.le_refl _, by simp [Instr.sliceBounds, sliceBound_run hc]⟩
    · cases hb
  · rename_i k a
    split at hb
    · rename_i hc
      injection hb with hb
      injection hb with h1 h2
      subst h1; subst h2
      obtain ⟨v, rfl, hr⟩ := hh _ rfl
      cases hr
      rw [hln rfl]
      refine ⟨Nat.zero_le _, by omega, ?_⟩
      simp [Instr.sliceBounds, sliceBound_run (show 0 ≤ a ∧ a ≤ (c : Int) from ⟨hc.1, by omega⟩)]
    · cases hb
  · rename_i k a k' a'
    split at hb
    · rename_i hc
      injection hb with hb
      injection hb with h1 h2
      subst h1; subst h2
      obtain ⟨v, rfl, hr⟩ := hl _ rfl
      obtain ⟨v', rfl, hr'⟩ := hh _ rfl
      cases hr; cases hr'
      refine ⟨by omega, by omega, ?_⟩
      simp [Instr.sliceBounds, sliceBound_run (show 0 ≤ a' ∧ a' ≤ (c : Int) from ⟨hc.1, by omega⟩), sliceBound_run (show 0 ≤ a ∧ a ≤ (a'.toNat : Int) from ⟨hc.2.2.1, by omega⟩)]
    · cases hb
  · cases hb

theorem add_zero' (a : Addr) : a.add 0 = a := rfl

theorem sliceAt_run {t : TypeId} {x d : D} {xv : Value} {lo hi : Option D} {lov hiv : Option Value} (hs : Sim X ok w ι H) (hx : Rep ok w ι H x xv) (hl : ∀ d, lo = some d → ∃ v, lov = some v ∧ Rep ok w ι H d v) (hln : lo = none → lov = none)
    (hh : ∀ d, hi = some d → ∃ v, hiv = some v ∧ Rep ok w ι H d v) (hhn : hi = none → hiv = none) (h : sliceD P t x lo hi = some d) :
    ∃ v, (Instr.sliceAt t xv lov hiv none).run P w = .ok v w ∧ Rep ok w ι H d v := by
  unfold sliceD at h
  split at h
  · -- a text
    rename_i s hu
    split at h
    · rename_i l hb hbd
      injection h with h
      subst h
      cases hx
      obtain ⟨b1, b2, b3⟩ := bounds_run (P := P) (isSlice := false) (c := s.length) hl hln hh hhn (Nat.le_refl _) hbd w
      refine ⟨.string ⟨((s.drop l).take (hb - l)).toArray⟩, ?_, .str _⟩
      have hsz : (⟨s.toArray⟩ : ByteArray).size = s.length := by simp [ByteArray.size]
      have he : (⟨s.toArray⟩ : ByteArray).extract l hb = ⟨((s.drop l).take (hb - l)).toArray⟩ := by
        apply ByteArray.ext
        simp [List.extract_eq_take_drop]
      simp [Instr.sliceAt, run_underlying hu, Instr.slice, hsz, b3, he]
    · cases h
  · -- a slice of others
    rename_i e nil cs len hu
    split at h
    · rename_i l hb hbd
      split at h
      · rename_i hc
        obtain ⟨hlen, hpos⟩ := hc
        injection h with h
        subst h
        cases hx with
        | vnil =>
          obtain ⟨b1, b2, b3⟩ := bounds_run (P := P) (isSlice := true) (c := 0) hl hln hh hhn (Nat.le_refl _) hbd w
          have hb0 : hb = 0 := by omega
          have hl0 : l = 0 := by omega
          subst hb0; subst hl0
          refine ⟨.slice none 0 0, ?_, by simpa using Rep.vnil⟩
          simp [Instr.sliceAt, run_underlying hu, Instr.slice, b3, sizeOf_run hpos]
        | @vsl _ _ _ _ c a f ha hcc hr hhh hlc =>
          obtain ⟨b1, b2, b3⟩ := bounds_run (P := P) (isSlice := true) (c := c) hl hln hh hhn hlc hbd w
          refine ⟨.slice (some (if c = l then a else a.add (l * szOf P e))) (hb - l) (c - l), ?_, ?_⟩
          · simp only [Instr.sliceAt, Sem.run_bind, run_underlying hu, Result.andThen_ok, Instr.slice, b3, sizeOf_run hpos, Sem.run_pure]
            split <;> rfl
          · refine .vsl _ (fun j => f (l * szOf P e + j)) (fun d hd => by have := ha d (List.mem_of_mem_drop (List.mem_of_mem_take hd)); split <;> simp [add_block, this]) (fun d hd => hcc d (List.mem_of_mem_drop (List.mem_of_mem_take hd))) (fun j d hj => ?_) (fun j d hj => ?_) (by omega)
            · rw [List.getElem?_take] at hj
              split at hj
              · rename_i hjl
                rw [List.getElem?_drop] at hj
                have hcl : c ≠ l := by
                  rintro rfl
                  have : hb - c = 0 := by omega
                  rw [this] at hjl
                  omega
                rw [if_neg hcl, addr_add_add]
                exact hr _ d hj
              · cases hj
            · rw [List.getElem?_take] at hj
              split at hj
              · rw [List.getElem?_drop] at hj
                exact hhh _ d hj
              · cases hj
      · cases h
    · cases h
  · -- a slice of the run's own
    rename_i e id st off len k hu
    split at h
    · rename_i l hb hbd
      split at h
      · rename_i hc
        obtain ⟨rfl, hpos, hl0⟩ := hc
        injection h with h
        subst h
        cases hx with
        | @osl _ _ _ _ _ _ _ c a hi' hhh hlc =>
          obtain ⟨b1, b2, b3⟩ := bounds_run (P := P) (isSlice := true) (c := c) hl hln hh hhn hlc hbd w
          refine ⟨.slice (some (if c = l then a else a.add (l * szOf P e))) (hb - l) (c - l), ?_, ?_⟩
          · simp only [Instr.sliceAt, Sem.run_bind, run_underlying hu, Result.andThen_ok, Instr.slice, b3, sizeOf_run hpos, Sem.run_pure]
            split <;> rfl
          · refine .osl _ hi' (fun ds hd => ⟨(hhh ds hd).1, fun he => ?_⟩) (by omega)
            obtain ⟨b, s, q1, rfl, q3⟩ := (hhh ds hd).2 he
            have hle : l ≤ c := by omega
            have hmul : l * szOf P e + (c - l) * szOf P e = c * szOf P e := by rw [← Nat.add_mul]; congr 1; omega
            refine ⟨b, s, q1, ?_, by omega⟩
            split
            · rename_i hcl
              rcases hl0 with h0 | h0
              · subst h0
                simp
              · omega
            · rw [addr_add]
      · cases h
    · cases h
  · -- an array of others
    rename_i n e cs hu
    split at h
    · rename_i l hb hbd
      split at h
      · rename_i hc
        obtain ⟨hfit, hpos, hl0⟩ := hc
        injection h with h
        subst h
        cases hx with
        | vptr a f ha hcc hr hhh =>
          obtain ⟨b1, b2, b3⟩ := bounds_run (P := P) (isSlice := false) (c := n) hl hln hh hhn (Nat.le_refl _) hbd w
          refine ⟨.slice (some (if n = l then a else a.add (l * szOf P e))) (hb - l) (n - l), ?_, ?_⟩
          · simp only [Instr.sliceAt, Sem.run_bind, run_underlying hu, Result.andThen_ok, Instr.sureAddr, b3, sizeOf_run hpos, Sem.run_pure]
          · refine .vsl _ (fun j => f (l * szOf P e + j)) (fun d hd => by have := ha d (List.mem_of_mem_drop (List.mem_of_mem_take hd)); split <;> simp [add_block, this]) (fun d hd => hcc d (List.mem_of_mem_drop (List.mem_of_mem_take hd))) (fun j d hj => ?_) (fun j d hj => ?_) (by omega)
            · rw [List.getElem?_take] at hj
              split at hj
              · rename_i hjl
                rw [List.getElem?_drop] at hj
                have hcl : n ≠ l := by
                  rintro rfl
                  have : hb - n = 0 := by omega
                  rw [this] at hjl
                  omega
                rw [if_neg hcl, addr_add_add]
                exact hr _ d hj
              · cases hj
            · rw [List.getElem?_take] at hj
              split at hj
              · rw [List.getElem?_drop] at hj
                exact hhh _ d hj
              · cases hj
      · cases h
    · cases h
  · -- an array of the run's own
    rename_i n e id st off hu
    split at h
    · rename_i l hb hbd
      split at h
      · rename_i hc
        obtain ⟨hl0, hfit, hpos⟩ := hc
        injection h with h
        subst h
        cases hx with
        | optr a hi' hhh =>
          obtain ⟨b1, b2, b3⟩ := bounds_run (P := P) (isSlice := false) (c := n) hl hln hh hhn (Nat.le_refl _) hbd w
          refine ⟨.slice (some (if n = l then a else a.add (l * szOf P e))) (hb - l) (n - l), ?_, ?_⟩
          · simp only [Instr.sliceAt, Sem.run_bind, run_underlying hu, Result.andThen_ok, Instr.sureAddr, b3, sizeOf_run hpos, Sem.run_pure]
          · refine .osl _ hi' (fun ds hd => ⟨(hhh ds hd).1, fun he => ?_⟩) (by omega)
            obtain ⟨b, s, q1, rfl⟩ := (hhh ds hd).2 he
            have hle : l ≤ n := by omega
            have hmul : l * szOf P e + (n - l) * szOf P e = n * szOf P e := by rw [← Nat.add_mul]; congr 1; omega
            obtain ⟨b', arr, e', fr, k1, k2, k3, k4, _⟩ := hs.blk id ds hd
            rw [q1] at k1
            injection k1 with k1
            injection k1 with k1 k1'
            refine ⟨b, s, q1, ?_, by omega⟩
            split
            · rename_i hcl
              rcases hl0 with h0 | h0
              · subst h0
                simp
              · omega
            · rw [addr_add]
      · cases h
    · cases h
  · cases h

theorem copy_run {dt xt ty : TypeId} {x y d : D} {dv xv : Value} (hs : Sim X ok w ι H) (hdv : Rep ok w ι H y dv) (hx : Rep ok w ι H x xv) (h : copyD P H dt xt y x = some (d, H')) :
    ∃ v w', (Builtin.copy_ #[dt, xt] ty #[dv, xv]).run P w = .ok v w' ∧ Post X H.length ok w ι H d H' v w' := by
  unfold copyD at h
  split at h
  · rename_i e hu
    split at h
    · rename_i xs m i sm off len k hsrc
      split at h
      · rename_i ds hd
        split at h
        · rename_i hcond
          obtain ⟨b1, rfl, b3, b4⟩ := hcond
          injection h with h
          injection h with h1 h2
          subst h1; subst h2
          obtain ⟨c1, c2, ⟨dsc, hxu, hni⟩, c3, c4⟩ := src_run (P := P) hs hx hsrc
          obtain ⟨vs, v1, v2, v3⟩ := c4 (min m len) (Nat.min_le_left _ _)
          cases hdv with
          | osl a hi hh hlc =>
            obtain ⟨b, s, q1, rfl, q3⟩ := (hh ds hd).2 b1
            have hle : min m len * szOf P e ≤ len * szOf P e := Nat.mul_le_mul_right _ (Nat.min_le_right _ _)
            have hlm : min m len * szOf P e ≤ m * szOf P e := Nat.mul_le_mul_right _ (Nat.min_le_left _ _)
            have htl : (xs.take (min m len * szOf P e)).length = min m len * szOf P e := by simp; omega
            obtain ⟨w', ι', r1, r2, r3⟩ := write_run (P := P) (vs := vs) (xs := xs.take (min m len * szOf P e)) hs hd b1 q1 rfl (by rw [htl]; exact Nat.le_trans (Nat.add_le_add_left hle off) (by rw [b1]; exact b4)) (by rw [htl, v1]) (fun d hd => c2 d (List.mem_of_mem_take hd))
              (fun j d hj => by
                rw [List.getElem?_take] at hj
                split at hj
                · rename_i hjl; exact v3 j d hjl hj
                · cases hj)
            refine ⟨.int .i64 (min m len : Nat), w', ?_, ι', ok, r2, .int _ _, r3⟩
            have hf := v2 w rfl
            rw [show min m len = Nat.min m len from rfl] at hf
            simp [Builtin.copy_, run_underlying hu, c3, sizeOf_run b3, hf, goInt]
            rw [r1]
            rfl
        · cases h
      · cases h
    · cases h
  · cases h

theorem clear_run {t ty : TypeId} {x d : D} {xv : Value} {ts : Array TypeId} {us : Array Value} (ht : ts[0]? = some t) (hu0 : us[0]? = some xv) (hs : Sim X ok w ι H) (hx : Rep ok w ι H x xv) (h : clearD P H t x = some (d, H')) :
    ∃ v w', (Builtin.clear_ ts ty us).run P w = .ok v w' ∧ Post X H.length ok w ι H d H' v w' := by
  unfold clearD at h
  split at h
  · rename_i e i sm off len k hu
    split at h
    · rename_i z ds hz hd
      split at h
      · rename_i hcond
        obtain ⟨b1, rfl, b4, b5⟩ := hcond
        injection h with h
        injection h with h1 h2
        subst h1; subst h2
        obtain ⟨zv, y1, y2, y3, y4, y5, y6, y7⟩ := zeroCells_run hz
        cases hx with
        | osl a hi hh hlc =>
          obtain ⟨b, s, q1, rfl, q3⟩ := (hh ds hd).2 b1
          have hvs : ((Builtin.zeroCells zv.cells len).toList).length = len * szOf P e := by rw [Array.length_toList, size_zeroCells, y2]
          obtain ⟨w', ι', r1, r2, r3⟩ := write_run (P := P) (vs := (Builtin.zeroCells zv.cells len).toList) (xs := z) hs hd b1 q1 rfl (by rw [y4, b1]; exact b4) (by rw [hvs, y4]) y5 (fun j d hj => by
            have hjl : j < len * szOf P e := by rw [← y4]; exact (List.getElem?_eq_some_iff.1 hj).1
            have := y7 ok w ι H j d hj
            rw [List.getD_eq_getElem?_getD, Array.getElem?_toList, zeroCells_get (by rw [y2]; exact hjl), y2]
            exact this)
          refine ⟨.tuple #[], w', ?_, ι', ok, r2, .tup rfl (by simp), r3⟩
          obtain ⟨n, rfl⟩ : ∃ n, len = n + 1 := ⟨len - 1, by omega⟩
          simp [Builtin.clear_, ht, hu0, run_underlying hu, y1]
          rw [r1]
          rfl
      · cases h
    · cases h
  · cases h

theorem len_run {t ty : TypeId} {x d : D} {v : Value} {ts : Array TypeId} {vs : Array Value} (ht : ts[0]? = some t) (hv : vs[0]? = some v) (hx : Rep ok w ι H x v) (h : lenD P t x = some d) :
    ∃ r, (Builtin.len_ ts ty vs).run P w = .ok r w ∧ Rep ok w ι H d r := by
  unfold lenD at h
  split at h <;> first | (cases h; done) | injection h with h
  · rename_i s hu
    subst h
    cases hx
    have hsz : (⟨s.toArray⟩ : ByteArray).size = s.length := by simp [ByteArray.size]
    exact ⟨.int .i64 s.length, by simp [Builtin.len_, ht, hv, run_underlying hu, goInt, hsz], .int _ _⟩
  · rename_i n e hu
    subst h
    exact ⟨_, by simp [Builtin.len_, ht, hv, run_underlying hu, goInt], .int _ _⟩
  · rename_i hu
    subst h
    cases hx <;> exact ⟨_, by simp [Builtin.len_, ht, hv, run_underlying hu, goInt], .int _ _⟩
  · rename_i hu
    subst h
    cases hx <;> exact ⟨_, by simp [Builtin.len_, ht, hv, run_underlying hu, goInt], .int _ _⟩

end
end Go.Ev
/-
  Each operation on data is what the operation does: conversions, parts laid together, new slices.
-/
namespace Go.Ev

section
variable {X : Cx} {P : Program} {ok : Nat → Prop} {w w' : World} {ι : Iota} {H H' : Heap}

theorem bytesD_rep : ∀ {cs : List D} {s : List UInt8}, bytesD cs = some s → ∃ ns : List Int, cs = ns.map (D.int .u8) ∧ s = ns.map fun n => UInt8.ofNat n.toNat
  | [], s, h => by
    simp only [bytesD, Option.some.injEq] at h
    exact ⟨[], rfl, h.symm⟩
  | .int .u8 n :: l, s, h => by
    simp only [bytesD] at h
    cases hb : bytesD l with
    | none => simp [hb] at h
    | some r =>
      simp only [hb, Option.map_some, Option.some.injEq] at h
      obtain ⟨ns, h1, h2⟩ := bytesD_rep hb
      exact ⟨n :: ns, by simp [h1], by simp [← h, h2]⟩
  | .int .i8 _ :: _, _, h | .int .i16 _ :: _, _, h | .int .i32 _ :: _, _, h | .int .i64 _ :: _, _, h | .int .u16 _ :: _, _, h | .int .u32 _ :: _, _, h | .int .u64 _ :: _, _, h
  | .bool _ :: _, _, h | .str _ :: _, _, h | .nilp :: _, _, h | .nilf :: _, _, h | .nili :: _, _, h | .raw _ :: _, _, h | .agg _ :: _, _, h | .tup _ :: _, _, h | .vptr _ :: _, _, h | .optr _ _ _ :: _, _, h | .vsl _ _ _ :: _, _, h
  | .osl _ _ _ _ _ :: _, _, h | .fn _ _ :: _, _, h | .iface _ _ :: _, _, h => by simp [bytesD] at h

/-- A block of the run's own that is marked behind its end stays what it is. -/
theorem mark_run {i : Nat} {ds : List D} {b o : Nat} {arr : Array Value} {e : TypeId} {fr : Nat × Nat} (hs : Sim X ok w ι H) (hd : hget H i = some ds) (hι : ι i = some (b, arr.size)) (hb : w.heap[b]? = some (.cells arr e fr)) :
    ∃ w' ι', (markStringish ⟨b, o, none⟩).run P w = .ok () w' ∧ Sim X ok w' ι' H ∧ Evol H.length ok w ι H ok w' ι' H := by
  obtain ⟨b0, arr0, e0, fr0, q1, q2, q3, q4, q5, q6, q7, q8⟩ := hs.blk i ds hd
  rw [hι] at q1
  injection q1 with q1
  injection q1 with q1 q1'
  subst q1
  rw [hb] at q3
  injection q3 with q3
  injection q3 with q3a q3b q3c
  subst q3a; subst q3b; subst q3c
  have hlt : b < w.heap.size := (Array.getElem?_eq_some_iff.1 hb).1
  have hset : hset H i ds = H := by
    unfold hset
    have hi := hget_lt hd
    rw [hget, List.getElem?_eq_getElem hi, Option.getD_some] at hd
    rw [← hd, List.set_getElem_self]
  obtain ⟨fr', hfr', hw'⟩ : ∃ fr' : Nat × Nat, (fr'.1 = fr'.2 ∨ arr.size ≤ fr'.1) ∧ (w.freeze ⟨b, arr.size, none⟩ 1).heap[b]? = some (.cells arr e fr') := by
    obtain ⟨lo, hi⟩ := fr
    refine ⟨if lo == hi then (arr.size, arr.size + 1) else (min lo arr.size, max hi (arr.size + 1)), ?_, ?_⟩
    · simp only at q5
      by_cases h : lo = hi
      · simp [h]
      · have : arr.size ≤ lo := by omega
        simp [h]
        omega
    · unfold World.freeze
      simp only [Nat.one_ne_zero, if_false]
      rw [Array.getElem?_modify]
      simp [hb]
  obtain ⟨ι', r1, r2, r3⟩ := step_set (w' := w.freeze ⟨b, arr.size, none⟩ 1) (ds' := ds) hs hd hι ⟨by unfold World.freeze; split <;> rfl, by unfold World.freeze; split <;> rfl, by unfold World.freeze; split <;> rfl⟩ (by unfold World.freeze; split <;> simp)
    (fun c _ hc => by
      unfold World.freeze
      simp only [Nat.one_ne_zero, if_false]
      rw [Array.getElem?_modify]
      simp [Ne.symm hc]) hw' (.inl ⟨rfl, rfl⟩) (Nat.le_refl _) q4 hfr' q6 q7 q8
  rw [hset] at r1 r2
  refine ⟨_, ι', ?_, r1, r2⟩
  have e1 : (shape b).run P w = .ok (w.shape? b) w := rfl
  have e2 : w.shape? b = some (e, arr.size) := by unfold World.shape?; rw [hb]
  have e3 : (Go.freeze ⟨b, arr.size, none⟩ 1).run P w = .ok () (w.freeze ⟨b, arr.size, none⟩ 1) := rfl
  unfold markStringish
  rw [Sem.run_bind, e1, Result.andThen_ok, e2]
  exact e3
theorem convert_run {src dst : TypeId} {x d : D} {v : Value} (hs : Sim X ok w ι H) (hx : Rep ok w ι H x v) (h : convD P H src dst x = some (d, H')) :
    ∃ v' w', (convert src dst v).run P w = .ok v' w' ∧ Post X H.length ok w ι H d H' v' w' := by
  unfold convD at h
  split at h
  · rename_i k k' n h1 h2
    injection h with h
    injection h with h3 h4
    subst h3; subst h4
    cases hx
    exact ⟨.int k (k.wrap n), w, by simp [convert, run_underlying h1, run_underlying h2, Conv.intToInt], Post.same hs (.int _ _)⟩
  · rename_i s h1 h2
    injection h with h
    injection h with h3 h4
    subst h3; subst h4
    cases hx
    exact ⟨.string ⟨s.toArray⟩, w, by simp [convert, run_underlying h1, run_underlying h2], Post.same hs (.str _)⟩
  · rename_i k k' n h1 h2
    injection h with h
    injection h with h3 h4
    subst h3; subst h4
    cases hx
    refine ⟨.string (Utf8.encode n), w, by simp [convert, run_underlying h1, run_underlying h2, Conv.intToString], Post.same hs ?_⟩
    have := Rep.str (ok := ok) (w := w) (ι := ι) (H := H) (Utf8.encode n).data.toList
    simpa using this
  · rename_i e s h1 h2
    split at h
    · rename_i he
      injection h with h
      injection h with h3 h4
      subst h3; subst h4
      cases hx
      have hsz : (⟨s.toArray⟩ : ByteArray).size = s.length := by simp [ByteArray.size]
      have hge := grownCap_ge w s.length 0 e
      have hbs : (Lib.bytesCells w e ⟨s.toArray⟩).size = grownCap w s.length 0 e := by
        unfold Lib.bytesCells
        simp only [Array.size_append, Array.size_map, Array.size_replicate, hsz]
        simp
        omega
      have hbg : ∀ j, j < s.length → (Lib.bytesCells w e ⟨s.toArray⟩).getD j undef = (ofBytesV s).getD j undef := by
        intro j hj
        unfold Lib.bytesCells ofBytesV
        rw [Array.getD_eq_getD_getElem?, Array.getElem?_append_left (by simpa using hj), List.getD_eq_getElem?_getD]
        simp
      have hbz : ∀ j, s.length ≤ j → j < grownCap w s.length 0 e → (Lib.bytesCells w e ⟨s.toArray⟩).getD j undef = .int .u8 0 := by
        intro j hj hjl
        unfold Lib.bytesCells
        rw [Array.getD_eq_getD_getElem?, Array.getElem?_append_right (by simpa using hj)]
        simp only [hsz]
        rw [Array.getElem?_replicate, if_pos (by simp; omega)]
        rfl
      obtain ⟨ι', n1, n2, n3⟩ := step_new (w' := Lib.bytesWorld w e ⟨s.toArray⟩) (b' := w.heap.size) (arr := Lib.bytesCells w e ⟨s.toArray⟩) (ds := ofBytes s) hs
        (by
          refine ⟨?_, ?_, ?_⟩ <;> (unfold Lib.bytesWorld World.freeze; split <;> rfl))
        (by rw [Lib.bytesWorld_size]; omega) (fun c hc => Lib.bytesWorld_at_old w e _ c hc) (Lib.bytesWorld_at_new w e _) (Nat.le_refl _) (by rw [hbs]; simpa [ofBytes] using hge)
        (.inr (Nat.le_refl _))
        (fun j hj => by
          rw [hbs] at hj
          by_cases hjs : j < s.length
          · rw [hbg j hjs]
            unfold ofBytesV
            simp [List.getD_eq_getElem?_getD, hjs, Value.oneCell']
          · rw [hbz j (by omega) hj]
            rfl)
        (fun d hd => by
          simp only [ofBytes, List.mem_map] at hd
          obtain ⟨_, _, rfl⟩ := hd
          rfl)
        (fun j d hj => by
          have hjs : j < s.length := by
            have := (List.getElem?_eq_some_iff.1 hj).1
            simpa [ofBytes] using this
          rw [hbg j hjs]
          exact ofBytes_rep s j d hj)
      refine ⟨_, _, Lib.run_convert_string_bytes w src dst e ⟨s.toArray⟩ h1 h2 he, ι', ok, n1, ?_, n2⟩
      rw [hsz]
      refine .osl _ (by rw [length_newBlk]; omega) (fun ds hd => ?_) hge
      rw [hget_newBlk_same] at hd
      injection hd with hd
      subst hd
      refine ⟨by simp [ofBytes], fun _ => ⟨_, _, n3, rfl, by rw [hbs]; omega⟩⟩
    · cases h
  · rename_i _ e h1 h2
    split at h
    · rename_i cs n he hsl
      cases hb : bytesD cs with
      | none => simp [hb] at h
      | some s =>
        simp only [hb, Option.map_some, Option.some.injEq, Prod.mk.injEq] at h
        obtain ⟨h3, h4⟩ := h
        subst h3; subst h4
        obtain ⟨ns, rfl, rfl⟩ := bytesD_rep hb
        obtain ⟨k1, k2, A, c, rfl, hlc, hA, f, hf⟩ := slc_read hs hx hsl
        simp only [List.length_map, Nat.mul_one] at k1
        cases A with
        | none =>
          have hn : n = 0 := hA rfl
          subst hn
          have : ns = [] := List.eq_nil_of_length_eq_zero k1
          subst this
          refine ⟨.string ByteArray.empty, w, run_convert_bytes_nil w src e h1 he _ _ dst h2, Post.same hs ?_⟩
          exact .str []
        | some a =>
          have hl : (loadCells a n).run P w = .ok (ns.map (Value.int .u8)).toArray w := by
            have := run_loadCells_list (P := P) w a (ns.map (Value.int .u8)) (fun j v hj => by
              rw [List.getElem?_map] at hj
              cases hj' : ns[j]? with
              | none => simp [hj'] at hj
              | some m =>
                simp only [hj', Option.map_some, Option.some.injEq] at hj
                subst hj
                obtain ⟨a', ha', hc, hr⟩ := hf j (.int .u8 m) (by simp [hj'])
                injection ha' with ha'
                subst ha'
                rw [hc]
                generalize f j = fv at hr
                cases hr
                rfl)
            simpa [k1] using this
          refine ⟨_, w, ?_, Post.same hs (.str _)⟩
          rw [run_convert_bytes_string w src dst e _ n c h1 he h2, run_bytesToString w _ n c ns hl, foldl_push_bytes]
          simp [ByteArray.empty, ByteArray.emptyWithCapacity]
          rfl
    · cases h
  · rename_i _ e i st off len k h1 h2
    split at h
    · rename_i ds he hd
      split at h
      · rename_i hc
        obtain ⟨rfl, hst⟩ := hc
        injection h with h
        injection h with h3 h4
        subst h3; subst h4
        have hrep := hx
        rw [h1] at h2
        injection h2 with h2
        injection h2 with h2
        subst h2
        cases hx with
        | osl a hi hh hlc =>
          obtain ⟨b, sz, g1, g2, g3⟩ := (hh ds hd).2 hst
          subst g2
          obtain ⟨b', arr, e', fr, q1, q2, q3, _⟩ := hs.blk i ds hd
          rw [g1] at q1
          injection q1 with q1
          injection q1 with q1 q1'
          subst q1; subst q1'
          obtain ⟨w', ι', m1, m2, m3⟩ := mark_run (P := P) (o := off) hs hd g1 q3
          refine ⟨_, w', ?_, ι', ok, m2, hrep.evol hs m3 hrep.closed, m3⟩
          simp [convert, run_underlying h1, run_underlying he, m1]
      · cases h
    · cases h
  · cases h

theorem foldl_set (off : Nat) : ∀ (l : List Value) (n : Nat) (cs : Array Value),
    ((l.zipIdx n).foldl (fun cs (c, j) => cs.setIfInBounds (off + j) c) cs).size = cs.size ∧
    ∀ j, ((l.zipIdx n).foldl (fun cs (c, j) => cs.setIfInBounds (off + j) c) cs)[j]? = if off + n ≤ j ∧ j < off + n + l.length ∧ j < cs.size then l[j - (off + n)]? else cs[j]?
  | [], n, cs => by
    refine ⟨rfl, fun j => ?_⟩
    rw [if_neg (by simp; omega)]
    rfl
  | v :: l, n, cs => by
    obtain ⟨h1, h2⟩ := foldl_set off l (n + 1) (cs.setIfInBounds (off + n) v)
    simp only [List.zipIdx_cons, List.foldl_cons]
    refine ⟨by rw [h1]; simp, fun j => ?_⟩
    rw [h2 j]
    simp only [Array.size_setIfInBounds, List.length_cons]
    by_cases hj : j = off + n
    · subst hj
      rw [if_neg (by omega)]
      by_cases hlt : off + n < cs.size
      · rw [if_pos (by omega)]
        simp [hlt]
      · rw [if_neg (by omega), Array.getElem?_eq_none (by simp; omega), Array.getElem?_eq_none (by omega)]
    · rw [Array.getElem?_setIfInBounds_ne (by omega)]
      by_cases hr : off + (n + 1) ≤ j ∧ j < off + (n + 1) + l.length ∧ j < cs.size
      · rw [if_pos hr, if_pos (by omega)]
        rw [show j - (off + n) = (j - (off + (n + 1))) + 1 by omega, List.getElem?_cons_succ]
      · rw [if_neg hr, if_neg (by omega)]

def RepParts (ok : Nat → Prop) (w : World) (ι : Iota) (H : Heap) : List (Nat × D) → List (Nat × Value) → Prop
  | [], [] => True
  | (i, d) :: ds, (j, v) :: vs => i = j ∧ Rep ok w ι H d v ∧ RepParts ok w ι H ds vs
  | _, _ => False

theorem fill_run {place : Nat → Option (Nat × Nat)} : ∀ {parts : List (Nat × D)} {vps : List (Nat × Value)} {cs cs' : List D} {arr : Array Value}, RepParts ok w ι H parts vps → arr.size = cs.length →
    (∀ d, d ∈ cs → isCell d = true) → (∀ (j : Nat) d, cs[j]? = some d → Rep ok w ι H d (arr.getD j undef)) → fillD place cs parts = some cs' →
    ∃ arr', Instr.fill place arr vps = some arr' ∧ arr'.size = cs'.length ∧ (∀ d, d ∈ cs' → isCell d = true) ∧ (∀ (j : Nat) d, cs'[j]? = some d → Rep ok w ι H d (arr'.getD j undef)) ∧ cs'.length = cs.length
  | [], [], cs, cs', arr, _, hl, hc, hr, h => by
    simp only [fillD, Option.some.injEq] at h
    subst h
    exact ⟨arr, rfl, hl, hc, hr, rfl⟩
  | (i, d) :: ps, (i', v) :: vps, cs, cs', arr, hp, hl, hc, hr, h => by
    obtain ⟨rfl, hv, hp⟩ := hp
    simp only [fillD] at h
    split at h
    · rename_i off size xs hpl hcs
      split at h
      · rename_i hcond
        obtain ⟨h1, h2⟩ := hcond
        obtain ⟨c1, c2, c3⟩ := cellsOf_rep hv hcs
        obtain ⟨f1, f2⟩ := foldl_set off v.cells.toList 0 arr
        have hfold : v.cells.zipIdx.foldl (fun cs (c, j) => cs.setIfInBounds (off + j) c) arr = (v.cells.toList.zipIdx 0).foldl (fun cs (c, j) => cs.setIfInBounds (off + j) c) arr := by
          rw [← Array.foldl_toList]
          simp
        have hle : off + xs.length ≤ cs.length := h2
        obtain ⟨arr', q1, q2, q3, q4, q5⟩ := fill_run (place := place) (arr := v.cells.zipIdx.foldl (fun cs (c, j) => cs.setIfInBounds (off + j) c) arr) hp (by rw [hfold, f1, setRange_length hle]; exact hl)
          (fun d hd => by
            rcases mem_setRange hd with h | h
            · exact hc d h
            · exact c2 d h)
          (fun j d hj => by
            have hjl : j < cs.length := by
              have := (List.getElem?_eq_some_iff.1 hj).1
              rwa [setRange_length hle] at this
            rw [hfold, Array.getD_eq_getD_getElem?, f2 j]
            simp only [Nat.add_zero, Array.length_toList, c1]
            rw [setRange_get hle] at hj
            by_cases hr' : off ≤ j ∧ j < off + xs.length
            · rw [if_pos hr'] at hj
              rw [if_pos ⟨hr'.1, hr'.2, by omega⟩]
              have := c3 _ d hj
              simpa [Array.getD_eq_getD_getElem?] using this
            · rw [if_neg hr'] at hj
              rw [if_neg (by omega)]
              have := hr j d hj
              rwa [Array.getD_eq_getD_getElem?] at this) h
        refine ⟨arr', ?_, q2, q3, q4, by rw [q5, setRange_length hle]⟩
        simp only [Instr.fill, hpl]
        rw [if_neg (by simp; omega)]
        exact q1
      · cases h
    · cases h
  | [], _ :: _, _, _, _, hp, _, _, _, _ => by simp [RepParts] at hp
  | _ :: _, [], _, _, _, hp, _, _, _, _ => by simp [RepParts] at hp

theorem partsD_rep (hs : Sim X ok w ι H) {e : Env} {a : Act} (he : EnvRep ok w ι H e a.tmps) : ∀ {l : List (Nat × Operand)} {ps : List (Nat × D)}, partsD X e l = some ps → RepParts ok w ι H ps (l.map fun (i, x) => (i, a.eval x))
  | [], ps, h => by
    simp only [partsD, Option.some.injEq] at h
    subst h
    trivial
  | (i, x) :: l, ps, h => by
    simp only [partsD] at h
    split at h
    · rename_i d ds h1 h2
      injection h with h
      subst h
      exact ⟨rfl, opd_rep hs he h1, partsD_rep hs he h2⟩
    · cases h

theorem places_run {fs : Array Field} (h : fs.all (fun f => decide (0 < szOf P f.type)) = true) (w : World) :
    (fs.mapM fun f => (do pure (f.offset, ← sizeOf f.type) : Sem (Nat × Nat))).run P w = .ok (fs.map fun f => (f.offset, szOf P f.type)) w := by
  have key : ∀ l : List Field, (∀ f, f ∈ l → 0 < szOf P f.type) → (l.mapM fun f => (do pure (f.offset, ← sizeOf f.type) : Sem (Nat × Nat))).run P w = .ok (l.map fun f => (f.offset, szOf P f.type)) w := by
    intro l
    induction l with
    | nil => intro _; simp
    | cons f l ih =>
      intro hl
      have h1 := hl f (List.mem_cons_self ..)
      have h2 := ih fun g hg => hl g (List.mem_cons_of_mem _ hg)
      rw [List.mapM_cons]
      simp only [Sem.run_bind, sizeOf_run h1, Result.andThen_ok, Sem.run_pure, h2, List.map_cons]
  rw [Array.mapM_eq_mapM_toList]
  rw [Sem.run_map, key fs.toList (fun f hf => by
    have := Array.all_eq_true'.1 h f (by simpa using hf)
    simpa using this)]
  simp
  apply Array.ext'
  simp

theorem build_run {t : TypeId} {parts : List (Nat × D)} {vps : Array (Nat × Value)} {d : D} (hp : RepParts ok w ι H parts vps.toList) (h : buildD P t parts = some d) :
    ∃ v, (Instr.build t vps).run P w = .ok v w ∧ Rep ok w ι H d v := by
  unfold buildD at h
  split at h
  · rename_i z fs hz hu
    split at h
    · rename_i hall
      obtain ⟨zv, z1, z2⟩ := zeroOf_run hz
      have zr := z2 ok w ι H
      obtain ⟨c1, c2, c3⟩ := cellsOf_rep zr rfl
      cases hf : fillD (structPlace P fs) z parts with
      | none => simp [hf] at h
      | some cs =>
        simp only [hf, Option.map_some, Option.some.injEq] at h
        subst h
        have hpl : (fun i => (fs.map fun f => (f.offset, szOf P f.type))[i]?) = structPlace P fs := by
          funext i
          simp [structPlace]
        obtain ⟨arr, q1, q2, q3, q4, _⟩ := fill_run (place := structPlace P fs) hp c1 c2 c3 hf
        refine ⟨.agg arr, ?_, .agg q2 q3 q4⟩
        simp only [Instr.build, Sem.run_bind, z1, Result.andThen_ok, run_underlying hu, places_run hall, hpl, q1, Sem.run_pure]
    · cases h
  · rename_i z n e hz hu
    split at h
    · rename_i hpos
      obtain ⟨zv, z1, z2⟩ := zeroOf_run hz
      have zr := z2 ok w ι H
      obtain ⟨c1, c2, c3⟩ := cellsOf_rep zr rfl
      cases hf : fillD (fun i => some (i * szOf P e, szOf P e)) z parts with
      | none => simp [hf] at h
      | some cs =>
        simp only [hf, Option.map_some, Option.some.injEq] at h
        subst h
        obtain ⟨arr, q1, q2, q3, q4, _⟩ := fill_run (place := fun i => some (i * szOf P e, szOf P e)) hp c1 c2 c3 hf
        refine ⟨.agg arr, ?_, .agg q2 q3 q4⟩
        simp only [Instr.build, Sem.run_bind, z1, Result.andThen_ok, run_underlying hu, sizeOf_run hpos, q1, Sem.run_pure]
    · cases h
  · cases h

theorem zeroRow_get {z : Array Value} {n j : Nat} (hz : 0 < z.size) (h : j < n) : ((Array.range n).map (z[· % z.size]!)).getD j undef = z.getD (j % z.size) undef := by
  have hm := Nat.mod_lt j hz
  simp [Array.getD_eq_getD_getElem?, h, hm]

theorem buildSlice_run {t : TypeId} {len : Nat} {parts : List (Nat × D)} {vps : Array (Nat × Value)} {d : D} (hs : Sim X ok w ι H) (hp : RepParts ok w ι H parts vps.toList) (h : buildSliceD P H t len parts = some (d, H')) :
    ∃ v w', (Instr.buildSlice t len vps).run P w = .ok v w' ∧ Post X H.length ok w ι H d H' v w' := by
  unfold buildSliceD at h
  split at h
  · rename_i e hu
    split at h
    · rename_i z hz
      split at h
      · rename_i hsmall
        cases hf : fillD (fun i => some (i * szOf P e, szOf P e)) z parts with
        | none => simp [hf] at h
        | some cs =>
          simp only [hf, Option.bind_some] at h
          split at h
          · rename_i hcs0
            have hcs := hcs0.2
            clear hcs0
            injection h with h
            injection h with h1 h2
            subst h1; subst h2
            obtain ⟨zv, z1, z2, z3, z4, z5, z6, z7⟩ := zeroCells_run hz
            have hne : len * szOf P e = 0 → z = [] := fun h0 => List.eq_nil_of_length_eq_zero (by omega)
            obtain ⟨zc, hzc1, hzc2, hzget⟩ : ∃ zc : Array Value, (len * szOf P e = 0 → zc = #[]) ∧ (¬ len * szOf P e = 0 → zc = zv.cells) ∧
                ∀ j, j < len * szOf P e → ((Array.range (len * szOf P e)).map (zc[· % zc.size]!)).getD j undef = zv.cells.getD (j % szOf P e) undef := by
              by_cases h0 : len * szOf P e = 0
              · exact ⟨#[], fun _ => rfl, fun h => absurd h0 h, fun j hj => by omega⟩
              · refine ⟨zv.cells, fun h => absurd h h0, fun _ => rfl, fun j hj => ?_⟩
                rw [zeroRow_get (by omega) hj, z2]
            obtain ⟨arr, q1, q2, q3, q4, q5⟩ := fill_run (place := fun i => some (i * szOf P e, szOf P e)) (arr := (Array.range (len * szOf P e)).map (zc[· % zc.size]!)) hp (by simp [z4]) z5
              (fun j d hj => by
                rw [hzget j (by have := (List.getElem?_eq_some_iff.1 hj).1; omega)]
                exact z7 ok w ι H j d hj) hf
            obtain ⟨ι', n1, n2, n3⟩ := new_run (e := e) (arr := arr) (ds := cs) hs w ⟨rfl, rfl, rfl⟩ rfl (by omega)
              (fun j hj => by
                have hj' : cs[j]? = some (cs[j]'(by omega)) := List.getElem?_eq_getElem (by omega)
                exact (q4 j _ hj').oneCell (q3 _ (mem_of_get? hj')))
              q3 q4
            refine ⟨.slice (some ⟨w.heap.size, 0, none⟩) len len, w.alloc (.cells arr e), ?_, ι', ok, n1, ?_, n2⟩
            · have hs16 : ¬ (16777216 < len * szOf P e) := by omega
              simp only [Instr.buildSlice, Sem.run_bind, run_underlying hu, Result.andThen_ok, sizeOf_run z3]
              rw [if_neg (by simpa using hsmall)]
              by_cases h0 : len * szOf P e = 0
              · rw [hzc1 h0] at q1
                rw [if_pos h0]
                simp only [Sem.run_bind, Sem.run_pure, Result.andThen_ok, q1]
                simp [newRow]
              · rw [hzc2 h0] at q1
                rw [if_neg h0]
                simp only [Sem.run_bind, Sem.run_pure, Result.andThen_ok, z1, q1]
                simp [newRow]
            · refine .osl _ (by rw [length_newBlk]; omega) (fun ds hd => ?_) (Nat.le_refl _)
              rw [hget_newBlk_same] at hd
              injection hd with hd
              subst hd
              exact ⟨Nat.le_refl _, fun _ => ⟨_, _, n3, rfl, by omega⟩⟩
          · cases h
      · cases h
    · cases h
  · cases h

theorem makeSlice_run {t : TypeId} {l c d : D} {lv cv : Value} (hs : Sim X ok w ι H) (hl : Rep ok w ι H l lv) (hc : Rep ok w ι H c cv) (h : makeSliceD P H t l c = some (d, H')) :
    ∃ v w', (Instr.makeSlice t lv cv).run P w = .ok v w' ∧ Post X H.length ok w ι H d H' v w' := by
  unfold makeSliceD at h
  split at h
  · rename_i e l c hu
    split at h
    · rename_i hcond
      obtain ⟨b1, b2, b3, b4⟩ := hcond
      cases hz : zeroCellsD P e l.toNat with
      | none => simp [hz] at h
      | some z =>
        simp only [hz, Option.bind_some] at h
        split at h
        · rename_i hzl
          injection h with h
          injection h with h1 h2
          subst h1; subst h2
          cases hl; cases hc
          obtain ⟨zv, z1, z2, z3, z4, z5, z6, z7⟩ := zeroCells_run hz
          obtain ⟨inf, i1, i2, i3⟩ := info_sz z3
          simp only [maxBytes] at b3 b4
          have wl : IntKind.i64.wrap l = l := by rw [IntKind.wrap_i64]; omega
          have wc : IntKind.i64.wrap c = c := by rw [IntKind.wrap_i64]; omega
          have hcs : ((Array.range (c.toNat * szOf P e)).map (zv.cells[· % zv.cells.size]!)).size = c.toNat * szOf P e := by simp
          have hle : l.toNat * szOf P e ≤ c.toNat * szOf P e := Nat.mul_le_mul_right _ (by omega)
          by_cases h0 : c.toNat * szOf P e = 0
          · have hc0 : c.toNat = 0 := by
              rcases Nat.mul_eq_zero.1 h0 with h | h
              · exact h
              · omega
            have hl0 : l.toNat = 0 := by omega
            have hz0 : z = [] := List.eq_nil_of_length_eq_zero (by rw [z4, hl0, Nat.zero_mul])
            subst hz0
            obtain ⟨ι', n1, n2, n3⟩ := new_run (e := e) (arr := #[]) (ds := []) hs w ⟨rfl, rfl, rfl⟩ rfl (by simp) (by simp) (by simp) (by simp)
            refine ⟨.slice (some ⟨w.heap.size, 0, none⟩) l.toNat c.toNat, w.alloc (.cells #[] e), ?_, ι', ok, n1, ?_, n2⟩
            · simp only [Instr.makeSlice, Sem.run_bind, run_underlying hu, Result.andThen_ok, asInt, asIntOf, typeInfo, run_program, i1, Sem.run_pure, wl, wc]
              rw [if_neg (by
                simp only [i3, Bool.or_eq_true, decide_eq_true_eq, not_or]
                refine ⟨⟨⟨by omega, ?_⟩, by omega⟩, by omega⟩
                omega)]
              simp [sizeOf_run z3, h0, newRow, show Array.range 0 = #[] from rfl]
            · refine .osl _ (by rw [length_newBlk]; omega) (fun ds hd => ?_) (by omega)
              rw [hget_newBlk_same] at hd
              injection hd with hd
              subst hd
              exact ⟨Nat.le_refl _, fun _ => ⟨_, _, n3, rfl, by simp [h0]⟩⟩
          · have hzget : ∀ j, j < c.toNat * szOf P e → ((Array.range (c.toNat * szOf P e)).map (zv.cells[· % zv.cells.size]!)).getD j undef = zv.cells.getD (j % szOf P e) undef := by
              intro j hj
              rw [zeroRow_get (by omega) hj, z2]
            obtain ⟨ι', n1, n2, n3⟩ := new_run (e := e) (arr := (Array.range (c.toNat * szOf P e)).map (zv.cells[· % zv.cells.size]!)) (ds := z) hs w ⟨rfl, rfl, rfl⟩ rfl (by rw [hcs]; omega)
              (fun j hj => by
                rw [hcs] at hj
                rw [hzget j hj]
                exact z6 _ (Nat.mod_lt _ z3))
              z5 (fun j d hj => by
                rw [hzget j (by have := (List.getElem?_eq_some_iff.1 hj).1; omega)]
                exact z7 ok w ι H j d hj)
            refine ⟨.slice (some ⟨w.heap.size, 0, none⟩) l.toNat c.toNat, w.alloc (.cells ((Array.range (c.toNat * szOf P e)).map (zv.cells[· % zv.cells.size]!)) e), ?_, ι', ok, n1, ?_, n2⟩
            · simp only [Instr.makeSlice, Sem.run_bind, run_underlying hu, Result.andThen_ok, asInt, asIntOf, typeInfo, run_program, i1, Sem.run_pure, wl, wc]
              rw [if_neg (by
                simp only [i3, Bool.or_eq_true, decide_eq_true_eq, not_or]
                refine ⟨⟨⟨by omega, ?_⟩, by omega⟩, by omega⟩
                omega)]
              simp [sizeOf_run z3, h0, newRow, z1]
            · refine .osl _ (by rw [length_newBlk]; omega) (fun ds hd => ?_) (by omega)
              rw [hget_newBlk_same] at hd
              injection hd with hd
              subst hd
              exact ⟨Nat.le_refl _, fun _ => ⟨_, _, n3, rfl, by rw [hcs]; omega⟩⟩
        · cases h
    · cases h
  · cases h

end
end Go.Ev
/-
  Each operation on data is what the operation does: '==' and '!='.
-/
namespace Go.Ev

section
variable {X : Cx} {P : Program} {ok : Nat → Prop} {w w' : World} {ι : Iota} {H H' : Heap}

theorem cellEq_run {d : Nat} {t : TypeId} {k : CK} {x y : D} {a b : Value} {r : Bool}
    (hp : P.underlying t = some .bool ∧ k = .b ∨ (∃ q, P.underlying t = some (.int q)) ∧ k = .i ∨ P.underlying t = some .string ∧ k = .s) (hx : Rep ok w ι H x a) (hy : Rep ok w ι H y b) (h : cellEq k x y = some r) :
    (Op.equalIn (d + 1) t a b).run P w = .ok r w := by
  unfold cellEq at h
  rcases hp with ⟨hp, rfl⟩ | ⟨⟨q, hp⟩, rfl⟩ | ⟨hp, rfl⟩
  · split at h <;> first | contradiction | skip
    injection h with h
    subst h
    cases hx; cases hy
    exact run_equalIn_bool' w d t _ _ hp
  · split at h <;> first | contradiction | skip
    split at h
    · rename_i he
      subst he
      injection h with h
      subst h
      cases hx; cases hy
      exact run_equalIn_int w d t _ _ _ _ hp
    · cases h
  · split at h <;> first | contradiction | skip
    injection h with h
    subst h
    cases hx; cases hy
    rw [run_equalIn_string w d t _ _ hp]
    simp

theorem cellsEq_length : ∀ {ks : List CK} {a c : List D} {r : Bool}, cellsEq ks a c = some r → a.length = ks.length ∧ c.length = ks.length
  | [], [], [], _, _ => ⟨rfl, rfl⟩
  | k :: ks, x :: a, y :: c, r, h => by
    simp only [cellsEq] at h
    split at h
    · rename_i h1 h2
      obtain ⟨k1, k2⟩ := cellsEq_length h2
      simp [k1, k2]
    · cases h
  | [], _ :: _, _, _, h | [], [], _ :: _, _, h | _ :: _, [], _, _, h | _ :: _, _ :: _, [], _, h => by simp [cellsEq] at h

theorem cellsEq_append : ∀ {ks ls : List CK} {a c b d : List D} {r : Bool}, a.length = ks.length → c.length = ks.length → cellsEq (ks ++ ls) (a ++ b) (c ++ d) = some r → ∃ p q, cellsEq ks a c = some p ∧ cellsEq ls b d = some q ∧ r = (p && q)
  | [], ls, [], [], b, d, r, _, _, h => ⟨true, r, rfl, h, by simp⟩
  | k :: ks, ls, x :: a, y :: c, b, d, r, hl, hl', h => by
    simp only [List.cons_append, cellsEq] at h
    split at h
    · rename_i p q h1 h2
      injection h with h
      obtain ⟨p', q', k1, k2, k3⟩ := cellsEq_append (by simpa using hl) (by simpa using hl') h2
      exact ⟨p && p', q', by simp [cellsEq, h1, k1], k2, by rw [← h, k3, Bool.and_assoc]⟩
    · cases h
  | [], _, _ :: _, _, _, _, _, hl, _, _ => by simp at hl
  | [], _, _, _ :: _, _, _, _, _, hl, _ => by simp at hl
  | _ :: _, _, [], _, _, _, _, hl, _, _ => by simp at hl
  | _ :: _, _, _ :: _, [], _, _, _, _, hl, _ => by simp at hl

/-- Two parts of one plain type are held against each other cell by cell. -/
def PartEq (P : Program) (d : Nat) (t : TypeId) (ks : List CK) : Prop :=
  ∀ (ok : Nat → Prop) (w : World) (ι : Iota) (H : Heap) (xs ys : List D) (vs us : Array Value) (off : Nat) (r : Bool), Rep ok w ι H (.agg xs) (.agg vs) → Rep ok w ι H (.agg ys) (.agg us) →
    off + ks.length ≤ xs.length → off + ks.length ≤ ys.length → cellsEq ks ((xs.drop off).take ks.length) ((ys.drop off).take ks.length) = some r →
    ∃ a b, (part t vs off).run P w = .ok a w ∧ (part t us off).run P w = .ok b w ∧ (Op.equalIn d t a b).run P w = .ok r w

def AggEq (P : Program) (d : Nat) (t : TypeId) (ks : List CK) : Prop :=
  ∀ (ok : Nat → Prop) (w : World) (ι : Iota) (H : Heap) (xs ys : List D) (vs us : Array Value) (r : Bool), Rep ok w ι H (.agg xs) (.agg vs) → Rep ok w ι H (.agg ys) (.agg us) →
    cellsEq ks xs ys = some r → (Op.equalIn d t (.agg vs) (.agg us)).run P w = .ok r w

theorem drop_split (xs : List D) (off k : Nat) : xs.drop off = (xs.drop off).take k ++ xs.drop (off + k) := by
  rw [← List.drop_drop, List.take_append_drop]

theorem plainFs_pre (P : Program) (g : TypeId → Option (List CK)) : ∀ (fs : List Field) (acc ks : List CK), plainFs P g fs acc = some ks → ∃ ls, ks = acc ++ ls
  | [], acc, ks, h => ⟨[], by simp only [plainFs, Option.some.injEq] at h; simp [h]⟩
  | f :: fs, acc, ks, h => by
    simp only [plainFs] at h
    split at h
    · split at h
      · obtain ⟨ls, e⟩ := plainFs_pre P g fs _ _ h
        exact ⟨_, by rw [e, List.append_assoc]⟩
      · cases h
    · cases h

theorem eqFields_run {d : Nat} {g : TypeId → Option (List CK)} (hg : ∀ t n, g t = some n → szOf P t = n.length → PartEq P d t n) {xs ys : List D} {vs us : Array Value} (hx : Rep ok w ι H (.agg xs) (.agg vs)) (hy : Rep ok w ι H (.agg ys) (.agg us)) :
    ∀ (fs : List Field) (acc ls : List CK) (r : Bool), plainFs P g fs acc = some (acc ++ ls) → cellsEq ls (xs.drop acc.length) (ys.drop acc.length) = some r → acc.length ≤ xs.length → acc.length ≤ ys.length → (Op.eqFields d vs us fs).run P w = .ok r w
  | [], acc, ls, r, h, hc, _, _ => by
    simp only [plainFs, Option.some.injEq] at h
    have : ls = [] := by simpa using h
    subst this
    obtain ⟨l1, l2⟩ := cellsEq_length hc
    rw [List.eq_nil_of_length_eq_zero l1, List.eq_nil_of_length_eq_zero l2] at hc
    simp only [cellsEq, Option.some.injEq] at hc
    subst hc
    simp [Op.eqFields]
  | f :: fs, acc, ls, r, h, hc, hlx, hly => by
    simp only [plainFs] at h
    split at h
    · rename_i ks hk
      split at h
      · rename_i hcond
        obtain ⟨h1, h2, h3, h4⟩ := hcond
        obtain ⟨ms, hms⟩ := plainFs_pre P g fs _ _ h
        have hls : ls = ks ++ ms := by
          have : acc ++ ls = acc ++ (ks ++ ms) := by rw [hms, List.append_assoc]
          exact List.append_cancel_left this
        subst hls
        obtain ⟨l1, l2⟩ := cellsEq_length hc
        simp only [List.length_drop, List.length_append] at l1 l2
        rw [drop_split xs acc.length ks.length, drop_split ys acc.length ks.length] at hc
        obtain ⟨p, q, c1, c2, c3⟩ := cellsEq_append (by simp; omega) (by simp; omega) hc
        obtain ⟨a, b, p1, p2, p3⟩ := hg f.type ks hk h3 ok w ι H xs ys vs us acc.length p hx hy (by omega) (by omega) c1
        have ih := eqFields_run hg hx hy fs (acc ++ ks) ms q (by rw [h, List.append_assoc]) (by simpa using c2) (by simp; omega) (by simp; omega)
        rw [← h1] at p1 p2
        simp only [Op.eqFields, h2, ne_eq, not_false_eq_true, if_true, Sem.run_bind, p1, p2, p3, Result.andThen_ok]
        cases p
        · simp [c3]
        · simpa [c3] using ih
      · cases h
    · cases h

theorem flatten_replicate_succ {α : Type} (n : Nat) (l : List α) : (List.replicate (n + 1) l).flatten = l ++ (List.replicate n l).flatten := by
  rw [List.replicate_succ, List.flatten_cons]

theorem eqItems_run {d : Nat} {ks : List CK} {e : TypeId} (he : PartEq P d e ks) {xs ys : List D} {vs us : Array Value} (hx : Rep ok w ι H (.agg xs) (.agg vs)) (hy : Rep ok w ι H (.agg ys) (.agg us)) :
    ∀ (m i : Nat) (r : Bool), cellsEq (List.replicate m ks).flatten (xs.drop (i * ks.length)) (ys.drop (i * ks.length)) = some r → i * ks.length ≤ xs.length → i * ks.length ≤ ys.length → (Op.eqItems d e ks.length vs us (List.range' i m)).run P w = .ok r w
  | 0, i, r, hc, _, _ => by
    obtain ⟨l1, l2⟩ := cellsEq_length hc
    have e1 : xs.drop (i * ks.length) = [] := List.eq_nil_of_length_eq_zero (by rw [l1]; rfl)
    have e2 : ys.drop (i * ks.length) = [] := List.eq_nil_of_length_eq_zero (by rw [l2]; rfl)
    rw [e1, e2] at hc
    simp only [List.replicate_zero, List.flatten_nil, cellsEq, Option.some.injEq] at hc
    subst hc
    simp [Op.eqItems]
  | m + 1, i, r, hc, hlx, hly => by
    obtain ⟨l1, l2⟩ := cellsEq_length hc
    rw [flatten_replicate_succ] at hc l1 l2
    simp only [List.length_drop, List.length_append] at l1 l2
    have hi1 : (i + 1) * ks.length = i * ks.length + ks.length := by rw [Nat.add_mul, Nat.one_mul]
    rw [drop_split xs (i * ks.length) ks.length, drop_split ys (i * ks.length) ks.length] at hc
    obtain ⟨p, q, c1, c2, c3⟩ := cellsEq_append (by simp; omega) (by simp; omega) hc
    obtain ⟨a, b, p1, p2, p3⟩ := he ok w ι H xs ys vs us (i * ks.length) p hx hy (by omega) (by omega) c1
    have ih := eqItems_run he hx hy m (i + 1) q (by rw [hi1]; exact c2) (by omega) (by omega)
    rw [List.range'_succ]
    simp only [Op.eqItems, Sem.run_bind, p1, p2, p3, Result.andThen_ok]
    cases p
    · simp [c3]
    · simpa [c3] using ih

theorem aggQ_plain {t : TypeId} {m : Nat} {ks : List CK} (h : plainTy P m t = some ks) :
    aggQ P t = some true ∨ (aggQ P t = some false ∧ ∃ k, ks = [k] ∧ (P.underlying t = some .bool ∧ k = .b ∨ (∃ q, P.underlying t = some (.int q)) ∧ k = .i ∨ P.underlying t = some .string ∧ k = .s)) := by
  cases m with
  | zero => simp [plainTy] at h
  | succ m =>
    unfold plainTy at h
    unfold aggQ
    split at h
    · rename_i hu; injection h with h; exact .inr ⟨by simp [hu], _, h.symm, .inl ⟨hu, rfl⟩⟩
    · rename_i hu; injection h with h; exact .inr ⟨by simp [hu], _, h.symm, .inr (.inl ⟨⟨_, hu⟩, rfl⟩)⟩
    · rename_i hu; injection h with h; exact .inr ⟨by simp [hu], _, h.symm, .inr (.inr ⟨hu, rfl⟩)⟩
    · rename_i hu; exact .inl (by simp [hu])
    · rename_i hu; exact .inl (by simp [hu])
    · cases h

theorem plainEq : ∀ (m d : Nat) (t : TypeId) (ks : List CK), plainTy P m t = some ks → (szOf P t = ks.length → PartEq P (d + m) t ks) ∧ (aggQ P t = some true → AggEq P (d + m) t ks)
  | 0, _, _, _, h => by simp [plainTy] at h
  | m + 1, d, t, ks, h => by
    have hagg : aggQ P t = some true → AggEq P (d + (m + 1)) t ks := by
      intro hq ok w ι H xs ys vs us r hx hy hc
      unfold plainTy at h
      unfold aggQ at hq
      split at h
      · rename_i hu; simp [hu] at hq
      · rename_i hu; simp [hu] at hq
      · rename_i hu; simp [hu] at hq
      · rename_i n' e hu
        split at h
        · rename_i ks' hk
          split at h
          · rename_i hcond
            injection h with h
            subst h
            obtain ⟨i, hi, _⟩ := info_sz (P := P) (t := e) (by omega)
            have ih := (plainEq m d e ks' hk).1 hcond.1
            rw [show d + (m + 1) = (d + m) + 1 from rfl, run_equalIn_array w (d + m) vs us hu hi]
            have hck : P.cellsOf e = ks'.length := hcond.1
            rw [hck, List.range_eq_range']
            exact eqItems_run ih hx hy n' 0 r (by simpa using hc) (by omega) (by omega)
          · cases h
        · cases h
      · rename_i fs hu
        split at h
        · cases h
        · rename_i hst
          have hfs : P.fieldsOf t = fs := by simp [Program.fieldsOf, hu]
          rw [show d + (m + 1) = (d + m) + 1 from rfl, run_equalIn_struct w (d + m) t vs us (by rw [hfs]; exact hu) (by simpa using hst), hfs]
          exact eqFields_run (g := plainTy P m) (fun t n ht hz => (plainEq m d t n ht).1 hz) hx hy fs.toList [] ks r (by simpa using h) (by simpa using hc) (Nat.zero_le _) (Nat.zero_le _)
      · cases h
    refine ⟨?_, hagg⟩
    intro hsz ok w ι H xs ys vs us off r hx hy hlx hly hc
    rcases aggQ_plain h with hq | ⟨hq, k, rfl, hkind⟩
    · obtain ⟨a, a1, a2⟩ := part_run (P := P) (t := t) (off := off) (d := .agg ((xs.drop off).take ks.length)) hx (by simp [partD, hq, hsz, hlx])
      obtain ⟨b, b1, b2⟩ := part_run (P := P) (t := t) (off := off) (d := .agg ((ys.drop off).take ks.length)) hy (by simp [partD, hq, hsz, hly])
      refine ⟨a, b, a1, b1, ?_⟩
      obtain ⟨va, rfl⟩ : ∃ va, a = .agg va := by cases a2; exact ⟨_, rfl⟩
      obtain ⟨vb, rfl⟩ : ∃ vb, b = .agg vb := by cases b2; exact ⟨_, rfl⟩
      exact hagg hq ok w ι H _ _ _ _ r a2 b2 hc
    · simp only [List.length_cons, List.length_nil, Nat.zero_add] at hlx hly hc
      have hxo : xs[off]? = some (xs[off]'(by omega)) := List.getElem?_eq_getElem (by omega)
      have hyo : ys[off]? = some (ys[off]'(by omega)) := List.getElem?_eq_getElem (by omega)
      have t1 : (xs.drop off).take 1 = [xs[off]'(by omega)] := by rw [List.drop_eq_getElem_cons (show off < xs.length by omega)]; rfl
      have t2 : (ys.drop off).take 1 = [ys[off]'(by omega)] := by rw [List.drop_eq_getElem_cons (show off < ys.length by omega)]; rfl
      rw [t1, t2] at hc
      simp only [cellsEq] at hc
      split at hc
      · rename_i p q hpq hq'
        injection hc with hc
        injection hq' with hq'
        subst hq'
        obtain ⟨a, a1, a2⟩ := part_run (P := P) (t := t) (off := off) hx (by simp only [partD, hq]; exact hxo)
        obtain ⟨b, b1, b2⟩ := part_run (P := P) (t := t) (off := off) hy (by simp only [partD, hq]; exact hyo)
        refine ⟨a, b, a1, b1, ?_⟩
        have := cellEq_run (P := P) (d := d + m) hkind a2 b2 hpq
        rw [show d + (m + 1) = d + m + 1 from rfl, this, ← hc]
        simp
      · cases hc

theorem eqGuard_none {op : BinOp} {t : TypeId} {x y : Operand} {a b : Value} (h1 : ∀ p q, a = .agg p → b = .agg q → P.eqGuardType P.depth t = false) (h2 : a = .nilIface → b = .nilIface → (isConstOp x || isConstOp y) = true) :
    (eqGuard op t x y a b).run P w = .ok () w := by
  by_cases ha : a = .nilIface ∧ b = .nilIface
  · obtain ⟨rfl, rfl⟩ := ha
    have := h2 rfl rfl
    cases x <;> cases y <;> simp [isConstOp] at this <;> cases op <;> simp [eqGuard]
  · by_cases hg : ∃ p q, a = .agg p ∧ b = .agg q
    · obtain ⟨p, q, rfl, rfl⟩ := hg
      cases op <;> simp [eqGuard, run_program, h1 p q rfl rfl]
    · cases op <;> simp only [eqGuard] <;> first | rfl | skip
      · rw [if_neg (by simp)]
        split
        · exact absurd ⟨rfl, rfl⟩ ha
        · exact absurd ⟨_, _, rfl, rfl⟩ hg
        · rfl
      · rw [if_neg (by simp)]
        split
        · exact absurd ⟨rfl, rfl⟩ ha
        · exact absurd ⟨_, _, rfl, rfl⟩ hg
        · rfl

theorem equalIn_nil_slice (d : Nat) {t e : TypeId} (hu : P.underlying t = some (.slice e)) (q : Option Addr) (n c n' c' : Nat) : (Op.equalIn (d + 1) t (.slice none n' c') (.slice q n c)).run P w = .ok q.isNone w := by
  simp only [Op.equalIn, Sem.run_bind, run_underlying hu, Result.andThen_ok, Sem.run_pure]
theorem equalIn_slice_nil (d : Nat) {t e : TypeId} (hu : P.underlying t = some (.slice e)) (q : Option Addr) (n c n' c' : Nat) : (Op.equalIn (d + 1) t (.slice q n c) (.slice none n' c')).run P w = .ok q.isNone w := by
  cases q <;> simp only [Op.equalIn, Sem.run_bind, run_underlying hu, Result.andThen_ok, Sem.run_pure, Option.isNone]
theorem equalIn_nili_nili (d : Nat) {t : TypeId} {ms : Array (String × TypeId)} (hu : P.underlying t = some (.interface ms)) : (Op.equalIn (d + 1) t .nilIface .nilIface).run P w = .ok true w := by
  simp only [Op.equalIn, Sem.run_bind, run_underlying hu, Result.andThen_ok, Sem.run_pure]
theorem equalIn_iface_nili (d : Nat) {t u : TypeId} {v : Value} {ms : Array (String × TypeId)} (hu : P.underlying t = some (.interface ms)) : (Op.equalIn (d + 1) t (.iface u v) .nilIface).run P w = .ok false w := by
  simp only [Op.equalIn, Sem.run_bind, run_underlying hu, Result.andThen_ok, Sem.run_pure]
theorem equalIn_nilp_nilp (d : Nat) {t e : TypeId} (hu : P.underlying t = some (.pointer e)) : (Op.equalIn (d + 1) t (.pointer none) (.pointer none)).run P w = .ok true w := by
  simp only [Op.equalIn, Sem.run_bind, run_underlying hu, Result.andThen_ok, Sem.run_pure, Option.isNone]
theorem equalIn_ptr_nilp (d : Nat) {t e : TypeId} {a : Addr} (hu : P.underlying t = some (.pointer e)) : (Op.equalIn (d + 1) t (.pointer (some a)) (.pointer none)).run P w = .ok false w := by
  simp only [Op.equalIn, Sem.run_bind, run_underlying hu, Result.andThen_ok, Sem.run_pure]

theorem equal_nil_slice {t e : TypeId} (hu : P.underlying t = some (.slice e)) (q : Option Addr) (n c n' c' : Nat) : (Op.equal t (.slice none n' c') (.slice q n c)).run P w = .ok q.isNone w := equalIn_nil_slice 9999 hu q n c n' c'
theorem equal_slice_nil {t e : TypeId} (hu : P.underlying t = some (.slice e)) (q : Option Addr) (n c n' c' : Nat) : (Op.equal t (.slice q n c) (.slice none n' c')).run P w = .ok q.isNone w := equalIn_slice_nil 9999 hu q n c n' c'
theorem equal_nili_nili {t : TypeId} {ms : Array (String × TypeId)} (hu : P.underlying t = some (.interface ms)) : (Op.equal t .nilIface .nilIface).run P w = .ok true w := equalIn_nili_nili 9999 hu
theorem equal_iface_nili {t u : TypeId} {v : Value} {ms : Array (String × TypeId)} (hu : P.underlying t = some (.interface ms)) : (Op.equal t (.iface u v) .nilIface).run P w = .ok false w := equalIn_iface_nili 9999 hu
theorem equal_nilp_nilp {t e : TypeId} (hu : P.underlying t = some (.pointer e)) : (Op.equal t (.pointer none) (.pointer none)).run P w = .ok true w := equalIn_nilp_nilp 9999 hu
theorem equal_ptr_nilp {t e : TypeId} {a : Addr} (hu : P.underlying t = some (.pointer e)) : (Op.equal t (.pointer (some a)) (.pointer none)).run P w = .ok false w := equalIn_ptr_nilp 9999 hu

theorem equal_iface_int (w : World) {t tx : TypeId} {ms : Array (String × TypeId)} {k q : IntKind} (a b : Int)
    (ht : P.underlying t = some (.interface ms)) (hc : (P.info? tx).map (·.comparable) = some true) (hx : P.underlying tx = some (.int q)) :
    (Op.equal t (.iface tx (.int k a)) (.iface tx (.int k b))).run P w = .ok (a == b) w := by
  cases hi : P.info? tx with
  | none => simp [hi] at hc
  | some i =>
    have hcc : i.comparable = true := by simpa [hi] using hc
    have h : ∀ d : Nat, (Op.equalIn (d + 2) t (.iface tx (.int k a)) (.iface tx (.int k b))).run P w = .ok (a == b) w := fun d => by
      simp [Op.equalIn, run_underlying ht, run_underlying hx, typeInfo, hi, hcc]
    simp [Op.equal, Op.maxDepth, h 9998]
theorem binOp_of_equal {op : BinOp} {t : TypeId} {a b : Value} {r : Bool} (ho : op = .eql ∨ op = .neq) (he : (Op.equal t a b).run P w = .ok r w)
    (hb : binOp .eql t a b = (do pure (.bool (← Op.equal t a b))) ∧ binOp .neq t a b = (do pure (.bool (!(← Op.equal t a b))))) :
    (binOp op t a b).run P w = .ok (.bool (if op = .eql then r else !r)) w := by
  rcases ho with rfl | rfl
  · rw [hb.1]; simp [he]
  · rw [hb.2]; simp [he]

theorem eqD_run {t : TypeId} {c : Bool} {x y : D} {a b : Value} {r : Bool} (hx : Rep ok w ι H x a) (hy : Rep ok w ι H y b) (h : eqD P t c x y = some r) :
    (∀ p q, a = .agg p → b = .agg q → P.eqGuardType P.depth t = false) ∧ (a = .nilIface → b = .nilIface → c = true) ∧
    (∀ op, (op = .eql ∨ op = .neq) → (binOp op t a b).run P w = .ok (.bool (if op = .eql then r else !r)) w) := by
  unfold eqD at h
  split at h
  · cases hx; cases hy
    split at h
    · rename_i hu
      injection h with h
      subst h
      exact ⟨fun _ _ h => (by cases h), fun h => (by cases h), fun op ho => binOp_of_equal ho (run_equal_bool w t _ _ hu) ⟨rfl, rfl⟩⟩
    · cases h
  · split at h
    · rename_i ks hks
      split at h
      · rename_i hcond
        obtain ⟨vs, rfl⟩ : ∃ va, a = .agg va := by cases hx; exact ⟨_, rfl⟩
        obtain ⟨us, rfl⟩ : ∃ vb, b = .agg vb := by cases hy; exact ⟨_, rfl⟩
        have he : (Op.equal t (.agg vs) (.agg us)).run P w = .ok r w := (plainEq 50 9950 t ks hks).2 hcond.1 ok w ι H _ _ _ _ r hx hy h
        exact ⟨fun _ _ _ _ => hcond.2, fun h => (by cases h), fun op ho => binOp_of_equal ho he ⟨rfl, rfl⟩⟩
      · cases h
    · cases h
  · split at h
    · rename_i e hu
      injection h with h
      subst h
      cases hx
      cases hy with
      | vnil => exact ⟨fun _ _ h => (by cases h), fun h => (by cases h), fun op ho => binOp_of_equal ho (equal_nil_slice hu _ _ _ _ _) ⟨rfl, rfl⟩⟩
      | vsl a f ha hc hr hh hlc => exact ⟨fun _ _ h => (by cases h), fun h => (by cases h), fun op ho => binOp_of_equal ho (equal_nil_slice hu _ _ _ _ _) ⟨rfl, rfl⟩⟩
    · cases h
  · split at h
    · rename_i e hu
      injection h with h
      subst h
      cases hy
      cases hx with
      | vnil => exact ⟨fun _ _ h => (by cases h), fun h => (by cases h), fun op ho => binOp_of_equal ho (equal_slice_nil hu _ _ _ _ _) ⟨rfl, rfl⟩⟩
      | vsl a f ha hc hr hh hlc => exact ⟨fun _ _ h => (by cases h), fun h => (by cases h), fun op ho => binOp_of_equal ho (equal_slice_nil hu _ _ _ _ _) ⟨rfl, rfl⟩⟩
    · cases h
  · split at h
    · rename_i e hu
      injection h with h
      subst h
      cases hy
      cases hx
      exact ⟨fun _ _ h => (by cases h), fun h => (by cases h), fun op ho => binOp_of_equal ho (equal_slice_nil hu _ _ _ _ _) ⟨rfl, rfl⟩⟩
    · cases h
  · cases hx; cases hy
    split at h
    · rename_i e hu
      split at h
      · rename_i hc
        injection h with h
        subst h
        exact ⟨fun _ _ h => (by cases h), fun _ _ => hc, fun op ho => binOp_of_equal ho (equal_nili_nili hu) ⟨rfl, rfl⟩⟩
      · cases h
    · cases h
  · rename_i s k na s' k' nb
    cases hx with
    | iface hx =>
    cases hy with
    | iface hy =>
    cases hx; cases hy
    split at h
    · rename_i e q hu hs
      split at h
      · rename_i hc
        obtain ⟨rfl, rfl, hc⟩ := hc
        injection h with h
        subst h
        have hcc : (P.info? s).map (·.comparable) = some true := by
          unfold cmpQ at hc
          cases hm : (P.info? s).map (·.comparable) with
          | none => rw [hm] at hc; simp at hc
          | some b => rw [hm] at hc; simpa using hc
        exact ⟨fun _ _ h => (by cases h), fun h => (by cases h), fun op ho => binOp_of_equal ho (equal_iface_int w na nb hu hcc hs) ⟨rfl, rfl⟩⟩
      · cases h
    · cases h
  · cases hx; cases hy
    split at h
    · rename_i e hu
      injection h with h
      subst h
      exact ⟨fun _ _ h => (by cases h), fun h => (by cases h), fun op ho => binOp_of_equal ho (equal_iface_nili hu) ⟨rfl, rfl⟩⟩
    · cases h
  · cases hx; cases hy
    split at h
    · rename_i e hu
      injection h with h
      subst h
      exact ⟨fun _ _ h => (by cases h), fun h => (by cases h), fun op ho => binOp_of_equal ho (equal_nilp_nilp hu) ⟨rfl, rfl⟩⟩
    · cases h
  · cases hx; cases hy
    split at h
    · rename_i e hu
      injection h with h
      subst h
      exact ⟨fun _ _ h => (by cases h), fun h => (by cases h), fun op ho => binOp_of_equal ho (equal_ptr_nilp hu) ⟨rfl, rfl⟩⟩
    · cases h
  · cases hx; cases hy
    split at h
    · rename_i e hu
      injection h with h
      subst h
      exact ⟨fun _ _ h => (by cases h), fun h => (by cases h), fun op ho => binOp_of_equal ho (equal_ptr_nilp hu) ⟨rfl, rfl⟩⟩
    · cases h
  · cases h

theorem binOp_run {op : BinOp} {t : TypeId} {x y : Operand} {p q d : D} {a b : Value} (hx : Rep ok w ι H p a) (hy : Rep ok w ι H q b) (h : binD P op t (isConstOp x || isConstOp y) p q = some d) :
    ∃ v, (do eqGuard op t x y a b; binOp op t a b : Sem Value).run P w = .ok v w ∧ Rep ok w ι H d v := by
  have fin : (∀ p q, a = .agg p → b = .agg q → P.eqGuardType P.depth t = false) → (a = .nilIface → b = .nilIface → (isConstOp x || isConstOp y) = true) → ∀ v, (binOp op t a b).run P w = .ok v w →
      (do eqGuard op t x y a b; binOp op t a b : Sem Value).run P w = .ok v w := by
    intro h1 h2 v hv
    rw [Sem.run_bind, eqGuard_none h1 h2]
    exact hv
  unfold binD at h
  split at h
  · cases hx; cases hy
    rename_i k a k' b
    obtain ⟨v, h1, h2⟩ := shiftD_run (P := P) (ok := ok) (w := w) (ι := ι) (H := H) (t := t) (k' := k') (.inl rfl) h
    exact ⟨v, fin (fun _ _ h => by cases h) (fun h => by cases h) v h1, h2⟩
  · cases hx; cases hy
    rename_i k a k' b
    obtain ⟨v, h1, h2⟩ := shiftD_run (P := P) (ok := ok) (w := w) (ι := ι) (H := H) (t := t) (k' := k') (.inr rfl) h
    exact ⟨v, fin (fun _ _ h => by cases h) (fun h => by cases h) v h1, h2⟩
  · rename_i op' k a k' b hns1 hns2
    split at h
    · rename_i hk
      subst hk
      cases hx; cases hy
      obtain ⟨v, h1, h2⟩ := intD_run (P := P) (ok := ok) (w := w) (ι := ι) (H := H) (t := t) (fun e => by subst e; simp_all) (fun e => by subst e; simp_all) h
      exact ⟨v, fin (fun _ _ h => by cases h) (fun h => by cases h) v h1, h2⟩
    · cases h
  · cases hx; cases hy
    obtain ⟨v, h1, h2⟩ := strD_run (P := P) (ok := ok) (w := w) (ι := ι) (H := H) (t := t) h
    exact ⟨v, fin (fun _ _ h => by cases h) (fun h => by cases h) v h1, h2⟩
  · cases he : eqD P t (isConstOp x || isConstOp y) p q with
    | none => simp [he] at h
    | some r =>
      simp only [he, Option.map_some, Option.some.injEq] at h
      subst h
      obtain ⟨e2, e3, e4⟩ := eqD_run hx hy he
      exact ⟨.bool r, fin e2 e3 _ (by rw [e4 .eql (.inl rfl)]; simp), .bool _⟩
  · cases he : eqD P t (isConstOp x || isConstOp y) p q with
    | none => simp [he] at h
    | some r =>
      simp only [he, Option.map_some, Option.some.injEq] at h
      subst h
      obtain ⟨e2, e3, e4⟩ := eqD_run hx hy he
      exact ⟨.bool !r, fin e2 e3 _ (by rw [e4 .neq (.inr rfl)]; simp), .bool _⟩
  · cases h

end
end Go.Ev
/-
  Calls: what goes in, what comes out.
-/
namespace Go.Ev

section
variable {X : Cx} {P : Program} {ok ok' : Nat → Prop} {w w' : World} {ι : Iota} {H H' : Heap}

theorem Rep.okMono {d : D} {v : Value} (h : Rep ok w ι H d v) (hm : ∀ b, ok b → ok' b) : Rep ok' w ι H d v := by
  induction h with
  | bool b => exact .bool b
  | int k n => exact .int k n
  | str s => exact .str s
  | nilp => exact .nilp
  | nilf => exact .nilf
  | nili => exact .nili
  | raw v => exact .raw v
  | agg hl hc h ih => exact .agg hl hc ih
  | tup hl h ih => exact .tup hl ih
  | fn hl h ih => exact .fn hl ih
  | iface h ih => exact .iface ih
  | optr a hi h => exact .optr a hi h
  | osl a hi h hlc => exact .osl a hi h hlc
  | vptr a f ha hc hr h ih => exact .vptr a f (fun d hd => hm _ (ha d hd)) hc hr ih
  | vnil => exact .vnil
  | vsl a f ha hc hr h hlc ih => exact .vsl a f (fun d hd => hm _ (ha d hd)) hc hr ih hlc

/-- What has nothing of others' memory in it reads the same whatever may be read. -/
theorem Rep.vfree {d : D} {v : Value} (h : Rep ok w ι H d v) (hv : vFree d = true) (ok' : Nat → Prop) : Rep ok' w ι H d v := by
  induction h with
  | bool b => exact .bool b
  | int k n => exact .int k n
  | str s => exact .str s
  | nilp => exact .nilp
  | nilf => exact .nilf
  | nili => exact .nili
  | raw v => exact .raw v
  | agg hl hc h ih =>
    simp only [vFree, vFreeL_iff] at hv
    exact .agg hl hc fun j d hj => ih j d hj (hv d (mem_of_get? hj))
  | tup hl h ih =>
    simp only [vFree, vFreeL_iff] at hv
    exact .tup hl fun j d hj => ih j d hj (hv d (mem_of_get? hj))
  | fn hl h ih =>
    simp only [vFree, vFreeL_iff] at hv
    exact .fn hl fun j d hj => ih j d hj (hv d (mem_of_get? hj))
  | iface h ih => exact .iface (ih hv)
  | optr a hi h => exact .optr a hi h
  | osl a hi h hlc => exact .osl a hi h hlc
  | vptr a f ha hc hr h ih => simp [vFree] at hv
  | vnil => exact .vnil
  | vsl a f ha hc hr h hlc ih => simp [vFree] at hv

/-- All that may be read, the run's own blocks too. -/
def okAll (ok : Nat → Prop) (ι : Iota) (H : Heap) (b : Nat) : Prop := ok b ∨ ∃ i ds s, hget H i = some ds ∧ ι i = some (b, s)

theorem allFree {ds : List D} (h : ds.all idFree = true) : ∀ d, d ∈ ds → idFree d = true := by
  intro d hd
  exact List.all_eq_true.1 h d hd

theorem freeze_rep (hs : Sim X ok w ι H) : ∀ (d : D) {d' : D} {v : Value}, Rep ok w ι H d v → freeze H d = some d' → Rep (okAll ok ι H) w iota0 [] d' v
  | .osl i st off len k, d', v, h, hf => by
    simp only [freeze] at hf
    split at hf
    · rename_i ds hd
      split at hf
      · rename_i hcond
        injection hf with hf
        subst hf
        cases h with
        | @osl _ _ _ _ _ _ _ c a hi hh hlc =>
          obtain ⟨b, s, q1, rfl, q3⟩ := (hh ds hd).2 hcond.1
          obtain ⟨b', arr, e, fr, k1, k2, k3, k4, k5, k6, k7, k8⟩ := hs.blk i ds hd
          have k1' := k1
          rw [q1] at k1
          injection k1 with k1
          injection k1 with k1 _
          subst k1
          refine .vsl _ (fun j => arr.getD (off + j) undef) (fun _ _ => .inr ⟨i, ds, _, hd, q1⟩) (fun d hd => k7 d (List.mem_of_mem_drop (List.mem_of_mem_take hd))) (fun j d hj => ?_) (fun j d hj => ?_) hlc
          · rw [List.getElem?_take] at hj
            split at hj
            · rw [List.getElem?_drop] at hj
              have hlt : off + j < arr.size := Nat.lt_of_lt_of_le (List.getElem?_eq_some_iff.1 hj).1 k4
              rw [addr_add, cell_of_heap k3]
              simp [hlt]
            · cases hj
          · rw [List.getElem?_take] at hj
            split at hj
            · rw [List.getElem?_drop] at hj
              exact ((k8 _ d hj).free (allFree hcond.2.2 d (mem_of_get? hj)) _ _).okMono fun b hb => .inl hb
            · cases hj
      · cases hf
    · cases hf
  | .optr i st off, d', v, h, hf => by
    simp only [freeze] at hf
    split at hf
    · rename_i ds hd
      split at hf
      · rename_i hcond
        injection hf with hf
        subst hf
        cases h with
        | optr a hi hh =>
          obtain ⟨b, s, q1, rfl⟩ := (hh ds hd).2 hcond.1
          obtain ⟨b', arr, e, fr, k1, k2, k3, k4, k5, k6, k7, k8⟩ := hs.blk i ds hd
          rw [q1] at k1
          injection k1 with k1
          injection k1 with k1 _
          subst k1
          refine .vptr _ (fun j => arr.getD (off + j) undef) (fun _ _ => .inr ⟨i, ds, _, hd, q1⟩) (fun d hd => k7 d (List.mem_of_mem_drop hd)) (fun j d hj => ?_) (fun j d hj => ?_)
          · rw [List.getElem?_drop] at hj
            have hlt : off + j < arr.size := Nat.lt_of_lt_of_le (List.getElem?_eq_some_iff.1 hj).1 k4
            rw [addr_add, cell_of_heap k3]
            simp [hlt]
          · rw [List.getElem?_drop] at hj
            exact ((k8 _ d hj).free (allFree hcond.2 d (mem_of_get? hj)) _ _).okMono fun b hb => .inl hb
      · cases hf
    · cases hf
  | .fn f caps, d', v, h, hf => by
    simp only [freeze] at hf
    cases hc : freeze.freezeL H caps with
    | none => simp [hc] at hf
    | some cs =>
      simp only [hc, Option.map_some, Option.some.injEq] at hf
      subst hf
      cases h with
      | fn hl hh =>
        obtain ⟨l1, l2⟩ := freezeL_rep hs caps (vs := fun j => (_ : Array Value).getD j undef) hh hc
        exact .fn (by rw [hl, l1]) l2
  | .agg cs, d', v, h, hf => by
    simp only [freeze] at hf
    cases hc : freeze.freezeL H cs with
    | none => simp [hc] at hf
    | some cs' =>
      simp only [hc, Option.map_some, Option.some.injEq] at hf
      subst hf
      cases h with
      | agg hl hcc hh =>
        obtain ⟨l1, l2⟩ := freezeL_rep hs cs (vs := fun j => (_ : Array Value).getD j undef) hh hc
        refine .agg (by rw [hl, l1]) ?_ l2
        intro d hd
        obtain ⟨j, hj⟩ := List.mem_iff_getElem?.1 hd
        have hr := l2 j d hj
        have hjl : j < cs.length := by rw [l1]; exact (List.getElem?_eq_some_iff.1 hj).1
        have h0 : cs[j]? = some cs[j] := List.getElem?_eq_getElem hjl
        have hone := (hh j _ h0).oneCell (hcc _ (mem_of_get? h0))
        generalize Array.getD _ j undef = x at hr hone
        cases hr <;> first | rfl | exact hone | simp [Value.oneCell'] at hone
  | .tup cs, d', v, h, hf => by
    simp only [freeze] at hf
    split at hf
    · rename_i hfree; injection hf with hf; subst hf; exact (h.free hfree _ _).okMono fun b hb => .inl hb
    · cases hf
  | .iface t d, d', v, h, hf => by
    simp only [freeze] at hf
    split at hf
    · rename_i hfree; injection hf with hf; subst hf; exact (h.free hfree _ _).okMono fun b hb => .inl hb
    · cases hf
  | .bool _, d', v, h, hf | .int _ _, d', v, h, hf | .str _, d', v, h, hf | .nilp, d', v, h, hf | .nilf, d', v, h, hf | .nili, d', v, h, hf | .raw _, d', v, h, hf | .vptr _, d', v, h, hf | .vsl _ _ _, d', v, h, hf => by
    simp only [freeze, idFree, if_true, Option.some.injEq] at hf
    subst hf
    exact (h.free rfl _ _).okMono fun b hb => .inl hb
where freezeL_rep (hs : Sim X ok w ι H) : ∀ (l : List D) {l' : List D} {vs : Nat → Value}, (∀ (j : Nat) d, l[j]? = some d → Rep ok w ι H d (vs j)) → freeze.freezeL H l = some l' →
    l.length = l'.length ∧ ∀ (j : Nat) d, l'[j]? = some d → Rep (okAll ok ι H) w iota0 [] d (vs j)
  | [], l', vs, _, hf => by
    simp only [freeze.freezeL, Option.some.injEq] at hf
    subst hf
    simp
  | d :: l, l', vs, h, hf => by
    simp only [freeze.freezeL] at hf
    split at hf
    · rename_i d1 l1 h1 h2
      injection hf with hf
      subst hf
      obtain ⟨k1, k2⟩ := freezeL_rep hs l (vs := fun j => vs (j + 1)) (fun j x hx => h (j + 1) x (by simpa using hx)) h2
      refine ⟨by simp [k1], fun j x hx => ?_⟩
      cases j with
      | zero =>
        simp only [List.getElem?_cons_zero, Option.some.injEq] at hx
        subst hx
        exact freeze_rep hs d (h 0 d rfl) h1
      | succ j => exact k2 j x (by simpa using hx)
    · cases hf

theorem shiftL_get (n : Nat) : ∀ (l : List D) (j : Nat), (shift.shiftL n l)[j]? = (l[j]?).map (shift n)
  | [], j => by simp [shift.shiftL]
  | d :: l, 0 => by simp [shift.shiftL]
  | d :: l, j + 1 => by simp [shift.shiftL, shiftL_get n l j]
theorem shiftL_length (n : Nat) : ∀ (l : List D), (shift.shiftL n l).length = l.length
  | [] => rfl
  | d :: l => by simp [shift.shiftL, shiftL_length n l]

def joinI (n : Nat) (ι ι1 : Iota) : Iota := fun i => if i < n then ι i else ι1 (i - n)

theorem hget_join_lt {L : Heap} {i : Nat} (h : i < H.length) : hget (H ++ L) i = hget H i := by simp [hget, List.getElem?_append_left h]
theorem hget_join_ge {L : Heap} {i : Nat} : hget (H ++ L) (H.length + i) = hget L i := by
  unfold hget
  rw [List.getElem?_append_right (by omega)]
  congr 2
  omega
theorem joinI_ge {n i : Nat} {ι ι1 : Iota} : joinI n ι ι1 (n + i) = ι1 i := by
  unfold joinI
  rw [if_neg (by omega)]
  congr 1
  omega

theorem shift_cell {n : Nat} {d : D} (h : isCell d = true) : isCell (shift n d) = true := by cases d <;> first | rfl | exact h | simp [isCell] at h

theorem Rep.shift {L : Heap} {ι1 : Iota} {d : D} {v : Value} (h : Rep ok w ι1 L d v) (ι : Iota) (H : Heap) : Rep ok w (joinI H.length ι ι1) (H ++ L) (Ev.shift H.length d) v := by
  induction h with
  | bool b => exact .bool b
  | int k n => exact .int k n
  | str s => exact .str s
  | nilp => exact .nilp
  | nilf => exact .nilf
  | nili => exact .nili
  | raw v => exact .raw v
  | agg hl hc h ih =>
    refine .agg (by rw [shiftL_length]; exact hl) ?_ fun j d hj => ?_
    · intro d hd
      obtain ⟨j, hj⟩ := List.mem_iff_getElem?.1 hd
      rw [shiftL_get] at hj
      simp only [Option.map_eq_some_iff] at hj
      obtain ⟨x, hx, rfl⟩ := hj
      exact shift_cell (hc x (mem_of_get? hx))
    · rw [shiftL_get] at hj
      simp only [Option.map_eq_some_iff] at hj
      obtain ⟨x, hx, rfl⟩ := hj
      exact ih j x hx
  | tup hl h ih =>
    refine .tup (by rw [shiftL_length]; exact hl) fun j d hj => ?_
    rw [shiftL_get] at hj
    simp only [Option.map_eq_some_iff] at hj
    obtain ⟨x, hx, rfl⟩ := hj
    exact ih j x hx
  | fn hl h ih =>
    refine .fn (by rw [shiftL_length]; exact hl) fun j d hj => ?_
    rw [shiftL_get] at hj
    simp only [Option.map_eq_some_iff] at hj
    obtain ⟨x, hx, rfl⟩ := hj
    exact ih j x hx
  | iface h ih => exact .iface ih
  | optr a hi h =>
    refine .optr a (by simp; omega) fun ds hd => ?_
    rw [hget_join_ge] at hd
    obtain ⟨h1, h2⟩ := h ds hd
    refine ⟨h1, fun e => ?_⟩
    obtain ⟨b, s, q1, q2⟩ := h2 e
    exact ⟨b, s, by rw [joinI_ge]; exact q1, q2⟩
  | osl a hi h hlc =>
    refine .osl a (by simp; omega) (fun ds hd => ?_) hlc
    rw [hget_join_ge] at hd
    obtain ⟨h1, h2⟩ := h ds hd
    refine ⟨h1, fun e => ?_⟩
    obtain ⟨b, s, q1, q2⟩ := h2 e
    exact ⟨b, s, by rw [joinI_ge]; exact q1, q2⟩
  | vptr a f ha hc hr h ih => exact .vptr a f ha hc hr h
  | vnil => exact .vnil
  | vsl a f ha hc hr h hlc ih => exact .vsl a f ha hc hr h hlc

/-- A call that worked in memory of its own, joined to the caller's. -/
theorem call_join {L : Heap} {ι1 : Iota} {ok2 : Nat → Prop} (hs : Sim X ok w ι H) (hw : SameS w w') (hsz : w.heap.size ≤ w'.heap.size) (hfr : ∀ b, b < w.heap.size → w'.heap[b]? = w.heap[b]?)
    (h1 : ∀ b, ok b → ok2 b) (h2 : ∀ b, ok2 b → b < w.heap.size → ok b) (h3 : ∀ b, ok2 b → b < w'.heap.size)
    (hi : ∀ i j ds es b s s', hget L i = some ds → hget L j = some es → ι1 i = some (b, s) → ι1 j = some (b, s') → i = j)
    (hL : ∀ i ds, hget L i = some ds → ∃ b arr e fr, ι1 i = some (b, arr.size) ∧ w.heap.size ≤ b ∧ ¬ ok2 b ∧ w'.heap[b]? = some (.cells arr e fr) ∧ ds.length ≤ arr.size ∧
      (fr.1 = fr.2 ∨ arr.size ≤ fr.1) ∧ (∀ j, j < arr.size → (arr.getD j undef).oneCell' = true) ∧ (∀ d, d ∈ ds → isCell d = true) ∧
      (∀ (j : Nat) d, ds[j]? = some d → Rep ok2 w' iota0 [] d (arr.getD j undef))) :
    Sim X ok2 w' (joinI H.length ι ι1) (H ++ L) ∧ Evol H.length ok w ι H ok2 w' (joinI H.length ι ι1) (H ++ L) := by
  have hsp : ∀ i ds, hget (H ++ L) i = some ds → (i < H.length ∧ hget H i = some ds ∧ joinI H.length ι ι1 i = ι i) ∨ (H.length ≤ i ∧ hget L (i - H.length) = some ds ∧ joinI H.length ι ι1 i = ι1 (i - H.length)) := by
    intro i ds hd
    by_cases hlt : i < H.length
    · rw [hget_join_lt hlt] at hd
      exact .inl ⟨hlt, hd, by simp [joinI, hlt]⟩
    · obtain ⟨k, rfl⟩ : ∃ k, i = H.length + k := ⟨i - H.length, by omega⟩
      rw [hget_join_ge] at hd
      exact .inr ⟨by omega, by simpa using hd, by rw [joinI_ge]; congr 1; omega⟩
  have hev : Evol H.length ok w ι H ok2 w' (joinI H.length ι ι1) (H ++ L) := by
    refine ⟨hw.1, hw.2.1, hw.2.2, hsz, fun b hb _ => hfr b hb, h1, fun b hb hlt => .inl (h2 b hb hlt), ⟨Nat.le_refl _, by simp⟩, ?_, ?_⟩
    · intro i hlt ds hd
      rw [hget_join_lt hlt] at hd
      exact ⟨ds, hd, Nat.le_refl _, fun _ => by simp [joinI, hlt]⟩
    · intro i ds b s hd hb hlt
      rcases hsp i ds hd with ⟨k1, k2, k3⟩ | ⟨k1, k2, k3⟩
      · exact ⟨i, ds, s, k2, by rw [← k3]; exact hb⟩
      · obtain ⟨b', arr, e, fr, q1, q2, _⟩ := hL _ ds k2
        rw [k3, q1] at hb
        injection hb with hb
        injection hb with hb _
        omega
  refine ⟨⟨h3, ?_, ?_, ?_⟩, hev⟩
  · intro g cs hg
    exact (((hs.glob g cs hg).lift (ι := ι) (H := H)).evol hs hev rfl).free rfl _ _
  · intro i j ds es b s s' hd he hb hb'
    rcases hsp i ds hd with ⟨k1, k2, k3⟩ | ⟨k1, k2, k3⟩ <;> rcases hsp j es he with ⟨l1, l2, l3⟩ | ⟨l1, l2, l3⟩
    · exact hs.inj i j ds es b s s' k2 l2 (by rw [← k3]; exact hb) (by rw [← l3]; exact hb')
    · have hlt := hs.lt k2 (by rw [← k3]; exact hb)
      obtain ⟨b', arr, e, fr, q1, q2, _⟩ := hL _ es l2
      rw [l3, q1] at hb'
      injection hb' with hb'
      injection hb' with hb' _
      omega
    · have hlt := hs.lt l2 (by rw [← l3]; exact hb')
      obtain ⟨b', arr, e, fr, q1, q2, _⟩ := hL _ ds k2
      rw [k3, q1] at hb
      injection hb with hb
      injection hb with hb _
      omega
    · have := hi _ _ ds es b s s' k2 l2 (by rw [← k3]; exact hb) (by rw [← l3]; exact hb')
      omega
  · intro i ds hd
    rcases hsp i ds hd with ⟨k1, k2, k3⟩ | ⟨k1, k2, k3⟩
    · obtain ⟨b, arr, e, fr, q1, q2, q3, q4, q5, q6, q7, q8⟩ := hs.blk i ds k2
      have hlt := hs.lt k2 q1
      exact ⟨b, arr, e, fr, by rw [k3]; exact q1, fun h => q2 (h2 b h hlt), by rw [hfr b hlt]; exact q3, q4, q5, q6, q7, fun j d hj => (q8 j d hj).evol hs hev (q8 j d hj).closed⟩
    · obtain ⟨b, arr, e, fr, q1, q2, q3, q4, q5, q6, q7, q8, q9⟩ := hL _ ds k2
      exact ⟨b, arr, e, fr, by rw [k3]; exact q1, q3, q4, q5, q6, q7, q8, fun j d hj => (q9 j d hj).lift⟩

end
end Go.Ev
