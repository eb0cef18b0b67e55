import Derived.WalkKit
import Derived.Scope
/-
  The evaluator: Go's code on plain data.
-/
namespace Go.Ev

/-- Plain data: what a value reads as. Slices and pointers of others by value (vsl, vptr); of the run's own memory by name (osl, optr: the block's name, its length when the handle was made, the place, ..). -/
inductive D where
  | bool (b : Bool)
  | int (k : IntKind) (n : Int)
  | str (s : List UInt8)
  | nilp
  | nilf
  | nili
  | agg (cs : List D)
  | tup (cs : List D)
  | vptr (cs : List D)
  | optr (id st off : Nat)
  | vsl (nil : Bool) (cs : List D) (len : Nat)
  | osl (id st off len k : Nat)
  | fn (f : Nat) (caps : List D)
  | iface (t : Nat) (d : D)
  deriving Inhabited

abbrev Heap := List (Option (List D))
abbrev Env := List (Nat × D)

def hget (H : Heap) (i : Nat) : Option (List D) := (H[i]?).getD none
def hset (H : Heap) (i : Nat) (ds : List D) : Heap := H.set i (some ds)

def look : Env → Nat → Option D
  | [], _ => none
  | (s, d) :: e, t => if s = t then some d else look e t

def putE (e : Env) : Option Tmp → D → Env
  | none, _ => e
  | some t, d => (t, d) :: e

/-- One cell of a constant. -/
def ofVal1 : Value → Option D
  | .bool b => some (.bool b)
  | .int k n => some (.int k n)
  | .string s => some (.str s.data.toList)
  | .pointer none => some .nilp
  | .slice none 0 0 => some (.vsl true [] 0)
  | .nilFunc => some .nilf
  | .nilIface => some .nili
  | _ => none

def ofVals : List Value → Option (List D)
  | [] => some []
  | v :: l => match ofVal1 v, ofVals l with
    | some d, some ds => some (d :: ds)
    | _, _ => none

def ofVal : Value → Option D
  | .agg cs => (ofVals cs.toList).map .agg
  | v => ofVal1 v

structure Cx where
  P : Program
  /-- what the package-level variables hold that are read -/
  glob : Nat → Option (List D)
  /-- function, region: the slots that are kept at its head, and how many blocks of the call's own -/
  keep : Nat → Nat → Option (List Nat × Nat)
  /-- functions that work on their caller's own memory -/
  byRef : Nat → Bool
  /-- functions that make nothing and are handed nothing of the run's own -/
  pureF : Nat → Bool
  /-- functions without a body -/
  ext : Nat → List D → Option D
  /-- functions that are not taken -/
  bad : Nat → Bool

def opd (X : Cx) (e : Env) : Operand → Option D
  | .tmp t => look e t
  | .const v => ofVal v
  | .func f => some (.fn f [])
  | .global g => (X.glob g).map .vptr

/-- No name of the run's own memory in it. -/
def idFree : D → Bool
  | .agg cs | .tup cs | .fn _ cs => idFreeL cs
  | .iface _ d => idFree d
  | .optr .. | .osl .. => false
  | _ => true
where idFreeL : List D → Bool
  | [] => true
  | d :: l => idFree d && idFreeL l

/-- Nothing of others' memory in it. -/
def vFree : D → Bool
  | .agg cs | .tup cs | .fn _ cs => vFreeL cs
  | .iface _ d => vFree d
  | .vptr .. => false
  | .vsl n _ _ => n
  | _ => true
where vFreeL : List D → Bool
  | [] => true
  | d :: l => vFree d && vFreeL l

/-- Every name in it is below n. -/
def closed (n : Nat) : D → Bool
  | .agg cs | .tup cs | .fn _ cs => closedL n cs
  | .iface _ d => closed n d
  | .optr i _ _ | .osl i _ _ _ _ => decide (i < n)
  | _ => true
where closedL (n : Nat) : List D → Bool
  | [] => true
  | d :: l => closed n d && closedL n l

def szOf (P : Program) (t : TypeId) : Nat := ((P.info? t).map (·.size)).getD 0
def bytesOf (P : Program) (t : TypeId) : Nat := ((P.info? t).map (·.bytes)).getD 0
def zeroOf (P : Program) (t : TypeId) : Option D := ((P.info? t).bind (·.zero)).bind ofVal
def aggQ (P : Program) (t : TypeId) : Option Bool :=
  match P.underlying t with
  | some (.struct _) | some (.array _ _) => some true
  | some _ => some false
  | none => none

/-- The cells of a value. -/
def cellsOf : D → Option (List D)
  | .agg cs => some cs
  | .tup _ => none
  | d => some [d]

/-- What lies from a place on. -/
def mem (H : Heap) : D → Option (List D)
  | .vptr cs => some cs
  | .optr i st off => match hget H i with
    | some ds => if ds.length = st then some (ds.drop off) else none
    | none => none
  | _ => none

def ldD (P : Program) (H : Heap) (t : TypeId) (p : D) : Option D :=
  match aggQ P t, mem H p with
  | some true, some cs => if szOf P t ≤ cs.length then some (.agg (cs.take (szOf P t))) else none
  | some false, some (d :: _) => some d
  | _, _ => none

def setRange (ds : List D) (off : Nat) (xs : List D) : List D := ds.take off ++ xs ++ ds.drop (off + xs.length)

def stD (P : Program) (H : Heap) (t : TypeId) (p x : D) : Option Heap :=
  match p, cellsOf x with
  | .optr i st off, some xs => match hget H i with
    | some ds => if ds.length = st ∧ xs.length = szOf P t ∧ 0 < szOf P t ∧ off + xs.length ≤ ds.length ∧ xs.all (closed H.length) then some (hset H i (setRange ds off xs)) else none
    | none => none
  | _, _ => none

/-- The cells of a slice's elements, each of k cells. -/
def slc (H : Heap) (k : Nat) : D → Option (List D × Nat)
  | .vsl _ cs len => if cs.length = len * k then some (cs, len) else none
  | .osl i st off len k' => match hget H i with
    | some ds => if ds.length = st ∧ k' = k ∧ off + len * k ≤ ds.length then some ((ds.drop off).take (len * k), len) else none
    | none => none
  | _ => none

def fieldOf (P : Program) (s : TypeId) (f : Nat) : Option Field :=
  match P.underlying s with
  | some (.struct fs) => fs[f]?
  | _ => none

/-- A place k cells on. -/
def ptrAdd (k : Nat) : D → Option D
  | .vptr cs => some (.vptr (cs.drop k))
  | .optr i st off => some (.optr i st (off + k))
  | _ => none

def fieldAddrD (P : Program) (s : TypeId) (p : D) (f : Nat) : Option D :=
  match fieldOf P s f with
  | some fd => if szOf P fd.type = 0 then none else ptrAdd fd.offset p
  | none => none

def partD (P : Program) (t : TypeId) (cs : List D) (off : Nat) : Option D :=
  match aggQ P t with
  | some true => if off + szOf P t ≤ cs.length then some (.agg ((cs.drop off).take (szOf P t))) else none
  | some false => cs[off]?
  | none => none

def fieldD (P : Program) (s : TypeId) (x : D) (f : Nat) : Option D :=
  match fieldOf P s f, x with
  | some fd, .agg cs => partD P fd.type cs fd.offset
  | _, _ => none

def indexAddrD (P : Program) (t : TypeId) (x i : D) : Option D :=
  match P.underlying t, x, i with
  | some (.array n e), p, .int _ i => if 0 ≤ i ∧ i < n ∧ 0 < szOf P e then ptrAdd (i.toNat * szOf P e) p else none
  | some (.slice e), .vsl false cs len, .int _ i => if 0 ≤ i ∧ i < len ∧ 0 < szOf P e then some (.vptr (cs.drop (i.toNat * szOf P e))) else none
  | some (.slice e), .osl id st off len _, .int _ i => if 0 ≤ i ∧ i < len ∧ 0 < szOf P e then some (.optr id st (off + i.toNat * szOf P e)) else none
  | _, _, _ => none

def indexD (P : Program) (t : TypeId) (x i : D) : Option D :=
  match P.underlying t, x, i with
  | some (.array n e), .agg cs, .int _ i => if 0 ≤ i ∧ i < n then partD P e cs (i.toNat * szOf P e) else none
  | some .string, .str s, .int _ i => if 0 ≤ i then (s[i.toNat]?).map fun b => .int .u8 b.toNat else none
  | _, _, _ => none

/-- The two bounds of a slice expression, of something of length n. -/
def bounds (n : Nat) : Option D → Option D → Option (Nat × Nat)
  | none, none => some (0, n)
  | some (.int _ l), none => if 0 ≤ l ∧ l ≤ n then some (l.toNat, n) else none
  | none, some (.int _ h) => if 0 ≤ h ∧ h ≤ n then some (0, h.toNat) else none
  | some (.int _ l), some (.int _ h) => if 0 ≤ h ∧ h ≤ n ∧ 0 ≤ l ∧ l ≤ h then some (l.toNat, h.toNat) else none
  | _, _ => none

def sliceD (P : Program) (t : TypeId) (x : D) (lo hi : Option D) : Option D :=
  match P.underlying t, x with
  | some .string, .str s => match bounds s.length lo hi with
    | some (l, h) => some (.str ((s.drop l).take (h - l)))
    | none => none
  | some (.slice e), .vsl nil cs len => match bounds len lo hi with
    | some (l, h) => if cs.length = len * szOf P e ∧ 0 < szOf P e then some (.vsl nil ((cs.drop (l * szOf P e)).take ((h - l) * szOf P e)) (h - l)) else none
    | none => none
  | some (.slice e), .osl id st off len k => match bounds len lo hi with
    | some (l, h) => if k = szOf P e ∧ 0 < k ∧ (l = 0 ∨ l < len) then some (.osl id st (off + l * k) (h - l) k) else none
    | none => none
  | some (.array n e), .vptr cs => match bounds n lo hi with
    | some (l, h) => if h * szOf P e ≤ cs.length ∧ 0 < szOf P e ∧ (l = 0 ∨ l < n) then some (.vsl false ((cs.drop (l * szOf P e)).take ((h - l) * szOf P e)) (h - l)) else none
    | none => none
  | some (.array n e), .optr id st off => match bounds n lo hi with
    | some (l, h) => if (l = 0 ∨ l < n) ∧ off + n * szOf P e ≤ st ∧ 0 < szOf P e then some (.osl id st (off + l * szOf P e) (h - l) (szOf P e)) else none
    | none => none
  | _, _ => none

/-- The operators on numbers. -/
def intD (op : BinOp) (k : IntKind) (a b : Int) : Option D :=
  match op with
  | .add => some (.int k (k.wrap (a + b)))
  | .sub => some (.int k (k.wrap (a - b)))
  | .mul => some (.int k (k.wrap (a * b)))
  | .quo => if b = 0 then none else some (.int k (k.wrap (a.tdiv b)))
  | .rem => if b = 0 then none else some (.int k (a.tmod b))
  | .and => some (.int k (k.wrap (BitVec.ofInt k.bits a &&& BitVec.ofInt k.bits b).toNat))
  | .or => some (.int k (k.wrap (BitVec.ofInt k.bits a ||| BitVec.ofInt k.bits b).toNat))
  | .xor => some (.int k (k.wrap (BitVec.ofInt k.bits a ^^^ BitVec.ofInt k.bits b).toNat))
  | .andNot => some (.int k (k.wrap (BitVec.ofInt k.bits a &&& ~~~ BitVec.ofInt k.bits b).toNat))
  | .eql => some (.bool (a == b))
  | .neq => some (.bool (a != b))
  | .lss => some (.bool (decide (a < b)))
  | .leq => some (.bool (decide (a ≤ b)))
  | .gtr => some (.bool (decide (a > b)))
  | .geq => some (.bool (decide (a ≥ b)))
  | _ => none

def shiftD (op : BinOp) (k : IntKind) (a b : Int) : Option D :=
  if b < 0 then none else
  match op with
  | .shl => some (.int k (k.wrap (a * 2 ^ (min b.toNat k.bits))))
  | .shr => some (.int k (a.fdiv (2 ^ (min b.toNat k.bits))))
  | _ => none

def strD (op : BinOp) (x y : List UInt8) : Option D :=
  match op with
  | .add => if x.length + y.length ≤ 4611686018427387904 then some (.str (x ++ y)) else none
  | .eql => some (.bool (x == y))
  | .neq => some (.bool !(x == y))
  | .lss => some (.bool (Op.bytesLess x y))
  | .leq => some (.bool (Op.bytesLess x y || x == y))
  | .gtr => some (.bool !(Op.bytesLess x y || x == y))
  | .geq => some (.bool !(Op.bytesLess x y))
  | _ => none

/-- Kinds of cells that '==' takes. -/
inductive CK where
  | b | i | s
  deriving DecidableEq

def cellEq : CK → D → D → Option Bool
  | .i, .int k a, .int k' b => if k = k' then some (a == b) else none
  | .b, .bool a, .bool b => some (a == b)
  | .s, .str a, .str b => some (a == b)
  | _, _, _ => none

def cellsEq : List CK → List D → List D → Option Bool
  | [], [], [] => some true
  | k :: ks, x :: xs, y :: ys => match cellEq k x y, cellsEq ks xs ys with
    | some a, some b => some (a && b)
    | _, _ => none
  | _, _, _ => none

def plainFs (P : Program) (g : TypeId → Option (List CK)) : List Field → List CK → Option (List CK)
  | [], acc => some acc
  | f :: fs, acc => match g f.type with
    | some ks => if f.offset = acc.length ∧ f.name ≠ "_" ∧ szOf P f.type = ks.length ∧ 0 < ks.length then plainFs P g fs (acc ++ ks) else none
    | none => none

/-- A type of numbers, texts and bools alone, cell behind cell: their kinds. -/
def plainTy (P : Program) : Nat → TypeId → Option (List CK)
  | 0, _ => none
  | d + 1, t => match P.underlying t with
    | some .bool => some [.b]
    | some (.int _) => some [.i]
    | some .string => some [.s]
    | some (.array n e) => match plainTy P d e with
      | some ks => if szOf P e = ks.length ∧ 0 < ks.length then some (List.replicate n ks).flatten else none
      | none => none
    | some (.struct fs) => if P.stoodInHeld t then none else plainFs P (plainTy P d) fs.toList []
    | _ => none

def isNilD : D → Option Bool
  | .vsl n _ _ => some n
  | .osl .. => some false
  | _ => none

def isConstOp : Operand → Bool
  | .const _ => true
  | _ => false

def eqD (P : Program) (t : TypeId) (cst : Bool) (x y : D) : Option Bool :=
  match x, y with
  | .bool a, .bool b => match P.underlying t with
    | some .bool => some (a == b)
    | _ => none
  | .agg xs, .agg ys => match plainTy P 50 t with
    | some ks => if aggQ P t = some true ∧ P.eqGuardType P.depth t = false then cellsEq ks xs ys else none
    | none => none
  | .vsl true _ _, .vsl n _ _ => match P.underlying t with
    | some (.slice _) => some n
    | _ => none
  | .vsl n _ _, .vsl true _ _ => match P.underlying t with
    | some (.slice _) => some n
    | _ => none
  | .osl .., .vsl true _ _ => match P.underlying t with
    | some (.slice _) => some false
    | _ => none
  | .nili, .nili => match P.underlying t with
    | some (.interface _) => if cst then some true else none
    | _ => none
  | .iface _ _, .nili => match P.underlying t with
    | some (.interface _) => some false
    | _ => none
  | .nilp, .nilp => match P.underlying t with
    | some (.pointer _) => some true
    | _ => none
  | .vptr _, .nilp => match P.underlying t with
    | some (.pointer _) => some false
    | _ => none
  | .optr .., .nilp => match P.underlying t with
    | some (.pointer _) => some false
    | _ => none
  | _, _ => none

def binD (P : Program) (op : BinOp) (t : TypeId) (cst : Bool) (x y : D) : Option D :=
  match op, x, y with
  | .shl, .int k a, .int _ b => shiftD .shl k a b
  | .shr, .int k a, .int _ b => shiftD .shr k a b
  | op, .int k a, .int k' b => if k = k' then intD op k a b else none
  | op, .str a, .str b => strD op a b
  | .eql, x, y => (eqD P t cst x y).map .bool
  | .neq, x, y => (eqD P t cst x y).map fun b => .bool !b
  | _, _, _ => none

def unD (op : UnOp) (x : D) : Option D :=
  match op, x with
  | .neg, .int k n => some (.int k (k.wrap (0 - n)))
  | .xor, .int k n => some (.int k (k.wrap (BitVec.ofInt k.bits (if k.signed then -1 else k.max) ^^^ BitVec.ofInt k.bits n).toNat))
  | .not, .bool b => some (.bool !b)
  | _, _ => none

def newBlk (H : Heap) (ds : List D) : Heap := H ++ [some ds]

/-- The bytes that cells are. -/
def bytesD : List D → Option (List UInt8)
  | [] => some []
  | .int .u8 n :: l => (bytesD l).map fun r => UInt8.ofNat n.toNat :: r
  | _ => none

def ofBytes (s : List UInt8) : List D := s.map fun b => .int .u8 (b.toNat : Int)

def maxBytes : Nat := 140737488355328

def convD (P : Program) (H : Heap) (src dst : TypeId) (x : D) : Option (D × Heap) :=
  match P.underlying src, P.underlying dst, x with
  | some _, some (.int k), .int _ n => some (.int k (k.wrap n), H)
  | some .string, some .string, .str s => some (.str s, H)
  | some _, some (.slice e), .str s => match P.underlying e with
    | some (.int .u8) => some (.osl H.length s.length 0 s.length 1, newBlk H (ofBytes s))
    | _ => none
  | some (.slice e), some .string, x => match P.underlying e, slc H 1 x with
    | some (.int .u8), some (cs, _) => (bytesD cs).map fun s => (.str s, H)
    | _, _ => none
  | _, _, _ => none

/-- Parts laid into cells: place of part i: offset and size. -/
def fillD (place : Nat → Option (Nat × Nat)) : List D → List (Nat × D) → Option (List D)
  | cells, [] => some cells
  | cells, (i, d) :: rest => match place i, cellsOf d with
    | some (off, size), some xs => if xs.length = size ∧ off + xs.length ≤ cells.length then fillD place (setRange cells off xs) rest else none
    | _, _ => none

def partsD (X : Cx) (e : Env) : List (Nat × Operand) → Option (List (Nat × D))
  | [] => some []
  | (i, x) :: l => match opd X e x, partsD X e l with
    | some d, some ds => some ((i, d) :: ds)
    | _, _ => none

def opds (X : Cx) (e : Env) : List Operand → Option (List D)
  | [] => some []
  | x :: l => match opd X e x, opds X e l with
    | some d, some ds => some (d :: ds)
    | _, _ => none

def structPlace (P : Program) (fs : Array Field) (i : Nat) : Option (Nat × Nat) := (fs[i]?).map fun f => (f.offset, szOf P f.type)

def buildD (P : Program) (t : TypeId) (parts : List (Nat × D)) : Option D :=
  match zeroOf P t, P.underlying t with
  | some (.agg z), some (.struct fs) => if fs.all (fun f => decide (0 < szOf P f.type)) then (fillD (structPlace P fs) z parts).map .agg else none
  | some (.agg z), some (.array _ e) => if 0 < szOf P e then (fillD (fun i => some (i * szOf P e, szOf P e)) z parts).map .agg else none
  | _, _ => none

def zeroCellsD (P : Program) (e : TypeId) (n : Nat) : Option (List D) :=
  match (zeroOf P e).bind cellsOf with
  | some z => if z.length = szOf P e ∧ 0 < szOf P e then some ((List.replicate n z).flatten) else none
  | none => none

def buildSliceD (P : Program) (H : Heap) (t : TypeId) (len : Nat) (parts : List (Nat × D)) : Option (D × Heap) :=
  match P.underlying t with
  | some (.slice e) => match zeroCellsD P e len with
    | some z => if len * szOf P e ≤ 16777216 then (fillD (fun i => some (i * szOf P e, szOf P e)) z parts).bind fun cs =>
        if cs.all idFree ∧ cs.length = len * szOf P e then some (.osl H.length cs.length 0 len (szOf P e), newBlk H cs) else none
      else none
    | none => none
  | _ => none

def makeSliceD (P : Program) (H : Heap) (t : TypeId) (l c : D) : Option (D × Heap) :=
  match P.underlying t, l, c with
  | some (.slice e), .int .i64 l, .int .i64 c => if 0 ≤ l ∧ l ≤ c ∧ bytesOf P e * c ≤ maxBytes ∧ c ≤ maxBytes then
      (zeroCellsD P e l.toNat).bind fun z => if z.length = l.toNat * szOf P e ∧ z.all idFree then some (.osl H.length z.length 0 l.toNat (szOf P e), newBlk H z) else none
    else none
  | _, _, _ => none

/-- What is appended or copied: its cells, how many elements. -/
def srcD (P : Program) (H : Heap) (k : Nat) (xt : TypeId) (x : D) : Option (List D × Nat) :=
  match P.underlying xt, x with
  | some .string, .str b => if k = 1 then some (ofBytes b, b.length) else none
  | some (.slice _), x => slc H k x
  | _, _ => none

def appendD (P : Program) (H : Heap) (st xt : TypeId) (s x : D) : Option (D × Heap) :=
  match P.underlying st with
  | some (.slice e) => match srcD P H (szOf P e) xt x, zeroCellsD P e 0, s with
    | some (xs, m), some _, .vsl true [] 0 =>
      if m = 0 then some (.vsl true [] 0, H)
      else if m * bytesOf P e ≤ maxBytes ∧ m ≤ maxBytes ∧ xs.all idFree then some (.osl H.length xs.length 0 m (szOf P e), newBlk H xs) else none
    | some (xs, m), some _, .osl i sm 0 len k => match hget H i with
      | some ds => if ds.length = sm ∧ k = szOf P e ∧ len * k = sm ∧ (len + m) * bytesOf P e ≤ maxBytes ∧ len + m ≤ maxBytes ∧ xs.all idFree
          then some (.osl i (sm + xs.length) 0 (len + m) k, hset H i (ds ++ xs)) else none
      | none => none
    | _, _, _ => none
  | _ => none

def copyD (P : Program) (H : Heap) (dt xt : TypeId) (d x : D) : Option (D × Heap) :=
  match P.underlying dt with
  | some (.slice e) => match srcD P H (szOf P e) xt x, d with
    | some (xs, m), .osl i sm off len k => match hget H i with
      | some ds => if ds.length = sm ∧ k = szOf P e ∧ 0 < k ∧ off + len * k ≤ sm ∧ xs.all idFree
          then some (.int .i64 (min m len : Nat), hset H i (setRange ds off (xs.take (min m len * k)))) else none
      | none => none
    | _, _ => none
  | _ => none

def lenD (P : Program) (t : TypeId) (x : D) : Option D :=
  match P.underlying t, x with
  | some .string, .str s => some (.int .i64 s.length)
  | some (.array n _), _ => some (.int .i64 n)
  | some (.slice _), .vsl _ _ len => some (.int .i64 len)
  | some (.slice _), .osl _ _ _ len _ => some (.int .i64 len)
  | _, _ => none

def minmaxD (mx : Bool) : List D → Option D
  | [.int k a, .int k' b] => if k = k' then some (.int k (if mx then (if a < b then b else a) else (if b < a then b else a))) else none
  | _ => none

/-- A slice of the run's own, told by value. -/
def freeze (H : Heap) : D → Option D
  | .osl i st off len k => match hget H i with
    | some ds => if ds.length = st ∧ off + len * k ≤ st ∧ ds.all idFree then some (.vsl false ((ds.drop off).take (len * k)) len) else none
    | none => none
  | .optr i st off => match hget H i with
    | some ds => if ds.length = st ∧ ds.all idFree then some (.vptr (ds.drop off)) else none
    | none => none
  | .fn f caps => (freezeL H caps).map (.fn f)
  | .agg cs => (freezeL H cs).map .agg
  | d => if idFree d then some d else none
where freezeL (H : Heap) : List D → Option (List D)
  | [] => some []
  | d :: l => match freeze H d, freezeL H l with
    | some d, some l => some (d :: l)
    | _, _ => none


def freezeArgs (H : Heap) (args : List D) : Option (List D) := freeze.freezeL H args

/-- Names moved up by n. -/
def shift (n : Nat) : D → D
  | .agg cs => .agg (shiftL n cs)
  | .tup cs => .tup (shiftL n cs)
  | .fn f cs => .fn f (shiftL n cs)
  | .iface t d => .iface t (shift n d)
  | .optr i st off => .optr (n + i) st off
  | .osl i st off len k => .osl (n + i) st off len k
  | d => d
where shiftL (n : Nat) : List D → List D
  | [] => []
  | d :: l => shift n d :: shiftL n l

/-- The blocks that go with a result, the call's own ones from n0 on. -/
def pack1 (n0 : Nat) (H : Heap) (seen : List Nat) (acc : Heap) : D → Option (D × List Nat × Heap)
  | .osl i st off len k =>
    if i < n0 then some (.osl i st off len k, seen, acc)
    else match hget H i with
      | some ds => if ds.all idFree ∧ i ∉ seen then some (.osl (n0 + acc.length) st off len k, seen ++ [i], acc ++ [some ds]) else none
      | none => none
  | .optr i st off =>
    if i < n0 then some (.optr i st off, seen, acc)
    else match hget H i with
      | some ds => if ds.all idFree ∧ i ∉ seen then some (.optr (n0 + acc.length) st off, seen ++ [i], acc ++ [some ds]) else none
      | none => none
  | .agg cs => (packs n0 H seen acc cs).map fun (cs, s, a) => (.agg cs, s, a)
  | .tup cs => (packs n0 H seen acc cs).map fun (cs, s, a) => (.tup cs, s, a)
  | d => if idFree d then some (d, seen, acc) else none
where packs (n0 : Nat) (H : Heap) (seen : List Nat) (acc : Heap) : List D → Option (List D × List Nat × Heap)
  | [] => some ([], seen, acc)
  | d :: l => match pack1 n0 H seen acc d with
    | some (d, seen, acc) => match packs n0 H seen acc l with
      | some (l, seen, acc) => some (d :: l, seen, acc)
      | none => none
    | none => none

def blkClosed (n : Nat) : Option (List D) → Bool
  | some ds => ds.all (closed n)
  | none => true

def pack (n0 : Nat) (H : Heap) (r : D) : Option (D × Heap) :=
  match pack1 n0 H [] [] r with
  | some (r, _, acc) => if (H.take n0).all (blkClosed n0) then some (r, H.take n0 ++ acc) else none
  | none => none

def keepE : List Nat → Env → Env
  | [], _ => []
  | k :: ks, e => match look e k with
    | some d => (k, d) :: keepE ks e
    | none => keepE ks e

def envClosed (n : Nat) : Env → Bool
  | [] => true
  | (_, d) :: e => closed n d && envClosed n e

def enter (X : Cx) (f n0 id : Nat) (e : Env) (H : Heap) : Option (Env × Heap) :=
  match X.keep f id with
  | none => some (e, H)
  | some (ks, 0) => some (keepE ks e, H)
  | some (ks, k + 1) =>
    if H.length ≤ n0 + k then some (keepE ks e, H)
    else if envClosed (n0 + k) (keepE ks e) && (H.take (n0 + k)).all (blkClosed (n0 + k)) then some (keepE ks e, H.take (n0 + k)) else none

abbrev CallF := Nat → List D → Heap → Option (D × Heap)

def blkVFree : Option (List D) → Bool
  | some ds => ds.all vFree
  | none => true

def callV (X : Cx) (F : CallF) (f : Nat) (args : List D) (H : Heap) : Option (D × Heap) :=
  if X.byRef f then F f args H
  else if args.all idFree then match F f args [] with
    | none => none
    | some (r, L) => some (shift H.length r, H ++ L)
  else match freezeArgs H args with
    | none => none
    | some args' => match F f args' [] with
      | none => none
      | some (r, L) => if vFree r && L.all blkVFree then some (shift H.length r, H ++ L) else none

def callD (X : Cx) (F : CallF) (f : Nat) (args : List D) (H : Heap) : Option (D × Heap) :=
  if X.pureF f && !X.byRef f then
    if args.all idFree then match F f args [] with
      | some (r, []) => if idFree r then some (r, H) else none
      | _ => none
    else none
  else callV X F f args H

def builtinD (X : Cx) (b : Builtin) (ts : List TypeId) (args : List D) (H : Heap) : Option (D × Heap) :=
  match b, ts, args with
  | .len, t :: _, x :: _ => (lenD X.P t x).map (·, H)
  | .append, t :: u :: _, s :: x :: _ => appendD X.P H t u s x
  | .copy, t :: u :: _, d :: x :: _ => copyD X.P H t u d x
  | .min, _, args => (minmaxD false args).map (·, H)
  | .max, _, args => (minmaxD true args).map (·, H)
  | _, _, _ => none

/-- One operation. -/
def evOp (X : Cx) (F : CallF) (o : Op) (e : Env) (H : Heap) : Option (D × Heap) :=
  match o with
  | .move x | .assign x => (opd X e x).map (·, H)
  | .pick c a b => match opd X e c with
    | some (.bool t) => (opd X e (if t then a else b)).map (·, H)
    | _ => none
  | .alloc t => match (zeroOf X.P t).bind cellsOf with
    | some cs => some (.optr H.length cs.length 0, newBlk H cs)
    | none => none
  | .box _ x => match (opd X e x).bind cellsOf with
    | some cs => if cs.all (closed H.length) then some (.optr H.length cs.length 0, newBlk H cs) else none
    | none => none
  | .build t parts => match partsD X e parts.toList with
    | some ps => (buildD X.P t ps).map (·, H)
    | none => none
  | .buildSlice t len parts => match partsD X e parts.toList with
    | some ps => buildSliceD X.P H t len ps
    | none => none
  | .load t p => match opd X e p with
    | some p => (ldD X.P H t p).map (·, H)
    | none => none
  | .store t p x => match opd X e p, opd X e x with
    | some p, some x => (stD X.P H t p x).map (.tup [], ·)
    | _, _ => none
  | .nilCheck x => match opd X e x with
    | some (.vptr cs) => some (.vptr cs, H)
    | some (.optr i st off) => some (.optr i st off, H)
    | some (.fn f caps) => some (.fn f caps, H)
    | some (.iface t d) => some (.iface t d, H)
    | _ => none
  | .binOp op t x y _ => match opd X e x, opd X e y with
    | some a, some b => (binD X.P op t (isConstOp x || isConstOp y) a b).map (·, H)
    | _, _ => none
  | .unOp op _ x => match opd X e x with
    | some a => (unD op a).map (·, H)
    | none => none
  | .convert s d x => match opd X e x with
    | some a => convD X.P H s d a
    | none => none
  | .makeInterface t x => match opd X e x, X.P.underlying t with
    | some _, some (.interface _) => none
    | some a, some _ => some (.iface t a, H)
    | _, _ => none
  | .makeFunc (.func f) first caps => if first.isEmpty then (opds X e caps.toList).map fun cs => (.fn f cs, H) else none
  | .makeSlice t l c => match opd X e l, opd X e c with
    | some l, some c => makeSliceD X.P H t l c
    | _, _ => none
  | .slice t x lo hi none => match opd X e x, lo.map (opd X e), hi.map (opd X e) with
    | some a, none, none => (sliceD X.P t a none none).map (·, H)
    | some a, some (some l), none => (sliceD X.P t a (some l) none).map (·, H)
    | some a, none, some (some h) => (sliceD X.P t a none (some h)).map (·, H)
    | some a, some (some l), some (some h) => (sliceD X.P t a (some l) (some h)).map (·, H)
    | _, _, _ => none
  | .fieldAddr s x f => match opd X e x with
    | some p => (fieldAddrD X.P s p f).map (·, H)
    | none => none
  | .field s x f => match opd X e x with
    | some a => (fieldD X.P s a f).map (·, H)
    | none => none
  | .indexAddr t x i => match opd X e x, opd X e i with
    | some a, some i => (indexAddrD X.P t a i).map (·, H)
    | _, _ => none
  | .index t x i => match opd X e x, opd X e i with
    | some a, some i => (indexD X.P t a i).map (·, H)
    | _, _ => none
  | .extract x i => match opd X e x with
    | some (.tup cs) => (cs[i]?).map (·, H)
    | _ => none
  | .call c => match c.callee, opds X e c.args.toList with
    | .builtin b, some args => builtinD X b c.argTypes.toList args H
    | .value g, some args => match opd X e g with
      | some (.fn f caps) => callD X F f (args ++ caps) H
      | _ => none
    | _, _ => none
  | _ => none

/-- Is the operation wanted? -/
def guardQ (ops : Array Oper) (e : Env) : Option (Nat × Bool) → Option Bool
  | none => some true
  | some (j, want) => match (ops[j]?).bind (·.dst) with
    | none => some false
    | some t => match look e t with
      | some (.bool b) => some (b == want)
      | some (.tup []) => some false
      | _ => none

def dstOk (nt : Nat) : Option Tmp → Bool
  | none => true
  | some t => decide (t < nt)

/-- One operation; in a region that draws its order, texts of slices and of bytes are told by value. -/
def evOpW (X : Cx) (F : CallF) (drw : Bool) (o : Op) (e : Env) (H : Heap) : Option (D × Heap) :=
  match drw, o with
  | true, .buildSlice t len parts => match partsD X e parts.toList with
    | some ps => match buildSliceD X.P [] t len ps with
      | some (.osl _ _ _ _ _, [some ds]) => some (.vsl false ds len, H)
      | _ => none
    | none => none
  | true, .convert s d x => match opd X e x, X.P.underlying d with
    | some (.str b), some (.slice t) => match X.P.underlying s, X.P.underlying t with
      | some _, some (.int .u8) => some (.vsl false (ofBytes b) b.length, H)
      | _, _ => none
    | some a, _ => convD X.P H s d a
    | _, _ => none
  | _, o => evOp X F o e H

def evOps (X : Cx) (F : CallF) (nt : Nat) (drw : Bool) (ops : Array Oper) : List Oper → Env → Heap → Option (Env × Heap)
  | [], e, H => some (e, H)
  | o :: l, e, H => match dstOk nt o.dst, guardQ ops e o.guard with
    | true, some true => match evOpW X F drw o.op e H with
      | some (d, H') => evOps X F nt drw ops l (putE e o.dst d) H'
      | none => none
    | true, some false => evOps X F nt drw ops l (putE e o.dst (.tup [])) H
    | _, _ => none

inductive Ex where
  | normal
  | exit (id : Nat)
  | ret

def resD (X : Cx) (e : Env) (H : Heap) : List ResultVar → Option (List D)
  | [] => some []
  | .tmp t :: l => match look e t, resD X e H l with
    | some d, some ds => some (d :: ds)
    | _, _ => none
  | .cell a t :: l => match (look e a).bind (ldD X.P H t), resD X e H l with
    | some d, some ds => some (d :: ds)
    | _, _ => none

def oneOrTup : List D → D
  | [d] => d
  | l => .tup l

def argEnv : Nat → List D → Env
  | _, [] => []
  | i, d :: l => (i, d) :: argEnv (i + 1) l

/-- What an operation does to memory: nothing; it reads; it makes; it writes. -/
inductive OpKind where
  | v | r | e | m
  deriving DecidableEq

def opKind (X : Cx) : Op → OpKind
  | .load .. | .convert .. => .r
  | .alloc .. | .box .. | .makeSlice .. => .e
  | .store .. => .m
  | .call c => match c.callee with
    | .builtin .len | .builtin .min | .builtin .max => .v
    | .value (.func f) => if X.byRef f then .m else if X.pureF f then .v else .e
    | _ => .m
  | _ => .v

def isK (X : Cx) (o : Op) : Bool := match opKind X o with
  | .e | .m => true
  | _ => false

def tmpOf : Operand → List Tmp
  | .tmp t => [t]
  | _ => []

/-- The slots that an operation names. -/
def namesOf (ops : Array Oper) (o : Oper) : List Tmp :=
  o.dst.toList ++ o.op.operands.toList.flatMap tmpOf ++ (match o.guard with
    | some (k, _) => ((ops[k]?).bind (·.dst)).toList
    | none => [])

def clash (X : Cx) (ops : Array Oper) (x y : Oper) : Bool :=
  x.dst.any (fun t => (namesOf ops y).contains t) || y.dst.any (fun t => (namesOf ops x).contains t) || (isK X x.op && isK X y.op) ||
    (opKind X x.op == .m && opKind X y.op == .r) || (opKind X x.op == .r && opKind X y.op == .m)

/-- Whatever order a region draws, what matters goes as the text has it. -/
def drawOk (X : Cx) (ops : Array Oper) : Bool :=
  let b := Region.before ops
  ops.toList.zipIdx.all fun (y, j) =>
    y.after.all (fun e => !Region.binds .any e || decide (e.on < j)) &&
    ops.toList.zipIdx.all fun (x, i) => !decide (i < j) || (b.getD j 0).testBit i || !clash X ops x y

/-- All regions of it that draw may be taken in the text's order. -/
def okCode (X : Cx) : Code → Bool
  | .region _ ops draw => !draw || drawOk X ops
  | .seq a b => okCode X a && okCode X b
  | .cond _ a b => okCode X a && okCode X b
  | .block _ c | .loop c | .scope c => okCode X c
  | _ => true

mutual
def evC (X : Cx) : Nat → Nat → Nat → Nat → Code → Env → Heap → Option (Ex × Env × Heap)
  | 0, _, _, _, _, _, _ => none
  | n + 1, f, nt, n0, c, e, H => match c with
    | .skip => some (.normal, e, H)
    | .label _ => some (.normal, e, H)
    | .region id ops draw => match enter X f n0 id e H with
      | none => none
      | some (e, H) => (evOps X (evF X n) nt draw ops ops.toList e H).map fun (e, H) => (.normal, e, H)
    | .seq a b => match evC X n f nt n0 a e H with
      | some (.normal, e, H) => evC X n f nt n0 b e H
      | r => r
    | .cond c a b => match opd X e c with
      | some (.bool t) => evC X n f nt n0 (if t then a else b) e H
      | _ => none
    | .block id c => match evC X n f nt n0 c e H with
      | some (.exit i, e, H) => if i = id then some (.normal, e, H) else some (.exit i, e, H)
      | r => r
    | .loop c => match evC X n f nt n0 c e H with
      | some (.normal, e, H) => evC X n f nt n0 (.loop c) e H
      | r => r
    | .exit id => some (.exit id, e, H)
    | .scope c => evC X n f nt n0 c e H
    | .ret => some (.ret, e, H)
    | _ => none
def evF (X : Cx) : Nat → CallF
  | 0, _, _, _ => none
  | n + 1, f, args, H => match X.P.funcs[f]? with
    | none => none
    | some fn => match fn.body with
      | none => (X.ext f args).map (·, H)
      | some c => if X.bad f then none else match evC X n f fn.ntmps H.length c (argEnv 0 args) H with
        | some (.normal, e, H') | some (.ret, e, H') => match resD X e H' fn.results.toList with
          | some ds => pack H.length H' (oneOrTup ds)
          | none => none
        | _ => none
end

end Go.Ev
