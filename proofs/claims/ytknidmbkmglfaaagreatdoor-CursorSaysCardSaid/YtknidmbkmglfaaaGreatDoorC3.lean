import Derived.Test.YtknidmbkmglfaaaGreatDoorC2
import Derived.DataReads
import Derived.DataElems
import Derived.ChangeArms
import Derived.OpenShut
import Derived.Lib.LaidTab
import Derived.Stop.LaidErr
import Derived.LaidMore
import Derived.ProofKit
import Derived.Below
import Derived.Shelf.Strings.Search2
import Derived.Shelf.Strconv.Clone
import Derived.WalkSmall
import Derived.Shelf.Strconv.Itoa1
import Derived.Shelf.Strings.Repeat
import Derived.Lib.Bytealg
/- Names, marks. -/
namespace Go.Ev
open Go Go.Proofs
/-- A name of sixteen bytes. -/
structure ID where
  l : List UInt8
  h : l.length = 16
  deriving DecidableEq
@[simp] theorem ID.len (i : ID) : i.l.length = 16 := i.h
theorem ID.ext' {a b : ID} (h : a.l = b.l) : a = b := by cases a; cases b; simp at h; subst h; rfl
instance : Enc ID := ⟨16, fun i => ofBytes i.l, fun i => by simp, fun i => by simp⟩
theorem ID.cells (i : ID) : Enc.cells i = ofBytes i.l := rfl
def ID.zero : ID := ⟨List.replicate 16 0, by simp⟩
theorem cellsEq_bytes : ∀ (x y : List UInt8), x.length = y.length → cellsEq (List.replicate x.length .i) (ofBytes x) (ofBytes y) = some (x == y)
  | [], [], _ => rfl
  | a :: x, b :: y, h => by
    have ih := cellsEq_bytes x y (by simpa using h)
    simp only [List.length_cons, List.replicate_succ, ofBytes, List.map_cons, cellsEq, cellEq]
    simp only [ofBytes] at ih
    rw [ih]
    have : ((a.toNat : Int) == (b.toNat : Int)) = (a == b) := by
      rw [Bool.eq_iff_iff]
      simp only [beq_iff_eq, Int.natCast_inj]
      exact ⟨fun h => UInt8.toNat_inj.1 h, fun h => by rw [h]⟩
    simp [this]
  | [], _ :: _, h => by simp at h
  | _ :: _, [], h => by simp at h
theorem cellsEq_app : ∀ (k1 k2 : List CK) (a1 a2 b1 b2 : List D), k1.length = a1.length → k1.length = b1.length → cellsEq (k1 ++ k2) (a1 ++ a2) (b1 ++ b2) = match cellsEq k1 a1 b1, cellsEq k2 a2 b2 with
    | some x, some y => some (x && y)
    | _, _ => none
  | [], k2, [], a2, [], b2, _, _ => by
    simp only [List.nil_append, cellsEq]
    cases cellsEq k2 a2 b2 <;> simp
  | k :: k1, k2, a :: a1, a2, b :: b1, b2, h1, h2 => by
    simp only [List.cons_append, cellsEq, cellsEq_app k1 k2 a1 a2 b1 b2 (by simpa using h1) (by simpa using h2)]
    cases cellEq k a b <;> cases cellsEq k1 a1 b1 <;> cases cellsEq k2 a2 b2 <;> simp [Bool.and_assoc]
  | [], _, _ :: _, _, _, _, h, _ => by simp at h
  | [], _, [], _, _ :: _, _, _, h => by simp at h
  | _ :: _, _, [], _, _, _, h, _ => by simp at h
  | _ :: _, _, _ :: _, _, [], _, _, h => by simp at h
@[simp] theorem cellsEq16 (x y : ID) : cellsEq [.i, .i, .i, .i, .i, .i, .i, .i, .i, .i, .i, .i, .i, .i, .i, .i] (ofBytes x.l) (ofBytes y.l) = some (x == y) := by
  have := cellsEq_bytes x.l y.l (by simp)
  rw [x.h] at this
  have e : (x.l == y.l) = (x == y) := by
    rw [Bool.eq_iff_iff]
    simp only [beq_iff_eq]
    exact ⟨ID.ext', fun h => by rw [h]⟩
  rw [e] at this
  exact this
/-- A mark. -/
structure Mk where
  id : ID
  seq : Int
  lost : Int
  over : Int
  deriving DecidableEq
def isU64 (n : Int) : Prop := 0 ≤ n ∧ n < 18446744073709551616
structure Mk.Ok (m : Mk) : Prop where
  seq : isU64 m.seq
  lost : isU64 m.lost
  over : isU64 m.over
def Mk.tl (m : Mk) : List D := [.int .u64 m.seq, .int .u64 m.lost, .int .u64 m.over]
instance : Enc Mk := ⟨19, fun m => ofBytes m.id.l ++ m.tl, fun m => by simp [Mk.tl], fun m => by simp [Mk.tl, idFree]⟩
theorem Mk.cells (m : Mk) : Enc.cells m = ofBytes m.id.l ++ [.int .u64 m.seq, .int .u64 m.lost, .int .u64 m.over] := rfl
@[simp] theorem Mk.size : Enc.size Mk = 19 := rfl
@[simp] theorem ID.size : Enc.size ID = 16 := rfl
@[simp] theorem Mk.cl (a : Mk) : (Enc.cells a).length = 19 := Enc.len a
@[simp] theorem Mk.ct (a : Mk) (r : List D) : (Enc.cells a ++ r).take 19 = Enc.cells a := cells_take rfl a r
@[simp] theorem Mk.ct' (a : Mk) : (Enc.cells a).take 19 = Enc.cells a := cells_take' rfl a
@[simp] theorem Mk.cd (a : Mk) (r : List D) : (Enc.cells a ++ r).drop 19 = r := cells_drop rfl a r
@[simp] theorem Mk.el (l : List Mk) : (encs l).length = l.length * 19 := encs_len' rfl l
@[simp] theorem Mk.ed (l : List Mk) (i : Nat) : (encs l).drop (i * 19) = encs (l.drop i) := encs_drop rfl l i
@[simp] theorem Mk.et (l : List Mk) (i : Nat) : (encs l).take (i * 19) = encs (l.take i) := encs_take rfl l i
@[simp high] theorem Mk.ea {l : List Mk} {i : Nat} (h : i < l.length) : (encs l).drop (i * 19) = Enc.cells l[i] ++ encs (l.drop (i + 1)) := encs_at rfl h
@[simp high] theorem Mk.es (m : Mk) {l : List Mk} {j : Nat} (h : j < l.length) : setRange (encs l) (j * 19) (Enc.cells m) = encs (l.set j m) := encs_set rfl m l h
theorem drop_bytes {s : List UInt8} {n : Nat} (h : s.length ≤ n) : (ofBytes s).drop n = [] := List.drop_eq_nil_of_le (by simpa using h)
@[simp] theorem Mk.t16 (m : Mk) : (Enc.cells m).take 16 = ofBytes m.id.l := by simp [Mk.cells]
@[simp] theorem Mk.t16' (m : Mk) (r : List D) : (Enc.cells m ++ r).take 16 = ofBytes m.id.l := by simp [Mk.cells]
@[simp] theorem Mk.d16 (m : Mk) : (Enc.cells m).drop 16 = [.int .u64 m.seq, .int .u64 m.lost, .int .u64 m.over] := by simp [Mk.cells]
@[simp] theorem Mk.d17 (m : Mk) : (Enc.cells m).drop 17 = [.int .u64 m.lost, .int .u64 m.over] := by simp [Mk.cells, List.drop_append, drop_bytes]
@[simp] theorem Mk.d18 (m : Mk) : (Enc.cells m).drop 18 = [.int .u64 m.over] := by simp [Mk.cells, List.drop_append, drop_bytes]
@[simp] theorem Mk.d16' (m : Mk) (r : List D) : (Enc.cells m ++ r).drop 16 = [.int .u64 m.seq, .int .u64 m.lost, .int .u64 m.over] ++ r := by simp [Mk.cells]
@[simp] theorem Mk.d17' (m : Mk) (r : List D) : (Enc.cells m ++ r).drop 17 = [.int .u64 m.lost, .int .u64 m.over] ++ r := by simp [Mk.cells, List.drop_append, drop_bytes]
@[simp] theorem Mk.d18' (m : Mk) (r : List D) : (Enc.cells m ++ r).drop 18 = [.int .u64 m.over] ++ r := by simp [Mk.cells, List.drop_append, drop_bytes]
@[simp] theorem Mk.g16 (m : Mk) (h) : (Enc.cells m)[16]'h = .int .u64 m.seq := by simp [Mk.cells]
@[simp] theorem Mk.g17 (m : Mk) (h) : (Enc.cells m)[17]'h = .int .u64 m.lost := by simp [Mk.cells]
@[simp] theorem Mk.g18 (m : Mk) (h) : (Enc.cells m)[18]'h = .int .u64 m.over := by simp [Mk.cells]
@[simp] theorem Mk.s16 (m : Mk) (x : Int) : setRange (Enc.cells m) 16 [.int .u64 x] = Enc.cells { m with seq := x } := by simp [Mk.cells, List.drop_append, drop_bytes]
@[simp] theorem Mk.s17 (m : Mk) (x : Int) : setRange (Enc.cells m) 17 [.int .u64 x] = Enc.cells { m with lost := x } := by simp [Mk.cells, List.take_append, List.drop_append, drop_bytes, List.take_of_length_le]
@[simp] theorem Mk.s18 (m : Mk) (x : Int) : setRange (Enc.cells m) 18 [.int .u64 x] = Enc.cells { m with over := x } := by simp [Mk.cells, List.take_append, List.drop_append, drop_bytes, List.take_of_length_le]
theorem cellsEqMk (x y : Mk) : cellsEq [.i, .i, .i, .i, .i, .i, .i, .i, .i, .i, .i, .i, .i, .i, .i, .i, .i, .i, .i] (Enc.cells x) (Enc.cells y) = some (x == y) := by
  have h := cellsEq_app [.i, .i, .i, .i, .i, .i, .i, .i, .i, .i, .i, .i, .i, .i, .i, .i] [.i, .i, .i] (ofBytes x.id.l) x.tl (ofBytes y.id.l) y.tl (by simp) (by simp)
  rw [cellsEq16] at h
  have e : cellsEq [.i, .i, .i] x.tl y.tl = some (x.seq == y.seq && (x.lost == y.lost && x.over == y.over)) := by simp [Mk.tl, cellsEq]
  rw [e] at h
  have e2 : (x == y) = (x.id == y.id && (x.seq == y.seq && (x.lost == y.lost && x.over == y.over))) := by
    rw [Bool.eq_iff_iff]
    cases x; cases y
    simp [Mk.mk.injEq, beq_iff_eq]
  rw [e2]
  exact h
end Go.Ev
/- Fields, records, items. -/
namespace Go.Ev
open Go Go.Proofs
/-- A field. -/
structure Pr where
  name : List UInt8
  value : List UInt8
  deriving DecidableEq
instance : Enc Pr := ⟨2, fun p => [.str p.name, .str p.value], fun _ => rfl, fun _ => rfl⟩
theorem Pr.cells (p : Pr) : Enc.cells p = [.str p.name, .str p.value] := rfl
@[simp] theorem Pr.size : Enc.size Pr = 2 := rfl
@[simp] theorem Pr.cl (a : Pr) : (Enc.cells a).length = 2 := Enc.len a
@[simp] theorem Pr.ct (a : Pr) (r : List D) : (Enc.cells a ++ r).take 2 = Enc.cells a := cells_take rfl a r
@[simp] theorem Pr.ct' (a : Pr) : (Enc.cells a).take 2 = Enc.cells a := cells_take' rfl a
@[simp] theorem Pr.cd (a : Pr) (r : List D) : (Enc.cells a ++ r).drop 2 = r := cells_drop rfl a r
@[simp] theorem Pr.el (l : List Pr) : (encs l).length = l.length * 2 := encs_len' rfl l
@[simp] theorem Pr.ed (l : List Pr) (i : Nat) : (encs l).drop (i * 2) = encs (l.drop i) := encs_drop rfl l i
@[simp] theorem Pr.et (l : List Pr) (i : Nat) : (encs l).take (i * 2) = encs (l.take i) := encs_take rfl l i
@[simp high] theorem Pr.ea {l : List Pr} {i : Nat} (h : i < l.length) : (encs l).drop (i * 2) = Enc.cells l[i] ++ encs (l.drop (i + 1)) := encs_at rfl h
@[simp high] theorem Pr.es (m : Pr) {l : List Pr} {j : Nat} (h : j < l.length) : setRange (encs l) (j * 2) (Enc.cells m) = encs (l.set j m) := encs_set rfl m l h
/-- A record. -/
structure Rec where
  seq : Int
  real : Int
  mono : Int
  boot : ID
  fields : Sl Pr
instance : Enc Rec := ⟨20, fun r => [.int .u64 r.seq, .int .u64 r.real, .int .u64 r.mono] ++ (ofBytes r.boot.l ++ [(.vsl r.fields.nil (encs r.fields.l) r.fields.l.length)]), fun r => by simp, fun r => by simp [idFree]⟩
theorem Rec.cells (r : Rec) : Enc.cells r = [.int .u64 r.seq, .int .u64 r.real, .int .u64 r.mono] ++ (ofBytes r.boot.l ++ [(.vsl r.fields.nil (encs r.fields.l) r.fields.l.length)]) := rfl
@[simp] theorem Rec.size : Enc.size Rec = 20 := rfl
structure Rec.Ok (r : Rec) : Prop where
  seq : isU64 r.seq
  real : isU64 r.real
  mono : isU64 r.mono
@[simp] theorem Rec.cl (a : Rec) : (Enc.cells a).length = 20 := Enc.len a
@[simp] theorem Rec.ct (a : Rec) (r : List D) : (Enc.cells a ++ r).take 20 = Enc.cells a := cells_take rfl a r
@[simp] theorem Rec.ct' (a : Rec) : (Enc.cells a).take 20 = Enc.cells a := cells_take' rfl a
@[simp] theorem Rec.cd (a : Rec) (r : List D) : (Enc.cells a ++ r).drop 20 = r := cells_drop rfl a r
@[simp] theorem Rec.el (l : List Rec) : (encs l).length = l.length * 20 := encs_len' rfl l
@[simp] theorem Rec.ed (l : List Rec) (i : Nat) : (encs l).drop (i * 20) = encs (l.drop i) := encs_drop rfl l i
@[simp] theorem Rec.et (l : List Rec) (i : Nat) : (encs l).take (i * 20) = encs (l.take i) := encs_take rfl l i
@[simp high] theorem Rec.ea {l : List Rec} {i : Nat} (h : i < l.length) : (encs l).drop (i * 20) = Enc.cells l[i] ++ encs (l.drop (i + 1)) := encs_at rfl h
@[simp high] theorem Rec.es (m : Rec) {l : List Rec} {j : Nat} (h : j < l.length) : setRange (encs l) (j * 20) (Enc.cells m) = encs (l.set j m) := encs_set rfl m l h
/-- An item: an entry of a sequence, or numbers of it that are lost. -/
structure It where
  id : ID
  gap : Bool
  fr : Int
  til : Int
  rc : Rec
instance : Enc It := ⟨39, fun i => ofBytes i.id.l ++ ([.bool i.gap, .int .u64 i.fr, .int .u64 i.til] ++ Enc.cells i.rc), fun i => by simp, fun i => by simp [idFree]⟩
theorem It.cells (i : It) : Enc.cells i = ofBytes i.id.l ++ ([.bool i.gap, .int .u64 i.fr, .int .u64 i.til] ++ ([.int .u64 i.rc.seq, .int .u64 i.rc.real, .int .u64 i.rc.mono] ++ (ofBytes i.rc.boot.l ++ [(.vsl i.rc.fields.nil (encs i.rc.fields.l) i.rc.fields.l.length)]))) := rfl
@[simp] theorem It.size : Enc.size It = 39 := rfl
structure It.Ok (i : It) : Prop where
  fr : isU64 i.fr
  til : isU64 i.til
  rc : i.rc.Ok
@[simp] theorem It.cl (a : It) : (Enc.cells a).length = 39 := Enc.len a
@[simp] theorem It.ct (a : It) (r : List D) : (Enc.cells a ++ r).take 39 = Enc.cells a := cells_take rfl a r
@[simp] theorem It.ct' (a : It) : (Enc.cells a).take 39 = Enc.cells a := cells_take' rfl a
@[simp] theorem It.cd (a : It) (r : List D) : (Enc.cells a ++ r).drop 39 = r := cells_drop rfl a r
@[simp] theorem It.el (l : List It) : (encs l).length = l.length * 39 := encs_len' rfl l
@[simp] theorem It.ed (l : List It) (i : Nat) : (encs l).drop (i * 39) = encs (l.drop i) := encs_drop rfl l i
@[simp] theorem It.et (l : List It) (i : Nat) : (encs l).take (i * 39) = encs (l.take i) := encs_take rfl l i
@[simp high] theorem It.ea {l : List It} {i : Nat} (h : i < l.length) : (encs l).drop (i * 39) = Enc.cells l[i] ++ encs (l.drop (i + 1)) := encs_at rfl h
@[simp high] theorem It.es (m : It) {l : List It} {j : Nat} (h : j < l.length) : setRange (encs l) (j * 39) (Enc.cells m) = encs (l.set j m) := encs_set rfl m l h
@[simp] theorem It.t16 (i : It) : (Enc.cells i).take 16 = ofBytes i.id.l := by simp [It.cells]
@[simp] theorem It.t16' (i : It) (r : List D) : (Enc.cells i ++ r).take 16 = ofBytes i.id.l := by simp [It.cells]
@[simp] theorem It.d16 (i : It) : (Enc.cells i).drop 16 = .bool i.gap :: .int .u64 i.fr :: .int .u64 i.til :: .int .u64 i.rc.seq :: .int .u64 i.rc.real :: .int .u64 i.rc.mono :: (ofBytes i.rc.boot.l ++ [(.vsl i.rc.fields.nil (encs i.rc.fields.l) i.rc.fields.l.length)]) := by simp [It.cells]
@[simp] theorem It.d17 (i : It) : (Enc.cells i).drop 17 = .int .u64 i.fr :: .int .u64 i.til :: .int .u64 i.rc.seq :: .int .u64 i.rc.real :: .int .u64 i.rc.mono :: (ofBytes i.rc.boot.l ++ [(.vsl i.rc.fields.nil (encs i.rc.fields.l) i.rc.fields.l.length)]) := by simp [It.cells, List.drop_append, drop_bytes]
@[simp] theorem It.d18 (i : It) : (Enc.cells i).drop 18 = .int .u64 i.til :: .int .u64 i.rc.seq :: .int .u64 i.rc.real :: .int .u64 i.rc.mono :: (ofBytes i.rc.boot.l ++ [(.vsl i.rc.fields.nil (encs i.rc.fields.l) i.rc.fields.l.length)]) := by simp [It.cells, List.drop_append, drop_bytes]
@[simp] theorem It.d19 (i : It) : (Enc.cells i).drop 19 = .int .u64 i.rc.seq :: .int .u64 i.rc.real :: .int .u64 i.rc.mono :: (ofBytes i.rc.boot.l ++ [(.vsl i.rc.fields.nil (encs i.rc.fields.l) i.rc.fields.l.length)]) := by simp [It.cells, List.drop_append, drop_bytes]
@[simp] theorem It.d20 (i : It) : (Enc.cells i).drop 20 = .int .u64 i.rc.real :: .int .u64 i.rc.mono :: (ofBytes i.rc.boot.l ++ [(.vsl i.rc.fields.nil (encs i.rc.fields.l) i.rc.fields.l.length)]) := by simp [It.cells, List.drop_append, drop_bytes]
@[simp] theorem It.d21 (i : It) : (Enc.cells i).drop 21 = .int .u64 i.rc.mono :: (ofBytes i.rc.boot.l ++ [(.vsl i.rc.fields.nil (encs i.rc.fields.l) i.rc.fields.l.length)]) := by simp [It.cells, List.drop_append, drop_bytes]
@[simp] theorem It.d22 (i : It) : (Enc.cells i).drop 22 = ofBytes i.rc.boot.l ++ [(.vsl i.rc.fields.nil (encs i.rc.fields.l) i.rc.fields.l.length)] := by simp [It.cells, List.drop_append, drop_bytes]
@[simp] theorem It.d38 (i : It) : (Enc.cells i).drop 38 = [(.vsl i.rc.fields.nil (encs i.rc.fields.l) i.rc.fields.l.length)] := by simp [It.cells, List.drop_append, drop_bytes]
end Go.Ev
/- Numbers in bytes, the lowest first. -/
namespace Go.Ev
open Go Go.Proofs
/-- The number that bytes are. -/
def leN : List UInt8 → Nat
  | [] => 0
  | b :: l => b.toNat + 256 * leN l
/-- The lowest n bytes of a number. -/
def leB : Nat → Nat → List UInt8
  | 0, _ => []
  | n + 1, v => UInt8.ofNat (v % 256) :: leB n (v / 256)
@[simp] theorem leB_len : ∀ (n v : Nat), (leB n v).length = n
  | 0, _ => rfl
  | n + 1, v => by simp [leB, leB_len n]
theorem leN_lt : ∀ (l : List UInt8), leN l < 256 ^ l.length
  | [] => by simp [leN]
  | b :: l => by
    have h1 := leN_lt l
    have h2 := b.toNat_lt
    simp only [leN, List.length_cons, Nat.pow_succ]
    omega
theorem leN_leB : ∀ (n v : Nat), leN (leB n v) = v % 256 ^ n
  | 0, v => by simp [leB, leN, Nat.mod_one]
  | n + 1, v => by
    simp only [leB, leN, leN_leB n]
    rw [UInt8.toNat_ofNat_of_lt' (Nat.mod_lt _ (by decide)), Nat.pow_succ, Nat.mul_comm (256 ^ n) 256, Nat.mod_mul]
theorem leB_leN : ∀ (l : List UInt8), leB l.length (leN l) = l
  | [] => rfl
  | b :: l => by
    have h2 := b.toNat_lt
    have e1 : (b.toNat + 256 * leN l) % 256 = b.toNat := by omega
    have e2 : (b.toNat + 256 * leN l) / 256 = leN l := by omega
    simp only [List.length_cons, leN, leB, e1, e2, leB_leN l]
    simp
theorem leB_snoc : ∀ (n v : Nat), leB (n + 1) v = leB n v ++ [UInt8.ofNat (v / 256 ^ n % 256)]
  | 0, v => by simp [leB]
  | n + 1, v => by
    rw [leB, leB_snoc n (v / 256), leB, List.cons_append, Nat.div_div_eq_div_mul, Nat.pow_succ, Nat.mul_comm 256]
theorem leN_append : ∀ (a b : List UInt8), leN (a ++ b) = leN a + 256 ^ a.length * leN b
  | [], b => by simp [leN]
  | x :: a, b => by
    simp only [List.cons_append, leN, leN_append a b, List.length_cons, Nat.pow_succ]
    rw [Nat.mul_add, ← Nat.mul_assoc, Nat.mul_comm 256 (256 ^ a.length), Nat.add_assoc]
theorem ofBytes_append (a b : List UInt8) : ofBytes (a ++ b) = ofBytes a ++ ofBytes b := by simp [ofBytes]
theorem ofBytes_cons (a : UInt8) (b : List UInt8) : ofBytes (a :: b) = .int .u8 (a.toNat : Int) :: ofBytes b := rfl
theorem ofBytes_drop (l : List UInt8) (i : Nat) : (ofBytes l).drop i = ofBytes (l.drop i) := by simp [ofBytes]
theorem ofBytes_take (l : List UInt8) (i : Nat) : (ofBytes l).take i = ofBytes (l.take i) := by simp [ofBytes]
theorem ofBytes_at {l : List UInt8} {i : Nat} (h : i < l.length) : (ofBytes l).drop i = .int .u8 (l[i].toNat : Int) :: ofBytes (l.drop (i + 1)) := by
  rw [ofBytes_drop, List.drop_eq_getElem_cons h, ofBytes_cons]
theorem ofBytes_get {l : List UInt8} {i : Nat} (h : i < (ofBytes l).length) : (ofBytes l)[i] = .int .u8 ((l[i]'(by simpa using h)).toNat : Int) := by simp [ofBytes]
@[simp] theorem bytesD_of (s : List UInt8) : bytesD (ofBytes s) = some s := by
  induction s with
  | nil => rfl
  | cons a s ih =>
    have : bytesD (ofBytes (a :: s)) = (bytesD (ofBytes s)).map fun r => UInt8.ofNat ((a.toNat : Int)).toNat :: r := rfl
    rw [this, ih]
    simp
theorem or_shl (x y : Nat) (h : y < 256) : (x * 256) ||| y = x * 256 + y := by
  have := Nat.shiftLeft_add_eq_or_of_lt (b := y) (i := 8) (by simpa using h) x
  rw [Nat.shiftLeft_eq] at this
  simpa using this.symm
/-- A slice of one's own that grows, none at first. -/
def BufE {α : Type} [Enc α] (n : Nat) (d : D) (H : Heap) (l : List α) : Prop := (d = .vsl true [] 0 ∧ l = [] ∧ H = []) ∨ (d = .osl 0 (l.length * n) 0 l.length n ∧ H = [some (encs l)] ∧ l ≠ [])
theorem BufE.snoc {α : Type} [Enc α] {n : Nat} (l : List α) (a : α) : BufE n (.osl 0 (l.length * n + n) 0 (l.length + 1) n) [some (encs l ++ Enc.cells a)] (l ++ [a]) :=
  .inr ⟨by simp [Nat.add_mul], by simp [encs_snoc], by simp⟩
theorem BufE.one {α : Type} [Enc α] {n : Nat} (a : α) : BufE n (.osl 0 n 0 1 n) [some (Enc.cells a)] ([] ++ [a]) :=
  .inr ⟨by simp, by simp [encs_one], by simp⟩
/-- A list as a slice: none where it is empty. -/
def Sl.grown {α : Type} (l : List α) : Sl α := ⟨l.isEmpty, l, by simp⟩
@[simp] theorem Sl.grown_l {α : Type} (l : List α) : (Sl.grown l).l = l := rfl
def ID.mk' (l : List UInt8) : ID := if h : l.length = 16 then ⟨l, h⟩ else ID.zero
theorem ID.mk'_l {l : List UInt8} (h : l.length = 16) : (ID.mk' l).l = l := by unfold ID.mk'; rw [dif_pos h]
/-- The mark that bytes are. -/
def mkOf (r : List UInt8) : Mk := ⟨ID.mk' (r.take 16), leN ((r.drop 16).take 8), leN ((r.drop 24).take 8), leN ((r.drop 32).take 8)⟩
def lastGe (out : List Mk) (id : List UInt8) : Bool := match out.getLast? with
  | some m => decide (0 ≤ cmpB m.id.l id)
  | none => false
/-- Marks that are read one behind the other: what is read, the code. -/
def readGo : Nat → List UInt8 → List Mk → List Mk × Int
  | 0, _, out => (out, 0)
  | k + 1, r, out => if r.length < 16 then ([], 22) else if lastGe out (r.take 16) then ([], 13) else if r.length < 40 then ([], 22) else readGo k (r.drop 40) (out ++ [mkOf r])
def readM : List UInt8 → List Mk × Int
  | [] => ([], 22)
  | c :: r => if 4 < c.toNat then ([], 21) else readGo c.toNat r []
def readN (x : List Mk × Int) : Int := if x.2 = 0 then 1 + 40 * (x.1.length : Int) else 0
end Go.Ev
/- Whatever plain data comes in: what it reads as. -/
namespace Go.Ev
open Go Go.Proofs
/-- Types of plain data, field behind field. -/
def plainF (P : Program) (g : TypeId → Bool) : List Field → Nat → Nat → Bool
  | [], off, size => off == size
  | f :: fs, off, size => f.offset == off && g f.type && plainF P g fs (off + P.cellsOf f.type) size
def PlainT (P : Program) : Nat → TypeId → Bool
  | 0, _ => false
  | n + 1, t => match P.underlying t with
    | some .bool => true
    | some (.int _) => true
    | some .string => true
    | some (.slice e) => PlainT P n e
    | some (.array m e) => PlainT P n e && P.cellsOf t == m * P.cellsOf e
    | some (.struct fs) => plainF P (PlainT P n) fs.toList 0 (P.cellsOf t)
    | _ => false
def HasFs (P : Program) (g : TypeId → List D → Prop) : List Field → List D → Prop
  | [], cs => cs = []
  | f :: fs, cs => ∃ a b, cs = a ++ b ∧ a.length = P.cellsOf f.type ∧ g f.type a ∧ HasFs P g fs b
/-- Cells of a value of a type. -/
def HasT (P : Program) : Nat → TypeId → List D → Prop
  | 0, _, _ => False
  | n + 1, t, cs => match P.underlying t with
    | some .bool => ∃ b, cs = [.bool b]
    | some (.int k) => ∃ x, cs = [.int k x] ∧ (Lit.int k x).wf = true
    | some .string => ∃ s, cs = [.str s] ∧ s.length ≤ maxLen
    | some (.slice e) => cs = [.vsl true [] 0] ∨ ∃ ls : List (List D), cs = [.vsl false ls.flatten ls.length] ∧ ls.length ≤ maxLen ∧ ∀ l, l ∈ ls → l.length = P.cellsOf e ∧ HasT P n e l
    | some (.array m e) => ∃ ls : List (List D), cs = ls.flatten ∧ ls.length = m ∧ ∀ l, l ∈ ls → l.length = P.cellsOf e ∧ HasT P n e l
    | some (.struct fs) => HasFs P (HasT P n) fs.toList cs
    | _ => False
attribute [irreducible] HasT

theorem cell_lt {W : World} {a : Addr} {v : Value} (h : W.cell? a = some v) : a.block < W.heap.size := by
  unfold World.cell? at h
  rcases Nat.lt_or_ge a.block W.heap.size with hlt | hge
  · exact hlt
  · have : W.heap[a.block]? = none := Array.getElem?_eq_none hge
    simp [this] at h
def Cor (W : World) (ds : List D) (vs : List Value) : Prop := ds.length = vs.length ∧ (∀ d, d ∈ ds → isCell d = true) ∧ ∀ (j : Nat) d, ds[j]? = some d → Rep (· < W.heap.size) W iota0 [] d (vs.getD j undef)

theorem cor_one {W : World} {d : D} {v : Value} (hc : isCell d = true) (h : Rep (· < W.heap.size) W iota0 [] d v) : Cor W [d] [v] := by
  refine ⟨rfl, fun x hx => by rw [List.mem_singleton.1 hx]; exact hc, fun j x hj => ?_⟩
  cases j with
  | zero => simp at hj; subst hj; exact h
  | succ j => simp at hj

theorem cor_append {W : World} {a b : List D} {us vs : List Value} (h1 : Cor W a us) (h2 : Cor W b vs) : Cor W (a ++ b) (us ++ vs) := by
  refine ⟨by simp [h1.1, h2.1], fun d hd => ?_, fun j d hj => ?_⟩
  · rcases List.mem_append.1 hd with h | h
    · exact h1.2.1 d h
    · exact h2.2.1 d h
  · by_cases hlt : j < a.length
    · rw [List.getElem?_append_left hlt] at hj
      have := h1.2.2 j d hj
      rw [List.getD_eq_getElem?_getD] at this ⊢
      rwa [List.getElem?_append_left (by rw [← h1.1]; exact hlt)]
    · rw [List.getElem?_append_right (by omega)] at hj
      have := h2.2.2 _ d hj
      rw [List.getD_eq_getElem?_getD] at this ⊢
      rw [List.getElem?_append_right (by rw [← h1.1]; omega), ← h1.1]
      exact this

section
variable {H : Type} {enc : TypeId × Value → H} {P : Program} {W : World}

/-- Cells that are cut out one behind the other. -/
theorem cut_rows {sz : Nat} {Q : List D → Prop} : ∀ (m off : Nat) (cs : List Value), cs.length = off + m * sz →
    (∀ i, i < m → ∃ ds, Q ds ∧ Cor W ds ((cs.drop (off + i * sz)).take sz)) → ∃ ls : List (List D), ls.length = m ∧ (∀ l, l ∈ ls → l.length = sz ∧ Q l) ∧ Cor W ls.flatten (cs.drop off)
  | 0, off, cs, hl, _ => ⟨[], rfl, by simp, by
      rw [List.drop_eq_nil_of_le (by omega)]
      exact ⟨rfl, by simp, by simp⟩⟩
  | m + 1, off, cs, hl, h => by
    have e1 : (m + 1) * sz = sz + m * sz := by rw [Nat.add_mul, Nat.one_mul, Nat.add_comm]
    rw [e1] at hl
    obtain ⟨ds, q1, q2⟩ := h 0 (by omega)
    rw [Nat.zero_mul, Nat.add_zero] at q2
    obtain ⟨ls, l1, l2, l3⟩ := cut_rows (sz := sz) (Q := Q) m (off + sz) cs (by omega) (fun i hi => by
      have := h (i + 1) (by omega)
      rw [Nat.add_mul, Nat.one_mul] at this
      rw [show off + sz + i * sz = off + (i * sz + sz) by omega]
      exact this)
    have hds : ds.length = sz := by
      rw [q2.1, List.length_take, List.length_drop]
      omega
    refine ⟨ds :: ls, by simp [l1], fun l hl => ?_, ?_⟩
    · rcases List.mem_cons.1 hl with rfl | hl
      · exact ⟨hds, q1⟩
      · exact l2 l hl
    · rw [List.flatten_cons]
      have := cor_append q2 l3
      rw [← List.drop_drop, List.take_append_drop] at this
      exact this

theorem fs_has {g : TypeId → Bool} {Q : TypeId → List D → Prop} : ∀ (fs : List Field) (off : Nat) (cs : List Value), plainF P g fs off cs.length = true →
    (∀ f, f ∈ fs → g f.type = true → ∃ ds, Q f.type ds ∧ Cor W ds ((cs.drop f.offset).take (P.cellsOf f.type))) → ∃ ds, HasFs P Q fs ds ∧ Cor W ds (cs.drop off)
  | [], off, cs, hp, _ => by
    simp only [plainF, beq_iff_eq] at hp
    exact ⟨[], rfl, by rw [List.drop_eq_nil_of_le (by omega)]; exact ⟨rfl, by simp, by simp⟩⟩
  | f :: fs, off, cs, hp, h => by
    simp only [plainF, Bool.and_eq_true, beq_iff_eq] at hp
    obtain ⟨⟨h1, h2⟩, h3⟩ := hp
    obtain ⟨a, a1, a2⟩ := h f (List.mem_cons_self ..) h2
    obtain ⟨b, b1, b2⟩ := fs_has fs (off + P.cellsOf f.type) cs h3 fun f' hf => h f' (List.mem_cons_of_mem _ hf)
    rw [h1] at a2
    have hle : off + P.cellsOf f.type ≤ cs.length := plainF_le h3
    refine ⟨a ++ b, ⟨a, b, rfl, ?_, a1, b1⟩, ?_⟩
    · rw [a2.1, List.length_take, List.length_drop]
      omega
    · have := cor_append a2 b2
      rwa [← List.drop_drop, List.take_append_drop] at this
where plainF_le {g : TypeId → Bool} : ∀ {fs : List Field} {off n : Nat}, plainF P g fs off n = true → off ≤ n
  | [], off, n, h => by simp only [plainF, beq_iff_eq] at h; omega
  | f :: fs, off, n, h => by
    simp only [plainF, Bool.and_eq_true] at h
    have := plainF_le h.2
    omega

theorem trod_has : ∀ (n fuel : Nat) (t : TypeId) (cs : List Value) (x : DataW H × List MemPlace), PlainT P n t = true → DataW.trod enc P W 0 (fun _ => true) true fuel t cs = some x →
    ∃ ds, HasT P n t ds ∧ Cor W ds cs
  | 0, _, _, _, _, h, _ => by simp [PlainT] at h
  | n + 1, fuel, t, cs, x, hp, h => by
    have ih := trod_has n
    unfold PlainT at hp
    unfold HasT
    cases hu : P.underlying t with
    | none => rw [hu] at hp; simp at hp
    | some u =>
    rw [hu] at hp
    cases u with
    | bool =>
      obtain ⟨b, rfl, _⟩ := DataW.trod_bool hu h
      exact ⟨_, ⟨b, rfl⟩, cor_one rfl (.bool _)⟩
    | int k =>
      obtain ⟨b, rfl, _, hw⟩ := DataW.trod_int hu h
      exact ⟨_, ⟨b, rfl, hw⟩, cor_one rfl (.int _ _)⟩
    | string =>
      obtain ⟨s, rfl, _, hw⟩ := DataW.trod_string hu h
      refine ⟨_, ⟨s.data.toList, rfl, by simpa using hw⟩, cor_one rfl ?_⟩
      have := Rep.str (ok := (· < W.heap.size)) (w := W) (ι := iota0) (H := []) s.data.toList
      simpa using this
    | slice e =>
      simp only at hp ⊢
      rcases DataW.trod_slice hu h with ⟨rfl, _⟩ | ⟨a, len, cap, elems, rest, m, rfl, rfl, _, _, hlc, hcm, hel, hget, _⟩
      · exact ⟨_, .inl rfl, cor_one rfl .vnil⟩
      · have hrow : ∀ i, i < len → ∃ ds, HasT P n e ds ∧ ds.length = P.cellsOf e ∧ (∀ d, d ∈ ds → isCell d = true) ∧ ∀ (j : Nat) d, ds[j]? = some d → ∃ v, W.cell? (a.add (i * P.cellsOf e + j)) = some v ∧ Rep (· < W.heap.size) W iota0 [] d v := by
          intro i hi
          have hg := hget i hi
          rw [List.getElem?_eq_getElem (by omega)] at hg
          cases hcs : W.cells? 0 (a.add (i * P.cellsOf e)) (P.cellsOf e) with
          | none => rw [hcs] at hg; simp at hg
          | some cs =>
            rw [hcs, Option.bind_some] at hg
            obtain ⟨ds, d1, d2, d3, d4⟩ := ih m e cs _ hp hg
            obtain ⟨_, c2, c3⟩ := World.cells?_some hcs
            refine ⟨ds, d1, by rw [d2, c2], d3, fun j d hj => ?_⟩
            have hjl : j < cs.length := by rw [← d2]; exact (List.getElem?_eq_some_iff.1 hj).1
            refine ⟨cs[j], ?_, ?_⟩
            · rw [← Addr.add_add, c3 j (by omega), List.getElem?_eq_getElem hjl]
            · have := d4 j d hj
              rwa [List.getD_eq_getElem?_getD, List.getElem?_eq_getElem hjl, Option.getD_some] at this
        have hall : ∀ k, k ≤ len → ∃ ls : List (List D), ls.length = k ∧ (∀ l, l ∈ ls → l.length = P.cellsOf e ∧ HasT P n e l) ∧ (∀ d, d ∈ ls.flatten → isCell d = true) ∧ ls.flatten.length = k * P.cellsOf e ∧
            ∀ (j : Nat) d, ls.flatten[j]? = some d → ∃ v, W.cell? (a.add j) = some v ∧ Rep (· < W.heap.size) W iota0 [] d v := by
          intro k
          induction k with
          | zero => intro _; exact ⟨[], rfl, by simp, by simp, by simp, by simp⟩
          | succ k ihk =>
            intro hk
            obtain ⟨ls, l1, l2, l3, l4, l5⟩ := ihk (by omega)
            obtain ⟨ds, d1, d2, d3, d4⟩ := hrow k (by omega)
            refine ⟨ls ++ [ds], by simp [l1], fun l hl => ?_, ?_, ?_, ?_⟩
            · rcases List.mem_append.1 hl with h | h
              · exact l2 l h
              · rw [List.mem_singleton.1 h]; exact ⟨d2, d1⟩
            · intro d hd
              rw [List.flatten_append] at hd
              rcases List.mem_append.1 hd with h | h
              · exact l3 d h
              · exact d3 d (by simpa using h)
            · rw [List.flatten_append, List.length_append, l4, Nat.add_mul, Nat.one_mul]
              simp [d2]
            · intro j d hj
              rw [List.flatten_append] at hj
              by_cases hlt : j < ls.flatten.length
              · rw [List.getElem?_append_left hlt] at hj
                exact l5 j d hj
              · rw [List.getElem?_append_right (by omega)] at hj
                rw [l4] at hj hlt
                have hj' : ds[j - k * P.cellsOf e]? = some d := by simpa using hj
                obtain ⟨v, v1, v2⟩ := d4 _ d hj'
                refine ⟨v, ?_, v2⟩
                rw [← v1]
                congr 2
                omega
        obtain ⟨ls, l1, l2, l3, l4, l5⟩ := hall len (Nat.le_refl _)
        refine ⟨_, .inr ⟨ls, rfl, by rw [l1]; omega, l2⟩, cor_one rfl ?_⟩
        rw [l1]
        refine .vsl a (fun j => (W.cell? (a.add j)).getD undef) (fun d hd => ?_) l3 (fun j d hj => ?_) (fun j d hj => ?_) hlc
        · obtain ⟨j, hj⟩ := List.mem_iff_getElem?.1 hd
          obtain ⟨v, v1, _⟩ := l5 j d hj
          have := cell_lt v1
          rwa [add_block] at this
        · obtain ⟨v, v1, _⟩ := l5 j d hj
          rw [v1]; rfl
        · obtain ⟨v, v1, v2⟩ := l5 j d hj
          rw [v1]; exact v2
    | array m e =>
      simp only [Bool.and_eq_true, beq_iff_eq] at hp ⊢
      obtain ⟨xs, k, rfl, _, hl, hxl, hg⟩ := DataW.trod_array hu h
      have := cut_rows (W := W) (sz := P.cellsOf e) (Q := HasT P n e) m 0 cs (by rw [hl, hp.2]; omega) (fun i hi => by
        rw [Nat.zero_add]
        have hgi := hg i hi
        rw [List.getElem?_eq_getElem (by omega)] at hgi
        exact ih k e _ _ hp.1 hgi)
      obtain ⟨ls, l1, l2, l3⟩ := this
      exact ⟨ls.flatten, ⟨ls, rfl, l1, l2⟩, by simpa using l3⟩
    | struct fs =>
      simp only at hp ⊢
      obtain ⟨xs, k, rfl, _, hl, hxl, hg⟩ := DataW.trod_struct hu h
      rw [← hl] at hp
      obtain ⟨ds, d1, d2⟩ := fs_has (W := W) (Q := HasT P n) fs.toList 0 cs hp (fun f hf hgf => by
        obtain ⟨i, hi⟩ := List.mem_iff_getElem?.1 hf
        have hi' : fs[i]? = some f := by simpa using hi
        have hgi := hg i f hi'
        have hlt : i < xs.length := by rw [hxl]; exact (Array.getElem?_eq_some_iff.1 hi').1
        rw [List.getElem?_eq_getElem hlt] at hgi
        exact ih k f.type _ _ hgf hgi)
      exact ⟨ds, d1, by simpa using d2⟩
    | _ => simp at hp

/-- An argument of plain data: what it reads as. -/
theorem read_plain {n : Nat} {t : TypeId} {v : Value} {d : DataW H} {ps : List MemPlace} (hp : PlainT P n t = true) (h : DataW.Trod enc P W 0 (fun _ => true) true t v d ps) :
    ∃ ds, HasT P n t ds ∧ Cor W ds v.cells.toList := by
  obtain ⟨fuel, hf⟩ := h
  exact trod_has n fuel t _ _ hp hf
end
end Go.Ev
/- Package-level variables that are laid: what they read as. -/
namespace Go.Ev
open Go Go.Proofs Go.RowKit Go.ChangeShapes
theorem addr_add_zero (a : Addr) : a.add 0 = a := by
  obtain ⟨b, o, p⟩ := a
  cases p <;> simp [Addr.add]
theorem rep_tab {P : Program} {W : World} {name : String} {k : IntKind} {zs : List Int} {g : Nat} (h : Lib.TabIs P W name k zs) (hg : P.globalNamed name = some g) :
    Rep (· < W.heap.size) W iota0 [] (.vptr (zs.map (.int k))) (.pointer (some ⟨g, 0, none⟩)) := by
  have hc : ∀ i, i < zs.length → W.cell? ⟨g, i, none⟩ = some (.int k (zs.getD i 0)) := fun i hi => h.cell hg i hi
  refine .vptr _ (fun j => .int k (zs.getD j 0)) (fun d hd => ?_) (fun d hd => ?_) (fun j d hj => ?_) (fun j d hj => ?_)
  · obtain ⟨j, hj⟩ := List.mem_iff_getElem?.1 hd
    have hlt : j < zs.length := by
      have := (List.getElem?_eq_some_iff.1 hj).1
      simpa using this
    have := cell_lt (hc j hlt)
    exact this
  · obtain ⟨z, _, rfl⟩ := List.mem_map.1 hd
    rfl
  · have hlt : j < zs.length := by
      have := (List.getElem?_eq_some_iff.1 hj).1
      simpa using this
    rw [addr_add, Nat.zero_add]
    exact hc j hlt
  · have hlt : j < zs.length := by
      have := (List.getElem?_eq_some_iff.1 hj).1
      simpa using this
    rw [List.getElem?_map, List.getElem?_eq_getElem hlt, Option.map_some, Option.some.injEq] at hj
    subst hj
    rw [List.getD_eq_getElem?_getD, List.getElem?_eq_getElem hlt, Option.getD_some]
    exact .int k _
theorem rep_err {P : Program} {W : World} {name : String} {g : Nat} {tp : TypeId} {text : List UInt8} (hg : P.globalNamed name = some g)
    (h : ∃ (a : Addr) (s : ByteArray), W.var? P name = some #[.iface tp (.pointer (some a))] ∧ W.cell? a = some (.string s) ∧ s.data.toList = text ∧ s.size ≤ maxLen) :
    Rep (· < W.heap.size) W iota0 [] (.vptr [.iface tp (.vptr [.str text])]) (.pointer (some ⟨g, 0, none⟩)) := by
  obtain ⟨a, s, hv, hc, rfl, _⟩ := h
  have hcell : W.cell? ⟨g, 0, none⟩ = some (.iface tp (.pointer (some a))) := by
    have := World.var?_cell hg hv 0
    simpa using this
  have one : ∀ {d e : D} {j : Nat}, [e][j]? = some d → j = 0 ∧ d = e := fun {d e j} hj => by
    cases j with
    | zero => simp at hj; exact ⟨rfl, hj.symm⟩
    | succ j => simp at hj
  have hin : Rep (· < W.heap.size) W iota0 [] (.vptr [.str s.data.toList]) (.pointer (some a)) := by
    refine .vptr a (fun _ => .string s) (fun d hd => cell_lt hc) (fun d hd => by rw [List.mem_singleton.1 hd]; rfl) (fun j d hj => ?_) (fun j d hj => ?_)
    · obtain ⟨rfl, rfl⟩ := one hj
      rw [addr_add_zero]
      exact hc
    · obtain ⟨rfl, rfl⟩ := one hj
      have := Rep.str (ok := (· < W.heap.size)) (w := W) (ι := iota0) (H := []) s.data.toList
      simpa using this
  refine .vptr _ (fun _ => .iface tp (.pointer (some a))) (fun d hd => cell_lt hcell) (fun d hd => by rw [List.mem_singleton.1 hd]; rfl) (fun j d hj => ?_) (fun j d hj => ?_)
  · obtain ⟨rfl, rfl⟩ := one hj
    rw [addr_add_zero]
    exact hcell
  · obtain ⟨rfl, rfl⟩ := one hj
    exact .iface hin
/-- The sign of a pointer's name. -/
def star : String := String.ofList [Char.ofNat 42]
theorem err_row {P : Program} {nm base : String} {tp : TypeId} (hs : star ++ base = nm)
    (hrows : ((List.range P.types.size).all fun u => P.typeName? 3 u != some nm || u == tp) = true)
    (hnamed : ((List.range P.types.size).all fun e => P.typeName? 2 e != some base || (match (P.info? e).map (·.desc) with | some (TypeDesc.named _ _) => true | _ => false)) = true)
    (hstar : base.toList.head? ≠ some (Char.ofNat 42)) : ∀ u, P.typeName? 3 u = some nm → u = tp := by
  subst hs
  intro u hu
  exact typeName_ptr_named (nm := base) hrows hnamed hstar u hu
end Go.Ev
/- Functions that are met by a contract. -/
namespace Go.Ev
open Go Go.Proofs Go.RowKit
section
variable {X : Cx} {ok : Nat → Prop} {w w' : World} {ι : Iota} {H : Heap}
theorem below_evol {n : Nat} (hn : n ≤ H.length) (hb : Below w.heap.size w w') : Evol n ok w ι H ok w' ι H where
  os := hb.os
  tape := hb.tape
  output := hb.output
  size := hb.size
  frame b hlt _ := hb.block b hlt
  okU _ h := h
  okN _ h _ := .inl h
  nle := ⟨hn, hn⟩
  heap _ _ ds h := ⟨ds, h, Nat.le_refl _, fun _ => rfl⟩
  own i ds _ s h1 h2 _ := ⟨i, ds, s, h1, h2⟩
theorem below_sim (hs : Sim X ok w ι H) (hb : Below w.heap.size w w') : Sim X ok w' ι H := by
  have hev : Evol H.length ok w ι H ok w' ι H := below_evol (Nat.le_refl _) hb
  refine ⟨fun b h => Nat.lt_of_lt_of_le (hs.okS b h) hb.size, fun g cs hg => (((hs.glob g cs hg).lift (ι := ι) (H := H)).evol hs hev rfl).free rfl _ _, hs.inj, fun i ds hd => ?_⟩
  obtain ⟨b, arr, e, fr, q1, q2, q3, q4, q5, q6, q7, q8⟩ := hs.blk i ds hd
  have hlt : b < w.heap.size := by
    rcases Nat.lt_or_ge b w.heap.size with h | h
    · exact h
    · rw [Array.getElem?_eq_none h] at q3; cases q3
  exact ⟨b, arr, e, fr, q1, q2, by rw [hb.block b hlt]; exact q3, q4, q5, q6, q7, fun j d hj => (q8 j d hj).evol hs hev (q8 j d hj).closed⟩
/-- A function that leaves all that was there as it was, and gives something without names. -/
theorem con_below {f : Nat} {vs : List Value} {r : D} (hs : Sim X ok w ι H) (henter : (callFunc f vs.toArray).run X.P w = .ok (.enter f vs.toArray) w)
    (hc : Calls X.P f vs.toArray w fun e w' => ∃ v, e = .returned v ∧ Rep ok w' ι H r v ∧ Below w.heap.size w w') : Goes X.P (callFunc f vs.toArray) w (CallPost X ok w ι H r H) := by
  unfold Goes
  rw [henter]
  refine hc.mono ?_
  rintro e w' ⟨v, rfl, hr, hb⟩
  exact ⟨v, rfl, ι, ok, below_sim hs hb, hr, below_evol (Nat.le_refl _) hb, fun i ds hi hd => by rw [hget, List.getElem?_eq_none hi] at hd; cases hd⟩
/-- One variable of one number. -/
theorem glob_int {g : Nat} {k : IntKind} {m : Int} (hs : Sim X ok w ι H) (hg : X.glob g = some [.int k m]) : w.cell? ⟨g, 0, none⟩ = some (.int k m) := by
  have h := hs.glob g _ hg
  cases h with
  | vptr a f ha hc hr h =>
    have h1 := hr 0 (.int k m) rfl
    have h2 := h 0 (.int k m) rfl
    rw [addr_add_zero] at h1
    generalize f 0 = v at h1 h2
    cases h2
    exact h1
theorem rep_one {W : World} {g : Nat} {k : IntKind} {m : Int} (h : W.cell? ⟨g, 0, none⟩ = some (.int k m)) : Rep (· < W.heap.size) W iota0 [] (.vptr [.int k m]) (.pointer (some ⟨g, 0, none⟩)) := by
  refine .vptr _ (fun _ => .int k m) (fun d hd => cell_lt h) (fun d hd => by rw [List.mem_singleton.1 hd]; rfl) (fun j d hj => ?_) (fun j d hj => ?_)
  · cases j with
    | zero => rw [addr_add_zero]; exact h
    | succ j => simp at hj
  · cases j with
    | zero => simp at hj; subst hj; exact .int k m
    | succ j => simp at hj
end
/-- A number that a program's start sets, whatever it is. -/
class MaxL where
  m : Int
end Go.Ev
/- Functions of the library that are met by the shelf's contracts: strings.Index, Clone. -/
namespace Go.Ev
open Go Go.Proofs Go.RowKit Go.Shelf
/-- Where a text stands in another one first, or -1. -/
def idxN (sub : List UInt8) : List UInt8 → Nat → Int
  | [], n => if sub.isEmpty then n else -1
  | b :: l, n => if sub.isPrefixOf (b :: l) then n else idxN sub l (n + 1)
theorem idxN_lib (sub : List UInt8) : ∀ (l : List UInt8) (n : Nat), idxN sub l n = if Lib.index l sub = -1 then -1 else Lib.index l sub + n
  | [], n => by
    simp only [idxN, Lib.index]
    by_cases h : sub.isEmpty = true <;> simp [h]
  | b :: l, n => by
    have hg := Lib.index_ge l sub
    simp only [idxN, Lib.index, idxN_lib sub l (n + 1)]
    by_cases hp : sub.isPrefixOf (b :: l) = true
    · simp [hp]
    · by_cases h : Lib.index l sub = -1
      · simp [h, hp]
      · have h2 : ¬ Lib.index l sub + 1 = -1 := by omega
        simp only [beq_iff_eq, h, h2, hp, if_false, Bool.false_eq_true]
        omega
theorem idx_lib (sub l : List UInt8) : Lib.index l sub = idxN sub l 0 := by
  rw [idxN_lib]
  split
  · assumption
  · simp
def conIdx : List D → Heap → Option (D × Heap)
  | [.str s, .str sub], H => if s.length < 4294967281 then some (.int .i64 (idxN sub s 0), H) else none
  | _, _ => none
def conClone : List D → Heap → Option (D × Heap)
  | [.str s], H => if s.length ≤ 281474976710656 then some (.str s, H) else none
  | _, _ => none
section
variable {X : Cx} {ρ : Ren} {ok : Nat → Prop} {w : World} {ι : Iota} {H H' : Heap} {r : D} {args : List D} {vs : List Value}
theorem repL_str1 {s : List UInt8} (hv : RepL ok w ι H [.str s] vs) : vs = [.string ⟨s.toArray⟩] := by
  obtain ⟨v, us, rfl, h1, h2⟩ := repL_cons hv
  cases repL_nil h2
  cases h1
  rfl
theorem repL_str2 {s t : List UInt8} (hv : RepL ok w ι H [.str s, .str t] vs) : vs = [.string ⟨s.toArray⟩, .string ⟨t.toArray⟩] := by
  obtain ⟨v, us, rfl, h1, h2⟩ := repL_cons hv
  cases repL_str1 h2
  cases h1
  rfl
theorem conIdx_run {m : Int} (L : Lays.n219 X.P ρ) (hg : X.glob (ρ.g 1) = some [.int .i64 m]) (h : conIdx args H = some (r, H')) (hs : Sim X ok w ι H) (hv : RepL ok w ι H args vs) :
    Goes X.P (callFunc (ρ.f 219) vs.toArray) w (CallPost X ok w ι H r H') := by
  have he : ∀ args w, (callFunc (ρ.f 219) args).run X.P w = .ok (.enter (ρ.f 219) args) w := Go.Proofs.enters_of L.f219 (by kernel_rfl) rfl
  unfold conIdx at h
  split at h
  · rename_i s sub
    split at h
    · rename_i hlen
      injection h with h
      injection h with h1 h2
      subst h1; subst h2
      cases repL_str2 hv
      refine con_below hs (he _ _) ((Any.stringslite_Index L ⟨s.toArray⟩ ⟨sub.toArray⟩ m w (by simpa [ByteArray.size] using hlen) (glob_int hs hg)).mono ?_)
      rintro e w' ⟨rfl, rfl⟩
      refine ⟨_, rfl, ?_, Below.refl _ _⟩
      rw [idx_lib]
      exact .int .i64 _
    · cases h
  · cases h
theorem conClone_run (L : LaysM.n316 X.P ρ) (h : conClone args H = some (r, H')) (hs : Sim X ok w ι H) (hv : RepL ok w ι H args vs) :
    Goes X.P (callFunc (ρ.f 316) vs.toArray) w (CallPost X ok w ι H r H') := by
  have he : ∀ args w, (callFunc (ρ.f 316) args).run X.P w = .ok (.enter (ρ.f 316) args) w := Go.Proofs.enters_of L.f316 (by kernel_rfl) rfl
  unfold conClone at h
  split at h
  · rename_i s
    split at h
    · rename_i hlen
      injection h with h
      injection h with h1 h2
      subst h1; subst h2
      cases repL_str1 hv
      refine con_below hs (he _ _) ((Any.stringslite_Clone L ⟨s.toArray⟩ w (by simpa [ByteArray.size] using hlen)).mono ?_)
      rintro e w' ⟨rfl, hb⟩
      exact ⟨_, rfl, .str s, hb⟩
    · cases h
  · cases h
end
end Go.Ev
/- Numbers as texts: what the shelf has of it. -/
namespace Go.Ev
open Go Go.Proofs Go.RowKit Go.Shelf
/-- The decimal digits of a number below 10^f. -/
def decF : Nat → Nat → List UInt8
  | 0, _ => []
  | f + 1, v => if v < 10 then [UInt8.ofNat (48 + v)] else decF f (v / 10) ++ [UInt8.ofNat (48 + v % 10)]
def dec (v : Nat) : List UInt8 := decF 20 v
theorem decF_lib : ∀ {f v : Nat}, v < 10 ^ f → 1 ≤ f → decF f v = Lib.decDigits v
  | f + 1, v, h, _ => by
    rw [decF, Lib.decDigits]
    by_cases hv : v < 10
    · rw [if_pos hv, dif_pos hv]
    · have hf : 1 ≤ f := by
        rcases f with _ | f
        · simp at h; omega
        · omega
      rw [if_neg hv, dif_neg hv, decF_lib (f := f) (by rw [Nat.pow_succ] at h; omega) hf]
theorem dec_lib {v : Nat} (h : v < 18446744073709551616) : dec v = Lib.decDigits v := decF_lib (Nat.lt_trans h (by decide)) (by decide)
def conLen64 : List D → Heap → Option (D × Heap)
  | [.int .u64 x], H => if 0 ≤ x ∧ x ≤ 18446744073709551615 then some (.int .i64 (Lib.bitLen x.toNat), H) else none
  | _, _ => none
def conSmall : List D → Heap → Option (D × Heap)
  | [.int .i64 x], H => if 0 ≤ x ∧ x < 100 then some (.str (dec x.toNat), H) else none
  | _, _ => none
section
variable {X : Cx} {ρ : Ren} {ok : Nat → Prop} {w : World} {ι : Iota} {H H' : Heap} {r : D} {args : List D} {vs : List Value}
theorem repL_int1 {k : IntKind} {x : Int} (hv : RepL ok w ι H [.int k x] vs) : vs = [.int k x] := by
  obtain ⟨v, us, rfl, h1, h2⟩ := repL_cons hv
  cases repL_nil h2
  cases h1
  rfl
theorem conLen64_run (L : Lays.n129 X.P ρ) (h : conLen64 args H = some (r, H')) (hs : Sim X ok w ι H) (hv : RepL ok w ι H args vs) :
    Goes X.P (callFunc (ρ.f 129) vs.toArray) w (CallPost X ok w ι H r H') := by
  have he : ∀ args w, (callFunc (ρ.f 129) args).run X.P w = .ok (.enter (ρ.f 129) args) w := Go.Proofs.enters_of L.f129 (by kernel_rfl) rfl
  unfold conLen64 at h
  split at h
  · rename_i x
    split at h
    · rename_i hc
      injection h with h
      injection h with h1 h2
      subst h1; subst h2
      cases repL_int1 hv
      refine con_below hs (he _ _) ((Any.bits_Len64 L x w hc.1 hc.2).mono ?_)
      rintro e w' ⟨rfl, rfl⟩
      exact ⟨_, rfl, .int .i64 _, Below.refl _ _⟩
    · cases h
  · cases h
theorem conSmall_run (L : Lays.n283 X.P ρ) (h : conSmall args H = some (r, H')) (hs : Sim X ok w ι H) (hv : RepL ok w ι H args vs) :
    Goes X.P (callFunc (ρ.f 283) vs.toArray) w (CallPost X ok w ι H r H') := by
  have he : ∀ args w, (callFunc (ρ.f 283) args).run X.P w = .ok (.enter (ρ.f 283) args) w := Go.Proofs.enters_of L.f283 (by kernel_rfl) rfl
  unfold conSmall at h
  split at h
  · rename_i x
    split at h
    · rename_i hc
      injection h with h
      injection h with h1 h2
      subst h1; subst h2
      cases repL_int1 hv
      have hx : x = ((x.toNat : Nat) : Int) := by omega
      have := Any.internal_strconv_small L x.toNat (by omega) w
      rw [← hx] at this
      refine con_below hs (he _ _) (this.mono ?_)
      rintro e w' ⟨rfl, rfl⟩
      rw [dec_lib (by omega)]
      exact ⟨_, rfl, .str _, Below.refl _ _⟩
    · cases h
  · cases h
end
end Go.Ev
/- Functions of the library: a byte's place, how often it stands, copies of a text. -/
namespace Go.Ev
open Go Go.Proofs Go.RowKit Go.Shelf
/-- Where a byte stands first, or -1. -/
def idxB (c : UInt8) : List UInt8 → Nat → Int
  | [], _ => -1
  | b :: l, n => if b = c then n else idxB c l (n + 1)
theorem idxB_lib (c : UInt8) : ∀ (l : List UInt8) (n : Nat), idxB c l n = if Lib.indexByte l c = -1 then -1 else Lib.indexByte l c + n
  | [], n => by simp [idxB, Lib.indexByte]
  | b :: l, n => by
    have hg := Lib.indexByte_ge l c
    simp only [idxB, Lib.indexByte, idxB_lib c l (n + 1)]
    by_cases hp : b = c
    · simp [hp]
    · by_cases h : Lib.indexByte l c = -1
      · simp [h, hp]
      · have h2 : ¬ Lib.indexByte l c + 1 = -1 := by omega
        simp only [beq_iff_eq, h, h2, hp, if_false]
        omega
theorem idxB_lib0 (c : UInt8) (l : List UInt8) : Lib.indexByte l c = idxB c l 0 := by
  rw [idxB_lib]
  split
  · assumption
  · simp
def idxBExt : List D → Option D
  | [.str s, .int .u8 c] => some (.int .i64 (idxB (UInt8.ofNat c.toNat) s 0))
  | _ => none
def cntExt : List D → Option D
  | [.str s, .int .u8 c] => some (.int .i64 (s.count (UInt8.ofNat c.toNat) : Nat))
  | _ => none
def conRepeat : List D → Heap → Option (D × Heap)
  | [.str s, .int .i64 c], H => if 0 ≤ c ∧ c ≤ 100000 ∧ s.length * c.toNat ≤ 140737488355328 then some (.str (Lib.repeatL s c.toNat), H) else none
  | _, _ => none
section
variable {X : Cx} {ρ : Ren} {ok : Nat → Prop} {w : World} {ι : Iota} {H H' : Heap} {r : D} {args : List D} {vs : List Value}
theorem repL_strInt {s : List UInt8} {k : IntKind} {c : Int} (hv : RepL ok w ι H [.str s, .int k c] vs) : vs = [.string ⟨s.toArray⟩, .int k c] := by
  obtain ⟨v, us, rfl, h1, h2⟩ := repL_cons hv
  obtain ⟨v2, us2, rfl, h3, h4⟩ := repL_cons h2
  cases repL_nil h4
  cases h1
  cases h3
  rfl
theorem idxBExt_run {P : Program} {f : Nat} {fn : Func} (hf : P.funcs[f]? = some fn) (hn : fn.body = none) (hng : (fn.name == "runtime.NumGoroutine") = false)
    (h1 : Extern.findNext fn = none) (h2 : Extern.find fn = some Extern.BytealgIndexByte.indexByte) {d : D}
    (h : idxBExt args = some d) (hv : RepL ok w ι H args vs) : ∃ v, (callFunc f vs.toArray).run P w = .ok (.value v) w ∧ Rep ok w ι H d v ∧ idFree d = true := by
  unfold idxBExt at h
  split at h
  · rename_i s c
    injection h with h
    subst h
    cases repL_strInt hv
    refine ⟨.int .i64 (idxB (UInt8.ofNat c.toNat) s 0), ?_, .int _ _, rfl⟩
    rw [run_callFunc_extern hf hng (by rw [hn]; rfl) h1 h2, Lib.run_indexByteString, idxB_lib0]
    rfl
  · cases h
theorem cntExt_run {P : Program} {f : Nat} {fn : Func} (hf : P.funcs[f]? = some fn) (hn : fn.body = none) (hng : (fn.name == "runtime.NumGoroutine") = false)
    (h1 : Extern.findNext fn = none) (h2 : Extern.find fn = some Extern.BytealgCount.count) {d : D}
    (h : cntExt args = some d) (hv : RepL ok w ι H args vs) : ∃ v, (callFunc f vs.toArray).run P w = .ok (.value v) w ∧ Rep ok w ι H d v ∧ idFree d = true := by
  unfold cntExt at h
  split at h
  · rename_i s c
    injection h with h
    subst h
    cases repL_strInt hv
    refine ⟨.int .i64 (s.count (UInt8.ofNat c.toNat) : Nat), ?_, .int _ _, rfl⟩
    rw [run_callFunc_extern hf hng (by rw [hn]; rfl) h1 h2, Lib.run_countString]
    rfl
  · cases h
theorem conRepeat_run (L : Lays.n105 X.P ρ) (E : Builder.Extra X.P ρ) (h : conRepeat args H = some (r, H')) (hs : Sim X ok w ι H) (hv : RepL ok w ι H args vs) :
    Goes X.P (callFunc (ρ.f 105) vs.toArray) w (CallPost X ok w ι H r H') := by
  have he : ∀ args w, (callFunc (ρ.f 105) args).run X.P w = .ok (.enter (ρ.f 105) args) w := Go.Proofs.enters_of L.f105 (by kernel_rfl) rfl
  unfold conRepeat at h
  split at h
  · rename_i s c
    split at h
    · rename_i hc
      injection h with h
      injection h with h1 h2
      subst h1; subst h2
      cases repL_strInt hv
      obtain ⟨n, rfl⟩ : ∃ n : Nat, c = (n : Int) := ⟨c.toNat, by omega⟩
      refine con_below hs (he _ _) ((Any.strings_Repeat L E ⟨s.toArray⟩ n w (by omega) (by simpa [ByteArray.size] using hc.2.2)).mono ?_)
      rintro e w' ⟨rfl, hb⟩
      exact ⟨_, rfl, .str _, hb⟩
    · cases h
  · cases h
end
end Go.Ev
