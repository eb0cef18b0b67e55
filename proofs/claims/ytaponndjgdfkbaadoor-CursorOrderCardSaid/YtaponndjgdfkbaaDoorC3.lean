import Derived.Test.YtaponndjgdfkbaaDoorC2
import Derived.Test.YtaponndjgdfkbaaDoorRows
import Derived.DataReads
import Derived.DataElems
import Derived.ChangeArms
import Derived.OpenShut
import Derived.Lib.LaidTab
import Derived.Stop.LaidErr
import Derived.LaidMore
import Derived.ProofKit
/- What the evaluator needs of this program: printed by program. -/
namespace Go.Ev.S
open Go Go.Proofs Go.Ev
def kf3 : Nat → Option (List Nat × Nat)
  | 0 => some ([0, 1, 2], 0)
  | 1 => some ([2, 3, 4], 0)
  | 2 => some ([2, 3, 4, 7], 0)
  | 3 => some ([], 0)
  | 4 => some ([2, 3, 4, 7], 0)
  | 5 => some ([2, 3, 4, 7, 8], 0)
  | 6 => some ([2, 3, 4, 7, 8], 0)
  | 7 => some ([2, 3, 4, 7, 8], 0)
  | 8 => some ([2, 3, 4, 7, 8, 9, 10], 0)
  | 9 => some ([], 0)
  | 10 => some ([2, 3, 4, 7, 8, 9], 0)
  | 11 => some ([], 0)
  | 12 => some ([2, 3, 4, 7, 8, 9], 0)
  | 13 => some ([], 0)
  | 14 => some ([2, 3, 4, 7, 8], 0)
  | 15 => some ([2, 3, 4, 7, 8], 0)
  | 16 => some ([2, 3, 4, 7, 8], 0)
  | 17 => some ([7], 0)
  | _ => none
def kf11 : Nat → Option (List Nat × Nat)
  | 0 => some ([], 0)
  | 1 => some ([], 0)
  | 2 => some ([1], 0)
  | _ => none
def kf12 : Nat → Option (List Nat × Nat)
  | 0 => some ([0, 1], 0)
  | 1 => some ([2, 3], 0)
  | 2 => some ([2, 3], 0)
  | 3 => some ([2, 3], 0)
  | _ => none
def kf13 : Nat → Option (List Nat × Nat)
  | 0 => some ([0, 1], 0)
  | 1 => some ([0, 1], 0)
  | 2 => some ([], 0)
  | 3 => some ([0, 1], 0)
  | _ => none
def kf32 : Nat → Option (List Nat × Nat)
  | 0 => some ([0], 0)
  | 1 => some ([1], 0)
  | 2 => some ([1, 3], 0)
  | _ => none
def kf35 : Nat → Option (List Nat × Nat)
  | 0 => some ([0], 0)
  | 1 => some ([1], 0)
  | 2 => some ([1, 3], 0)
  | 3 => some ([3, 6, 7], 0)
  | 4 => some ([3, 6, 7], 0)
  | 5 => some ([3, 5, 6, 7], 0)
  | 6 => some ([3, 6, 7], 0)
  | 7 => some ([3], 0)
  | _ => none
def kf38 : Nat → Option (List Nat × Nat)
  | 0 => some ([0, 1], 0)
  | 1 => some ([0, 1], 0)
  | 2 => some ([0, 1, 5], 0)
  | 3 => some ([0, 1, 5, 6], 0)
  | 4 => some ([6], 0)
  | 5 => some ([], 0)
  | 6 => some ([], 0)
  | 7 => some ([0, 1, 6], 0)
  | 8 => some ([], 0)
  | 9 => some ([0, 1], 0)
  | 10 => some ([], 0)
  | 11 => some ([0, 1], 0)
  | 12 => some ([], 0)
  | 13 => some ([], 0)
  | _ => none
def kf39 : Nat → Option (List Nat × Nat)
  | 0 => some ([0], 0)
  | 1 => some ([0], 0)
  | 2 => some ([0, 3], 0)
  | 3 => some ([3, 6, 7, 8], 0)
  | 4 => some ([3, 6, 7, 8], 0)
  | 5 => some ([3, 5, 6, 7, 8], 0)
  | 6 => some ([5], 0)
  | 7 => some ([3, 6, 7, 8], 0)
  | 8 => some ([3], 0)
  | _ => none
def kf40 : Nat → Option (List Nat × Nat)
  | 0 => some ([0, 1], 0)
  | 1 => some ([0, 1], 0)
  | _ => none
def kf53 : Nat → Option (List Nat × Nat)
  | 0 => some ([0], 0)
  | 1 => some ([0], 0)
  | _ => none
def kf54 : Nat → Option (List Nat × Nat)
  | 0 => some ([0, 1], 0)
  | 1 => some ([0, 1], 0)
  | _ => none
def kf61 : Nat → Option (List Nat × Nat)
  | 0 => some ([0], 0)
  | 1 => some ([0], 0)
  | _ => none
def kf69 : Nat → Option (List Nat × Nat)
  | 0 => some ([0, 1], 0)
  | 1 => some ([0, 1], 0)
  | 2 => some ([0], 0)
  | 3 => some ([0], 0)
  | 4 => some ([0], 0)
  | 5 => some ([0, 5], 0)
  | 6 => some ([0, 5, 6], 0)
  | 7 => some ([5, 6], 0)
  | 8 => some ([0, 1], 0)
  | 9 => some ([8], 0)
  | _ => none
def kf89 : Nat → Option (List Nat × Nat)
  | 0 => some ([0], 0)
  | 1 => some ([0], 0)
  | 2 => some ([0], 0)
  | 3 => some ([0], 0)
  | _ => none
def kf90 : Nat → Option (List Nat × Nat)
  | 0 => some ([0], 0)
  | 1 => some ([0], 0)
  | 2 => some ([0, 3], 0)
  | _ => none
def kf91 : Nat → Option (List Nat × Nat)
  | 0 => some ([0, 1], 0)
  | 1 => some ([0, 1, 4], 0)
  | 2 => some ([0, 1, 4], 0)
  | 3 => some ([0, 1, 4, 5], 0)
  | 4 => some ([0, 1, 4, 5], 0)
  | 5 => some ([0, 1, 4, 6, 7], 0)
  | 6 => some ([0, 1, 4, 6, 8, 9], 0)
  | 7 => some ([0, 1, 4, 8, 9, 10, 11], 0)
  | 8 => some ([0, 1, 4, 8, 10, 11], 0)
  | 9 => some ([0, 1, 4, 10, 11], 0)
  | 10 => some ([0, 1, 4, 10], 0)
  | 11 => some ([0, 1, 4], 0)
  | 12 => some ([0, 1, 4], 0)
  | 13 => some ([0, 4, 12], 0)
  | 14 => some ([0, 4, 12], 0)
  | 15 => some ([0, 4, 12, 13], 0)
  | 16 => some ([0, 4, 12, 13], 0)
  | 17 => some ([0, 4, 12, 14, 15], 0)
  | 18 => some ([0, 4, 12, 14], 0)
  | 19 => some ([0, 4, 12], 0)
  | 20 => some ([0, 4, 12], 0)
  | 21 => some ([0, 4, 12], 0)
  | 22 => some ([0, 4, 12, 16], 0)
  | 23 => some ([0, 4, 12, 16], 0)
  | 24 => some ([0, 4, 12], 0)
  | 25 => some ([0, 4, 12], 0)
  | 26 => some ([0, 12], 0)
  | _ => none
def kf92 : Nat → Option (List Nat × Nat)
  | 0 => some ([0, 1, 2, 3, 4], 0)
  | 1 => some ([0, 1, 2, 3, 4, 10, 11], 0)
  | 2 => some ([0, 1, 2, 3, 4, 10, 11], 0)
  | 3 => some ([0, 1, 2, 3, 4, 10, 11], 0)
  | 4 => some ([0, 1, 2, 3, 4, 10, 11, 12], 0)
  | 5 => some ([0, 1, 2, 3, 4, 10, 11, 12, 13], 0)
  | 6 => some ([0, 1, 2, 3, 4, 10, 11, 12, 13], 0)
  | 7 => some ([0, 1, 2, 3, 4, 10, 11, 12, 13], 0)
  | 8 => some ([0, 1, 2, 3, 4, 10, 11, 12, 13], 0)
  | 9 => some ([0, 1, 2, 3, 4, 10, 11, 12, 13, 14], 0)
  | 10 => some ([0, 1, 2, 3, 4, 10, 11, 12, 13, 14, 15], 0)
  | 11 => some ([0, 1, 3, 4, 10, 11, 12, 13, 14, 15, 16], 0)
  | 12 => some ([0, 1, 3, 4, 10, 11, 12, 13, 14, 15, 16], 0)
  | 13 => some ([0, 1, 3, 4, 10, 11, 12, 13, 14, 15, 16], 0)
  | 14 => some ([0, 1, 3, 4, 10, 11, 12, 13, 14, 15, 16], 0)
  | 15 => some ([0, 1, 3, 4, 10, 11, 12, 13], 0)
  | 16 => some ([0, 1, 3, 4, 10, 11, 12, 13], 0)
  | 17 => some ([0, 1, 2, 3, 4, 10, 11, 12, 13], 0)
  | 18 => some ([0, 1, 3, 4, 10, 11, 12, 13, 17], 0)
  | 19 => some ([0, 1, 3, 4, 10, 11, 12, 13, 17], 0)
  | 20 => some ([0, 1, 3, 4, 10, 11, 12, 13, 17], 0)
  | 21 => some ([0, 1, 3, 4, 10, 11, 12, 13, 17, 18], 0)
  | 22 => some ([0, 3, 4, 10, 11, 12, 13, 17, 18], 0)
  | 23 => some ([0, 1, 3, 4, 10, 11, 12, 13], 0)
  | 24 => some ([0, 1, 3, 4, 10, 11, 12, 13], 0)
  | 25 => some ([0, 3, 4, 10, 11, 12, 13], 0)
  | 26 => some ([0, 4, 10, 11, 12, 13], 0)
  | 27 => some ([0, 4, 10, 11, 12, 13], 0)
  | 28 => some ([0, 4, 10, 11, 12, 13], 0)
  | 29 => some ([0, 11, 12, 13], 0)
  | 30 => some ([10, 12, 13], 0)
  | _ => none
def kf113 : Nat → Option (List Nat × Nat)
  | 0 => some ([0], 0)
  | 1 => some ([0], 0)
  | _ => none
def kf114 : Nat → Option (List Nat × Nat)
  | 0 => some ([0], 0)
  | 1 => some ([0, 2], 0)
  | 2 => some ([0], 0)
  | 3 => some ([0], 0)
  | 4 => some ([0, 2], 0)
  | 5 => some ([0, 2], 0)
  | 6 => some ([0, 2], 0)
  | 7 => some ([0, 2], 0)
  | 8 => some ([0, 2], 0)
  | 9 => some ([0, 2], 0)
  | 10 => some ([0, 2], 0)
  | _ => none
def kf115 : Nat → Option (List Nat × Nat)
  | 0 => some ([0], 0)
  | 1 => some ([0], 0)
  | 2 => some ([], 0)
  | 3 => some ([], 0)
  | _ => none
def kf116 : Nat → Option (List Nat × Nat)
  | 0 => some ([0], 0)
  | 1 => some ([0], 0)
  | _ => none
def kf117 : Nat → Option (List Nat × Nat)
  | 0 => some ([0], 0)
  | 1 => some ([0], 0)
  | 2 => some ([0], 0)
  | _ => none
def kf128 : Nat → Option (List Nat × Nat)
  | 0 => some ([0], 0)
  | 1 => some ([0], 0)
  | 2 => some ([], 0)
  | 3 => some ([0], 0)
  | _ => none
def kf129 : Nat → Option (List Nat × Nat)
  | 0 => some ([0], 0)
  | 1 => some ([0], 0)
  | 2 => some ([], 0)
  | 3 => some ([0], 0)
  | _ => none
def keepT : Nat → Nat → Option (List Nat × Nat)
  | 3 => kf3
  | 11 => kf11
  | 12 => kf12
  | 13 => kf13
  | 32 => kf32
  | 35 => kf35
  | 38 => kf38
  | 39 => kf39
  | 40 => kf40
  | 53 => kf53
  | 54 => kf54
  | 61 => kf61
  | 69 => kf69
  | 89 => kf89
  | 90 => kf90
  | 91 => kf91
  | 92 => kf92
  | 113 => kf113
  | 114 => kf114
  | 115 => kf115
  | 116 => kf116
  | 117 => kf117
  | 128 => kf128
  | 129 => kf129
  | _ => fun _ => none
def frzT : Nat → Nat → List Nat
  | 12, 3 => [2, 3]
  | _, _ => []
def retT : Nat → Nat → List Nat
  | _, _ => []
def permT : Nat → Bool
  | _ => false
def byRefT : Nat → Bool
  | _ => false
def badT : Nat → Bool
  | 2 => true
  | 4 => true
  | 5 => true
  | 6 => true
  | 7 => true
  | 8 => true
  | 9 => true
  | 10 => true
  | 14 => true
  | 15 => true
  | 16 => true
  | 17 => true
  | 18 => true
  | 19 => true
  | 20 => true
  | 21 => true
  | 22 => true
  | 23 => true
  | 24 => true
  | 25 => true
  | 26 => true
  | 27 => true
  | 28 => true
  | 29 => true
  | 30 => true
  | 31 => true
  | 33 => true
  | 34 => true
  | 36 => true
  | 37 => true
  | 41 => true
  | 42 => true
  | 43 => true
  | 44 => true
  | 45 => true
  | 46 => true
  | 47 => true
  | 48 => true
  | 49 => true
  | 50 => true
  | 51 => true
  | 52 => true
  | 55 => true
  | 56 => true
  | 57 => true
  | 58 => true
  | 59 => true
  | 60 => true
  | 63 => true
  | 64 => true
  | 65 => true
  | 66 => true
  | 67 => true
  | 68 => true
  | 70 => true
  | 71 => true
  | 72 => true
  | 73 => true
  | 74 => true
  | 75 => true
  | 76 => true
  | 77 => true
  | 78 => true
  | 79 => true
  | 80 => true
  | 81 => true
  | 82 => true
  | 83 => true
  | 85 => true
  | 86 => true
  | 87 => true
  | 88 => true
  | 93 => true
  | 94 => true
  | 95 => true
  | 96 => true
  | 97 => true
  | 98 => true
  | 99 => true
  | 100 => true
  | 101 => true
  | 102 => true
  | 104 => true
  | 105 => true
  | 106 => true
  | 107 => true
  | 108 => true
  | 110 => true
  | 111 => true
  | 112 => true
  | 118 => true
  | 119 => true
  | 122 => true
  | 123 => true
  | 124 => true
  | 125 => true
  | 130 => true
  | 131 => true
  | 132 => true
  | 133 => true
  | 163 => true
  | _ => false
def pureT : Nat → Bool
  | 13 => true
  | 35 => true
  | 38 => true
  | 40 => true
  | 53 => true
  | _ => false
def fzrT : Nat → Bool
  | 31 => false
  | 66 => false
  | _ => true
def extT : Nat → List D → Option D
  | 62 => cmpExt
  | _ => fun _ => none
def conT : Nat → List D → Heap → Option (D × Heap)
  | _ => fun _ _ => none
def gz1 : List Int := [1, 10, 100, 1000, 10000, 100000, 1000000, 10000000, 100000000, 1000000000, 10000000000, 100000000000, 1000000000000, 10000000000000, 100000000000000, 1000000000000000, 10000000000000000, 100000000000000000, 1000000000000000000, 10000000000000000000]
def gz4 : List Int := [0, 1, 28, 2, 29, 14, 24, 3, 30, 22, 20, 15, 25, 17, 4, 8, 31, 27, 13, 23, 21, 19, 16, 7, 26, 12, 18, 6, 11, 5, 10, 9]
def gz5 : List Int := [0, 1, 56, 2, 57, 49, 28, 3, 61, 58, 42, 50, 38, 29, 17, 4, 62, 47, 59, 36, 45, 43, 51, 22, 53, 39, 33, 30, 24, 18, 12, 5, 63, 55, 48, 27, 60, 41, 37, 16, 46, 35, 44, 21, 52, 32, 23, 11, 54, 26, 40, 15, 34, 20, 31, 10, 25, 14, 19, 9, 13, 8, 7, 6]
def globT : Nat → Option (List D)
  | 1 => some (gz1.map (D.int .u64))
  | 4 => some (gz4.map (D.int .u8))
  | 5 => some (gz5.map (D.int .u8))
  | _ => none
noncomputable def cx : Cx := { P := Tryd.prog, glob := globT, keep := keepT, byRef := byRefT, pureF := pureT, ext := extT, bad := badT, frz := frzT, ret := retT, fzr := fzrT, con := conT, perm := permT, dynV := true }
@[simp] theorem cxP : cx.P = Tryd.prog := rfl
@[simp] theorem cxD : cx.dynV = true := rfl
theorem cxF (f : Nat) : cx.P.funcs[f]? = Tryd.prog.funcs[f]? := rfl
@[simp] theorem gl1 : cx.glob 1 = some (gz1.map (D.int .u64)) := rfl
@[simp] theorem gl4 : cx.glob 4 = some (gz4.map (D.int .u8)) := rfl
@[simp] theorem gl5 : cx.glob 5 = some (gz5.map (D.int .u8)) := rfl
@[simp] theorem br3 : cx.byRef 3 = false := rfl
@[simp] theorem pm3 : cx.perm 3 = false := rfl
@[simp] theorem pu3 : cx.pureF 3 = false := rfl
@[simp] theorem fz3 : cx.fzr 3 = true := rfl
@[simp] theorem br11 : cx.byRef 11 = false := rfl
@[simp] theorem pm11 : cx.perm 11 = false := rfl
@[simp] theorem pu11 : cx.pureF 11 = false := rfl
@[simp] theorem fz11 : cx.fzr 11 = true := rfl
@[simp] theorem br12 : cx.byRef 12 = false := rfl
@[simp] theorem pm12 : cx.perm 12 = false := rfl
@[simp] theorem pu12 : cx.pureF 12 = false := rfl
@[simp] theorem fz12 : cx.fzr 12 = true := rfl
@[simp] theorem br13 : cx.byRef 13 = false := rfl
@[simp] theorem pm13 : cx.perm 13 = false := rfl
@[simp] theorem pu13 : cx.pureF 13 = true := rfl
@[simp] theorem fz13 : cx.fzr 13 = true := rfl
@[simp] theorem br32 : cx.byRef 32 = false := rfl
@[simp] theorem pm32 : cx.perm 32 = false := rfl
@[simp] theorem pu32 : cx.pureF 32 = false := rfl
@[simp] theorem fz32 : cx.fzr 32 = true := rfl
@[simp] theorem br35 : cx.byRef 35 = false := rfl
@[simp] theorem pm35 : cx.perm 35 = false := rfl
@[simp] theorem pu35 : cx.pureF 35 = true := rfl
@[simp] theorem fz35 : cx.fzr 35 = true := rfl
@[simp] theorem br38 : cx.byRef 38 = false := rfl
@[simp] theorem pm38 : cx.perm 38 = false := rfl
@[simp] theorem pu38 : cx.pureF 38 = true := rfl
@[simp] theorem fz38 : cx.fzr 38 = true := rfl
@[simp] theorem br39 : cx.byRef 39 = false := rfl
@[simp] theorem pm39 : cx.perm 39 = false := rfl
@[simp] theorem pu39 : cx.pureF 39 = false := rfl
@[simp] theorem fz39 : cx.fzr 39 = true := rfl
@[simp] theorem br40 : cx.byRef 40 = false := rfl
@[simp] theorem pm40 : cx.perm 40 = false := rfl
@[simp] theorem pu40 : cx.pureF 40 = true := rfl
@[simp] theorem fz40 : cx.fzr 40 = true := rfl
@[simp] theorem br53 : cx.byRef 53 = false := rfl
@[simp] theorem pm53 : cx.perm 53 = false := rfl
@[simp] theorem pu53 : cx.pureF 53 = true := rfl
@[simp] theorem fz53 : cx.fzr 53 = true := rfl
@[simp] theorem br54 : cx.byRef 54 = false := rfl
@[simp] theorem pm54 : cx.perm 54 = false := rfl
@[simp] theorem pu54 : cx.pureF 54 = false := rfl
@[simp] theorem fz54 : cx.fzr 54 = true := rfl
@[simp] theorem br61 : cx.byRef 61 = false := rfl
@[simp] theorem pm61 : cx.perm 61 = false := rfl
@[simp] theorem pu61 : cx.pureF 61 = false := rfl
@[simp] theorem fz61 : cx.fzr 61 = true := rfl
@[simp] theorem br62 : cx.byRef 62 = false := rfl
@[simp] theorem pm62 : cx.perm 62 = false := rfl
@[simp] theorem pu62 : cx.pureF 62 = false := rfl
@[simp] theorem br69 : cx.byRef 69 = false := rfl
@[simp] theorem pm69 : cx.perm 69 = false := rfl
@[simp] theorem pu69 : cx.pureF 69 = false := rfl
@[simp] theorem fz69 : cx.fzr 69 = true := rfl
@[simp] theorem br89 : cx.byRef 89 = false := rfl
@[simp] theorem pm89 : cx.perm 89 = false := rfl
@[simp] theorem pu89 : cx.pureF 89 = false := rfl
@[simp] theorem fz89 : cx.fzr 89 = true := rfl
@[simp] theorem br90 : cx.byRef 90 = false := rfl
@[simp] theorem pm90 : cx.perm 90 = false := rfl
@[simp] theorem pu90 : cx.pureF 90 = false := rfl
@[simp] theorem fz90 : cx.fzr 90 = true := rfl
@[simp] theorem br91 : cx.byRef 91 = false := rfl
@[simp] theorem pm91 : cx.perm 91 = false := rfl
@[simp] theorem pu91 : cx.pureF 91 = false := rfl
@[simp] theorem fz91 : cx.fzr 91 = true := rfl
@[simp] theorem br92 : cx.byRef 92 = false := rfl
@[simp] theorem pm92 : cx.perm 92 = false := rfl
@[simp] theorem pu92 : cx.pureF 92 = false := rfl
@[simp] theorem fz92 : cx.fzr 92 = true := rfl
@[simp] theorem br113 : cx.byRef 113 = false := rfl
@[simp] theorem pm113 : cx.perm 113 = false := rfl
@[simp] theorem pu113 : cx.pureF 113 = false := rfl
@[simp] theorem fz113 : cx.fzr 113 = true := rfl
@[simp] theorem br114 : cx.byRef 114 = false := rfl
@[simp] theorem pm114 : cx.perm 114 = false := rfl
@[simp] theorem pu114 : cx.pureF 114 = false := rfl
@[simp] theorem fz114 : cx.fzr 114 = true := rfl
@[simp] theorem br115 : cx.byRef 115 = false := rfl
@[simp] theorem pm115 : cx.perm 115 = false := rfl
@[simp] theorem pu115 : cx.pureF 115 = false := rfl
@[simp] theorem fz115 : cx.fzr 115 = true := rfl
@[simp] theorem br116 : cx.byRef 116 = false := rfl
@[simp] theorem pm116 : cx.perm 116 = false := rfl
@[simp] theorem pu116 : cx.pureF 116 = false := rfl
@[simp] theorem fz116 : cx.fzr 116 = true := rfl
@[simp] theorem br117 : cx.byRef 117 = false := rfl
@[simp] theorem pm117 : cx.perm 117 = false := rfl
@[simp] theorem pu117 : cx.pureF 117 = false := rfl
@[simp] theorem fz117 : cx.fzr 117 = true := rfl
@[simp] theorem br128 : cx.byRef 128 = false := rfl
@[simp] theorem pm128 : cx.perm 128 = false := rfl
@[simp] theorem pu128 : cx.pureF 128 = false := rfl
@[simp] theorem fz128 : cx.fzr 128 = true := rfl
@[simp] theorem br129 : cx.byRef 129 = false := rfl
@[simp] theorem pm129 : cx.perm 129 = false := rfl
@[simp] theorem pu129 : cx.pureF 129 = false := rfl
@[simp] theorem fz129 : cx.fzr 129 = true := rfl
theorem ex62 (args : List D) : cx.ext 62 args = cmpExt args := rfl
end Go.Ev.S
/- What the evaluator needs of this program: printed by program. -/
namespace Go.Ev.S
open Go Go.Proofs Go.Ev
@[simp] theorem en3_0 (n0 : Nat) (e : Env) (H : Heap) : enter cx 3 n0 0 e H = enterK [0, 1, 2] 0 n0 e H := rfl
@[simp] theorem en3_1 (n0 : Nat) (e : Env) (H : Heap) : enter cx 3 n0 1 e H = enterK [2, 3, 4] 0 n0 e H := rfl
@[simp] theorem en3_2 (n0 : Nat) (e : Env) (H : Heap) : enter cx 3 n0 2 e H = enterK [2, 3, 4, 7] 0 n0 e H := rfl
@[simp] theorem en3_3 (n0 : Nat) (e : Env) (H : Heap) : enter cx 3 n0 3 e H = enterK [] 0 n0 e H := rfl
@[simp] theorem en3_4 (n0 : Nat) (e : Env) (H : Heap) : enter cx 3 n0 4 e H = enterK [2, 3, 4, 7] 0 n0 e H := rfl
@[simp] theorem en3_5 (n0 : Nat) (e : Env) (H : Heap) : enter cx 3 n0 5 e H = enterK [2, 3, 4, 7, 8] 0 n0 e H := rfl
@[simp] theorem en3_6 (n0 : Nat) (e : Env) (H : Heap) : enter cx 3 n0 6 e H = enterK [2, 3, 4, 7, 8] 0 n0 e H := rfl
@[simp] theorem en3_7 (n0 : Nat) (e : Env) (H : Heap) : enter cx 3 n0 7 e H = enterK [2, 3, 4, 7, 8] 0 n0 e H := rfl
@[simp] theorem en3_8 (n0 : Nat) (e : Env) (H : Heap) : enter cx 3 n0 8 e H = enterK [2, 3, 4, 7, 8, 9, 10] 0 n0 e H := rfl
@[simp] theorem en3_9 (n0 : Nat) (e : Env) (H : Heap) : enter cx 3 n0 9 e H = enterK [] 0 n0 e H := rfl
@[simp] theorem en3_10 (n0 : Nat) (e : Env) (H : Heap) : enter cx 3 n0 10 e H = enterK [2, 3, 4, 7, 8, 9] 0 n0 e H := rfl
@[simp] theorem en3_11 (n0 : Nat) (e : Env) (H : Heap) : enter cx 3 n0 11 e H = enterK [] 0 n0 e H := rfl
@[simp] theorem en3_12 (n0 : Nat) (e : Env) (H : Heap) : enter cx 3 n0 12 e H = enterK [2, 3, 4, 7, 8, 9] 0 n0 e H := rfl
@[simp] theorem en3_13 (n0 : Nat) (e : Env) (H : Heap) : enter cx 3 n0 13 e H = enterK [] 0 n0 e H := rfl
@[simp] theorem en3_14 (n0 : Nat) (e : Env) (H : Heap) : enter cx 3 n0 14 e H = enterK [2, 3, 4, 7, 8] 0 n0 e H := rfl
@[simp] theorem en3_15 (n0 : Nat) (e : Env) (H : Heap) : enter cx 3 n0 15 e H = enterK [2, 3, 4, 7, 8] 0 n0 e H := rfl
@[simp] theorem en3_16 (n0 : Nat) (e : Env) (H : Heap) : enter cx 3 n0 16 e H = enterK [2, 3, 4, 7, 8] 0 n0 e H := rfl
@[simp] theorem en3_17 (n0 : Nat) (e : Env) (H : Heap) : enter cx 3 n0 17 e H = enterK [7] 0 n0 e H := rfl
@[simp] theorem en11_0 (n0 : Nat) (e : Env) (H : Heap) : enter cx 11 n0 0 e H = enterK [] 0 n0 e H := rfl
@[simp] theorem en11_1 (n0 : Nat) (e : Env) (H : Heap) : enter cx 11 n0 1 e H = enterK [] 0 n0 e H := rfl
@[simp] theorem en11_2 (n0 : Nat) (e : Env) (H : Heap) : enter cx 11 n0 2 e H = enterK [1] 0 n0 e H := rfl
@[simp] theorem en12_0 (n0 : Nat) (e : Env) (H : Heap) : enter cx 12 n0 0 e H = enterK [0, 1] 0 n0 e H := rfl
@[simp] theorem en12_1 (n0 : Nat) (e : Env) (H : Heap) : enter cx 12 n0 1 e H = enterK [2, 3] 0 n0 e H := rfl
@[simp] theorem en12_2 (n0 : Nat) (e : Env) (H : Heap) : enter cx 12 n0 2 e H = enterK [2, 3] 0 n0 e H := rfl
@[simp] theorem en12_3 (n0 : Nat) (e : Env) (H : Heap) : enter cx 12 n0 3 e H = enterZ [2, 3] [2, 3] 0 n0 e H := rfl
@[simp] theorem en13_0 (n0 : Nat) (e : Env) (H : Heap) : enter cx 13 n0 0 e H = enterK [0, 1] 0 n0 e H := rfl
@[simp] theorem en13_1 (n0 : Nat) (e : Env) (H : Heap) : enter cx 13 n0 1 e H = enterK [0, 1] 0 n0 e H := rfl
@[simp] theorem en13_2 (n0 : Nat) (e : Env) (H : Heap) : enter cx 13 n0 2 e H = enterK [] 0 n0 e H := rfl
@[simp] theorem en13_3 (n0 : Nat) (e : Env) (H : Heap) : enter cx 13 n0 3 e H = enterK [0, 1] 0 n0 e H := rfl
@[simp] theorem en32_0 (n0 : Nat) (e : Env) (H : Heap) : enter cx 32 n0 0 e H = enterK [0] 0 n0 e H := rfl
@[simp] theorem en32_1 (n0 : Nat) (e : Env) (H : Heap) : enter cx 32 n0 1 e H = enterK [1] 0 n0 e H := rfl
@[simp] theorem en32_2 (n0 : Nat) (e : Env) (H : Heap) : enter cx 32 n0 2 e H = enterK [1, 3] 0 n0 e H := rfl
@[simp] theorem en35_0 (n0 : Nat) (e : Env) (H : Heap) : enter cx 35 n0 0 e H = enterK [0] 0 n0 e H := rfl
@[simp] theorem en35_1 (n0 : Nat) (e : Env) (H : Heap) : enter cx 35 n0 1 e H = enterK [1] 0 n0 e H := rfl
@[simp] theorem en35_2 (n0 : Nat) (e : Env) (H : Heap) : enter cx 35 n0 2 e H = enterK [1, 3] 0 n0 e H := rfl
@[simp] theorem en35_3 (n0 : Nat) (e : Env) (H : Heap) : enter cx 35 n0 3 e H = enterK [3, 6, 7] 0 n0 e H := rfl
@[simp] theorem en35_4 (n0 : Nat) (e : Env) (H : Heap) : enter cx 35 n0 4 e H = enterK [3, 6, 7] 0 n0 e H := rfl
@[simp] theorem en35_5 (n0 : Nat) (e : Env) (H : Heap) : enter cx 35 n0 5 e H = enterK [3, 5, 6, 7] 0 n0 e H := rfl
@[simp] theorem en35_6 (n0 : Nat) (e : Env) (H : Heap) : enter cx 35 n0 6 e H = enterK [3, 6, 7] 0 n0 e H := rfl
@[simp] theorem en35_7 (n0 : Nat) (e : Env) (H : Heap) : enter cx 35 n0 7 e H = enterK [3] 0 n0 e H := rfl
@[simp] theorem en38_0 (n0 : Nat) (e : Env) (H : Heap) : enter cx 38 n0 0 e H = enterK [0, 1] 0 n0 e H := rfl
@[simp] theorem en38_1 (n0 : Nat) (e : Env) (H : Heap) : enter cx 38 n0 1 e H = enterK [0, 1] 0 n0 e H := rfl
@[simp] theorem en38_2 (n0 : Nat) (e : Env) (H : Heap) : enter cx 38 n0 2 e H = enterK [0, 1, 5] 0 n0 e H := rfl
@[simp] theorem en38_3 (n0 : Nat) (e : Env) (H : Heap) : enter cx 38 n0 3 e H = enterK [0, 1, 5, 6] 0 n0 e H := rfl
@[simp] theorem en38_4 (n0 : Nat) (e : Env) (H : Heap) : enter cx 38 n0 4 e H = enterK [6] 0 n0 e H := rfl
@[simp] theorem en38_5 (n0 : Nat) (e : Env) (H : Heap) : enter cx 38 n0 5 e H = enterK [] 0 n0 e H := rfl
@[simp] theorem en38_6 (n0 : Nat) (e : Env) (H : Heap) : enter cx 38 n0 6 e H = enterK [] 0 n0 e H := rfl
@[simp] theorem en38_7 (n0 : Nat) (e : Env) (H : Heap) : enter cx 38 n0 7 e H = enterK [0, 1, 6] 0 n0 e H := rfl
@[simp] theorem en38_8 (n0 : Nat) (e : Env) (H : Heap) : enter cx 38 n0 8 e H = enterK [] 0 n0 e H := rfl
@[simp] theorem en38_9 (n0 : Nat) (e : Env) (H : Heap) : enter cx 38 n0 9 e H = enterK [0, 1] 0 n0 e H := rfl
@[simp] theorem en38_10 (n0 : Nat) (e : Env) (H : Heap) : enter cx 38 n0 10 e H = enterK [] 0 n0 e H := rfl
@[simp] theorem en38_11 (n0 : Nat) (e : Env) (H : Heap) : enter cx 38 n0 11 e H = enterK [0, 1] 0 n0 e H := rfl
@[simp] theorem en38_12 (n0 : Nat) (e : Env) (H : Heap) : enter cx 38 n0 12 e H = enterK [] 0 n0 e H := rfl
@[simp] theorem en38_13 (n0 : Nat) (e : Env) (H : Heap) : enter cx 38 n0 13 e H = enterK [] 0 n0 e H := rfl
@[simp] theorem en39_0 (n0 : Nat) (e : Env) (H : Heap) : enter cx 39 n0 0 e H = enterK [0] 0 n0 e H := rfl
@[simp] theorem en39_1 (n0 : Nat) (e : Env) (H : Heap) : enter cx 39 n0 1 e H = enterK [0] 0 n0 e H := rfl
@[simp] theorem en39_2 (n0 : Nat) (e : Env) (H : Heap) : enter cx 39 n0 2 e H = enterK [0, 3] 0 n0 e H := rfl
@[simp] theorem en39_3 (n0 : Nat) (e : Env) (H : Heap) : enter cx 39 n0 3 e H = enterK [3, 6, 7, 8] 0 n0 e H := rfl
@[simp] theorem en39_4 (n0 : Nat) (e : Env) (H : Heap) : enter cx 39 n0 4 e H = enterK [3, 6, 7, 8] 0 n0 e H := rfl
@[simp] theorem en39_5 (n0 : Nat) (e : Env) (H : Heap) : enter cx 39 n0 5 e H = enterK [3, 5, 6, 7, 8] 0 n0 e H := rfl
@[simp] theorem en39_6 (n0 : Nat) (e : Env) (H : Heap) : enter cx 39 n0 6 e H = enterK [5] 0 n0 e H := rfl
@[simp] theorem en39_7 (n0 : Nat) (e : Env) (H : Heap) : enter cx 39 n0 7 e H = enterK [3, 6, 7, 8] 0 n0 e H := rfl
@[simp] theorem en39_8 (n0 : Nat) (e : Env) (H : Heap) : enter cx 39 n0 8 e H = enterK [3] 0 n0 e H := rfl
@[simp] theorem en40_0 (n0 : Nat) (e : Env) (H : Heap) : enter cx 40 n0 0 e H = enterK [0, 1] 0 n0 e H := rfl
@[simp] theorem en40_1 (n0 : Nat) (e : Env) (H : Heap) : enter cx 40 n0 1 e H = enterK [0, 1] 0 n0 e H := rfl
@[simp] theorem en53_0 (n0 : Nat) (e : Env) (H : Heap) : enter cx 53 n0 0 e H = enterK [0] 0 n0 e H := rfl
@[simp] theorem en53_1 (n0 : Nat) (e : Env) (H : Heap) : enter cx 53 n0 1 e H = enterK [0] 0 n0 e H := rfl
@[simp] theorem en54_0 (n0 : Nat) (e : Env) (H : Heap) : enter cx 54 n0 0 e H = enterK [0, 1] 0 n0 e H := rfl
@[simp] theorem en54_1 (n0 : Nat) (e : Env) (H : Heap) : enter cx 54 n0 1 e H = enterK [0, 1] 0 n0 e H := rfl
@[simp] theorem en61_0 (n0 : Nat) (e : Env) (H : Heap) : enter cx 61 n0 0 e H = enterK [0] 0 n0 e H := rfl
@[simp] theorem en61_1 (n0 : Nat) (e : Env) (H : Heap) : enter cx 61 n0 1 e H = enterK [0] 0 n0 e H := rfl
@[simp] theorem en69_0 (n0 : Nat) (e : Env) (H : Heap) : enter cx 69 n0 0 e H = enterK [0, 1] 0 n0 e H := rfl
@[simp] theorem en69_1 (n0 : Nat) (e : Env) (H : Heap) : enter cx 69 n0 1 e H = enterK [0, 1] 0 n0 e H := rfl
@[simp] theorem en69_2 (n0 : Nat) (e : Env) (H : Heap) : enter cx 69 n0 2 e H = enterK [0] 0 n0 e H := rfl
@[simp] theorem en69_3 (n0 : Nat) (e : Env) (H : Heap) : enter cx 69 n0 3 e H = enterK [0] 0 n0 e H := rfl
@[simp] theorem en69_4 (n0 : Nat) (e : Env) (H : Heap) : enter cx 69 n0 4 e H = enterK [0] 0 n0 e H := rfl
@[simp] theorem en69_5 (n0 : Nat) (e : Env) (H : Heap) : enter cx 69 n0 5 e H = enterK [0, 5] 0 n0 e H := rfl
@[simp] theorem en69_6 (n0 : Nat) (e : Env) (H : Heap) : enter cx 69 n0 6 e H = enterK [0, 5, 6] 0 n0 e H := rfl
@[simp] theorem en69_7 (n0 : Nat) (e : Env) (H : Heap) : enter cx 69 n0 7 e H = enterK [5, 6] 0 n0 e H := rfl
@[simp] theorem en69_8 (n0 : Nat) (e : Env) (H : Heap) : enter cx 69 n0 8 e H = enterK [0, 1] 0 n0 e H := rfl
@[simp] theorem en69_9 (n0 : Nat) (e : Env) (H : Heap) : enter cx 69 n0 9 e H = enterK [8] 0 n0 e H := rfl
@[simp] theorem en89_0 (n0 : Nat) (e : Env) (H : Heap) : enter cx 89 n0 0 e H = enterK [0] 0 n0 e H := rfl
@[simp] theorem en89_1 (n0 : Nat) (e : Env) (H : Heap) : enter cx 89 n0 1 e H = enterK [0] 0 n0 e H := rfl
@[simp] theorem en89_2 (n0 : Nat) (e : Env) (H : Heap) : enter cx 89 n0 2 e H = enterK [0] 0 n0 e H := rfl
@[simp] theorem en89_3 (n0 : Nat) (e : Env) (H : Heap) : enter cx 89 n0 3 e H = enterK [0] 0 n0 e H := rfl
@[simp] theorem en90_0 (n0 : Nat) (e : Env) (H : Heap) : enter cx 90 n0 0 e H = enterK [0] 0 n0 e H := rfl
@[simp] theorem en90_1 (n0 : Nat) (e : Env) (H : Heap) : enter cx 90 n0 1 e H = enterK [0] 0 n0 e H := rfl
@[simp] theorem en90_2 (n0 : Nat) (e : Env) (H : Heap) : enter cx 90 n0 2 e H = enterK [0, 3] 0 n0 e H := rfl
@[simp] theorem en91_0 (n0 : Nat) (e : Env) (H : Heap) : enter cx 91 n0 0 e H = enterK [0, 1] 0 n0 e H := rfl
@[simp] theorem en91_1 (n0 : Nat) (e : Env) (H : Heap) : enter cx 91 n0 1 e H = enterK [0, 1, 4] 0 n0 e H := rfl
@[simp] theorem en91_2 (n0 : Nat) (e : Env) (H : Heap) : enter cx 91 n0 2 e H = enterK [0, 1, 4] 0 n0 e H := rfl
@[simp] theorem en91_3 (n0 : Nat) (e : Env) (H : Heap) : enter cx 91 n0 3 e H = enterK [0, 1, 4, 5] 0 n0 e H := rfl
@[simp] theorem en91_4 (n0 : Nat) (e : Env) (H : Heap) : enter cx 91 n0 4 e H = enterK [0, 1, 4, 5] 0 n0 e H := rfl
@[simp] theorem en91_5 (n0 : Nat) (e : Env) (H : Heap) : enter cx 91 n0 5 e H = enterK [0, 1, 4, 6, 7] 0 n0 e H := rfl
@[simp] theorem en91_6 (n0 : Nat) (e : Env) (H : Heap) : enter cx 91 n0 6 e H = enterK [0, 1, 4, 6, 8, 9] 0 n0 e H := rfl
@[simp] theorem en91_7 (n0 : Nat) (e : Env) (H : Heap) : enter cx 91 n0 7 e H = enterK [0, 1, 4, 8, 9, 10, 11] 0 n0 e H := rfl
@[simp] theorem en91_8 (n0 : Nat) (e : Env) (H : Heap) : enter cx 91 n0 8 e H = enterK [0, 1, 4, 8, 10, 11] 0 n0 e H := rfl
@[simp] theorem en91_9 (n0 : Nat) (e : Env) (H : Heap) : enter cx 91 n0 9 e H = enterK [0, 1, 4, 10, 11] 0 n0 e H := rfl
@[simp] theorem en91_10 (n0 : Nat) (e : Env) (H : Heap) : enter cx 91 n0 10 e H = enterK [0, 1, 4, 10] 0 n0 e H := rfl
@[simp] theorem en91_11 (n0 : Nat) (e : Env) (H : Heap) : enter cx 91 n0 11 e H = enterK [0, 1, 4] 0 n0 e H := rfl
@[simp] theorem en91_12 (n0 : Nat) (e : Env) (H : Heap) : enter cx 91 n0 12 e H = enterK [0, 1, 4] 0 n0 e H := rfl
@[simp] theorem en91_13 (n0 : Nat) (e : Env) (H : Heap) : enter cx 91 n0 13 e H = enterK [0, 4, 12] 0 n0 e H := rfl
@[simp] theorem en91_14 (n0 : Nat) (e : Env) (H : Heap) : enter cx 91 n0 14 e H = enterK [0, 4, 12] 0 n0 e H := rfl
@[simp] theorem en91_15 (n0 : Nat) (e : Env) (H : Heap) : enter cx 91 n0 15 e H = enterK [0, 4, 12, 13] 0 n0 e H := rfl
@[simp] theorem en91_16 (n0 : Nat) (e : Env) (H : Heap) : enter cx 91 n0 16 e H = enterK [0, 4, 12, 13] 0 n0 e H := rfl
@[simp] theorem en91_17 (n0 : Nat) (e : Env) (H : Heap) : enter cx 91 n0 17 e H = enterK [0, 4, 12, 14, 15] 0 n0 e H := rfl
@[simp] theorem en91_18 (n0 : Nat) (e : Env) (H : Heap) : enter cx 91 n0 18 e H = enterK [0, 4, 12, 14] 0 n0 e H := rfl
@[simp] theorem en91_19 (n0 : Nat) (e : Env) (H : Heap) : enter cx 91 n0 19 e H = enterK [0, 4, 12] 0 n0 e H := rfl
@[simp] theorem en91_20 (n0 : Nat) (e : Env) (H : Heap) : enter cx 91 n0 20 e H = enterK [0, 4, 12] 0 n0 e H := rfl
@[simp] theorem en91_21 (n0 : Nat) (e : Env) (H : Heap) : enter cx 91 n0 21 e H = enterK [0, 4, 12] 0 n0 e H := rfl
@[simp] theorem en91_22 (n0 : Nat) (e : Env) (H : Heap) : enter cx 91 n0 22 e H = enterK [0, 4, 12, 16] 0 n0 e H := rfl
@[simp] theorem en91_23 (n0 : Nat) (e : Env) (H : Heap) : enter cx 91 n0 23 e H = enterK [0, 4, 12, 16] 0 n0 e H := rfl
@[simp] theorem en91_24 (n0 : Nat) (e : Env) (H : Heap) : enter cx 91 n0 24 e H = enterK [0, 4, 12] 0 n0 e H := rfl
@[simp] theorem en91_25 (n0 : Nat) (e : Env) (H : Heap) : enter cx 91 n0 25 e H = enterK [0, 4, 12] 0 n0 e H := rfl
@[simp] theorem en91_26 (n0 : Nat) (e : Env) (H : Heap) : enter cx 91 n0 26 e H = enterK [0, 12] 0 n0 e H := rfl
@[simp] theorem en92_0 (n0 : Nat) (e : Env) (H : Heap) : enter cx 92 n0 0 e H = enterK [0, 1, 2, 3, 4] 0 n0 e H := rfl
@[simp] theorem en92_1 (n0 : Nat) (e : Env) (H : Heap) : enter cx 92 n0 1 e H = enterK [0, 1, 2, 3, 4, 10, 11] 0 n0 e H := rfl
@[simp] theorem en92_2 (n0 : Nat) (e : Env) (H : Heap) : enter cx 92 n0 2 e H = enterK [0, 1, 2, 3, 4, 10, 11] 0 n0 e H := rfl
@[simp] theorem en92_3 (n0 : Nat) (e : Env) (H : Heap) : enter cx 92 n0 3 e H = enterK [0, 1, 2, 3, 4, 10, 11] 0 n0 e H := rfl
@[simp] theorem en92_4 (n0 : Nat) (e : Env) (H : Heap) : enter cx 92 n0 4 e H = enterK [0, 1, 2, 3, 4, 10, 11, 12] 0 n0 e H := rfl
@[simp] theorem en92_5 (n0 : Nat) (e : Env) (H : Heap) : enter cx 92 n0 5 e H = enterK [0, 1, 2, 3, 4, 10, 11, 12, 13] 0 n0 e H := rfl
@[simp] theorem en92_6 (n0 : Nat) (e : Env) (H : Heap) : enter cx 92 n0 6 e H = enterK [0, 1, 2, 3, 4, 10, 11, 12, 13] 0 n0 e H := rfl
@[simp] theorem en92_7 (n0 : Nat) (e : Env) (H : Heap) : enter cx 92 n0 7 e H = enterK [0, 1, 2, 3, 4, 10, 11, 12, 13] 0 n0 e H := rfl
@[simp] theorem en92_8 (n0 : Nat) (e : Env) (H : Heap) : enter cx 92 n0 8 e H = enterK [0, 1, 2, 3, 4, 10, 11, 12, 13] 0 n0 e H := rfl
@[simp] theorem en92_9 (n0 : Nat) (e : Env) (H : Heap) : enter cx 92 n0 9 e H = enterK [0, 1, 2, 3, 4, 10, 11, 12, 13, 14] 0 n0 e H := rfl
@[simp] theorem en92_10 (n0 : Nat) (e : Env) (H : Heap) : enter cx 92 n0 10 e H = enterK [0, 1, 2, 3, 4, 10, 11, 12, 13, 14, 15] 0 n0 e H := rfl
@[simp] theorem en92_11 (n0 : Nat) (e : Env) (H : Heap) : enter cx 92 n0 11 e H = enterK [0, 1, 3, 4, 10, 11, 12, 13, 14, 15, 16] 0 n0 e H := rfl
@[simp] theorem en92_12 (n0 : Nat) (e : Env) (H : Heap) : enter cx 92 n0 12 e H = enterK [0, 1, 3, 4, 10, 11, 12, 13, 14, 15, 16] 0 n0 e H := rfl
@[simp] theorem en92_13 (n0 : Nat) (e : Env) (H : Heap) : enter cx 92 n0 13 e H = enterK [0, 1, 3, 4, 10, 11, 12, 13, 14, 15, 16] 0 n0 e H := rfl
@[simp] theorem en92_14 (n0 : Nat) (e : Env) (H : Heap) : enter cx 92 n0 14 e H = enterK [0, 1, 3, 4, 10, 11, 12, 13, 14, 15, 16] 0 n0 e H := rfl
@[simp] theorem en92_15 (n0 : Nat) (e : Env) (H : Heap) : enter cx 92 n0 15 e H = enterK [0, 1, 3, 4, 10, 11, 12, 13] 0 n0 e H := rfl
@[simp] theorem en92_16 (n0 : Nat) (e : Env) (H : Heap) : enter cx 92 n0 16 e H = enterK [0, 1, 3, 4, 10, 11, 12, 13] 0 n0 e H := rfl
@[simp] theorem en92_17 (n0 : Nat) (e : Env) (H : Heap) : enter cx 92 n0 17 e H = enterK [0, 1, 2, 3, 4, 10, 11, 12, 13] 0 n0 e H := rfl
@[simp] theorem en92_18 (n0 : Nat) (e : Env) (H : Heap) : enter cx 92 n0 18 e H = enterK [0, 1, 3, 4, 10, 11, 12, 13, 17] 0 n0 e H := rfl
@[simp] theorem en92_19 (n0 : Nat) (e : Env) (H : Heap) : enter cx 92 n0 19 e H = enterK [0, 1, 3, 4, 10, 11, 12, 13, 17] 0 n0 e H := rfl
@[simp] theorem en92_20 (n0 : Nat) (e : Env) (H : Heap) : enter cx 92 n0 20 e H = enterK [0, 1, 3, 4, 10, 11, 12, 13, 17] 0 n0 e H := rfl
@[simp] theorem en92_21 (n0 : Nat) (e : Env) (H : Heap) : enter cx 92 n0 21 e H = enterK [0, 1, 3, 4, 10, 11, 12, 13, 17, 18] 0 n0 e H := rfl
@[simp] theorem en92_22 (n0 : Nat) (e : Env) (H : Heap) : enter cx 92 n0 22 e H = enterK [0, 3, 4, 10, 11, 12, 13, 17, 18] 0 n0 e H := rfl
@[simp] theorem en92_23 (n0 : Nat) (e : Env) (H : Heap) : enter cx 92 n0 23 e H = enterK [0, 1, 3, 4, 10, 11, 12, 13] 0 n0 e H := rfl
@[simp] theorem en92_24 (n0 : Nat) (e : Env) (H : Heap) : enter cx 92 n0 24 e H = enterK [0, 1, 3, 4, 10, 11, 12, 13] 0 n0 e H := rfl
@[simp] theorem en92_25 (n0 : Nat) (e : Env) (H : Heap) : enter cx 92 n0 25 e H = enterK [0, 3, 4, 10, 11, 12, 13] 0 n0 e H := rfl
@[simp] theorem en92_26 (n0 : Nat) (e : Env) (H : Heap) : enter cx 92 n0 26 e H = enterK [0, 4, 10, 11, 12, 13] 0 n0 e H := rfl
@[simp] theorem en92_27 (n0 : Nat) (e : Env) (H : Heap) : enter cx 92 n0 27 e H = enterK [0, 4, 10, 11, 12, 13] 0 n0 e H := rfl
@[simp] theorem en92_28 (n0 : Nat) (e : Env) (H : Heap) : enter cx 92 n0 28 e H = enterK [0, 4, 10, 11, 12, 13] 0 n0 e H := rfl
@[simp] theorem en92_29 (n0 : Nat) (e : Env) (H : Heap) : enter cx 92 n0 29 e H = enterK [0, 11, 12, 13] 0 n0 e H := rfl
@[simp] theorem en92_30 (n0 : Nat) (e : Env) (H : Heap) : enter cx 92 n0 30 e H = enterK [10, 12, 13] 0 n0 e H := rfl
@[simp] theorem en113_0 (n0 : Nat) (e : Env) (H : Heap) : enter cx 113 n0 0 e H = enterK [0] 0 n0 e H := rfl
@[simp] theorem en113_1 (n0 : Nat) (e : Env) (H : Heap) : enter cx 113 n0 1 e H = enterK [0] 0 n0 e H := rfl
@[simp] theorem en114_0 (n0 : Nat) (e : Env) (H : Heap) : enter cx 114 n0 0 e H = enterK [0] 0 n0 e H := rfl
@[simp] theorem en114_1 (n0 : Nat) (e : Env) (H : Heap) : enter cx 114 n0 1 e H = enterK [0, 2] 0 n0 e H := rfl
@[simp] theorem en114_2 (n0 : Nat) (e : Env) (H : Heap) : enter cx 114 n0 2 e H = enterK [0] 0 n0 e H := rfl
@[simp] theorem en114_3 (n0 : Nat) (e : Env) (H : Heap) : enter cx 114 n0 3 e H = enterK [0] 0 n0 e H := rfl
@[simp] theorem en114_4 (n0 : Nat) (e : Env) (H : Heap) : enter cx 114 n0 4 e H = enterK [0, 2] 0 n0 e H := rfl
@[simp] theorem en114_5 (n0 : Nat) (e : Env) (H : Heap) : enter cx 114 n0 5 e H = enterK [0, 2] 0 n0 e H := rfl
@[simp] theorem en114_6 (n0 : Nat) (e : Env) (H : Heap) : enter cx 114 n0 6 e H = enterK [0, 2] 0 n0 e H := rfl
@[simp] theorem en114_7 (n0 : Nat) (e : Env) (H : Heap) : enter cx 114 n0 7 e H = enterK [0, 2] 0 n0 e H := rfl
@[simp] theorem en114_8 (n0 : Nat) (e : Env) (H : Heap) : enter cx 114 n0 8 e H = enterK [0, 2] 0 n0 e H := rfl
@[simp] theorem en114_9 (n0 : Nat) (e : Env) (H : Heap) : enter cx 114 n0 9 e H = enterK [0, 2] 0 n0 e H := rfl
@[simp] theorem en114_10 (n0 : Nat) (e : Env) (H : Heap) : enter cx 114 n0 10 e H = enterK [0, 2] 0 n0 e H := rfl
@[simp] theorem en115_0 (n0 : Nat) (e : Env) (H : Heap) : enter cx 115 n0 0 e H = enterK [0] 0 n0 e H := rfl
@[simp] theorem en115_1 (n0 : Nat) (e : Env) (H : Heap) : enter cx 115 n0 1 e H = enterK [0] 0 n0 e H := rfl
@[simp] theorem en115_2 (n0 : Nat) (e : Env) (H : Heap) : enter cx 115 n0 2 e H = enterK [] 0 n0 e H := rfl
@[simp] theorem en115_3 (n0 : Nat) (e : Env) (H : Heap) : enter cx 115 n0 3 e H = enterK [] 0 n0 e H := rfl
@[simp] theorem en116_0 (n0 : Nat) (e : Env) (H : Heap) : enter cx 116 n0 0 e H = enterK [0] 0 n0 e H := rfl
@[simp] theorem en116_1 (n0 : Nat) (e : Env) (H : Heap) : enter cx 116 n0 1 e H = enterK [0] 0 n0 e H := rfl
@[simp] theorem en117_0 (n0 : Nat) (e : Env) (H : Heap) : enter cx 117 n0 0 e H = enterK [0] 0 n0 e H := rfl
@[simp] theorem en117_1 (n0 : Nat) (e : Env) (H : Heap) : enter cx 117 n0 1 e H = enterK [0] 0 n0 e H := rfl
@[simp] theorem en117_2 (n0 : Nat) (e : Env) (H : Heap) : enter cx 117 n0 2 e H = enterK [0] 0 n0 e H := rfl
@[simp] theorem en128_0 (n0 : Nat) (e : Env) (H : Heap) : enter cx 128 n0 0 e H = enterK [0] 0 n0 e H := rfl
@[simp] theorem en128_1 (n0 : Nat) (e : Env) (H : Heap) : enter cx 128 n0 1 e H = enterK [0] 0 n0 e H := rfl
@[simp] theorem en128_2 (n0 : Nat) (e : Env) (H : Heap) : enter cx 128 n0 2 e H = enterK [] 0 n0 e H := rfl
@[simp] theorem en128_3 (n0 : Nat) (e : Env) (H : Heap) : enter cx 128 n0 3 e H = enterK [0] 0 n0 e H := rfl
@[simp] theorem en129_0 (n0 : Nat) (e : Env) (H : Heap) : enter cx 129 n0 0 e H = enterK [0] 0 n0 e H := rfl
@[simp] theorem en129_1 (n0 : Nat) (e : Env) (H : Heap) : enter cx 129 n0 1 e H = enterK [0] 0 n0 e H := rfl
@[simp] theorem en129_2 (n0 : Nat) (e : Env) (H : Heap) : enter cx 129 n0 2 e H = enterK [] 0 n0 e H := rfl
@[simp] theorem en129_3 (n0 : Nat) (e : Env) (H : Heap) : enter cx 129 n0 3 e H = enterK [0] 0 n0 e H := rfl
end Go.Ev.S
/- What the evaluator needs of this program: printed by program. -/
namespace Go.Ev.S
open Go Go.Proofs Go.Ev
@[simp] theorem sz3 : szOf Tryd.prog 3 = 1 := by kernel_rfl
@[simp] theorem ag3 : aggQ Tryd.prog 3 = some false := by kernel_rfl
@[simp] theorem by3 : bytesOf Tryd.prog 3 = 8 := by kernel_rfl
@[simp] theorem zo3 : zeroOf Tryd.prog 3 = some (.int .i64 0) := by kernel_rfl
@[simp] theorem un3 : Tryd.prog.underlying 3 = some (.int .i64) := by kernel_rfl
@[simp] theorem sz4 : szOf Tryd.prog 4 = 1 := by kernel_rfl
@[simp] theorem ag4 : aggQ Tryd.prog 4 = some false := by kernel_rfl
@[simp] theorem by4 : bytesOf Tryd.prog 4 = 1 := by kernel_rfl
@[simp] theorem zo4 : zeroOf Tryd.prog 4 = some (.bool false) := by kernel_rfl
@[simp] theorem un4 : Tryd.prog.underlying 4 = some .bool := by kernel_rfl
@[simp] theorem sz5 : szOf Tryd.prog 5 = 1 := by kernel_rfl
@[simp] theorem ag5 : aggQ Tryd.prog 5 = some false := by kernel_rfl
@[simp] theorem by5 : bytesOf Tryd.prog 5 = 1 := by kernel_rfl
@[simp] theorem zo5 : zeroOf Tryd.prog 5 = some (.int .u8 0) := by kernel_rfl
@[simp] theorem un5 : Tryd.prog.underlying 5 = some (.int .u8) := by kernel_rfl
@[simp] theorem sz9 : szOf Tryd.prog 9 = 1 := by kernel_rfl
@[simp] theorem ag9 : aggQ Tryd.prog 9 = some false := by kernel_rfl
@[simp] theorem by9 : bytesOf Tryd.prog 9 = 16 := by kernel_rfl
@[simp] theorem zo9 : zeroOf Tryd.prog 9 = some (.str []) := by kernel_rfl
@[simp] theorem un9 : Tryd.prog.underlying 9 = some .string := by kernel_rfl
@[simp] theorem sz22 : szOf Tryd.prog 22 = 16 := by kernel_rfl
@[simp] theorem ag22 : aggQ Tryd.prog 22 = some true := by kernel_rfl
@[simp] theorem by22 : bytesOf Tryd.prog 22 = 16 := by kernel_rfl
@[simp] theorem zo22 : zeroOf Tryd.prog 22 = some (.agg [.int .u8 0, .int .u8 0, .int .u8 0, .int .u8 0, .int .u8 0, .int .u8 0, .int .u8 0, .int .u8 0, .int .u8 0, .int .u8 0, .int .u8 0, .int .u8 0, .int .u8 0, .int .u8 0, .int .u8 0, .int .u8 0]) := by kernel_rfl
@[simp] theorem un22 : Tryd.prog.underlying 22 = some (.array 16 5) := by kernel_rfl
@[simp] theorem sz23 : szOf Tryd.prog 23 = 16 := by kernel_rfl
@[simp] theorem ag23 : aggQ Tryd.prog 23 = some true := by kernel_rfl
@[simp] theorem by23 : bytesOf Tryd.prog 23 = 16 := by kernel_rfl
@[simp] theorem zo23 : zeroOf Tryd.prog 23 = some (.agg [.int .u8 0, .int .u8 0, .int .u8 0, .int .u8 0, .int .u8 0, .int .u8 0, .int .u8 0, .int .u8 0, .int .u8 0, .int .u8 0, .int .u8 0, .int .u8 0, .int .u8 0, .int .u8 0, .int .u8 0, .int .u8 0]) := by kernel_rfl
@[simp] theorem un23 : Tryd.prog.underlying 23 = some (.array 16 5) := by kernel_rfl
@[simp] theorem sz24 : szOf Tryd.prog 24 = 1 := by kernel_rfl
@[simp] theorem ag24 : aggQ Tryd.prog 24 = some false := by kernel_rfl
@[simp] theorem by24 : bytesOf Tryd.prog 24 = 8 := by kernel_rfl
@[simp] theorem zo24 : zeroOf Tryd.prog 24 = some (.int .u64 0) := by kernel_rfl
@[simp] theorem un24 : Tryd.prog.underlying 24 = some (.int .u64) := by kernel_rfl
@[simp] theorem sz25 : szOf Tryd.prog 25 = 36 := by kernel_rfl
@[simp] theorem ag25 : aggQ Tryd.prog 25 = some true := by kernel_rfl
@[simp] theorem by25 : bytesOf Tryd.prog 25 = 64 := by kernel_rfl
@[simp] theorem zo25 : zeroOf Tryd.prog 25 = some (.agg [.int .u8 0, .int .u8 0, .int .u8 0, .int .u8 0, .int .u8 0, .int .u8 0, .int .u8 0, .int .u8 0, .int .u8 0, .int .u8 0, .int .u8 0, .int .u8 0, .int .u8 0, .int .u8 0, .int .u8 0, .int .u8 0, .int .u64 0, .int .u8 0, .int .u8 0, .int .u8 0, .int .u8 0, .int .u8 0, .int .u8 0, .int .u8 0, .int .u8 0, .int .u8 0, .int .u8 0, .int .u8 0, .int .u8 0, .int .u8 0, .int .u8 0, .int .u8 0, .int .u8 0, .int .u64 0, .int .u64 0, .int .u64 0]) := by kernel_rfl
attribute [simp] Tryd.underlying25
@[simp] theorem sz26 : szOf Tryd.prog 26 = 36 := by kernel_rfl
@[simp] theorem ag26 : aggQ Tryd.prog 26 = some true := by kernel_rfl
@[simp] theorem by26 : bytesOf Tryd.prog 26 = 64 := by kernel_rfl
@[simp] theorem zo26 : zeroOf Tryd.prog 26 = some (.agg [.int .u8 0, .int .u8 0, .int .u8 0, .int .u8 0, .int .u8 0, .int .u8 0, .int .u8 0, .int .u8 0, .int .u8 0, .int .u8 0, .int .u8 0, .int .u8 0, .int .u8 0, .int .u8 0, .int .u8 0, .int .u8 0, .int .u64 0, .int .u8 0, .int .u8 0, .int .u8 0, .int .u8 0, .int .u8 0, .int .u8 0, .int .u8 0, .int .u8 0, .int .u8 0, .int .u8 0, .int .u8 0, .int .u8 0, .int .u8 0, .int .u8 0, .int .u8 0, .int .u8 0, .int .u64 0, .int .u64 0, .int .u64 0]) := by kernel_rfl
attribute [simp] Tryd.underlying26
@[simp] theorem sz31 : szOf Tryd.prog 31 = 1 := by kernel_rfl
@[simp] theorem ag31 : aggQ Tryd.prog 31 = some false := by kernel_rfl
@[simp] theorem by31 : bytesOf Tryd.prog 31 = 24 := by kernel_rfl
@[simp] theorem zo31 : zeroOf Tryd.prog 31 = some (.vsl true [] 0) := by kernel_rfl
@[simp] theorem un31 : Tryd.prog.underlying 31 = some (.slice 3) := by kernel_rfl
@[simp] theorem sz32 : szOf Tryd.prog 32 = 1 := by kernel_rfl
@[simp] theorem ag32 : aggQ Tryd.prog 32 = some false := by kernel_rfl
@[simp] theorem by32 : bytesOf Tryd.prog 32 = 24 := by kernel_rfl
@[simp] theorem zo32 : zeroOf Tryd.prog 32 = some (.vsl true [] 0) := by kernel_rfl
@[simp] theorem un32 : Tryd.prog.underlying 32 = some (.slice 5) := by kernel_rfl
@[simp] theorem sz108 : szOf Tryd.prog 108 = 1 := by kernel_rfl
@[simp] theorem ag108 : aggQ Tryd.prog 108 = some false := by kernel_rfl
@[simp] theorem by108 : bytesOf Tryd.prog 108 = 8 := by kernel_rfl
@[simp] theorem zo108 : zeroOf Tryd.prog 108 = some (.int .u64 0) := by kernel_rfl
@[simp] theorem un108 : Tryd.prog.underlying 108 = some (.int .u64) := by kernel_rfl
@[simp] theorem sz128 : szOf Tryd.prog 128 = 24 := by kernel_rfl
@[simp] theorem ag128 : aggQ Tryd.prog 128 = some true := by kernel_rfl
@[simp] theorem by128 : bytesOf Tryd.prog 128 = 24 := by kernel_rfl
@[simp] theorem zo128 : zeroOf Tryd.prog 128 = some (.agg [.int .u8 0, .int .u8 0, .int .u8 0, .int .u8 0, .int .u8 0, .int .u8 0, .int .u8 0, .int .u8 0, .int .u8 0, .int .u8 0, .int .u8 0, .int .u8 0, .int .u8 0, .int .u8 0, .int .u8 0, .int .u8 0, .int .u8 0, .int .u8 0, .int .u8 0, .int .u8 0, .int .u8 0, .int .u8 0, .int .u8 0, .int .u8 0]) := by kernel_rfl
@[simp] theorem un128 : Tryd.prog.underlying 128 = some (.array 24 5) := by kernel_rfl
@[simp] theorem sz140 : szOf Tryd.prog 140 = 1 := by kernel_rfl
@[simp] theorem ag140 : aggQ Tryd.prog 140 = some false := by kernel_rfl
@[simp] theorem by140 : bytesOf Tryd.prog 140 = 4 := by kernel_rfl
@[simp] theorem zo140 : zeroOf Tryd.prog 140 = some (.int .u32 0) := by kernel_rfl
@[simp] theorem un140 : Tryd.prog.underlying 140 = some (.int .u32) := by kernel_rfl
@[simp] theorem sz148 : szOf Tryd.prog 148 = 20 := by kernel_rfl
@[simp] theorem ag148 : aggQ Tryd.prog 148 = some true := by kernel_rfl
@[simp] theorem by148 : bytesOf Tryd.prog 148 = 160 := by kernel_rfl
@[simp] theorem zo148 : zeroOf Tryd.prog 148 = some (.agg [.int .u64 0, .int .u64 0, .int .u64 0, .int .u64 0, .int .u64 0, .int .u64 0, .int .u64 0, .int .u64 0, .int .u64 0, .int .u64 0, .int .u64 0, .int .u64 0, .int .u64 0, .int .u64 0, .int .u64 0, .int .u64 0, .int .u64 0, .int .u64 0, .int .u64 0, .int .u64 0]) := by kernel_rfl
@[simp] theorem un148 : Tryd.prog.underlying 148 = some (.array 20 24) := by kernel_rfl
@[simp] theorem sz149 : szOf Tryd.prog 149 = 65 := by kernel_rfl
@[simp] theorem ag149 : aggQ Tryd.prog 149 = some true := by kernel_rfl
@[simp] theorem by149 : bytesOf Tryd.prog 149 = 65 := by kernel_rfl
@[simp] theorem zo149 : zeroOf Tryd.prog 149 = some (.agg (List.replicate 65 (.int .u8 0))) := by kernel_rfl
@[simp] theorem un149 : Tryd.prog.underlying 149 = some (.array 65 5) := by kernel_rfl
@[simp] theorem sz166 : szOf Tryd.prog 166 = 32 := by kernel_rfl
@[simp] theorem ag166 : aggQ Tryd.prog 166 = some true := by kernel_rfl
@[simp] theorem by166 : bytesOf Tryd.prog 166 = 32 := by kernel_rfl
@[simp] theorem zo166 : zeroOf Tryd.prog 166 = some (.agg (List.replicate 32 (.int .u8 0))) := by kernel_rfl
@[simp] theorem un166 : Tryd.prog.underlying 166 = some (.array 32 5) := by kernel_rfl
@[simp] theorem sz167 : szOf Tryd.prog 167 = 64 := by kernel_rfl
@[simp] theorem ag167 : aggQ Tryd.prog 167 = some true := by kernel_rfl
@[simp] theorem by167 : bytesOf Tryd.prog 167 = 64 := by kernel_rfl
@[simp] theorem zo167 : zeroOf Tryd.prog 167 = some (.agg (List.replicate 64 (.int .u8 0))) := by kernel_rfl
@[simp] theorem un167 : Tryd.prog.underlying 167 = some (.array 64 5) := by kernel_rfl
@[simp] theorem pl3 : plainTy Tryd.prog 50 3 = some ([.i]) := by kernel_rfl
@[simp] theorem eg3 : Tryd.prog.eqGuardType Tryd.prog.depth 3 = false := by kernel_rfl
@[simp] theorem pl4 : plainTy Tryd.prog 50 4 = some ([.b]) := by kernel_rfl
@[simp] theorem eg4 : Tryd.prog.eqGuardType Tryd.prog.depth 4 = false := by kernel_rfl
@[simp] theorem pl9 : plainTy Tryd.prog 50 9 = some ([.s]) := by kernel_rfl
@[simp] theorem eg9 : Tryd.prog.eqGuardType Tryd.prog.depth 9 = false := by kernel_rfl
@[simp] theorem pl23 : plainTy Tryd.prog 50 23 = some ([.i, .i, .i, .i, .i, .i, .i, .i, .i, .i, .i, .i, .i, .i, .i, .i]) := by kernel_rfl
@[simp] theorem eg23 : Tryd.prog.eqGuardType Tryd.prog.depth 23 = false := by kernel_rfl
@[simp] theorem pl24 : plainTy Tryd.prog 50 24 = some ([.i]) := by kernel_rfl
@[simp] theorem eg24 : Tryd.prog.eqGuardType Tryd.prog.depth 24 = false := by kernel_rfl
@[simp] theorem pl140 : plainTy Tryd.prog 50 140 = some ([.i]) := by kernel_rfl
@[simp] theorem eg140 : Tryd.prog.eqGuardType Tryd.prog.depth 140 = false := by kernel_rfl
end Go.Ev.S
/- What is asked of a program's functions. -/
namespace Go.Ev
open Go Go.Proofs
/-- A function's code may be taken in the text's order. -/
def okOne (X : Cx) (n : Nat) : Bool := match X.P.funcs[n]? with
  | some fn => (fn.name != "runtime.NumGoroutine") && match fn.body with
    | some c => X.bad n || okCode X c
    | none => true
  | none => true
def okRange (X : Cx) (a : Nat) : Nat → Bool
  | 0 => true
  | k + 1 => okRange X a k && okOne X (a + k)
theorem okRange_get {X : Cx} {a : Nat} : ∀ {k : Nat}, okRange X a k = true → ∀ {f : Nat}, a ≤ f → f < a + k → okOne X f = true
  | 0, _, f, h1, h2 => by omega
  | k + 1, h, f, h1, h2 => by
    simp only [okRange, Bool.and_eq_true] at h
    by_cases hf : f = a + k
    · rw [hf]; exact h.2
    · exact okRange_get h.1 h1 (by omega)
theorem okOne_get {X : Cx} {f : Nat} {fn : Func} (h : okOne X f = true) (hfn : X.P.funcs[f]? = some fn) : (fn.name == "runtime.NumGoroutine") = false ∧ ∀ c, fn.body = some c → X.bad f = false → okCode X c = true := by
  simp only [okOne, hfn, Bool.and_eq_true, bne_iff_ne, ne_eq] at h
  refine ⟨by simpa using h.1, fun c hc hb => ?_⟩
  have h3 := h.2
  simpa [hc, hb] using h3
end Go.Ev
namespace Go.Ev.S
open Go Go.Proofs Go.Ev
theorem ok_0 : okRange cx 0 40 = true := by kernel_rfl
theorem ok_40 : okRange cx 40 40 = true := by kernel_rfl
theorem ok_80 : okRange cx 80 40 = true := by kernel_rfl
theorem ok_120 : okRange cx 120 40 = true := by kernel_rfl
theorem ok_160 : okRange cx 160 4 = true := by kernel_rfl
theorem fsize : Tryd.prog.funcs.size = 164 := by kernel_rfl
theorem all_ok (f : Nat) (h : f < 164) : okOne cx f = true := by
  rcases Nat.lt_or_ge f 40 with h0 | h0
  · exact okRange_get ok_0 (by omega) (by omega)
  rcases Nat.lt_or_ge f 80 with h1 | h1
  · exact okRange_get ok_40 (by omega) (by omega)
  rcases Nat.lt_or_ge f 120 with h2 | h2
  · exact okRange_get ok_80 (by omega) (by omega)
  rcases Nat.lt_or_ge f 160 with h3 | h3
  · exact okRange_get ok_120 (by omega) (by omega)
  exact okRange_get ok_160 (by omega) (by omega)
theorem good : Good cx where
  mixed := by kernel_rfl
  okc f fn c hf hc hb := (okOne_get (all_ok f (by rw [← fsize]; exact (Array.getElem?_eq_some_iff.1 hf).1)) hf).2 c hc hb
  ng f fn hf := (okOne_get (all_ok f (by rw [← fsize]; exact (Array.getElem?_eq_some_iff.1 hf).1)) hf).1
  ext f fn args d hf hn h ok w ι H vs hs hv := by
    by_cases h62 : f = 62
    · subst h62
      rw [ex62] at h
      have hff := Tryd.func62
      rw [show cx.P.funcs[62]? = Tryd.prog.funcs[62]? from rfl, hff] at hf
      injection hf with hf
      subst hf
      exact cmpExt_run (P := cx.P) hff rfl (by kernel_rfl) (by kernel_rfl) (by kernel_rfl) h hv
    · have : cx.ext f args = none := by
        show extT f args = none
        unfold extT
        split
        · exact absurd rfl h62
        · rfl
      rw [this] at h
      cases h
  con f args H r H' h ok w ι vs hs hv := by
    · have : cx.con f args H = none := by
        show conT f args H = none
        unfold conT
        rfl
      rw [this] at h
      cases h
end Go.Ev.S
/- Data of one's own as cells. -/
namespace Go.Ev
open Go Go.Proofs
class Enc (α : Type) where
  size : Nat
  cells : α → List D
  len : ∀ a, (cells a).length = size
  free : ∀ a, (cells a).all idFree = true
section
variable {α : Type} [Enc α]
/-- Data one behind the other. -/
def encs (l : List α) : List D := (l.map Enc.cells).flatten
abbrev cel (a : α) : List D := Enc.cells a
@[simp] theorem cells_idFree (a : α) : (Enc.cells a).all idFree = true := Enc.free a
@[simp] theorem cells_idFreeL (a : α) : idFree.idFreeL (Enc.cells a) = true := by rw [idFreeL_all]; exact Enc.free a
@[simp] theorem cells_closed (n : Nat) (a : α) : (Enc.cells a).all (closed n) = true := by
  rw [← closedL_all]; exact closedL_free n _ (cells_idFreeL a)
@[simp] theorem cells_closedL (n : Nat) (a : α) : closed.closedL n (Enc.cells a) = true := closedL_free n _ (cells_idFreeL a)
@[simp] theorem cells_aI (a : α) : (∀ x, x ∈ Enc.cells a → idFree x = true) = True := eq_true (List.all_eq_true.1 (cells_idFree a))
@[simp] theorem cells_aC (n : Nat) (a : α) : (∀ x, x ∈ Enc.cells a → closed n x = true) = True := eq_true (List.all_eq_true.1 (cells_closed n a))
@[simp] theorem encs_nil : encs ([] : List α) = [] := rfl
theorem encs_cons (a : α) (l : List α) : encs (a :: l) = Enc.cells a ++ encs l := rfl
theorem encs_one (a : α) : encs [a] = Enc.cells a := by simp [encs]
theorem encs_append (a b : List α) : encs (a ++ b) = encs a ++ encs b := by simp [encs]
theorem encs_snoc (l : List α) (a : α) : encs (l ++ [a]) = encs l ++ Enc.cells a := by rw [encs_append, encs_one]
theorem encs_len (l : List α) : (encs l).length = l.length * Enc.size α := by
  induction l with
  | nil => simp
  | cons a l ih => rw [encs_cons, List.length_append, Enc.len, ih, List.length_cons, Nat.add_mul, Nat.one_mul]; omega
theorem encs_len' {n : Nat} (hn : n = Enc.size α) (l : List α) : (encs l).length = l.length * n := by rw [hn, encs_len]
theorem encs_drop {n : Nat} (hn : n = Enc.size α) : ∀ (l : List α) (i : Nat), (encs l).drop (i * n) = encs (l.drop i)
  | [], i => by simp
  | a :: l, 0 => by simp
  | a :: l, i + 1 => by
    have hd : (i + 1) * n = n + i * n := by rw [Nat.add_mul, Nat.one_mul, Nat.add_comm]
    rw [encs_cons, hd, ← List.drop_drop, List.drop_left' (by rw [Enc.len, hn]), List.drop_succ_cons, encs_drop hn l i]
theorem encs_take {n : Nat} (hn : n = Enc.size α) : ∀ (l : List α) (i : Nat), (encs l).take (i * n) = encs (l.take i)
  | [], i => by simp
  | a :: l, 0 => by simp
  | a :: l, i + 1 => by
    have hd : (i + 1) * n = n + i * n := by rw [Nat.add_mul, Nat.one_mul, Nat.add_comm]
    have hl : (Enc.cells a).length = n := by rw [Enc.len, hn]
    rw [encs_cons, hd, ← hl, List.take_append, List.take_of_length_le (Nat.le_add_right _ _), Nat.add_sub_cancel_left, hl, encs_take hn l i, List.take_succ_cons, encs_cons]
theorem encs_at {n : Nat} (hn : n = Enc.size α) {l : List α} {i : Nat} (hi : i < l.length) : (encs l).drop (i * n) = Enc.cells l[i] ++ encs (l.drop (i + 1)) := by
  rw [encs_drop hn, List.drop_eq_getElem_cons hi, encs_cons]
theorem encs_at0 {l : List α} (hi : 0 < l.length) : encs l = Enc.cells l[0] ++ encs (l.drop 1) := by
  have := encs_at (n := Enc.size α) rfl hi
  rwa [Nat.zero_mul, List.drop_zero] at this
theorem cells_take {n : Nat} (hn : n = Enc.size α) (a : α) (r : List D) : (Enc.cells a ++ r).take n = Enc.cells a := List.take_left' (by rw [Enc.len, hn])
theorem cells_take' {n : Nat} (hn : n = Enc.size α) (a : α) : (Enc.cells a).take n = Enc.cells a := List.take_of_length_le (by rw [Enc.len, hn]; exact Nat.le_refl _)
theorem cells_drop {n : Nat} (hn : n = Enc.size α) (a : α) (r : List D) : (Enc.cells a ++ r).drop n = r := List.drop_left' (by rw [Enc.len, hn])
theorem cells_le {n : Nat} (hn : n = Enc.size α) (a : α) (r : List D) : n ≤ (Enc.cells a ++ r).length := by rw [List.length_append, Enc.len, hn]; omega
theorem encs_set {n : Nat} (hn : n = Enc.size α) (m : α) : ∀ (l : List α) {j : Nat}, j < l.length → setRange (encs l) (j * n) (Enc.cells m) = encs (l.set j m)
  | [], j, hj => by simp at hj
  | a :: l, j, hj => by
    have ha : (Enc.cells a).length = n := by rw [Enc.len, hn]
    have hm : (Enc.cells m).length = n := by rw [Enc.len, hn]
    cases j with
    | zero =>
      simp only [setRange, Nat.zero_mul, List.take_zero, List.nil_append, Nat.zero_add, hm, List.set_cons_zero, encs_cons]
      rw [List.drop_left' ha]
    | succ j =>
      have ih := encs_set hn m l (j := j) (by simpa using hj)
      have e1 : (j + 1) * n = n + j * n := by rw [Nat.add_mul, Nat.one_mul, Nat.add_comm]
      simp only [setRange, hm] at ih ⊢
      rw [List.set_cons_succ, encs_cons, encs_cons, ← ih, e1, Nat.add_assoc, ← List.drop_drop, List.drop_left' ha, ← ha, List.take_append, List.take_of_length_le (Nat.le_add_right _ _), Nat.add_sub_cancel_left]
      simp
@[simp] theorem encs_idFree (l : List α) : (encs l).all idFree = true := by
  induction l with
  | nil => rfl
  | cons a l ih => rw [encs_cons, List.all_append, ih, cells_idFree]; rfl
@[simp] theorem encs_idFreeL (l : List α) : idFree.idFreeL (encs l) = true := by rw [idFreeL_all]; exact encs_idFree l
@[simp] theorem encs_closed (n : Nat) (l : List α) : (encs l).all (closed n) = true := by
  rw [← closedL_all]; exact closedL_free n _ (encs_idFreeL l)
@[simp] theorem encs_closedL (n : Nat) (l : List α) : closed.closedL n (encs l) = true := closedL_free n _ (encs_idFreeL l)
@[simp] theorem encs_aI (l : List α) : (∀ x, x ∈ encs l → idFree x = true) = True := eq_true (List.all_eq_true.1 (encs_idFree l))
@[simp] theorem encs_aC (n : Nat) (l : List α) : (∀ x, x ∈ encs l → closed n x = true) = True := eq_true (List.all_eq_true.1 (encs_closed n l))
/-- A slice that reads as a list. -/
structure Sl (α : Type) where
  nil : Bool
  l : List α
  h : nil = true → l = []
omit [Enc α] in
theorem Sl.nn {s : Sl α} {i : Nat} (h : i < s.l.length) : s.nil = false := by
  cases hn : s.nil with
  | false => rfl
  | true => rw [s.h hn] at h; simp at h
end
/-- A list as a slice that is not nil. -/
def Sl.of {α : Type} (l : List α) : Sl α := ⟨false, l, by simp⟩
def Sl.none {α : Type} : Sl α := ⟨true, [], by simp⟩
@[simp] theorem Sl.of_l {α : Type} (l : List α) : (Sl.of l).l = l := rfl
@[simp] theorem Sl.of_nil {α : Type} (l : List α) : (Sl.of l).nil = false := rfl
@[simp] theorem Sl.none_l {α : Type} : (Sl.none : Sl α).l = [] := rfl
@[simp] theorem Sl.none_nil {α : Type} : (Sl.none : Sl α).nil = true := rfl
theorem stay_free {H : Heap} {n : Nat} {d : D} (h : idFree d = true) : stay H (n + 1) d = some (d, []) := by
  unfold stay
  rw [if_pos h]
theorem stayL_free {H : Heap} {n : Nat} : ∀ {l : List D}, idFree.idFreeL l = true → stayL (stay H (n + 1)) l = some (l, [])
  | [], _ => rfl
  | d :: l, h => by
    simp only [idFree.idFreeL, Bool.and_eq_true] at h
    simp only [stayL, stay_free h.1, stayL_free h.2, List.append_nil]
theorem stayL_append {g : D → Option (D × List Nat)} : ∀ (a b : List D), stayL g (a ++ b) = match stayL g a, stayL g b with
    | some (x, p), some (y, q) => some (x ++ y, p ++ q)
    | _, _ => none
  | [], b => by
    simp only [List.nil_append, stayL]
    cases stayL g b with
    | none => rfl
    | some q => obtain ⟨y, q⟩ := q; rfl
  | d :: a, b => by
    simp only [List.cons_append, stayL, stayL_append a b]
    cases g d with
    | none => rfl
    | some r =>
      obtain ⟨r, i⟩ := r
      cases stayL g a with
      | none => rfl
      | some p =>
        obtain ⟨x, p⟩ := p
        cases stayL g b with
        | none => rfl
        | some q => obtain ⟨y, q⟩ := q; simp
theorem stayL_free8 {H : Heap} {l : List D} (h : idFree.idFreeL l = true) : stayL (stay H 8) l = some (l, []) := stayL_free h
theorem stayL_free7 {H : Heap} {l : List D} (h : idFree.idFreeL l = true) : stayL (stay H 7) l = some (l, []) := stayL_free h
attribute [simp] stayL_append stayL_free8 stayL_free7
theorem run_loop1 {X : Cx} {f nt n0 : Nat} {Q : Ex → Env → Heap → Prop} {fs : List Fr} {e : Env} {H : Heap} {c : Code} (h : Run X f nt n0 (fun ex e H => ex ≠ .normal ∧ Run X f nt n0 Q fs (some (ex, e, H))) [] (code X f nt n0 c e H)) :
    Run X f nt n0 Q fs (code X f nt n0 (.loop c) e H) := by
  rw [code_loop]
  cases ho : code X f nt n0 c e H with
  | none => rw [ho, run_none] at h; exact h.elim
  | some q =>
    obtain ⟨ex, e1, H1⟩ := q
    rw [ho, run_nil] at h
    cases ex with
    | normal => exact absurd rfl h.1
    | exit i => exact h.2
    | ret => exact h.2
/-- A loop in the midst of code: what it comes to, and what goes on behind it. -/
theorem Run.loopThen {X : Cx} {f nt n0 : Nat} {Q : Ex → Env → Heap → Prop} {fs : List Fr} {c : Code} {σ : Type} (I : σ → Env → Heap → Prop) (m : σ → Nat) (s : σ) {e : Env} {H : Heap} (h0 : I s e H)
    (step : ∀ s e H, I s e H → Run X f nt n0 (fun ex e' H' => match ex with | .normal => ∃ s', m s' < m s ∧ I s' e' H' | ex => Run X f nt n0 Q fs (some (ex, e', H'))) [] (code X f nt n0 c e H)) :
    Run X f nt n0 Q fs (code X f nt n0 (.loop c) e H) := by
  have h := Run.loop (Q := fun ex e H => ex ≠ .normal ∧ Run X f nt n0 Q fs (some (ex, e, H))) I m (fun s e H hi => by
    refine Run.mono (step s e H hi) ?_
    intro ex e' H' hq
    rw [run_nil]
    cases ex with
    | normal => exact hq
    | exit i => exact ⟨by simp, hq⟩
    | ret => exact ⟨by simp, hq⟩) s e H h0
  exact Run.mono h fun ex e H hq => hq.2
/-- A loop, one round of it gone. -/
theorem run_unroll {X : Cx} {f nt n0 : Nat} {Q : Ex → Env → Heap → Prop} {fs : List Fr} {c : Code} {e : Env} {H : Heap}
    (h : Run X f nt n0 (fun ex e' H' => match ex with | .normal => Run X f nt n0 Q fs (code X f nt n0 (.loop c) e' H') | ex => Run X f nt n0 Q fs (some (ex, e', H'))) [] (code X f nt n0 c e H)) :
    Run X f nt n0 Q fs (code X f nt n0 (.loop c) e H) := by
  rw [code_loop]
  cases ho : code X f nt n0 c e H with
  | none => rw [ho, run_none] at h; exact h.elim
  | some q =>
    obtain ⟨ex, e1, H1⟩ := q
    rw [ho, run_nil] at h
    cases ex with
    | normal => exact h
    | exit i => exact h
    | ret => exact h
/-- What a function gives at its end, where that is not told ahead. -/
def FinE (X : Cx) (z : Bool) (rs : List ResultVar) (n0 : Nat) (P : D × Heap → Prop) : Ex → Env → Heap → Prop
  | .exit _, _, _ => False
  | _, e, H => ∃ r, (resD X e H rs).bind (fun ds => packR z n0 H (oneOrTup ds)) = some r ∧ P r
theorem finE_ret {X : Cx} {z : Bool} {rs : List ResultVar} {n0 : Nat} {P : D × Heap → Prop} {e : Env} {H : Heap} : FinE X z rs n0 P .ret e H = ∃ r, (resD X e H rs).bind (fun ds => packR z n0 H (oneOrTup ds)) = some r ∧ P r := rfl
theorem finE_normal {X : Cx} {z : Bool} {rs : List ResultVar} {n0 : Nat} {P : D × Heap → Prop} {e : Env} {H : Heap} : FinE X z rs n0 P .normal e H = ∃ r, (resD X e H rs).bind (fun ds => packR z n0 H (oneOrTup ds)) = some r ∧ P r := rfl
theorem call_runE {X : Cx} {f : Nat} {H : Heap} {fn : Func} {args : List D} (P : D × Heap → Prop) (hf : X.P.funcs[f]? = some fn) (hb : fn.body.isSome = true) (hbad : X.bad f = false ∧ X.con f args H = none)
    (h : Run X f fn.ntmps H.length (FinE X (X.fzr f) fn.results.toList H.length P) [] (code X f fn.ntmps H.length (stripC (bodyOf fn)) (argEnv 0 args) H)) : ∃ r, call X f args H = some r ∧ P r := by
  cases ho : code X f fn.ntmps H.length (stripC (bodyOf fn)) (argEnv 0 args) H with
  | none => rw [ho, run_none] at h; exact h.elim
  | some q =>
    obtain ⟨ex, e1, H1⟩ := q
    rw [ho, run_nil] at h
    cases ex with
    | exit i => exact h.elim
    | normal =>
      obtain ⟨r, h1, h2⟩ := h
      exact ⟨r, call_run hf hb hbad (by rw [ho, run_nil, fin_normal]; exact h1), h2⟩
    | ret =>
      obtain ⟨r, h1, h2⟩ := h
      exact ⟨r, call_run hf hb hbad (by rw [ho, run_nil, fin_ret]; exact h1), h2⟩
attribute [simp] finE_ret finE_normal
end Go.Ev
/- Names, marks. -/
namespace Go.Ev
open Go Go.Proofs
/-- A name of sixteen bytes. -/
structure ID where
  l : List UInt8
  h : l.length = 16
  deriving DecidableEq
@[simp] theorem ID.len (i : ID) : i.l.length = 16 := i.h
theorem ID.ext' {a b : ID} (h : a.l = b.l) : a = b := by cases a; cases b; simp at h; subst h; rfl
instance : Enc ID := ⟨16, fun i => ofBytes i.l, fun i => by simp, fun i => by simp⟩
theorem ID.cells (i : ID) : Enc.cells i = ofBytes i.l := rfl
def ID.zero : ID := ⟨List.replicate 16 0, by simp⟩
theorem cellsEq_bytes : ∀ (x y : List UInt8), x.length = y.length → cellsEq (List.replicate x.length .i) (ofBytes x) (ofBytes y) = some (x == y)
  | [], [], _ => rfl
  | a :: x, b :: y, h => by
    have ih := cellsEq_bytes x y (by simpa using h)
    simp only [List.length_cons, List.replicate_succ, ofBytes, List.map_cons, cellsEq, cellEq]
    simp only [ofBytes] at ih
    rw [ih]
    have : ((a.toNat : Int) == (b.toNat : Int)) = (a == b) := by
      rw [Bool.eq_iff_iff]
      simp only [beq_iff_eq, Int.natCast_inj]
      exact ⟨fun h => UInt8.toNat_inj.1 h, fun h => by rw [h]⟩
    simp [this]
  | [], _ :: _, h => by simp at h
  | _ :: _, [], h => by simp at h
theorem cellsEq_app : ∀ (k1 k2 : List CK) (a1 a2 b1 b2 : List D), k1.length = a1.length → k1.length = b1.length → cellsEq (k1 ++ k2) (a1 ++ a2) (b1 ++ b2) = match cellsEq k1 a1 b1, cellsEq k2 a2 b2 with
    | some x, some y => some (x && y)
    | _, _ => none
  | [], k2, [], a2, [], b2, _, _ => by
    simp only [List.nil_append, cellsEq]
    cases cellsEq k2 a2 b2 <;> simp
  | k :: k1, k2, a :: a1, a2, b :: b1, b2, h1, h2 => by
    simp only [List.cons_append, cellsEq, cellsEq_app k1 k2 a1 a2 b1 b2 (by simpa using h1) (by simpa using h2)]
    cases cellEq k a b <;> cases cellsEq k1 a1 b1 <;> cases cellsEq k2 a2 b2 <;> simp [Bool.and_assoc]
  | [], _, _ :: _, _, _, _, h, _ => by simp at h
  | [], _, [], _, _ :: _, _, _, h => by simp at h
  | _ :: _, _, [], _, _, _, h, _ => by simp at h
  | _ :: _, _, _ :: _, _, [], _, _, h => by simp at h
@[simp] theorem cellsEq16 (x y : ID) : cellsEq [.i, .i, .i, .i, .i, .i, .i, .i, .i, .i, .i, .i, .i, .i, .i, .i] (ofBytes x.l) (ofBytes y.l) = some (x == y) := by
  have := cellsEq_bytes x.l y.l (by simp)
  rw [x.h] at this
  have e : (x.l == y.l) = (x == y) := by
    rw [Bool.eq_iff_iff]
    simp only [beq_iff_eq]
    exact ⟨ID.ext', fun h => by rw [h]⟩
  rw [e] at this
  exact this
/-- A mark. -/
structure Mk where
  id : ID
  seq : Int
  lost : Int
  over : Int
  deriving DecidableEq
def isU64 (n : Int) : Prop := 0 ≤ n ∧ n < 18446744073709551616
structure Mk.Ok (m : Mk) : Prop where
  seq : isU64 m.seq
  lost : isU64 m.lost
  over : isU64 m.over
def Mk.tl (m : Mk) : List D := [.int .u64 m.seq, .int .u64 m.lost, .int .u64 m.over]
instance : Enc Mk := ⟨19, fun m => ofBytes m.id.l ++ m.tl, fun m => by simp [Mk.tl], fun m => by simp [Mk.tl, idFree]⟩
theorem Mk.cells (m : Mk) : Enc.cells m = ofBytes m.id.l ++ [.int .u64 m.seq, .int .u64 m.lost, .int .u64 m.over] := rfl
@[simp] theorem Mk.size : Enc.size Mk = 19 := rfl
@[simp] theorem ID.size : Enc.size ID = 16 := rfl
@[simp] theorem Mk.cl (a : Mk) : (Enc.cells a).length = 19 := Enc.len a
@[simp] theorem Mk.ct (a : Mk) (r : List D) : (Enc.cells a ++ r).take 19 = Enc.cells a := cells_take rfl a r
@[simp] theorem Mk.ct' (a : Mk) : (Enc.cells a).take 19 = Enc.cells a := cells_take' rfl a
@[simp] theorem Mk.cd (a : Mk) (r : List D) : (Enc.cells a ++ r).drop 19 = r := cells_drop rfl a r
@[simp] theorem Mk.el (l : List Mk) : (encs l).length = l.length * 19 := encs_len' rfl l
@[simp] theorem Mk.ed (l : List Mk) (i : Nat) : (encs l).drop (i * 19) = encs (l.drop i) := encs_drop rfl l i
@[simp] theorem Mk.et (l : List Mk) (i : Nat) : (encs l).take (i * 19) = encs (l.take i) := encs_take rfl l i
@[simp high] theorem Mk.ea {l : List Mk} {i : Nat} (h : i < l.length) : (encs l).drop (i * 19) = Enc.cells l[i] ++ encs (l.drop (i + 1)) := encs_at rfl h
@[simp high] theorem Mk.es (m : Mk) {l : List Mk} {j : Nat} (h : j < l.length) : setRange (encs l) (j * 19) (Enc.cells m) = encs (l.set j m) := encs_set rfl m l h
theorem drop_bytes {s : List UInt8} {n : Nat} (h : s.length ≤ n) : (ofBytes s).drop n = [] := List.drop_eq_nil_of_le (by simpa using h)
@[simp] theorem Mk.t16 (m : Mk) : (Enc.cells m).take 16 = ofBytes m.id.l := by simp [Mk.cells]
@[simp] theorem Mk.t16' (m : Mk) (r : List D) : (Enc.cells m ++ r).take 16 = ofBytes m.id.l := by simp [Mk.cells]
@[simp] theorem Mk.d16 (m : Mk) : (Enc.cells m).drop 16 = [.int .u64 m.seq, .int .u64 m.lost, .int .u64 m.over] := by simp [Mk.cells]
@[simp] theorem Mk.d17 (m : Mk) : (Enc.cells m).drop 17 = [.int .u64 m.lost, .int .u64 m.over] := by simp [Mk.cells, List.drop_append, drop_bytes]
@[simp] theorem Mk.d18 (m : Mk) : (Enc.cells m).drop 18 = [.int .u64 m.over] := by simp [Mk.cells, List.drop_append, drop_bytes]
@[simp] theorem Mk.d16' (m : Mk) (r : List D) : (Enc.cells m ++ r).drop 16 = [.int .u64 m.seq, .int .u64 m.lost, .int .u64 m.over] ++ r := by simp [Mk.cells]
@[simp] theorem Mk.d17' (m : Mk) (r : List D) : (Enc.cells m ++ r).drop 17 = [.int .u64 m.lost, .int .u64 m.over] ++ r := by simp [Mk.cells, List.drop_append, drop_bytes]
@[simp] theorem Mk.d18' (m : Mk) (r : List D) : (Enc.cells m ++ r).drop 18 = [.int .u64 m.over] ++ r := by simp [Mk.cells, List.drop_append, drop_bytes]
@[simp] theorem Mk.g16 (m : Mk) (h) : (Enc.cells m)[16]'h = .int .u64 m.seq := by simp [Mk.cells]
@[simp] theorem Mk.g17 (m : Mk) (h) : (Enc.cells m)[17]'h = .int .u64 m.lost := by simp [Mk.cells]
@[simp] theorem Mk.g18 (m : Mk) (h) : (Enc.cells m)[18]'h = .int .u64 m.over := by simp [Mk.cells]
@[simp] theorem Mk.s16 (m : Mk) (x : Int) : setRange (Enc.cells m) 16 [.int .u64 x] = Enc.cells { m with seq := x } := by simp [Mk.cells, List.drop_append, drop_bytes]
@[simp] theorem Mk.s17 (m : Mk) (x : Int) : setRange (Enc.cells m) 17 [.int .u64 x] = Enc.cells { m with lost := x } := by simp [Mk.cells, List.take_append, List.drop_append, drop_bytes, List.take_of_length_le]
@[simp] theorem Mk.s18 (m : Mk) (x : Int) : setRange (Enc.cells m) 18 [.int .u64 x] = Enc.cells { m with over := x } := by simp [Mk.cells, List.take_append, List.drop_append, drop_bytes, List.take_of_length_le]
theorem cellsEqMk (x y : Mk) : cellsEq [.i, .i, .i, .i, .i, .i, .i, .i, .i, .i, .i, .i, .i, .i, .i, .i, .i, .i, .i] (Enc.cells x) (Enc.cells y) = some (x == y) := by
  have h := cellsEq_app [.i, .i, .i, .i, .i, .i, .i, .i, .i, .i, .i, .i, .i, .i, .i, .i] [.i, .i, .i] (ofBytes x.id.l) x.tl (ofBytes y.id.l) y.tl (by simp) (by simp)
  rw [cellsEq16] at h
  have e : cellsEq [.i, .i, .i] x.tl y.tl = some (x.seq == y.seq && (x.lost == y.lost && x.over == y.over)) := by simp [Mk.tl, cellsEq]
  rw [e] at h
  have e2 : (x == y) = (x.id == y.id && (x.seq == y.seq && (x.lost == y.lost && x.over == y.over))) := by
    rw [Bool.eq_iff_iff]
    cases x; cases y
    simp [Mk.mk.injEq, beq_iff_eq]
  rw [e2]
  exact h
end Go.Ev
/- Fields, records, items. -/
namespace Go.Ev
open Go Go.Proofs
/-- A field. -/
structure Pr where
  name : List UInt8
  value : List UInt8
  deriving DecidableEq
instance : Enc Pr := ⟨2, fun p => [.str p.name, .str p.value], fun _ => rfl, fun _ => rfl⟩
theorem Pr.cells (p : Pr) : Enc.cells p = [.str p.name, .str p.value] := rfl
@[simp] theorem Pr.size : Enc.size Pr = 2 := rfl
@[simp] theorem Pr.cl (a : Pr) : (Enc.cells a).length = 2 := Enc.len a
@[simp] theorem Pr.ct (a : Pr) (r : List D) : (Enc.cells a ++ r).take 2 = Enc.cells a := cells_take rfl a r
@[simp] theorem Pr.ct' (a : Pr) : (Enc.cells a).take 2 = Enc.cells a := cells_take' rfl a
@[simp] theorem Pr.cd (a : Pr) (r : List D) : (Enc.cells a ++ r).drop 2 = r := cells_drop rfl a r
@[simp] theorem Pr.el (l : List Pr) : (encs l).length = l.length * 2 := encs_len' rfl l
@[simp] theorem Pr.ed (l : List Pr) (i : Nat) : (encs l).drop (i * 2) = encs (l.drop i) := encs_drop rfl l i
@[simp] theorem Pr.et (l : List Pr) (i : Nat) : (encs l).take (i * 2) = encs (l.take i) := encs_take rfl l i
@[simp high] theorem Pr.ea {l : List Pr} {i : Nat} (h : i < l.length) : (encs l).drop (i * 2) = Enc.cells l[i] ++ encs (l.drop (i + 1)) := encs_at rfl h
@[simp high] theorem Pr.es (m : Pr) {l : List Pr} {j : Nat} (h : j < l.length) : setRange (encs l) (j * 2) (Enc.cells m) = encs (l.set j m) := encs_set rfl m l h
/-- A record. -/
structure Rec where
  seq : Int
  real : Int
  mono : Int
  boot : ID
  fields : Sl Pr
instance : Enc Rec := ⟨20, fun r => [.int .u64 r.seq, .int .u64 r.real, .int .u64 r.mono] ++ (ofBytes r.boot.l ++ [(.vsl r.fields.nil (encs r.fields.l) r.fields.l.length)]), fun r => by simp, fun r => by simp [idFree]⟩
theorem Rec.cells (r : Rec) : Enc.cells r = [.int .u64 r.seq, .int .u64 r.real, .int .u64 r.mono] ++ (ofBytes r.boot.l ++ [(.vsl r.fields.nil (encs r.fields.l) r.fields.l.length)]) := rfl
@[simp] theorem Rec.size : Enc.size Rec = 20 := rfl
structure Rec.Ok (r : Rec) : Prop where
  seq : isU64 r.seq
  real : isU64 r.real
  mono : isU64 r.mono
@[simp] theorem Rec.cl (a : Rec) : (Enc.cells a).length = 20 := Enc.len a
@[simp] theorem Rec.ct (a : Rec) (r : List D) : (Enc.cells a ++ r).take 20 = Enc.cells a := cells_take rfl a r
@[simp] theorem Rec.ct' (a : Rec) : (Enc.cells a).take 20 = Enc.cells a := cells_take' rfl a
@[simp] theorem Rec.cd (a : Rec) (r : List D) : (Enc.cells a ++ r).drop 20 = r := cells_drop rfl a r
@[simp] theorem Rec.el (l : List Rec) : (encs l).length = l.length * 20 := encs_len' rfl l
@[simp] theorem Rec.ed (l : List Rec) (i : Nat) : (encs l).drop (i * 20) = encs (l.drop i) := encs_drop rfl l i
@[simp] theorem Rec.et (l : List Rec) (i : Nat) : (encs l).take (i * 20) = encs (l.take i) := encs_take rfl l i
@[simp high] theorem Rec.ea {l : List Rec} {i : Nat} (h : i < l.length) : (encs l).drop (i * 20) = Enc.cells l[i] ++ encs (l.drop (i + 1)) := encs_at rfl h
@[simp high] theorem Rec.es (m : Rec) {l : List Rec} {j : Nat} (h : j < l.length) : setRange (encs l) (j * 20) (Enc.cells m) = encs (l.set j m) := encs_set rfl m l h
/-- An item: an entry of a sequence, or numbers of it that are lost. -/
structure It where
  id : ID
  gap : Bool
  fr : Int
  to : Int
  rc : Rec
instance : Enc It := ⟨39, fun i => ofBytes i.id.l ++ ([.bool i.gap, .int .u64 i.fr, .int .u64 i.to] ++ Enc.cells i.rc), fun i => by simp, fun i => by simp [idFree]⟩
theorem It.cells (i : It) : Enc.cells i = ofBytes i.id.l ++ ([.bool i.gap, .int .u64 i.fr, .int .u64 i.to] ++ ([.int .u64 i.rc.seq, .int .u64 i.rc.real, .int .u64 i.rc.mono] ++ (ofBytes i.rc.boot.l ++ [(.vsl i.rc.fields.nil (encs i.rc.fields.l) i.rc.fields.l.length)]))) := rfl
@[simp] theorem It.size : Enc.size It = 39 := rfl
structure It.Ok (i : It) : Prop where
  fr : isU64 i.fr
  to : isU64 i.to
  rc : i.rc.Ok
@[simp] theorem It.cl (a : It) : (Enc.cells a).length = 39 := Enc.len a
@[simp] theorem It.ct (a : It) (r : List D) : (Enc.cells a ++ r).take 39 = Enc.cells a := cells_take rfl a r
@[simp] theorem It.ct' (a : It) : (Enc.cells a).take 39 = Enc.cells a := cells_take' rfl a
@[simp] theorem It.cd (a : It) (r : List D) : (Enc.cells a ++ r).drop 39 = r := cells_drop rfl a r
@[simp] theorem It.el (l : List It) : (encs l).length = l.length * 39 := encs_len' rfl l
@[simp] theorem It.ed (l : List It) (i : Nat) : (encs l).drop (i * 39) = encs (l.drop i) := encs_drop rfl l i
@[simp] theorem It.et (l : List It) (i : Nat) : (encs l).take (i * 39) = encs (l.take i) := encs_take rfl l i
@[simp high] theorem It.ea {l : List It} {i : Nat} (h : i < l.length) : (encs l).drop (i * 39) = Enc.cells l[i] ++ encs (l.drop (i + 1)) := encs_at rfl h
@[simp high] theorem It.es (m : It) {l : List It} {j : Nat} (h : j < l.length) : setRange (encs l) (j * 39) (Enc.cells m) = encs (l.set j m) := encs_set rfl m l h
@[simp] theorem It.t16 (i : It) : (Enc.cells i).take 16 = ofBytes i.id.l := by simp [It.cells]
@[simp] theorem It.t16' (i : It) (r : List D) : (Enc.cells i ++ r).take 16 = ofBytes i.id.l := by simp [It.cells]
@[simp] theorem It.d16 (i : It) : (Enc.cells i).drop 16 = .bool i.gap :: .int .u64 i.fr :: .int .u64 i.to :: .int .u64 i.rc.seq :: .int .u64 i.rc.real :: .int .u64 i.rc.mono :: (ofBytes i.rc.boot.l ++ [(.vsl i.rc.fields.nil (encs i.rc.fields.l) i.rc.fields.l.length)]) := by simp [It.cells]
@[simp] theorem It.d17 (i : It) : (Enc.cells i).drop 17 = .int .u64 i.fr :: .int .u64 i.to :: .int .u64 i.rc.seq :: .int .u64 i.rc.real :: .int .u64 i.rc.mono :: (ofBytes i.rc.boot.l ++ [(.vsl i.rc.fields.nil (encs i.rc.fields.l) i.rc.fields.l.length)]) := by simp [It.cells, List.drop_append, drop_bytes]
@[simp] theorem It.d18 (i : It) : (Enc.cells i).drop 18 = .int .u64 i.to :: .int .u64 i.rc.seq :: .int .u64 i.rc.real :: .int .u64 i.rc.mono :: (ofBytes i.rc.boot.l ++ [(.vsl i.rc.fields.nil (encs i.rc.fields.l) i.rc.fields.l.length)]) := by simp [It.cells, List.drop_append, drop_bytes]
@[simp] theorem It.d19 (i : It) : (Enc.cells i).drop 19 = .int .u64 i.rc.seq :: .int .u64 i.rc.real :: .int .u64 i.rc.mono :: (ofBytes i.rc.boot.l ++ [(.vsl i.rc.fields.nil (encs i.rc.fields.l) i.rc.fields.l.length)]) := by simp [It.cells, List.drop_append, drop_bytes]
@[simp] theorem It.d20 (i : It) : (Enc.cells i).drop 20 = .int .u64 i.rc.real :: .int .u64 i.rc.mono :: (ofBytes i.rc.boot.l ++ [(.vsl i.rc.fields.nil (encs i.rc.fields.l) i.rc.fields.l.length)]) := by simp [It.cells, List.drop_append, drop_bytes]
@[simp] theorem It.d21 (i : It) : (Enc.cells i).drop 21 = .int .u64 i.rc.mono :: (ofBytes i.rc.boot.l ++ [(.vsl i.rc.fields.nil (encs i.rc.fields.l) i.rc.fields.l.length)]) := by simp [It.cells, List.drop_append, drop_bytes]
@[simp] theorem It.d22 (i : It) : (Enc.cells i).drop 22 = ofBytes i.rc.boot.l ++ [(.vsl i.rc.fields.nil (encs i.rc.fields.l) i.rc.fields.l.length)] := by simp [It.cells, List.drop_append, drop_bytes]
@[simp] theorem It.d38 (i : It) : (Enc.cells i).drop 38 = [(.vsl i.rc.fields.nil (encs i.rc.fields.l) i.rc.fields.l.length)] := by simp [It.cells, List.drop_append, drop_bytes]
end Go.Ev
/- Numbers in bytes, the lowest first. -/
namespace Go.Ev
open Go Go.Proofs
/-- The number that bytes are. -/
def leN : List UInt8 → Nat
  | [] => 0
  | b :: l => b.toNat + 256 * leN l
/-- The lowest n bytes of a number. -/
def leB : Nat → Nat → List UInt8
  | 0, _ => []
  | n + 1, v => UInt8.ofNat (v % 256) :: leB n (v / 256)
@[simp] theorem leB_len : ∀ (n v : Nat), (leB n v).length = n
  | 0, _ => rfl
  | n + 1, v => by simp [leB, leB_len n]
theorem leN_lt : ∀ (l : List UInt8), leN l < 256 ^ l.length
  | [] => by simp [leN]
  | b :: l => by
    have h1 := leN_lt l
    have h2 := b.toNat_lt
    simp only [leN, List.length_cons, Nat.pow_succ]
    omega
theorem leN_leB : ∀ (n v : Nat), leN (leB n v) = v % 256 ^ n
  | 0, v => by simp [leB, leN, Nat.mod_one]
  | n + 1, v => by
    simp only [leB, leN, leN_leB n]
    rw [UInt8.toNat_ofNat_of_lt' (Nat.mod_lt _ (by decide)), Nat.pow_succ, Nat.mul_comm (256 ^ n) 256, Nat.mod_mul]
theorem leB_leN : ∀ (l : List UInt8), leB l.length (leN l) = l
  | [] => rfl
  | b :: l => by
    have h2 := b.toNat_lt
    have e1 : (b.toNat + 256 * leN l) % 256 = b.toNat := by omega
    have e2 : (b.toNat + 256 * leN l) / 256 = leN l := by omega
    simp only [List.length_cons, leN, leB, e1, e2, leB_leN l]
    simp
theorem leB_snoc : ∀ (n v : Nat), leB (n + 1) v = leB n v ++ [UInt8.ofNat (v / 256 ^ n % 256)]
  | 0, v => by simp [leB]
  | n + 1, v => by
    rw [leB, leB_snoc n (v / 256), leB, List.cons_append, Nat.div_div_eq_div_mul, Nat.pow_succ, Nat.mul_comm 256]
theorem leN_append : ∀ (a b : List UInt8), leN (a ++ b) = leN a + 256 ^ a.length * leN b
  | [], b => by simp [leN]
  | x :: a, b => by
    simp only [List.cons_append, leN, leN_append a b, List.length_cons, Nat.pow_succ]
    rw [Nat.mul_add, ← Nat.mul_assoc, Nat.mul_comm 256 (256 ^ a.length), Nat.add_assoc]
theorem ofBytes_append (a b : List UInt8) : ofBytes (a ++ b) = ofBytes a ++ ofBytes b := by simp [ofBytes]
theorem ofBytes_cons (a : UInt8) (b : List UInt8) : ofBytes (a :: b) = .int .u8 (a.toNat : Int) :: ofBytes b := rfl
theorem ofBytes_drop (l : List UInt8) (i : Nat) : (ofBytes l).drop i = ofBytes (l.drop i) := by simp [ofBytes]
theorem ofBytes_take (l : List UInt8) (i : Nat) : (ofBytes l).take i = ofBytes (l.take i) := by simp [ofBytes]
theorem ofBytes_at {l : List UInt8} {i : Nat} (h : i < l.length) : (ofBytes l).drop i = .int .u8 (l[i].toNat : Int) :: ofBytes (l.drop (i + 1)) := by
  rw [ofBytes_drop, List.drop_eq_getElem_cons h, ofBytes_cons]
theorem ofBytes_get {l : List UInt8} {i : Nat} (h : i < (ofBytes l).length) : (ofBytes l)[i] = .int .u8 ((l[i]'(by simpa using h)).toNat : Int) := by simp [ofBytes]
@[simp] theorem bytesD_of (s : List UInt8) : bytesD (ofBytes s) = some s := by
  induction s with
  | nil => rfl
  | cons a s ih =>
    have : bytesD (ofBytes (a :: s)) = (bytesD (ofBytes s)).map fun r => UInt8.ofNat ((a.toNat : Int)).toNat :: r := rfl
    rw [this, ih]
    simp
theorem or_shl (x y : Nat) (h : y < 256) : (x * 256) ||| y = x * 256 + y := by
  have := Nat.shiftLeft_add_eq_or_of_lt (b := y) (i := 8) (by simpa using h) x
  rw [Nat.shiftLeft_eq] at this
  simpa using this.symm
/-- A slice of one's own that grows, none at first. -/
def BufE {α : Type} [Enc α] (n : Nat) (d : D) (H : Heap) (l : List α) : Prop := (d = .vsl true [] 0 ∧ l = [] ∧ H = []) ∨ (d = .osl 0 (l.length * n) 0 l.length n ∧ H = [some (encs l)] ∧ l ≠ [])
theorem BufE.snoc {α : Type} [Enc α] {n : Nat} (l : List α) (a : α) : BufE n (.osl 0 (l.length * n + n) 0 (l.length + 1) n) [some (encs l ++ Enc.cells a)] (l ++ [a]) :=
  .inr ⟨by simp [Nat.add_mul], by simp [encs_snoc], by simp⟩
theorem BufE.one {α : Type} [Enc α] {n : Nat} (a : α) : BufE n (.osl 0 n 0 1 n) [some (Enc.cells a)] ([] ++ [a]) :=
  .inr ⟨by simp, by simp [encs_one], by simp⟩
/-- A list as a slice: none where it is empty. -/
def Sl.grown {α : Type} (l : List α) : Sl α := ⟨l.isEmpty, l, by simp⟩
@[simp] theorem Sl.grown_l {α : Type} (l : List α) : (Sl.grown l).l = l := rfl
def ID.mk' (l : List UInt8) : ID := if h : l.length = 16 then ⟨l, h⟩ else ID.zero
theorem ID.mk'_l {l : List UInt8} (h : l.length = 16) : (ID.mk' l).l = l := by unfold ID.mk'; rw [dif_pos h]
/-- The mark that bytes are. -/
def mkOf (r : List UInt8) : Mk := ⟨ID.mk' (r.take 16), leN ((r.drop 16).take 8), leN ((r.drop 24).take 8), leN ((r.drop 32).take 8)⟩
def lastGe (out : List Mk) (id : List UInt8) : Bool := match out.getLast? with
  | some m => decide (0 ≤ cmpB m.id.l id)
  | none => false
/-- Marks that are read one behind the other: what is read, the code. -/
def readGo : Nat → List UInt8 → List Mk → List Mk × Int
  | 0, _, out => (out, 0)
  | k + 1, r, out => if r.length < 16 then ([], 22) else if lastGe out (r.take 16) then ([], 13) else if r.length < 40 then ([], 22) else readGo k (r.drop 40) (out ++ [mkOf r])
def readM : List UInt8 → List Mk × Int
  | [] => ([], 22)
  | c :: r => if 4 < c.toNat then ([], 21) else readGo c.toNat r []
def readN (x : List Mk × Int) : Int := if x.2 = 0 then 1 + 40 * (x.1.length : Int) else 0
end Go.Ev
/- Whatever plain data comes in: what it reads as. -/
namespace Go.Ev
open Go Go.Proofs
/-- Types of plain data, field behind field. -/
def plainF (P : Program) (g : TypeId → Bool) : List Field → Nat → Nat → Bool
  | [], off, size => off == size
  | f :: fs, off, size => f.offset == off && g f.type && plainF P g fs (off + P.cellsOf f.type) size
def PlainT (P : Program) : Nat → TypeId → Bool
  | 0, _ => false
  | n + 1, t => match P.underlying t with
    | some .bool => true
    | some (.int _) => true
    | some .string => true
    | some (.slice e) => PlainT P n e
    | some (.array m e) => PlainT P n e && P.cellsOf t == m * P.cellsOf e
    | some (.struct fs) => plainF P (PlainT P n) fs.toList 0 (P.cellsOf t)
    | _ => false
def HasFs (P : Program) (g : TypeId → List D → Prop) : List Field → List D → Prop
  | [], cs => cs = []
  | f :: fs, cs => ∃ a b, cs = a ++ b ∧ a.length = P.cellsOf f.type ∧ g f.type a ∧ HasFs P g fs b
/-- Cells of a value of a type. -/
def HasT (P : Program) : Nat → TypeId → List D → Prop
  | 0, _, _ => False
  | n + 1, t, cs => match P.underlying t with
    | some .bool => ∃ b, cs = [.bool b]
    | some (.int k) => ∃ x, cs = [.int k x] ∧ (Lit.int k x).wf = true
    | some .string => ∃ s, cs = [.str s] ∧ s.length ≤ maxLen
    | some (.slice e) => cs = [.vsl true [] 0] ∨ ∃ ls : List (List D), cs = [.vsl false ls.flatten ls.length] ∧ ls.length ≤ maxLen ∧ ∀ l, l ∈ ls → l.length = P.cellsOf e ∧ HasT P n e l
    | some (.array m e) => ∃ ls : List (List D), cs = ls.flatten ∧ ls.length = m ∧ ∀ l, l ∈ ls → l.length = P.cellsOf e ∧ HasT P n e l
    | some (.struct fs) => HasFs P (HasT P n) fs.toList cs
    | _ => False
attribute [irreducible] HasT

theorem cell_lt {W : World} {a : Addr} {v : Value} (h : W.cell? a = some v) : a.block < W.heap.size := by
  unfold World.cell? at h
  rcases Nat.lt_or_ge a.block W.heap.size with hlt | hge
  · exact hlt
  · have : W.heap[a.block]? = none := Array.getElem?_eq_none hge
    simp [this] at h
def Cor (W : World) (ds : List D) (vs : List Value) : Prop := ds.length = vs.length ∧ (∀ d, d ∈ ds → isCell d = true) ∧ ∀ (j : Nat) d, ds[j]? = some d → Rep (· < W.heap.size) W iota0 [] d (vs.getD j undef)

theorem cor_one {W : World} {d : D} {v : Value} (hc : isCell d = true) (h : Rep (· < W.heap.size) W iota0 [] d v) : Cor W [d] [v] := by
  refine ⟨rfl, fun x hx => by rw [List.mem_singleton.1 hx]; exact hc, fun j x hj => ?_⟩
  cases j with
  | zero => simp at hj; subst hj; exact h
  | succ j => simp at hj

theorem cor_append {W : World} {a b : List D} {us vs : List Value} (h1 : Cor W a us) (h2 : Cor W b vs) : Cor W (a ++ b) (us ++ vs) := by
  refine ⟨by simp [h1.1, h2.1], fun d hd => ?_, fun j d hj => ?_⟩
  · rcases List.mem_append.1 hd with h | h
    · exact h1.2.1 d h
    · exact h2.2.1 d h
  · by_cases hlt : j < a.length
    · rw [List.getElem?_append_left hlt] at hj
      have := h1.2.2 j d hj
      rw [List.getD_eq_getElem?_getD] at this ⊢
      rwa [List.getElem?_append_left (by rw [← h1.1]; exact hlt)]
    · rw [List.getElem?_append_right (by omega)] at hj
      have := h2.2.2 _ d hj
      rw [List.getD_eq_getElem?_getD] at this ⊢
      rw [List.getElem?_append_right (by rw [← h1.1]; omega), ← h1.1]
      exact this

section
variable {H : Type} {enc : TypeId × Value → H} {P : Program} {W : World}

/-- Cells that are cut out one behind the other. -/
theorem cut_rows {sz : Nat} {Q : List D → Prop} : ∀ (m off : Nat) (cs : List Value), cs.length = off + m * sz →
    (∀ i, i < m → ∃ ds, Q ds ∧ Cor W ds ((cs.drop (off + i * sz)).take sz)) → ∃ ls : List (List D), ls.length = m ∧ (∀ l, l ∈ ls → l.length = sz ∧ Q l) ∧ Cor W ls.flatten (cs.drop off)
  | 0, off, cs, hl, _ => ⟨[], rfl, by simp, by
      rw [List.drop_eq_nil_of_le (by omega)]
      exact ⟨rfl, by simp, by simp⟩⟩
  | m + 1, off, cs, hl, h => by
    have e1 : (m + 1) * sz = sz + m * sz := by rw [Nat.add_mul, Nat.one_mul, Nat.add_comm]
    rw [e1] at hl
    obtain ⟨ds, q1, q2⟩ := h 0 (by omega)
    rw [Nat.zero_mul, Nat.add_zero] at q2
    obtain ⟨ls, l1, l2, l3⟩ := cut_rows (sz := sz) (Q := Q) m (off + sz) cs (by omega) (fun i hi => by
      have := h (i + 1) (by omega)
      rw [Nat.add_mul, Nat.one_mul] at this
      rw [show off + sz + i * sz = off + (i * sz + sz) by omega]
      exact this)
    have hds : ds.length = sz := by
      rw [q2.1, List.length_take, List.length_drop]
      omega
    refine ⟨ds :: ls, by simp [l1], fun l hl => ?_, ?_⟩
    · rcases List.mem_cons.1 hl with rfl | hl
      · exact ⟨hds, q1⟩
      · exact l2 l hl
    · rw [List.flatten_cons]
      have := cor_append q2 l3
      rw [← List.drop_drop, List.take_append_drop] at this
      exact this

theorem fs_has {g : TypeId → Bool} {Q : TypeId → List D → Prop} : ∀ (fs : List Field) (off : Nat) (cs : List Value), plainF P g fs off cs.length = true →
    (∀ f, f ∈ fs → g f.type = true → ∃ ds, Q f.type ds ∧ Cor W ds ((cs.drop f.offset).take (P.cellsOf f.type))) → ∃ ds, HasFs P Q fs ds ∧ Cor W ds (cs.drop off)
  | [], off, cs, hp, _ => by
    simp only [plainF, beq_iff_eq] at hp
    exact ⟨[], rfl, by rw [List.drop_eq_nil_of_le (by omega)]; exact ⟨rfl, by simp, by simp⟩⟩
  | f :: fs, off, cs, hp, h => by
    simp only [plainF, Bool.and_eq_true, beq_iff_eq] at hp
    obtain ⟨⟨h1, h2⟩, h3⟩ := hp
    obtain ⟨a, a1, a2⟩ := h f (List.mem_cons_self ..) h2
    obtain ⟨b, b1, b2⟩ := fs_has fs (off + P.cellsOf f.type) cs h3 fun f' hf => h f' (List.mem_cons_of_mem _ hf)
    rw [h1] at a2
    have hle : off + P.cellsOf f.type ≤ cs.length := plainF_le h3
    refine ⟨a ++ b, ⟨a, b, rfl, ?_, a1, b1⟩, ?_⟩
    · rw [a2.1, List.length_take, List.length_drop]
      omega
    · have := cor_append a2 b2
      rwa [← List.drop_drop, List.take_append_drop] at this
where plainF_le {g : TypeId → Bool} : ∀ {fs : List Field} {off n : Nat}, plainF P g fs off n = true → off ≤ n
  | [], off, n, h => by simp only [plainF, beq_iff_eq] at h; omega
  | f :: fs, off, n, h => by
    simp only [plainF, Bool.and_eq_true] at h
    have := plainF_le h.2
    omega

theorem trod_has : ∀ (n fuel : Nat) (t : TypeId) (cs : List Value) (x : DataW H × List MemPlace), PlainT P n t = true → DataW.trod enc P W 0 (fun _ => true) true fuel t cs = some x →
    ∃ ds, HasT P n t ds ∧ Cor W ds cs
  | 0, _, _, _, _, h, _ => by simp [PlainT] at h
  | n + 1, fuel, t, cs, x, hp, h => by
    have ih := trod_has n
    unfold PlainT at hp
    unfold HasT
    cases hu : P.underlying t with
    | none => rw [hu] at hp; simp at hp
    | some u =>
    rw [hu] at hp
    cases u with
    | bool =>
      obtain ⟨b, rfl, _⟩ := DataW.trod_bool hu h
      exact ⟨_, ⟨b, rfl⟩, cor_one rfl (.bool _)⟩
    | int k =>
      obtain ⟨b, rfl, _, hw⟩ := DataW.trod_int hu h
      exact ⟨_, ⟨b, rfl, hw⟩, cor_one rfl (.int _ _)⟩
    | string =>
      obtain ⟨s, rfl, _, hw⟩ := DataW.trod_string hu h
      refine ⟨_, ⟨s.data.toList, rfl, by simpa using hw⟩, cor_one rfl ?_⟩
      have := Rep.str (ok := (· < W.heap.size)) (w := W) (ι := iota0) (H := []) s.data.toList
      simpa using this
    | slice e =>
      simp only at hp ⊢
      rcases DataW.trod_slice hu h with ⟨rfl, _⟩ | ⟨a, len, cap, elems, rest, m, rfl, rfl, _, _, hlc, hcm, hel, hget, _⟩
      · exact ⟨_, .inl rfl, cor_one rfl .vnil⟩
      · have hrow : ∀ i, i < len → ∃ ds, HasT P n e ds ∧ ds.length = P.cellsOf e ∧ (∀ d, d ∈ ds → isCell d = true) ∧ ∀ (j : Nat) d, ds[j]? = some d → ∃ v, W.cell? (a.add (i * P.cellsOf e + j)) = some v ∧ Rep (· < W.heap.size) W iota0 [] d v := by
          intro i hi
          have hg := hget i hi
          rw [List.getElem?_eq_getElem (by omega)] at hg
          cases hcs : W.cells? 0 (a.add (i * P.cellsOf e)) (P.cellsOf e) with
          | none => rw [hcs] at hg; simp at hg
          | some cs =>
            rw [hcs, Option.bind_some] at hg
            obtain ⟨ds, d1, d2, d3, d4⟩ := ih m e cs _ hp hg
            obtain ⟨_, c2, c3⟩ := World.cells?_some hcs
            refine ⟨ds, d1, by rw [d2, c2], d3, fun j d hj => ?_⟩
            have hjl : j < cs.length := by rw [← d2]; exact (List.getElem?_eq_some_iff.1 hj).1
            refine ⟨cs[j], ?_, ?_⟩
            · rw [← Addr.add_add, c3 j (by omega), List.getElem?_eq_getElem hjl]
            · have := d4 j d hj
              rwa [List.getD_eq_getElem?_getD, List.getElem?_eq_getElem hjl, Option.getD_some] at this
        have hall : ∀ k, k ≤ len → ∃ ls : List (List D), ls.length = k ∧ (∀ l, l ∈ ls → l.length = P.cellsOf e ∧ HasT P n e l) ∧ (∀ d, d ∈ ls.flatten → isCell d = true) ∧ ls.flatten.length = k * P.cellsOf e ∧
            ∀ (j : Nat) d, ls.flatten[j]? = some d → ∃ v, W.cell? (a.add j) = some v ∧ Rep (· < W.heap.size) W iota0 [] d v := by
          intro k
          induction k with
          | zero => intro _; exact ⟨[], rfl, by simp, by simp, by simp, by simp⟩
          | succ k ihk =>
            intro hk
            obtain ⟨ls, l1, l2, l3, l4, l5⟩ := ihk (by omega)
            obtain ⟨ds, d1, d2, d3, d4⟩ := hrow k (by omega)
            refine ⟨ls ++ [ds], by simp [l1], fun l hl => ?_, ?_, ?_, ?_⟩
            · rcases List.mem_append.1 hl with h | h
              · exact l2 l h
              · rw [List.mem_singleton.1 h]; exact ⟨d2, d1⟩
            · intro d hd
              rw [List.flatten_append] at hd
              rcases List.mem_append.1 hd with h | h
              · exact l3 d h
              · exact d3 d (by simpa using h)
            · rw [List.flatten_append, List.length_append, l4, Nat.add_mul, Nat.one_mul]
              simp [d2]
            · intro j d hj
              rw [List.flatten_append] at hj
              by_cases hlt : j < ls.flatten.length
              · rw [List.getElem?_append_left hlt] at hj
                exact l5 j d hj
              · rw [List.getElem?_append_right (by omega)] at hj
                rw [l4] at hj hlt
                have hj' : ds[j - k * P.cellsOf e]? = some d := by simpa using hj
                obtain ⟨v, v1, v2⟩ := d4 _ d hj'
                refine ⟨v, ?_, v2⟩
                rw [← v1]
                congr 2
                omega
        obtain ⟨ls, l1, l2, l3, l4, l5⟩ := hall len (Nat.le_refl _)
        refine ⟨_, .inr ⟨ls, rfl, by rw [l1]; omega, l2⟩, cor_one rfl ?_⟩
        rw [l1]
        refine .vsl a (fun j => (W.cell? (a.add j)).getD undef) (fun d hd => ?_) l3 (fun j d hj => ?_) (fun j d hj => ?_) hlc
        · obtain ⟨j, hj⟩ := List.mem_iff_getElem?.1 hd
          obtain ⟨v, v1, _⟩ := l5 j d hj
          have := cell_lt v1
          rwa [add_block] at this
        · obtain ⟨v, v1, _⟩ := l5 j d hj
          rw [v1]; rfl
        · obtain ⟨v, v1, v2⟩ := l5 j d hj
          rw [v1]; exact v2
    | array m e =>
      simp only [Bool.and_eq_true, beq_iff_eq] at hp ⊢
      obtain ⟨xs, k, rfl, _, hl, hxl, hg⟩ := DataW.trod_array hu h
      have := cut_rows (W := W) (sz := P.cellsOf e) (Q := HasT P n e) m 0 cs (by rw [hl, hp.2]; omega) (fun i hi => by
        rw [Nat.zero_add]
        have hgi := hg i hi
        rw [List.getElem?_eq_getElem (by omega)] at hgi
        exact ih k e _ _ hp.1 hgi)
      obtain ⟨ls, l1, l2, l3⟩ := this
      exact ⟨ls.flatten, ⟨ls, rfl, l1, l2⟩, by simpa using l3⟩
    | struct fs =>
      simp only at hp ⊢
      obtain ⟨xs, k, rfl, _, hl, hxl, hg⟩ := DataW.trod_struct hu h
      rw [← hl] at hp
      obtain ⟨ds, d1, d2⟩ := fs_has (W := W) (Q := HasT P n) fs.toList 0 cs hp (fun f hf hgf => by
        obtain ⟨i, hi⟩ := List.mem_iff_getElem?.1 hf
        have hi' : fs[i]? = some f := by simpa using hi
        have hgi := hg i f hi'
        have hlt : i < xs.length := by rw [hxl]; exact (Array.getElem?_eq_some_iff.1 hi').1
        rw [List.getElem?_eq_getElem hlt] at hgi
        exact ih k f.type _ _ hgf hgi)
      exact ⟨ds, d1, by simpa using d2⟩
    | _ => simp at hp

/-- An argument of plain data: what it reads as. -/
theorem read_plain {n : Nat} {t : TypeId} {v : Value} {d : DataW H} {ps : List MemPlace} (hp : PlainT P n t = true) (h : DataW.Trod enc P W 0 (fun _ => true) true t v d ps) :
    ∃ ds, HasT P n t ds ∧ Cor W ds v.cells.toList := by
  obtain ⟨fuel, hf⟩ := h
  exact trod_has n fuel t _ _ hp hf
end
end Go.Ev
/- What arguments of plain data are, as data of one's own. -/
namespace Go.Ev
open Go Go.Proofs
section
variable {P : Program} {n : Nat} {t e : TypeId} {cs : List D}
theorem has_bool (hu : P.underlying t = some .bool) (h : HasT P (n + 1) t cs) : ∃ b, cs = [.bool b] := by
  unfold HasT at h; rw [hu] at h; exact h
theorem has_int {k : IntKind} (hu : P.underlying t = some (.int k)) (h : HasT P (n + 1) t cs) : ∃ x, cs = [.int k x] ∧ (Lit.int k x).wf = true := by
  unfold HasT at h; rw [hu] at h; exact h
theorem has_u64 (hu : P.underlying t = some (.int .u64)) (h : HasT P (n + 1) t cs) : ∃ x, cs = [.int .u64 x] ∧ isU64 x := by
  obtain ⟨x, h1, h2⟩ := has_int hu h
  refine ⟨x, h1, ?_⟩
  simp [Lit.wf, IntKind.min, IntKind.max, IntKind.signed, IntKind.bits] at h2
  unfold isU64
  omega
def isI64 (n : Int) : Prop := -9223372036854775808 ≤ n ∧ n < 9223372036854775808
theorem has_i64 (hu : P.underlying t = some (.int .i64)) (h : HasT P (n + 1) t cs) : ∃ x, cs = [.int .i64 x] ∧ isI64 x := by
  obtain ⟨x, h1, h2⟩ := has_int hu h
  refine ⟨x, h1, ?_⟩
  simp [Lit.wf, IntKind.min, IntKind.max, IntKind.signed, IntKind.bits] at h2
  unfold isI64
  omega
theorem has_u8 (hu : P.underlying t = some (.int .u8)) (h : HasT P (n + 1) t cs) : ∃ x : UInt8, cs = [.int .u8 x.toNat] := by
  obtain ⟨x, h1, h2⟩ := has_int hu h
  simp [Lit.wf, IntKind.min, IntKind.max, IntKind.signed, IntKind.bits] at h2
  refine ⟨UInt8.ofNat x.toNat, ?_⟩
  rw [h1, UInt8.toNat_ofNat_of_lt' (by simp; omega)]
  congr 2
  omega
theorem has_str (hu : P.underlying t = some .string) (h : HasT P (n + 1) t cs) : ∃ s, cs = [.str s] ∧ s.length ≤ maxLen := by
  unfold HasT at h; rw [hu] at h; exact h
theorem rows_bytes {e : TypeId} (hu : P.underlying e = some (.int .u8)) : ∀ (ls : List (List D)), (∀ l, l ∈ ls → l.length = P.cellsOf e ∧ HasT P (n + 1) e l) → ∃ s : List UInt8, ls.flatten = ofBytes s ∧ s.length = ls.length
  | [], _ => ⟨[], rfl, rfl⟩
  | l :: ls, h => by
    obtain ⟨x, hx⟩ := has_u8 hu (h l (List.mem_cons_self ..)).2
    obtain ⟨s, h1, h2⟩ := rows_bytes hu ls fun l' hl => h l' (List.mem_cons_of_mem _ hl)
    exact ⟨x :: s, by rw [List.flatten_cons, hx, h1]; rfl, by simp [h2]⟩
theorem has_id (hu : P.underlying t = some (.array 16 e)) (he : P.underlying e = some (.int .u8)) (h : HasT P (n + 2) t cs) : ∃ i : ID, cs = ofBytes i.l := by
  unfold HasT at h
  rw [hu] at h
  obtain ⟨ls, h1, h2, h3⟩ := h
  obtain ⟨s, s1, s2⟩ := rows_bytes he ls h3
  exact ⟨⟨s, by omega⟩, by rw [h1, s1]⟩
theorem has_bytes (hu : P.underlying t = some (.slice e)) (he : P.underlying e = some (.int .u8)) (h : HasT P (n + 2) t cs) : ∃ s : Sl UInt8, cs = [(.vsl s.nil (ofBytes s.l) s.l.length)] ∧ s.l.length ≤ maxLen := by
  unfold HasT at h
  rw [hu] at h
  rcases h with rfl | ⟨ls, h1, h2, h3⟩
  · exact ⟨.none, rfl, by simp⟩
  · obtain ⟨s, s1, s2⟩ := rows_bytes he ls h3
    exact ⟨.of s, by rw [h1, s1, ← s2]; rfl, by simp only [Sl.of_l]; omega⟩
theorem rows_enc {α : Type} [Enc α] {R : α → Prop} {Q : List D → Prop} (hel : ∀ l, Q l → ∃ a : α, l = Enc.cells a ∧ R a) : ∀ (ls : List (List D)), (∀ l, l ∈ ls → Q l) → ∃ s : List α, ls.flatten = encs s ∧ s.length = ls.length ∧ ∀ a, a ∈ s → R a
  | [], _ => ⟨[], rfl, rfl, by simp⟩
  | l :: ls, h => by
    obtain ⟨x, hx, hr⟩ := hel l (h l (List.mem_cons_self ..))
    obtain ⟨s, h1, h2, h3⟩ := rows_enc hel ls fun l' hl => h l' (List.mem_cons_of_mem _ hl)
    refine ⟨x :: s, by rw [List.flatten_cons, hx, h1, encs_cons], by simp [h2], fun a ha => ?_⟩
    rcases List.mem_cons.1 ha with rfl | ha
    · exact hr
    · exact h3 a ha
theorem has_slice {α : Type} [Enc α] {R : α → Prop} (hu : P.underlying t = some (.slice e)) (hel : ∀ l, HasT P n e l → ∃ a : α, l = Enc.cells a ∧ R a) (h : HasT P (n + 1) t cs) : ∃ s : Sl α, cs = [(.vsl s.nil (encs s.l) s.l.length)] ∧ s.l.length ≤ maxLen ∧ ∀ a, a ∈ s.l → R a := by
  unfold HasT at h
  rw [hu] at h
  rcases h with rfl | ⟨ls, h1, h2, h3⟩
  · exact ⟨.none, rfl, by simp, by simp⟩
  · obtain ⟨s, s1, s2, s3⟩ := rows_enc hel ls fun l hl => (h3 l hl).2
    exact ⟨.of s, by rw [h1, s1, ← s2]; rfl, by simp only [Sl.of_l]; omega, s3⟩
theorem has_struct {fs : Array Field} (hu : P.underlying t = some (.struct fs)) (h : HasT P (n + 1) t cs) : HasFs P (HasT P n) fs.toList cs := by
  unfold HasT at h; rw [hu] at h; exact h
end
/-- Cells back to a value. -/
theorem cor_val {W : World} {d : D} {v : Value} (h : Cor W [d] v.cells.toList) (ho : v.oneCell' = true) : Rep (· < W.heap.size) W iota0 [] d v := by
  have hv : v.cells.toList = [v] := by
    cases v <;> first | rfl | simp [Value.oneCell'] at ho
  rw [hv] at h
  exact h.2.2 0 d rfl
theorem cor_agg {W : World} {ds : List D} {vs : Array Value} (h : Cor W ds vs.toList) : Rep (· < W.heap.size) W iota0 [] (.agg ds) (.agg vs) := by
  refine .agg (by simpa using h.1.symm) h.2.1 fun j d hj => ?_
  have := h.2.2 j d hj
  simpa [List.getD_eq_getElem?_getD, Array.getD_eq_getD_getElem?] using this
end Go.Ev
namespace Go.Ev
open Go Go.Proofs
theorem one_slice {P : Program} {W : World} {base : Nat} {t e : TypeId} {v : Value} (hu : P.underlying t = some (.slice e)) (h : Value.okWide P W .any base t v) : v.oneCell' = true := by
  simp only [Value.okWide, hu, Cell.okWide] at h
  cases v <;> first | rfl | simp [Cell.ok, hu] at h
theorem one_bool {P : Program} {W : World} {base : Nat} {t : TypeId} {v : Value} (hu : P.underlying t = some .bool) (h : Value.okWide P W .any base t v) : v.oneCell' = true := by
  simp only [Value.okWide, hu, Cell.okWide] at h
  cases v <;> first | rfl | simp [Cell.ok, hu] at h
theorem one_int {P : Program} {W : World} {base : Nat} {t : TypeId} {k : IntKind} {v : Value} (hu : P.underlying t = some (.int k)) (h : Value.okWide P W .any base t v) : v.oneCell' = true := by
  simp only [Value.okWide, hu, Cell.okWide] at h
  cases v <;> first | rfl | simp [Cell.ok, hu] at h
theorem one_str {P : Program} {W : World} {base : Nat} {t : TypeId} {v : Value} (hu : P.underlying t = some .string) (h : Value.okWide P W .any base t v) : v.oneCell' = true := by
  simp only [Value.okWide, hu, Cell.okWide] at h
  cases v <;> first | rfl | simp [Cell.ok, hu] at h
theorem agg_struct {P : Program} {W : World} {base : Nat} {t : TypeId} {fs : Array Field} {v : Value} (hu : P.underlying t = some (.struct fs)) (h : Value.okWide P W .any base t v) : ∃ vs, v = .agg vs := by
  simp only [Value.okWide, hu] at h
  obtain ⟨cs, h, _⟩ := h
  exact ⟨cs, h⟩
theorem agg_array {P : Program} {W : World} {base : Nat} {t e : TypeId} {n : Nat} {v : Value} (hu : P.underlying t = some (.array n e)) (h : Value.okWide P W .any base t v) : ∃ vs, v = .agg vs := by
  simp only [Value.okWide, hu] at h
  obtain ⟨cs, h, _⟩ := h
  exact ⟨cs, h⟩
section
variable {H : Type} {enc : TypeId × Value → H} {P : Program} {W : World} {base n : Nat} {t e : TypeId} {v : Value} {d : DataW H} {ps : List MemPlace}
theorem arg_bytes (hu : P.underlying t = some (.slice e)) (he : P.underlying e = some (.int .u8)) (hp : PlainT P (n + 2) t = true) (hv : Value.okWide P W .any base t v) (h : DataW.Trod enc P W 0 (fun _ => true) true t v d ps) :
    ∃ s : Sl UInt8, Rep (· < W.heap.size) W iota0 [] (.vsl s.nil (ofBytes s.l) s.l.length) v ∧ s.l.length ≤ maxLen := by
  obtain ⟨ds, h1, h2⟩ := read_plain hp h
  obtain ⟨s, rfl, hl⟩ := has_bytes hu he h1
  exact ⟨s, cor_val h2 (one_slice hu hv), hl⟩
theorem arg_slice {α : Type} [Enc α] {R : α → Prop} (hu : P.underlying t = some (.slice e)) (hel : ∀ l, HasT P n e l → ∃ a : α, l = Enc.cells a ∧ R a) (hp : PlainT P (n + 1) t = true) (hv : Value.okWide P W .any base t v) (h : DataW.Trod enc P W 0 (fun _ => true) true t v d ps) :
    ∃ s : Sl α, Rep (· < W.heap.size) W iota0 [] (.vsl s.nil (encs s.l) s.l.length) v ∧ s.l.length ≤ maxLen ∧ ∀ a, a ∈ s.l → R a := by
  obtain ⟨ds, h1, h2⟩ := read_plain hp h
  obtain ⟨s, rfl, hl, hr⟩ := has_slice hu hel h1
  exact ⟨s, cor_val h2 (one_slice hu hv), hl, hr⟩
theorem arg_struct {α : Type} [Enc α] {R : α → Prop} {fs : Array Field} (hu : P.underlying t = some (.struct fs)) (hel : ∀ l, HasT P n t l → ∃ a : α, l = Enc.cells a ∧ R a) (hp : PlainT P n t = true) (hv : Value.okWide P W .any base t v) (h : DataW.Trod enc P W 0 (fun _ => true) true t v d ps) :
    ∃ a : α, Rep (· < W.heap.size) W iota0 [] (.agg (Enc.cells a)) v ∧ R a := by
  obtain ⟨ds, h1, h2⟩ := read_plain hp h
  obtain ⟨a, rfl, hr⟩ := hel ds h1
  obtain ⟨vs, rfl⟩ := agg_struct hu hv
  exact ⟨a, cor_agg h2, hr⟩
theorem arg_bool (hu : P.underlying t = some .bool) (hp : PlainT P (n + 1) t = true) (hv : Value.okWide P W .any base t v) (h : DataW.Trod enc P W 0 (fun _ => true) true t v d ps) : ∃ b, Rep (· < W.heap.size) W iota0 [] (.bool b) v := by
  obtain ⟨ds, h1, h2⟩ := read_plain hp h
  obtain ⟨b, rfl⟩ := has_bool hu h1
  exact ⟨b, cor_val h2 (one_bool hu hv)⟩
theorem arg_i64 (hu : P.underlying t = some (.int .i64)) (hp : PlainT P (n + 1) t = true) (hv : Value.okWide P W .any base t v) (h : DataW.Trod enc P W 0 (fun _ => true) true t v d ps) : ∃ b, Rep (· < W.heap.size) W iota0 [] (.int .i64 b) v ∧ isI64 b := by
  obtain ⟨ds, h1, h2⟩ := read_plain hp h
  obtain ⟨b, rfl, hb⟩ := has_i64 hu h1
  exact ⟨b, cor_val h2 (one_int hu hv), hb⟩
theorem arg_str (hu : P.underlying t = some .string) (hp : PlainT P (n + 1) t = true) (hv : Value.okWide P W .any base t v) (h : DataW.Trod enc P W 0 (fun _ => true) true t v d ps) : ∃ s, Rep (· < W.heap.size) W iota0 [] (.str s) v ∧ s.length ≤ maxLen := by
  obtain ⟨ds, h1, h2⟩ := read_plain hp h
  obtain ⟨b, rfl, hb⟩ := has_str hu h1
  exact ⟨b, cor_val h2 (one_str hu hv), hb⟩
end
theorem repL_nil' {ok : Nat → Prop} {w : World} {ι : Iota} {H : Heap} : RepL ok w ι H [] [] := ⟨rfl, by simp⟩
theorem repL_cons' {ok : Nat → Prop} {w : World} {ι : Iota} {H : Heap} {d : D} {v : Value} {ds : List D} {vs : List Value} (h : Rep ok w ι H d v) (hs : RepL ok w ι H ds vs) : RepL ok w ι H (d :: ds) (v :: vs) := by
  refine ⟨by simp [hs.1], fun j x hj => ?_⟩
  cases j with
  | zero => simp at hj; subst hj; exact h
  | succ j => exact hs.2 j x (by simpa using hj)
/-- Fields as they may come in. -/
def Rec.Fit (r : Rec) : Prop := r.fields.l.length ≤ maxLen ∧ ∀ p, p ∈ r.fields.l → p.name.length ≤ maxLen ∧ p.value.length ≤ maxLen
end Go.Ev
/- Bytes are compared. -/
namespace Go.Ev.S
open Go Go.Proofs Go.Ev
theorem compare_ev (x y : Sl UInt8) : call cx 40 [(.vsl x.nil (ofBytes x.l) x.l.length), (.vsl y.nil (ofBytes y.l) y.l.length)] [] = some (.int .i64 (cmpB x.l y.l), []) := by
  have h : call cx 62 [(.vsl x.nil (ofBytes x.l) x.l.length), (.vsl y.nil (ofBytes y.l) y.l.length)] [] = some (.int .i64 (cmpB x.l y.l), []) := by
    rw [call_ext (X := cx) (f := 62) rfl Tryd.func62 rfl, ex62, cmpExt_bytes x.nil y.nil x.l y.l x.h y.h]
    rfl
  refine call_run Tryd.func40 rfl ⟨rfl, rfl⟩ ?_
  simp [Tryd.f40, h]
theorem compare_id (x y : ID) : call cx 40 [.vsl false (ofBytes x.l) 16, .vsl false (ofBytes y.l) 16] [] = some (.int .i64 (cmpB x.l y.l), []) := by
  have h := compare_ev (.of x.l) (.of y.l)
  simpa using h
end Go.Ev.S
/- Cursors. -/
namespace Go.Ev
open Go Go.Proofs
@[simp] theorem ID.ta (i : ID) (r : List D) : (ofBytes i.l ++ r).take 16 = ofBytes i.l := by simp [List.take_append]
@[simp] theorem ID.da (i : ID) (r : List D) : (ofBytes i.l ++ r).drop 16 = r := by simp [List.drop_append, drop_bytes]
structure Cur where
  seq : ID
  n : Int
  boot : ID
  mono : Int
  real : Int
  xor : Int
  deriving DecidableEq
instance : Enc Cur := ⟨36, fun m => (ofBytes m.seq.l ++ (.int .u64 m.n :: (ofBytes m.boot.l ++ (.int .u64 m.mono :: (.int .u64 m.real :: (.int .u64 m.xor :: ([] : List D))))))), fun m => by simp, fun m => by simp [idFree]⟩
theorem Cur.cells (m : Cur) : Enc.cells m = (ofBytes m.seq.l ++ (.int .u64 m.n :: (ofBytes m.boot.l ++ (.int .u64 m.mono :: (.int .u64 m.real :: (.int .u64 m.xor :: ([] : List D))))))) := rfl
@[simp] theorem Cur.size : Enc.size Cur = 36 := rfl
@[simp] theorem Cur.cl (a : Cur) : (Enc.cells a).length = 36 := Enc.len a
@[simp] theorem Cur.ct (a : Cur) (r : List D) : (Enc.cells a ++ r).take 36 = Enc.cells a := cells_take rfl a r
@[simp] theorem Cur.ct' (a : Cur) : (Enc.cells a).take 36 = Enc.cells a := cells_take' rfl a
@[simp] theorem Cur.cd (a : Cur) (r : List D) : (Enc.cells a ++ r).drop 36 = r := cells_drop rfl a r
@[simp] theorem Cur.el (l : List Cur) : (encs l).length = l.length * 36 := encs_len' rfl l
@[simp] theorem Cur.ed (l : List Cur) (i : Nat) : (encs l).drop (i * 36) = encs (l.drop i) := encs_drop rfl l i
@[simp] theorem Cur.et (l : List Cur) (i : Nat) : (encs l).take (i * 36) = encs (l.take i) := encs_take rfl l i
@[simp high] theorem Cur.ea {l : List Cur} {i : Nat} (h : i < l.length) : (encs l).drop (i * 36) = Enc.cells l[i] ++ encs (l.drop (i + 1)) := encs_at rfl h
@[simp high] theorem Cur.es (m : Cur) {l : List Cur} {j : Nat} (h : j < l.length) : setRange (encs l) (j * 36) (Enc.cells m) = encs (l.set j m) := encs_set rfl m l h
@[simp] theorem Cur.t0 (m : Cur) : (Enc.cells m).take 16 = ofBytes m.seq.l := by simp [List.take_append, List.drop_append, drop_bytes, List.take_of_length_le, Cur.cells]
@[simp] theorem Cur.t0' (m : Cur) (r : List D) : (Enc.cells m ++ r).take 16 = ofBytes m.seq.l := by simp [List.take_append, List.drop_append, drop_bytes, List.take_of_length_le, Cur.cells]
@[simp] theorem Cur.s0 (m : Cur) (x : ID) : setRange (Enc.cells m) 0 (ofBytes x.l) = Enc.cells { m with seq := x } := by simp [List.take_append, List.drop_append, drop_bytes, List.take_of_length_le, Cur.cells]
@[simp] theorem Cur.d16 (m : Cur) : (Enc.cells m).drop 16 = (.int .u64 m.n :: (ofBytes m.boot.l ++ (.int .u64 m.mono :: (.int .u64 m.real :: (.int .u64 m.xor :: ([] : List D)))))) := by simp [List.take_append, List.drop_append, drop_bytes, List.take_of_length_le, Cur.cells]
@[simp] theorem Cur.d16' (m : Cur) (r : List D) : (Enc.cells m ++ r).drop 16 = (.int .u64 m.n :: (ofBytes m.boot.l ++ (.int .u64 m.mono :: (.int .u64 m.real :: (.int .u64 m.xor :: ([] : List D)))))) ++ r := by simp [List.take_append, List.drop_append, drop_bytes, List.take_of_length_le, Cur.cells]
@[simp] theorem Cur.g16 (m : Cur) (h) : (Enc.cells m)[16]'h = .int .u64 m.n := by simp [Cur.cells]
@[simp] theorem Cur.q16 (m : Cur) : (Enc.cells m)[16]? = some (.int .u64 m.n) := by simp [Cur.cells]
@[simp] theorem Cur.s16 (m : Cur) (x : Int) : setRange (Enc.cells m) 16 [.int .u64 x] = Enc.cells { m with n := x } := by simp [List.take_append, List.drop_append, drop_bytes, List.take_of_length_le, Cur.cells]
@[simp] theorem Cur.d17 (m : Cur) : (Enc.cells m).drop 17 = (ofBytes m.boot.l ++ (.int .u64 m.mono :: (.int .u64 m.real :: (.int .u64 m.xor :: ([] : List D))))) := by simp [List.take_append, List.drop_append, drop_bytes, List.take_of_length_le, Cur.cells]
@[simp] theorem Cur.d17' (m : Cur) (r : List D) : (Enc.cells m ++ r).drop 17 = (ofBytes m.boot.l ++ (.int .u64 m.mono :: (.int .u64 m.real :: (.int .u64 m.xor :: ([] : List D))))) ++ r := by simp [List.take_append, List.drop_append, drop_bytes, List.take_of_length_le, Cur.cells]
@[simp] theorem Cur.s17 (m : Cur) (x : ID) : setRange (Enc.cells m) 17 (ofBytes x.l) = Enc.cells { m with boot := x } := by simp [List.take_append, List.drop_append, drop_bytes, List.take_of_length_le, Cur.cells]
@[simp] theorem Cur.d33 (m : Cur) : (Enc.cells m).drop 33 = (.int .u64 m.mono :: (.int .u64 m.real :: (.int .u64 m.xor :: ([] : List D)))) := by simp [List.take_append, List.drop_append, drop_bytes, List.take_of_length_le, Cur.cells]
@[simp] theorem Cur.d33' (m : Cur) (r : List D) : (Enc.cells m ++ r).drop 33 = (.int .u64 m.mono :: (.int .u64 m.real :: (.int .u64 m.xor :: ([] : List D)))) ++ r := by simp [List.take_append, List.drop_append, drop_bytes, List.take_of_length_le, Cur.cells]
@[simp] theorem Cur.g33 (m : Cur) (h) : (Enc.cells m)[33]'h = .int .u64 m.mono := by simp [Cur.cells]
@[simp] theorem Cur.q33 (m : Cur) : (Enc.cells m)[33]? = some (.int .u64 m.mono) := by simp [Cur.cells]
@[simp] theorem Cur.s33 (m : Cur) (x : Int) : setRange (Enc.cells m) 33 [.int .u64 x] = Enc.cells { m with mono := x } := by simp [List.take_append, List.drop_append, drop_bytes, List.take_of_length_le, Cur.cells]
@[simp] theorem Cur.d34 (m : Cur) : (Enc.cells m).drop 34 = (.int .u64 m.real :: (.int .u64 m.xor :: ([] : List D))) := by simp [List.take_append, List.drop_append, drop_bytes, List.take_of_length_le, Cur.cells]
@[simp] theorem Cur.d34' (m : Cur) (r : List D) : (Enc.cells m ++ r).drop 34 = (.int .u64 m.real :: (.int .u64 m.xor :: ([] : List D))) ++ r := by simp [List.take_append, List.drop_append, drop_bytes, List.take_of_length_le, Cur.cells]
@[simp] theorem Cur.g34 (m : Cur) (h) : (Enc.cells m)[34]'h = .int .u64 m.real := by simp [Cur.cells]
@[simp] theorem Cur.q34 (m : Cur) : (Enc.cells m)[34]? = some (.int .u64 m.real) := by simp [Cur.cells]
@[simp] theorem Cur.s34 (m : Cur) (x : Int) : setRange (Enc.cells m) 34 [.int .u64 x] = Enc.cells { m with real := x } := by simp [List.take_append, List.drop_append, drop_bytes, List.take_of_length_le, Cur.cells]
@[simp] theorem Cur.d35 (m : Cur) : (Enc.cells m).drop 35 = (.int .u64 m.xor :: ([] : List D)) := by simp [List.take_append, List.drop_append, drop_bytes, List.take_of_length_le, Cur.cells]
@[simp] theorem Cur.d35' (m : Cur) (r : List D) : (Enc.cells m ++ r).drop 35 = (.int .u64 m.xor :: ([] : List D)) ++ r := by simp [List.take_append, List.drop_append, drop_bytes, List.take_of_length_le, Cur.cells]
@[simp] theorem Cur.g35 (m : Cur) (h) : (Enc.cells m)[35]'h = .int .u64 m.xor := by simp [Cur.cells]
@[simp] theorem Cur.q35 (m : Cur) : (Enc.cells m)[35]? = some (.int .u64 m.xor) := by simp [Cur.cells]
@[simp] theorem Cur.s35 (m : Cur) (x : Int) : setRange (Enc.cells m) 35 [.int .u64 x] = Enc.cells { m with xor := x } := by simp [List.take_append, List.drop_append, drop_bytes, List.take_of_length_le, Cur.cells]
end Go.Ev
/- Cursors compared. -/
namespace Go.Ev.S
open Go Go.Proofs Go.Ev
theorem first19_ev : call cx 11 [] [] = some (.bool true, []) := call_some.2 ⟨600, by kernel_rfl⟩
def cmpU (a b : Int) : Int := if a < b then -1 else if a > b then 1 else 0
theorem nan_ev (a : Int) : call cx 61 [.int .u64 a] [] = some (.bool false, []) := by
  refine call_run Tryd.func61 rfl ⟨rfl, rfl⟩ ?_
  simp [Tryd.f61]
theorem cmpu_ev (a b : Int) : call cx 38 [.int .u64 a, .int .u64 b] [] = some (.int .i64 (cmpU a b), []) := by
  have ha := nan_ev a
  have hb := nan_ev b
  refine call_run Tryd.func38 rfl ⟨rfl, rfl⟩ ?_
  unfold cmpU
  by_cases h1 : a < b
  · simp [Tryd.f38, ha, hb, h1]
  · by_cases h2 : a > b
    · simp [Tryd.f38, ha, hb, h1, h2]
    · simp [Tryd.f38, ha, hb, h1, h2]
theorem or_ev (x y : Int) : call cx 39 [.vsl false [.int .i64 x, .int .i64 y] 2] [] = some (.int .i64 (if x = 0 then y else x), []) := by
  refine call_run Tryd.func39 rfl ⟨rfl, rfl⟩ ?_
  simp [Tryd.f39]
  refine Run.loopThen (fun (i : Nat) e H => i ≤ 2 ∧ H = [] ∧ look e 3 = some (.int .i64 0) ∧ look e 6 = some (.vsl false [.int .i64 x, .int .i64 y] 2) ∧ look e 7 = some (.int .i64 2) ∧ look e 8 = some (.int .i64 i) ∧ (0 < i → x = 0) ∧ (1 < i → y = 0)) (fun i => 2 - i) 0 (by simp) ?_
  rintro i e H ⟨hi, rfl, h3, h6, h7, h8, hx, hy⟩
  have : i = 0 ∨ i = 1 ∨ i = 2 := by omega
  rcases this with rfl | rfl | rfl
  · by_cases h : x = 0
    · simp [h3, h6, h7, h8, h]
      exact ⟨1, by simp⟩
    · simp [h3, h6, h7, h8, h]
  · have hx := hx (by omega)
    by_cases h : y = 0
    · simp [h3, h6, h7, h8, h, hx]
      exact ⟨2, by simp⟩
    · simp [h3, h6, h7, h8, h, hx]
  · simp [h3, h6, h7, h8, hx (by omega), hy (by omega)]
def cmpC (a b : Cur) : Int := if a.seq = b.seq then cmpU a.n b.n else if cmpU a.real b.real = 0 then cmpB a.seq.l b.seq.l else cmpU a.real b.real
theorem cmpc_ev (a b : Cur) : call cx 12 [.agg (Enc.cells a), .agg (Enc.cells b)] [] = some (.int .i64 (cmpC a b), []) := by
  have h1 := cmpu_ev a.n b.n
  have h2 := cmpu_ev a.real b.real
  have h3 := compare_id a.seq b.seq
  have h4 := or_ev (cmpU a.real b.real) (cmpB a.seq.l b.seq.l)
  refine call_run Tryd.func12 rfl ⟨rfl, rfl⟩ ?_
  unfold cmpC
  by_cases h : a.seq = b.seq
  · simp [Tryd.f12, h, h1]
  · simp [Tryd.f12, h, h2, h3, h4]
end Go.Ev.S
/- The order of bytes. -/
namespace Go.Ev
open Go Go.Proofs
theorem cmpB_self : ∀ (x : List UInt8), cmpB x x = 0
  | [] => rfl
  | a :: x => by simp [cmpB, cmpB_self x]
theorem cmpB_swap : ∀ (x y : List UInt8), cmpB y x = - cmpB x y
  | [], [] => rfl
  | [], _ :: _ => rfl
  | _ :: _, [] => rfl
  | a :: x, b :: y => by
    simp only [cmpB]
    by_cases h : a = b
    · subst h; simp [cmpB_swap x y]
    · have h' : ¬ b = a := fun e => h e.symm
      rw [if_neg h, if_neg h']
      by_cases hl : a < b
      · have : ¬ b < a := UInt8.not_lt.2 (UInt8.le_of_lt hl)
        rw [if_pos hl, if_neg this]; rfl
      · have : b < a := UInt8.lt_of_le_of_ne (UInt8.not_lt.1 hl) h'
        rw [if_neg hl, if_pos this]
theorem cmpB_eq : ∀ {x y : List UInt8}, cmpB x y = 0 → x = y
  | [], [], _ => rfl
  | [], _ :: _, h => by simp [cmpB] at h
  | _ :: _, [], h => by simp [cmpB] at h
  | a :: x, b :: y, h => by
    simp only [cmpB] at h
    by_cases e : a = b
    · rw [if_pos e] at h
      rw [e, cmpB_eq h]
    · rw [if_neg e] at h
      split at h <;> simp at h
theorem cmpB_rng : ∀ (x y : List UInt8), cmpB x y = -1 ∨ cmpB x y = 0 ∨ cmpB x y = 1
  | [], [] => by simp [cmpB]
  | [], _ :: _ => by simp [cmpB]
  | _ :: _, [] => by simp [cmpB]
  | a :: x, b :: y => by
    simp only [cmpB]
    split
    · exact cmpB_rng x y
    · split <;> simp
theorem cmpB_trans : ∀ {x y z : List UInt8}, cmpB x y < 0 → cmpB y z < 0 → cmpB x z < 0
  | [], [], _, h, _ => by simp [cmpB] at h
  | [], _ :: _, [], _, h => by simp [cmpB] at h
  | [], _ :: _, _ :: _, _, _ => by simp [cmpB]
  | _ :: _, [], _, h, _ => by simp [cmpB] at h
  | _ :: _, _ :: _, [], _, h => by simp [cmpB] at h
  | a :: x, b :: y, c :: z, h1, h2 => by
    simp only [cmpB] at h1 h2 ⊢
    by_cases e1 : a = b
    · subst e1
      rw [if_pos rfl] at h1
      by_cases e2 : a = c
      · subst e2
        rw [if_pos rfl] at h2 ⊢
        exact cmpB_trans h1 h2
      · rw [if_neg e2] at h2 ⊢
        exact h2
    · rw [if_neg e1] at h1
      have l1 : a < b := by
        by_cases l : a < b
        · exact l
        · rw [if_neg l] at h1; simp at h1
      by_cases e2 : b = c
      · subst e2
        rw [if_neg e1, if_pos l1]
        decide
      · rw [if_neg e2] at h2
        have l2 : b < c := by
          by_cases l : b < c
          · exact l
          · rw [if_neg l] at h2; simp at h2
        have l3 : a < c := UInt8.lt_trans l1 l2
        rw [if_neg (UInt8.ne_of_lt l3), if_pos l3]
        decide
theorem id_of_cmp {a b : ID} (h : cmpB a.l b.l = 0) : a = b := ID.ext' (cmpB_eq h)
end Go.Ev
/- CursorOrder: the law answers true. -/
namespace Go.Ev.S
open Go Go.Proofs Go.Ev
theorem number_ev (n b : Int) : call cx 13 [.int .i64 n, .int .i64 b] [] = some (.int .i64 (if b < 1 then 0 else (IntKind.i64.wrap (n.tmod b + b)).tmod b), []) := by
  refine call_run Tryd.func13 rfl ⟨rfl, rfl⟩ ?_
  by_cases h1 : b < 1
  · simp [Tryd.f13, h1]
  · have h2 : b ≠ 0 := by omega
    simp [Tryd.f13, h1, h2]
theorem cmpU_swap (a b : Int) : cmpU b a = - cmpU a b := by unfold cmpU; split <;> split <;> (try split) <;> omega
theorem cmpU_self (a : Int) : cmpU a a = 0 := by simp [cmpU]
theorem cmpU_rng (a b : Int) : -1 ≤ cmpU a b ∧ cmpU a b ≤ 1 := by unfold cmpU; split <;> (try split) <;> omega
theorem cmpU_lt (a b : Int) : cmpU a b < 0 ↔ a < b := by unfold cmpU; split <;> (try split) <;> omega
theorem cmpU_eq (a b : Int) : cmpU a b = 0 ↔ a = b := by unfold cmpU; split <;> (try split) <;> omega
theorem cmpC_swap (a b : Cur) : cmpC b a = - cmpC a b := by
  unfold cmpC
  by_cases h : a.seq = b.seq
  · simp [h, cmpU_swap a.n b.n]
  · have h' : ¬ b.seq = a.seq := fun e => h e.symm
    have e1 := cmpU_swap a.real b.real
    have e2 := cmpB_swap a.seq.l b.seq.l
    simp only [h, h', if_false, e1, e2]
    by_cases h0 : cmpU a.real b.real = 0
    · simp [h0]
    · have : ¬ - cmpU a.real b.real = 0 := by omega
      simp [h0]
theorem cmpC_self (a : Cur) : cmpC a a = 0 := by simp [cmpC, cmpU_self]
theorem cmpC_rng (a b : Cur) : -1 ≤ cmpC a b ∧ cmpC a b ≤ 1 := by
  unfold cmpC
  have h1 := cmpU_rng a.n b.n
  have h2 := cmpU_rng a.real b.real
  have h3 := cmpB_rng a.seq.l b.seq.l
  split
  · exact h1
  · split
    · omega
    · exact h2
theorem cmpC_seq {a b : Cur} (h : a.seq = b.seq) : cmpC a b < 0 ↔ a.n < b.n := by
  unfold cmpC
  rw [if_pos h, cmpU_lt]
theorem cmpC_real {a b : Cur} (h : ¬ a.seq = b.seq) (hr : ¬ a.real = b.real) : cmpC a b < 0 ↔ a.real < b.real := by
  unfold cmpC
  rw [if_neg h, if_neg (fun e => hr ((cmpU_eq _ _).1 e)), cmpU_lt]
theorem order_ev (a b : Cur) (w : Int) : call cx 3 [.agg (Enc.cells a), .agg (Enc.cells b), .int .i64 w] [] = some (.bool true, []) := by
  have hf := first19_ev
  have hn := number_ev w 2
  refine call_run Tryd.func3 rfl ⟨rfl, rfl⟩ ?_
  simp [Tryd.f3, hf]
  refine Run.loopThen (fun (s : Nat × Cur) e H => s.1 ≤ 3 ∧ H = [some (Enc.cells a), some (Enc.cells s.2)] ∧ look e 2 = some (.int .i64 w) ∧ look e 3 = some (.optr 0 36 0) ∧ look e 4 = some (.optr 1 36 0) ∧ look e 7 = some (.bool true) ∧ look e 8 = some (.int .i64 s.1)) (fun s => 3 - s.1) (0, b) (by simp) ?_
  rintro ⟨i, c⟩ e H ⟨hi, rfl, h2, h3, h4, h7, h8⟩
  simp only at hi h8
  by_cases hlt : i < 3
  · have hlt' : (i : Int) < 3 := by omega
    have hw : IntKind.i64.wrap ((i : Int) + 1) = ((i + 1 : Nat) : Int) := by rw [wrap_i64] <;> omega
    have c1 := cmpc_ev a c
    have c2 := cmpc_ev c a
    have c3 := cmpc_ev a a
    have w1 : IntKind.i64.wrap (- cmpC c a) = cmpC a c := by
      rw [cmpC_swap a c]
      have := cmpC_rng a c
      rw [wrap_i64] <;> omega
    have r1 : ¬ cmpC a c < -1 := by have := cmpC_rng a c; omega
    have r2 : ¬ 1 < cmpC a c := by have := cmpC_rng a c; omega
    rw [cmpC_self] at c3
    have e1 : a.seq = c.seq → (decide (cmpC a c < 0) = decide (a.n < c.n)) := fun h => by rw [decide_eq_decide]; exact cmpC_seq h
    have e2 : ¬ a.seq = c.seq → ¬ a.real = c.real → (decide (cmpC a c < 0) = decide (a.real < c.real)) := fun h h' => by rw [decide_eq_decide]; exact cmpC_real h h'
    have hwn : IntKind.i64.wrap (w.tmod 2 + 2) = w.tmod 2 + 2 := by
      have h1 : w.tmod 2 < 2 := Int.tmod_lt_of_pos _ (by omega)
      have h2 : -2 < w.tmod 2 := by
        have := Int.tmod_lt_of_pos (-w) (show (0 : Int) < 2 by omega)
        rw [Int.neg_tmod] at this
        omega
      rw [wrap_i64]; omega
    rw [if_neg (by decide), hwn] at hn
    clear hwn
    by_cases hs : a.seq = c.seq
    · have e1 := e1 hs
      by_cases hz : (w.tmod 2 + 2).tmod 2 = 0
      · simp [h2, h3, h4, h7, h8, hlt', c1, c2, c3, w1, r1, r2, hs, e1, hn, hz, hw]
        exact ⟨i + 1, by omega, by omega, ⟨_, rfl⟩, by simp⟩
      · simp [h2, h3, h4, h7, h8, hlt', c1, c2, c3, w1, r1, r2, hs, e1, hn, hz, hw]
        exact ⟨i + 1, by omega, by omega, ⟨_, rfl⟩, by simp⟩
    · by_cases hr : a.real = c.real
      · by_cases hz : (w.tmod 2 + 2).tmod 2 = 0
        · simp [h2, h3, h4, h7, h8, hlt', c1, c2, c3, w1, r1, r2, hs, hr, hn, hz, hw]
          exact ⟨i + 1, by omega, by omega, ⟨_, rfl⟩, by simp⟩
        · simp [h2, h3, h4, h7, h8, hlt', c1, c2, c3, w1, r1, r2, hs, hr, hn, hz, hw]
          exact ⟨i + 1, by omega, by omega, ⟨_, rfl⟩, by simp⟩
      · have e2 := e2 hs hr
        by_cases hz : (w.tmod 2 + 2).tmod 2 = 0
        · simp [h2, h3, h4, h7, h8, hlt', c1, c2, c3, w1, r1, r2, hs, hr, e2, hn, hz, hw]
          exact ⟨i + 1, by omega, by omega, ⟨_, rfl⟩, by simp⟩
        · simp [h2, h3, h4, h7, h8, hlt', c1, c2, c3, w1, r1, r2, hs, hr, e2, hn, hz, hw]
          exact ⟨i + 1, by omega, by omega, ⟨_, rfl⟩, by simp⟩
  · have hlt' : ¬ (i : Int) < 3 := by omega
    simp [h2, h3, h4, h7, h8, hlt']
end Go.Ev.S
/- What arguments of this program's types are. -/
namespace Go.Ev.S
open Go Go.Proofs Go.Ev
theorem has_ID {n : Nat} {cs : List D} (h : HasT Tryd.prog (n + 2) 23 cs) : ∃ i : ID, cs = ofBytes i.l := has_id un23 un5 h
structure CurOk (c : Cur) : Prop where
  n : isU64 c.n
  mono : isU64 c.mono
  real : isU64 c.real
  xor : isU64 c.xor
theorem has_Cur {n : Nat} {cs : List D} (h : HasT Tryd.prog (n + 2 + 1) 26 cs) : ∃ m : Cur, cs = Enc.cells m ∧ CurOk m := by
  have h := has_struct (P := Tryd.prog) (n := n + 2) (t := 26) Tryd.underlying26 h
  simp only [HasFs] at h
  obtain ⟨a, b, rfl, -, ha, c, d, rfl, -, hc, e, f, rfl, -, he, g, k, rfl, -, hg, a2, b2, rfl, -, h2, a3, b3, rfl, -, h3, rfl⟩ := h
  obtain ⟨id, rfl⟩ := has_ID ha
  obtain ⟨x1, rfl, w1⟩ := has_u64 un24 hc
  obtain ⟨id2, rfl⟩ := has_ID he
  obtain ⟨x2, rfl, w2⟩ := has_u64 un24 hg
  obtain ⟨x3, rfl, w3⟩ := has_u64 un24 h2
  obtain ⟨x4, rfl, w4⟩ := has_u64 un24 h3
  exact ⟨⟨id, x1, id2, x2, x3, x4⟩, by simp [Cur.cells], ⟨w1, w2, w3, w4⟩⟩
end Go.Ev.S
/- Package-level variables that are laid: what they read as. -/
namespace Go.Ev
open Go Go.Proofs Go.RowKit Go.ChangeShapes
theorem addr_add_zero (a : Addr) : a.add 0 = a := by
  obtain ⟨b, o, p⟩ := a
  cases p <;> simp [Addr.add]
theorem rep_tab {P : Program} {W : World} {name : String} {k : IntKind} {zs : List Int} {g : Nat} (h : Lib.TabIs P W name k zs) (hg : P.globalNamed name = some g) :
    Rep (· < W.heap.size) W iota0 [] (.vptr (zs.map (.int k))) (.pointer (some ⟨g, 0, none⟩)) := by
  have hc : ∀ i, i < zs.length → W.cell? ⟨g, i, none⟩ = some (.int k (zs.getD i 0)) := fun i hi => h.cell hg i hi
  refine .vptr _ (fun j => .int k (zs.getD j 0)) (fun d hd => ?_) (fun d hd => ?_) (fun j d hj => ?_) (fun j d hj => ?_)
  · obtain ⟨j, hj⟩ := List.mem_iff_getElem?.1 hd
    have hlt : j < zs.length := by
      have := (List.getElem?_eq_some_iff.1 hj).1
      simpa using this
    have := cell_lt (hc j hlt)
    exact this
  · obtain ⟨z, _, rfl⟩ := List.mem_map.1 hd
    rfl
  · have hlt : j < zs.length := by
      have := (List.getElem?_eq_some_iff.1 hj).1
      simpa using this
    rw [addr_add, Nat.zero_add]
    exact hc j hlt
  · have hlt : j < zs.length := by
      have := (List.getElem?_eq_some_iff.1 hj).1
      simpa using this
    rw [List.getElem?_map, List.getElem?_eq_getElem hlt, Option.map_some, Option.some.injEq] at hj
    subst hj
    rw [List.getD_eq_getElem?_getD, List.getElem?_eq_getElem hlt, Option.getD_some]
    exact .int k _
theorem rep_err {P : Program} {W : World} {name : String} {g : Nat} {tp : TypeId} {text : List UInt8} (hg : P.globalNamed name = some g)
    (h : ∃ (a : Addr) (s : ByteArray), W.var? P name = some #[.iface tp (.pointer (some a))] ∧ W.cell? a = some (.string s) ∧ s.data.toList = text ∧ s.size ≤ maxLen) :
    Rep (· < W.heap.size) W iota0 [] (.vptr [.iface tp (.vptr [.str text])]) (.pointer (some ⟨g, 0, none⟩)) := by
  obtain ⟨a, s, hv, hc, rfl, _⟩ := h
  have hcell : W.cell? ⟨g, 0, none⟩ = some (.iface tp (.pointer (some a))) := by
    have := World.var?_cell hg hv 0
    simpa using this
  have one : ∀ {d e : D} {j : Nat}, [e][j]? = some d → j = 0 ∧ d = e := fun {d e j} hj => by
    cases j with
    | zero => simp at hj; exact ⟨rfl, hj.symm⟩
    | succ j => simp at hj
  have hin : Rep (· < W.heap.size) W iota0 [] (.vptr [.str s.data.toList]) (.pointer (some a)) := by
    refine .vptr a (fun _ => .string s) (fun d hd => cell_lt hc) (fun d hd => by rw [List.mem_singleton.1 hd]; rfl) (fun j d hj => ?_) (fun j d hj => ?_)
    · obtain ⟨rfl, rfl⟩ := one hj
      rw [addr_add_zero]
      exact hc
    · obtain ⟨rfl, rfl⟩ := one hj
      have := Rep.str (ok := (· < W.heap.size)) (w := W) (ι := iota0) (H := []) s.data.toList
      simpa using this
  refine .vptr _ (fun _ => .iface tp (.pointer (some a))) (fun d hd => cell_lt hcell) (fun d hd => by rw [List.mem_singleton.1 hd]; rfl) (fun j d hj => ?_) (fun j d hj => ?_)
  · obtain ⟨rfl, rfl⟩ := one hj
    rw [addr_add_zero]
    exact hcell
  · obtain ⟨rfl, rfl⟩ := one hj
    exact .iface hin
end Go.Ev
namespace Go.Ev.S
open Go Go.Proofs Go.Ev
theorem globs {W : World} (h : laidMet Tryd.prog YtaponndjgdfkbaaDoor.Rows.cursorOrderRow.laid W) : ∀ g cs, cx.glob g = some cs → Rep (· < W.heap.size) W iota0 [] (.vptr cs) (.pointer (some ⟨g, 0, none⟩)) := by
  unfold YtaponndjgdfkbaaDoor.Rows.cursorOrderRow at h
  have t4 := rep_tab (g := 4) (zs := gz4) (Lib.tabIs_of_head (g := 4) (t := 166) (e := 5) (n := 32) (k := .u8) (by kernel_rfl) (by kernel_rfl) (by kernel_rfl) (by kernel_rfl) (by kernel_rfl) (by kernel_rfl) h) (by kernel_rfl)
  replace h := h.tail
  have t5 := rep_tab (g := 5) (zs := gz5) (Lib.tabIs_of_head (g := 5) (t := 167) (e := 5) (n := 64) (k := .u8) (by kernel_rfl) (by kernel_rfl) (by kernel_rfl) (by kernel_rfl) (by kernel_rfl) (by kernel_rfl) h) (by kernel_rfl)
  replace h := h.tail
  have t1 := rep_tab (g := 1) (zs := gz1) (Lib.tabIs_of_head (g := 1) (t := 148) (e := 24) (n := 20) (k := .u64) (by kernel_rfl) (by kernel_rfl) (by kernel_rfl) (by kernel_rfl) (by kernel_rfl) (by kernel_rfl) h) (by kernel_rfl)
  intro g cs hg
  have hgl : globT g = some cs := hg
  unfold globT at hgl
  split at hgl
  · cases hgl; exact t1
  · cases hgl; exact t4
  · cases hgl; exact t5
  · cases hgl
end Go.Ev.S
