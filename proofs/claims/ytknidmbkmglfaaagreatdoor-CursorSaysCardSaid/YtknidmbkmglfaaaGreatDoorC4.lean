import Derived.Test.YtknidmbkmglfaaaGreatDoorC3
import Derived.Test.YtknidmbkmglfaaaGreatDoorRows
/- What the evaluator needs of this program: printed by program. -/
namespace Go.Ev.S
open Go Go.Proofs Go.Ev
def kf3 : Nat → Option (List Nat × Nat)
  | 0 => some ([0, 1, 2, 3], 0)
  | 1 => some ([0, 5, 6, 7], 0)
  | 2 => some ([0, 5, 6, 7, 9], 0)
  | 3 => some ([], 0)
  | 4 => some ([0, 5, 6, 7, 9], 0)
  | 5 => some ([9], 0)
  | 6 => some ([0, 5, 6, 7, 9], 0)
  | 7 => some ([0, 5, 6, 7, 9, 10], 0)
  | 8 => some ([0, 5, 6, 7, 9, 10], 0)
  | 9 => some ([0, 5, 6, 7, 9, 10], 0)
  | 10 => some ([], 0)
  | 11 => some ([0, 5, 6, 7, 9], 0)
  | 12 => some ([0, 5, 6, 7, 9, 11, 12], 0)
  | 13 => some ([0, 5, 6, 7, 9, 11, 12, 13, 14], 0)
  | 14 => some ([0, 5, 6, 7, 9, 11, 12, 13, 14, 15, 16], 0)
  | 15 => some ([0, 5, 6, 7, 9, 11, 12, 13, 14, 15, 16, 17, 18], 0)
  | 16 => some ([0, 5, 6, 7, 9, 11, 12, 13, 14, 15, 16, 17, 18, 19, 20], 0)
  | 17 => some ([5, 6, 7, 9, 11, 12, 13, 14, 15, 16, 17, 18, 19, 20, 21, 22], 0)
  | _ => none
def kf4 : Nat → Option (List Nat × Nat)
  | 0 => some ([], 0)
  | 1 => some ([], 0)
  | 2 => some ([1], 0)
  | _ => none
def kf5 : Nat → Option (List Nat × Nat)
  | 0 => some ([0], 0)
  | 1 => some ([0, 2], 0)
  | 2 => some ([0, 2, 4], 0)
  | 3 => some ([0, 2, 4, 13, 14, 15], 5)
  | 4 => some ([0, 2, 4, 13, 14, 15], 0)
  | 5 => some ([0, 2, 4, 6, 13, 14, 15], 0)
  | 6 => some ([0, 2, 4, 8, 13, 14, 15], 0)
  | 7 => some ([0, 2, 4, 13, 14, 15], 0)
  | 8 => some ([0, 2, 4], 0)
  | 9 => some ([2], 0)
  | 10 => some ([0, 2, 4], 0)
  | 11 => some ([0, 2, 4, 10], 0)
  | 12 => some ([0, 2, 4, 11], 0)
  | 13 => some ([0, 2, 4, 11], 0)
  | 14 => some ([0, 2, 11], 0)
  | 15 => some ([2], 0)
  | 16 => some ([2, 11], 0)
  | _ => none
def kf6 : Nat → Option (List Nat × Nat)
  | 0 => some ([0], 0)
  | 1 => some ([0, 2], 0)
  | 2 => some ([0, 2, 4], 0)
  | 3 => some ([0, 2, 4, 5], 0)
  | 4 => some ([0, 2, 4, 5, 6], 4)
  | 5 => some ([0, 2, 4, 5, 6], 0)
  | 6 => some ([0, 2, 4, 5, 6], 0)
  | 7 => some ([0, 2, 4, 5, 6], 0)
  | 8 => some ([0, 2, 4, 6], 0)
  | 9 => some ([0, 2, 4, 5, 6], 0)
  | 10 => some ([0, 2, 4, 5], 0)
  | 11 => some ([0, 2, 4], 0)
  | 12 => some ([2], 0)
  | 13 => some ([0, 2, 4], 0)
  | 14 => some ([0, 2, 4, 7], 0)
  | 15 => some ([0, 2, 4, 7], 0)
  | 16 => some ([0, 2, 4, 7], 0)
  | 17 => some ([2], 0)
  | 18 => some ([0, 2, 4], 0)
  | 19 => some ([0, 2, 4, 8], 0)
  | 20 => some ([0, 2, 4, 8, 9], 0)
  | 21 => some ([0, 2, 4, 8, 9], 0)
  | 22 => some ([0, 2, 4, 8, 9], 0)
  | 23 => some ([0, 2, 4, 8, 9], 0)
  | 24 => some ([0, 2, 4, 8, 9], 0)
  | 25 => some ([0, 2, 4, 8, 9], 0)
  | 26 => some ([0, 2, 8, 9], 0)
  | 27 => some ([2], 0)
  | 28 => some ([2, 8], 0)
  | _ => none
def kf7 : Nat → Option (List Nat × Nat)
  | 0 => some ([0], 0)
  | 1 => some ([0, 2], 0)
  | 2 => some ([0, 2, 4], 0)
  | 3 => some ([2], 0)
  | 4 => some ([0, 2, 4], 0)
  | 5 => some ([0, 2, 4, 12, 13], 0)
  | 6 => some ([0, 2, 4, 12, 13], 0)
  | 7 => some ([0, 2, 4, 5, 12, 13], 0)
  | 8 => some ([0, 2, 4, 5, 6, 12, 13], 0)
  | 9 => some ([2], 0)
  | 10 => some ([0, 2, 4, 5, 6, 12, 13], 0)
  | 11 => some ([0, 2, 4, 12, 13], 0)
  | 12 => some ([2, 4], 0)
  | _ => none
def kf8 : Nat → Option (List Nat × Nat)
  | 0 => some ([0], 0)
  | 1 => some ([0, 2], 0)
  | 2 => some ([0, 2, 4], 0)
  | 3 => some ([2, 4], 0)
  | 4 => some ([0, 2, 4], 0)
  | 5 => some ([0, 2, 4, 5], 0)
  | 6 => some ([0, 2, 4, 5], 0)
  | 7 => some ([0, 2, 4, 5], 0)
  | 8 => some ([0, 2, 4, 5, 6, 7], 0)
  | 9 => some ([2], 0)
  | 10 => some ([0, 2, 4, 5, 6, 7], 0)
  | 11 => some ([2, 4], 0)
  | _ => none
def kf9 : Nat → Option (List Nat × Nat)
  | 0 => some ([0], 0)
  | 1 => some ([0], 0)
  | 2 => some ([0, 4, 5], 0)
  | 3 => some ([], 0)
  | 4 => some ([4], 0)
  | _ => none
def kf10 : Nat → Option (List Nat × Nat)
  | 0 => some ([0], 0)
  | 1 => some ([0], 0)
  | 2 => some ([], 0)
  | 3 => some ([0], 0)
  | _ => none
def kf11 : Nat → Option (List Nat × Nat)
  | 0 => some ([0], 0)
  | 1 => some ([1, 2], 0)
  | _ => none
def kf12 : Nat → Option (List Nat × Nat)
  | 0 => some ([0], 0)
  | 1 => some ([1], 0)
  | 2 => some ([1, 3], 0)
  | _ => none
def kf13 : Nat → Option (List Nat × Nat)
  | 0 => some ([0], 0)
  | 1 => some ([1], 0)
  | _ => none
def kf14 : Nat → Option (List Nat × Nat)
  | 0 => some ([0, 1], 0)
  | 1 => some ([2, 3, 4], 0)
  | 2 => some ([2, 3, 4, 5], 0)
  | 3 => some ([2, 3, 4, 5, 9, 10, 11], 6)
  | 4 => some ([2, 3, 4, 5, 9, 10, 11], 0)
  | 5 => some ([2, 3, 4, 5, 7, 9, 10, 11], 0)
  | 6 => some ([2, 3, 4, 5, 9, 10, 11], 0)
  | 7 => some ([2, 3, 4, 5], 0)
  | _ => none
def kf15 : Nat → Option (List Nat × Nat)
  | 0 => some ([0, 1], 0)
  | 1 => some ([2, 3, 4], 0)
  | _ => none
def kf16 : Nat → Option (List Nat × Nat)
  | 0 => some ([0, 1], 0)
  | 1 => some ([2, 3], 0)
  | 2 => some ([2, 3], 0)
  | 3 => some ([2, 3], 0)
  | _ => none
def kf17 : Nat → Option (List Nat × Nat)
  | 0 => some ([0, 1], 0)
  | 1 => some ([2, 3], 0)
  | 2 => some ([2, 3], 0)
  | 3 => some ([2, 3], 0)
  | 4 => some ([2, 3], 0)
  | 5 => some ([2, 3], 0)
  | _ => none
def kf18 : Nat → Option (List Nat × Nat)
  | 0 => some ([0], 0)
  | 1 => some ([1], 0)
  | 2 => some ([1, 3], 0)
  | 3 => some ([6, 7], 0)
  | 4 => some ([3, 6, 7], 0)
  | 5 => some ([3, 5, 6, 7], 0)
  | 6 => some ([3, 6, 7], 0)
  | 7 => some ([3], 0)
  | _ => none
def kf19 : Nat → Option (List Nat × Nat)
  | 0 => some ([0], 0)
  | 1 => some ([1], 0)
  | 2 => some ([1, 3], 0)
  | 3 => some ([1, 3, 4], 0)
  | 4 => some ([1, 3, 4], 0)
  | 5 => some ([1, 3, 4], 0)
  | 6 => some ([3], 0)
  | _ => none
def kf20 : Nat → Option (List Nat × Nat)
  | 0 => some ([0], 0)
  | 1 => some ([0], 0)
  | 2 => some ([3], 0)
  | _ => none
def kf21 : Nat → Option (List Nat × Nat)
  | 0 => some ([0], 0)
  | 1 => some ([0], 0)
  | 2 => some ([0, 3], 0)
  | 3 => some ([0, 3, 4], 0)
  | 4 => some ([0, 3, 4], 0)
  | 5 => some ([0, 3, 4], 0)
  | 6 => some ([0, 3, 4], 0)
  | 7 => some ([3], 0)
  | _ => none
def kf22 : Nat → Option (List Nat × Nat)
  | 0 => some ([0, 1], 0)
  | 1 => some ([0, 1], 0)
  | _ => none
def kf23 : Nat → Option (List Nat × Nat)
  | 0 => some ([0, 1], 0)
  | 1 => some ([0, 1], 0)
  | _ => none
def kf24 : Nat → Option (List Nat × Nat)
  | 0 => some ([0, 1], 0)
  | 1 => some ([0, 1], 0)
  | 2 => some ([4, 5], 0)
  | 3 => some ([], 0)
  | 4 => some ([4], 0)
  | _ => none
def kf25 : Nat → Option (List Nat × Nat)
  | 0 => some ([0, 1, 2], 0)
  | 1 => some ([0, 1, 2], 0)
  | 2 => some ([0, 1, 2, 8, 9], 0)
  | 3 => some ([0, 1, 2, 8, 9], 0)
  | 4 => some ([8], 0)
  | _ => none
def kf26 : Nat → Option (List Nat × Nat)
  | 0 => some ([0], 0)
  | 1 => some ([0], 0)
  | 2 => some ([0, 4], 0)
  | 3 => some ([0, 4, 5], 0)
  | 4 => some ([0, 4, 5], 0)
  | 5 => some ([0, 4, 5], 0)
  | 6 => some ([0, 4, 5, 6], 0)
  | 7 => some ([], 0)
  | 8 => some ([0, 4, 5, 6], 0)
  | 9 => some ([0, 4], 0)
  | _ => none
def kf27 : Nat → Option (List Nat × Nat)
  | 0 => some ([0, 1], 0)
  | 1 => some ([0, 1], 0)
  | _ => none
def kf28 : Nat → Option (List Nat × Nat)
  | 0 => some ([0], 0)
  | 1 => some ([0], 0)
  | 2 => some ([0, 3], 0)
  | 3 => some ([0, 3], 0)
  | 4 => some ([0, 3], 0)
  | 5 => some ([3], 0)
  | 6 => some ([], 0)
  | _ => none
def kf29 : Nat → Option (List Nat × Nat)
  | 0 => some ([0], 0)
  | 1 => some ([0], 0)
  | _ => none
def kf30 : Nat → Option (List Nat × Nat)
  | 0 => some ([0, 1], 0)
  | 1 => some ([0, 1], 0)
  | _ => none
def kf31 : Nat → Option (List Nat × Nat)
  | 0 => some ([0], 0)
  | 1 => some ([0], 0)
  | 2 => some ([3], 0)
  | 3 => some ([3], 0)
  | 4 => some ([3], 0)
  | _ => none
def kf32 : Nat → Option (List Nat × Nat)
  | 0 => some ([0], 0)
  | 1 => some ([0], 0)
  | 2 => some ([0, 3], 0)
  | 3 => some ([3, 6, 7, 8], 0)
  | 4 => some ([3, 6, 7, 8], 0)
  | 5 => some ([3, 5, 6, 7, 8], 0)
  | 6 => some ([3, 6, 7, 8], 0)
  | 7 => some ([3], 0)
  | _ => none
def kf33 : Nat → Option (List Nat × Nat)
  | 0 => some ([0], 0)
  | 1 => some ([0], 0)
  | 2 => some ([0, 3], 0)
  | 3 => some ([0, 3, 4], 0)
  | 4 => some ([0, 3, 4], 0)
  | 5 => some ([0, 3, 4], 0)
  | 6 => some ([3], 0)
  | _ => none
def kf34 : Nat → Option (List Nat × Nat)
  | 0 => some ([0, 1], 0)
  | 1 => some ([0, 1], 0)
  | 2 => some ([0, 1, 5], 0)
  | 3 => some ([0, 1, 5, 6], 0)
  | 4 => some ([6], 0)
  | 5 => some ([], 0)
  | 6 => some ([], 0)
  | 7 => some ([0, 1, 6], 0)
  | 8 => some ([], 0)
  | 9 => some ([0, 1], 0)
  | 10 => some ([], 0)
  | 11 => some ([0, 1], 0)
  | 12 => some ([], 0)
  | 13 => some ([], 0)
  | _ => none
def kf35 : Nat → Option (List Nat × Nat)
  | 0 => some ([0], 0)
  | 1 => some ([0], 0)
  | 2 => some ([0, 3], 0)
  | 3 => some ([3, 6, 7, 8], 0)
  | 4 => some ([3, 6, 7, 8], 0)
  | 5 => some ([3, 5, 6, 7, 8], 0)
  | 6 => some ([5], 0)
  | 7 => some ([3, 6, 7, 8], 0)
  | 8 => some ([3], 0)
  | _ => none
def kf36 : Nat → Option (List Nat × Nat)
  | 0 => some ([0, 1], 0)
  | 1 => some ([0, 1], 0)
  | _ => none
def kf37 : Nat → Option (List Nat × Nat)
  | 0 => some ([0, 1], 0)
  | 1 => some ([0, 1], 0)
  | 2 => some ([], 0)
  | 3 => some ([0, 1], 0)
  | 4 => some ([], 0)
  | 5 => some ([], 0)
  | _ => none
def kf38 : Nat → Option (List Nat × Nat)
  | 0 => some ([0, 1], 0)
  | 1 => some ([2, 3], 0)
  | 2 => some ([2, 3, 5], 0)
  | 3 => some ([2, 3, 5], 0)
  | 4 => some ([2, 3, 5], 0)
  | 5 => some ([2, 3, 5], 0)
  | 6 => some ([], 0)
  | _ => none
def kf40 : Nat → Option (List Nat × Nat)
  | 0 => some ([0, 1, 2, 3], 0)
  | 1 => some ([0, 1, 2, 3], 0)
  | 2 => some ([], 0)
  | 3 => some ([0, 1, 2, 3], 0)
  | 4 => some ([0, 3], 0)
  | 5 => some ([0, 1, 2, 3], 0)
  | 6 => some ([0, 1, 2], 0)
  | 7 => some ([0, 1, 2, 3], 0)
  | 8 => some ([0, 1, 2, 3], 0)
  | 9 => some ([0, 1, 2, 3, 9], 0)
  | 10 => some ([0, 1, 2, 3, 9], 0)
  | 11 => some ([0, 1, 2, 3, 9, 10], 0)
  | 12 => some ([0, 1, 2, 3, 9, 10], 0)
  | 13 => some ([0, 1, 2, 3, 9, 10, 11], 0)
  | 14 => some ([0, 1, 2, 3, 9, 10, 11], 0)
  | 15 => some ([0, 1, 2, 3, 9, 10, 11], 0)
  | 16 => some ([0, 1, 2, 3, 9, 10], 0)
  | 17 => some ([0, 9, 10], 0)
  | 18 => some ([9, 10], 0)
  | _ => none
def kf41 : Nat → Option (List Nat × Nat)
  | 0 => some ([0, 1], 0)
  | 1 => some ([0, 1], 0)
  | 2 => some ([0, 1, 7], 0)
  | 3 => some ([0, 1, 7], 0)
  | 4 => some ([0], 0)
  | _ => none
def kf42 : Nat → Option (List Nat × Nat)
  | 0 => some ([0, 1, 2], 0)
  | 1 => some ([0, 1, 2], 0)
  | 2 => some ([], 0)
  | 3 => some ([0, 1, 2], 0)
  | 4 => some ([0, 1, 2, 8], 0)
  | 5 => some ([], 0)
  | 6 => some ([0, 1, 2, 8, 9], 0)
  | 7 => some ([0, 1, 2, 8, 9], 0)
  | 8 => some ([0, 2, 8, 9], 0)
  | 9 => some ([0, 1, 2, 8, 9], 0)
  | 10 => some ([0, 2, 8, 9], 0)
  | 11 => some ([0, 1, 2, 8, 9], 0)
  | 12 => some ([0, 2, 8, 9], 0)
  | 13 => some ([0, 2, 8, 9], 0)
  | 14 => some ([0, 1, 2, 8, 9], 0)
  | 15 => some ([0, 2, 8, 9], 0)
  | 16 => some ([0, 2, 8, 9], 0)
  | 17 => some ([0, 1, 2, 8, 9], 0)
  | 18 => some ([0, 2, 8, 9], 0)
  | 19 => some ([0, 2, 8, 9], 0)
  | 20 => some ([0, 1, 2, 8, 9], 0)
  | 21 => some ([0, 1, 2, 8, 9], 0)
  | 22 => some ([0, 1, 8, 9], 0)
  | 23 => some ([0, 1, 2, 8, 9], 0)
  | 24 => some ([], 0)
  | 25 => some ([0, 1, 2, 8, 9], 0)
  | 26 => some ([0, 1, 2, 8, 9], 0)
  | 27 => some ([0, 1, 2, 8, 9], 0)
  | 28 => some ([0, 1, 2, 8, 9, 85], 0)
  | 29 => some ([0, 1, 2, 8, 9], 0)
  | 30 => some ([0, 1, 2, 8, 9, 85], 0)
  | 31 => some ([0, 1, 2, 8, 9], 0)
  | 32 => some ([0, 1, 2, 8, 9, 10], 0)
  | 33 => some ([0, 1, 8, 9, 10, 11], 0)
  | 34 => some ([0, 1, 8, 9, 10, 11, 12], 0)
  | 35 => some ([0, 1, 8, 9, 10, 11, 12, 13], 0)
  | 36 => some ([1, 8, 9, 10, 11, 12, 13, 99, 100, 101], 0)
  | 37 => some ([1, 8, 9, 10, 11, 12, 13, 99, 100, 101], 0)
  | 38 => some ([1, 8, 9, 10, 11, 12, 13, 15, 99, 100, 101], 0)
  | 39 => some ([], 0)
  | 40 => some ([1, 8, 9, 10, 11, 12, 13, 15, 99, 100, 101], 0)
  | 41 => some ([1, 8, 9, 10, 11, 13, 99, 100, 101], 0)
  | 42 => some ([1, 8, 9, 10, 11, 12, 13, 15, 99, 100, 101], 0)
  | 43 => some ([1, 8, 9, 10, 11, 12, 13, 15, 99, 100, 101], 0)
  | 44 => some ([1, 8, 9, 10, 11, 12, 13, 15, 99, 100, 101], 0)
  | 45 => some ([1, 8, 9, 10, 11, 12, 13, 15, 99, 100, 101], 0)
  | 46 => some ([1, 8, 9, 10, 11, 12, 13, 16, 99, 100, 101], 0)
  | 47 => some ([], 0)
  | 48 => some ([1, 8, 9, 10, 11, 12, 13, 16, 99, 100, 101], 0)
  | 49 => some ([11], 0)
  | 50 => some ([1, 8, 9, 10, 11, 12, 13, 16, 99, 100, 101], 0)
  | 51 => some ([1, 8, 9, 10, 11, 12, 13, 16, 99, 100, 101], 0)
  | 52 => some ([1, 8, 9, 10, 11, 12, 13, 17, 99, 100, 101], 0)
  | 53 => some ([11], 0)
  | 54 => some ([1, 8, 9, 10, 11, 12, 17, 99, 100, 101], 0)
  | 55 => some ([1, 8, 9, 10, 11, 12, 13, 99, 100, 101], 0)
  | 56 => some ([9, 12, 13], 0)
  | 57 => some ([], 0)
  | 58 => some ([13], 0)
  | _ => none
def kf43 : Nat → Option (List Nat × Nat)
  | 0 => some ([0, 1, 2, 3, 4], 0)
  | 1 => some ([0, 1, 2, 3, 4], 0)
  | 2 => some ([0, 1, 2, 3, 4, 11], 0)
  | 3 => some ([0, 1], 0)
  | 4 => some ([0, 1, 2, 3, 4, 11], 0)
  | 5 => some ([0, 1], 0)
  | 6 => some ([0, 1, 2, 3, 4, 11], 0)
  | 7 => some ([0, 1, 2], 0)
  | 8 => some ([0, 1, 3, 4, 11], 0)
  | 9 => some ([0, 1, 3], 0)
  | 10 => some ([4], 0)
  | _ => none
def kf44 : Nat → Option (List Nat × Nat)
  | 0 => some ([0, 1], 0)
  | 1 => some ([0, 1], 0)
  | _ => none
def kf45 : Nat → Option (List Nat × Nat)
  | 0 => some ([0, 1], 0)
  | 1 => some ([0, 1], 0)
  | 2 => some ([0], 0)
  | 3 => some ([0], 0)
  | 4 => some ([0], 0)
  | 5 => some ([0, 5], 0)
  | 6 => some ([0, 5, 6], 0)
  | 7 => some ([5, 6], 0)
  | 8 => some ([0, 1], 0)
  | 9 => some ([8], 0)
  | _ => none
def kf46 : Nat → Option (List Nat × Nat)
  | 0 => some ([0], 0)
  | 1 => some ([0], 0)
  | 2 => some ([0, 3], 0)
  | 3 => some ([0, 4], 0)
  | 4 => some ([0, 4], 0)
  | 5 => some ([0, 4], 0)
  | 6 => some ([0, 4], 0)
  | 7 => some ([0, 4], 0)
  | 8 => some ([0, 4], 0)
  | 9 => some ([0, 4, 5], 0)
  | 10 => some ([4, 5], 0)
  | 11 => some ([4], 0)
  | 12 => some ([4], 0)
  | _ => none
def kf47 : Nat → Option (List Nat × Nat)
  | 0 => some ([0], 0)
  | 1 => some ([0], 0)
  | 2 => some ([0, 3], 0)
  | 3 => some ([0, 3, 4, 5], 0)
  | 4 => some ([4, 5], 0)
  | 5 => some ([0, 3, 4, 5], 0)
  | 6 => some ([0, 3, 4, 5, 6], 0)
  | 7 => some ([0, 3, 4, 5, 6], 0)
  | 8 => some ([0, 3, 4, 5, 6], 0)
  | 9 => some ([0, 3, 4, 5, 6], 0)
  | 10 => some ([0, 3, 4, 5, 6], 0)
  | 11 => some ([0, 3, 4, 5, 6], 0)
  | 12 => some ([0, 3, 4, 5, 6], 0)
  | 13 => some ([0, 3, 4, 5, 6], 0)
  | 14 => some ([0, 3, 4, 5, 6], 0)
  | 15 => some ([0, 3, 4, 5, 6], 0)
  | 16 => some ([0, 3, 4, 5, 6], 0)
  | 17 => some ([0, 3, 4, 5, 6], 0)
  | 18 => some ([0, 3, 4, 5, 6], 0)
  | 19 => some ([0, 3, 4, 5, 6], 0)
  | 20 => some ([0, 3, 4, 5, 6], 0)
  | 21 => some ([0, 3, 4, 5, 6], 0)
  | 22 => some ([0, 3, 4, 5, 6], 0)
  | 23 => some ([0, 3, 4, 5, 6], 0)
  | 24 => some ([0, 3, 4, 5, 6], 0)
  | 25 => some ([0, 3, 4, 5, 6], 0)
  | 26 => some ([0, 3, 4, 5, 6], 0)
  | 27 => some ([0, 3, 4, 5, 6], 0)
  | 28 => some ([3, 4, 5], 0)
  | 29 => some ([3, 4, 5], 0)
  | 30 => some ([3, 4, 5], 0)
  | 31 => some ([3, 4, 5], 0)
  | 32 => some ([3, 4, 5], 0)
  | 33 => some ([3, 4, 5], 0)
  | 34 => some ([3, 4, 5], 0)
  | 35 => some ([3, 4, 5], 0)
  | 36 => some ([3, 4, 5], 0)
  | 37 => some ([3, 4, 5], 0)
  | 38 => some ([3, 4, 5], 0)
  | 39 => some ([3, 4, 5], 0)
  | 40 => some ([4, 5], 0)
  | 41 => some ([4, 5], 0)
  | 42 => some ([4, 5], 0)
  | _ => none
def kf48 : Nat → Option (List Nat × Nat)
  | 0 => some ([0], 0)
  | 1 => some ([1], 0)
  | _ => none
def kf49 : Nat → Option (List Nat × Nat)
  | 0 => some ([0], 0)
  | 1 => some ([0], 0)
  | _ => none
def kf57 : Nat → Option (List Nat × Nat)
  | 0 => some ([0, 1], 0)
  | 1 => some ([0, 1], 0)
  | 2 => some ([0, 1, 5], 0)
  | 3 => some ([0, 5], 0)
  | 4 => some ([0, 1], 0)
  | 5 => some ([0, 1, 6], 0)
  | 6 => some ([0, 1, 6, 7], 0)
  | 7 => some ([0, 1, 6, 7], 0)
  | 8 => some ([0, 1, 6, 7], 0)
  | 9 => some ([0, 1, 6, 7, 9], 0)
  | 10 => some ([0, 1, 6, 7, 9], 0)
  | 11 => some ([0, 1, 6], 0)
  | 12 => some ([0, 1, 6], 0)
  | 13 => some ([6], 0)
  | _ => none
def kf58 : Nat → Option (List Nat × Nat)
  | 0 => some ([0, 1], 0)
  | 1 => some ([0, 1], 0)
  | 2 => some ([0], 0)
  | 3 => some ([0, 1], 0)
  | 4 => some ([0, 1], 0)
  | 5 => some ([0, 1], 0)
  | 6 => some ([0, 1, 5], 0)
  | 7 => some ([0, 1, 5, 6], 0)
  | 8 => some ([5], 0)
  | 9 => some ([0, 1, 5, 6], 0)
  | 10 => some ([0, 1, 5, 6], 0)
  | _ => none
def kf59 : Nat → Option (List Nat × Nat)
  | 0 => some ([0, 1], 0)
  | 1 => some ([0, 1], 0)
  | _ => none
def kf61 : Nat → Option (List Nat × Nat)
  | 0 => some ([0], 0)
  | 1 => some ([0], 0)
  | _ => none
def kf62 : Nat → Option (List Nat × Nat)
  | 0 => some ([0], 0)
  | 1 => some ([0], 0)
  | 2 => some ([0, 3], 0)
  | 3 => some ([0, 3, 4], 0)
  | 4 => some ([0, 3, 4], 0)
  | 5 => some ([0, 3, 4], 0)
  | 6 => some ([0, 3, 4, 5], 0)
  | 7 => some ([0], 0)
  | 8 => some ([0, 4], 0)
  | 9 => some ([0, 3, 4], 0)
  | 10 => some ([0, 3, 4, 5], 0)
  | 11 => some ([0, 3, 4, 5], 0)
  | 12 => some ([0, 3, 4, 5], 0)
  | 13 => some ([0, 4, 5], 0)
  | 14 => some ([0, 3, 4, 5], 0)
  | 15 => some ([0, 3, 4, 5], 0)
  | 16 => some ([], 0)
  | 17 => some ([0, 4, 5], 0)
  | 18 => some ([0, 3, 4, 5], 0)
  | 19 => some ([], 0)
  | 20 => some ([0, 4, 5], 0)
  | 21 => some ([3], 0)
  | _ => none
def kf63 : Nat → Option (List Nat × Nat)
  | 0 => some ([0, 1], 0)
  | 1 => some ([0, 1], 0)
  | _ => none
def kf64 : Nat → Option (List Nat × Nat)
  | 0 => some ([0, 1], 0)
  | 1 => some ([0, 1], 0)
  | _ => none
def kf65 : Nat → Option (List Nat × Nat)
  | 0 => some ([0, 1, 2], 0)
  | 1 => some ([0, 1, 2], 0)
  | _ => none
def kf66 : Nat → Option (List Nat × Nat)
  | 0 => some ([0, 1, 2], 0)
  | 1 => some ([0, 1, 2], 0)
  | _ => none
def kf68 : Nat → Option (List Nat × Nat)
  | 0 => some ([0], 0)
  | 1 => some ([0], 0)
  | 2 => some ([0], 0)
  | 3 => some ([0], 0)
  | _ => none
def kf69 : Nat → Option (List Nat × Nat)
  | 0 => some ([0], 0)
  | 1 => some ([0], 0)
  | 2 => some ([0, 3], 0)
  | _ => none
def kf70 : Nat → Option (List Nat × Nat)
  | 0 => some ([0, 1], 0)
  | 1 => some ([0, 1, 4], 0)
  | 2 => some ([0, 1, 4], 0)
  | 3 => some ([0, 1, 4, 5], 0)
  | 4 => some ([0, 1, 4, 5], 0)
  | 5 => some ([0, 1, 4, 6, 7], 0)
  | 6 => some ([0, 1, 4, 6, 8, 9], 0)
  | 7 => some ([0, 1, 4, 8, 9, 10, 11], 0)
  | 8 => some ([0, 1, 4, 8, 10, 11], 0)
  | 9 => some ([0, 1, 4, 10, 11], 0)
  | 10 => some ([0, 1, 4, 10], 0)
  | 11 => some ([0, 1, 4], 0)
  | 12 => some ([0, 1, 4], 0)
  | 13 => some ([0, 4, 12], 0)
  | 14 => some ([0, 4, 12], 0)
  | 15 => some ([0, 4, 12, 13], 0)
  | 16 => some ([0, 4, 12, 13], 0)
  | 17 => some ([0, 4, 12, 14, 15], 0)
  | 18 => some ([0, 4, 12, 14], 0)
  | 19 => some ([0, 4, 12], 0)
  | 20 => some ([0, 4, 12], 0)
  | 21 => some ([0, 4, 12], 0)
  | 22 => some ([0, 4, 12, 16], 0)
  | 23 => some ([0, 4, 12, 16], 0)
  | 24 => some ([0, 4, 12], 0)
  | 25 => some ([0, 4, 12], 0)
  | 26 => some ([0, 12], 0)
  | _ => none
def kf71 : Nat → Option (List Nat × Nat)
  | 0 => some ([0, 1, 2, 3, 4], 0)
  | 1 => some ([0, 1, 2, 3, 4, 10, 11], 0)
  | 2 => some ([0, 1, 2, 3, 4, 10, 11], 0)
  | 3 => some ([0, 1, 2, 3, 4, 10, 11], 0)
  | 4 => some ([0, 1, 2, 3, 4, 10, 11, 12], 0)
  | 5 => some ([0, 1, 2, 3, 4, 10, 11, 12, 13], 0)
  | 6 => some ([0, 1, 2, 3, 4, 10, 11, 12, 13], 0)
  | 7 => some ([0, 1, 2, 3, 4, 10, 11, 12, 13], 0)
  | 8 => some ([0, 1, 2, 3, 4, 10, 11, 12, 13], 0)
  | 9 => some ([0, 1, 2, 3, 4, 10, 11, 12, 13, 14], 0)
  | 10 => some ([0, 1, 2, 3, 4, 10, 11, 12, 13, 14, 15], 0)
  | 11 => some ([0, 1, 3, 4, 10, 11, 12, 13, 14, 15, 16], 0)
  | 12 => some ([0, 1, 3, 4, 10, 11, 12, 13, 14, 15, 16], 0)
  | 13 => some ([0, 1, 3, 4, 10, 11, 12, 13, 14, 15, 16], 0)
  | 14 => some ([0, 1, 3, 4, 10, 11, 12, 13, 14, 15, 16], 0)
  | 15 => some ([0, 1, 3, 4, 10, 11, 12, 13], 0)
  | 16 => some ([0, 1, 3, 4, 10, 11, 12, 13], 0)
  | 17 => some ([0, 1, 2, 3, 4, 10, 11, 12, 13], 0)
  | 18 => some ([0, 1, 3, 4, 10, 11, 12, 13, 17], 0)
  | 19 => some ([0, 1, 3, 4, 10, 11, 12, 13, 17], 0)
  | 20 => some ([0, 1, 3, 4, 10, 11, 12, 13, 17], 0)
  | 21 => some ([0, 1, 3, 4, 10, 11, 12, 13, 17, 18], 0)
  | 22 => some ([0, 3, 4, 10, 11, 12, 13, 17, 18], 0)
  | 23 => some ([0, 1, 3, 4, 10, 11, 12, 13], 0)
  | 24 => some ([0, 1, 3, 4, 10, 11, 12, 13], 0)
  | 25 => some ([0, 3, 4, 10, 11, 12, 13], 0)
  | 26 => some ([0, 4, 10, 11, 12, 13], 0)
  | 27 => some ([0, 4, 10, 11, 12, 13], 0)
  | 28 => some ([0, 4, 10, 11, 12, 13], 0)
  | 29 => some ([0, 11, 12, 13], 0)
  | 30 => some ([10, 12, 13], 0)
  | _ => none
def kf72 : Nat → Option (List Nat × Nat)
  | 0 => some ([0, 1], 0)
  | 1 => some ([0, 1, 4], 0)
  | 2 => some ([0, 1, 4, 6], 0)
  | 3 => some ([0, 4, 6, 8], 0)
  | 4 => some ([0, 6, 8], 0)
  | 5 => some ([0, 8], 0)
  | _ => none
def kf73 : Nat → Option (List Nat × Nat)
  | 0 => some ([0], 0)
  | 1 => some ([0, 2, 3, 4], 0)
  | 2 => some ([0, 2, 3, 4], 0)
  | 3 => some ([0, 2, 3, 4], 0)
  | 4 => some ([0, 2, 3, 4], 0)
  | 5 => some ([0, 2, 3, 4], 0)
  | 6 => some ([0, 2, 3, 4], 0)
  | 7 => some ([0, 2, 3, 4], 0)
  | 8 => some ([0, 2, 3, 4], 0)
  | 9 => some ([0, 2, 3, 4], 0)
  | 10 => some ([0, 2, 3, 4], 0)
  | 11 => some ([0, 2, 3, 4], 0)
  | 12 => some ([0, 2, 3, 4], 0)
  | 13 => some ([0, 2, 3, 4], 0)
  | 14 => some ([0, 2, 3, 4], 0)
  | 15 => some ([0, 2, 3, 4], 0)
  | 16 => some ([0, 2, 3, 4], 0)
  | 17 => some ([0, 2, 3, 4], 0)
  | 18 => some ([0, 2, 3, 4], 0)
  | 19 => some ([0, 2, 3, 4], 0)
  | _ => none
def kf74 : Nat → Option (List Nat × Nat)
  | 0 => some ([0], 0)
  | 1 => some ([0, 2, 3, 4], 0)
  | 2 => some ([0, 2, 3, 4], 0)
  | 3 => some ([0, 2, 3, 4], 0)
  | 4 => some ([0, 2, 3, 4], 0)
  | 5 => some ([0, 2, 3, 4], 0)
  | 6 => some ([0, 2, 3, 4], 0)
  | 7 => some ([0, 2, 3, 4], 0)
  | 8 => some ([0, 2, 3, 4], 0)
  | 9 => some ([0, 2, 3, 4], 0)
  | 10 => some ([0, 2, 3, 4], 0)
  | 11 => some ([0, 2, 3, 4], 0)
  | 12 => some ([0, 2, 3, 4], 0)
  | 13 => some ([0, 2, 3, 4], 0)
  | 14 => some ([0, 2, 3, 4], 0)
  | 15 => some ([0, 2, 3, 4], 0)
  | _ => none
def kf75 : Nat → Option (List Nat × Nat)
  | 0 => some ([0, 1], 0)
  | 1 => some ([0, 1], 0)
  | 2 => some ([0, 1, 5], 0)
  | 3 => some ([0, 1, 5, 6], 0)
  | 4 => some ([0, 1, 5, 6], 0)
  | 5 => some ([0, 1, 5, 6], 0)
  | 6 => some ([0, 1, 5, 6], 0)
  | 7 => some ([0, 1, 5, 6], 0)
  | 8 => some ([5], 0)
  | _ => none
def kf76 : Nat → Option (List Nat × Nat)
  | 0 => some ([0, 1], 0)
  | 1 => some ([0, 1], 0)
  | _ => none
def kf82 : Nat → Option (List Nat × Nat)
  | 0 => some ([0], 0)
  | 1 => some ([0, 2], 0)
  | 2 => some ([2, 4], 0)
  | 3 => some ([2, 4], 0)
  | 4 => some ([2], 0)
  | _ => none
def kf83 : Nat → Option (List Nat × Nat)
  | 0 => some ([0], 0)
  | 1 => some ([0], 0)
  | 2 => some ([0], 0)
  | 3 => some ([0], 0)
  | _ => none
def kf89 : Nat → Option (List Nat × Nat)
  | 0 => some ([0], 0)
  | 1 => some ([0], 0)
  | _ => none
def kf90 : Nat → Option (List Nat × Nat)
  | 0 => some ([0], 0)
  | 1 => some ([0], 0)
  | _ => none
def kf91 : Nat → Option (List Nat × Nat)
  | 0 => some ([0], 0)
  | 1 => some ([0], 0)
  | _ => none
def kf92 : Nat → Option (List Nat × Nat)
  | 0 => some ([0], 0)
  | 1 => some ([0, 2], 0)
  | 2 => some ([0], 0)
  | 3 => some ([0], 0)
  | 4 => some ([0, 2], 0)
  | 5 => some ([0, 2], 0)
  | 6 => some ([0, 2], 0)
  | 7 => some ([0, 2], 0)
  | 8 => some ([0, 2], 0)
  | 9 => some ([0, 2], 0)
  | 10 => some ([0, 2], 0)
  | _ => none
def kf93 : Nat → Option (List Nat × Nat)
  | 0 => some ([0], 0)
  | 1 => some ([0], 0)
  | 2 => some ([], 0)
  | 3 => some ([], 0)
  | _ => none
def kf94 : Nat → Option (List Nat × Nat)
  | 0 => some ([0], 0)
  | 1 => some ([0], 0)
  | _ => none
def kf95 : Nat → Option (List Nat × Nat)
  | 0 => some ([0], 0)
  | 1 => some ([0], 0)
  | 2 => some ([0], 0)
  | _ => none
def kf96 : Nat → Option (List Nat × Nat)
  | 0 => some ([0, 1, 2], 0)
  | 1 => some ([0, 1, 2], 0)
  | 2 => some ([], 0)
  | 3 => some ([0, 1, 2], 0)
  | 4 => some ([0, 1, 2, 8], 0)
  | 5 => some ([0, 1, 8, 9], 0)
  | 6 => some ([0, 1, 8, 9], 0)
  | 7 => some ([0, 1, 8, 9], 0)
  | 8 => some ([8], 0)
  | _ => none
def kf97 : Nat → Option (List Nat × Nat)
  | 0 => some ([0, 1], 0)
  | 1 => some ([0, 1], 0)
  | 2 => some ([0, 5], 0)
  | _ => none
def kf100 : Nat → Option (List Nat × Nat)
  | 0 => some ([0], 0)
  | 1 => some ([0], 0)
  | 2 => some ([0, 4], 0)
  | 3 => some ([], 0)
  | 4 => some ([0, 4], 0)
  | 5 => some ([0, 4, 5], 0)
  | 6 => some ([0, 4, 5, 6], 0)
  | 7 => some ([0, 6], 0)
  | 8 => some ([0, 7], 0)
  | 9 => some ([0, 4, 5, 6], 0)
  | 10 => some ([0, 4, 5, 6, 8], 0)
  | 11 => some ([0, 4, 5, 8, 9], 0)
  | 12 => some ([], 0)
  | 13 => some ([0, 5, 8, 9], 0)
  | 14 => some ([0, 5, 8, 9, 10], 0)
  | 15 => some ([], 0)
  | 16 => some ([0, 5, 8, 10], 0)
  | 17 => some ([5, 10], 0)
  | 18 => some ([0, 5, 8, 10], 0)
  | 19 => some ([0, 5, 8, 10, 11], 0)
  | 20 => some ([], 0)
  | 21 => some ([0, 5, 8, 10, 11], 0)
  | 22 => some ([5, 10, 11], 0)
  | 23 => some ([0, 5, 10, 11], 0)
  | 24 => some ([5, 10, 11, 12], 0)
  | 25 => some ([], 0)
  | 26 => some ([5, 10, 11, 12], 0)
  | _ => none
def kf102 : Nat → Option (List Nat × Nat)
  | 0 => some ([0], 0)
  | 1 => some ([0], 0)
  | _ => none
def kf103 : Nat → Option (List Nat × Nat)
  | 0 => some ([0], 0)
  | 1 => some ([0], 0)
  | 2 => some ([], 0)
  | 3 => some ([0], 0)
  | _ => none
def kf104 : Nat → Option (List Nat × Nat)
  | 0 => some ([0], 0)
  | 1 => some ([0], 0)
  | 2 => some ([], 0)
  | 3 => some ([0], 0)
  | _ => none
def kf105 : Nat → Option (List Nat × Nat)
  | 0 => some ([0], 0)
  | 1 => some ([0], 0)
  | _ => none
def kf106 : Nat → Option (List Nat × Nat)
  | 0 => some ([0, 1], 0)
  | 1 => some ([0, 1], 0)
  | 2 => some ([0], 0)
  | 3 => some ([0], 0)
  | 4 => some ([0], 0)
  | 5 => some ([0, 5], 0)
  | 6 => some ([0, 5, 6], 0)
  | 7 => some ([0, 5, 6], 0)
  | 8 => some ([0, 5, 6], 0)
  | 9 => some ([0, 5, 6, 7], 0)
  | 10 => some ([0, 5, 7], 0)
  | 11 => some ([5, 7], 0)
  | 12 => some ([5, 7], 0)
  | 13 => some ([5, 7], 0)
  | 14 => some ([0, 1], 0)
  | 15 => some ([9], 0)
  | _ => none
def keepT : Nat → Nat → Option (List Nat × Nat)
  | 3 => kf3
  | 4 => kf4
  | 5 => kf5
  | 6 => kf6
  | 7 => kf7
  | 8 => kf8
  | 9 => kf9
  | 10 => kf10
  | 11 => kf11
  | 12 => kf12
  | 13 => kf13
  | 14 => kf14
  | 15 => kf15
  | 16 => kf16
  | 17 => kf17
  | 18 => kf18
  | 19 => kf19
  | 20 => kf20
  | 21 => kf21
  | 22 => kf22
  | 23 => kf23
  | 24 => kf24
  | 25 => kf25
  | 26 => kf26
  | 27 => kf27
  | 28 => kf28
  | 29 => kf29
  | 30 => kf30
  | 31 => kf31
  | 32 => kf32
  | 33 => kf33
  | 34 => kf34
  | 35 => kf35
  | 36 => kf36
  | 37 => kf37
  | 38 => kf38
  | 40 => kf40
  | 41 => kf41
  | 42 => kf42
  | 43 => kf43
  | 44 => kf44
  | 45 => kf45
  | 46 => kf46
  | 47 => kf47
  | 48 => kf48
  | 49 => kf49
  | 57 => kf57
  | 58 => kf58
  | 59 => kf59
  | 61 => kf61
  | 62 => kf62
  | 63 => kf63
  | 64 => kf64
  | 65 => kf65
  | 66 => kf66
  | 68 => kf68
  | 69 => kf69
  | 70 => kf70
  | 71 => kf71
  | 72 => kf72
  | 73 => kf73
  | 74 => kf74
  | 75 => kf75
  | 76 => kf76
  | 82 => kf82
  | 83 => kf83
  | 89 => kf89
  | 90 => kf90
  | 91 => kf91
  | 92 => kf92
  | 93 => kf93
  | 94 => kf94
  | 95 => kf95
  | 96 => kf96
  | 97 => kf97
  | 100 => kf100
  | 102 => kf102
  | 103 => kf103
  | 104 => kf104
  | 105 => kf105
  | 106 => kf106
  | _ => fun _ => none
def frzT : Nat → Nat → List Nat
  | 14, 7 => [5]
  | 16, 3 => [2, 3]
  | 46, 10 => [5]
  | _, _ => []
def retT : Nat → Nat → List Nat
  | 18, 3 => [3]
  | _, _ => []
def cvT : Nat → Nat → Bool
  | 14, 5 => true
  | 33, 5 => true
  | _, _ => false
def permT : Nat → Bool
  | _ => false
def byRefT : Nat → Bool
  | 24 => true
  | 72 => true
  | 73 => true
  | 74 => true
  | _ => false
def badT : Nat → Bool
  | 2 => true
  | 39 => true
  | 51 => true
  | 52 => true
  | 53 => true
  | 54 => true
  | 55 => true
  | 56 => true
  | 60 => true
  | 77 => true
  | 78 => true
  | 79 => true
  | 80 => true
  | 81 => true
  | 86 => true
  | 87 => true
  | 88 => true
  | 101 => true
  | 136 => true
  | _ => false
def pureT : Nat → Bool
  | 5 => true
  | 6 => true
  | 7 => true
  | 8 => true
  | 9 => true
  | 10 => true
  | 11 => true
  | 12 => true
  | 13 => true
  | 14 => true
  | 15 => true
  | 16 => true
  | 17 => true
  | 18 => true
  | 19 => true
  | 20 => true
  | 21 => true
  | 23 => true
  | 25 => true
  | 26 => true
  | 27 => true
  | 28 => true
  | 29 => true
  | 30 => true
  | 31 => true
  | 32 => true
  | 33 => true
  | 34 => true
  | 36 => true
  | 37 => true
  | 38 => true
  | 39 => true
  | 41 => true
  | 44 => true
  | 45 => true
  | 47 => true
  | 48 => true
  | 58 => true
  | 59 => true
  | 61 => true
  | 71 => true
  | 75 => true
  | 76 => true
  | 88 => true
  | 94 => true
  | 95 => true
  | 96 => true
  | 104 => true
  | 105 => true
  | _ => false
def fzrT : Nat → Bool
  | _ => true
def extT : Nat → List D → Option D
  | 50 => cmpExt
  | 67 => idxBExt
  | 84 => cntExt
  | _ => fun _ => none
def conT : Nat → List D → Heap → Option (D × Heap)
  | 60 => conIdx
  | 88 => conClone
  | 39 => conRepeat
  | _ => fun _ _ => none
def gs1 : List UInt8 := [105, 110, 118, 97, 108, 105, 100, 32, 115, 121, 110, 116, 97, 120]
def gs2 : List UInt8 := [118, 97, 108, 117, 101, 32, 111, 117, 116, 32, 111, 102, 32, 114, 97, 110, 103, 101]
def gz3 : List Int := [1, 10, 100, 1000, 10000, 100000, 1000000, 10000000, 100000000, 1000000000, 10000000000, 100000000000, 1000000000000, 10000000000000, 100000000000000, 1000000000000000, 10000000000000000, 100000000000000000, 1000000000000000000, 10000000000000000000]
def gd3 : List D := gz3.map (D.int .u64)
def gz6 : List Int := [0, 1, 28, 2, 29, 14, 24, 3, 30, 22, 20, 15, 25, 17, 4, 8, 31, 27, 13, 23, 21, 19, 16, 7, 26, 12, 18, 6, 11, 5, 10, 9]
def gd6 : List D := gz6.map (D.int .u8)
def gz7 : List Int := [0, 1, 56, 2, 57, 49, 28, 3, 61, 58, 42, 50, 38, 29, 17, 4, 62, 47, 59, 36, 45, 43, 51, 22, 53, 39, 33, 30, 24, 18, 12, 5, 63, 55, 48, 27, 60, 41, 37, 16, 46, 35, 44, 21, 52, 32, 23, 11, 54, 26, 40, 15, 34, 20, 31, 10, 25, 14, 19, 9, 13, 8, 7, 6]
def gd7 : List D := gz7.map (D.int .u8)
def globT [MaxL] : Nat → Option (List D)
  | 1 => some [.iface 138 (.vptr [.str gs1])]
  | 2 => some [.iface 138 (.vptr [.str gs2])]
  | 3 => some gd3
  | 6 => some gd6
  | 7 => some gd7
  | 0 => some [.int .i64 MaxL.m]
  | _ => none
noncomputable def cx [MaxL] : Cx := { P := Tryz.prog, glob := globT, keep := keepT, byRef := byRefT, pureF := pureT, ext := extT, bad := badT, frz := frzT, ret := retT, fzr := fzrT, con := conT, perm := permT, dynV := true, cv := cvT }
@[simp] theorem cv3 [MaxL] (id : Nat) : cx.cv 3 id = false := rfl
@[simp] theorem cv4 [MaxL] (id : Nat) : cx.cv 4 id = false := rfl
@[simp] theorem cv5 [MaxL] (id : Nat) : cx.cv 5 id = false := rfl
@[simp] theorem cv6 [MaxL] (id : Nat) : cx.cv 6 id = false := rfl
@[simp] theorem cv7 [MaxL] (id : Nat) : cx.cv 7 id = false := rfl
@[simp] theorem cv8 [MaxL] (id : Nat) : cx.cv 8 id = false := rfl
@[simp] theorem cv9 [MaxL] (id : Nat) : cx.cv 9 id = false := rfl
@[simp] theorem cv10 [MaxL] (id : Nat) : cx.cv 10 id = false := rfl
@[simp] theorem cv11 [MaxL] (id : Nat) : cx.cv 11 id = false := rfl
@[simp] theorem cv12 [MaxL] (id : Nat) : cx.cv 12 id = false := rfl
@[simp] theorem cv13 [MaxL] (id : Nat) : cx.cv 13 id = false := rfl
@[simp] theorem cv14_0 [MaxL] : cx.cv 14 0 = false := rfl
@[simp] theorem cv14_1 [MaxL] : cx.cv 14 1 = false := rfl
@[simp] theorem cv14_2 [MaxL] : cx.cv 14 2 = false := rfl
@[simp] theorem cv14_3 [MaxL] : cx.cv 14 3 = false := rfl
@[simp] theorem cv14_4 [MaxL] : cx.cv 14 4 = false := rfl
@[simp] theorem cv14_5 [MaxL] : cx.cv 14 5 = true := rfl
@[simp] theorem cv14_6 [MaxL] : cx.cv 14 6 = false := rfl
@[simp] theorem cv14_7 [MaxL] : cx.cv 14 7 = false := rfl
@[simp] theorem cv15 [MaxL] (id : Nat) : cx.cv 15 id = false := rfl
@[simp] theorem cv16 [MaxL] (id : Nat) : cx.cv 16 id = false := rfl
@[simp] theorem cv17 [MaxL] (id : Nat) : cx.cv 17 id = false := rfl
@[simp] theorem cv18 [MaxL] (id : Nat) : cx.cv 18 id = false := rfl
@[simp] theorem cv19 [MaxL] (id : Nat) : cx.cv 19 id = false := rfl
@[simp] theorem cv20 [MaxL] (id : Nat) : cx.cv 20 id = false := rfl
@[simp] theorem cv21 [MaxL] (id : Nat) : cx.cv 21 id = false := rfl
@[simp] theorem cv22 [MaxL] (id : Nat) : cx.cv 22 id = false := rfl
@[simp] theorem cv23 [MaxL] (id : Nat) : cx.cv 23 id = false := rfl
@[simp] theorem cv24 [MaxL] (id : Nat) : cx.cv 24 id = false := rfl
@[simp] theorem cv25 [MaxL] (id : Nat) : cx.cv 25 id = false := rfl
@[simp] theorem cv26 [MaxL] (id : Nat) : cx.cv 26 id = false := rfl
@[simp] theorem cv27 [MaxL] (id : Nat) : cx.cv 27 id = false := rfl
@[simp] theorem cv28 [MaxL] (id : Nat) : cx.cv 28 id = false := rfl
@[simp] theorem cv29 [MaxL] (id : Nat) : cx.cv 29 id = false := rfl
@[simp] theorem cv30 [MaxL] (id : Nat) : cx.cv 30 id = false := rfl
@[simp] theorem cv31 [MaxL] (id : Nat) : cx.cv 31 id = false := rfl
@[simp] theorem cv32 [MaxL] (id : Nat) : cx.cv 32 id = false := rfl
@[simp] theorem cv33_0 [MaxL] : cx.cv 33 0 = false := rfl
@[simp] theorem cv33_1 [MaxL] : cx.cv 33 1 = false := rfl
@[simp] theorem cv33_2 [MaxL] : cx.cv 33 2 = false := rfl
@[simp] theorem cv33_3 [MaxL] : cx.cv 33 3 = false := rfl
@[simp] theorem cv33_4 [MaxL] : cx.cv 33 4 = false := rfl
@[simp] theorem cv33_5 [MaxL] : cx.cv 33 5 = true := rfl
@[simp] theorem cv33_6 [MaxL] : cx.cv 33 6 = false := rfl
@[simp] theorem cv34 [MaxL] (id : Nat) : cx.cv 34 id = false := rfl
@[simp] theorem cv35 [MaxL] (id : Nat) : cx.cv 35 id = false := rfl
@[simp] theorem cv36 [MaxL] (id : Nat) : cx.cv 36 id = false := rfl
@[simp] theorem cv37 [MaxL] (id : Nat) : cx.cv 37 id = false := rfl
@[simp] theorem cv38 [MaxL] (id : Nat) : cx.cv 38 id = false := rfl
@[simp] theorem cv39 [MaxL] (id : Nat) : cx.cv 39 id = false := rfl
@[simp] theorem cv40 [MaxL] (id : Nat) : cx.cv 40 id = false := rfl
@[simp] theorem cv41 [MaxL] (id : Nat) : cx.cv 41 id = false := rfl
@[simp] theorem cv42 [MaxL] (id : Nat) : cx.cv 42 id = false := rfl
@[simp] theorem cv43 [MaxL] (id : Nat) : cx.cv 43 id = false := rfl
@[simp] theorem cv44 [MaxL] (id : Nat) : cx.cv 44 id = false := rfl
@[simp] theorem cv45 [MaxL] (id : Nat) : cx.cv 45 id = false := rfl
@[simp] theorem cv46 [MaxL] (id : Nat) : cx.cv 46 id = false := rfl
@[simp] theorem cv47 [MaxL] (id : Nat) : cx.cv 47 id = false := rfl
@[simp] theorem cv48 [MaxL] (id : Nat) : cx.cv 48 id = false := rfl
@[simp] theorem cv49 [MaxL] (id : Nat) : cx.cv 49 id = false := rfl
@[simp] theorem cv50 [MaxL] (id : Nat) : cx.cv 50 id = false := rfl
@[simp] theorem cv57 [MaxL] (id : Nat) : cx.cv 57 id = false := rfl
@[simp] theorem cv58 [MaxL] (id : Nat) : cx.cv 58 id = false := rfl
@[simp] theorem cv59 [MaxL] (id : Nat) : cx.cv 59 id = false := rfl
@[simp] theorem cv60 [MaxL] (id : Nat) : cx.cv 60 id = false := rfl
@[simp] theorem cv61 [MaxL] (id : Nat) : cx.cv 61 id = false := rfl
@[simp] theorem cv62 [MaxL] (id : Nat) : cx.cv 62 id = false := rfl
@[simp] theorem cv63 [MaxL] (id : Nat) : cx.cv 63 id = false := rfl
@[simp] theorem cv64 [MaxL] (id : Nat) : cx.cv 64 id = false := rfl
@[simp] theorem cv65 [MaxL] (id : Nat) : cx.cv 65 id = false := rfl
@[simp] theorem cv66 [MaxL] (id : Nat) : cx.cv 66 id = false := rfl
@[simp] theorem cv67 [MaxL] (id : Nat) : cx.cv 67 id = false := rfl
@[simp] theorem cv68 [MaxL] (id : Nat) : cx.cv 68 id = false := rfl
@[simp] theorem cv69 [MaxL] (id : Nat) : cx.cv 69 id = false := rfl
@[simp] theorem cv70 [MaxL] (id : Nat) : cx.cv 70 id = false := rfl
@[simp] theorem cv71 [MaxL] (id : Nat) : cx.cv 71 id = false := rfl
@[simp] theorem cv72 [MaxL] (id : Nat) : cx.cv 72 id = false := rfl
@[simp] theorem cv73 [MaxL] (id : Nat) : cx.cv 73 id = false := rfl
@[simp] theorem cv74 [MaxL] (id : Nat) : cx.cv 74 id = false := rfl
@[simp] theorem cv75 [MaxL] (id : Nat) : cx.cv 75 id = false := rfl
@[simp] theorem cv76 [MaxL] (id : Nat) : cx.cv 76 id = false := rfl
@[simp] theorem cv82 [MaxL] (id : Nat) : cx.cv 82 id = false := rfl
@[simp] theorem cv83 [MaxL] (id : Nat) : cx.cv 83 id = false := rfl
@[simp] theorem cv84 [MaxL] (id : Nat) : cx.cv 84 id = false := rfl
@[simp] theorem cv88 [MaxL] (id : Nat) : cx.cv 88 id = false := rfl
@[simp] theorem cv89 [MaxL] (id : Nat) : cx.cv 89 id = false := rfl
@[simp] theorem cv90 [MaxL] (id : Nat) : cx.cv 90 id = false := rfl
@[simp] theorem cv91 [MaxL] (id : Nat) : cx.cv 91 id = false := rfl
@[simp] theorem cv92 [MaxL] (id : Nat) : cx.cv 92 id = false := rfl
@[simp] theorem cv93 [MaxL] (id : Nat) : cx.cv 93 id = false := rfl
@[simp] theorem cv94 [MaxL] (id : Nat) : cx.cv 94 id = false := rfl
@[simp] theorem cv95 [MaxL] (id : Nat) : cx.cv 95 id = false := rfl
@[simp] theorem cv96 [MaxL] (id : Nat) : cx.cv 96 id = false := rfl
@[simp] theorem cv97 [MaxL] (id : Nat) : cx.cv 97 id = false := rfl
@[simp] theorem cv100 [MaxL] (id : Nat) : cx.cv 100 id = false := rfl
@[simp] theorem cv102 [MaxL] (id : Nat) : cx.cv 102 id = false := rfl
@[simp] theorem cv103 [MaxL] (id : Nat) : cx.cv 103 id = false := rfl
@[simp] theorem cv104 [MaxL] (id : Nat) : cx.cv 104 id = false := rfl
@[simp] theorem cv105 [MaxL] (id : Nat) : cx.cv 105 id = false := rfl
@[simp] theorem cv106 [MaxL] (id : Nat) : cx.cv 106 id = false := rfl
@[simp] theorem cxP [MaxL] : cx.P = Tryz.prog := rfl
@[simp] theorem cxD [MaxL] : cx.dynV = true := rfl
theorem cxF [MaxL] (f : Nat) : cx.P.funcs[f]? = Tryz.prog.funcs[f]? := rfl
@[simp] theorem gl1 [MaxL] : cx.glob 1 = some [.iface 138 (.vptr [.str gs1])] := rfl
@[simp] theorem gl2 [MaxL] : cx.glob 2 = some [.iface 138 (.vptr [.str gs2])] := rfl
@[simp] theorem gl3 [MaxL] : cx.glob 3 = some gd3 := rfl
@[simp] theorem gl6 [MaxL] : cx.glob 6 = some gd6 := rfl
@[simp] theorem gl7 [MaxL] : cx.glob 7 = some gd7 := rfl
@[simp] theorem br3 [MaxL] : cx.byRef 3 = false := rfl
@[simp] theorem pm3 [MaxL] : cx.perm 3 = false := rfl
@[simp] theorem pu3 [MaxL] : cx.pureF 3 = false := rfl
@[simp] theorem fz3 [MaxL] : cx.fzr 3 = true := rfl
@[simp] theorem br4 [MaxL] : cx.byRef 4 = false := rfl
@[simp] theorem pm4 [MaxL] : cx.perm 4 = false := rfl
@[simp] theorem pu4 [MaxL] : cx.pureF 4 = false := rfl
@[simp] theorem fz4 [MaxL] : cx.fzr 4 = true := rfl
@[simp] theorem br5 [MaxL] : cx.byRef 5 = false := rfl
@[simp] theorem pm5 [MaxL] : cx.perm 5 = false := rfl
@[simp] theorem pu5 [MaxL] : cx.pureF 5 = true := rfl
@[simp] theorem fz5 [MaxL] : cx.fzr 5 = true := rfl
@[simp] theorem br6 [MaxL] : cx.byRef 6 = false := rfl
@[simp] theorem pm6 [MaxL] : cx.perm 6 = false := rfl
@[simp] theorem pu6 [MaxL] : cx.pureF 6 = true := rfl
@[simp] theorem fz6 [MaxL] : cx.fzr 6 = true := rfl
@[simp] theorem br7 [MaxL] : cx.byRef 7 = false := rfl
@[simp] theorem pm7 [MaxL] : cx.perm 7 = false := rfl
@[simp] theorem pu7 [MaxL] : cx.pureF 7 = true := rfl
@[simp] theorem fz7 [MaxL] : cx.fzr 7 = true := rfl
@[simp] theorem br8 [MaxL] : cx.byRef 8 = false := rfl
@[simp] theorem pm8 [MaxL] : cx.perm 8 = false := rfl
@[simp] theorem pu8 [MaxL] : cx.pureF 8 = true := rfl
@[simp] theorem fz8 [MaxL] : cx.fzr 8 = true := rfl
@[simp] theorem br9 [MaxL] : cx.byRef 9 = false := rfl
@[simp] theorem pm9 [MaxL] : cx.perm 9 = false := rfl
@[simp] theorem pu9 [MaxL] : cx.pureF 9 = true := rfl
@[simp] theorem fz9 [MaxL] : cx.fzr 9 = true := rfl
@[simp] theorem br10 [MaxL] : cx.byRef 10 = false := rfl
@[simp] theorem pm10 [MaxL] : cx.perm 10 = false := rfl
@[simp] theorem pu10 [MaxL] : cx.pureF 10 = true := rfl
@[simp] theorem fz10 [MaxL] : cx.fzr 10 = true := rfl
@[simp] theorem br11 [MaxL] : cx.byRef 11 = false := rfl
@[simp] theorem pm11 [MaxL] : cx.perm 11 = false := rfl
@[simp] theorem pu11 [MaxL] : cx.pureF 11 = true := rfl
@[simp] theorem fz11 [MaxL] : cx.fzr 11 = true := rfl
@[simp] theorem br12 [MaxL] : cx.byRef 12 = false := rfl
@[simp] theorem pm12 [MaxL] : cx.perm 12 = false := rfl
@[simp] theorem pu12 [MaxL] : cx.pureF 12 = true := rfl
@[simp] theorem fz12 [MaxL] : cx.fzr 12 = true := rfl
@[simp] theorem br13 [MaxL] : cx.byRef 13 = false := rfl
@[simp] theorem pm13 [MaxL] : cx.perm 13 = false := rfl
@[simp] theorem pu13 [MaxL] : cx.pureF 13 = true := rfl
@[simp] theorem fz13 [MaxL] : cx.fzr 13 = true := rfl
@[simp] theorem br14 [MaxL] : cx.byRef 14 = false := rfl
@[simp] theorem pm14 [MaxL] : cx.perm 14 = false := rfl
@[simp] theorem pu14 [MaxL] : cx.pureF 14 = true := rfl
@[simp] theorem fz14 [MaxL] : cx.fzr 14 = true := rfl
@[simp] theorem br15 [MaxL] : cx.byRef 15 = false := rfl
@[simp] theorem pm15 [MaxL] : cx.perm 15 = false := rfl
@[simp] theorem pu15 [MaxL] : cx.pureF 15 = true := rfl
@[simp] theorem fz15 [MaxL] : cx.fzr 15 = true := rfl
@[simp] theorem br16 [MaxL] : cx.byRef 16 = false := rfl
@[simp] theorem pm16 [MaxL] : cx.perm 16 = false := rfl
@[simp] theorem pu16 [MaxL] : cx.pureF 16 = true := rfl
@[simp] theorem fz16 [MaxL] : cx.fzr 16 = true := rfl
@[simp] theorem br17 [MaxL] : cx.byRef 17 = false := rfl
@[simp] theorem pm17 [MaxL] : cx.perm 17 = false := rfl
@[simp] theorem pu17 [MaxL] : cx.pureF 17 = true := rfl
@[simp] theorem fz17 [MaxL] : cx.fzr 17 = true := rfl
@[simp] theorem br18 [MaxL] : cx.byRef 18 = false := rfl
@[simp] theorem pm18 [MaxL] : cx.perm 18 = false := rfl
@[simp] theorem pu18 [MaxL] : cx.pureF 18 = true := rfl
@[simp] theorem fz18 [MaxL] : cx.fzr 18 = true := rfl
@[simp] theorem br19 [MaxL] : cx.byRef 19 = false := rfl
@[simp] theorem pm19 [MaxL] : cx.perm 19 = false := rfl
@[simp] theorem pu19 [MaxL] : cx.pureF 19 = true := rfl
@[simp] theorem fz19 [MaxL] : cx.fzr 19 = true := rfl
@[simp] theorem br20 [MaxL] : cx.byRef 20 = false := rfl
@[simp] theorem pm20 [MaxL] : cx.perm 20 = false := rfl
@[simp] theorem pu20 [MaxL] : cx.pureF 20 = true := rfl
@[simp] theorem fz20 [MaxL] : cx.fzr 20 = true := rfl
@[simp] theorem br21 [MaxL] : cx.byRef 21 = false := rfl
@[simp] theorem pm21 [MaxL] : cx.perm 21 = false := rfl
@[simp] theorem pu21 [MaxL] : cx.pureF 21 = true := rfl
@[simp] theorem fz21 [MaxL] : cx.fzr 21 = true := rfl
@[simp] theorem br22 [MaxL] : cx.byRef 22 = false := rfl
@[simp] theorem pm22 [MaxL] : cx.perm 22 = false := rfl
@[simp] theorem pu22 [MaxL] : cx.pureF 22 = false := rfl
@[simp] theorem fz22 [MaxL] : cx.fzr 22 = true := rfl
@[simp] theorem br23 [MaxL] : cx.byRef 23 = false := rfl
@[simp] theorem pm23 [MaxL] : cx.perm 23 = false := rfl
@[simp] theorem pu23 [MaxL] : cx.pureF 23 = true := rfl
@[simp] theorem fz23 [MaxL] : cx.fzr 23 = true := rfl
@[simp] theorem br24 [MaxL] : cx.byRef 24 = true := rfl
@[simp] theorem pm24 [MaxL] : cx.perm 24 = false := rfl
@[simp] theorem pu24 [MaxL] : cx.pureF 24 = false := rfl
@[simp] theorem fz24 [MaxL] : cx.fzr 24 = true := rfl
@[simp] theorem br25 [MaxL] : cx.byRef 25 = false := rfl
@[simp] theorem pm25 [MaxL] : cx.perm 25 = false := rfl
@[simp] theorem pu25 [MaxL] : cx.pureF 25 = true := rfl
@[simp] theorem fz25 [MaxL] : cx.fzr 25 = true := rfl
@[simp] theorem br26 [MaxL] : cx.byRef 26 = false := rfl
@[simp] theorem pm26 [MaxL] : cx.perm 26 = false := rfl
@[simp] theorem pu26 [MaxL] : cx.pureF 26 = true := rfl
@[simp] theorem fz26 [MaxL] : cx.fzr 26 = true := rfl
@[simp] theorem br27 [MaxL] : cx.byRef 27 = false := rfl
@[simp] theorem pm27 [MaxL] : cx.perm 27 = false := rfl
@[simp] theorem pu27 [MaxL] : cx.pureF 27 = true := rfl
@[simp] theorem fz27 [MaxL] : cx.fzr 27 = true := rfl
@[simp] theorem br28 [MaxL] : cx.byRef 28 = false := rfl
@[simp] theorem pm28 [MaxL] : cx.perm 28 = false := rfl
@[simp] theorem pu28 [MaxL] : cx.pureF 28 = true := rfl
@[simp] theorem fz28 [MaxL] : cx.fzr 28 = true := rfl
@[simp] theorem br29 [MaxL] : cx.byRef 29 = false := rfl
@[simp] theorem pm29 [MaxL] : cx.perm 29 = false := rfl
@[simp] theorem pu29 [MaxL] : cx.pureF 29 = true := rfl
@[simp] theorem fz29 [MaxL] : cx.fzr 29 = true := rfl
@[simp] theorem br30 [MaxL] : cx.byRef 30 = false := rfl
@[simp] theorem pm30 [MaxL] : cx.perm 30 = false := rfl
@[simp] theorem pu30 [MaxL] : cx.pureF 30 = true := rfl
@[simp] theorem fz30 [MaxL] : cx.fzr 30 = true := rfl
@[simp] theorem br31 [MaxL] : cx.byRef 31 = false := rfl
@[simp] theorem pm31 [MaxL] : cx.perm 31 = false := rfl
@[simp] theorem pu31 [MaxL] : cx.pureF 31 = true := rfl
@[simp] theorem fz31 [MaxL] : cx.fzr 31 = true := rfl
@[simp] theorem br32 [MaxL] : cx.byRef 32 = false := rfl
@[simp] theorem pm32 [MaxL] : cx.perm 32 = false := rfl
@[simp] theorem pu32 [MaxL] : cx.pureF 32 = true := rfl
@[simp] theorem fz32 [MaxL] : cx.fzr 32 = true := rfl
@[simp] theorem br33 [MaxL] : cx.byRef 33 = false := rfl
@[simp] theorem pm33 [MaxL] : cx.perm 33 = false := rfl
@[simp] theorem pu33 [MaxL] : cx.pureF 33 = true := rfl
@[simp] theorem fz33 [MaxL] : cx.fzr 33 = true := rfl
@[simp] theorem br34 [MaxL] : cx.byRef 34 = false := rfl
@[simp] theorem pm34 [MaxL] : cx.perm 34 = false := rfl
@[simp] theorem pu34 [MaxL] : cx.pureF 34 = true := rfl
@[simp] theorem fz34 [MaxL] : cx.fzr 34 = true := rfl
@[simp] theorem br35 [MaxL] : cx.byRef 35 = false := rfl
@[simp] theorem pm35 [MaxL] : cx.perm 35 = false := rfl
@[simp] theorem pu35 [MaxL] : cx.pureF 35 = false := rfl
@[simp] theorem fz35 [MaxL] : cx.fzr 35 = true := rfl
@[simp] theorem br36 [MaxL] : cx.byRef 36 = false := rfl
@[simp] theorem pm36 [MaxL] : cx.perm 36 = false := rfl
@[simp] theorem pu36 [MaxL] : cx.pureF 36 = true := rfl
@[simp] theorem fz36 [MaxL] : cx.fzr 36 = true := rfl
@[simp] theorem br37 [MaxL] : cx.byRef 37 = false := rfl
@[simp] theorem pm37 [MaxL] : cx.perm 37 = false := rfl
@[simp] theorem pu37 [MaxL] : cx.pureF 37 = true := rfl
@[simp] theorem fz37 [MaxL] : cx.fzr 37 = true := rfl
@[simp] theorem br38 [MaxL] : cx.byRef 38 = false := rfl
@[simp] theorem pm38 [MaxL] : cx.perm 38 = false := rfl
@[simp] theorem pu38 [MaxL] : cx.pureF 38 = true := rfl
@[simp] theorem fz38 [MaxL] : cx.fzr 38 = true := rfl
@[simp] theorem br39 [MaxL] : cx.byRef 39 = false := rfl
@[simp] theorem pm39 [MaxL] : cx.perm 39 = false := rfl
@[simp] theorem pu39 [MaxL] : cx.pureF 39 = true := rfl
@[simp] theorem br40 [MaxL] : cx.byRef 40 = false := rfl
@[simp] theorem pm40 [MaxL] : cx.perm 40 = false := rfl
@[simp] theorem pu40 [MaxL] : cx.pureF 40 = false := rfl
@[simp] theorem fz40 [MaxL] : cx.fzr 40 = true := rfl
@[simp] theorem br41 [MaxL] : cx.byRef 41 = false := rfl
@[simp] theorem pm41 [MaxL] : cx.perm 41 = false := rfl
@[simp] theorem pu41 [MaxL] : cx.pureF 41 = true := rfl
@[simp] theorem fz41 [MaxL] : cx.fzr 41 = true := rfl
@[simp] theorem br42 [MaxL] : cx.byRef 42 = false := rfl
@[simp] theorem pm42 [MaxL] : cx.perm 42 = false := rfl
@[simp] theorem pu42 [MaxL] : cx.pureF 42 = false := rfl
@[simp] theorem fz42 [MaxL] : cx.fzr 42 = true := rfl
@[simp] theorem br43 [MaxL] : cx.byRef 43 = false := rfl
@[simp] theorem pm43 [MaxL] : cx.perm 43 = false := rfl
@[simp] theorem pu43 [MaxL] : cx.pureF 43 = false := rfl
@[simp] theorem fz43 [MaxL] : cx.fzr 43 = true := rfl
@[simp] theorem br44 [MaxL] : cx.byRef 44 = false := rfl
@[simp] theorem pm44 [MaxL] : cx.perm 44 = false := rfl
@[simp] theorem pu44 [MaxL] : cx.pureF 44 = true := rfl
@[simp] theorem fz44 [MaxL] : cx.fzr 44 = true := rfl
@[simp] theorem br45 [MaxL] : cx.byRef 45 = false := rfl
@[simp] theorem pm45 [MaxL] : cx.perm 45 = false := rfl
@[simp] theorem pu45 [MaxL] : cx.pureF 45 = true := rfl
@[simp] theorem fz45 [MaxL] : cx.fzr 45 = true := rfl
@[simp] theorem br46 [MaxL] : cx.byRef 46 = false := rfl
@[simp] theorem pm46 [MaxL] : cx.perm 46 = false := rfl
@[simp] theorem pu46 [MaxL] : cx.pureF 46 = false := rfl
@[simp] theorem fz46 [MaxL] : cx.fzr 46 = true := rfl
@[simp] theorem br47 [MaxL] : cx.byRef 47 = false := rfl
@[simp] theorem pm47 [MaxL] : cx.perm 47 = false := rfl
@[simp] theorem pu47 [MaxL] : cx.pureF 47 = true := rfl
@[simp] theorem fz47 [MaxL] : cx.fzr 47 = true := rfl
@[simp] theorem br48 [MaxL] : cx.byRef 48 = false := rfl
@[simp] theorem pm48 [MaxL] : cx.perm 48 = false := rfl
@[simp] theorem pu48 [MaxL] : cx.pureF 48 = true := rfl
@[simp] theorem fz48 [MaxL] : cx.fzr 48 = true := rfl
@[simp] theorem br49 [MaxL] : cx.byRef 49 = false := rfl
@[simp] theorem pm49 [MaxL] : cx.perm 49 = false := rfl
@[simp] theorem pu49 [MaxL] : cx.pureF 49 = false := rfl
@[simp] theorem fz49 [MaxL] : cx.fzr 49 = true := rfl
@[simp] theorem br50 [MaxL] : cx.byRef 50 = false := rfl
@[simp] theorem pm50 [MaxL] : cx.perm 50 = false := rfl
@[simp] theorem pu50 [MaxL] : cx.pureF 50 = false := rfl
@[simp] theorem br57 [MaxL] : cx.byRef 57 = false := rfl
@[simp] theorem pm57 [MaxL] : cx.perm 57 = false := rfl
@[simp] theorem pu57 [MaxL] : cx.pureF 57 = false := rfl
@[simp] theorem fz57 [MaxL] : cx.fzr 57 = true := rfl
@[simp] theorem br58 [MaxL] : cx.byRef 58 = false := rfl
@[simp] theorem pm58 [MaxL] : cx.perm 58 = false := rfl
@[simp] theorem pu58 [MaxL] : cx.pureF 58 = true := rfl
@[simp] theorem fz58 [MaxL] : cx.fzr 58 = true := rfl
@[simp] theorem br59 [MaxL] : cx.byRef 59 = false := rfl
@[simp] theorem pm59 [MaxL] : cx.perm 59 = false := rfl
@[simp] theorem pu59 [MaxL] : cx.pureF 59 = true := rfl
@[simp] theorem fz59 [MaxL] : cx.fzr 59 = true := rfl
@[simp] theorem br60 [MaxL] : cx.byRef 60 = false := rfl
@[simp] theorem pm60 [MaxL] : cx.perm 60 = false := rfl
@[simp] theorem pu60 [MaxL] : cx.pureF 60 = false := rfl
@[simp] theorem br61 [MaxL] : cx.byRef 61 = false := rfl
@[simp] theorem pm61 [MaxL] : cx.perm 61 = false := rfl
@[simp] theorem pu61 [MaxL] : cx.pureF 61 = true := rfl
@[simp] theorem fz61 [MaxL] : cx.fzr 61 = true := rfl
@[simp] theorem br62 [MaxL] : cx.byRef 62 = false := rfl
@[simp] theorem pm62 [MaxL] : cx.perm 62 = false := rfl
@[simp] theorem pu62 [MaxL] : cx.pureF 62 = false := rfl
@[simp] theorem fz62 [MaxL] : cx.fzr 62 = true := rfl
@[simp] theorem br63 [MaxL] : cx.byRef 63 = false := rfl
@[simp] theorem pm63 [MaxL] : cx.perm 63 = false := rfl
@[simp] theorem pu63 [MaxL] : cx.pureF 63 = false := rfl
@[simp] theorem fz63 [MaxL] : cx.fzr 63 = true := rfl
@[simp] theorem br64 [MaxL] : cx.byRef 64 = false := rfl
@[simp] theorem pm64 [MaxL] : cx.perm 64 = false := rfl
@[simp] theorem pu64 [MaxL] : cx.pureF 64 = false := rfl
@[simp] theorem fz64 [MaxL] : cx.fzr 64 = true := rfl
@[simp] theorem br65 [MaxL] : cx.byRef 65 = false := rfl
@[simp] theorem pm65 [MaxL] : cx.perm 65 = false := rfl
@[simp] theorem pu65 [MaxL] : cx.pureF 65 = false := rfl
@[simp] theorem fz65 [MaxL] : cx.fzr 65 = true := rfl
@[simp] theorem br66 [MaxL] : cx.byRef 66 = false := rfl
@[simp] theorem pm66 [MaxL] : cx.perm 66 = false := rfl
@[simp] theorem pu66 [MaxL] : cx.pureF 66 = false := rfl
@[simp] theorem fz66 [MaxL] : cx.fzr 66 = true := rfl
@[simp] theorem br67 [MaxL] : cx.byRef 67 = false := rfl
@[simp] theorem pm67 [MaxL] : cx.perm 67 = false := rfl
@[simp] theorem pu67 [MaxL] : cx.pureF 67 = false := rfl
@[simp] theorem br68 [MaxL] : cx.byRef 68 = false := rfl
@[simp] theorem pm68 [MaxL] : cx.perm 68 = false := rfl
@[simp] theorem pu68 [MaxL] : cx.pureF 68 = false := rfl
@[simp] theorem fz68 [MaxL] : cx.fzr 68 = true := rfl
@[simp] theorem br69 [MaxL] : cx.byRef 69 = false := rfl
@[simp] theorem pm69 [MaxL] : cx.perm 69 = false := rfl
@[simp] theorem pu69 [MaxL] : cx.pureF 69 = false := rfl
@[simp] theorem fz69 [MaxL] : cx.fzr 69 = true := rfl
@[simp] theorem br70 [MaxL] : cx.byRef 70 = false := rfl
@[simp] theorem pm70 [MaxL] : cx.perm 70 = false := rfl
@[simp] theorem pu70 [MaxL] : cx.pureF 70 = false := rfl
@[simp] theorem fz70 [MaxL] : cx.fzr 70 = true := rfl
@[simp] theorem br71 [MaxL] : cx.byRef 71 = false := rfl
@[simp] theorem pm71 [MaxL] : cx.perm 71 = false := rfl
@[simp] theorem pu71 [MaxL] : cx.pureF 71 = true := rfl
@[simp] theorem fz71 [MaxL] : cx.fzr 71 = true := rfl
@[simp] theorem br72 [MaxL] : cx.byRef 72 = true := rfl
@[simp] theorem pm72 [MaxL] : cx.perm 72 = false := rfl
@[simp] theorem pu72 [MaxL] : cx.pureF 72 = false := rfl
@[simp] theorem fz72 [MaxL] : cx.fzr 72 = true := rfl
@[simp] theorem br73 [MaxL] : cx.byRef 73 = true := rfl
@[simp] theorem pm73 [MaxL] : cx.perm 73 = false := rfl
@[simp] theorem pu73 [MaxL] : cx.pureF 73 = false := rfl
@[simp] theorem fz73 [MaxL] : cx.fzr 73 = true := rfl
@[simp] theorem br74 [MaxL] : cx.byRef 74 = true := rfl
@[simp] theorem pm74 [MaxL] : cx.perm 74 = false := rfl
@[simp] theorem pu74 [MaxL] : cx.pureF 74 = false := rfl
@[simp] theorem fz74 [MaxL] : cx.fzr 74 = true := rfl
@[simp] theorem br75 [MaxL] : cx.byRef 75 = false := rfl
@[simp] theorem pm75 [MaxL] : cx.perm 75 = false := rfl
@[simp] theorem pu75 [MaxL] : cx.pureF 75 = true := rfl
@[simp] theorem fz75 [MaxL] : cx.fzr 75 = true := rfl
@[simp] theorem br76 [MaxL] : cx.byRef 76 = false := rfl
@[simp] theorem pm76 [MaxL] : cx.perm 76 = false := rfl
@[simp] theorem pu76 [MaxL] : cx.pureF 76 = true := rfl
@[simp] theorem fz76 [MaxL] : cx.fzr 76 = true := rfl
@[simp] theorem br82 [MaxL] : cx.byRef 82 = false := rfl
@[simp] theorem pm82 [MaxL] : cx.perm 82 = false := rfl
@[simp] theorem pu82 [MaxL] : cx.pureF 82 = false := rfl
@[simp] theorem fz82 [MaxL] : cx.fzr 82 = true := rfl
@[simp] theorem br83 [MaxL] : cx.byRef 83 = false := rfl
@[simp] theorem pm83 [MaxL] : cx.perm 83 = false := rfl
@[simp] theorem pu83 [MaxL] : cx.pureF 83 = false := rfl
@[simp] theorem fz83 [MaxL] : cx.fzr 83 = true := rfl
@[simp] theorem br84 [MaxL] : cx.byRef 84 = false := rfl
@[simp] theorem pm84 [MaxL] : cx.perm 84 = false := rfl
@[simp] theorem pu84 [MaxL] : cx.pureF 84 = false := rfl
@[simp] theorem br88 [MaxL] : cx.byRef 88 = false := rfl
@[simp] theorem pm88 [MaxL] : cx.perm 88 = false := rfl
@[simp] theorem pu88 [MaxL] : cx.pureF 88 = true := rfl
@[simp] theorem br89 [MaxL] : cx.byRef 89 = false := rfl
@[simp] theorem pm89 [MaxL] : cx.perm 89 = false := rfl
@[simp] theorem pu89 [MaxL] : cx.pureF 89 = false := rfl
@[simp] theorem fz89 [MaxL] : cx.fzr 89 = true := rfl
@[simp] theorem br90 [MaxL] : cx.byRef 90 = false := rfl
@[simp] theorem pm90 [MaxL] : cx.perm 90 = false := rfl
@[simp] theorem pu90 [MaxL] : cx.pureF 90 = false := rfl
@[simp] theorem fz90 [MaxL] : cx.fzr 90 = true := rfl
@[simp] theorem br91 [MaxL] : cx.byRef 91 = false := rfl
@[simp] theorem pm91 [MaxL] : cx.perm 91 = false := rfl
@[simp] theorem pu91 [MaxL] : cx.pureF 91 = false := rfl
@[simp] theorem fz91 [MaxL] : cx.fzr 91 = true := rfl
@[simp] theorem br92 [MaxL] : cx.byRef 92 = false := rfl
@[simp] theorem pm92 [MaxL] : cx.perm 92 = false := rfl
@[simp] theorem pu92 [MaxL] : cx.pureF 92 = false := rfl
@[simp] theorem fz92 [MaxL] : cx.fzr 92 = true := rfl
@[simp] theorem br93 [MaxL] : cx.byRef 93 = false := rfl
@[simp] theorem pm93 [MaxL] : cx.perm 93 = false := rfl
@[simp] theorem pu93 [MaxL] : cx.pureF 93 = false := rfl
@[simp] theorem fz93 [MaxL] : cx.fzr 93 = true := rfl
@[simp] theorem br94 [MaxL] : cx.byRef 94 = false := rfl
@[simp] theorem pm94 [MaxL] : cx.perm 94 = false := rfl
@[simp] theorem pu94 [MaxL] : cx.pureF 94 = true := rfl
@[simp] theorem fz94 [MaxL] : cx.fzr 94 = true := rfl
@[simp] theorem br95 [MaxL] : cx.byRef 95 = false := rfl
@[simp] theorem pm95 [MaxL] : cx.perm 95 = false := rfl
@[simp] theorem pu95 [MaxL] : cx.pureF 95 = true := rfl
@[simp] theorem fz95 [MaxL] : cx.fzr 95 = true := rfl
@[simp] theorem br96 [MaxL] : cx.byRef 96 = false := rfl
@[simp] theorem pm96 [MaxL] : cx.perm 96 = false := rfl
@[simp] theorem pu96 [MaxL] : cx.pureF 96 = true := rfl
@[simp] theorem fz96 [MaxL] : cx.fzr 96 = true := rfl
@[simp] theorem br97 [MaxL] : cx.byRef 97 = false := rfl
@[simp] theorem pm97 [MaxL] : cx.perm 97 = false := rfl
@[simp] theorem pu97 [MaxL] : cx.pureF 97 = false := rfl
@[simp] theorem fz97 [MaxL] : cx.fzr 97 = true := rfl
@[simp] theorem br100 [MaxL] : cx.byRef 100 = false := rfl
@[simp] theorem pm100 [MaxL] : cx.perm 100 = false := rfl
@[simp] theorem pu100 [MaxL] : cx.pureF 100 = false := rfl
@[simp] theorem fz100 [MaxL] : cx.fzr 100 = true := rfl
@[simp] theorem br102 [MaxL] : cx.byRef 102 = false := rfl
@[simp] theorem pm102 [MaxL] : cx.perm 102 = false := rfl
@[simp] theorem pu102 [MaxL] : cx.pureF 102 = false := rfl
@[simp] theorem fz102 [MaxL] : cx.fzr 102 = true := rfl
@[simp] theorem br103 [MaxL] : cx.byRef 103 = false := rfl
@[simp] theorem pm103 [MaxL] : cx.perm 103 = false := rfl
@[simp] theorem pu103 [MaxL] : cx.pureF 103 = false := rfl
@[simp] theorem fz103 [MaxL] : cx.fzr 103 = true := rfl
@[simp] theorem br104 [MaxL] : cx.byRef 104 = false := rfl
@[simp] theorem pm104 [MaxL] : cx.perm 104 = false := rfl
@[simp] theorem pu104 [MaxL] : cx.pureF 104 = true := rfl
@[simp] theorem fz104 [MaxL] : cx.fzr 104 = true := rfl
@[simp] theorem br105 [MaxL] : cx.byRef 105 = false := rfl
@[simp] theorem pm105 [MaxL] : cx.perm 105 = false := rfl
@[simp] theorem pu105 [MaxL] : cx.pureF 105 = true := rfl
@[simp] theorem fz105 [MaxL] : cx.fzr 105 = true := rfl
@[simp] theorem br106 [MaxL] : cx.byRef 106 = false := rfl
@[simp] theorem pm106 [MaxL] : cx.perm 106 = false := rfl
@[simp] theorem pu106 [MaxL] : cx.pureF 106 = false := rfl
@[simp] theorem fz106 [MaxL] : cx.fzr 106 = true := rfl
theorem ex50 [MaxL] (args : List D) : cx.ext 50 args = cmpExt args := rfl
theorem ex67 [MaxL] (args : List D) : cx.ext 67 args = idxBExt args := rfl
theorem ex84 [MaxL] (args : List D) : cx.ext 84 args = cntExt args := rfl
theorem co60 [MaxL] (args : List D) (H : Heap) : cx.con 60 args H = conIdx args H := rfl
theorem co88 [MaxL] (args : List D) (H : Heap) : cx.con 88 args H = conClone args H := rfl
theorem co39 [MaxL] (args : List D) (H : Heap) : cx.con 39 args H = conRepeat args H := rfl
end Go.Ev.S
/- What the evaluator needs of this program: printed by program. -/
namespace Go.Ev.S
open Go Go.Proofs Go.Ev
@[simp] theorem en3_0 [MaxL] (n0 : Nat) (e : Env) (H : Heap) : enter cx 3 n0 0 e H = enterK [0, 1, 2, 3] 0 n0 e H := rfl
@[simp] theorem en3_1 [MaxL] (n0 : Nat) (e : Env) (H : Heap) : enter cx 3 n0 1 e H = enterK [0, 5, 6, 7] 0 n0 e H := rfl
@[simp] theorem en3_2 [MaxL] (n0 : Nat) (e : Env) (H : Heap) : enter cx 3 n0 2 e H = enterK [0, 5, 6, 7, 9] 0 n0 e H := rfl
@[simp] theorem en3_3 [MaxL] (n0 : Nat) (e : Env) (H : Heap) : enter cx 3 n0 3 e H = enterK [] 0 n0 e H := rfl
@[simp] theorem en3_4 [MaxL] (n0 : Nat) (e : Env) (H : Heap) : enter cx 3 n0 4 e H = enterK [0, 5, 6, 7, 9] 0 n0 e H := rfl
@[simp] theorem en3_5 [MaxL] (n0 : Nat) (e : Env) (H : Heap) : enter cx 3 n0 5 e H = enterK [9] 0 n0 e H := rfl
@[simp] theorem en3_6 [MaxL] (n0 : Nat) (e : Env) (H : Heap) : enter cx 3 n0 6 e H = enterK [0, 5, 6, 7, 9] 0 n0 e H := rfl
@[simp] theorem en3_7 [MaxL] (n0 : Nat) (e : Env) (H : Heap) : enter cx 3 n0 7 e H = enterK [0, 5, 6, 7, 9, 10] 0 n0 e H := rfl
@[simp] theorem en3_8 [MaxL] (n0 : Nat) (e : Env) (H : Heap) : enter cx 3 n0 8 e H = enterK [0, 5, 6, 7, 9, 10] 0 n0 e H := rfl
@[simp] theorem en3_9 [MaxL] (n0 : Nat) (e : Env) (H : Heap) : enter cx 3 n0 9 e H = enterK [0, 5, 6, 7, 9, 10] 0 n0 e H := rfl
@[simp] theorem en3_10 [MaxL] (n0 : Nat) (e : Env) (H : Heap) : enter cx 3 n0 10 e H = enterK [] 0 n0 e H := rfl
@[simp] theorem en3_11 [MaxL] (n0 : Nat) (e : Env) (H : Heap) : enter cx 3 n0 11 e H = enterK [0, 5, 6, 7, 9] 0 n0 e H := rfl
@[simp] theorem en3_12 [MaxL] (n0 : Nat) (e : Env) (H : Heap) : enter cx 3 n0 12 e H = enterK [0, 5, 6, 7, 9, 11, 12] 0 n0 e H := rfl
@[simp] theorem en3_13 [MaxL] (n0 : Nat) (e : Env) (H : Heap) : enter cx 3 n0 13 e H = enterK [0, 5, 6, 7, 9, 11, 12, 13, 14] 0 n0 e H := rfl
@[simp] theorem en3_14 [MaxL] (n0 : Nat) (e : Env) (H : Heap) : enter cx 3 n0 14 e H = enterK [0, 5, 6, 7, 9, 11, 12, 13, 14, 15, 16] 0 n0 e H := rfl
@[simp] theorem en3_15 [MaxL] (n0 : Nat) (e : Env) (H : Heap) : enter cx 3 n0 15 e H = enterK [0, 5, 6, 7, 9, 11, 12, 13, 14, 15, 16, 17, 18] 0 n0 e H := rfl
@[simp] theorem en3_16 [MaxL] (n0 : Nat) (e : Env) (H : Heap) : enter cx 3 n0 16 e H = enterK [0, 5, 6, 7, 9, 11, 12, 13, 14, 15, 16, 17, 18, 19, 20] 0 n0 e H := rfl
@[simp] theorem en3_17 [MaxL] (n0 : Nat) (e : Env) (H : Heap) : enter cx 3 n0 17 e H = enterK [5, 6, 7, 9, 11, 12, 13, 14, 15, 16, 17, 18, 19, 20, 21, 22] 0 n0 e H := rfl
@[simp] theorem en4_0 [MaxL] (n0 : Nat) (e : Env) (H : Heap) : enter cx 4 n0 0 e H = enterK [] 0 n0 e H := rfl
@[simp] theorem en4_1 [MaxL] (n0 : Nat) (e : Env) (H : Heap) : enter cx 4 n0 1 e H = enterK [] 0 n0 e H := rfl
@[simp] theorem en4_2 [MaxL] (n0 : Nat) (e : Env) (H : Heap) : enter cx 4 n0 2 e H = enterK [1] 0 n0 e H := rfl
@[simp] theorem en5_0 [MaxL] (n0 : Nat) (e : Env) (H : Heap) : enter cx 5 n0 0 e H = enterK [0] 0 n0 e H := rfl
@[simp] theorem en5_1 [MaxL] (n0 : Nat) (e : Env) (H : Heap) : enter cx 5 n0 1 e H = enterK [0, 2] 0 n0 e H := rfl
@[simp] theorem en5_2 [MaxL] (n0 : Nat) (e : Env) (H : Heap) : enter cx 5 n0 2 e H = enterK [0, 2, 4] 0 n0 e H := rfl
@[simp] theorem en5_3 [MaxL] (n0 : Nat) (e : Env) (H : Heap) : enter cx 5 n0 3 e H = enterK [0, 2, 4, 13, 14, 15] 5 n0 e H := rfl
@[simp] theorem en5_4 [MaxL] (n0 : Nat) (e : Env) (H : Heap) : enter cx 5 n0 4 e H = enterK [0, 2, 4, 13, 14, 15] 0 n0 e H := rfl
@[simp] theorem en5_5 [MaxL] (n0 : Nat) (e : Env) (H : Heap) : enter cx 5 n0 5 e H = enterK [0, 2, 4, 6, 13, 14, 15] 0 n0 e H := rfl
@[simp] theorem en5_6 [MaxL] (n0 : Nat) (e : Env) (H : Heap) : enter cx 5 n0 6 e H = enterK [0, 2, 4, 8, 13, 14, 15] 0 n0 e H := rfl
@[simp] theorem en5_7 [MaxL] (n0 : Nat) (e : Env) (H : Heap) : enter cx 5 n0 7 e H = enterK [0, 2, 4, 13, 14, 15] 0 n0 e H := rfl
@[simp] theorem en5_8 [MaxL] (n0 : Nat) (e : Env) (H : Heap) : enter cx 5 n0 8 e H = enterK [0, 2, 4] 0 n0 e H := rfl
@[simp] theorem en5_9 [MaxL] (n0 : Nat) (e : Env) (H : Heap) : enter cx 5 n0 9 e H = enterK [2] 0 n0 e H := rfl
@[simp] theorem en5_10 [MaxL] (n0 : Nat) (e : Env) (H : Heap) : enter cx 5 n0 10 e H = enterK [0, 2, 4] 0 n0 e H := rfl
@[simp] theorem en5_11 [MaxL] (n0 : Nat) (e : Env) (H : Heap) : enter cx 5 n0 11 e H = enterK [0, 2, 4, 10] 0 n0 e H := rfl
@[simp] theorem en5_12 [MaxL] (n0 : Nat) (e : Env) (H : Heap) : enter cx 5 n0 12 e H = enterK [0, 2, 4, 11] 0 n0 e H := rfl
@[simp] theorem en5_13 [MaxL] (n0 : Nat) (e : Env) (H : Heap) : enter cx 5 n0 13 e H = enterK [0, 2, 4, 11] 0 n0 e H := rfl
@[simp] theorem en5_14 [MaxL] (n0 : Nat) (e : Env) (H : Heap) : enter cx 5 n0 14 e H = enterK [0, 2, 11] 0 n0 e H := rfl
@[simp] theorem en5_15 [MaxL] (n0 : Nat) (e : Env) (H : Heap) : enter cx 5 n0 15 e H = enterK [2] 0 n0 e H := rfl
@[simp] theorem en5_16 [MaxL] (n0 : Nat) (e : Env) (H : Heap) : enter cx 5 n0 16 e H = enterK [2, 11] 0 n0 e H := rfl
@[simp] theorem en6_0 [MaxL] (n0 : Nat) (e : Env) (H : Heap) : enter cx 6 n0 0 e H = enterK [0] 0 n0 e H := rfl
@[simp] theorem en6_1 [MaxL] (n0 : Nat) (e : Env) (H : Heap) : enter cx 6 n0 1 e H = enterK [0, 2] 0 n0 e H := rfl
@[simp] theorem en6_2 [MaxL] (n0 : Nat) (e : Env) (H : Heap) : enter cx 6 n0 2 e H = enterK [0, 2, 4] 0 n0 e H := rfl
@[simp] theorem en6_3 [MaxL] (n0 : Nat) (e : Env) (H : Heap) : enter cx 6 n0 3 e H = enterK [0, 2, 4, 5] 0 n0 e H := rfl
@[simp] theorem en6_4 [MaxL] (n0 : Nat) (e : Env) (H : Heap) : enter cx 6 n0 4 e H = enterK [0, 2, 4, 5, 6] 4 n0 e H := rfl
@[simp] theorem en6_5 [MaxL] (n0 : Nat) (e : Env) (H : Heap) : enter cx 6 n0 5 e H = enterK [0, 2, 4, 5, 6] 0 n0 e H := rfl
@[simp] theorem en6_6 [MaxL] (n0 : Nat) (e : Env) (H : Heap) : enter cx 6 n0 6 e H = enterK [0, 2, 4, 5, 6] 0 n0 e H := rfl
@[simp] theorem en6_7 [MaxL] (n0 : Nat) (e : Env) (H : Heap) : enter cx 6 n0 7 e H = enterK [0, 2, 4, 5, 6] 0 n0 e H := rfl
@[simp] theorem en6_8 [MaxL] (n0 : Nat) (e : Env) (H : Heap) : enter cx 6 n0 8 e H = enterK [0, 2, 4, 6] 0 n0 e H := rfl
@[simp] theorem en6_9 [MaxL] (n0 : Nat) (e : Env) (H : Heap) : enter cx 6 n0 9 e H = enterK [0, 2, 4, 5, 6] 0 n0 e H := rfl
@[simp] theorem en6_10 [MaxL] (n0 : Nat) (e : Env) (H : Heap) : enter cx 6 n0 10 e H = enterK [0, 2, 4, 5] 0 n0 e H := rfl
@[simp] theorem en6_11 [MaxL] (n0 : Nat) (e : Env) (H : Heap) : enter cx 6 n0 11 e H = enterK [0, 2, 4] 0 n0 e H := rfl
@[simp] theorem en6_12 [MaxL] (n0 : Nat) (e : Env) (H : Heap) : enter cx 6 n0 12 e H = enterK [2] 0 n0 e H := rfl
@[simp] theorem en6_13 [MaxL] (n0 : Nat) (e : Env) (H : Heap) : enter cx 6 n0 13 e H = enterK [0, 2, 4] 0 n0 e H := rfl
@[simp] theorem en6_14 [MaxL] (n0 : Nat) (e : Env) (H : Heap) : enter cx 6 n0 14 e H = enterK [0, 2, 4, 7] 0 n0 e H := rfl
@[simp] theorem en6_15 [MaxL] (n0 : Nat) (e : Env) (H : Heap) : enter cx 6 n0 15 e H = enterK [0, 2, 4, 7] 0 n0 e H := rfl
@[simp] theorem en6_16 [MaxL] (n0 : Nat) (e : Env) (H : Heap) : enter cx 6 n0 16 e H = enterK [0, 2, 4, 7] 0 n0 e H := rfl
@[simp] theorem en6_17 [MaxL] (n0 : Nat) (e : Env) (H : Heap) : enter cx 6 n0 17 e H = enterK [2] 0 n0 e H := rfl
@[simp] theorem en6_18 [MaxL] (n0 : Nat) (e : Env) (H : Heap) : enter cx 6 n0 18 e H = enterK [0, 2, 4] 0 n0 e H := rfl
@[simp] theorem en6_19 [MaxL] (n0 : Nat) (e : Env) (H : Heap) : enter cx 6 n0 19 e H = enterK [0, 2, 4, 8] 0 n0 e H := rfl
@[simp] theorem en6_20 [MaxL] (n0 : Nat) (e : Env) (H : Heap) : enter cx 6 n0 20 e H = enterK [0, 2, 4, 8, 9] 0 n0 e H := rfl
@[simp] theorem en6_21 [MaxL] (n0 : Nat) (e : Env) (H : Heap) : enter cx 6 n0 21 e H = enterK [0, 2, 4, 8, 9] 0 n0 e H := rfl
@[simp] theorem en6_22 [MaxL] (n0 : Nat) (e : Env) (H : Heap) : enter cx 6 n0 22 e H = enterK [0, 2, 4, 8, 9] 0 n0 e H := rfl
@[simp] theorem en6_23 [MaxL] (n0 : Nat) (e : Env) (H : Heap) : enter cx 6 n0 23 e H = enterK [0, 2, 4, 8, 9] 0 n0 e H := rfl
@[simp] theorem en6_24 [MaxL] (n0 : Nat) (e : Env) (H : Heap) : enter cx 6 n0 24 e H = enterK [0, 2, 4, 8, 9] 0 n0 e H := rfl
@[simp] theorem en6_25 [MaxL] (n0 : Nat) (e : Env) (H : Heap) : enter cx 6 n0 25 e H = enterK [0, 2, 4, 8, 9] 0 n0 e H := rfl
@[simp] theorem en6_26 [MaxL] (n0 : Nat) (e : Env) (H : Heap) : enter cx 6 n0 26 e H = enterK [0, 2, 8, 9] 0 n0 e H := rfl
@[simp] theorem en6_27 [MaxL] (n0 : Nat) (e : Env) (H : Heap) : enter cx 6 n0 27 e H = enterK [2] 0 n0 e H := rfl
@[simp] theorem en6_28 [MaxL] (n0 : Nat) (e : Env) (H : Heap) : enter cx 6 n0 28 e H = enterK [2, 8] 0 n0 e H := rfl
@[simp] theorem en7_0 [MaxL] (n0 : Nat) (e : Env) (H : Heap) : enter cx 7 n0 0 e H = enterK [0] 0 n0 e H := rfl
@[simp] theorem en7_1 [MaxL] (n0 : Nat) (e : Env) (H : Heap) : enter cx 7 n0 1 e H = enterK [0, 2] 0 n0 e H := rfl
@[simp] theorem en7_2 [MaxL] (n0 : Nat) (e : Env) (H : Heap) : enter cx 7 n0 2 e H = enterK [0, 2, 4] 0 n0 e H := rfl
@[simp] theorem en7_3 [MaxL] (n0 : Nat) (e : Env) (H : Heap) : enter cx 7 n0 3 e H = enterK [2] 0 n0 e H := rfl
@[simp] theorem en7_4 [MaxL] (n0 : Nat) (e : Env) (H : Heap) : enter cx 7 n0 4 e H = enterK [0, 2, 4] 0 n0 e H := rfl
@[simp] theorem en7_5 [MaxL] (n0 : Nat) (e : Env) (H : Heap) : enter cx 7 n0 5 e H = enterK [0, 2, 4, 12, 13] 0 n0 e H := rfl
@[simp] theorem en7_6 [MaxL] (n0 : Nat) (e : Env) (H : Heap) : enter cx 7 n0 6 e H = enterK [0, 2, 4, 12, 13] 0 n0 e H := rfl
@[simp] theorem en7_7 [MaxL] (n0 : Nat) (e : Env) (H : Heap) : enter cx 7 n0 7 e H = enterK [0, 2, 4, 5, 12, 13] 0 n0 e H := rfl
@[simp] theorem en7_8 [MaxL] (n0 : Nat) (e : Env) (H : Heap) : enter cx 7 n0 8 e H = enterK [0, 2, 4, 5, 6, 12, 13] 0 n0 e H := rfl
@[simp] theorem en7_9 [MaxL] (n0 : Nat) (e : Env) (H : Heap) : enter cx 7 n0 9 e H = enterK [2] 0 n0 e H := rfl
@[simp] theorem en7_10 [MaxL] (n0 : Nat) (e : Env) (H : Heap) : enter cx 7 n0 10 e H = enterK [0, 2, 4, 5, 6, 12, 13] 0 n0 e H := rfl
@[simp] theorem en7_11 [MaxL] (n0 : Nat) (e : Env) (H : Heap) : enter cx 7 n0 11 e H = enterK [0, 2, 4, 12, 13] 0 n0 e H := rfl
@[simp] theorem en7_12 [MaxL] (n0 : Nat) (e : Env) (H : Heap) : enter cx 7 n0 12 e H = enterK [2, 4] 0 n0 e H := rfl
@[simp] theorem en8_0 [MaxL] (n0 : Nat) (e : Env) (H : Heap) : enter cx 8 n0 0 e H = enterK [0] 0 n0 e H := rfl
@[simp] theorem en8_1 [MaxL] (n0 : Nat) (e : Env) (H : Heap) : enter cx 8 n0 1 e H = enterK [0, 2] 0 n0 e H := rfl
@[simp] theorem en8_2 [MaxL] (n0 : Nat) (e : Env) (H : Heap) : enter cx 8 n0 2 e H = enterK [0, 2, 4] 0 n0 e H := rfl
@[simp] theorem en8_3 [MaxL] (n0 : Nat) (e : Env) (H : Heap) : enter cx 8 n0 3 e H = enterK [2, 4] 0 n0 e H := rfl
@[simp] theorem en8_4 [MaxL] (n0 : Nat) (e : Env) (H : Heap) : enter cx 8 n0 4 e H = enterK [0, 2, 4] 0 n0 e H := rfl
@[simp] theorem en8_5 [MaxL] (n0 : Nat) (e : Env) (H : Heap) : enter cx 8 n0 5 e H = enterK [0, 2, 4, 5] 0 n0 e H := rfl
@[simp] theorem en8_6 [MaxL] (n0 : Nat) (e : Env) (H : Heap) : enter cx 8 n0 6 e H = enterK [0, 2, 4, 5] 0 n0 e H := rfl
@[simp] theorem en8_7 [MaxL] (n0 : Nat) (e : Env) (H : Heap) : enter cx 8 n0 7 e H = enterK [0, 2, 4, 5] 0 n0 e H := rfl
@[simp] theorem en8_8 [MaxL] (n0 : Nat) (e : Env) (H : Heap) : enter cx 8 n0 8 e H = enterK [0, 2, 4, 5, 6, 7] 0 n0 e H := rfl
@[simp] theorem en8_9 [MaxL] (n0 : Nat) (e : Env) (H : Heap) : enter cx 8 n0 9 e H = enterK [2] 0 n0 e H := rfl
@[simp] theorem en8_10 [MaxL] (n0 : Nat) (e : Env) (H : Heap) : enter cx 8 n0 10 e H = enterK [0, 2, 4, 5, 6, 7] 0 n0 e H := rfl
@[simp] theorem en8_11 [MaxL] (n0 : Nat) (e : Env) (H : Heap) : enter cx 8 n0 11 e H = enterK [2, 4] 0 n0 e H := rfl
@[simp] theorem en9_0 [MaxL] (n0 : Nat) (e : Env) (H : Heap) : enter cx 9 n0 0 e H = enterK [0] 0 n0 e H := rfl
@[simp] theorem en9_1 [MaxL] (n0 : Nat) (e : Env) (H : Heap) : enter cx 9 n0 1 e H = enterK [0] 0 n0 e H := rfl
@[simp] theorem en9_2 [MaxL] (n0 : Nat) (e : Env) (H : Heap) : enter cx 9 n0 2 e H = enterK [0, 4, 5] 0 n0 e H := rfl
@[simp] theorem en9_3 [MaxL] (n0 : Nat) (e : Env) (H : Heap) : enter cx 9 n0 3 e H = enterK [] 0 n0 e H := rfl
@[simp] theorem en9_4 [MaxL] (n0 : Nat) (e : Env) (H : Heap) : enter cx 9 n0 4 e H = enterK [4] 0 n0 e H := rfl
@[simp] theorem en10_0 [MaxL] (n0 : Nat) (e : Env) (H : Heap) : enter cx 10 n0 0 e H = enterK [0] 0 n0 e H := rfl
@[simp] theorem en10_1 [MaxL] (n0 : Nat) (e : Env) (H : Heap) : enter cx 10 n0 1 e H = enterK [0] 0 n0 e H := rfl
@[simp] theorem en10_2 [MaxL] (n0 : Nat) (e : Env) (H : Heap) : enter cx 10 n0 2 e H = enterK [] 0 n0 e H := rfl
@[simp] theorem en10_3 [MaxL] (n0 : Nat) (e : Env) (H : Heap) : enter cx 10 n0 3 e H = enterK [0] 0 n0 e H := rfl
@[simp] theorem en11_0 [MaxL] (n0 : Nat) (e : Env) (H : Heap) : enter cx 11 n0 0 e H = enterK [0] 0 n0 e H := rfl
@[simp] theorem en11_1 [MaxL] (n0 : Nat) (e : Env) (H : Heap) : enter cx 11 n0 1 e H = enterK [1, 2] 0 n0 e H := rfl
@[simp] theorem en12_0 [MaxL] (n0 : Nat) (e : Env) (H : Heap) : enter cx 12 n0 0 e H = enterK [0] 0 n0 e H := rfl
@[simp] theorem en12_1 [MaxL] (n0 : Nat) (e : Env) (H : Heap) : enter cx 12 n0 1 e H = enterK [1] 0 n0 e H := rfl
@[simp] theorem en12_2 [MaxL] (n0 : Nat) (e : Env) (H : Heap) : enter cx 12 n0 2 e H = enterK [1, 3] 0 n0 e H := rfl
@[simp] theorem en13_0 [MaxL] (n0 : Nat) (e : Env) (H : Heap) : enter cx 13 n0 0 e H = enterK [0] 0 n0 e H := rfl
@[simp] theorem en13_1 [MaxL] (n0 : Nat) (e : Env) (H : Heap) : enter cx 13 n0 1 e H = enterK [1] 0 n0 e H := rfl
@[simp] theorem en14_0 [MaxL] (n0 : Nat) (e : Env) (H : Heap) : enter cx 14 n0 0 e H = enterK [0, 1] 0 n0 e H := rfl
@[simp] theorem en14_1 [MaxL] (n0 : Nat) (e : Env) (H : Heap) : enter cx 14 n0 1 e H = enterK [2, 3, 4] 0 n0 e H := rfl
@[simp] theorem en14_2 [MaxL] (n0 : Nat) (e : Env) (H : Heap) : enter cx 14 n0 2 e H = enterK [2, 3, 4, 5] 0 n0 e H := rfl
@[simp] theorem en14_3 [MaxL] (n0 : Nat) (e : Env) (H : Heap) : enter cx 14 n0 3 e H = enterK [2, 3, 4, 5, 9, 10, 11] 6 n0 e H := rfl
@[simp] theorem en14_4 [MaxL] (n0 : Nat) (e : Env) (H : Heap) : enter cx 14 n0 4 e H = enterK [2, 3, 4, 5, 9, 10, 11] 0 n0 e H := rfl
@[simp] theorem en14_5 [MaxL] (n0 : Nat) (e : Env) (H : Heap) : enter cx 14 n0 5 e H = enterK [2, 3, 4, 5, 7, 9, 10, 11] 0 n0 e H := rfl
@[simp] theorem en14_6 [MaxL] (n0 : Nat) (e : Env) (H : Heap) : enter cx 14 n0 6 e H = enterK [2, 3, 4, 5, 9, 10, 11] 0 n0 e H := rfl
@[simp] theorem en14_7 [MaxL] (n0 : Nat) (e : Env) (H : Heap) : enter cx 14 n0 7 e H = enterZ [5] [2, 3, 4, 5] 0 n0 e H := rfl
@[simp] theorem en15_0 [MaxL] (n0 : Nat) (e : Env) (H : Heap) : enter cx 15 n0 0 e H = enterK [0, 1] 0 n0 e H := rfl
@[simp] theorem en15_1 [MaxL] (n0 : Nat) (e : Env) (H : Heap) : enter cx 15 n0 1 e H = enterK [2, 3, 4] 0 n0 e H := rfl
@[simp] theorem en16_0 [MaxL] (n0 : Nat) (e : Env) (H : Heap) : enter cx 16 n0 0 e H = enterK [0, 1] 0 n0 e H := rfl
@[simp] theorem en16_1 [MaxL] (n0 : Nat) (e : Env) (H : Heap) : enter cx 16 n0 1 e H = enterK [2, 3] 0 n0 e H := rfl
@[simp] theorem en16_2 [MaxL] (n0 : Nat) (e : Env) (H : Heap) : enter cx 16 n0 2 e H = enterK [2, 3] 0 n0 e H := rfl
@[simp] theorem en16_3 [MaxL] (n0 : Nat) (e : Env) (H : Heap) : enter cx 16 n0 3 e H = enterZ [2, 3] [2, 3] 0 n0 e H := rfl
@[simp] theorem en17_0 [MaxL] (n0 : Nat) (e : Env) (H : Heap) : enter cx 17 n0 0 e H = enterK [0, 1] 0 n0 e H := rfl
@[simp] theorem en17_1 [MaxL] (n0 : Nat) (e : Env) (H : Heap) : enter cx 17 n0 1 e H = enterK [2, 3] 0 n0 e H := rfl
@[simp] theorem en17_2 [MaxL] (n0 : Nat) (e : Env) (H : Heap) : enter cx 17 n0 2 e H = enterK [2, 3] 0 n0 e H := rfl
@[simp] theorem en17_3 [MaxL] (n0 : Nat) (e : Env) (H : Heap) : enter cx 17 n0 3 e H = enterK [2, 3] 0 n0 e H := rfl
@[simp] theorem en17_4 [MaxL] (n0 : Nat) (e : Env) (H : Heap) : enter cx 17 n0 4 e H = enterK [2, 3] 0 n0 e H := rfl
@[simp] theorem en17_5 [MaxL] (n0 : Nat) (e : Env) (H : Heap) : enter cx 17 n0 5 e H = enterK [2, 3] 0 n0 e H := rfl
@[simp] theorem en18_0 [MaxL] (n0 : Nat) (e : Env) (H : Heap) : enter cx 18 n0 0 e H = enterK [0] 0 n0 e H := rfl
@[simp] theorem en18_1 [MaxL] (n0 : Nat) (e : Env) (H : Heap) : enter cx 18 n0 1 e H = enterK [1] 0 n0 e H := rfl
@[simp] theorem en18_2 [MaxL] (n0 : Nat) (e : Env) (H : Heap) : enter cx 18 n0 2 e H = enterK [1, 3] 0 n0 e H := rfl
@[simp] theorem en18_3 [MaxL] (n0 : Nat) (e : Env) (H : Heap) : enter cx 18 n0 3 e H = enterR [] [3] [6, 7] n0 e H := rfl
@[simp] theorem en18_4 [MaxL] (n0 : Nat) (e : Env) (H : Heap) : enter cx 18 n0 4 e H = enterK [3, 6, 7] 0 n0 e H := rfl
@[simp] theorem en18_5 [MaxL] (n0 : Nat) (e : Env) (H : Heap) : enter cx 18 n0 5 e H = enterK [3, 5, 6, 7] 0 n0 e H := rfl
@[simp] theorem en18_6 [MaxL] (n0 : Nat) (e : Env) (H : Heap) : enter cx 18 n0 6 e H = enterK [3, 6, 7] 0 n0 e H := rfl
@[simp] theorem en18_7 [MaxL] (n0 : Nat) (e : Env) (H : Heap) : enter cx 18 n0 7 e H = enterK [3] 0 n0 e H := rfl
@[simp] theorem en19_0 [MaxL] (n0 : Nat) (e : Env) (H : Heap) : enter cx 19 n0 0 e H = enterK [0] 0 n0 e H := rfl
@[simp] theorem en19_1 [MaxL] (n0 : Nat) (e : Env) (H : Heap) : enter cx 19 n0 1 e H = enterK [1] 0 n0 e H := rfl
@[simp] theorem en19_2 [MaxL] (n0 : Nat) (e : Env) (H : Heap) : enter cx 19 n0 2 e H = enterK [1, 3] 0 n0 e H := rfl
@[simp] theorem en19_3 [MaxL] (n0 : Nat) (e : Env) (H : Heap) : enter cx 19 n0 3 e H = enterK [1, 3, 4] 0 n0 e H := rfl
@[simp] theorem en19_4 [MaxL] (n0 : Nat) (e : Env) (H : Heap) : enter cx 19 n0 4 e H = enterK [1, 3, 4] 0 n0 e H := rfl
@[simp] theorem en19_5 [MaxL] (n0 : Nat) (e : Env) (H : Heap) : enter cx 19 n0 5 e H = enterK [1, 3, 4] 0 n0 e H := rfl
@[simp] theorem en19_6 [MaxL] (n0 : Nat) (e : Env) (H : Heap) : enter cx 19 n0 6 e H = enterK [3] 0 n0 e H := rfl
@[simp] theorem en20_0 [MaxL] (n0 : Nat) (e : Env) (H : Heap) : enter cx 20 n0 0 e H = enterK [0] 0 n0 e H := rfl
@[simp] theorem en20_1 [MaxL] (n0 : Nat) (e : Env) (H : Heap) : enter cx 20 n0 1 e H = enterK [0] 0 n0 e H := rfl
@[simp] theorem en20_2 [MaxL] (n0 : Nat) (e : Env) (H : Heap) : enter cx 20 n0 2 e H = enterK [3] 0 n0 e H := rfl
@[simp] theorem en21_0 [MaxL] (n0 : Nat) (e : Env) (H : Heap) : enter cx 21 n0 0 e H = enterK [0] 0 n0 e H := rfl
@[simp] theorem en21_1 [MaxL] (n0 : Nat) (e : Env) (H : Heap) : enter cx 21 n0 1 e H = enterK [0] 0 n0 e H := rfl
@[simp] theorem en21_2 [MaxL] (n0 : Nat) (e : Env) (H : Heap) : enter cx 21 n0 2 e H = enterK [0, 3] 0 n0 e H := rfl
@[simp] theorem en21_3 [MaxL] (n0 : Nat) (e : Env) (H : Heap) : enter cx 21 n0 3 e H = enterK [0, 3, 4] 0 n0 e H := rfl
@[simp] theorem en21_4 [MaxL] (n0 : Nat) (e : Env) (H : Heap) : enter cx 21 n0 4 e H = enterK [0, 3, 4] 0 n0 e H := rfl
@[simp] theorem en21_5 [MaxL] (n0 : Nat) (e : Env) (H : Heap) : enter cx 21 n0 5 e H = enterK [0, 3, 4] 0 n0 e H := rfl
@[simp] theorem en21_6 [MaxL] (n0 : Nat) (e : Env) (H : Heap) : enter cx 21 n0 6 e H = enterK [0, 3, 4] 0 n0 e H := rfl
@[simp] theorem en21_7 [MaxL] (n0 : Nat) (e : Env) (H : Heap) : enter cx 21 n0 7 e H = enterK [3] 0 n0 e H := rfl
@[simp] theorem en22_0 [MaxL] (n0 : Nat) (e : Env) (H : Heap) : enter cx 22 n0 0 e H = enterK [0, 1] 0 n0 e H := rfl
@[simp] theorem en22_1 [MaxL] (n0 : Nat) (e : Env) (H : Heap) : enter cx 22 n0 1 e H = enterK [0, 1] 0 n0 e H := rfl
@[simp] theorem en23_0 [MaxL] (n0 : Nat) (e : Env) (H : Heap) : enter cx 23 n0 0 e H = enterK [0, 1] 0 n0 e H := rfl
@[simp] theorem en23_1 [MaxL] (n0 : Nat) (e : Env) (H : Heap) : enter cx 23 n0 1 e H = enterK [0, 1] 0 n0 e H := rfl
@[simp] theorem en24_0 [MaxL] (n0 : Nat) (e : Env) (H : Heap) : enter cx 24 n0 0 e H = enterK [0, 1] 0 n0 e H := rfl
@[simp] theorem en24_1 [MaxL] (n0 : Nat) (e : Env) (H : Heap) : enter cx 24 n0 1 e H = enterK [0, 1] 0 n0 e H := rfl
@[simp] theorem en24_2 [MaxL] (n0 : Nat) (e : Env) (H : Heap) : enter cx 24 n0 2 e H = enterK [4, 5] 0 n0 e H := rfl
@[simp] theorem en24_3 [MaxL] (n0 : Nat) (e : Env) (H : Heap) : enter cx 24 n0 3 e H = enterK [] 0 n0 e H := rfl
@[simp] theorem en24_4 [MaxL] (n0 : Nat) (e : Env) (H : Heap) : enter cx 24 n0 4 e H = enterK [4] 0 n0 e H := rfl
@[simp] theorem en25_0 [MaxL] (n0 : Nat) (e : Env) (H : Heap) : enter cx 25 n0 0 e H = enterK [0, 1, 2] 0 n0 e H := rfl
@[simp] theorem en25_1 [MaxL] (n0 : Nat) (e : Env) (H : Heap) : enter cx 25 n0 1 e H = enterK [0, 1, 2] 0 n0 e H := rfl
@[simp] theorem en25_2 [MaxL] (n0 : Nat) (e : Env) (H : Heap) : enter cx 25 n0 2 e H = enterK [0, 1, 2, 8, 9] 0 n0 e H := rfl
@[simp] theorem en25_3 [MaxL] (n0 : Nat) (e : Env) (H : Heap) : enter cx 25 n0 3 e H = enterK [0, 1, 2, 8, 9] 0 n0 e H := rfl
@[simp] theorem en25_4 [MaxL] (n0 : Nat) (e : Env) (H : Heap) : enter cx 25 n0 4 e H = enterK [8] 0 n0 e H := rfl
@[simp] theorem en26_0 [MaxL] (n0 : Nat) (e : Env) (H : Heap) : enter cx 26 n0 0 e H = enterK [0] 0 n0 e H := rfl
@[simp] theorem en26_1 [MaxL] (n0 : Nat) (e : Env) (H : Heap) : enter cx 26 n0 1 e H = enterK [0] 0 n0 e H := rfl
@[simp] theorem en26_2 [MaxL] (n0 : Nat) (e : Env) (H : Heap) : enter cx 26 n0 2 e H = enterK [0, 4] 0 n0 e H := rfl
@[simp] theorem en26_3 [MaxL] (n0 : Nat) (e : Env) (H : Heap) : enter cx 26 n0 3 e H = enterK [0, 4, 5] 0 n0 e H := rfl
@[simp] theorem en26_4 [MaxL] (n0 : Nat) (e : Env) (H : Heap) : enter cx 26 n0 4 e H = enterK [0, 4, 5] 0 n0 e H := rfl
@[simp] theorem en26_5 [MaxL] (n0 : Nat) (e : Env) (H : Heap) : enter cx 26 n0 5 e H = enterK [0, 4, 5] 0 n0 e H := rfl
@[simp] theorem en26_6 [MaxL] (n0 : Nat) (e : Env) (H : Heap) : enter cx 26 n0 6 e H = enterK [0, 4, 5, 6] 0 n0 e H := rfl
@[simp] theorem en26_7 [MaxL] (n0 : Nat) (e : Env) (H : Heap) : enter cx 26 n0 7 e H = enterK [] 0 n0 e H := rfl
@[simp] theorem en26_8 [MaxL] (n0 : Nat) (e : Env) (H : Heap) : enter cx 26 n0 8 e H = enterK [0, 4, 5, 6] 0 n0 e H := rfl
@[simp] theorem en26_9 [MaxL] (n0 : Nat) (e : Env) (H : Heap) : enter cx 26 n0 9 e H = enterK [0, 4] 0 n0 e H := rfl
@[simp] theorem en27_0 [MaxL] (n0 : Nat) (e : Env) (H : Heap) : enter cx 27 n0 0 e H = enterK [0, 1] 0 n0 e H := rfl
@[simp] theorem en27_1 [MaxL] (n0 : Nat) (e : Env) (H : Heap) : enter cx 27 n0 1 e H = enterK [0, 1] 0 n0 e H := rfl
@[simp] theorem en28_0 [MaxL] (n0 : Nat) (e : Env) (H : Heap) : enter cx 28 n0 0 e H = enterK [0] 0 n0 e H := rfl
@[simp] theorem en28_1 [MaxL] (n0 : Nat) (e : Env) (H : Heap) : enter cx 28 n0 1 e H = enterK [0] 0 n0 e H := rfl
@[simp] theorem en28_2 [MaxL] (n0 : Nat) (e : Env) (H : Heap) : enter cx 28 n0 2 e H = enterK [0, 3] 0 n0 e H := rfl
@[simp] theorem en28_3 [MaxL] (n0 : Nat) (e : Env) (H : Heap) : enter cx 28 n0 3 e H = enterK [0, 3] 0 n0 e H := rfl
@[simp] theorem en28_4 [MaxL] (n0 : Nat) (e : Env) (H : Heap) : enter cx 28 n0 4 e H = enterK [0, 3] 0 n0 e H := rfl
@[simp] theorem en28_5 [MaxL] (n0 : Nat) (e : Env) (H : Heap) : enter cx 28 n0 5 e H = enterK [3] 0 n0 e H := rfl
@[simp] theorem en28_6 [MaxL] (n0 : Nat) (e : Env) (H : Heap) : enter cx 28 n0 6 e H = enterK [] 0 n0 e H := rfl
@[simp] theorem en29_0 [MaxL] (n0 : Nat) (e : Env) (H : Heap) : enter cx 29 n0 0 e H = enterK [0] 0 n0 e H := rfl
@[simp] theorem en29_1 [MaxL] (n0 : Nat) (e : Env) (H : Heap) : enter cx 29 n0 1 e H = enterK [0] 0 n0 e H := rfl
@[simp] theorem en30_0 [MaxL] (n0 : Nat) (e : Env) (H : Heap) : enter cx 30 n0 0 e H = enterK [0, 1] 0 n0 e H := rfl
@[simp] theorem en30_1 [MaxL] (n0 : Nat) (e : Env) (H : Heap) : enter cx 30 n0 1 e H = enterK [0, 1] 0 n0 e H := rfl
@[simp] theorem en31_0 [MaxL] (n0 : Nat) (e : Env) (H : Heap) : enter cx 31 n0 0 e H = enterK [0] 0 n0 e H := rfl
@[simp] theorem en31_1 [MaxL] (n0 : Nat) (e : Env) (H : Heap) : enter cx 31 n0 1 e H = enterK [0] 0 n0 e H := rfl
@[simp] theorem en31_2 [MaxL] (n0 : Nat) (e : Env) (H : Heap) : enter cx 31 n0 2 e H = enterK [3] 0 n0 e H := rfl
@[simp] theorem en31_3 [MaxL] (n0 : Nat) (e : Env) (H : Heap) : enter cx 31 n0 3 e H = enterK [3] 0 n0 e H := rfl
@[simp] theorem en31_4 [MaxL] (n0 : Nat) (e : Env) (H : Heap) : enter cx 31 n0 4 e H = enterK [3] 0 n0 e H := rfl
@[simp] theorem en32_0 [MaxL] (n0 : Nat) (e : Env) (H : Heap) : enter cx 32 n0 0 e H = enterK [0] 0 n0 e H := rfl
@[simp] theorem en32_1 [MaxL] (n0 : Nat) (e : Env) (H : Heap) : enter cx 32 n0 1 e H = enterK [0] 0 n0 e H := rfl
@[simp] theorem en32_2 [MaxL] (n0 : Nat) (e : Env) (H : Heap) : enter cx 32 n0 2 e H = enterK [0, 3] 0 n0 e H := rfl
@[simp] theorem en32_3 [MaxL] (n0 : Nat) (e : Env) (H : Heap) : enter cx 32 n0 3 e H = enterK [3, 6, 7, 8] 0 n0 e H := rfl
@[simp] theorem en32_4 [MaxL] (n0 : Nat) (e : Env) (H : Heap) : enter cx 32 n0 4 e H = enterK [3, 6, 7, 8] 0 n0 e H := rfl
@[simp] theorem en32_5 [MaxL] (n0 : Nat) (e : Env) (H : Heap) : enter cx 32 n0 5 e H = enterK [3, 5, 6, 7, 8] 0 n0 e H := rfl
@[simp] theorem en32_6 [MaxL] (n0 : Nat) (e : Env) (H : Heap) : enter cx 32 n0 6 e H = enterK [3, 6, 7, 8] 0 n0 e H := rfl
@[simp] theorem en32_7 [MaxL] (n0 : Nat) (e : Env) (H : Heap) : enter cx 32 n0 7 e H = enterK [3] 0 n0 e H := rfl
@[simp] theorem en33_0 [MaxL] (n0 : Nat) (e : Env) (H : Heap) : enter cx 33 n0 0 e H = enterK [0] 0 n0 e H := rfl
@[simp] theorem en33_1 [MaxL] (n0 : Nat) (e : Env) (H : Heap) : enter cx 33 n0 1 e H = enterK [0] 0 n0 e H := rfl
@[simp] theorem en33_2 [MaxL] (n0 : Nat) (e : Env) (H : Heap) : enter cx 33 n0 2 e H = enterK [0, 3] 0 n0 e H := rfl
@[simp] theorem en33_3 [MaxL] (n0 : Nat) (e : Env) (H : Heap) : enter cx 33 n0 3 e H = enterK [0, 3, 4] 0 n0 e H := rfl
@[simp] theorem en33_4 [MaxL] (n0 : Nat) (e : Env) (H : Heap) : enter cx 33 n0 4 e H = enterK [0, 3, 4] 0 n0 e H := rfl
@[simp] theorem en33_5 [MaxL] (n0 : Nat) (e : Env) (H : Heap) : enter cx 33 n0 5 e H = enterK [0, 3, 4] 0 n0 e H := rfl
@[simp] theorem en33_6 [MaxL] (n0 : Nat) (e : Env) (H : Heap) : enter cx 33 n0 6 e H = enterK [3] 0 n0 e H := rfl
@[simp] theorem en34_0 [MaxL] (n0 : Nat) (e : Env) (H : Heap) : enter cx 34 n0 0 e H = enterK [0, 1] 0 n0 e H := rfl
@[simp] theorem en34_1 [MaxL] (n0 : Nat) (e : Env) (H : Heap) : enter cx 34 n0 1 e H = enterK [0, 1] 0 n0 e H := rfl
@[simp] theorem en34_2 [MaxL] (n0 : Nat) (e : Env) (H : Heap) : enter cx 34 n0 2 e H = enterK [0, 1, 5] 0 n0 e H := rfl
@[simp] theorem en34_3 [MaxL] (n0 : Nat) (e : Env) (H : Heap) : enter cx 34 n0 3 e H = enterK [0, 1, 5, 6] 0 n0 e H := rfl
@[simp] theorem en34_4 [MaxL] (n0 : Nat) (e : Env) (H : Heap) : enter cx 34 n0 4 e H = enterK [6] 0 n0 e H := rfl
@[simp] theorem en34_5 [MaxL] (n0 : Nat) (e : Env) (H : Heap) : enter cx 34 n0 5 e H = enterK [] 0 n0 e H := rfl
@[simp] theorem en34_6 [MaxL] (n0 : Nat) (e : Env) (H : Heap) : enter cx 34 n0 6 e H = enterK [] 0 n0 e H := rfl
@[simp] theorem en34_7 [MaxL] (n0 : Nat) (e : Env) (H : Heap) : enter cx 34 n0 7 e H = enterK [0, 1, 6] 0 n0 e H := rfl
@[simp] theorem en34_8 [MaxL] (n0 : Nat) (e : Env) (H : Heap) : enter cx 34 n0 8 e H = enterK [] 0 n0 e H := rfl
@[simp] theorem en34_9 [MaxL] (n0 : Nat) (e : Env) (H : Heap) : enter cx 34 n0 9 e H = enterK [0, 1] 0 n0 e H := rfl
@[simp] theorem en34_10 [MaxL] (n0 : Nat) (e : Env) (H : Heap) : enter cx 34 n0 10 e H = enterK [] 0 n0 e H := rfl
@[simp] theorem en34_11 [MaxL] (n0 : Nat) (e : Env) (H : Heap) : enter cx 34 n0 11 e H = enterK [0, 1] 0 n0 e H := rfl
@[simp] theorem en34_12 [MaxL] (n0 : Nat) (e : Env) (H : Heap) : enter cx 34 n0 12 e H = enterK [] 0 n0 e H := rfl
@[simp] theorem en34_13 [MaxL] (n0 : Nat) (e : Env) (H : Heap) : enter cx 34 n0 13 e H = enterK [] 0 n0 e H := rfl
@[simp] theorem en35_0 [MaxL] (n0 : Nat) (e : Env) (H : Heap) : enter cx 35 n0 0 e H = enterK [0] 0 n0 e H := rfl
@[simp] theorem en35_1 [MaxL] (n0 : Nat) (e : Env) (H : Heap) : enter cx 35 n0 1 e H = enterK [0] 0 n0 e H := rfl
@[simp] theorem en35_2 [MaxL] (n0 : Nat) (e : Env) (H : Heap) : enter cx 35 n0 2 e H = enterK [0, 3] 0 n0 e H := rfl
@[simp] theorem en35_3 [MaxL] (n0 : Nat) (e : Env) (H : Heap) : enter cx 35 n0 3 e H = enterK [3, 6, 7, 8] 0 n0 e H := rfl
@[simp] theorem en35_4 [MaxL] (n0 : Nat) (e : Env) (H : Heap) : enter cx 35 n0 4 e H = enterK [3, 6, 7, 8] 0 n0 e H := rfl
@[simp] theorem en35_5 [MaxL] (n0 : Nat) (e : Env) (H : Heap) : enter cx 35 n0 5 e H = enterK [3, 5, 6, 7, 8] 0 n0 e H := rfl
@[simp] theorem en35_6 [MaxL] (n0 : Nat) (e : Env) (H : Heap) : enter cx 35 n0 6 e H = enterK [5] 0 n0 e H := rfl
@[simp] theorem en35_7 [MaxL] (n0 : Nat) (e : Env) (H : Heap) : enter cx 35 n0 7 e H = enterK [3, 6, 7, 8] 0 n0 e H := rfl
@[simp] theorem en35_8 [MaxL] (n0 : Nat) (e : Env) (H : Heap) : enter cx 35 n0 8 e H = enterK [3] 0 n0 e H := rfl
@[simp] theorem en36_0 [MaxL] (n0 : Nat) (e : Env) (H : Heap) : enter cx 36 n0 0 e H = enterK [0, 1] 0 n0 e H := rfl
@[simp] theorem en36_1 [MaxL] (n0 : Nat) (e : Env) (H : Heap) : enter cx 36 n0 1 e H = enterK [0, 1] 0 n0 e H := rfl
@[simp] theorem en37_0 [MaxL] (n0 : Nat) (e : Env) (H : Heap) : enter cx 37 n0 0 e H = enterK [0, 1] 0 n0 e H := rfl
@[simp] theorem en37_1 [MaxL] (n0 : Nat) (e : Env) (H : Heap) : enter cx 37 n0 1 e H = enterK [0, 1] 0 n0 e H := rfl
@[simp] theorem en37_2 [MaxL] (n0 : Nat) (e : Env) (H : Heap) : enter cx 37 n0 2 e H = enterK [] 0 n0 e H := rfl
@[simp] theorem en37_3 [MaxL] (n0 : Nat) (e : Env) (H : Heap) : enter cx 37 n0 3 e H = enterK [0, 1] 0 n0 e H := rfl
@[simp] theorem en37_4 [MaxL] (n0 : Nat) (e : Env) (H : Heap) : enter cx 37 n0 4 e H = enterK [] 0 n0 e H := rfl
@[simp] theorem en37_5 [MaxL] (n0 : Nat) (e : Env) (H : Heap) : enter cx 37 n0 5 e H = enterK [] 0 n0 e H := rfl
@[simp] theorem en38_0 [MaxL] (n0 : Nat) (e : Env) (H : Heap) : enter cx 38 n0 0 e H = enterK [0, 1] 0 n0 e H := rfl
@[simp] theorem en38_1 [MaxL] (n0 : Nat) (e : Env) (H : Heap) : enter cx 38 n0 1 e H = enterK [2, 3] 0 n0 e H := rfl
@[simp] theorem en38_2 [MaxL] (n0 : Nat) (e : Env) (H : Heap) : enter cx 38 n0 2 e H = enterK [2, 3, 5] 0 n0 e H := rfl
@[simp] theorem en38_3 [MaxL] (n0 : Nat) (e : Env) (H : Heap) : enter cx 38 n0 3 e H = enterK [2, 3, 5] 0 n0 e H := rfl
@[simp] theorem en38_4 [MaxL] (n0 : Nat) (e : Env) (H : Heap) : enter cx 38 n0 4 e H = enterK [2, 3, 5] 0 n0 e H := rfl
@[simp] theorem en38_5 [MaxL] (n0 : Nat) (e : Env) (H : Heap) : enter cx 38 n0 5 e H = enterK [2, 3, 5] 0 n0 e H := rfl
@[simp] theorem en38_6 [MaxL] (n0 : Nat) (e : Env) (H : Heap) : enter cx 38 n0 6 e H = enterK [] 0 n0 e H := rfl
@[simp] theorem en40_0 [MaxL] (n0 : Nat) (e : Env) (H : Heap) : enter cx 40 n0 0 e H = enterK [0, 1, 2, 3] 0 n0 e H := rfl
@[simp] theorem en40_1 [MaxL] (n0 : Nat) (e : Env) (H : Heap) : enter cx 40 n0 1 e H = enterK [0, 1, 2, 3] 0 n0 e H := rfl
@[simp] theorem en40_2 [MaxL] (n0 : Nat) (e : Env) (H : Heap) : enter cx 40 n0 2 e H = enterK [] 0 n0 e H := rfl
@[simp] theorem en40_3 [MaxL] (n0 : Nat) (e : Env) (H : Heap) : enter cx 40 n0 3 e H = enterK [0, 1, 2, 3] 0 n0 e H := rfl
@[simp] theorem en40_4 [MaxL] (n0 : Nat) (e : Env) (H : Heap) : enter cx 40 n0 4 e H = enterK [0, 3] 0 n0 e H := rfl
@[simp] theorem en40_5 [MaxL] (n0 : Nat) (e : Env) (H : Heap) : enter cx 40 n0 5 e H = enterK [0, 1, 2, 3] 0 n0 e H := rfl
@[simp] theorem en40_6 [MaxL] (n0 : Nat) (e : Env) (H : Heap) : enter cx 40 n0 6 e H = enterK [0, 1, 2] 0 n0 e H := rfl
@[simp] theorem en40_7 [MaxL] (n0 : Nat) (e : Env) (H : Heap) : enter cx 40 n0 7 e H = enterK [0, 1, 2, 3] 0 n0 e H := rfl
@[simp] theorem en40_8 [MaxL] (n0 : Nat) (e : Env) (H : Heap) : enter cx 40 n0 8 e H = enterK [0, 1, 2, 3] 0 n0 e H := rfl
@[simp] theorem en40_9 [MaxL] (n0 : Nat) (e : Env) (H : Heap) : enter cx 40 n0 9 e H = enterK [0, 1, 2, 3, 9] 0 n0 e H := rfl
@[simp] theorem en40_10 [MaxL] (n0 : Nat) (e : Env) (H : Heap) : enter cx 40 n0 10 e H = enterK [0, 1, 2, 3, 9] 0 n0 e H := rfl
@[simp] theorem en40_11 [MaxL] (n0 : Nat) (e : Env) (H : Heap) : enter cx 40 n0 11 e H = enterK [0, 1, 2, 3, 9, 10] 0 n0 e H := rfl
@[simp] theorem en40_12 [MaxL] (n0 : Nat) (e : Env) (H : Heap) : enter cx 40 n0 12 e H = enterK [0, 1, 2, 3, 9, 10] 0 n0 e H := rfl
@[simp] theorem en40_13 [MaxL] (n0 : Nat) (e : Env) (H : Heap) : enter cx 40 n0 13 e H = enterK [0, 1, 2, 3, 9, 10, 11] 0 n0 e H := rfl
@[simp] theorem en40_14 [MaxL] (n0 : Nat) (e : Env) (H : Heap) : enter cx 40 n0 14 e H = enterK [0, 1, 2, 3, 9, 10, 11] 0 n0 e H := rfl
@[simp] theorem en40_15 [MaxL] (n0 : Nat) (e : Env) (H : Heap) : enter cx 40 n0 15 e H = enterK [0, 1, 2, 3, 9, 10, 11] 0 n0 e H := rfl
@[simp] theorem en40_16 [MaxL] (n0 : Nat) (e : Env) (H : Heap) : enter cx 40 n0 16 e H = enterK [0, 1, 2, 3, 9, 10] 0 n0 e H := rfl
@[simp] theorem en40_17 [MaxL] (n0 : Nat) (e : Env) (H : Heap) : enter cx 40 n0 17 e H = enterK [0, 9, 10] 0 n0 e H := rfl
@[simp] theorem en40_18 [MaxL] (n0 : Nat) (e : Env) (H : Heap) : enter cx 40 n0 18 e H = enterK [9, 10] 0 n0 e H := rfl
@[simp] theorem en41_0 [MaxL] (n0 : Nat) (e : Env) (H : Heap) : enter cx 41 n0 0 e H = enterK [0, 1] 0 n0 e H := rfl
@[simp] theorem en41_1 [MaxL] (n0 : Nat) (e : Env) (H : Heap) : enter cx 41 n0 1 e H = enterK [0, 1] 0 n0 e H := rfl
@[simp] theorem en41_2 [MaxL] (n0 : Nat) (e : Env) (H : Heap) : enter cx 41 n0 2 e H = enterK [0, 1, 7] 0 n0 e H := rfl
@[simp] theorem en41_3 [MaxL] (n0 : Nat) (e : Env) (H : Heap) : enter cx 41 n0 3 e H = enterK [0, 1, 7] 0 n0 e H := rfl
@[simp] theorem en41_4 [MaxL] (n0 : Nat) (e : Env) (H : Heap) : enter cx 41 n0 4 e H = enterK [0] 0 n0 e H := rfl
@[simp] theorem en42_0 [MaxL] (n0 : Nat) (e : Env) (H : Heap) : enter cx 42 n0 0 e H = enterK [0, 1, 2] 0 n0 e H := rfl
@[simp] theorem en42_1 [MaxL] (n0 : Nat) (e : Env) (H : Heap) : enter cx 42 n0 1 e H = enterK [0, 1, 2] 0 n0 e H := rfl
@[simp] theorem en42_2 [MaxL] (n0 : Nat) (e : Env) (H : Heap) : enter cx 42 n0 2 e H = enterK [] 0 n0 e H := rfl
@[simp] theorem en42_3 [MaxL] (n0 : Nat) (e : Env) (H : Heap) : enter cx 42 n0 3 e H = enterK [0, 1, 2] 0 n0 e H := rfl
@[simp] theorem en42_4 [MaxL] (n0 : Nat) (e : Env) (H : Heap) : enter cx 42 n0 4 e H = enterK [0, 1, 2, 8] 0 n0 e H := rfl
@[simp] theorem en42_5 [MaxL] (n0 : Nat) (e : Env) (H : Heap) : enter cx 42 n0 5 e H = enterK [] 0 n0 e H := rfl
@[simp] theorem en42_6 [MaxL] (n0 : Nat) (e : Env) (H : Heap) : enter cx 42 n0 6 e H = enterK [0, 1, 2, 8, 9] 0 n0 e H := rfl
@[simp] theorem en42_7 [MaxL] (n0 : Nat) (e : Env) (H : Heap) : enter cx 42 n0 7 e H = enterK [0, 1, 2, 8, 9] 0 n0 e H := rfl
@[simp] theorem en42_8 [MaxL] (n0 : Nat) (e : Env) (H : Heap) : enter cx 42 n0 8 e H = enterK [0, 2, 8, 9] 0 n0 e H := rfl
@[simp] theorem en42_9 [MaxL] (n0 : Nat) (e : Env) (H : Heap) : enter cx 42 n0 9 e H = enterK [0, 1, 2, 8, 9] 0 n0 e H := rfl
@[simp] theorem en42_10 [MaxL] (n0 : Nat) (e : Env) (H : Heap) : enter cx 42 n0 10 e H = enterK [0, 2, 8, 9] 0 n0 e H := rfl
@[simp] theorem en42_11 [MaxL] (n0 : Nat) (e : Env) (H : Heap) : enter cx 42 n0 11 e H = enterK [0, 1, 2, 8, 9] 0 n0 e H := rfl
@[simp] theorem en42_12 [MaxL] (n0 : Nat) (e : Env) (H : Heap) : enter cx 42 n0 12 e H = enterK [0, 2, 8, 9] 0 n0 e H := rfl
@[simp] theorem en42_13 [MaxL] (n0 : Nat) (e : Env) (H : Heap) : enter cx 42 n0 13 e H = enterK [0, 2, 8, 9] 0 n0 e H := rfl
@[simp] theorem en42_14 [MaxL] (n0 : Nat) (e : Env) (H : Heap) : enter cx 42 n0 14 e H = enterK [0, 1, 2, 8, 9] 0 n0 e H := rfl
@[simp] theorem en42_15 [MaxL] (n0 : Nat) (e : Env) (H : Heap) : enter cx 42 n0 15 e H = enterK [0, 2, 8, 9] 0 n0 e H := rfl
@[simp] theorem en42_16 [MaxL] (n0 : Nat) (e : Env) (H : Heap) : enter cx 42 n0 16 e H = enterK [0, 2, 8, 9] 0 n0 e H := rfl
@[simp] theorem en42_17 [MaxL] (n0 : Nat) (e : Env) (H : Heap) : enter cx 42 n0 17 e H = enterK [0, 1, 2, 8, 9] 0 n0 e H := rfl
@[simp] theorem en42_18 [MaxL] (n0 : Nat) (e : Env) (H : Heap) : enter cx 42 n0 18 e H = enterK [0, 2, 8, 9] 0 n0 e H := rfl
@[simp] theorem en42_19 [MaxL] (n0 : Nat) (e : Env) (H : Heap) : enter cx 42 n0 19 e H = enterK [0, 2, 8, 9] 0 n0 e H := rfl
@[simp] theorem en42_20 [MaxL] (n0 : Nat) (e : Env) (H : Heap) : enter cx 42 n0 20 e H = enterK [0, 1, 2, 8, 9] 0 n0 e H := rfl
@[simp] theorem en42_21 [MaxL] (n0 : Nat) (e : Env) (H : Heap) : enter cx 42 n0 21 e H = enterK [0, 1, 2, 8, 9] 0 n0 e H := rfl
@[simp] theorem en42_22 [MaxL] (n0 : Nat) (e : Env) (H : Heap) : enter cx 42 n0 22 e H = enterK [0, 1, 8, 9] 0 n0 e H := rfl
@[simp] theorem en42_23 [MaxL] (n0 : Nat) (e : Env) (H : Heap) : enter cx 42 n0 23 e H = enterK [0, 1, 2, 8, 9] 0 n0 e H := rfl
@[simp] theorem en42_24 [MaxL] (n0 : Nat) (e : Env) (H : Heap) : enter cx 42 n0 24 e H = enterK [] 0 n0 e H := rfl
@[simp] theorem en42_25 [MaxL] (n0 : Nat) (e : Env) (H : Heap) : enter cx 42 n0 25 e H = enterK [0, 1, 2, 8, 9] 0 n0 e H := rfl
@[simp] theorem en42_26 [MaxL] (n0 : Nat) (e : Env) (H : Heap) : enter cx 42 n0 26 e H = enterK [0, 1, 2, 8, 9] 0 n0 e H := rfl
@[simp] theorem en42_27 [MaxL] (n0 : Nat) (e : Env) (H : Heap) : enter cx 42 n0 27 e H = enterK [0, 1, 2, 8, 9] 0 n0 e H := rfl
@[simp] theorem en42_28 [MaxL] (n0 : Nat) (e : Env) (H : Heap) : enter cx 42 n0 28 e H = enterK [0, 1, 2, 8, 9, 85] 0 n0 e H := rfl
@[simp] theorem en42_29 [MaxL] (n0 : Nat) (e : Env) (H : Heap) : enter cx 42 n0 29 e H = enterK [0, 1, 2, 8, 9] 0 n0 e H := rfl
@[simp] theorem en42_30 [MaxL] (n0 : Nat) (e : Env) (H : Heap) : enter cx 42 n0 30 e H = enterK [0, 1, 2, 8, 9, 85] 0 n0 e H := rfl
@[simp] theorem en42_31 [MaxL] (n0 : Nat) (e : Env) (H : Heap) : enter cx 42 n0 31 e H = enterK [0, 1, 2, 8, 9] 0 n0 e H := rfl
@[simp] theorem en42_32 [MaxL] (n0 : Nat) (e : Env) (H : Heap) : enter cx 42 n0 32 e H = enterK [0, 1, 2, 8, 9, 10] 0 n0 e H := rfl
@[simp] theorem en42_33 [MaxL] (n0 : Nat) (e : Env) (H : Heap) : enter cx 42 n0 33 e H = enterK [0, 1, 8, 9, 10, 11] 0 n0 e H := rfl
@[simp] theorem en42_34 [MaxL] (n0 : Nat) (e : Env) (H : Heap) : enter cx 42 n0 34 e H = enterK [0, 1, 8, 9, 10, 11, 12] 0 n0 e H := rfl
@[simp] theorem en42_35 [MaxL] (n0 : Nat) (e : Env) (H : Heap) : enter cx 42 n0 35 e H = enterK [0, 1, 8, 9, 10, 11, 12, 13] 0 n0 e H := rfl
@[simp] theorem en42_36 [MaxL] (n0 : Nat) (e : Env) (H : Heap) : enter cx 42 n0 36 e H = enterK [1, 8, 9, 10, 11, 12, 13, 99, 100, 101] 0 n0 e H := rfl
@[simp] theorem en42_37 [MaxL] (n0 : Nat) (e : Env) (H : Heap) : enter cx 42 n0 37 e H = enterK [1, 8, 9, 10, 11, 12, 13, 99, 100, 101] 0 n0 e H := rfl
@[simp] theorem en42_38 [MaxL] (n0 : Nat) (e : Env) (H : Heap) : enter cx 42 n0 38 e H = enterK [1, 8, 9, 10, 11, 12, 13, 15, 99, 100, 101] 0 n0 e H := rfl
@[simp] theorem en42_39 [MaxL] (n0 : Nat) (e : Env) (H : Heap) : enter cx 42 n0 39 e H = enterK [] 0 n0 e H := rfl
@[simp] theorem en42_40 [MaxL] (n0 : Nat) (e : Env) (H : Heap) : enter cx 42 n0 40 e H = enterK [1, 8, 9, 10, 11, 12, 13, 15, 99, 100, 101] 0 n0 e H := rfl
@[simp] theorem en42_41 [MaxL] (n0 : Nat) (e : Env) (H : Heap) : enter cx 42 n0 41 e H = enterK [1, 8, 9, 10, 11, 13, 99, 100, 101] 0 n0 e H := rfl
@[simp] theorem en42_42 [MaxL] (n0 : Nat) (e : Env) (H : Heap) : enter cx 42 n0 42 e H = enterK [1, 8, 9, 10, 11, 12, 13, 15, 99, 100, 101] 0 n0 e H := rfl
@[simp] theorem en42_43 [MaxL] (n0 : Nat) (e : Env) (H : Heap) : enter cx 42 n0 43 e H = enterK [1, 8, 9, 10, 11, 12, 13, 15, 99, 100, 101] 0 n0 e H := rfl
@[simp] theorem en42_44 [MaxL] (n0 : Nat) (e : Env) (H : Heap) : enter cx 42 n0 44 e H = enterK [1, 8, 9, 10, 11, 12, 13, 15, 99, 100, 101] 0 n0 e H := rfl
@[simp] theorem en42_45 [MaxL] (n0 : Nat) (e : Env) (H : Heap) : enter cx 42 n0 45 e H = enterK [1, 8, 9, 10, 11, 12, 13, 15, 99, 100, 101] 0 n0 e H := rfl
@[simp] theorem en42_46 [MaxL] (n0 : Nat) (e : Env) (H : Heap) : enter cx 42 n0 46 e H = enterK [1, 8, 9, 10, 11, 12, 13, 16, 99, 100, 101] 0 n0 e H := rfl
@[simp] theorem en42_47 [MaxL] (n0 : Nat) (e : Env) (H : Heap) : enter cx 42 n0 47 e H = enterK [] 0 n0 e H := rfl
@[simp] theorem en42_48 [MaxL] (n0 : Nat) (e : Env) (H : Heap) : enter cx 42 n0 48 e H = enterK [1, 8, 9, 10, 11, 12, 13, 16, 99, 100, 101] 0 n0 e H := rfl
@[simp] theorem en42_49 [MaxL] (n0 : Nat) (e : Env) (H : Heap) : enter cx 42 n0 49 e H = enterK [11] 0 n0 e H := rfl
@[simp] theorem en42_50 [MaxL] (n0 : Nat) (e : Env) (H : Heap) : enter cx 42 n0 50 e H = enterK [1, 8, 9, 10, 11, 12, 13, 16, 99, 100, 101] 0 n0 e H := rfl
@[simp] theorem en42_51 [MaxL] (n0 : Nat) (e : Env) (H : Heap) : enter cx 42 n0 51 e H = enterK [1, 8, 9, 10, 11, 12, 13, 16, 99, 100, 101] 0 n0 e H := rfl
@[simp] theorem en42_52 [MaxL] (n0 : Nat) (e : Env) (H : Heap) : enter cx 42 n0 52 e H = enterK [1, 8, 9, 10, 11, 12, 13, 17, 99, 100, 101] 0 n0 e H := rfl
@[simp] theorem en42_53 [MaxL] (n0 : Nat) (e : Env) (H : Heap) : enter cx 42 n0 53 e H = enterK [11] 0 n0 e H := rfl
@[simp] theorem en42_54 [MaxL] (n0 : Nat) (e : Env) (H : Heap) : enter cx 42 n0 54 e H = enterK [1, 8, 9, 10, 11, 12, 17, 99, 100, 101] 0 n0 e H := rfl
@[simp] theorem en42_55 [MaxL] (n0 : Nat) (e : Env) (H : Heap) : enter cx 42 n0 55 e H = enterK [1, 8, 9, 10, 11, 12, 13, 99, 100, 101] 0 n0 e H := rfl
@[simp] theorem en42_56 [MaxL] (n0 : Nat) (e : Env) (H : Heap) : enter cx 42 n0 56 e H = enterK [9, 12, 13] 0 n0 e H := rfl
@[simp] theorem en42_57 [MaxL] (n0 : Nat) (e : Env) (H : Heap) : enter cx 42 n0 57 e H = enterK [] 0 n0 e H := rfl
@[simp] theorem en42_58 [MaxL] (n0 : Nat) (e : Env) (H : Heap) : enter cx 42 n0 58 e H = enterK [13] 0 n0 e H := rfl
@[simp] theorem en43_0 [MaxL] (n0 : Nat) (e : Env) (H : Heap) : enter cx 43 n0 0 e H = enterK [0, 1, 2, 3, 4] 0 n0 e H := rfl
@[simp] theorem en43_1 [MaxL] (n0 : Nat) (e : Env) (H : Heap) : enter cx 43 n0 1 e H = enterK [0, 1, 2, 3, 4] 0 n0 e H := rfl
@[simp] theorem en43_2 [MaxL] (n0 : Nat) (e : Env) (H : Heap) : enter cx 43 n0 2 e H = enterK [0, 1, 2, 3, 4, 11] 0 n0 e H := rfl
@[simp] theorem en43_3 [MaxL] (n0 : Nat) (e : Env) (H : Heap) : enter cx 43 n0 3 e H = enterK [0, 1] 0 n0 e H := rfl
@[simp] theorem en43_4 [MaxL] (n0 : Nat) (e : Env) (H : Heap) : enter cx 43 n0 4 e H = enterK [0, 1, 2, 3, 4, 11] 0 n0 e H := rfl
@[simp] theorem en43_5 [MaxL] (n0 : Nat) (e : Env) (H : Heap) : enter cx 43 n0 5 e H = enterK [0, 1] 0 n0 e H := rfl
@[simp] theorem en43_6 [MaxL] (n0 : Nat) (e : Env) (H : Heap) : enter cx 43 n0 6 e H = enterK [0, 1, 2, 3, 4, 11] 0 n0 e H := rfl
@[simp] theorem en43_7 [MaxL] (n0 : Nat) (e : Env) (H : Heap) : enter cx 43 n0 7 e H = enterK [0, 1, 2] 0 n0 e H := rfl
@[simp] theorem en43_8 [MaxL] (n0 : Nat) (e : Env) (H : Heap) : enter cx 43 n0 8 e H = enterK [0, 1, 3, 4, 11] 0 n0 e H := rfl
@[simp] theorem en43_9 [MaxL] (n0 : Nat) (e : Env) (H : Heap) : enter cx 43 n0 9 e H = enterK [0, 1, 3] 0 n0 e H := rfl
@[simp] theorem en43_10 [MaxL] (n0 : Nat) (e : Env) (H : Heap) : enter cx 43 n0 10 e H = enterK [4] 0 n0 e H := rfl
@[simp] theorem en44_0 [MaxL] (n0 : Nat) (e : Env) (H : Heap) : enter cx 44 n0 0 e H = enterK [0, 1] 0 n0 e H := rfl
@[simp] theorem en44_1 [MaxL] (n0 : Nat) (e : Env) (H : Heap) : enter cx 44 n0 1 e H = enterK [0, 1] 0 n0 e H := rfl
@[simp] theorem en45_0 [MaxL] (n0 : Nat) (e : Env) (H : Heap) : enter cx 45 n0 0 e H = enterK [0, 1] 0 n0 e H := rfl
@[simp] theorem en45_1 [MaxL] (n0 : Nat) (e : Env) (H : Heap) : enter cx 45 n0 1 e H = enterK [0, 1] 0 n0 e H := rfl
@[simp] theorem en45_2 [MaxL] (n0 : Nat) (e : Env) (H : Heap) : enter cx 45 n0 2 e H = enterK [0] 0 n0 e H := rfl
@[simp] theorem en45_3 [MaxL] (n0 : Nat) (e : Env) (H : Heap) : enter cx 45 n0 3 e H = enterK [0] 0 n0 e H := rfl
@[simp] theorem en45_4 [MaxL] (n0 : Nat) (e : Env) (H : Heap) : enter cx 45 n0 4 e H = enterK [0] 0 n0 e H := rfl
@[simp] theorem en45_5 [MaxL] (n0 : Nat) (e : Env) (H : Heap) : enter cx 45 n0 5 e H = enterK [0, 5] 0 n0 e H := rfl
@[simp] theorem en45_6 [MaxL] (n0 : Nat) (e : Env) (H : Heap) : enter cx 45 n0 6 e H = enterK [0, 5, 6] 0 n0 e H := rfl
@[simp] theorem en45_7 [MaxL] (n0 : Nat) (e : Env) (H : Heap) : enter cx 45 n0 7 e H = enterK [5, 6] 0 n0 e H := rfl
@[simp] theorem en45_8 [MaxL] (n0 : Nat) (e : Env) (H : Heap) : enter cx 45 n0 8 e H = enterK [0, 1] 0 n0 e H := rfl
@[simp] theorem en45_9 [MaxL] (n0 : Nat) (e : Env) (H : Heap) : enter cx 45 n0 9 e H = enterK [8] 0 n0 e H := rfl
@[simp] theorem en46_0 [MaxL] (n0 : Nat) (e : Env) (H : Heap) : enter cx 46 n0 0 e H = enterK [0] 0 n0 e H := rfl
@[simp] theorem en46_1 [MaxL] (n0 : Nat) (e : Env) (H : Heap) : enter cx 46 n0 1 e H = enterK [0] 0 n0 e H := rfl
@[simp] theorem en46_2 [MaxL] (n0 : Nat) (e : Env) (H : Heap) : enter cx 46 n0 2 e H = enterK [0, 3] 0 n0 e H := rfl
@[simp] theorem en46_3 [MaxL] (n0 : Nat) (e : Env) (H : Heap) : enter cx 46 n0 3 e H = enterK [0, 4] 0 n0 e H := rfl
@[simp] theorem en46_4 [MaxL] (n0 : Nat) (e : Env) (H : Heap) : enter cx 46 n0 4 e H = enterK [0, 4] 0 n0 e H := rfl
@[simp] theorem en46_5 [MaxL] (n0 : Nat) (e : Env) (H : Heap) : enter cx 46 n0 5 e H = enterK [0, 4] 0 n0 e H := rfl
@[simp] theorem en46_6 [MaxL] (n0 : Nat) (e : Env) (H : Heap) : enter cx 46 n0 6 e H = enterK [0, 4] 0 n0 e H := rfl
@[simp] theorem en46_7 [MaxL] (n0 : Nat) (e : Env) (H : Heap) : enter cx 46 n0 7 e H = enterK [0, 4] 0 n0 e H := rfl
@[simp] theorem en46_8 [MaxL] (n0 : Nat) (e : Env) (H : Heap) : enter cx 46 n0 8 e H = enterK [0, 4] 0 n0 e H := rfl
@[simp] theorem en46_9 [MaxL] (n0 : Nat) (e : Env) (H : Heap) : enter cx 46 n0 9 e H = enterK [0, 4, 5] 0 n0 e H := rfl
@[simp] theorem en46_10 [MaxL] (n0 : Nat) (e : Env) (H : Heap) : enter cx 46 n0 10 e H = enterZ [5] [4, 5] 0 n0 e H := rfl
@[simp] theorem en46_11 [MaxL] (n0 : Nat) (e : Env) (H : Heap) : enter cx 46 n0 11 e H = enterK [4] 0 n0 e H := rfl
@[simp] theorem en46_12 [MaxL] (n0 : Nat) (e : Env) (H : Heap) : enter cx 46 n0 12 e H = enterK [4] 0 n0 e H := rfl
@[simp] theorem en47_0 [MaxL] (n0 : Nat) (e : Env) (H : Heap) : enter cx 47 n0 0 e H = enterK [0] 0 n0 e H := rfl
@[simp] theorem en47_1 [MaxL] (n0 : Nat) (e : Env) (H : Heap) : enter cx 47 n0 1 e H = enterK [0] 0 n0 e H := rfl
@[simp] theorem en47_2 [MaxL] (n0 : Nat) (e : Env) (H : Heap) : enter cx 47 n0 2 e H = enterK [0, 3] 0 n0 e H := rfl
@[simp] theorem en47_3 [MaxL] (n0 : Nat) (e : Env) (H : Heap) : enter cx 47 n0 3 e H = enterK [0, 3, 4, 5] 0 n0 e H := rfl
@[simp] theorem en47_4 [MaxL] (n0 : Nat) (e : Env) (H : Heap) : enter cx 47 n0 4 e H = enterK [4, 5] 0 n0 e H := rfl
@[simp] theorem en47_5 [MaxL] (n0 : Nat) (e : Env) (H : Heap) : enter cx 47 n0 5 e H = enterK [0, 3, 4, 5] 0 n0 e H := rfl
@[simp] theorem en47_6 [MaxL] (n0 : Nat) (e : Env) (H : Heap) : enter cx 47 n0 6 e H = enterK [0, 3, 4, 5, 6] 0 n0 e H := rfl
@[simp] theorem en47_7 [MaxL] (n0 : Nat) (e : Env) (H : Heap) : enter cx 47 n0 7 e H = enterK [0, 3, 4, 5, 6] 0 n0 e H := rfl
@[simp] theorem en47_8 [MaxL] (n0 : Nat) (e : Env) (H : Heap) : enter cx 47 n0 8 e H = enterK [0, 3, 4, 5, 6] 0 n0 e H := rfl
@[simp] theorem en47_9 [MaxL] (n0 : Nat) (e : Env) (H : Heap) : enter cx 47 n0 9 e H = enterK [0, 3, 4, 5, 6] 0 n0 e H := rfl
@[simp] theorem en47_10 [MaxL] (n0 : Nat) (e : Env) (H : Heap) : enter cx 47 n0 10 e H = enterK [0, 3, 4, 5, 6] 0 n0 e H := rfl
@[simp] theorem en47_11 [MaxL] (n0 : Nat) (e : Env) (H : Heap) : enter cx 47 n0 11 e H = enterK [0, 3, 4, 5, 6] 0 n0 e H := rfl
@[simp] theorem en47_12 [MaxL] (n0 : Nat) (e : Env) (H : Heap) : enter cx 47 n0 12 e H = enterK [0, 3, 4, 5, 6] 0 n0 e H := rfl
@[simp] theorem en47_13 [MaxL] (n0 : Nat) (e : Env) (H : Heap) : enter cx 47 n0 13 e H = enterK [0, 3, 4, 5, 6] 0 n0 e H := rfl
@[simp] theorem en47_14 [MaxL] (n0 : Nat) (e : Env) (H : Heap) : enter cx 47 n0 14 e H = enterK [0, 3, 4, 5, 6] 0 n0 e H := rfl
@[simp] theorem en47_15 [MaxL] (n0 : Nat) (e : Env) (H : Heap) : enter cx 47 n0 15 e H = enterK [0, 3, 4, 5, 6] 0 n0 e H := rfl
@[simp] theorem en47_16 [MaxL] (n0 : Nat) (e : Env) (H : Heap) : enter cx 47 n0 16 e H = enterK [0, 3, 4, 5, 6] 0 n0 e H := rfl
@[simp] theorem en47_17 [MaxL] (n0 : Nat) (e : Env) (H : Heap) : enter cx 47 n0 17 e H = enterK [0, 3, 4, 5, 6] 0 n0 e H := rfl
@[simp] theorem en47_18 [MaxL] (n0 : Nat) (e : Env) (H : Heap) : enter cx 47 n0 18 e H = enterK [0, 3, 4, 5, 6] 0 n0 e H := rfl
@[simp] theorem en47_19 [MaxL] (n0 : Nat) (e : Env) (H : Heap) : enter cx 47 n0 19 e H = enterK [0, 3, 4, 5, 6] 0 n0 e H := rfl
@[simp] theorem en47_20 [MaxL] (n0 : Nat) (e : Env) (H : Heap) : enter cx 47 n0 20 e H = enterK [0, 3, 4, 5, 6] 0 n0 e H := rfl
@[simp] theorem en47_21 [MaxL] (n0 : Nat) (e : Env) (H : Heap) : enter cx 47 n0 21 e H = enterK [0, 3, 4, 5, 6] 0 n0 e H := rfl
@[simp] theorem en47_22 [MaxL] (n0 : Nat) (e : Env) (H : Heap) : enter cx 47 n0 22 e H = enterK [0, 3, 4, 5, 6] 0 n0 e H := rfl
@[simp] theorem en47_23 [MaxL] (n0 : Nat) (e : Env) (H : Heap) : enter cx 47 n0 23 e H = enterK [0, 3, 4, 5, 6] 0 n0 e H := rfl
@[simp] theorem en47_24 [MaxL] (n0 : Nat) (e : Env) (H : Heap) : enter cx 47 n0 24 e H = enterK [0, 3, 4, 5, 6] 0 n0 e H := rfl
@[simp] theorem en47_25 [MaxL] (n0 : Nat) (e : Env) (H : Heap) : enter cx 47 n0 25 e H = enterK [0, 3, 4, 5, 6] 0 n0 e H := rfl
@[simp] theorem en47_26 [MaxL] (n0 : Nat) (e : Env) (H : Heap) : enter cx 47 n0 26 e H = enterK [0, 3, 4, 5, 6] 0 n0 e H := rfl
@[simp] theorem en47_27 [MaxL] (n0 : Nat) (e : Env) (H : Heap) : enter cx 47 n0 27 e H = enterK [0, 3, 4, 5, 6] 0 n0 e H := rfl
@[simp] theorem en47_28 [MaxL] (n0 : Nat) (e : Env) (H : Heap) : enter cx 47 n0 28 e H = enterK [3, 4, 5] 0 n0 e H := rfl
@[simp] theorem en47_29 [MaxL] (n0 : Nat) (e : Env) (H : Heap) : enter cx 47 n0 29 e H = enterK [3, 4, 5] 0 n0 e H := rfl
@[simp] theorem en47_30 [MaxL] (n0 : Nat) (e : Env) (H : Heap) : enter cx 47 n0 30 e H = enterK [3, 4, 5] 0 n0 e H := rfl
@[simp] theorem en47_31 [MaxL] (n0 : Nat) (e : Env) (H : Heap) : enter cx 47 n0 31 e H = enterK [3, 4, 5] 0 n0 e H := rfl
@[simp] theorem en47_32 [MaxL] (n0 : Nat) (e : Env) (H : Heap) : enter cx 47 n0 32 e H = enterK [3, 4, 5] 0 n0 e H := rfl
@[simp] theorem en47_33 [MaxL] (n0 : Nat) (e : Env) (H : Heap) : enter cx 47 n0 33 e H = enterK [3, 4, 5] 0 n0 e H := rfl
@[simp] theorem en47_34 [MaxL] (n0 : Nat) (e : Env) (H : Heap) : enter cx 47 n0 34 e H = enterK [3, 4, 5] 0 n0 e H := rfl
@[simp] theorem en47_35 [MaxL] (n0 : Nat) (e : Env) (H : Heap) : enter cx 47 n0 35 e H = enterK [3, 4, 5] 0 n0 e H := rfl
@[simp] theorem en47_36 [MaxL] (n0 : Nat) (e : Env) (H : Heap) : enter cx 47 n0 36 e H = enterK [3, 4, 5] 0 n0 e H := rfl
@[simp] theorem en47_37 [MaxL] (n0 : Nat) (e : Env) (H : Heap) : enter cx 47 n0 37 e H = enterK [3, 4, 5] 0 n0 e H := rfl
@[simp] theorem en47_38 [MaxL] (n0 : Nat) (e : Env) (H : Heap) : enter cx 47 n0 38 e H = enterK [3, 4, 5] 0 n0 e H := rfl
@[simp] theorem en47_39 [MaxL] (n0 : Nat) (e : Env) (H : Heap) : enter cx 47 n0 39 e H = enterK [3, 4, 5] 0 n0 e H := rfl
@[simp] theorem en47_40 [MaxL] (n0 : Nat) (e : Env) (H : Heap) : enter cx 47 n0 40 e H = enterK [4, 5] 0 n0 e H := rfl
@[simp] theorem en47_41 [MaxL] (n0 : Nat) (e : Env) (H : Heap) : enter cx 47 n0 41 e H = enterK [4, 5] 0 n0 e H := rfl
@[simp] theorem en47_42 [MaxL] (n0 : Nat) (e : Env) (H : Heap) : enter cx 47 n0 42 e H = enterK [4, 5] 0 n0 e H := rfl
@[simp] theorem en48_0 [MaxL] (n0 : Nat) (e : Env) (H : Heap) : enter cx 48 n0 0 e H = enterK [0] 0 n0 e H := rfl
@[simp] theorem en48_1 [MaxL] (n0 : Nat) (e : Env) (H : Heap) : enter cx 48 n0 1 e H = enterK [1] 0 n0 e H := rfl
@[simp] theorem en49_0 [MaxL] (n0 : Nat) (e : Env) (H : Heap) : enter cx 49 n0 0 e H = enterK [0] 0 n0 e H := rfl
@[simp] theorem en49_1 [MaxL] (n0 : Nat) (e : Env) (H : Heap) : enter cx 49 n0 1 e H = enterK [0] 0 n0 e H := rfl
@[simp] theorem en57_0 [MaxL] (n0 : Nat) (e : Env) (H : Heap) : enter cx 57 n0 0 e H = enterK [0, 1] 0 n0 e H := rfl
@[simp] theorem en57_1 [MaxL] (n0 : Nat) (e : Env) (H : Heap) : enter cx 57 n0 1 e H = enterK [0, 1] 0 n0 e H := rfl
@[simp] theorem en57_2 [MaxL] (n0 : Nat) (e : Env) (H : Heap) : enter cx 57 n0 2 e H = enterK [0, 1, 5] 0 n0 e H := rfl
@[simp] theorem en57_3 [MaxL] (n0 : Nat) (e : Env) (H : Heap) : enter cx 57 n0 3 e H = enterK [0, 5] 0 n0 e H := rfl
@[simp] theorem en57_4 [MaxL] (n0 : Nat) (e : Env) (H : Heap) : enter cx 57 n0 4 e H = enterK [0, 1] 0 n0 e H := rfl
@[simp] theorem en57_5 [MaxL] (n0 : Nat) (e : Env) (H : Heap) : enter cx 57 n0 5 e H = enterK [0, 1, 6] 0 n0 e H := rfl
@[simp] theorem en57_6 [MaxL] (n0 : Nat) (e : Env) (H : Heap) : enter cx 57 n0 6 e H = enterK [0, 1, 6, 7] 0 n0 e H := rfl
@[simp] theorem en57_7 [MaxL] (n0 : Nat) (e : Env) (H : Heap) : enter cx 57 n0 7 e H = enterK [0, 1, 6, 7] 0 n0 e H := rfl
@[simp] theorem en57_8 [MaxL] (n0 : Nat) (e : Env) (H : Heap) : enter cx 57 n0 8 e H = enterK [0, 1, 6, 7] 0 n0 e H := rfl
@[simp] theorem en57_9 [MaxL] (n0 : Nat) (e : Env) (H : Heap) : enter cx 57 n0 9 e H = enterK [0, 1, 6, 7, 9] 0 n0 e H := rfl
@[simp] theorem en57_10 [MaxL] (n0 : Nat) (e : Env) (H : Heap) : enter cx 57 n0 10 e H = enterK [0, 1, 6, 7, 9] 0 n0 e H := rfl
@[simp] theorem en57_11 [MaxL] (n0 : Nat) (e : Env) (H : Heap) : enter cx 57 n0 11 e H = enterK [0, 1, 6] 0 n0 e H := rfl
@[simp] theorem en57_12 [MaxL] (n0 : Nat) (e : Env) (H : Heap) : enter cx 57 n0 12 e H = enterK [0, 1, 6] 0 n0 e H := rfl
@[simp] theorem en57_13 [MaxL] (n0 : Nat) (e : Env) (H : Heap) : enter cx 57 n0 13 e H = enterK [6] 0 n0 e H := rfl
@[simp] theorem en58_0 [MaxL] (n0 : Nat) (e : Env) (H : Heap) : enter cx 58 n0 0 e H = enterK [0, 1] 0 n0 e H := rfl
@[simp] theorem en58_1 [MaxL] (n0 : Nat) (e : Env) (H : Heap) : enter cx 58 n0 1 e H = enterK [0, 1] 0 n0 e H := rfl
@[simp] theorem en58_2 [MaxL] (n0 : Nat) (e : Env) (H : Heap) : enter cx 58 n0 2 e H = enterK [0] 0 n0 e H := rfl
@[simp] theorem en58_3 [MaxL] (n0 : Nat) (e : Env) (H : Heap) : enter cx 58 n0 3 e H = enterK [0, 1] 0 n0 e H := rfl
@[simp] theorem en58_4 [MaxL] (n0 : Nat) (e : Env) (H : Heap) : enter cx 58 n0 4 e H = enterK [0, 1] 0 n0 e H := rfl
@[simp] theorem en58_5 [MaxL] (n0 : Nat) (e : Env) (H : Heap) : enter cx 58 n0 5 e H = enterK [0, 1] 0 n0 e H := rfl
@[simp] theorem en58_6 [MaxL] (n0 : Nat) (e : Env) (H : Heap) : enter cx 58 n0 6 e H = enterK [0, 1, 5] 0 n0 e H := rfl
@[simp] theorem en58_7 [MaxL] (n0 : Nat) (e : Env) (H : Heap) : enter cx 58 n0 7 e H = enterK [0, 1, 5, 6] 0 n0 e H := rfl
@[simp] theorem en58_8 [MaxL] (n0 : Nat) (e : Env) (H : Heap) : enter cx 58 n0 8 e H = enterK [5] 0 n0 e H := rfl
@[simp] theorem en58_9 [MaxL] (n0 : Nat) (e : Env) (H : Heap) : enter cx 58 n0 9 e H = enterK [0, 1, 5, 6] 0 n0 e H := rfl
@[simp] theorem en58_10 [MaxL] (n0 : Nat) (e : Env) (H : Heap) : enter cx 58 n0 10 e H = enterK [0, 1, 5, 6] 0 n0 e H := rfl
@[simp] theorem en59_0 [MaxL] (n0 : Nat) (e : Env) (H : Heap) : enter cx 59 n0 0 e H = enterK [0, 1] 0 n0 e H := rfl
@[simp] theorem en59_1 [MaxL] (n0 : Nat) (e : Env) (H : Heap) : enter cx 59 n0 1 e H = enterK [0, 1] 0 n0 e H := rfl
@[simp] theorem en61_0 [MaxL] (n0 : Nat) (e : Env) (H : Heap) : enter cx 61 n0 0 e H = enterK [0] 0 n0 e H := rfl
@[simp] theorem en61_1 [MaxL] (n0 : Nat) (e : Env) (H : Heap) : enter cx 61 n0 1 e H = enterK [0] 0 n0 e H := rfl
@[simp] theorem en62_0 [MaxL] (n0 : Nat) (e : Env) (H : Heap) : enter cx 62 n0 0 e H = enterK [0] 0 n0 e H := rfl
@[simp] theorem en62_1 [MaxL] (n0 : Nat) (e : Env) (H : Heap) : enter cx 62 n0 1 e H = enterK [0] 0 n0 e H := rfl
@[simp] theorem en62_2 [MaxL] (n0 : Nat) (e : Env) (H : Heap) : enter cx 62 n0 2 e H = enterK [0, 3] 0 n0 e H := rfl
@[simp] theorem en62_3 [MaxL] (n0 : Nat) (e : Env) (H : Heap) : enter cx 62 n0 3 e H = enterK [0, 3, 4] 0 n0 e H := rfl
@[simp] theorem en62_4 [MaxL] (n0 : Nat) (e : Env) (H : Heap) : enter cx 62 n0 4 e H = enterK [0, 3, 4] 0 n0 e H := rfl
@[simp] theorem en62_5 [MaxL] (n0 : Nat) (e : Env) (H : Heap) : enter cx 62 n0 5 e H = enterK [0, 3, 4] 0 n0 e H := rfl
@[simp] theorem en62_6 [MaxL] (n0 : Nat) (e : Env) (H : Heap) : enter cx 62 n0 6 e H = enterK [0, 3, 4, 5] 0 n0 e H := rfl
@[simp] theorem en62_7 [MaxL] (n0 : Nat) (e : Env) (H : Heap) : enter cx 62 n0 7 e H = enterK [0] 0 n0 e H := rfl
@[simp] theorem en62_8 [MaxL] (n0 : Nat) (e : Env) (H : Heap) : enter cx 62 n0 8 e H = enterK [0, 4] 0 n0 e H := rfl
@[simp] theorem en62_9 [MaxL] (n0 : Nat) (e : Env) (H : Heap) : enter cx 62 n0 9 e H = enterK [0, 3, 4] 0 n0 e H := rfl
@[simp] theorem en62_10 [MaxL] (n0 : Nat) (e : Env) (H : Heap) : enter cx 62 n0 10 e H = enterK [0, 3, 4, 5] 0 n0 e H := rfl
@[simp] theorem en62_11 [MaxL] (n0 : Nat) (e : Env) (H : Heap) : enter cx 62 n0 11 e H = enterK [0, 3, 4, 5] 0 n0 e H := rfl
@[simp] theorem en62_12 [MaxL] (n0 : Nat) (e : Env) (H : Heap) : enter cx 62 n0 12 e H = enterK [0, 3, 4, 5] 0 n0 e H := rfl
@[simp] theorem en62_13 [MaxL] (n0 : Nat) (e : Env) (H : Heap) : enter cx 62 n0 13 e H = enterK [0, 4, 5] 0 n0 e H := rfl
@[simp] theorem en62_14 [MaxL] (n0 : Nat) (e : Env) (H : Heap) : enter cx 62 n0 14 e H = enterK [0, 3, 4, 5] 0 n0 e H := rfl
@[simp] theorem en62_15 [MaxL] (n0 : Nat) (e : Env) (H : Heap) : enter cx 62 n0 15 e H = enterK [0, 3, 4, 5] 0 n0 e H := rfl
@[simp] theorem en62_16 [MaxL] (n0 : Nat) (e : Env) (H : Heap) : enter cx 62 n0 16 e H = enterK [] 0 n0 e H := rfl
@[simp] theorem en62_17 [MaxL] (n0 : Nat) (e : Env) (H : Heap) : enter cx 62 n0 17 e H = enterK [0, 4, 5] 0 n0 e H := rfl
@[simp] theorem en62_18 [MaxL] (n0 : Nat) (e : Env) (H : Heap) : enter cx 62 n0 18 e H = enterK [0, 3, 4, 5] 0 n0 e H := rfl
@[simp] theorem en62_19 [MaxL] (n0 : Nat) (e : Env) (H : Heap) : enter cx 62 n0 19 e H = enterK [] 0 n0 e H := rfl
@[simp] theorem en62_20 [MaxL] (n0 : Nat) (e : Env) (H : Heap) : enter cx 62 n0 20 e H = enterK [0, 4, 5] 0 n0 e H := rfl
@[simp] theorem en62_21 [MaxL] (n0 : Nat) (e : Env) (H : Heap) : enter cx 62 n0 21 e H = enterK [3] 0 n0 e H := rfl
@[simp] theorem en63_0 [MaxL] (n0 : Nat) (e : Env) (H : Heap) : enter cx 63 n0 0 e H = enterK [0, 1] 0 n0 e H := rfl
@[simp] theorem en63_1 [MaxL] (n0 : Nat) (e : Env) (H : Heap) : enter cx 63 n0 1 e H = enterK [0, 1] 0 n0 e H := rfl
@[simp] theorem en64_0 [MaxL] (n0 : Nat) (e : Env) (H : Heap) : enter cx 64 n0 0 e H = enterK [0, 1] 0 n0 e H := rfl
@[simp] theorem en64_1 [MaxL] (n0 : Nat) (e : Env) (H : Heap) : enter cx 64 n0 1 e H = enterK [0, 1] 0 n0 e H := rfl
@[simp] theorem en65_0 [MaxL] (n0 : Nat) (e : Env) (H : Heap) : enter cx 65 n0 0 e H = enterK [0, 1, 2] 0 n0 e H := rfl
@[simp] theorem en65_1 [MaxL] (n0 : Nat) (e : Env) (H : Heap) : enter cx 65 n0 1 e H = enterK [0, 1, 2] 0 n0 e H := rfl
@[simp] theorem en66_0 [MaxL] (n0 : Nat) (e : Env) (H : Heap) : enter cx 66 n0 0 e H = enterK [0, 1, 2] 0 n0 e H := rfl
@[simp] theorem en66_1 [MaxL] (n0 : Nat) (e : Env) (H : Heap) : enter cx 66 n0 1 e H = enterK [0, 1, 2] 0 n0 e H := rfl
@[simp] theorem en68_0 [MaxL] (n0 : Nat) (e : Env) (H : Heap) : enter cx 68 n0 0 e H = enterK [0] 0 n0 e H := rfl
@[simp] theorem en68_1 [MaxL] (n0 : Nat) (e : Env) (H : Heap) : enter cx 68 n0 1 e H = enterK [0] 0 n0 e H := rfl
@[simp] theorem en68_2 [MaxL] (n0 : Nat) (e : Env) (H : Heap) : enter cx 68 n0 2 e H = enterK [0] 0 n0 e H := rfl
@[simp] theorem en68_3 [MaxL] (n0 : Nat) (e : Env) (H : Heap) : enter cx 68 n0 3 e H = enterK [0] 0 n0 e H := rfl
@[simp] theorem en69_0 [MaxL] (n0 : Nat) (e : Env) (H : Heap) : enter cx 69 n0 0 e H = enterK [0] 0 n0 e H := rfl
@[simp] theorem en69_1 [MaxL] (n0 : Nat) (e : Env) (H : Heap) : enter cx 69 n0 1 e H = enterK [0] 0 n0 e H := rfl
@[simp] theorem en69_2 [MaxL] (n0 : Nat) (e : Env) (H : Heap) : enter cx 69 n0 2 e H = enterK [0, 3] 0 n0 e H := rfl
@[simp] theorem en70_0 [MaxL] (n0 : Nat) (e : Env) (H : Heap) : enter cx 70 n0 0 e H = enterK [0, 1] 0 n0 e H := rfl
@[simp] theorem en70_1 [MaxL] (n0 : Nat) (e : Env) (H : Heap) : enter cx 70 n0 1 e H = enterK [0, 1, 4] 0 n0 e H := rfl
@[simp] theorem en70_2 [MaxL] (n0 : Nat) (e : Env) (H : Heap) : enter cx 70 n0 2 e H = enterK [0, 1, 4] 0 n0 e H := rfl
@[simp] theorem en70_3 [MaxL] (n0 : Nat) (e : Env) (H : Heap) : enter cx 70 n0 3 e H = enterK [0, 1, 4, 5] 0 n0 e H := rfl
@[simp] theorem en70_4 [MaxL] (n0 : Nat) (e : Env) (H : Heap) : enter cx 70 n0 4 e H = enterK [0, 1, 4, 5] 0 n0 e H := rfl
@[simp] theorem en70_5 [MaxL] (n0 : Nat) (e : Env) (H : Heap) : enter cx 70 n0 5 e H = enterK [0, 1, 4, 6, 7] 0 n0 e H := rfl
@[simp] theorem en70_6 [MaxL] (n0 : Nat) (e : Env) (H : Heap) : enter cx 70 n0 6 e H = enterK [0, 1, 4, 6, 8, 9] 0 n0 e H := rfl
@[simp] theorem en70_7 [MaxL] (n0 : Nat) (e : Env) (H : Heap) : enter cx 70 n0 7 e H = enterK [0, 1, 4, 8, 9, 10, 11] 0 n0 e H := rfl
@[simp] theorem en70_8 [MaxL] (n0 : Nat) (e : Env) (H : Heap) : enter cx 70 n0 8 e H = enterK [0, 1, 4, 8, 10, 11] 0 n0 e H := rfl
@[simp] theorem en70_9 [MaxL] (n0 : Nat) (e : Env) (H : Heap) : enter cx 70 n0 9 e H = enterK [0, 1, 4, 10, 11] 0 n0 e H := rfl
@[simp] theorem en70_10 [MaxL] (n0 : Nat) (e : Env) (H : Heap) : enter cx 70 n0 10 e H = enterK [0, 1, 4, 10] 0 n0 e H := rfl
@[simp] theorem en70_11 [MaxL] (n0 : Nat) (e : Env) (H : Heap) : enter cx 70 n0 11 e H = enterK [0, 1, 4] 0 n0 e H := rfl
@[simp] theorem en70_12 [MaxL] (n0 : Nat) (e : Env) (H : Heap) : enter cx 70 n0 12 e H = enterK [0, 1, 4] 0 n0 e H := rfl
@[simp] theorem en70_13 [MaxL] (n0 : Nat) (e : Env) (H : Heap) : enter cx 70 n0 13 e H = enterK [0, 4, 12] 0 n0 e H := rfl
@[simp] theorem en70_14 [MaxL] (n0 : Nat) (e : Env) (H : Heap) : enter cx 70 n0 14 e H = enterK [0, 4, 12] 0 n0 e H := rfl
@[simp] theorem en70_15 [MaxL] (n0 : Nat) (e : Env) (H : Heap) : enter cx 70 n0 15 e H = enterK [0, 4, 12, 13] 0 n0 e H := rfl
@[simp] theorem en70_16 [MaxL] (n0 : Nat) (e : Env) (H : Heap) : enter cx 70 n0 16 e H = enterK [0, 4, 12, 13] 0 n0 e H := rfl
@[simp] theorem en70_17 [MaxL] (n0 : Nat) (e : Env) (H : Heap) : enter cx 70 n0 17 e H = enterK [0, 4, 12, 14, 15] 0 n0 e H := rfl
@[simp] theorem en70_18 [MaxL] (n0 : Nat) (e : Env) (H : Heap) : enter cx 70 n0 18 e H = enterK [0, 4, 12, 14] 0 n0 e H := rfl
@[simp] theorem en70_19 [MaxL] (n0 : Nat) (e : Env) (H : Heap) : enter cx 70 n0 19 e H = enterK [0, 4, 12] 0 n0 e H := rfl
@[simp] theorem en70_20 [MaxL] (n0 : Nat) (e : Env) (H : Heap) : enter cx 70 n0 20 e H = enterK [0, 4, 12] 0 n0 e H := rfl
@[simp] theorem en70_21 [MaxL] (n0 : Nat) (e : Env) (H : Heap) : enter cx 70 n0 21 e H = enterK [0, 4, 12] 0 n0 e H := rfl
@[simp] theorem en70_22 [MaxL] (n0 : Nat) (e : Env) (H : Heap) : enter cx 70 n0 22 e H = enterK [0, 4, 12, 16] 0 n0 e H := rfl
@[simp] theorem en70_23 [MaxL] (n0 : Nat) (e : Env) (H : Heap) : enter cx 70 n0 23 e H = enterK [0, 4, 12, 16] 0 n0 e H := rfl
@[simp] theorem en70_24 [MaxL] (n0 : Nat) (e : Env) (H : Heap) : enter cx 70 n0 24 e H = enterK [0, 4, 12] 0 n0 e H := rfl
@[simp] theorem en70_25 [MaxL] (n0 : Nat) (e : Env) (H : Heap) : enter cx 70 n0 25 e H = enterK [0, 4, 12] 0 n0 e H := rfl
@[simp] theorem en70_26 [MaxL] (n0 : Nat) (e : Env) (H : Heap) : enter cx 70 n0 26 e H = enterK [0, 12] 0 n0 e H := rfl
@[simp] theorem en71_0 [MaxL] (n0 : Nat) (e : Env) (H : Heap) : enter cx 71 n0 0 e H = enterK [0, 1, 2, 3, 4] 0 n0 e H := rfl
@[simp] theorem en71_1 [MaxL] (n0 : Nat) (e : Env) (H : Heap) : enter cx 71 n0 1 e H = enterK [0, 1, 2, 3, 4, 10, 11] 0 n0 e H := rfl
@[simp] theorem en71_2 [MaxL] (n0 : Nat) (e : Env) (H : Heap) : enter cx 71 n0 2 e H = enterK [0, 1, 2, 3, 4, 10, 11] 0 n0 e H := rfl
@[simp] theorem en71_3 [MaxL] (n0 : Nat) (e : Env) (H : Heap) : enter cx 71 n0 3 e H = enterK [0, 1, 2, 3, 4, 10, 11] 0 n0 e H := rfl
@[simp] theorem en71_4 [MaxL] (n0 : Nat) (e : Env) (H : Heap) : enter cx 71 n0 4 e H = enterK [0, 1, 2, 3, 4, 10, 11, 12] 0 n0 e H := rfl
@[simp] theorem en71_5 [MaxL] (n0 : Nat) (e : Env) (H : Heap) : enter cx 71 n0 5 e H = enterK [0, 1, 2, 3, 4, 10, 11, 12, 13] 0 n0 e H := rfl
@[simp] theorem en71_6 [MaxL] (n0 : Nat) (e : Env) (H : Heap) : enter cx 71 n0 6 e H = enterK [0, 1, 2, 3, 4, 10, 11, 12, 13] 0 n0 e H := rfl
@[simp] theorem en71_7 [MaxL] (n0 : Nat) (e : Env) (H : Heap) : enter cx 71 n0 7 e H = enterK [0, 1, 2, 3, 4, 10, 11, 12, 13] 0 n0 e H := rfl
@[simp] theorem en71_8 [MaxL] (n0 : Nat) (e : Env) (H : Heap) : enter cx 71 n0 8 e H = enterK [0, 1, 2, 3, 4, 10, 11, 12, 13] 0 n0 e H := rfl
@[simp] theorem en71_9 [MaxL] (n0 : Nat) (e : Env) (H : Heap) : enter cx 71 n0 9 e H = enterK [0, 1, 2, 3, 4, 10, 11, 12, 13, 14] 0 n0 e H := rfl
@[simp] theorem en71_10 [MaxL] (n0 : Nat) (e : Env) (H : Heap) : enter cx 71 n0 10 e H = enterK [0, 1, 2, 3, 4, 10, 11, 12, 13, 14, 15] 0 n0 e H := rfl
@[simp] theorem en71_11 [MaxL] (n0 : Nat) (e : Env) (H : Heap) : enter cx 71 n0 11 e H = enterK [0, 1, 3, 4, 10, 11, 12, 13, 14, 15, 16] 0 n0 e H := rfl
@[simp] theorem en71_12 [MaxL] (n0 : Nat) (e : Env) (H : Heap) : enter cx 71 n0 12 e H = enterK [0, 1, 3, 4, 10, 11, 12, 13, 14, 15, 16] 0 n0 e H := rfl
@[simp] theorem en71_13 [MaxL] (n0 : Nat) (e : Env) (H : Heap) : enter cx 71 n0 13 e H = enterK [0, 1, 3, 4, 10, 11, 12, 13, 14, 15, 16] 0 n0 e H := rfl
@[simp] theorem en71_14 [MaxL] (n0 : Nat) (e : Env) (H : Heap) : enter cx 71 n0 14 e H = enterK [0, 1, 3, 4, 10, 11, 12, 13, 14, 15, 16] 0 n0 e H := rfl
@[simp] theorem en71_15 [MaxL] (n0 : Nat) (e : Env) (H : Heap) : enter cx 71 n0 15 e H = enterK [0, 1, 3, 4, 10, 11, 12, 13] 0 n0 e H := rfl
@[simp] theorem en71_16 [MaxL] (n0 : Nat) (e : Env) (H : Heap) : enter cx 71 n0 16 e H = enterK [0, 1, 3, 4, 10, 11, 12, 13] 0 n0 e H := rfl
@[simp] theorem en71_17 [MaxL] (n0 : Nat) (e : Env) (H : Heap) : enter cx 71 n0 17 e H = enterK [0, 1, 2, 3, 4, 10, 11, 12, 13] 0 n0 e H := rfl
@[simp] theorem en71_18 [MaxL] (n0 : Nat) (e : Env) (H : Heap) : enter cx 71 n0 18 e H = enterK [0, 1, 3, 4, 10, 11, 12, 13, 17] 0 n0 e H := rfl
@[simp] theorem en71_19 [MaxL] (n0 : Nat) (e : Env) (H : Heap) : enter cx 71 n0 19 e H = enterK [0, 1, 3, 4, 10, 11, 12, 13, 17] 0 n0 e H := rfl
@[simp] theorem en71_20 [MaxL] (n0 : Nat) (e : Env) (H : Heap) : enter cx 71 n0 20 e H = enterK [0, 1, 3, 4, 10, 11, 12, 13, 17] 0 n0 e H := rfl
@[simp] theorem en71_21 [MaxL] (n0 : Nat) (e : Env) (H : Heap) : enter cx 71 n0 21 e H = enterK [0, 1, 3, 4, 10, 11, 12, 13, 17, 18] 0 n0 e H := rfl
@[simp] theorem en71_22 [MaxL] (n0 : Nat) (e : Env) (H : Heap) : enter cx 71 n0 22 e H = enterK [0, 3, 4, 10, 11, 12, 13, 17, 18] 0 n0 e H := rfl
@[simp] theorem en71_23 [MaxL] (n0 : Nat) (e : Env) (H : Heap) : enter cx 71 n0 23 e H = enterK [0, 1, 3, 4, 10, 11, 12, 13] 0 n0 e H := rfl
@[simp] theorem en71_24 [MaxL] (n0 : Nat) (e : Env) (H : Heap) : enter cx 71 n0 24 e H = enterK [0, 1, 3, 4, 10, 11, 12, 13] 0 n0 e H := rfl
@[simp] theorem en71_25 [MaxL] (n0 : Nat) (e : Env) (H : Heap) : enter cx 71 n0 25 e H = enterK [0, 3, 4, 10, 11, 12, 13] 0 n0 e H := rfl
@[simp] theorem en71_26 [MaxL] (n0 : Nat) (e : Env) (H : Heap) : enter cx 71 n0 26 e H = enterK [0, 4, 10, 11, 12, 13] 0 n0 e H := rfl
@[simp] theorem en71_27 [MaxL] (n0 : Nat) (e : Env) (H : Heap) : enter cx 71 n0 27 e H = enterK [0, 4, 10, 11, 12, 13] 0 n0 e H := rfl
@[simp] theorem en71_28 [MaxL] (n0 : Nat) (e : Env) (H : Heap) : enter cx 71 n0 28 e H = enterK [0, 4, 10, 11, 12, 13] 0 n0 e H := rfl
@[simp] theorem en71_29 [MaxL] (n0 : Nat) (e : Env) (H : Heap) : enter cx 71 n0 29 e H = enterK [0, 11, 12, 13] 0 n0 e H := rfl
@[simp] theorem en71_30 [MaxL] (n0 : Nat) (e : Env) (H : Heap) : enter cx 71 n0 30 e H = enterK [10, 12, 13] 0 n0 e H := rfl
@[simp] theorem en72_0 [MaxL] (n0 : Nat) (e : Env) (H : Heap) : enter cx 72 n0 0 e H = enterK [0, 1] 0 n0 e H := rfl
@[simp] theorem en72_1 [MaxL] (n0 : Nat) (e : Env) (H : Heap) : enter cx 72 n0 1 e H = enterK [0, 1, 4] 0 n0 e H := rfl
@[simp] theorem en72_2 [MaxL] (n0 : Nat) (e : Env) (H : Heap) : enter cx 72 n0 2 e H = enterK [0, 1, 4, 6] 0 n0 e H := rfl
@[simp] theorem en72_3 [MaxL] (n0 : Nat) (e : Env) (H : Heap) : enter cx 72 n0 3 e H = enterK [0, 4, 6, 8] 0 n0 e H := rfl
@[simp] theorem en72_4 [MaxL] (n0 : Nat) (e : Env) (H : Heap) : enter cx 72 n0 4 e H = enterK [0, 6, 8] 0 n0 e H := rfl
@[simp] theorem en72_5 [MaxL] (n0 : Nat) (e : Env) (H : Heap) : enter cx 72 n0 5 e H = enterK [0, 8] 0 n0 e H := rfl
@[simp] theorem en73_0 [MaxL] (n0 : Nat) (e : Env) (H : Heap) : enter cx 73 n0 0 e H = enterK [0] 0 n0 e H := rfl
@[simp] theorem en73_1 [MaxL] (n0 : Nat) (e : Env) (H : Heap) : enter cx 73 n0 1 e H = enterK [0, 2, 3, 4] 0 n0 e H := rfl
@[simp] theorem en73_2 [MaxL] (n0 : Nat) (e : Env) (H : Heap) : enter cx 73 n0 2 e H = enterK [0, 2, 3, 4] 0 n0 e H := rfl
@[simp] theorem en73_3 [MaxL] (n0 : Nat) (e : Env) (H : Heap) : enter cx 73 n0 3 e H = enterK [0, 2, 3, 4] 0 n0 e H := rfl
@[simp] theorem en73_4 [MaxL] (n0 : Nat) (e : Env) (H : Heap) : enter cx 73 n0 4 e H = enterK [0, 2, 3, 4] 0 n0 e H := rfl
@[simp] theorem en73_5 [MaxL] (n0 : Nat) (e : Env) (H : Heap) : enter cx 73 n0 5 e H = enterK [0, 2, 3, 4] 0 n0 e H := rfl
@[simp] theorem en73_6 [MaxL] (n0 : Nat) (e : Env) (H : Heap) : enter cx 73 n0 6 e H = enterK [0, 2, 3, 4] 0 n0 e H := rfl
@[simp] theorem en73_7 [MaxL] (n0 : Nat) (e : Env) (H : Heap) : enter cx 73 n0 7 e H = enterK [0, 2, 3, 4] 0 n0 e H := rfl
@[simp] theorem en73_8 [MaxL] (n0 : Nat) (e : Env) (H : Heap) : enter cx 73 n0 8 e H = enterK [0, 2, 3, 4] 0 n0 e H := rfl
@[simp] theorem en73_9 [MaxL] (n0 : Nat) (e : Env) (H : Heap) : enter cx 73 n0 9 e H = enterK [0, 2, 3, 4] 0 n0 e H := rfl
@[simp] theorem en73_10 [MaxL] (n0 : Nat) (e : Env) (H : Heap) : enter cx 73 n0 10 e H = enterK [0, 2, 3, 4] 0 n0 e H := rfl
@[simp] theorem en73_11 [MaxL] (n0 : Nat) (e : Env) (H : Heap) : enter cx 73 n0 11 e H = enterK [0, 2, 3, 4] 0 n0 e H := rfl
@[simp] theorem en73_12 [MaxL] (n0 : Nat) (e : Env) (H : Heap) : enter cx 73 n0 12 e H = enterK [0, 2, 3, 4] 0 n0 e H := rfl
@[simp] theorem en73_13 [MaxL] (n0 : Nat) (e : Env) (H : Heap) : enter cx 73 n0 13 e H = enterK [0, 2, 3, 4] 0 n0 e H := rfl
@[simp] theorem en73_14 [MaxL] (n0 : Nat) (e : Env) (H : Heap) : enter cx 73 n0 14 e H = enterK [0, 2, 3, 4] 0 n0 e H := rfl
@[simp] theorem en73_15 [MaxL] (n0 : Nat) (e : Env) (H : Heap) : enter cx 73 n0 15 e H = enterK [0, 2, 3, 4] 0 n0 e H := rfl
@[simp] theorem en73_16 [MaxL] (n0 : Nat) (e : Env) (H : Heap) : enter cx 73 n0 16 e H = enterK [0, 2, 3, 4] 0 n0 e H := rfl
@[simp] theorem en73_17 [MaxL] (n0 : Nat) (e : Env) (H : Heap) : enter cx 73 n0 17 e H = enterK [0, 2, 3, 4] 0 n0 e H := rfl
@[simp] theorem en73_18 [MaxL] (n0 : Nat) (e : Env) (H : Heap) : enter cx 73 n0 18 e H = enterK [0, 2, 3, 4] 0 n0 e H := rfl
@[simp] theorem en73_19 [MaxL] (n0 : Nat) (e : Env) (H : Heap) : enter cx 73 n0 19 e H = enterK [0, 2, 3, 4] 0 n0 e H := rfl
@[simp] theorem en74_0 [MaxL] (n0 : Nat) (e : Env) (H : Heap) : enter cx 74 n0 0 e H = enterK [0] 0 n0 e H := rfl
@[simp] theorem en74_1 [MaxL] (n0 : Nat) (e : Env) (H : Heap) : enter cx 74 n0 1 e H = enterK [0, 2, 3, 4] 0 n0 e H := rfl
@[simp] theorem en74_2 [MaxL] (n0 : Nat) (e : Env) (H : Heap) : enter cx 74 n0 2 e H = enterK [0, 2, 3, 4] 0 n0 e H := rfl
@[simp] theorem en74_3 [MaxL] (n0 : Nat) (e : Env) (H : Heap) : enter cx 74 n0 3 e H = enterK [0, 2, 3, 4] 0 n0 e H := rfl
@[simp] theorem en74_4 [MaxL] (n0 : Nat) (e : Env) (H : Heap) : enter cx 74 n0 4 e H = enterK [0, 2, 3, 4] 0 n0 e H := rfl
@[simp] theorem en74_5 [MaxL] (n0 : Nat) (e : Env) (H : Heap) : enter cx 74 n0 5 e H = enterK [0, 2, 3, 4] 0 n0 e H := rfl
@[simp] theorem en74_6 [MaxL] (n0 : Nat) (e : Env) (H : Heap) : enter cx 74 n0 6 e H = enterK [0, 2, 3, 4] 0 n0 e H := rfl
@[simp] theorem en74_7 [MaxL] (n0 : Nat) (e : Env) (H : Heap) : enter cx 74 n0 7 e H = enterK [0, 2, 3, 4] 0 n0 e H := rfl
@[simp] theorem en74_8 [MaxL] (n0 : Nat) (e : Env) (H : Heap) : enter cx 74 n0 8 e H = enterK [0, 2, 3, 4] 0 n0 e H := rfl
@[simp] theorem en74_9 [MaxL] (n0 : Nat) (e : Env) (H : Heap) : enter cx 74 n0 9 e H = enterK [0, 2, 3, 4] 0 n0 e H := rfl
@[simp] theorem en74_10 [MaxL] (n0 : Nat) (e : Env) (H : Heap) : enter cx 74 n0 10 e H = enterK [0, 2, 3, 4] 0 n0 e H := rfl
@[simp] theorem en74_11 [MaxL] (n0 : Nat) (e : Env) (H : Heap) : enter cx 74 n0 11 e H = enterK [0, 2, 3, 4] 0 n0 e H := rfl
@[simp] theorem en74_12 [MaxL] (n0 : Nat) (e : Env) (H : Heap) : enter cx 74 n0 12 e H = enterK [0, 2, 3, 4] 0 n0 e H := rfl
@[simp] theorem en74_13 [MaxL] (n0 : Nat) (e : Env) (H : Heap) : enter cx 74 n0 13 e H = enterK [0, 2, 3, 4] 0 n0 e H := rfl
@[simp] theorem en74_14 [MaxL] (n0 : Nat) (e : Env) (H : Heap) : enter cx 74 n0 14 e H = enterK [0, 2, 3, 4] 0 n0 e H := rfl
@[simp] theorem en74_15 [MaxL] (n0 : Nat) (e : Env) (H : Heap) : enter cx 74 n0 15 e H = enterK [0, 2, 3, 4] 0 n0 e H := rfl
@[simp] theorem en75_0 [MaxL] (n0 : Nat) (e : Env) (H : Heap) : enter cx 75 n0 0 e H = enterK [0, 1] 0 n0 e H := rfl
@[simp] theorem en75_1 [MaxL] (n0 : Nat) (e : Env) (H : Heap) : enter cx 75 n0 1 e H = enterK [0, 1] 0 n0 e H := rfl
@[simp] theorem en75_2 [MaxL] (n0 : Nat) (e : Env) (H : Heap) : enter cx 75 n0 2 e H = enterK [0, 1, 5] 0 n0 e H := rfl
@[simp] theorem en75_3 [MaxL] (n0 : Nat) (e : Env) (H : Heap) : enter cx 75 n0 3 e H = enterK [0, 1, 5, 6] 0 n0 e H := rfl
@[simp] theorem en75_4 [MaxL] (n0 : Nat) (e : Env) (H : Heap) : enter cx 75 n0 4 e H = enterK [0, 1, 5, 6] 0 n0 e H := rfl
@[simp] theorem en75_5 [MaxL] (n0 : Nat) (e : Env) (H : Heap) : enter cx 75 n0 5 e H = enterK [0, 1, 5, 6] 0 n0 e H := rfl
@[simp] theorem en75_6 [MaxL] (n0 : Nat) (e : Env) (H : Heap) : enter cx 75 n0 6 e H = enterK [0, 1, 5, 6] 0 n0 e H := rfl
@[simp] theorem en75_7 [MaxL] (n0 : Nat) (e : Env) (H : Heap) : enter cx 75 n0 7 e H = enterK [0, 1, 5, 6] 0 n0 e H := rfl
@[simp] theorem en75_8 [MaxL] (n0 : Nat) (e : Env) (H : Heap) : enter cx 75 n0 8 e H = enterK [5] 0 n0 e H := rfl
@[simp] theorem en76_0 [MaxL] (n0 : Nat) (e : Env) (H : Heap) : enter cx 76 n0 0 e H = enterK [0, 1] 0 n0 e H := rfl
@[simp] theorem en76_1 [MaxL] (n0 : Nat) (e : Env) (H : Heap) : enter cx 76 n0 1 e H = enterK [0, 1] 0 n0 e H := rfl
@[simp] theorem en82_0 [MaxL] (n0 : Nat) (e : Env) (H : Heap) : enter cx 82 n0 0 e H = enterK [0] 0 n0 e H := rfl
@[simp] theorem en82_1 [MaxL] (n0 : Nat) (e : Env) (H : Heap) : enter cx 82 n0 1 e H = enterK [0, 2] 0 n0 e H := rfl
@[simp] theorem en82_2 [MaxL] (n0 : Nat) (e : Env) (H : Heap) : enter cx 82 n0 2 e H = enterK [2, 4] 0 n0 e H := rfl
@[simp] theorem en82_3 [MaxL] (n0 : Nat) (e : Env) (H : Heap) : enter cx 82 n0 3 e H = enterK [2, 4] 0 n0 e H := rfl
@[simp] theorem en82_4 [MaxL] (n0 : Nat) (e : Env) (H : Heap) : enter cx 82 n0 4 e H = enterK [2] 0 n0 e H := rfl
@[simp] theorem en83_0 [MaxL] (n0 : Nat) (e : Env) (H : Heap) : enter cx 83 n0 0 e H = enterK [0] 0 n0 e H := rfl
@[simp] theorem en83_1 [MaxL] (n0 : Nat) (e : Env) (H : Heap) : enter cx 83 n0 1 e H = enterK [0] 0 n0 e H := rfl
@[simp] theorem en83_2 [MaxL] (n0 : Nat) (e : Env) (H : Heap) : enter cx 83 n0 2 e H = enterK [0] 0 n0 e H := rfl
@[simp] theorem en83_3 [MaxL] (n0 : Nat) (e : Env) (H : Heap) : enter cx 83 n0 3 e H = enterK [0] 0 n0 e H := rfl
@[simp] theorem en89_0 [MaxL] (n0 : Nat) (e : Env) (H : Heap) : enter cx 89 n0 0 e H = enterK [0] 0 n0 e H := rfl
@[simp] theorem en89_1 [MaxL] (n0 : Nat) (e : Env) (H : Heap) : enter cx 89 n0 1 e H = enterK [0] 0 n0 e H := rfl
@[simp] theorem en90_0 [MaxL] (n0 : Nat) (e : Env) (H : Heap) : enter cx 90 n0 0 e H = enterK [0] 0 n0 e H := rfl
@[simp] theorem en90_1 [MaxL] (n0 : Nat) (e : Env) (H : Heap) : enter cx 90 n0 1 e H = enterK [0] 0 n0 e H := rfl
@[simp] theorem en91_0 [MaxL] (n0 : Nat) (e : Env) (H : Heap) : enter cx 91 n0 0 e H = enterK [0] 0 n0 e H := rfl
@[simp] theorem en91_1 [MaxL] (n0 : Nat) (e : Env) (H : Heap) : enter cx 91 n0 1 e H = enterK [0] 0 n0 e H := rfl
@[simp] theorem en92_0 [MaxL] (n0 : Nat) (e : Env) (H : Heap) : enter cx 92 n0 0 e H = enterK [0] 0 n0 e H := rfl
@[simp] theorem en92_1 [MaxL] (n0 : Nat) (e : Env) (H : Heap) : enter cx 92 n0 1 e H = enterK [0, 2] 0 n0 e H := rfl
@[simp] theorem en92_2 [MaxL] (n0 : Nat) (e : Env) (H : Heap) : enter cx 92 n0 2 e H = enterK [0] 0 n0 e H := rfl
@[simp] theorem en92_3 [MaxL] (n0 : Nat) (e : Env) (H : Heap) : enter cx 92 n0 3 e H = enterK [0] 0 n0 e H := rfl
@[simp] theorem en92_4 [MaxL] (n0 : Nat) (e : Env) (H : Heap) : enter cx 92 n0 4 e H = enterK [0, 2] 0 n0 e H := rfl
@[simp] theorem en92_5 [MaxL] (n0 : Nat) (e : Env) (H : Heap) : enter cx 92 n0 5 e H = enterK [0, 2] 0 n0 e H := rfl
@[simp] theorem en92_6 [MaxL] (n0 : Nat) (e : Env) (H : Heap) : enter cx 92 n0 6 e H = enterK [0, 2] 0 n0 e H := rfl
@[simp] theorem en92_7 [MaxL] (n0 : Nat) (e : Env) (H : Heap) : enter cx 92 n0 7 e H = enterK [0, 2] 0 n0 e H := rfl
@[simp] theorem en92_8 [MaxL] (n0 : Nat) (e : Env) (H : Heap) : enter cx 92 n0 8 e H = enterK [0, 2] 0 n0 e H := rfl
@[simp] theorem en92_9 [MaxL] (n0 : Nat) (e : Env) (H : Heap) : enter cx 92 n0 9 e H = enterK [0, 2] 0 n0 e H := rfl
@[simp] theorem en92_10 [MaxL] (n0 : Nat) (e : Env) (H : Heap) : enter cx 92 n0 10 e H = enterK [0, 2] 0 n0 e H := rfl
@[simp] theorem en93_0 [MaxL] (n0 : Nat) (e : Env) (H : Heap) : enter cx 93 n0 0 e H = enterK [0] 0 n0 e H := rfl
@[simp] theorem en93_1 [MaxL] (n0 : Nat) (e : Env) (H : Heap) : enter cx 93 n0 1 e H = enterK [0] 0 n0 e H := rfl
@[simp] theorem en93_2 [MaxL] (n0 : Nat) (e : Env) (H : Heap) : enter cx 93 n0 2 e H = enterK [] 0 n0 e H := rfl
@[simp] theorem en93_3 [MaxL] (n0 : Nat) (e : Env) (H : Heap) : enter cx 93 n0 3 e H = enterK [] 0 n0 e H := rfl
@[simp] theorem en94_0 [MaxL] (n0 : Nat) (e : Env) (H : Heap) : enter cx 94 n0 0 e H = enterK [0] 0 n0 e H := rfl
@[simp] theorem en94_1 [MaxL] (n0 : Nat) (e : Env) (H : Heap) : enter cx 94 n0 1 e H = enterK [0] 0 n0 e H := rfl
@[simp] theorem en95_0 [MaxL] (n0 : Nat) (e : Env) (H : Heap) : enter cx 95 n0 0 e H = enterK [0] 0 n0 e H := rfl
@[simp] theorem en95_1 [MaxL] (n0 : Nat) (e : Env) (H : Heap) : enter cx 95 n0 1 e H = enterK [0] 0 n0 e H := rfl
@[simp] theorem en95_2 [MaxL] (n0 : Nat) (e : Env) (H : Heap) : enter cx 95 n0 2 e H = enterK [0] 0 n0 e H := rfl
@[simp] theorem en96_0 [MaxL] (n0 : Nat) (e : Env) (H : Heap) : enter cx 96 n0 0 e H = enterK [0, 1, 2] 0 n0 e H := rfl
@[simp] theorem en96_1 [MaxL] (n0 : Nat) (e : Env) (H : Heap) : enter cx 96 n0 1 e H = enterK [0, 1, 2] 0 n0 e H := rfl
@[simp] theorem en96_2 [MaxL] (n0 : Nat) (e : Env) (H : Heap) : enter cx 96 n0 2 e H = enterK [] 0 n0 e H := rfl
@[simp] theorem en96_3 [MaxL] (n0 : Nat) (e : Env) (H : Heap) : enter cx 96 n0 3 e H = enterK [0, 1, 2] 0 n0 e H := rfl
@[simp] theorem en96_4 [MaxL] (n0 : Nat) (e : Env) (H : Heap) : enter cx 96 n0 4 e H = enterK [0, 1, 2, 8] 0 n0 e H := rfl
@[simp] theorem en96_5 [MaxL] (n0 : Nat) (e : Env) (H : Heap) : enter cx 96 n0 5 e H = enterK [0, 1, 8, 9] 0 n0 e H := rfl
@[simp] theorem en96_6 [MaxL] (n0 : Nat) (e : Env) (H : Heap) : enter cx 96 n0 6 e H = enterK [0, 1, 8, 9] 0 n0 e H := rfl
@[simp] theorem en96_7 [MaxL] (n0 : Nat) (e : Env) (H : Heap) : enter cx 96 n0 7 e H = enterK [0, 1, 8, 9] 0 n0 e H := rfl
@[simp] theorem en96_8 [MaxL] (n0 : Nat) (e : Env) (H : Heap) : enter cx 96 n0 8 e H = enterK [8] 0 n0 e H := rfl
@[simp] theorem en97_0 [MaxL] (n0 : Nat) (e : Env) (H : Heap) : enter cx 97 n0 0 e H = enterK [0, 1] 0 n0 e H := rfl
@[simp] theorem en97_1 [MaxL] (n0 : Nat) (e : Env) (H : Heap) : enter cx 97 n0 1 e H = enterK [0, 1] 0 n0 e H := rfl
@[simp] theorem en97_2 [MaxL] (n0 : Nat) (e : Env) (H : Heap) : enter cx 97 n0 2 e H = enterK [0, 5] 0 n0 e H := rfl
@[simp] theorem en100_0 [MaxL] (n0 : Nat) (e : Env) (H : Heap) : enter cx 100 n0 0 e H = enterK [0] 0 n0 e H := rfl
@[simp] theorem en100_1 [MaxL] (n0 : Nat) (e : Env) (H : Heap) : enter cx 100 n0 1 e H = enterK [0] 0 n0 e H := rfl
@[simp] theorem en100_2 [MaxL] (n0 : Nat) (e : Env) (H : Heap) : enter cx 100 n0 2 e H = enterK [0, 4] 0 n0 e H := rfl
@[simp] theorem en100_3 [MaxL] (n0 : Nat) (e : Env) (H : Heap) : enter cx 100 n0 3 e H = enterK [] 0 n0 e H := rfl
@[simp] theorem en100_4 [MaxL] (n0 : Nat) (e : Env) (H : Heap) : enter cx 100 n0 4 e H = enterK [0, 4] 0 n0 e H := rfl
@[simp] theorem en100_5 [MaxL] (n0 : Nat) (e : Env) (H : Heap) : enter cx 100 n0 5 e H = enterK [0, 4, 5] 0 n0 e H := rfl
@[simp] theorem en100_6 [MaxL] (n0 : Nat) (e : Env) (H : Heap) : enter cx 100 n0 6 e H = enterK [0, 4, 5, 6] 0 n0 e H := rfl
@[simp] theorem en100_7 [MaxL] (n0 : Nat) (e : Env) (H : Heap) : enter cx 100 n0 7 e H = enterK [0, 6] 0 n0 e H := rfl
@[simp] theorem en100_8 [MaxL] (n0 : Nat) (e : Env) (H : Heap) : enter cx 100 n0 8 e H = enterK [0, 7] 0 n0 e H := rfl
@[simp] theorem en100_9 [MaxL] (n0 : Nat) (e : Env) (H : Heap) : enter cx 100 n0 9 e H = enterK [0, 4, 5, 6] 0 n0 e H := rfl
@[simp] theorem en100_10 [MaxL] (n0 : Nat) (e : Env) (H : Heap) : enter cx 100 n0 10 e H = enterK [0, 4, 5, 6, 8] 0 n0 e H := rfl
@[simp] theorem en100_11 [MaxL] (n0 : Nat) (e : Env) (H : Heap) : enter cx 100 n0 11 e H = enterK [0, 4, 5, 8, 9] 0 n0 e H := rfl
@[simp] theorem en100_12 [MaxL] (n0 : Nat) (e : Env) (H : Heap) : enter cx 100 n0 12 e H = enterK [] 0 n0 e H := rfl
@[simp] theorem en100_13 [MaxL] (n0 : Nat) (e : Env) (H : Heap) : enter cx 100 n0 13 e H = enterK [0, 5, 8, 9] 0 n0 e H := rfl
@[simp] theorem en100_14 [MaxL] (n0 : Nat) (e : Env) (H : Heap) : enter cx 100 n0 14 e H = enterK [0, 5, 8, 9, 10] 0 n0 e H := rfl
@[simp] theorem en100_15 [MaxL] (n0 : Nat) (e : Env) (H : Heap) : enter cx 100 n0 15 e H = enterK [] 0 n0 e H := rfl
@[simp] theorem en100_16 [MaxL] (n0 : Nat) (e : Env) (H : Heap) : enter cx 100 n0 16 e H = enterK [0, 5, 8, 10] 0 n0 e H := rfl
@[simp] theorem en100_17 [MaxL] (n0 : Nat) (e : Env) (H : Heap) : enter cx 100 n0 17 e H = enterK [5, 10] 0 n0 e H := rfl
@[simp] theorem en100_18 [MaxL] (n0 : Nat) (e : Env) (H : Heap) : enter cx 100 n0 18 e H = enterK [0, 5, 8, 10] 0 n0 e H := rfl
@[simp] theorem en100_19 [MaxL] (n0 : Nat) (e : Env) (H : Heap) : enter cx 100 n0 19 e H = enterK [0, 5, 8, 10, 11] 0 n0 e H := rfl
@[simp] theorem en100_20 [MaxL] (n0 : Nat) (e : Env) (H : Heap) : enter cx 100 n0 20 e H = enterK [] 0 n0 e H := rfl
@[simp] theorem en100_21 [MaxL] (n0 : Nat) (e : Env) (H : Heap) : enter cx 100 n0 21 e H = enterK [0, 5, 8, 10, 11] 0 n0 e H := rfl
@[simp] theorem en100_22 [MaxL] (n0 : Nat) (e : Env) (H : Heap) : enter cx 100 n0 22 e H = enterK [5, 10, 11] 0 n0 e H := rfl
@[simp] theorem en100_23 [MaxL] (n0 : Nat) (e : Env) (H : Heap) : enter cx 100 n0 23 e H = enterK [0, 5, 10, 11] 0 n0 e H := rfl
@[simp] theorem en100_24 [MaxL] (n0 : Nat) (e : Env) (H : Heap) : enter cx 100 n0 24 e H = enterK [5, 10, 11, 12] 0 n0 e H := rfl
@[simp] theorem en100_25 [MaxL] (n0 : Nat) (e : Env) (H : Heap) : enter cx 100 n0 25 e H = enterK [] 0 n0 e H := rfl
@[simp] theorem en100_26 [MaxL] (n0 : Nat) (e : Env) (H : Heap) : enter cx 100 n0 26 e H = enterK [5, 10, 11, 12] 0 n0 e H := rfl
@[simp] theorem en102_0 [MaxL] (n0 : Nat) (e : Env) (H : Heap) : enter cx 102 n0 0 e H = enterK [0] 0 n0 e H := rfl
@[simp] theorem en102_1 [MaxL] (n0 : Nat) (e : Env) (H : Heap) : enter cx 102 n0 1 e H = enterK [0] 0 n0 e H := rfl
@[simp] theorem en103_0 [MaxL] (n0 : Nat) (e : Env) (H : Heap) : enter cx 103 n0 0 e H = enterK [0] 0 n0 e H := rfl
@[simp] theorem en103_1 [MaxL] (n0 : Nat) (e : Env) (H : Heap) : enter cx 103 n0 1 e H = enterK [0] 0 n0 e H := rfl
@[simp] theorem en103_2 [MaxL] (n0 : Nat) (e : Env) (H : Heap) : enter cx 103 n0 2 e H = enterK [] 0 n0 e H := rfl
@[simp] theorem en103_3 [MaxL] (n0 : Nat) (e : Env) (H : Heap) : enter cx 103 n0 3 e H = enterK [0] 0 n0 e H := rfl
@[simp] theorem en104_0 [MaxL] (n0 : Nat) (e : Env) (H : Heap) : enter cx 104 n0 0 e H = enterK [0] 0 n0 e H := rfl
@[simp] theorem en104_1 [MaxL] (n0 : Nat) (e : Env) (H : Heap) : enter cx 104 n0 1 e H = enterK [0] 0 n0 e H := rfl
@[simp] theorem en104_2 [MaxL] (n0 : Nat) (e : Env) (H : Heap) : enter cx 104 n0 2 e H = enterK [] 0 n0 e H := rfl
@[simp] theorem en104_3 [MaxL] (n0 : Nat) (e : Env) (H : Heap) : enter cx 104 n0 3 e H = enterK [0] 0 n0 e H := rfl
@[simp] theorem en105_0 [MaxL] (n0 : Nat) (e : Env) (H : Heap) : enter cx 105 n0 0 e H = enterK [0] 0 n0 e H := rfl
@[simp] theorem en105_1 [MaxL] (n0 : Nat) (e : Env) (H : Heap) : enter cx 105 n0 1 e H = enterK [0] 0 n0 e H := rfl
@[simp] theorem en106_0 [MaxL] (n0 : Nat) (e : Env) (H : Heap) : enter cx 106 n0 0 e H = enterK [0, 1] 0 n0 e H := rfl
@[simp] theorem en106_1 [MaxL] (n0 : Nat) (e : Env) (H : Heap) : enter cx 106 n0 1 e H = enterK [0, 1] 0 n0 e H := rfl
@[simp] theorem en106_2 [MaxL] (n0 : Nat) (e : Env) (H : Heap) : enter cx 106 n0 2 e H = enterK [0] 0 n0 e H := rfl
@[simp] theorem en106_3 [MaxL] (n0 : Nat) (e : Env) (H : Heap) : enter cx 106 n0 3 e H = enterK [0] 0 n0 e H := rfl
@[simp] theorem en106_4 [MaxL] (n0 : Nat) (e : Env) (H : Heap) : enter cx 106 n0 4 e H = enterK [0] 0 n0 e H := rfl
@[simp] theorem en106_5 [MaxL] (n0 : Nat) (e : Env) (H : Heap) : enter cx 106 n0 5 e H = enterK [0, 5] 0 n0 e H := rfl
@[simp] theorem en106_6 [MaxL] (n0 : Nat) (e : Env) (H : Heap) : enter cx 106 n0 6 e H = enterK [0, 5, 6] 0 n0 e H := rfl
@[simp] theorem en106_7 [MaxL] (n0 : Nat) (e : Env) (H : Heap) : enter cx 106 n0 7 e H = enterK [0, 5, 6] 0 n0 e H := rfl
@[simp] theorem en106_8 [MaxL] (n0 : Nat) (e : Env) (H : Heap) : enter cx 106 n0 8 e H = enterK [0, 5, 6] 0 n0 e H := rfl
@[simp] theorem en106_9 [MaxL] (n0 : Nat) (e : Env) (H : Heap) : enter cx 106 n0 9 e H = enterK [0, 5, 6, 7] 0 n0 e H := rfl
@[simp] theorem en106_10 [MaxL] (n0 : Nat) (e : Env) (H : Heap) : enter cx 106 n0 10 e H = enterK [0, 5, 7] 0 n0 e H := rfl
@[simp] theorem en106_11 [MaxL] (n0 : Nat) (e : Env) (H : Heap) : enter cx 106 n0 11 e H = enterK [5, 7] 0 n0 e H := rfl
@[simp] theorem en106_12 [MaxL] (n0 : Nat) (e : Env) (H : Heap) : enter cx 106 n0 12 e H = enterK [5, 7] 0 n0 e H := rfl
@[simp] theorem en106_13 [MaxL] (n0 : Nat) (e : Env) (H : Heap) : enter cx 106 n0 13 e H = enterK [5, 7] 0 n0 e H := rfl
@[simp] theorem en106_14 [MaxL] (n0 : Nat) (e : Env) (H : Heap) : enter cx 106 n0 14 e H = enterK [0, 1] 0 n0 e H := rfl
@[simp] theorem en106_15 [MaxL] (n0 : Nat) (e : Env) (H : Heap) : enter cx 106 n0 15 e H = enterK [9] 0 n0 e H := rfl
end Go.Ev.S
/- What the evaluator needs of this program: printed by program. -/
namespace Go.Ev.S
open Go Go.Proofs Go.Ev
@[simp] theorem sz2 : szOf Tryz.prog 2 = 1 := by kernel_rfl
@[simp] theorem ag2 : aggQ Tryz.prog 2 = some false := by kernel_rfl
@[simp] theorem by2 : bytesOf Tryz.prog 2 = 8 := by kernel_rfl
@[simp] theorem zo2 : zeroOf Tryz.prog 2 = some (.int .i64 0) := by kernel_rfl
@[simp] theorem cq2 : cmpQ Tryz.prog 2 = true := by kernel_rfl
@[simp] theorem un2 : Tryz.prog.underlying 2 = some (.int .i64) := by kernel_rfl
@[simp] theorem sz3 : szOf Tryz.prog 3 = 1 := by kernel_rfl
@[simp] theorem ag3 : aggQ Tryz.prog 3 = some false := by kernel_rfl
@[simp] theorem by3 : bytesOf Tryz.prog 3 = 8 := by kernel_rfl
@[simp] theorem zo3 : zeroOf Tryz.prog 3 = some (.int .i64 0) := by kernel_rfl
@[simp] theorem cq3 : cmpQ Tryz.prog 3 = true := by kernel_rfl
@[simp] theorem un3 : Tryz.prog.underlying 3 = some (.int .i64) := by kernel_rfl
@[simp] theorem sz4 : szOf Tryz.prog 4 = 1 := by kernel_rfl
@[simp] theorem ag4 : aggQ Tryz.prog 4 = some false := by kernel_rfl
@[simp] theorem by4 : bytesOf Tryz.prog 4 = 1 := by kernel_rfl
@[simp] theorem zo4 : zeroOf Tryz.prog 4 = some (.bool false) := by kernel_rfl
@[simp] theorem un4 : Tryz.prog.underlying 4 = some .bool := by kernel_rfl
@[simp] theorem sz5 : szOf Tryz.prog 5 = 1 := by kernel_rfl
@[simp] theorem ag5 : aggQ Tryz.prog 5 = some false := by kernel_rfl
@[simp] theorem by5 : bytesOf Tryz.prog 5 = 1 := by kernel_rfl
@[simp] theorem zo5 : zeroOf Tryz.prog 5 = some (.int .u8 0) := by kernel_rfl
@[simp] theorem cq5 : cmpQ Tryz.prog 5 = true := by kernel_rfl
@[simp] theorem un5 : Tryz.prog.underlying 5 = some (.int .u8) := by kernel_rfl
@[simp] theorem sz9 : szOf Tryz.prog 9 = 1 := by kernel_rfl
@[simp] theorem ag9 : aggQ Tryz.prog 9 = some false := by kernel_rfl
@[simp] theorem by9 : bytesOf Tryz.prog 9 = 16 := by kernel_rfl
@[simp] theorem zo9 : zeroOf Tryz.prog 9 = some (.str []) := by kernel_rfl
@[simp] theorem un9 : Tryz.prog.underlying 9 = some .string := by kernel_rfl
@[simp] theorem sz21 : szOf Tryz.prog 21 = 1 := by kernel_rfl
@[simp] theorem ag21 : aggQ Tryz.prog 21 = some false := by kernel_rfl
@[simp] theorem by21 : bytesOf Tryz.prog 21 = 4 := by kernel_rfl
@[simp] theorem zo21 : zeroOf Tryz.prog 21 = some (.int .i32 0) := by kernel_rfl
@[simp] theorem cq21 : cmpQ Tryz.prog 21 = true := by kernel_rfl
@[simp] theorem un21 : Tryz.prog.underlying 21 = some (.int .i32) := by kernel_rfl
@[simp] theorem sz22 : szOf Tryz.prog 22 = 16 := by kernel_rfl
@[simp] theorem ag22 : aggQ Tryz.prog 22 = some true := by kernel_rfl
@[simp] theorem by22 : bytesOf Tryz.prog 22 = 16 := by kernel_rfl
@[simp] theorem zo22 : zeroOf Tryz.prog 22 = some (.agg [.int .u8 0, .int .u8 0, .int .u8 0, .int .u8 0, .int .u8 0, .int .u8 0, .int .u8 0, .int .u8 0, .int .u8 0, .int .u8 0, .int .u8 0, .int .u8 0, .int .u8 0, .int .u8 0, .int .u8 0, .int .u8 0]) := by kernel_rfl
@[simp] theorem un22 : Tryz.prog.underlying 22 = some (.array 16 5) := by kernel_rfl
@[simp] theorem sz23 : szOf Tryz.prog 23 = 16 := by kernel_rfl
@[simp] theorem ag23 : aggQ Tryz.prog 23 = some true := by kernel_rfl
@[simp] theorem by23 : bytesOf Tryz.prog 23 = 16 := by kernel_rfl
@[simp] theorem zo23 : zeroOf Tryz.prog 23 = some (.agg [.int .u8 0, .int .u8 0, .int .u8 0, .int .u8 0, .int .u8 0, .int .u8 0, .int .u8 0, .int .u8 0, .int .u8 0, .int .u8 0, .int .u8 0, .int .u8 0, .int .u8 0, .int .u8 0, .int .u8 0, .int .u8 0]) := by kernel_rfl
@[simp] theorem un23 : Tryz.prog.underlying 23 = some (.array 16 5) := by kernel_rfl
@[simp] theorem sz24 : szOf Tryz.prog 24 = 1 := by kernel_rfl
@[simp] theorem ag24 : aggQ Tryz.prog 24 = some false := by kernel_rfl
@[simp] theorem by24 : bytesOf Tryz.prog 24 = 8 := by kernel_rfl
@[simp] theorem zo24 : zeroOf Tryz.prog 24 = some (.int .u64 0) := by kernel_rfl
@[simp] theorem cq24 : cmpQ Tryz.prog 24 = true := by kernel_rfl
@[simp] theorem un24 : Tryz.prog.underlying 24 = some (.int .u64) := by kernel_rfl
@[simp] theorem sz25 : szOf Tryz.prog 25 = 36 := by kernel_rfl
@[simp] theorem ag25 : aggQ Tryz.prog 25 = some true := by kernel_rfl
@[simp] theorem by25 : bytesOf Tryz.prog 25 = 64 := by kernel_rfl
@[simp] theorem zo25 : zeroOf Tryz.prog 25 = some (.agg [.int .u8 0, .int .u8 0, .int .u8 0, .int .u8 0, .int .u8 0, .int .u8 0, .int .u8 0, .int .u8 0, .int .u8 0, .int .u8 0, .int .u8 0, .int .u8 0, .int .u8 0, .int .u8 0, .int .u8 0, .int .u8 0, .int .u64 0, .int .u8 0, .int .u8 0, .int .u8 0, .int .u8 0, .int .u8 0, .int .u8 0, .int .u8 0, .int .u8 0, .int .u8 0, .int .u8 0, .int .u8 0, .int .u8 0, .int .u8 0, .int .u8 0, .int .u8 0, .int .u8 0, .int .u64 0, .int .u64 0, .int .u64 0]) := by kernel_rfl
attribute [simp] Tryz.underlying25
@[simp] theorem sz26 : szOf Tryz.prog 26 = 36 := by kernel_rfl
@[simp] theorem ag26 : aggQ Tryz.prog 26 = some true := by kernel_rfl
@[simp] theorem by26 : bytesOf Tryz.prog 26 = 64 := by kernel_rfl
@[simp] theorem zo26 : zeroOf Tryz.prog 26 = some (.agg [.int .u8 0, .int .u8 0, .int .u8 0, .int .u8 0, .int .u8 0, .int .u8 0, .int .u8 0, .int .u8 0, .int .u8 0, .int .u8 0, .int .u8 0, .int .u8 0, .int .u8 0, .int .u8 0, .int .u8 0, .int .u8 0, .int .u64 0, .int .u8 0, .int .u8 0, .int .u8 0, .int .u8 0, .int .u8 0, .int .u8 0, .int .u8 0, .int .u8 0, .int .u8 0, .int .u8 0, .int .u8 0, .int .u8 0, .int .u8 0, .int .u8 0, .int .u8 0, .int .u8 0, .int .u64 0, .int .u64 0, .int .u64 0]) := by kernel_rfl
attribute [simp] Tryz.underlying26
@[simp] theorem sz27 : szOf Tryz.prog 27 = 1 := by kernel_rfl
@[simp] theorem ag27 : aggQ Tryz.prog 27 = some false := by kernel_rfl
@[simp] theorem by27 : bytesOf Tryz.prog 27 = 24 := by kernel_rfl
@[simp] theorem zo27 : zeroOf Tryz.prog 27 = some (.vsl true [] 0) := by kernel_rfl
@[simp] theorem un27 : Tryz.prog.underlying 27 = some (.slice 32) := by kernel_rfl
@[simp] theorem sz28 : szOf Tryz.prog 28 = 20 := by kernel_rfl
@[simp] theorem ag28 : aggQ Tryz.prog 28 = some true := by kernel_rfl
@[simp] theorem by28 : bytesOf Tryz.prog 28 = 64 := by kernel_rfl
@[simp] theorem zo28 : zeroOf Tryz.prog 28 = some (.agg [.int .u64 0, .int .u64 0, .int .u64 0, .int .u8 0, .int .u8 0, .int .u8 0, .int .u8 0, .int .u8 0, .int .u8 0, .int .u8 0, .int .u8 0, .int .u8 0, .int .u8 0, .int .u8 0, .int .u8 0, .int .u8 0, .int .u8 0, .int .u8 0, .int .u8 0, .vsl true [] 0]) := by kernel_rfl
attribute [simp] Tryz.underlying28
@[simp] theorem sz29 : szOf Tryz.prog 29 = 20 := by kernel_rfl
@[simp] theorem ag29 : aggQ Tryz.prog 29 = some true := by kernel_rfl
@[simp] theorem by29 : bytesOf Tryz.prog 29 = 64 := by kernel_rfl
@[simp] theorem zo29 : zeroOf Tryz.prog 29 = some (.agg [.int .u64 0, .int .u64 0, .int .u64 0, .int .u8 0, .int .u8 0, .int .u8 0, .int .u8 0, .int .u8 0, .int .u8 0, .int .u8 0, .int .u8 0, .int .u8 0, .int .u8 0, .int .u8 0, .int .u8 0, .int .u8 0, .int .u8 0, .int .u8 0, .int .u8 0, .vsl true [] 0]) := by kernel_rfl
attribute [simp] Tryz.underlying29
@[simp] theorem sz31 : szOf Tryz.prog 31 = 2 := by kernel_rfl
@[simp] theorem ag31 : aggQ Tryz.prog 31 = some true := by kernel_rfl
@[simp] theorem by31 : bytesOf Tryz.prog 31 = 32 := by kernel_rfl
@[simp] theorem zo31 : zeroOf Tryz.prog 31 = some (.agg [.str [], .str []]) := by kernel_rfl
attribute [simp] Tryz.underlying31
@[simp] theorem sz32 : szOf Tryz.prog 32 = 2 := by kernel_rfl
@[simp] theorem ag32 : aggQ Tryz.prog 32 = some true := by kernel_rfl
@[simp] theorem by32 : bytesOf Tryz.prog 32 = 32 := by kernel_rfl
@[simp] theorem zo32 : zeroOf Tryz.prog 32 = some (.agg [.str [], .str []]) := by kernel_rfl
attribute [simp] Tryz.underlying32
@[simp] theorem sz35 : szOf Tryz.prog 35 = 36 := by kernel_rfl
@[simp] theorem ag35 : aggQ Tryz.prog 35 = some true := by kernel_rfl
@[simp] theorem by35 : bytesOf Tryz.prog 35 = 64 := by kernel_rfl
@[simp] theorem zo35 : zeroOf Tryz.prog 35 = some (.agg [.int .u8 0, .int .u8 0, .int .u8 0, .int .u8 0, .int .u8 0, .int .u8 0, .int .u8 0, .int .u8 0, .int .u8 0, .int .u8 0, .int .u8 0, .int .u8 0, .int .u8 0, .int .u8 0, .int .u8 0, .int .u8 0, .int .u64 0, .int .u8 0, .int .u8 0, .int .u8 0, .int .u8 0, .int .u8 0, .int .u8 0, .int .u8 0, .int .u8 0, .int .u8 0, .int .u8 0, .int .u8 0, .int .u8 0, .int .u8 0, .int .u8 0, .int .u8 0, .int .u8 0, .int .u64 0, .int .u64 0, .int .u64 0]) := by kernel_rfl
attribute [simp] Tryz.underlying35
@[simp] theorem sz52 : szOf Tryz.prog 52 = 1 := by kernel_rfl
@[simp] theorem ag52 : aggQ Tryz.prog 52 = some false := by kernel_rfl
@[simp] theorem by52 : bytesOf Tryz.prog 52 = 24 := by kernel_rfl
@[simp] theorem zo52 : zeroOf Tryz.prog 52 = some (.vsl true [] 0) := by kernel_rfl
@[simp] theorem un52 : Tryz.prog.underlying 52 = some (.slice 9) := by kernel_rfl
@[simp] theorem sz56 : szOf Tryz.prog 56 = 1 := by kernel_rfl
@[simp] theorem ag56 : aggQ Tryz.prog 56 = some false := by kernel_rfl
@[simp] theorem by56 : bytesOf Tryz.prog 56 = 16 := by kernel_rfl
@[simp] theorem zo56 : zeroOf Tryz.prog 56 = some (.nili) := by kernel_rfl
attribute [simp] Tryz.underlying56
@[simp] theorem sz57 : szOf Tryz.prog 57 = 1 := by kernel_rfl
@[simp] theorem ag57 : aggQ Tryz.prog 57 = some false := by kernel_rfl
@[simp] theorem by57 : bytesOf Tryz.prog 57 = 16 := by kernel_rfl
@[simp] theorem zo57 : zeroOf Tryz.prog 57 = some (.nili) := by kernel_rfl
attribute [simp] Tryz.underlying57
@[simp] theorem sz61 : szOf Tryz.prog 61 = 6 := by kernel_rfl
@[simp] theorem ag61 : aggQ Tryz.prog 61 = some true := by kernel_rfl
@[simp] theorem by61 : bytesOf Tryz.prog 61 = 6 := by kernel_rfl
@[simp] theorem zo61 : zeroOf Tryz.prog 61 = some (.agg [.bool false, .bool false, .bool false, .bool false, .bool false, .bool false]) := by kernel_rfl
@[simp] theorem un61 : Tryz.prog.underlying 61 = some (.array 6 4) := by kernel_rfl
@[simp] theorem sz63 : szOf Tryz.prog 63 = 1 := by kernel_rfl
@[simp] theorem ag63 : aggQ Tryz.prog 63 = some false := by kernel_rfl
@[simp] theorem by63 : bytesOf Tryz.prog 63 = 8 := by kernel_rfl
@[simp] theorem zo63 : zeroOf Tryz.prog 63 = some (.int .u64 0) := by kernel_rfl
@[simp] theorem cq63 : cmpQ Tryz.prog 63 = true := by kernel_rfl
@[simp] theorem un63 : Tryz.prog.underlying 63 = some (.int .u64) := by kernel_rfl
@[simp] theorem sz66 : szOf Tryz.prog 66 = 1 := by kernel_rfl
@[simp] theorem ag66 : aggQ Tryz.prog 66 = some false := by kernel_rfl
@[simp] theorem by66 : bytesOf Tryz.prog 66 = 24 := by kernel_rfl
@[simp] theorem zo66 : zeroOf Tryz.prog 66 = some (.vsl true [] 0) := by kernel_rfl
@[simp] theorem un66 : Tryz.prog.underlying 66 = some (.slice 67) := by kernel_rfl
@[simp] theorem sz67 : szOf Tryz.prog 67 = 1 := by kernel_rfl
@[simp] theorem ag67 : aggQ Tryz.prog 67 = some false := by kernel_rfl
@[simp] theorem by67 : bytesOf Tryz.prog 67 = 24 := by kernel_rfl
@[simp] theorem zo67 : zeroOf Tryz.prog 67 = some (.vsl true [] 0) := by kernel_rfl
@[simp] theorem un67 : Tryz.prog.underlying 67 = some (.slice 5) := by kernel_rfl
@[simp] theorem sz80 : szOf Tryz.prog 80 = 1 := by kernel_rfl
@[simp] theorem ag80 : aggQ Tryz.prog 80 = some false := by kernel_rfl
@[simp] theorem by80 : bytesOf Tryz.prog 80 = 24 := by kernel_rfl
@[simp] theorem zo80 : zeroOf Tryz.prog 80 = some (.vsl true [] 0) := by kernel_rfl
@[simp] theorem un80 : Tryz.prog.underlying 80 = some (.slice 3) := by kernel_rfl
@[simp] theorem sz94 : szOf Tryz.prog 94 = 1 := by kernel_rfl
@[simp] theorem ag94 : aggQ Tryz.prog 94 = some false := by kernel_rfl
@[simp] theorem by94 : bytesOf Tryz.prog 94 = 8 := by kernel_rfl
@[simp] theorem zo94 : zeroOf Tryz.prog 94 = some (.int .i64 0) := by kernel_rfl
@[simp] theorem cq94 : cmpQ Tryz.prog 94 = true := by kernel_rfl
@[simp] theorem un94 : Tryz.prog.underlying 94 = some (.int .i64) := by kernel_rfl
@[simp] theorem sz97 : szOf Tryz.prog 97 = 1 := by kernel_rfl
@[simp] theorem ag97 : aggQ Tryz.prog 97 = some false := by kernel_rfl
@[simp] theorem by97 : bytesOf Tryz.prog 97 = 8 := by kernel_rfl
@[simp] theorem zo97 : zeroOf Tryz.prog 97 = some (.nilp) := by kernel_rfl
@[simp] theorem un97 : Tryz.prog.underlying 97 = some (.pointer 124) := by kernel_rfl
@[simp] theorem sz101 : szOf Tryz.prog 101 = 24 := by kernel_rfl
@[simp] theorem ag101 : aggQ Tryz.prog 101 = some true := by kernel_rfl
@[simp] theorem by101 : bytesOf Tryz.prog 101 = 24 := by kernel_rfl
@[simp] theorem zo101 : zeroOf Tryz.prog 101 = some (.agg [.int .u8 0, .int .u8 0, .int .u8 0, .int .u8 0, .int .u8 0, .int .u8 0, .int .u8 0, .int .u8 0, .int .u8 0, .int .u8 0, .int .u8 0, .int .u8 0, .int .u8 0, .int .u8 0, .int .u8 0, .int .u8 0, .int .u8 0, .int .u8 0, .int .u8 0, .int .u8 0, .int .u8 0, .int .u8 0, .int .u8 0, .int .u8 0]) := by kernel_rfl
@[simp] theorem un101 : Tryz.prog.underlying 101 = some (.array 24 5) := by kernel_rfl
@[simp] theorem sz106 : szOf Tryz.prog 106 = 1 := by kernel_rfl
@[simp] theorem ag106 : aggQ Tryz.prog 106 = some false := by kernel_rfl
@[simp] theorem by106 : bytesOf Tryz.prog 106 = 4 := by kernel_rfl
@[simp] theorem zo106 : zeroOf Tryz.prog 106 = some (.int .u32 0) := by kernel_rfl
@[simp] theorem cq106 : cmpQ Tryz.prog 106 = true := by kernel_rfl
@[simp] theorem un106 : Tryz.prog.underlying 106 = some (.int .u32) := by kernel_rfl
@[simp] theorem sz107 : szOf Tryz.prog 107 = 3 := by kernel_rfl
@[simp] theorem ag107 : aggQ Tryz.prog 107 = some true := by kernel_rfl
@[simp] theorem by107 : bytesOf Tryz.prog 107 = 12 := by kernel_rfl
@[simp] theorem zo107 : zeroOf Tryz.prog 107 = some (.agg [.int .u32 0, .int .u32 0, .int .u32 0]) := by kernel_rfl
attribute [simp] Tryz.underlying107
@[simp] theorem sz108 : szOf Tryz.prog 108 = 3 := by kernel_rfl
@[simp] theorem ag108 : aggQ Tryz.prog 108 = some true := by kernel_rfl
@[simp] theorem by108 : bytesOf Tryz.prog 108 = 12 := by kernel_rfl
@[simp] theorem zo108 : zeroOf Tryz.prog 108 = some (.agg [.int .u32 0, .int .u32 0, .int .u32 0]) := by kernel_rfl
attribute [simp] Tryz.underlying108
@[simp] theorem sz110 : szOf Tryz.prog 110 = 12 := by kernel_rfl
@[simp] theorem ag110 : aggQ Tryz.prog 110 = some true := by kernel_rfl
@[simp] theorem by110 : bytesOf Tryz.prog 110 = 12 := by kernel_rfl
@[simp] theorem zo110 : zeroOf Tryz.prog 110 = some (.agg [.int .u8 0, .int .u8 0, .int .u8 0, .int .u8 0, .int .u8 0, .int .u8 0, .int .u8 0, .int .u8 0, .int .u8 0, .int .u8 0, .int .u8 0, .int .u8 0]) := by kernel_rfl
@[simp] theorem un110 : Tryz.prog.underlying 110 = some (.array 12 5) := by kernel_rfl
@[simp] theorem sz123 : szOf Tryz.prog 123 = 3 := by kernel_rfl
@[simp] theorem ag123 : aggQ Tryz.prog 123 = some true := by kernel_rfl
@[simp] theorem by123 : bytesOf Tryz.prog 123 = 48 := by kernel_rfl
@[simp] theorem zo123 : zeroOf Tryz.prog 123 = some (.agg [.str [], .str [], .nili]) := by kernel_rfl
attribute [simp] Tryz.underlying123
@[simp] theorem sz124 : szOf Tryz.prog 124 = 3 := by kernel_rfl
@[simp] theorem ag124 : aggQ Tryz.prog 124 = some true := by kernel_rfl
@[simp] theorem by124 : bytesOf Tryz.prog 124 = 48 := by kernel_rfl
@[simp] theorem zo124 : zeroOf Tryz.prog 124 = some (.agg [.str [], .str [], .nili]) := by kernel_rfl
attribute [simp] Tryz.underlying124
@[simp] theorem sz127 : szOf Tryz.prog 127 = 20 := by kernel_rfl
@[simp] theorem ag127 : aggQ Tryz.prog 127 = some true := by kernel_rfl
@[simp] theorem by127 : bytesOf Tryz.prog 127 = 160 := by kernel_rfl
@[simp] theorem zo127 : zeroOf Tryz.prog 127 = some (.agg [.int .u64 0, .int .u64 0, .int .u64 0, .int .u64 0, .int .u64 0, .int .u64 0, .int .u64 0, .int .u64 0, .int .u64 0, .int .u64 0, .int .u64 0, .int .u64 0, .int .u64 0, .int .u64 0, .int .u64 0, .int .u64 0, .int .u64 0, .int .u64 0, .int .u64 0, .int .u64 0]) := by kernel_rfl
@[simp] theorem un127 : Tryz.prog.underlying 127 = some (.array 20 24) := by kernel_rfl
@[simp] theorem sz128 : szOf Tryz.prog 128 = 65 := by kernel_rfl
@[simp] theorem ag128 : aggQ Tryz.prog 128 = some true := by kernel_rfl
@[simp] theorem by128 : bytesOf Tryz.prog 128 = 65 := by kernel_rfl
@[simp] theorem zo128 : zeroOf Tryz.prog 128 = some (.agg (List.replicate 65 (.int .u8 0))) := by kernel_rfl
@[simp] theorem un128 : Tryz.prog.underlying 128 = some (.array 65 5) := by kernel_rfl
@[simp] theorem sz138 : szOf Tryz.prog 138 = 1 := by kernel_rfl
@[simp] theorem ag138 : aggQ Tryz.prog 138 = some false := by kernel_rfl
@[simp] theorem by138 : bytesOf Tryz.prog 138 = 8 := by kernel_rfl
@[simp] theorem zo138 : zeroOf Tryz.prog 138 = some (.nilp) := by kernel_rfl
@[simp] theorem un138 : Tryz.prog.underlying 138 = some (.pointer 140) := by kernel_rfl
@[simp] theorem sz139 : szOf Tryz.prog 139 = 1 := by kernel_rfl
@[simp] theorem ag139 : aggQ Tryz.prog 139 = some true := by kernel_rfl
@[simp] theorem by139 : bytesOf Tryz.prog 139 = 16 := by kernel_rfl
@[simp] theorem zo139 : zeroOf Tryz.prog 139 = some (.agg [.str []]) := by kernel_rfl
attribute [simp] Tryz.underlying139
@[simp] theorem sz140 : szOf Tryz.prog 140 = 1 := by kernel_rfl
@[simp] theorem ag140 : aggQ Tryz.prog 140 = some true := by kernel_rfl
@[simp] theorem by140 : bytesOf Tryz.prog 140 = 16 := by kernel_rfl
@[simp] theorem zo140 : zeroOf Tryz.prog 140 = some (.agg [.str []]) := by kernel_rfl
attribute [simp] Tryz.underlying140
@[simp] theorem sz142 : szOf Tryz.prog 142 = 256 := by kernel_rfl
@[simp] theorem ag142 : aggQ Tryz.prog 142 = some true := by kernel_rfl
@[simp] theorem by142 : bytesOf Tryz.prog 142 = 256 := by kernel_rfl
@[simp] theorem zo142 : zeroOf Tryz.prog 142 = some (.agg (List.replicate 256 (.int .u8 0))) := by kernel_rfl
@[simp] theorem un142 : Tryz.prog.underlying 142 = some (.array 256 5) := by kernel_rfl
@[simp] theorem sz143 : szOf Tryz.prog 143 = 2 := by kernel_rfl
@[simp] theorem ag143 : aggQ Tryz.prog 143 = some true := by kernel_rfl
@[simp] theorem by143 : bytesOf Tryz.prog 143 = 2 := by kernel_rfl
@[simp] theorem zo143 : zeroOf Tryz.prog 143 = some (.agg [.int .u8 0, .int .u8 0]) := by kernel_rfl
attribute [simp] Tryz.underlying143
@[simp] theorem sz144 : szOf Tryz.prog 144 = 2 := by kernel_rfl
@[simp] theorem ag144 : aggQ Tryz.prog 144 = some true := by kernel_rfl
@[simp] theorem by144 : bytesOf Tryz.prog 144 = 2 := by kernel_rfl
@[simp] theorem zo144 : zeroOf Tryz.prog 144 = some (.agg [.int .u8 0, .int .u8 0]) := by kernel_rfl
attribute [simp] Tryz.underlying144
@[simp] theorem sz145 : szOf Tryz.prog 145 = 32 := by kernel_rfl
@[simp] theorem ag145 : aggQ Tryz.prog 145 = some true := by kernel_rfl
@[simp] theorem by145 : bytesOf Tryz.prog 145 = 32 := by kernel_rfl
@[simp] theorem zo145 : zeroOf Tryz.prog 145 = some (.agg (List.replicate 32 (.int .u8 0))) := by kernel_rfl
@[simp] theorem un145 : Tryz.prog.underlying 145 = some (.array 16 144) := by kernel_rfl
@[simp] theorem sz147 : szOf Tryz.prog 147 = 32 := by kernel_rfl
@[simp] theorem ag147 : aggQ Tryz.prog 147 = some true := by kernel_rfl
@[simp] theorem by147 : bytesOf Tryz.prog 147 = 32 := by kernel_rfl
@[simp] theorem zo147 : zeroOf Tryz.prog 147 = some (.agg (List.replicate 32 (.int .u8 0))) := by kernel_rfl
@[simp] theorem un147 : Tryz.prog.underlying 147 = some (.array 32 5) := by kernel_rfl
@[simp] theorem sz148 : szOf Tryz.prog 148 = 64 := by kernel_rfl
@[simp] theorem ag148 : aggQ Tryz.prog 148 = some true := by kernel_rfl
@[simp] theorem by148 : bytesOf Tryz.prog 148 = 64 := by kernel_rfl
@[simp] theorem zo148 : zeroOf Tryz.prog 148 = some (.agg (List.replicate 64 (.int .u8 0))) := by kernel_rfl
@[simp] theorem un148 : Tryz.prog.underlying 148 = some (.array 64 5) := by kernel_rfl
@[simp] theorem pl3 : plainTy Tryz.prog 50 3 = some ([.i]) := by kernel_rfl
@[simp] theorem eg3 : Tryz.prog.eqGuardType Tryz.prog.depth 3 = false := by kernel_rfl
@[simp] theorem pl4 : plainTy Tryz.prog 50 4 = some ([.b]) := by kernel_rfl
@[simp] theorem eg4 : Tryz.prog.eqGuardType Tryz.prog.depth 4 = false := by kernel_rfl
@[simp] theorem pl5 : plainTy Tryz.prog 50 5 = some ([.i]) := by kernel_rfl
@[simp] theorem eg5 : Tryz.prog.eqGuardType Tryz.prog.depth 5 = false := by kernel_rfl
@[simp] theorem pl9 : plainTy Tryz.prog 50 9 = some ([.s]) := by kernel_rfl
@[simp] theorem eg9 : Tryz.prog.eqGuardType Tryz.prog.depth 9 = false := by kernel_rfl
@[simp] theorem pl21 : plainTy Tryz.prog 50 21 = some ([.i]) := by kernel_rfl
@[simp] theorem eg21 : Tryz.prog.eqGuardType Tryz.prog.depth 21 = false := by kernel_rfl
@[simp] theorem pl23 : plainTy Tryz.prog 50 23 = some ([.i, .i, .i, .i, .i, .i, .i, .i, .i, .i, .i, .i, .i, .i, .i, .i]) := by kernel_rfl
@[simp] theorem eg23 : Tryz.prog.eqGuardType Tryz.prog.depth 23 = false := by kernel_rfl
@[simp] theorem pl24 : plainTy Tryz.prog 50 24 = some ([.i]) := by kernel_rfl
@[simp] theorem eg24 : Tryz.prog.eqGuardType Tryz.prog.depth 24 = false := by kernel_rfl
@[simp] theorem pl35 : plainTy Tryz.prog 50 35 = some (List.replicate 36 .i) := by kernel_rfl
@[simp] theorem eg35 : Tryz.prog.eqGuardType Tryz.prog.depth 35 = false := by kernel_rfl
@[simp] theorem pl106 : plainTy Tryz.prog 50 106 = some ([.i]) := by kernel_rfl
@[simp] theorem eg106 : Tryz.prog.eqGuardType Tryz.prog.depth 106 = false := by kernel_rfl
end Go.Ev.S
/- Numbers in bytes, read: the program's. -/
namespace Go.Ev.S
open Go Go.Proofs Go.Ev
def szOk (n : Int) : Bool := n == 1 || n == 2 || n == 4 || n == 8
theorem lesize_ev [MaxL] (n : Int) : call cx 105 [.int .i64 n] [] = some (.bool (szOk n), []) := by
  refine call_run Tryz.func105 rfl ⟨rfl, rfl⟩ ?_
  unfold szOk
  by_cases h1 : n = 1
  · subst h1; simp [Tryz.f105]
  · by_cases h2 : n = 2
    · subst h2; simp [Tryz.f105]
    · by_cases h3 : n = 4
      · subst h3; simp [Tryz.f105]
      · simp [Tryz.f105, h1, h2, h3]
theorem szOk_le {n : Int} (h : szOk n = true) : 1 ≤ n ∧ n ≤ 8 := by
  simp [szOk] at h
  omega
/-- The number in n bytes at a place, if there are so many. -/
def leGet (l : List UInt8) (at_ n : Int) : Option Nat :=
  if szOk n = true ∧ 0 ≤ at_ ∧ at_ + n ≤ l.length then some (leN ((l.drop at_.toNat).take n.toNat)) else none
def optN (o : Option Nat) : D := .tup [.int .u64 ((o.getD 0 : Nat) : Int), .bool o.isSome]
theorem bits64 : 2 ^ IntKind.u64.bits = 18446744073709551616 := by simp only [IntKind.bits]
theorem leget_step (x y : Nat) (hy : y < 256) (hx : x * 256 + y < 18446744073709551616) :
    orI .u64 (IntKind.u64.wrap ((x : Int) * 256)) (y : Int) = ((x * 256 + y : Nat) : Int) := by
  have e3 : x * 256 < 2 ^ IntKind.u64.bits := Nat.lt_of_lt_of_eq (Nat.lt_of_le_of_lt (Nat.le_add_right _ _) hx) bits64.symm
  have e4 : y < 2 ^ IntKind.u64.bits := Nat.lt_of_lt_of_eq (Nat.lt_of_lt_of_le hy (by decide)) bits64.symm
  have e1 : IntKind.u64.wrap ((x : Int) * 256) = ((x * 256 : Nat) : Int) := by clear e3 e4; rw [wrap_u64] <;> omega
  rw [e1, orI_nat rfl e3 e4, or_shl x y hy]
set_option maxHeartbeats 1000000 in
theorem leget_ev [MaxL] (s : Sl UInt8) (at_ n : Int) (hat : -9223372036854775808 ≤ at_ ∧ at_ < 9223372036854775808) (hl : s.l.length < 4611686018427387904) :
    call cx 96 [(.vsl s.nil (ofBytes s.l) s.l.length), .int .i64 at_, .int .i64 n] [] = some (optN (leGet s.l at_ n), []) := by
  have hs := lesize_ev n
  refine call_run Tryz.func96 rfl ⟨rfl, rfl⟩ ?_
  cases hz : szOk n with
  | false =>
    rw [hz] at hs
    simp [Tryz.f96, hs, leGet, hz, optN]
  | true =>
    rw [hz] at hs
    have hb := szOk_le hz
    by_cases h0 : at_ < 0
    · have h0' : ¬ 0 ≤ at_ := by omega
      simp [Tryz.f96, hs, leGet, hz, optN, h0, h0']
    · have h0' : 0 ≤ at_ := by omega
      have hw : IntKind.i64.wrap ((s.l.length : Int) - n) = (s.l.length : Int) - n := by rw [wrap_i64]; omega
      by_cases hle : at_ + n ≤ s.l.length
      · have hle' : ¬ ((s.l.length : Int) - n < at_) := by omega
        obtain ⟨a, rfl⟩ : ∃ a : Nat, at_ = a := ⟨at_.toNat, by omega⟩
        obtain ⟨k, rfl⟩ : ∃ k : Nat, n = k := ⟨n.toNat, by omega⟩
        have hw1 : IntKind.i64.wrap ((k : Int) - 1) = (k : Int) - 1 := by rw [wrap_i64]; omega
        have hnn : s.nil = false := Sl.nn (i := a) (by omega)
        simp [Tryz.f96, hs, leGet, hz, optN, h0, h0', hw, hle, hle', hw1, hnn]
        refine Run.loopThen (fun (i : Nat) e H => i ≤ k ∧ H = [] ∧ look e 0 = some (.vsl s.nil (ofBytes s.l) s.l.length) ∧ look e 1 = some (.int .i64 a) ∧ look e 8 = some (.int .u64 (leN ((s.l.drop (a + i)).take (k - i)) : Nat)) ∧ look e 9 = some (.int .i64 ((i : Int) - 1))) (fun i => i) k (by simp [leN, hnn]) ?_
        rintro i e H ⟨hi, rfl, h0, h1, h8, h9⟩
        cases i with
        | zero => simp [h0, h1, h8, h9]
        | succ j =>
          have hj : (0 : Int) ≤ (j : Int) := by omega
          have hwj : IntKind.i64.wrap ((a : Int) + (j : Int)) = ((a + j : Nat) : Int) := by rw [wrap_i64] <;> omega
          have hwk : IntKind.i64.wrap ((j : Int) - 1) = (j : Int) - 1 := by rw [wrap_i64]; omega
          have hlt : a + j < s.l.length := by omega
          have hlt' : ((a + j : Nat) : Int) < (s.l.length : Int) := by omega
          have e1 : ((j + 1 : Nat) : Int) - 1 = (j : Int) := by omega
          rw [e1] at h9
          have hd : (s.l.drop (a + j)).take (k - j) = s.l[a + j] :: (s.l.drop (a + (j + 1))).take (k - (j + 1)) := by
            rw [List.drop_eq_getElem_cons hlt, show k - j = (k - (j + 1)) + 1 by omega, List.take_succ_cons, Nat.add_assoc]
          have hn8 : leN ((s.l.drop (a + (j + 1))).take (k - (j + 1))) < 256 ^ 7 := by
            refine Nat.lt_of_lt_of_le (leN_lt _) (Nat.pow_le_pow_right (by decide) ?_)
            rw [List.length_take]
            omega
          have hst := leget_step (leN ((s.l.drop (a + (j + 1))).take (k - (j + 1)))) s.l[a + j].toNat s.l[a + j].toNat_lt (by have := s.l[a + j].toNat_lt; omega)
          have hwu : IntKind.u64.wrap (s.l[a + j].toNat : Int) = (s.l[a + j].toNat : Int) := by rw [wrap_u64]; have := s.l[a + j].toNat_lt; omega
          have g1 : (0 : Int) ≤ (a : Int) + (j : Int) := by omega
          have g2 : (a : Int) + (j : Int) < (s.l.length : Int) := by omega
          have g3 : ((a : Int) + (j : Int)).toNat = a + j := by omega
          simp [h0, h1, h8, h9, hj, hwj, hwk, hwu, hnn, g1, g2, g3, ofBytes_at hlt, IntKind.bits]
          rw [hst]
          exact ⟨j, by omega, by omega, by rw [hd, leN, Nat.mul_comm, Nat.add_comm], rfl⟩
      · have hle' : (s.l.length : Int) - n < at_ := by omega
        simp [Tryz.f96, hs, leGet, hz, optN, h0, h0', hw, hle, hle']
end Go.Ev.S
/- What arguments of plain data are, as data of one's own. -/
namespace Go.Ev
open Go Go.Proofs
section
variable {P : Program} {n : Nat} {t e : TypeId} {cs : List D}
theorem has_bool (hu : P.underlying t = some .bool) (h : HasT P (n + 1) t cs) : ∃ b, cs = [.bool b] := by
  unfold HasT at h; rw [hu] at h; exact h
theorem has_int {k : IntKind} (hu : P.underlying t = some (.int k)) (h : HasT P (n + 1) t cs) : ∃ x, cs = [.int k x] ∧ (Lit.int k x).wf = true := by
  unfold HasT at h; rw [hu] at h; exact h
theorem has_u64 (hu : P.underlying t = some (.int .u64)) (h : HasT P (n + 1) t cs) : ∃ x, cs = [.int .u64 x] ∧ isU64 x := by
  obtain ⟨x, h1, h2⟩ := has_int hu h
  refine ⟨x, h1, ?_⟩
  simp [Lit.wf, IntKind.min, IntKind.max, IntKind.signed, IntKind.bits] at h2
  unfold isU64
  omega
def isI64 (n : Int) : Prop := -9223372036854775808 ≤ n ∧ n < 9223372036854775808
theorem has_i64 (hu : P.underlying t = some (.int .i64)) (h : HasT P (n + 1) t cs) : ∃ x, cs = [.int .i64 x] ∧ isI64 x := by
  obtain ⟨x, h1, h2⟩ := has_int hu h
  refine ⟨x, h1, ?_⟩
  simp [Lit.wf, IntKind.min, IntKind.max, IntKind.signed, IntKind.bits] at h2
  unfold isI64
  omega
theorem has_u8 (hu : P.underlying t = some (.int .u8)) (h : HasT P (n + 1) t cs) : ∃ x : UInt8, cs = [.int .u8 x.toNat] := by
  obtain ⟨x, h1, h2⟩ := has_int hu h
  simp [Lit.wf, IntKind.min, IntKind.max, IntKind.signed, IntKind.bits] at h2
  refine ⟨UInt8.ofNat x.toNat, ?_⟩
  rw [h1, UInt8.toNat_ofNat_of_lt' (by simp; omega)]
  congr 2
  omega
theorem has_str (hu : P.underlying t = some .string) (h : HasT P (n + 1) t cs) : ∃ s, cs = [.str s] ∧ s.length ≤ maxLen := by
  unfold HasT at h; rw [hu] at h; exact h
theorem rows_bytes {e : TypeId} (hu : P.underlying e = some (.int .u8)) : ∀ (ls : List (List D)), (∀ l, l ∈ ls → l.length = P.cellsOf e ∧ HasT P (n + 1) e l) → ∃ s : List UInt8, ls.flatten = ofBytes s ∧ s.length = ls.length
  | [], _ => ⟨[], rfl, rfl⟩
  | l :: ls, h => by
    obtain ⟨x, hx⟩ := has_u8 hu (h l (List.mem_cons_self ..)).2
    obtain ⟨s, h1, h2⟩ := rows_bytes hu ls fun l' hl => h l' (List.mem_cons_of_mem _ hl)
    exact ⟨x :: s, by rw [List.flatten_cons, hx, h1]; rfl, by simp [h2]⟩
theorem has_id (hu : P.underlying t = some (.array 16 e)) (he : P.underlying e = some (.int .u8)) (h : HasT P (n + 2) t cs) : ∃ i : ID, cs = ofBytes i.l := by
  unfold HasT at h
  rw [hu] at h
  obtain ⟨ls, h1, h2, h3⟩ := h
  obtain ⟨s, s1, s2⟩ := rows_bytes he ls h3
  exact ⟨⟨s, by omega⟩, by rw [h1, s1]⟩
theorem has_bytes (hu : P.underlying t = some (.slice e)) (he : P.underlying e = some (.int .u8)) (h : HasT P (n + 2) t cs) : ∃ s : Sl UInt8, cs = [(.vsl s.nil (ofBytes s.l) s.l.length)] ∧ s.l.length ≤ maxLen := by
  unfold HasT at h
  rw [hu] at h
  rcases h with rfl | ⟨ls, h1, h2, h3⟩
  · exact ⟨.none, rfl, by simp⟩
  · obtain ⟨s, s1, s2⟩ := rows_bytes he ls h3
    exact ⟨.of s, by rw [h1, s1, ← s2]; rfl, by simp only [Sl.of_l]; omega⟩
theorem rows_enc {α : Type} [Enc α] {R : α → Prop} {Q : List D → Prop} (hel : ∀ l, Q l → ∃ a : α, l = Enc.cells a ∧ R a) : ∀ (ls : List (List D)), (∀ l, l ∈ ls → Q l) → ∃ s : List α, ls.flatten = encs s ∧ s.length = ls.length ∧ ∀ a, a ∈ s → R a
  | [], _ => ⟨[], rfl, rfl, by simp⟩
  | l :: ls, h => by
    obtain ⟨x, hx, hr⟩ := hel l (h l (List.mem_cons_self ..))
    obtain ⟨s, h1, h2, h3⟩ := rows_enc hel ls fun l' hl => h l' (List.mem_cons_of_mem _ hl)
    refine ⟨x :: s, by rw [List.flatten_cons, hx, h1, encs_cons], by simp [h2], fun a ha => ?_⟩
    rcases List.mem_cons.1 ha with rfl | ha
    · exact hr
    · exact h3 a ha
theorem has_slice {α : Type} [Enc α] {R : α → Prop} (hu : P.underlying t = some (.slice e)) (hel : ∀ l, HasT P n e l → ∃ a : α, l = Enc.cells a ∧ R a) (h : HasT P (n + 1) t cs) : ∃ s : Sl α, cs = [(.vsl s.nil (encs s.l) s.l.length)] ∧ s.l.length ≤ maxLen ∧ ∀ a, a ∈ s.l → R a := by
  unfold HasT at h
  rw [hu] at h
  rcases h with rfl | ⟨ls, h1, h2, h3⟩
  · exact ⟨.none, rfl, by simp, by simp⟩
  · obtain ⟨s, s1, s2, s3⟩ := rows_enc hel ls fun l hl => (h3 l hl).2
    exact ⟨.of s, by rw [h1, s1, ← s2]; rfl, by simp only [Sl.of_l]; omega, s3⟩
theorem has_struct {fs : Array Field} (hu : P.underlying t = some (.struct fs)) (h : HasT P (n + 1) t cs) : HasFs P (HasT P n) fs.toList cs := by
  unfold HasT at h; rw [hu] at h; exact h
end
/-- Cells back to a value. -/
theorem cor_val {W : World} {d : D} {v : Value} (h : Cor W [d] v.cells.toList) (ho : v.oneCell' = true) : Rep (· < W.heap.size) W iota0 [] d v := by
  have hv : v.cells.toList = [v] := by
    cases v <;> first | rfl | simp [Value.oneCell'] at ho
  rw [hv] at h
  exact h.2.2 0 d rfl
theorem cor_agg {W : World} {ds : List D} {vs : Array Value} (h : Cor W ds vs.toList) : Rep (· < W.heap.size) W iota0 [] (.agg ds) (.agg vs) := by
  refine .agg (by simpa using h.1.symm) h.2.1 fun j d hj => ?_
  have := h.2.2 j d hj
  simpa [List.getD_eq_getElem?_getD, Array.getD_eq_getD_getElem?] using this
end Go.Ev
namespace Go.Ev
open Go Go.Proofs
theorem one_slice {P : Program} {W : World} {base : Nat} {t e : TypeId} {v : Value} (hu : P.underlying t = some (.slice e)) (h : Value.okWide P W .any base t v) : v.oneCell' = true := by
  simp only [Value.okWide, hu, Cell.okWide] at h
  cases v <;> first | rfl | simp [Cell.ok, hu] at h
theorem one_bool {P : Program} {W : World} {base : Nat} {t : TypeId} {v : Value} (hu : P.underlying t = some .bool) (h : Value.okWide P W .any base t v) : v.oneCell' = true := by
  simp only [Value.okWide, hu, Cell.okWide] at h
  cases v <;> first | rfl | simp [Cell.ok, hu] at h
theorem one_int {P : Program} {W : World} {base : Nat} {t : TypeId} {k : IntKind} {v : Value} (hu : P.underlying t = some (.int k)) (h : Value.okWide P W .any base t v) : v.oneCell' = true := by
  simp only [Value.okWide, hu, Cell.okWide] at h
  cases v <;> first | rfl | simp [Cell.ok, hu] at h
theorem one_str {P : Program} {W : World} {base : Nat} {t : TypeId} {v : Value} (hu : P.underlying t = some .string) (h : Value.okWide P W .any base t v) : v.oneCell' = true := by
  simp only [Value.okWide, hu, Cell.okWide] at h
  cases v <;> first | rfl | simp [Cell.ok, hu] at h
theorem agg_struct {P : Program} {W : World} {base : Nat} {t : TypeId} {fs : Array Field} {v : Value} (hu : P.underlying t = some (.struct fs)) (h : Value.okWide P W .any base t v) : ∃ vs, v = .agg vs := by
  simp only [Value.okWide, hu] at h
  obtain ⟨cs, h, _⟩ := h
  exact ⟨cs, h⟩
theorem agg_array {P : Program} {W : World} {base : Nat} {t e : TypeId} {n : Nat} {v : Value} (hu : P.underlying t = some (.array n e)) (h : Value.okWide P W .any base t v) : ∃ vs, v = .agg vs := by
  simp only [Value.okWide, hu] at h
  obtain ⟨cs, h, _⟩ := h
  exact ⟨cs, h⟩
section
variable {H : Type} {enc : TypeId × Value → H} {P : Program} {W : World} {base n : Nat} {t e : TypeId} {v : Value} {d : DataW H} {ps : List MemPlace}
theorem arg_bytes (hu : P.underlying t = some (.slice e)) (he : P.underlying e = some (.int .u8)) (hp : PlainT P (n + 2) t = true) (hv : Value.okWide P W .any base t v) (h : DataW.Trod enc P W 0 (fun _ => true) true t v d ps) :
    ∃ s : Sl UInt8, Rep (· < W.heap.size) W iota0 [] (.vsl s.nil (ofBytes s.l) s.l.length) v ∧ s.l.length ≤ maxLen := by
  obtain ⟨ds, h1, h2⟩ := read_plain hp h
  obtain ⟨s, rfl, hl⟩ := has_bytes hu he h1
  exact ⟨s, cor_val h2 (one_slice hu hv), hl⟩
theorem arg_slice {α : Type} [Enc α] {R : α → Prop} (hu : P.underlying t = some (.slice e)) (hel : ∀ l, HasT P n e l → ∃ a : α, l = Enc.cells a ∧ R a) (hp : PlainT P (n + 1) t = true) (hv : Value.okWide P W .any base t v) (h : DataW.Trod enc P W 0 (fun _ => true) true t v d ps) :
    ∃ s : Sl α, Rep (· < W.heap.size) W iota0 [] (.vsl s.nil (encs s.l) s.l.length) v ∧ s.l.length ≤ maxLen ∧ ∀ a, a ∈ s.l → R a := by
  obtain ⟨ds, h1, h2⟩ := read_plain hp h
  obtain ⟨s, rfl, hl, hr⟩ := has_slice hu hel h1
  exact ⟨s, cor_val h2 (one_slice hu hv), hl, hr⟩
theorem arg_struct {α : Type} [Enc α] {R : α → Prop} {fs : Array Field} (hu : P.underlying t = some (.struct fs)) (hel : ∀ l, HasT P n t l → ∃ a : α, l = Enc.cells a ∧ R a) (hp : PlainT P n t = true) (hv : Value.okWide P W .any base t v) (h : DataW.Trod enc P W 0 (fun _ => true) true t v d ps) :
    ∃ a : α, Rep (· < W.heap.size) W iota0 [] (.agg (Enc.cells a)) v ∧ R a := by
  obtain ⟨ds, h1, h2⟩ := read_plain hp h
  obtain ⟨a, rfl, hr⟩ := hel ds h1
  obtain ⟨vs, rfl⟩ := agg_struct hu hv
  exact ⟨a, cor_agg h2, hr⟩
theorem arg_bool (hu : P.underlying t = some .bool) (hp : PlainT P (n + 1) t = true) (hv : Value.okWide P W .any base t v) (h : DataW.Trod enc P W 0 (fun _ => true) true t v d ps) : ∃ b, Rep (· < W.heap.size) W iota0 [] (.bool b) v := by
  obtain ⟨ds, h1, h2⟩ := read_plain hp h
  obtain ⟨b, rfl⟩ := has_bool hu h1
  exact ⟨b, cor_val h2 (one_bool hu hv)⟩
theorem arg_i64 (hu : P.underlying t = some (.int .i64)) (hp : PlainT P (n + 1) t = true) (hv : Value.okWide P W .any base t v) (h : DataW.Trod enc P W 0 (fun _ => true) true t v d ps) : ∃ b, Rep (· < W.heap.size) W iota0 [] (.int .i64 b) v ∧ isI64 b := by
  obtain ⟨ds, h1, h2⟩ := read_plain hp h
  obtain ⟨b, rfl, hb⟩ := has_i64 hu h1
  exact ⟨b, cor_val h2 (one_int hu hv), hb⟩
theorem arg_str (hu : P.underlying t = some .string) (hp : PlainT P (n + 1) t = true) (hv : Value.okWide P W .any base t v) (h : DataW.Trod enc P W 0 (fun _ => true) true t v d ps) : ∃ s, Rep (· < W.heap.size) W iota0 [] (.str s) v ∧ s.length ≤ maxLen := by
  obtain ⟨ds, h1, h2⟩ := read_plain hp h
  obtain ⟨b, rfl, hb⟩ := has_str hu h1
  exact ⟨b, cor_val h2 (one_str hu hv), hb⟩
end
theorem repL_nil' {ok : Nat → Prop} {w : World} {ι : Iota} {H : Heap} : RepL ok w ι H [] [] := ⟨rfl, by simp⟩
theorem repL_cons' {ok : Nat → Prop} {w : World} {ι : Iota} {H : Heap} {d : D} {v : Value} {ds : List D} {vs : List Value} (h : Rep ok w ι H d v) (hs : RepL ok w ι H ds vs) : RepL ok w ι H (d :: ds) (v :: vs) := by
  refine ⟨by simp [hs.1], fun j x hj => ?_⟩
  cases j with
  | zero => simp at hj; subst hj; exact h
  | succ j => exact hs.2 j x (by simpa using hj)
/-- Fields as they may come in. -/
def Rec.Fit (r : Rec) : Prop := r.fields.l.length ≤ maxLen ∧ ∀ p, p ∈ r.fields.l → p.name.length ≤ maxLen ∧ p.value.length ≤ maxLen
end Go.Ev
/- Cursors. -/
namespace Go.Ev
open Go Go.Proofs
@[simp] theorem ID.ta (i : ID) (r : List D) : (ofBytes i.l ++ r).take 16 = ofBytes i.l := by simp
@[simp] theorem ID.da (i : ID) (r : List D) : (ofBytes i.l ++ r).drop 16 = r := by simp
structure Cur where
  seq : ID
  n : Int
  boot : ID
  mono : Int
  real : Int
  xor : Int
  deriving DecidableEq
instance : Enc Cur := ⟨36, fun m => (ofBytes m.seq.l ++ (.int .u64 m.n :: (ofBytes m.boot.l ++ (.int .u64 m.mono :: (.int .u64 m.real :: (.int .u64 m.xor :: ([] : List D))))))), fun m => by simp, fun m => by simp [idFree]⟩
theorem Cur.cells (m : Cur) : Enc.cells m = (ofBytes m.seq.l ++ (.int .u64 m.n :: (ofBytes m.boot.l ++ (.int .u64 m.mono :: (.int .u64 m.real :: (.int .u64 m.xor :: ([] : List D))))))) := rfl
@[simp] theorem Cur.size : Enc.size Cur = 36 := rfl
@[simp] theorem Cur.cl (a : Cur) : (Enc.cells a).length = 36 := Enc.len a
@[simp] theorem Cur.ct (a : Cur) (r : List D) : (Enc.cells a ++ r).take 36 = Enc.cells a := cells_take rfl a r
@[simp] theorem Cur.ct' (a : Cur) : (Enc.cells a).take 36 = Enc.cells a := cells_take' rfl a
@[simp] theorem Cur.cd (a : Cur) (r : List D) : (Enc.cells a ++ r).drop 36 = r := cells_drop rfl a r
@[simp] theorem Cur.el (l : List Cur) : (encs l).length = l.length * 36 := encs_len' rfl l
@[simp] theorem Cur.ed (l : List Cur) (i : Nat) : (encs l).drop (i * 36) = encs (l.drop i) := encs_drop rfl l i
@[simp] theorem Cur.et (l : List Cur) (i : Nat) : (encs l).take (i * 36) = encs (l.take i) := encs_take rfl l i
@[simp high] theorem Cur.ea {l : List Cur} {i : Nat} (h : i < l.length) : (encs l).drop (i * 36) = Enc.cells l[i] ++ encs (l.drop (i + 1)) := encs_at rfl h
@[simp high] theorem Cur.es (m : Cur) {l : List Cur} {j : Nat} (h : j < l.length) : setRange (encs l) (j * 36) (Enc.cells m) = encs (l.set j m) := encs_set rfl m l h
@[simp] theorem Cur.t0 (m : Cur) : (Enc.cells m).take 16 = ofBytes m.seq.l := by simp [Cur.cells]
@[simp] theorem Cur.t0' (m : Cur) (r : List D) : (Enc.cells m ++ r).take 16 = ofBytes m.seq.l := by simp [Cur.cells]
@[simp] theorem Cur.s0 (m : Cur) (x : ID) : setRange (Enc.cells m) 0 (ofBytes x.l) = Enc.cells { m with seq := x } := by simp [List.take_append, Cur.cells]
@[simp] theorem Cur.d16 (m : Cur) : (Enc.cells m).drop 16 = (.int .u64 m.n :: (ofBytes m.boot.l ++ (.int .u64 m.mono :: (.int .u64 m.real :: (.int .u64 m.xor :: ([] : List D)))))) := by simp [Cur.cells]
@[simp] theorem Cur.d16' (m : Cur) (r : List D) : (Enc.cells m ++ r).drop 16 = (.int .u64 m.n :: (ofBytes m.boot.l ++ (.int .u64 m.mono :: (.int .u64 m.real :: (.int .u64 m.xor :: ([] : List D)))))) ++ r := by simp [Cur.cells]
@[simp] theorem Cur.g16 (m : Cur) (h) : (Enc.cells m)[16]'h = .int .u64 m.n := by simp [Cur.cells]
@[simp] theorem Cur.q16 (m : Cur) : (Enc.cells m)[16]? = some (.int .u64 m.n) := by simp [Cur.cells]
@[simp] theorem Cur.s16 (m : Cur) (x : Int) : setRange (Enc.cells m) 16 [.int .u64 x] = Enc.cells { m with n := x } := by simp [List.drop_append, drop_bytes, Cur.cells]
@[simp] theorem Cur.d17 (m : Cur) : (Enc.cells m).drop 17 = (ofBytes m.boot.l ++ (.int .u64 m.mono :: (.int .u64 m.real :: (.int .u64 m.xor :: ([] : List D))))) := by simp [List.drop_append, drop_bytes, Cur.cells]
@[simp] theorem Cur.d17' (m : Cur) (r : List D) : (Enc.cells m ++ r).drop 17 = (ofBytes m.boot.l ++ (.int .u64 m.mono :: (.int .u64 m.real :: (.int .u64 m.xor :: ([] : List D))))) ++ r := by simp [List.drop_append, drop_bytes, Cur.cells]
@[simp] theorem Cur.s17 (m : Cur) (x : ID) : setRange (Enc.cells m) 17 (ofBytes x.l) = Enc.cells { m with boot := x } := by simp [List.take_append, List.drop_append, drop_bytes, List.take_of_length_le, Cur.cells]
@[simp] theorem Cur.d33 (m : Cur) : (Enc.cells m).drop 33 = (.int .u64 m.mono :: (.int .u64 m.real :: (.int .u64 m.xor :: ([] : List D)))) := by simp [List.drop_append, drop_bytes, Cur.cells]
@[simp] theorem Cur.d33' (m : Cur) (r : List D) : (Enc.cells m ++ r).drop 33 = (.int .u64 m.mono :: (.int .u64 m.real :: (.int .u64 m.xor :: ([] : List D)))) ++ r := by simp [List.drop_append, drop_bytes, Cur.cells]
@[simp] theorem Cur.g33 (m : Cur) (h) : (Enc.cells m)[33]'h = .int .u64 m.mono := by simp [Cur.cells]
@[simp] theorem Cur.q33 (m : Cur) : (Enc.cells m)[33]? = some (.int .u64 m.mono) := by simp [Cur.cells]
@[simp] theorem Cur.s33 (m : Cur) (x : Int) : setRange (Enc.cells m) 33 [.int .u64 x] = Enc.cells { m with mono := x } := by simp [List.take_append, List.drop_append, drop_bytes, List.take_of_length_le, Cur.cells]
@[simp] theorem Cur.d34 (m : Cur) : (Enc.cells m).drop 34 = (.int .u64 m.real :: (.int .u64 m.xor :: ([] : List D))) := by simp [List.drop_append, drop_bytes, Cur.cells]
@[simp] theorem Cur.d34' (m : Cur) (r : List D) : (Enc.cells m ++ r).drop 34 = (.int .u64 m.real :: (.int .u64 m.xor :: ([] : List D))) ++ r := by simp [List.drop_append, drop_bytes, Cur.cells]
@[simp] theorem Cur.g34 (m : Cur) (h) : (Enc.cells m)[34]'h = .int .u64 m.real := by simp [Cur.cells]
@[simp] theorem Cur.q34 (m : Cur) : (Enc.cells m)[34]? = some (.int .u64 m.real) := by simp [Cur.cells]
@[simp] theorem Cur.s34 (m : Cur) (x : Int) : setRange (Enc.cells m) 34 [.int .u64 x] = Enc.cells { m with real := x } := by simp [List.take_append, List.drop_append, drop_bytes, List.take_of_length_le, Cur.cells]
@[simp] theorem Cur.d35 (m : Cur) : (Enc.cells m).drop 35 = (.int .u64 m.xor :: ([] : List D)) := by simp [List.drop_append, drop_bytes, Cur.cells]
@[simp] theorem Cur.d35' (m : Cur) (r : List D) : (Enc.cells m ++ r).drop 35 = (.int .u64 m.xor :: ([] : List D)) ++ r := by simp [List.drop_append, drop_bytes, Cur.cells]
@[simp] theorem Cur.g35 (m : Cur) (h) : (Enc.cells m)[35]'h = .int .u64 m.xor := by simp [Cur.cells]
@[simp] theorem Cur.q35 (m : Cur) : (Enc.cells m)[35]? = some (.int .u64 m.xor) := by simp [Cur.cells]
@[simp] theorem Cur.s35 (m : Cur) (x : Int) : setRange (Enc.cells m) 35 [.int .u64 x] = Enc.cells { m with xor := x } := by simp [List.take_append, List.drop_append, drop_bytes, List.take_of_length_le, Cur.cells]
end Go.Ev
/- The order of bytes. -/
namespace Go.Ev
open Go Go.Proofs
theorem cmpB_self : ∀ (x : List UInt8), cmpB x x = 0
  | [] => rfl
  | a :: x => by simp [cmpB, cmpB_self x]
theorem cmpB_swap : ∀ (x y : List UInt8), cmpB y x = - cmpB x y
  | [], [] => rfl
  | [], _ :: _ => rfl
  | _ :: _, [] => rfl
  | a :: x, b :: y => by
    simp only [cmpB]
    by_cases h : a = b
    · subst h; simp [cmpB_swap x y]
    · have h' : ¬ b = a := fun e => h e.symm
      rw [if_neg h, if_neg h']
      by_cases hl : a < b
      · have : ¬ b < a := UInt8.not_lt.2 (UInt8.le_of_lt hl)
        rw [if_pos hl, if_neg this]; rfl
      · have : b < a := UInt8.lt_of_le_of_ne (UInt8.not_lt.1 hl) h'
        rw [if_neg hl, if_pos this]
theorem cmpB_eq : ∀ {x y : List UInt8}, cmpB x y = 0 → x = y
  | [], [], _ => rfl
  | [], _ :: _, h => by simp [cmpB] at h
  | _ :: _, [], h => by simp [cmpB] at h
  | a :: x, b :: y, h => by
    simp only [cmpB] at h
    by_cases e : a = b
    · rw [if_pos e] at h
      rw [e, cmpB_eq h]
    · rw [if_neg e] at h
      split at h <;> simp at h
theorem cmpB_rng : ∀ (x y : List UInt8), cmpB x y = -1 ∨ cmpB x y = 0 ∨ cmpB x y = 1
  | [], [] => by simp [cmpB]
  | [], _ :: _ => by simp [cmpB]
  | _ :: _, [] => by simp [cmpB]
  | a :: x, b :: y => by
    simp only [cmpB]
    split
    · exact cmpB_rng x y
    · split <;> simp
theorem cmpB_trans : ∀ {x y z : List UInt8}, cmpB x y < 0 → cmpB y z < 0 → cmpB x z < 0
  | [], [], _, h, _ => by simp [cmpB] at h
  | [], _ :: _, [], _, h => by simp [cmpB] at h
  | [], _ :: _, _ :: _, _, _ => by simp [cmpB]
  | _ :: _, [], _, h, _ => by simp [cmpB] at h
  | _ :: _, _ :: _, [], _, h => by simp [cmpB] at h
  | a :: x, b :: y, c :: z, h1, h2 => by
    simp only [cmpB] at h1 h2 ⊢
    by_cases e1 : a = b
    · subst e1
      rw [if_pos rfl] at h1
      by_cases e2 : a = c
      · subst e2
        rw [if_pos rfl] at h2 ⊢
        exact cmpB_trans h1 h2
      · rw [if_neg e2] at h2 ⊢
        exact h2
    · rw [if_neg e1] at h1
      have l1 : a < b := by
        by_cases l : a < b
        · exact l
        · rw [if_neg l] at h1; simp at h1
      by_cases e2 : b = c
      · subst e2
        rw [if_neg e1, if_pos l1]
        decide
      · rw [if_neg e2] at h2
        have l2 : b < c := by
          by_cases l : b < c
          · exact l
          · rw [if_neg l] at h2; simp at h2
        have l3 : a < c := UInt8.lt_trans l1 l2
        rw [if_neg (UInt8.ne_of_lt l3), if_pos l3]
        decide
theorem id_of_cmp {a b : ID} (h : cmpB a.l b.l = 0) : a = b := ID.ext' (cmpB_eq h)
end Go.Ev
/- Hexadecimal digits. -/
namespace Go.Ev
open Go Go.Proofs
def hexc (k : Nat) : UInt8 := if k < 10 then UInt8.ofNat (48 + k) else UInt8.ofNat (87 + k)
def hexF : Nat → Nat → List UInt8
  | 0, _ => []
  | f + 1, v => if v < 16 then [hexc v] else hexF f (v / 16) ++ [hexc (v % 16)]
/-- A number's digits, as few as can be. -/
def hx (v : Nat) : List UInt8 := hexF 16 v
def digL : List UInt8 := [48, 49, 50, 51, 52, 53, 54, 55, 56, 57, 97, 98, 99, 100, 101, 102]
def dig36 : List UInt8 := [48, 49, 50, 51, 52, 53, 54, 55, 56, 57, 97, 98, 99, 100, 101, 102, 103, 104, 105, 106, 107, 108, 109, 110, 111, 112, 113, 114, 115, 116, 117, 118, 119, 120, 121, 122]
theorem dig36_at : ∀ k, k < 16 → dig36[k]? = some (hexc k) := by decide
theorem digL_at : ∀ k, k < 16 → digL[k]? = some (hexc k) := by decide
theorem digL_idx : ∀ k, k < 16 → idxB (hexc k) digL 0 = (k : Int) := by decide
theorem hexF_len : ∀ (f v : Nat), (hexF f v).length ≤ f
  | 0, _ => Nat.le_refl _
  | f + 1, v => by
    rw [hexF]
    split
    · simp
    · have := hexF_len f (v / 16)
      simp
      omega
theorem hx_len (v : Nat) : (hx v).length ≤ 16 := hexF_len 16 v
theorem hx_pos (v : Nat) : 0 < (hx v).length := by
  unfold hx hexF
  split <;> simp
theorem hexc_ne : ∀ k, k < 16 → hexc k ≠ 59 ∧ hexc k ≠ 61 ∧ hexc k ≠ 45 := by decide
theorem hexF_ne : ∀ (f v : Nat), ∀ x ∈ hexF f v, x ≠ 59 ∧ x ≠ 61 ∧ x ≠ 45
  | 0, _ => by simp [hexF]
  | f + 1, v => by
    rw [hexF]
    split
    · intro x hx
      rw [List.mem_singleton.1 hx]
      exact hexc_ne v (by assumption)
    · intro x hx
      rcases List.mem_append.1 hx with h | h
      · exact hexF_ne f _ x h
      · rw [List.mem_singleton.1 h]
        exact hexc_ne _ (Nat.mod_lt _ (by decide))
theorem hx_ne (v : Nat) : ∀ x ∈ hx v, x ≠ 59 ∧ x ≠ 61 ∧ x ≠ 45 := hexF_ne 16 v
/-- A name's digits. -/
def hexs : List UInt8 → List UInt8
  | [] => []
  | b :: l => hexc (b.toNat / 16) :: hexc (b.toNat % 16) :: hexs l
theorem hexs_len : ∀ (l : List UInt8), (hexs l).length = 2 * l.length
  | [] => rfl
  | b :: l => by simp [hexs, hexs_len l]; omega
theorem hexs_append : ∀ (a b : List UInt8), hexs (a ++ b) = hexs a ++ hexs b
  | [], _ => rfl
  | x :: a, b => by simp [hexs, hexs_append a b]
theorem hexs_ne : ∀ (l : List UInt8), ∀ x ∈ hexs l, x ≠ 59 ∧ x ≠ 61 ∧ x ≠ 45
  | [] => by simp [hexs]
  | b :: l => by
    intro x hx
    simp only [hexs, List.mem_cons] at hx
    have hb := b.toNat_lt
    rcases hx with rfl | rfl | hx
    · exact hexc_ne _ (by omega)
    · exact hexc_ne _ (by omega)
    · exact hexs_ne l x hx
/-- A number in sixteen digits. -/
def fixed (v : Nat) : List UInt8 := List.replicate (16 - (hx v).length) 48 ++ hx v
theorem fixed_len (v : Nat) : (fixed v).length = 16 := by
  have := hx_len v
  simp [fixed]
  omega
/-- The name that digits are, one digit behind the other. -/
def idGo : List UInt8 → Nat → List UInt8 → Option (List UInt8)
  | [], _, st => some st
  | c :: l, i, st => if idxB c digL 0 < 0 then none else idGo l (i + 1) (st.set (i / 2) ((st.getD (i / 2) 0 <<< 4) ||| UInt8.ofNat (idxB c digL 0).toNat))
def zero16 : List UInt8 := List.replicate 16 0
def idP (s : List UInt8) : Option (List UInt8) := if s.length = 32 then idGo s 0 zero16 else none
theorem idGo_len : ∀ (s : List UInt8) (i : Nat) (st r : List UInt8), idGo s i st = some r → r.length = st.length
  | [], _, st, r, h => by simp only [idGo, Option.some.injEq] at h; rw [h]
  | c :: l, i, st, r, h => by
    simp only [idGo] at h
    split at h
    · cases h
    · have := idGo_len l _ _ r h
      simpa using this
theorem idP_len {s r : List UInt8} (h : idP s = some r) : r.length = 16 := by
  unfold idP at h
  split at h
  · have := idGo_len _ _ _ _ h
    simpa [zero16] using this
  · cases h
theorem idx_range (c : UInt8) : ∀ (l : List UInt8) (n : Nat), idxB c l n = -1 ∨ ∃ k, k < l.length ∧ idxB c l n = ((n + k : Nat) : Int)
  | [], _ => .inl rfl
  | b :: l, n => by
    unfold idxB
    split
    · exact .inr ⟨0, by simp, by simp⟩
    · rcases idx_range c l (n + 1) with h | ⟨k, h1, h2⟩
      · exact .inl h
      · exact .inr ⟨k + 1, by simp; omega, by rw [h2]; omega⟩
theorem nib_orN : ∀ n, n < 256 → (((0 : UInt8) <<< 4 ||| UInt8.ofNat (n / 16)) <<< 4) ||| UInt8.ofNat (n % 16) = UInt8.ofNat n := by decide +kernel
theorem nib_or (b : UInt8) : (((0 : UInt8) <<< 4 ||| UInt8.ofNat (b.toNat / 16)) <<< 4) ||| UInt8.ofNat (b.toNat % 16) = b := by
  rw [nib_orN b.toNat b.toNat_lt, UInt8.ofNat_toNat]
theorem idGo_hexs : ∀ (l done : List UInt8), idGo (hexs l) (2 * done.length) (done ++ List.replicate l.length 0) = some (done ++ l)
  | [], done => by simp [hexs, idGo]
  | b :: l, done => by
    have hb := b.toNat_lt
    have h1 := digL_idx (b.toNat / 16) (by omega)
    have h2 := digL_idx (b.toNat % 16) (by omega)
    simp only [hexs, idGo, h1, h2]
    rw [if_neg (by omega), if_neg (by omega)]
    have e1 : 2 * done.length / 2 = done.length := by omega
    have e2 : (2 * done.length + 1) / 2 = done.length := by omega
    have e3 : 2 * done.length + 1 + 1 = 2 * (done ++ [b]).length := by simp; omega
    have g1 : (done ++ List.replicate (b :: l).length 0).getD done.length 0 = (0 : UInt8) := by
      simp [List.getD, List.replicate_succ]
    rw [e1, e2, e3, g1]
    have s1 : ∀ x : UInt8, (done ++ List.replicate (b :: l).length (0 : UInt8)).set done.length x = done ++ x :: List.replicate l.length 0 := by
      intro x
      simp [List.replicate_succ]
    rw [s1]
    have g2 : ∀ x : UInt8, (done ++ x :: List.replicate l.length (0 : UInt8)).getD done.length 0 = x := by
      intro x
      simp [List.getD]
    rw [g2]
    have s2 : ∀ x y : UInt8, (done ++ x :: List.replicate l.length (0 : UInt8)).set done.length y = (done ++ [y]) ++ List.replicate l.length 0 := by
      intro x y
      simp
    have e4 : ((((b.toNat / 16 : Nat) : Int)).toNat) = b.toNat / 16 := by omega
    have e5 : ((((b.toNat % 16 : Nat) : Int)).toNat) = b.toNat % 16 := by omega
    rw [s2, e4, e5, nib_or b, idGo_hexs l (done ++ [b])]
    simp
theorem idP_hexs {l : List UInt8} (h : l.length = 16) : idP (hexs l) = some l := by
  unfold idP
  rw [if_pos (by rw [hexs_len, h])]
  have := idGo_hexs l []
  simpa [zero16, h] using this
theorem shl4_N : ∀ n : Nat, n < 256 → ∀ k : Nat, k < 16 → orI .u8 (IntKind.u8.wrap ((n : Int) * 16)) (k : Int) = ((UInt8.ofNat n <<< 4 ||| UInt8.ofNat k).toNat : Int) := by decide +kernel
theorem shl4_u8 (a : UInt8) (k : Nat) (hk : k < 16) : orI .u8 (IntKind.u8.wrap ((a.toNat : Int) * 16)) (k : Int) = ((a <<< 4 ||| UInt8.ofNat k).toNat : Int) := by
  rw [shl4_N a.toNat a.toNat_lt k hk, UInt8.ofNat_toNat]
theorem and15_u64 {n : Nat} (h : n < 18446744073709551616) : andI .u64 (n : Int) 15 = ((n % 16 : Nat) : Int) := by
  unfold andI
  have e : (BitVec.ofInt IntKind.u64.bits (n : Int) &&& BitVec.ofInt IntKind.u64.bits 15).toNat = n % 16 := by
    show (BitVec.ofInt 64 (n : Int) &&& BitVec.ofInt 64 ((15 : Nat) : Int)).toNat = n % 16
    rw [BitVec.ofInt_natCast, BitVec.ofInt_natCast, BitVec.toNat_and, BitVec.toNat_ofNat, BitVec.toNat_ofNat, Nat.mod_eq_of_lt (show n < 2 ^ 64 by omega)]
    exact Nat.and_two_pow_sub_one_eq_mod n 4
  rw [e, wrap_u64]
  omega
theorem and15_u8N : ∀ n : Nat, n < 256 → andI .u8 (n : Int) 15 = ((n % 16 : Nat) : Int) := by decide +kernel
theorem and15_u8 (b : UInt8) : andI .u8 (b.toNat : Int) 15 = ((b.toNat % 16 : Nat) : Int) := and15_u8N b.toNat b.toNat_lt
theorem fdiv16 (n : Nat) : Int.fdiv (n : Int) 16 = ((n / 16 : Nat) : Int) := by
  rw [Int.fdiv_eq_ediv_of_nonneg _ (by omega)]
  omega
/-- A row of zeros, filled from behind. -/
theorem fill_behind (i : Nat) (s : List UInt8) (c : UInt8) : setRange (List.replicate (i + 1) (D.int .u8 0) ++ ofBytes s) i [.int .u8 c.toNat] = List.replicate i (.int .u8 0) ++ ofBytes (c :: s) := by
  unfold setRange
  have h : (List.replicate (i + 1) (D.int .u8 0) ++ ofBytes s).drop (i + 1) = ofBytes s := List.drop_left' (by simp)
  have h2 : (List.replicate (i + 1) (D.int .u8 0) ++ ofBytes s).take i = List.replicate i (D.int .u8 0) := by
    rw [List.take_append_of_le_length (by simp), List.take_replicate]
    congr 1
    omega
  rw [h2, List.length_singleton, h]
  simp [ofBytes]
end Go.Ev
/- Words of 32 bits, and what they are mixed to. -/
namespace Go.Ev
open Go Go.Proofs
def rolI (x : Int) (k : Nat) : Int := orI .u32 (IntKind.u32.wrap (x * 2 ^ k)) (x.fdiv (2 ^ (32 - k)))
def add32 (a b : Int) : Int := IntKind.u32.wrap (a + b)
def sub32 (a b : Int) : Int := IntKind.u32.wrap (a - b)
def Tri := Int × Int × Int
def stpM (k : Nat) : Int × Int × Int → Int × Int × Int
  | (a, b, c) => (b, add32 c b, xorI .u32 (sub32 a c) (rolI c k))
def mixI (t : Int × Int × Int) : Int × Int × Int := stpM 4 (stpM 19 (stpM 16 (stpM 8 (stpM 6 (stpM 4 t)))))
def stpF (k : Nat) : Int × Int × Int → Int × Int × Int
  | (p, q, r) => (r, sub32 (xorI .u32 p q) (rolI q k), q)
def finI : Int × Int × Int → Int × Int × Int
  | (x, y, z) => stpF 24 (stpF 14 (stpF 4 (stpF 16 (stpF 25 (stpF 11 (stpF 14 (z, y, x)))))))
theorem mix_at {x y z x1 z1 y1 x2 z2 y2 x3 z3 y3 x4 z4 y4 a1 a2 a3 a4 a5 a6 : Int}
    (h1 : sub32 x z = a1) (h2 : xorI .u32 a1 (rolI z 4) = x1) (h3 : add32 z y = z1)
    (h4 : sub32 y x1 = a2) (h5 : xorI .u32 a2 (rolI x1 6) = y1) (h6 : add32 x1 z1 = x2)
    (h7 : sub32 z1 y1 = a3) (h8 : xorI .u32 a3 (rolI y1 8) = z2) (h9 : add32 y1 x2 = y2)
    (g1 : sub32 x2 z2 = a4) (g2 : xorI .u32 a4 (rolI z2 16) = x3) (g3 : add32 z2 y2 = z3)
    (g4 : sub32 y2 x3 = a5) (g5 : xorI .u32 a5 (rolI x3 19) = y3) (g6 : add32 x3 z3 = x4)
    (g7 : sub32 z3 y3 = a6) (g8 : xorI .u32 a6 (rolI y3 4) = z4) (g9 : add32 y3 x4 = y4) : mixI (x, y, z) = (x4, y4, z4) := by
  unfold mixI
  have e1 : stpM 4 (x, y, z) = (y, z1, x1) := by simp only [stpM, h1, h2, h3]
  have e2 : stpM 6 (y, z1, x1) = (z1, x2, y1) := by simp only [stpM, h4, h5, h6]
  have e3 : stpM 8 (z1, x2, y1) = (x2, y2, z2) := by simp only [stpM, h7, h8, h9]
  have e4 : stpM 16 (x2, y2, z2) = (y2, z3, x3) := by simp only [stpM, g1, g2, g3]
  have e5 : stpM 19 (y2, z3, x3) = (z3, x4, y3) := by simp only [stpM, g4, g5, g6]
  have e6 : stpM 4 (z3, x4, y3) = (x4, y4, z4) := by simp only [stpM, g7, g8, g9]
  rw [e1, e2, e3, e4, e5, e6]
theorem fin_at {x y z a1 z1 a2 x1 a3 y1 a4 z2 a5 x2 a6 y2 a7 z3 : Int}
    (h1 : xorI .u32 z y = a1) (h2 : sub32 a1 (rolI y 14) = z1)
    (h3 : xorI .u32 x z1 = a2) (h4 : sub32 a2 (rolI z1 11) = x1)
    (h5 : xorI .u32 y x1 = a3) (h6 : sub32 a3 (rolI x1 25) = y1)
    (h7 : xorI .u32 z1 y1 = a4) (h8 : sub32 a4 (rolI y1 16) = z2)
    (g1 : xorI .u32 x1 z2 = a5) (g2 : sub32 a5 (rolI z2 4) = x2)
    (g3 : xorI .u32 y1 x2 = a6) (g4 : sub32 a6 (rolI x2 14) = y2)
    (g5 : xorI .u32 z2 y2 = a7) (g6 : sub32 a7 (rolI y2 24) = z3) : finI (x, y, z) = (x2, z3, y2) := by
  unfold finI
  have e1 : stpF 14 (z, y, x) = (x, z1, y) := by simp only [stpF, h1, h2]
  have e2 : stpF 11 (x, z1, y) = (y, x1, z1) := by simp only [stpF, h3, h4]
  have e3 : stpF 25 (y, x1, z1) = (z1, y1, x1) := by simp only [stpF, h5, h6]
  have e4 : stpF 16 (z1, y1, x1) = (x1, z2, y1) := by simp only [stpF, h7, h8]
  have e5 : stpF 4 (x1, z2, y1) = (y1, x2, z2) := by simp only [stpF, g1, g2]
  have e6 : stpF 14 (y1, x2, z2) = (z2, y2, x2) := by simp only [stpF, g3, g4]
  have e7 : stpF 24 (z2, y2, x2) = (x2, z3, y2) := by simp only [stpF, g5, g6]
  simp only [e1, e2, e3, e4, e5, e6, e7]
/-- Four bytes at a place as a number; those that are missing are 0. -/
def wordL (l : List UInt8) (a : Nat) : Nat := leN ((l.drop a).take 4)
theorem wordL_lt (l : List UInt8) (a : Nat) : wordL l a < 4294967296 := by
  refine Nat.lt_of_lt_of_le (leN_lt _) ?_
  have : ((l.drop a).take 4).length ≤ 4 := by rw [List.length_take]; omega
  exact Nat.le_trans (Nat.pow_le_pow_right (by decide) this) (by decide)
def addT (l : List UInt8) : Int × Int × Int → Int × Int × Int
  | (x, y, z) => (add32 x (wordL l 0 : Nat), add32 y (wordL l 4 : Nat), add32 z (wordL l 8 : Nat))
def outT : Int × Int × Int → Int
  | (_, y, z) => orI .u64 (IntKind.u64.wrap (IntKind.u64.wrap z * 4294967296)) (IntKind.u64.wrap y)
/-- What bytes are mixed to, behind so many. -/
def lookR (l : List UInt8) (t : Int × Int × Int) : Int :=
  if 12 < l.length then lookR (l.drop 12) (mixI (addT l t)) else if l.length = 0 then outT t else match finI (addT l t) with | (_, z, y) => outT (0, y, z)
termination_by l.length
decreasing_by simp; omega
def lookN (l : List UInt8) : Int := lookR l (add32 3735928559 (IntKind.u32.wrap (l.length : Nat)), add32 3735928559 (IntKind.u32.wrap (l.length : Nat)), add32 3735928559 (IntKind.u32.wrap (l.length : Nat)))
theorem lookR_more {l : List UInt8} (h : 12 < l.length) (t : Int × Int × Int) : lookR l t = lookR (l.drop 12) (mixI (addT l t)) := by
  rw [lookR, if_pos h]
theorem lookR_end {l : List UInt8} (h : ¬ 12 < l.length) (h0 : l.length ≠ 0) {t : Int × Int × Int} {x y z : Int} (hf : finI (addT l t) = (x, z, y)) : lookR l t = outT (0, y, z) := by
  rw [lookR, if_neg h, if_neg h0, hf]
theorem lookR_nil {l : List UInt8} (h0 : l.length = 0) (t : Int × Int × Int) : lookR l t = outT t := by
  rw [lookR, if_neg (by omega), if_pos h0]
theorem and31 : ∀ k : Nat, k < 32 → andI .u64 (k : Int) 31 = (k : Int) := by decide
end Go.Ev
/- A hash of bytes: the program's. -/
namespace Go.Ev.S
open Go Go.Proofs Go.Ev
theorem rotl_ev [MaxL] (x : Int) (k : Nat) (hk : k < 32) : call cx 97 [.int .u32 x, .int .i64 k] [] = some (.int .u32 (rolI x k), []) := by
  have h := and31 k hk
  have hw : IntKind.u64.wrap (k : Int) = (k : Int) := by rw [wrap_u64] <;> omega
  have hw2 : IntKind.u64.wrap (32 - (k : Int)) = ((32 - k : Nat) : Int) := by rw [wrap_u64] <;> omega
  have m1 : min k 32 = k := by omega
  have hn : ¬ (k : Int) < 0 := by omega
  refine call_run Tryz.func97 rfl ⟨rfl, rfl⟩ ?_
  unfold rolI
  obtain ⟨j, hj⟩ : ∃ j, j = 32 - k := ⟨_, rfl⟩
  rw [← hj] at hw2 ⊢
  have m2 : min j 32 = j := by omega
  have hn2 : ¬ (j : Int) < 0 := by omega
  simp [Tryz.f97, h, hw, hw2, IntKind.bits, m1, m2, hn, hn2]
theorem rol_at [MaxL] {x r : Int} {k : Nat} (hk : k < 32) (e : rolI x k = r) {kk : Int} (hkk : kk = k) : call cx 97 [.int .u32 x, .int .i64 kk] [] = some (.int .u32 r, []) := by
  rw [hkk, ← e]
  exact rotl_ev x k hk
set_option maxHeartbeats 4000000 in
set_option maxRecDepth 4000 in
theorem mix_ev [MaxL] (x y z : Int) (R : Heap) (hR : R = [] ∨ R = [none]) : call cx 73 [.optr 0 3 0] (some [.int .u32 x, .int .u32 y, .int .u32 z] :: R) = some (.tup [], some [.int .u32 (mixI (x, y, z)).1, .int .u32 (mixI (x, y, z)).2.1, .int .u32 (mixI (x, y, z)).2.2] :: R) := by
  obtain ⟨a1, h1⟩ : ∃ v, sub32 x z = v := ⟨_, rfl⟩
  have e0 : IntKind.u32.wrap (x - z) = a1 := h1
  obtain ⟨r0, q0⟩ : ∃ v, rolI z 4 = v := ⟨_, rfl⟩
  have e1 := rol_at (by omega) q0 (kk := 4) rfl
  obtain ⟨x1, f0⟩ : ∃ v, xorI .u32 a1 r0 = v := ⟨_, rfl⟩
  have h2 : xorI .u32 a1 (rolI z 4) = x1 := by rw [q0]; exact f0
  obtain ⟨z1, h3⟩ : ∃ v, add32 z y = v := ⟨_, rfl⟩
  have e2 : IntKind.u32.wrap (z + y) = z1 := h3
  obtain ⟨a2, h4⟩ : ∃ v, sub32 y x1 = v := ⟨_, rfl⟩
  have e3 : IntKind.u32.wrap (y - x1) = a2 := h4
  obtain ⟨r1, q1⟩ : ∃ v, rolI x1 6 = v := ⟨_, rfl⟩
  have e4 := rol_at (by omega) q1 (kk := 6) rfl
  obtain ⟨y1, f1⟩ : ∃ v, xorI .u32 a2 r1 = v := ⟨_, rfl⟩
  have h5 : xorI .u32 a2 (rolI x1 6) = y1 := by rw [q1]; exact f1
  obtain ⟨x2, h6⟩ : ∃ v, add32 x1 z1 = v := ⟨_, rfl⟩
  have e5 : IntKind.u32.wrap (x1 + z1) = x2 := h6
  obtain ⟨a3, h7⟩ : ∃ v, sub32 z1 y1 = v := ⟨_, rfl⟩
  have e6 : IntKind.u32.wrap (z1 - y1) = a3 := h7
  obtain ⟨r2, q2⟩ : ∃ v, rolI y1 8 = v := ⟨_, rfl⟩
  have e7 := rol_at (by omega) q2 (kk := 8) rfl
  obtain ⟨z2, f2⟩ : ∃ v, xorI .u32 a3 r2 = v := ⟨_, rfl⟩
  have h8 : xorI .u32 a3 (rolI y1 8) = z2 := by rw [q2]; exact f2
  obtain ⟨y2, h9⟩ : ∃ v, add32 y1 x2 = v := ⟨_, rfl⟩
  have e8 : IntKind.u32.wrap (y1 + x2) = y2 := h9
  obtain ⟨a4, g1⟩ : ∃ v, sub32 x2 z2 = v := ⟨_, rfl⟩
  have e9 : IntKind.u32.wrap (x2 - z2) = a4 := g1
  obtain ⟨r3, q3⟩ : ∃ v, rolI z2 16 = v := ⟨_, rfl⟩
  have e10 := rol_at (by omega) q3 (kk := 16) rfl
  obtain ⟨x3, f3⟩ : ∃ v, xorI .u32 a4 r3 = v := ⟨_, rfl⟩
  have g2 : xorI .u32 a4 (rolI z2 16) = x3 := by rw [q3]; exact f3
  obtain ⟨z3, g3⟩ : ∃ v, add32 z2 y2 = v := ⟨_, rfl⟩
  have e11 : IntKind.u32.wrap (z2 + y2) = z3 := g3
  obtain ⟨a5, g4⟩ : ∃ v, sub32 y2 x3 = v := ⟨_, rfl⟩
  have e12 : IntKind.u32.wrap (y2 - x3) = a5 := g4
  obtain ⟨r4, q4⟩ : ∃ v, rolI x3 19 = v := ⟨_, rfl⟩
  have e13 := rol_at (by omega) q4 (kk := 19) rfl
  obtain ⟨y3, f4⟩ : ∃ v, xorI .u32 a5 r4 = v := ⟨_, rfl⟩
  have g5 : xorI .u32 a5 (rolI x3 19) = y3 := by rw [q4]; exact f4
  obtain ⟨x4, g6⟩ : ∃ v, add32 x3 z3 = v := ⟨_, rfl⟩
  have e14 : IntKind.u32.wrap (x3 + z3) = x4 := g6
  obtain ⟨a6, g7⟩ : ∃ v, sub32 z3 y3 = v := ⟨_, rfl⟩
  have e15 : IntKind.u32.wrap (z3 - y3) = a6 := g7
  obtain ⟨r5, q5⟩ : ∃ v, rolI y3 4 = v := ⟨_, rfl⟩
  have e16 := rol_at (by omega) q5 (kk := 4) rfl
  obtain ⟨z4, f5⟩ : ∃ v, xorI .u32 a6 r5 = v := ⟨_, rfl⟩
  have g8 : xorI .u32 a6 (rolI y3 4) = z4 := by rw [q5]; exact f5
  obtain ⟨y4, g9⟩ : ∃ v, add32 y3 x4 = v := ⟨_, rfl⟩
  have e17 : IntKind.u32.wrap (y3 + x4) = y4 := g9
  have hm := mix_at h1 h2 h3 h4 h5 h6 h7 h8 h9 g1 g2 g3 g4 g5 g6 g7 g8 g9
  rw [hm]
  clear g9 g8 g7 g6 g5 g4 g3 g2 g1 h9 h8 h7 h6 h5 h4 h3 h2 h1 hm q0 q1 q2 q3 q4 q5
  rcases hR with rfl | rfl
  · refine call_run Tryz.func73 rfl ⟨rfl, rfl⟩ ?_
    simp [Tryz.f73, e0, e1, f0, e2, e3, e4, f1, e5, e6, e7, f2, e8, e9, e10, f3, e11, e12, e13, f4, e14, e15, e16, f5, e17]
  · refine call_run Tryz.func73 rfl ⟨rfl, rfl⟩ ?_
    simp [Tryz.f73, e0, e1, f0, e2, e3, e4, f1, e5, e6, e7, f2, e8, e9, e10, f3, e11, e12, e13, f4, e14, e15, e16, f5, e17]
set_option maxHeartbeats 4000000 in
set_option maxRecDepth 4000 in
theorem last_ev [MaxL] (x y z : Int) {x' y' z' : Int} (hm : finI (x, y, z) = (x', z', y')) (R : Heap) (hR : R = [] ∨ R = [none]) : call cx 74 [.optr 0 3 0] (some [.int .u32 x, .int .u32 y, .int .u32 z] :: R) = some (.tup [], some [.int .u32 x', .int .u32 y', .int .u32 z'] :: R) := by
  obtain ⟨a1, h1⟩ : ∃ v, xorI .u32 z y = v := ⟨_, rfl⟩
  obtain ⟨r0, q0⟩ : ∃ v, rolI y 14 = v := ⟨_, rfl⟩
  have e1 := rol_at (by omega) q0 (kk := 14) rfl
  obtain ⟨z1, f0⟩ : ∃ v, sub32 a1 r0 = v := ⟨_, rfl⟩
  have d0 : IntKind.u32.wrap (a1 - r0) = z1 := f0
  have h2 : sub32 a1 (rolI y 14) = z1 := by rw [q0]; exact f0
  obtain ⟨a2, h3⟩ : ∃ v, xorI .u32 x z1 = v := ⟨_, rfl⟩
  obtain ⟨r1, q1⟩ : ∃ v, rolI z1 11 = v := ⟨_, rfl⟩
  have e3 := rol_at (by omega) q1 (kk := 11) rfl
  obtain ⟨x1, f1⟩ : ∃ v, sub32 a2 r1 = v := ⟨_, rfl⟩
  have d1 : IntKind.u32.wrap (a2 - r1) = x1 := f1
  have h4 : sub32 a2 (rolI z1 11) = x1 := by rw [q1]; exact f1
  obtain ⟨a3, h5⟩ : ∃ v, xorI .u32 y x1 = v := ⟨_, rfl⟩
  obtain ⟨r2, q2⟩ : ∃ v, rolI x1 25 = v := ⟨_, rfl⟩
  have e5 := rol_at (by omega) q2 (kk := 25) rfl
  obtain ⟨y1, f2⟩ : ∃ v, sub32 a3 r2 = v := ⟨_, rfl⟩
  have d2 : IntKind.u32.wrap (a3 - r2) = y1 := f2
  have h6 : sub32 a3 (rolI x1 25) = y1 := by rw [q2]; exact f2
  obtain ⟨a4, h7⟩ : ∃ v, xorI .u32 z1 y1 = v := ⟨_, rfl⟩
  obtain ⟨r3, q3⟩ : ∃ v, rolI y1 16 = v := ⟨_, rfl⟩
  have e7 := rol_at (by omega) q3 (kk := 16) rfl
  obtain ⟨z2, f3⟩ : ∃ v, sub32 a4 r3 = v := ⟨_, rfl⟩
  have d3 : IntKind.u32.wrap (a4 - r3) = z2 := f3
  have h8 : sub32 a4 (rolI y1 16) = z2 := by rw [q3]; exact f3
  obtain ⟨a5, g1⟩ : ∃ v, xorI .u32 x1 z2 = v := ⟨_, rfl⟩
  obtain ⟨r4, q4⟩ : ∃ v, rolI z2 4 = v := ⟨_, rfl⟩
  have e9 := rol_at (by omega) q4 (kk := 4) rfl
  obtain ⟨x2, f4⟩ : ∃ v, sub32 a5 r4 = v := ⟨_, rfl⟩
  have d4 : IntKind.u32.wrap (a5 - r4) = x2 := f4
  have g2 : sub32 a5 (rolI z2 4) = x2 := by rw [q4]; exact f4
  obtain ⟨a6, g3⟩ : ∃ v, xorI .u32 y1 x2 = v := ⟨_, rfl⟩
  obtain ⟨r5, q5⟩ : ∃ v, rolI x2 14 = v := ⟨_, rfl⟩
  have e11 := rol_at (by omega) q5 (kk := 14) rfl
  obtain ⟨y2, f5⟩ : ∃ v, sub32 a6 r5 = v := ⟨_, rfl⟩
  have d5 : IntKind.u32.wrap (a6 - r5) = y2 := f5
  have g4 : sub32 a6 (rolI x2 14) = y2 := by rw [q5]; exact f5
  obtain ⟨a7, g5⟩ : ∃ v, xorI .u32 z2 y2 = v := ⟨_, rfl⟩
  obtain ⟨r6, q6⟩ : ∃ v, rolI y2 24 = v := ⟨_, rfl⟩
  have e13 := rol_at (by omega) q6 (kk := 24) rfl
  obtain ⟨z3, f6⟩ : ∃ v, sub32 a7 r6 = v := ⟨_, rfl⟩
  have d6 : IntKind.u32.wrap (a7 - r6) = z3 := f6
  have g6 : sub32 a7 (rolI y2 24) = z3 := by rw [q6]; exact f6
  have hn := fin_at h1 h2 h3 h4 h5 h6 h7 h8 g1 g2 g3 g4 g5 g6
  rw [hm] at hn
  clear hm
  obtain ⟨hn1, hn⟩ := Prod.mk.inj hn
  obtain ⟨hn2, hn3⟩ := Prod.mk.inj hn
  clear g6 g4 g2 h8 h6 h4 h2 f0 q0 f1 q1 f2 q2 f3 q3 f4 q4 f5 q5 f6 q6
  rw [hn1, hn2, hn3]
  clear hn1 hn2 hn3
  rcases hR with rfl | rfl
  · refine call_run Tryz.func74 rfl ⟨rfl, rfl⟩ ?_
    simp [Tryz.f74, h1, e1, d0, h3, e3, d1, h5, e5, d2, h7, e7, d3, g1, e9, d4, g3, e11, d5, g5, e13, d6]
  · refine call_run Tryz.func74 rfl ⟨rfl, rfl⟩ ?_
    simp [Tryz.f74, h1, e1, d0, h3, e3, d1, h5, e5, d2, h7, e7, d3, g1, e9, d4, g3, e11, d5, g5, e13, d6]
end Go.Ev.S
/- A hash of bytes: the program's, whole. -/
namespace Go.Ev.S
open Go Go.Proofs Go.Ev
theorem get12 [MaxL] (l : List UInt8) (hl : l.length = 12) (a : Nat) (ha : a ≤ 8) {at_ : Int} (hat : at_ = a) : call cx 96 [.vsl false (ofBytes l) 12, .int .i64 at_, .int .i64 4] [] = some (.tup [.int .u64 (wordL l a : Nat), .bool true], []) := by
  have h := leget_ev (Sl.of l) at_ 4 (by omega) (by show l.length < _; omega)
  have e : leGet l at_ 4 = some (wordL l a) := by
    unfold leGet
    rw [if_pos ⟨by decide, by omega, by omega⟩]
    have e1 : at_.toNat = a := by omega
    rw [e1]
    rfl
  have e2 : (Sl.of l).l = l := rfl
  rw [e2, e] at h
  have e4 : (Sl.of l).nil = false := rfl
  rw [e4, hl] at h
  exact h
set_option maxHeartbeats 2000000 in
theorem add_ev [MaxL] (l : List UInt8) (hl : l.length = 12) (x y z : Int) {x' y' z' : Int} (hm : addT l (x, y, z) = (x', y', z')) (R : Heap) (hR : R = [] ∨ R = [none]) :
    call cx 72 [.optr 0 3 0, .vsl false (ofBytes l) 12] (some [.int .u32 x, .int .u32 y, .int .u32 z] :: R) = some (.tup [], some [.int .u32 x', .int .u32 y', .int .u32 z'] :: R) := by
  have h0 := get12 l hl 0 (by omega) (at_ := 0) rfl
  have h4 := get12 l hl 4 (by omega) (at_ := 4) rfl
  have h8 := get12 l hl 8 (by omega) (at_ := 8) rfl
  have w0 := wordL_lt l 0
  have w4 := wordL_lt l 4
  have w8 := wordL_lt l 8
  unfold addT add32 at hm
  obtain ⟨e1, hm⟩ := Prod.mk.inj hm
  obtain ⟨e2, e3⟩ := Prod.mk.inj hm
  generalize wordL l 0 = a at *
  generalize wordL l 4 = b at *
  generalize wordL l 8 = c at *
  have v0 : IntKind.u32.wrap (a : Int) = a := by rw [wrap_u32] <;> omega
  have v4 : IntKind.u32.wrap (b : Int) = b := by rw [wrap_u32] <;> omega
  have v8 : IntKind.u32.wrap (c : Int) = c := by rw [wrap_u32] <;> omega
  rcases hR with rfl | rfl
  · refine call_run Tryz.func72 rfl ⟨rfl, rfl⟩ ?_
    simp [Tryz.f72, h0, h4, h8, v0, v4, v8, e1, e2, e3]
  · refine call_run Tryz.func72 rfl ⟨rfl, rfl⟩ ?_
    simp [Tryz.f72, h0, h4, h8, v0, v4, v8, e1, e2, e3]
theorem leN_zeros : ∀ (l : List UInt8) (k : Nat), leN (l ++ List.replicate k 0) = leN l
  | [], 0 => rfl
  | [], k + 1 => by
    have h := leN_zeros [] k
    simp only [List.nil_append] at h ⊢
    rw [List.replicate_succ, leN.eq_2]
    rw [h]
    rfl
  | c :: l, k => by rw [List.cons_append, leN, leN, leN_zeros l k]
theorem wordL_zeros (l : List UInt8) (k a : Nat) : wordL (l ++ List.replicate k 0) a = wordL l a := by
  unfold wordL
  rw [List.drop_append, List.take_append, List.drop_replicate, List.take_replicate, leN_zeros]
theorem addT_zeros (l : List UInt8) (k : Nat) (t : Int × Int × Int) : addT (l ++ List.replicate k 0) t = addT l t := by
  obtain ⟨x, y, z⟩ := t
  simp only [addT, wordL_zeros]
set_option maxHeartbeats 4000000 in
theorem lookup_ev [MaxL] (s : Sl UInt8) (_ : s.l.length < 4611686018427387904) : call cx 46 [(.vsl s.nil (ofBytes s.l) s.l.length)] [] = some (.int .u64 (lookN s.l), []) := by
  refine call_run Tryz.func46 rfl ⟨rfl, rfl⟩ ?_
  have hN : lookN s.l = lookR s.l (add32 3735928559 (IntKind.u32.wrap (s.l.length : Nat)), add32 3735928559 (IntKind.u32.wrap (s.l.length : Nat)), add32 3735928559 (IntKind.u32.wrap (s.l.length : Nat))) := rfl
  obtain ⟨n, hn⟩ : ∃ n, IntKind.u32.wrap (3735928559 + IntKind.u32.wrap (s.l.length : Nat)) = n := ⟨_, rfl⟩
  have hn2 : add32 3735928559 (IntKind.u32.wrap (s.l.length : Nat)) = n := hn
  rw [hn2] at hN
  clear hn2
  generalize lookN s.l = res at *
  simp [Tryz.f46, hn]
  refine Run.loopThen (fun (q : List UInt8 × Int × Int × Int) e H' => q.1.length ≤ s.l.length ∧ (s.nil = true → q.1 = []) ∧ lookR q.1 q.2 = res ∧ look e 0 = some (.vsl s.nil (ofBytes q.1) q.1.length) ∧ look e 4 = some (.optr 0 3 0) ∧ H' = [some [.int .u32 q.2.1, .int .u32 q.2.2.1, .int .u32 q.2.2.2]]) (fun q => q.1.length) (s.l, n, n, n) ?_ ?_
  · simp [hN]
    exact s.h
  rintro ⟨l, x, y, z⟩ e H' ⟨hl, hnl, hR, k0, k4, rfl⟩
  simp only at hl hnl hR k0 k4
  by_cases h12 : 12 < l.length
  · have h12' : (12 : Int) < (l.length : Int) := by omega
    have hnn : s.nil = false := by
      cases hq : s.nil with
      | false => rfl
      | true => rw [hnl hq] at h12; simp at h12
    rw [hnn] at k0
    rw [lookR_more h12] at hR
    obtain ⟨⟨x1, y1, z1⟩, ha⟩ : ∃ t, addT (l.take 12) (x, y, z) = t := ⟨_, rfl⟩
    have hA := add_ev (l.take 12) (by rw [List.length_take]; omega) x y z ha [] (.inl rfl)
    have ha2 : addT l (x, y, z) = (x1, y1, z1) := by
      rw [← ha]
      simp only [addT, wordL, List.drop_take, List.take_take]
      rfl
    rw [ha2] at hR
    have hM := mix_ev x1 y1 z1 [] (.inl rfl)
    have t12 : List.take 12 (ofBytes l) = ofBytes (l.take 12) := by simp [ofBytes, List.map_take]
    have d12 : List.drop 12 (ofBytes l) = ofBytes (l.drop 12) := by simp [ofBytes, List.map_drop]
    have h12a : (12 : Int) ≤ (l.length : Int) := by omega
    have hdl : (l.drop 12).length = l.length - 12 := List.length_drop
    have htk : List.take (l.length - 12) (ofBytes (l.drop 12)) = ofBytes (l.drop 12) := List.take_of_length_le (by simp)
    generalize l.take 12 = p at *
    generalize l.drop 12 = l' at *
    simp [k0, k4, h12', hA, hM, h12a, t12, d12, htk]
    exact ⟨l', by omega, by omega, by simp [hnn], _, _, _, hR, ⟨hnn, rfl, by omega⟩, rfl, rfl, rfl⟩
  · have h12' : ¬ (12 : Int) < (l.length : Int) := by omega
    by_cases h0 : l.length = 0
    · have h0' : ¬ (0 : Int) < (l.length : Int) := by omega
      rw [lookR_nil h0] at hR
      subst hR
      have hp64 : (2 : Int) ^ min 32 IntKind.u64.bits = 4294967296 := by decide
      simp [k0, k4, h0, outT, hp64]
    · have h0' : (0 : Int) < (l.length : Int) := by omega
      have hnn : s.nil = false := by
        cases hq : s.nil with
        | false => rfl
        | true => rw [hnl hq] at h0; simp at h0
      rw [hnn] at k0
      have hp : (l ++ List.replicate (12 - l.length) 0).length = 12 := by rw [List.length_append, List.length_replicate]; omega
      have ha0 := addT_zeros l (12 - l.length) (x, y, z)
      obtain ⟨⟨x1, y1, z1⟩, ha⟩ : ∃ t, addT l (x, y, z) = t := ⟨_, rfl⟩
      rw [ha] at ha0
      obtain ⟨⟨x2, z2, y2⟩, hf⟩ : ∃ t, finI (x1, y1, z1) = t := ⟨_, rfl⟩
      rw [lookR_end h12 h0 (x := x2) (y := y2) (z := z2) (by rw [ha]; exact hf)] at hR
      subst hR
      have hA := add_ev _ hp x y z ha0 [none] (.inr rfl)
      have hF := last_ev x1 y1 z1 hf [none] (.inr rfl)
      have hp64 : (2 : Int) ^ min 32 IntKind.u64.bits = 4294967296 := by decide
      have h0n : 0 < l.length := by omega
      have hmin : min l.length 12 = l.length := by omega
      have hset : setRange [D.int .u8 0, D.int .u8 0, D.int .u8 0, D.int .u8 0, D.int .u8 0, D.int .u8 0, D.int .u8 0, D.int .u8 0, D.int .u8 0, D.int .u8 0, D.int .u8 0, D.int .u8 0] 0 (ofBytes l) = ofBytes (l ++ List.replicate (12 - l.length) 0) := by
        show setRange (List.replicate 12 (D.int .u8 0)) 0 (ofBytes l) = _
        unfold setRange
        rw [List.take_zero, Nat.zero_add, ofBytes_len, List.drop_replicate]
        simp [ofBytes]
      have htk : List.take l.length (ofBytes l) = ofBytes l := List.take_of_length_le (by simp)
      generalize l ++ List.replicate (12 - l.length) 0 = p at *
      simp [-setRange_eq, k0, k4, h12', h0n, hA, hF, outT, hp64, hmin, hset, htk, hp]
end Go.Ev.S
