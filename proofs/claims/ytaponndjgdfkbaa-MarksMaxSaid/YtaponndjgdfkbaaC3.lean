import Derived.Test.YtaponndjgdfkbaaC2
import Derived.Test.YtaponndjgdfkbaaRows
/- What the evaluator needs of this program: printed by program. -/
namespace Go.Ev.S
open Go Go.Proofs Go.Ev
def kf2 : Nat → Option (List Nat × Nat)
  | 0 => some ([], 0)
  | _ => none
def kf3 : Nat → Option (List Nat × Nat)
  | 0 => some ([0, 1], 0)
  | 1 => some ([0, 1], 0)
  | 2 => some ([0, 1, 5], 0)
  | 3 => some ([], 0)
  | 4 => some ([0, 1, 5], 0)
  | 5 => some ([5], 0)
  | 6 => some ([0, 1, 5], 0)
  | 7 => some ([0, 1, 5, 6], 0)
  | 8 => some ([0, 1, 5, 6, 7, 8, 9], 0)
  | 9 => some ([0, 1, 5, 6, 7, 8, 9, 10], 0)
  | 10 => some ([0, 1, 5, 6, 7, 8, 9, 10, 11], 0)
  | 11 => some ([0, 1, 5, 6, 7, 8, 9, 10, 11], 0)
  | 12 => some ([0, 1, 5, 6, 7, 8, 9, 10, 11], 0)
  | 13 => some ([0, 1, 5, 6, 7, 8, 9, 10, 11, 12], 0)
  | 14 => some ([0, 1, 5, 6, 7, 8, 9, 10, 11, 12, 13], 0)
  | 15 => some ([0, 1, 5, 6, 7, 8, 9, 10, 11, 12, 13, 14], 0)
  | 16 => some ([0, 1, 5, 6, 7, 8, 9, 10, 11, 12, 13, 14], 0)
  | 17 => some ([0, 1, 5, 6, 7, 8, 9, 10, 11, 12, 13, 14], 0)
  | 18 => some ([0, 1, 5, 6, 7, 8, 9, 10, 11, 12, 13, 14], 0)
  | 19 => some ([0, 1, 5, 6, 7, 8, 9, 10, 11, 12, 13, 14], 0)
  | 20 => some ([0, 1, 5, 6, 7, 8, 9, 10, 11, 12, 13, 14], 0)
  | 21 => some ([0, 1, 5, 7, 8, 9, 10, 11, 12, 15, 16], 0)
  | 22 => some ([], 0)
  | 23 => some ([0, 1, 5, 7, 8, 9, 10, 11, 12, 15], 0)
  | 24 => some ([0, 1, 5, 6, 7, 8, 9, 10, 11], 0)
  | 25 => some ([0, 1, 5, 6, 7, 8, 9, 10, 11, 17], 0)
  | 26 => some ([0, 1, 5, 6, 7, 8, 9, 10, 11, 19], 0)
  | 27 => some ([], 0)
  | 28 => some ([0, 1, 5, 6, 7, 8, 9, 10, 11], 0)
  | 29 => some ([0, 1, 5, 6, 7, 8, 9, 10, 11, 20], 0)
  | 30 => some ([], 0)
  | 31 => some ([5, 6], 0)
  | _ => none
def kf4 : Nat → Option (List Nat × Nat)
  | 0 => some ([0, 1], 0)
  | 1 => some ([0, 1], 0)
  | 2 => some ([0, 1, 5], 0)
  | 3 => some ([], 0)
  | 4 => some ([0, 1, 5], 0)
  | 5 => some ([5, 6, 7], 0)
  | 6 => some ([5, 6, 7, 8, 9], 0)
  | 7 => some ([5, 6, 7, 8, 9, 10, 11], 0)
  | 8 => some ([], 0)
  | 9 => some ([5, 6, 7, 8], 0)
  | 10 => some ([5, 6, 7, 8, 12], 0)
  | 11 => some ([5, 6, 7, 8, 12], 0)
  | 12 => some ([5, 6, 7, 8, 12], 0)
  | 13 => some ([], 0)
  | 14 => some ([5, 6], 0)
  | 15 => some ([5, 6, 13, 14], 0)
  | _ => none
def kf5 : Nat → Option (List Nat × Nat)
  | 0 => some ([0, 1, 2], 0)
  | 1 => some ([0, 1, 2], 0)
  | 2 => some ([0, 1, 2, 7], 0)
  | 3 => some ([], 0)
  | 4 => some ([0, 1, 2, 7], 0)
  | 5 => some ([7], 0)
  | 6 => some ([0, 1, 2, 7], 0)
  | 7 => some ([1, 2, 7, 8], 0)
  | 8 => some ([1, 2, 7, 8, 9], 0)
  | 9 => some ([], 0)
  | 10 => some ([1, 2, 7, 8, 9], 0)
  | 11 => some ([2, 7, 8, 9, 10, 11, 12], 0)
  | 12 => some ([7, 8, 9, 10, 11, 12, 15], 0)
  | _ => none
def kf6 : Nat → Option (List Nat × Nat)
  | 0 => some ([0, 1, 2, 3, 4, 5], 0)
  | 1 => some ([0, 1, 4, 5, 8, 9], 0)
  | 2 => some ([0, 1, 4, 5, 8, 9, 13], 0)
  | 3 => some ([], 0)
  | 4 => some ([0, 1, 4, 5, 8, 9, 13], 0)
  | 5 => some ([13], 0)
  | 6 => some ([0, 1, 4, 5, 8, 9, 13], 0)
  | 7 => some ([0, 1, 4, 5, 8, 9, 13, 14], 0)
  | 8 => some ([0, 1, 4, 5, 8, 9, 13, 14, 16, 17], 0)
  | 9 => some ([0, 1, 4, 5, 8, 9, 13, 14, 16, 17, 18, 19], 0)
  | 10 => some ([0, 1, 4, 5, 8, 9, 13, 14, 16, 17, 18, 19, 20, 21], 0)
  | 11 => some ([0, 1, 5, 8, 13, 14, 16, 17, 18, 19, 20, 21, 22, 23], 0)
  | 12 => some ([0, 1, 5, 8, 13, 14, 16, 17, 18, 19, 20, 21, 22, 23, 24, 25], 0)
  | 13 => some ([0, 1, 5, 8, 13, 14, 16, 17, 18, 19, 20, 21, 22, 23, 24, 25, 26, 27], 0)
  | 14 => some ([0, 1, 5, 8, 13, 14, 16, 17, 18, 19, 20, 21, 22, 23, 24, 25, 26, 27, 28, 29, 30], 0)
  | 15 => some ([0, 1, 8, 13, 14, 16, 17, 18, 19, 20, 21, 22, 23, 24, 25, 26, 27, 28, 29, 30, 31, 32, 33], 0)
  | 16 => some ([0, 1, 8, 13, 14, 34], 0)
  | _ => none
def kf7 : Nat → Option (List Nat × Nat)
  | 0 => some ([], 0)
  | 1 => some ([], 0)
  | 2 => some ([1, 2], 0)
  | _ => none
def kf8 : Nat → Option (List Nat × Nat)
  | 0 => some ([0], 0)
  | 1 => some ([0, 2], 0)
  | 2 => some ([0, 2, 3], 0)
  | 3 => some ([2, 3], 0)
  | _ => none
def kf9 : Nat → Option (List Nat × Nat)
  | 0 => some ([0, 1], 0)
  | 1 => some ([0, 1], 0)
  | 2 => some ([], 0)
  | 3 => some ([0, 1], 0)
  | _ => none
def kf10 : Nat → Option (List Nat × Nat)
  | 0 => some ([0, 1, 2], 0)
  | 1 => some ([0, 2, 4], 0)
  | 2 => some ([0, 2, 4, 8], 0)
  | 3 => some ([8], 0)
  | 4 => some ([0, 2, 4], 0)
  | 5 => some ([0, 2, 4, 9], 0)
  | 6 => some ([0, 2, 9], 0)
  | 7 => some ([0, 9], 0)
  | 8 => some ([0, 2, 4, 9], 0)
  | 9 => some ([0, 2, 4, 9], 0)
  | 10 => some ([], 0)
  | 11 => some ([0, 2, 4, 9], 0)
  | 12 => some ([0, 4, 9], 0)
  | 13 => some ([0, 9], 0)
  | _ => none
def kf11 : Nat → Option (List Nat × Nat)
  | 0 => some ([0, 1], 0)
  | 1 => some ([0, 3, 4], 0)
  | 2 => some ([0, 3, 4, 5], 0)
  | 3 => some ([0, 4, 5], 0)
  | 4 => some ([3, 4], 0)
  | _ => none
def kf12 : Nat → Option (List Nat × Nat)
  | 0 => some ([0], 0)
  | 1 => some ([0], 0)
  | 2 => some ([0, 3], 0)
  | 3 => some ([0, 3, 4], 0)
  | 4 => some ([0, 4], 0)
  | 5 => some ([0, 3, 4], 0)
  | 6 => some ([0, 3, 4], 0)
  | 7 => some ([3], 0)
  | _ => none
def kf13 : Nat → Option (List Nat × Nat)
  | 0 => some ([0, 1], 0)
  | 1 => some ([0, 1], 0)
  | 2 => some ([], 0)
  | 3 => some ([0, 1], 0)
  | 4 => some ([1, 6], 1)
  | 5 => some ([6, 19, 20, 21], 0)
  | 6 => some ([6, 19, 20, 21], 0)
  | 7 => some ([6, 8, 19, 20, 21], 0)
  | 8 => some ([6, 8, 19, 20, 21], 0)
  | 9 => some ([6, 19, 20, 21], 1)
  | 10 => some ([6], 0)
  | 11 => some ([], 0)
  | 12 => some ([6], 0)
  | _ => none
def kf14 : Nat → Option (List Nat × Nat)
  | 0 => some ([0, 1], 0)
  | 1 => some ([0, 1], 0)
  | 2 => some ([1, 7, 8, 9], 0)
  | 3 => some ([1, 7, 8, 9], 0)
  | 4 => some ([1, 6, 7, 8, 9], 0)
  | 5 => some ([], 0)
  | 6 => some ([1, 7, 8, 9], 1)
  | 7 => some ([], 0)
  | _ => none
def kf15 : Nat → Option (List Nat × Nat)
  | 0 => some ([0], 0)
  | 1 => some ([0], 0)
  | 2 => some ([], 0)
  | 3 => some ([0], 0)
  | 4 => some ([0, 3], 0)
  | 5 => some ([0, 3], 0)
  | 6 => some ([0, 3], 0)
  | 7 => some ([], 0)
  | 8 => some ([], 0)
  | _ => none
def kf16 : Nat → Option (List Nat × Nat)
  | 0 => some ([0, 1], 0)
  | 1 => some ([0, 1], 0)
  | _ => none
def kf17 : Nat → Option (List Nat × Nat)
  | 0 => some ([0], 0)
  | 1 => some ([0], 0)
  | 2 => some ([], 0)
  | 3 => some ([0], 0)
  | 4 => some ([0, 3], 0)
  | 5 => some ([3, 15, 16, 17], 0)
  | 6 => some ([3, 15, 16, 17], 0)
  | 7 => some ([3, 5, 15, 16, 17], 0)
  | 8 => some ([3, 5, 15, 16, 17], 0)
  | 9 => some ([15, 16, 17, 31, 32, 33], 0)
  | 10 => some ([3, 15, 16, 17, 31, 32, 33], 0)
  | 11 => some ([3, 7, 15, 16, 17, 31, 32, 33], 0)
  | 12 => some ([15, 16, 17, 31, 32, 33], 0)
  | 13 => some ([15, 16, 17], 0)
  | 14 => some ([3], 0)
  | _ => none
def kf18 : Nat → Option (List Nat × Nat)
  | 0 => some ([0], 0)
  | 1 => some ([0], 0)
  | 2 => some ([], 0)
  | 3 => some ([0], 0)
  | 4 => some ([], 0)
  | 5 => some ([0], 0)
  | 6 => some ([0, 5], 0)
  | 7 => some ([0, 5, 21, 22], 0)
  | 8 => some ([0, 5, 21, 22], 0)
  | 9 => some ([0, 5, 6, 21, 22], 0)
  | 10 => some ([0, 5, 6, 7, 21, 22], 0)
  | 11 => some ([0, 5, 6, 7, 8, 21, 22], 0)
  | 12 => some ([], 0)
  | 13 => some ([0, 5, 6, 7, 8, 21, 22], 0)
  | 14 => some ([], 0)
  | 15 => some ([0, 5, 7, 8, 21, 22], 0)
  | 16 => some ([], 0)
  | 17 => some ([0, 5, 7, 8, 21, 22], 0)
  | 18 => some ([0, 5, 7, 8, 21, 22], 0)
  | 19 => some ([0, 5, 7, 8, 21, 22], 0)
  | 20 => some ([0, 5, 8, 21, 22], 0)
  | 21 => some ([0, 21, 22], 0)
  | 22 => some ([5], 0)
  | _ => none
def kf19 : Nat → Option (List Nat × Nat)
  | 0 => some ([0], 0)
  | 1 => some ([0], 0)
  | _ => none
def kf20 : Nat → Option (List Nat × Nat)
  | 0 => some ([0, 1], 0)
  | 1 => some ([0, 3, 4], 0)
  | 2 => some ([0, 3, 4, 6], 0)
  | 3 => some ([0, 3, 4, 6], 0)
  | 4 => some ([0, 3, 4, 6], 0)
  | 5 => some ([0, 4, 6], 0)
  | 6 => some ([3, 4], 0)
  | _ => none
def kf21 : Nat → Option (List Nat × Nat)
  | 0 => some ([0, 1], 0)
  | 1 => some ([0, 3], 0)
  | 2 => some ([0, 3, 6], 0)
  | 3 => some ([6], 0)
  | 4 => some ([0, 3], 0)
  | _ => none
def kf22 : Nat → Option (List Nat × Nat)
  | 0 => some ([0, 1], 0)
  | 1 => some ([0, 3], 0)
  | 2 => some ([], 0)
  | 3 => some ([0, 3], 0)
  | 4 => some ([0, 3, 7], 0)
  | 5 => some ([], 0)
  | 6 => some ([0, 3], 0)
  | 7 => some ([0, 3, 8], 0)
  | 8 => some ([0, 9], 0)
  | 9 => some ([0, 3, 8, 9, 10], 0)
  | 10 => some ([0, 9, 10], 0)
  | 11 => some ([0, 3, 8, 9, 10], 0)
  | 12 => some ([0, 3, 8, 9, 10, 11], 0)
  | 13 => some ([0, 3, 8, 10, 11], 0)
  | 14 => some ([0, 3, 8, 9, 10, 11], 0)
  | 15 => some ([0, 3, 8, 9, 10, 11], 0)
  | 16 => some ([0, 3, 8, 9, 10], 0)
  | 17 => some ([3, 8, 9], 0)
  | 18 => some ([3, 8], 0)
  | 19 => some ([8], 0)
  | _ => none
def kf23 : Nat → Option (List Nat × Nat)
  | 0 => some ([0, 1, 2], 0)
  | 1 => some ([0, 2, 4], 0)
  | 2 => some ([0, 2, 4, 8], 0)
  | 3 => some ([0, 2, 4, 8, 10], 0)
  | 4 => some ([0, 4, 8, 10], 0)
  | 5 => some ([0, 4, 8, 10], 0)
  | 6 => some ([0, 2, 4, 8, 10], 0)
  | 7 => some ([0, 2, 4, 8, 10], 0)
  | 8 => some ([0, 4, 8, 10], 0)
  | 9 => some ([0, 4, 8, 10], 0)
  | 10 => some ([4, 10, 11, 12], 0)
  | 11 => some ([12], 0)
  | 12 => some ([4, 10, 11], 0)
  | 13 => some ([], 0)
  | 14 => some ([11], 0)
  | _ => none
def kf24 : Nat → Option (List Nat × Nat)
  | 0 => some ([0, 1], 0)
  | 1 => some ([0, 1], 0)
  | 2 => some ([], 0)
  | 3 => some ([0, 1], 0)
  | 4 => some ([1, 6], 1)
  | 5 => some ([1, 6, 7], 0)
  | 6 => some ([1, 6, 7], 1)
  | 7 => some ([1, 6, 7], 0)
  | 8 => some ([1, 6, 7, 8, 9], 0)
  | 9 => some ([1, 6, 7], 0)
  | 10 => some ([1, 7, 10, 11], 0)
  | 11 => some ([11], 0)
  | 12 => some ([1, 7, 10], 0)
  | 13 => some ([6], 0)
  | _ => none
def kf25 : Nat → Option (List Nat × Nat)
  | 0 => some ([0], 0)
  | 1 => some ([0], 0)
  | 2 => some ([], 0)
  | 3 => some ([0], 0)
  | 4 => some ([], 0)
  | 5 => some ([0], 0)
  | 6 => some ([0, 5], 0)
  | 7 => some ([0, 5, 6], 0)
  | 8 => some ([0, 5, 6, 7], 0)
  | 9 => some ([0, 6, 7], 0)
  | 10 => some ([0, 5, 6, 7], 0)
  | 11 => some ([], 0)
  | 12 => some ([0, 5, 6, 7], 0)
  | 13 => some ([0, 5, 6, 7, 8], 0)
  | 14 => some ([0, 5, 6, 7, 8, 9], 0)
  | 15 => some ([0, 5, 6, 7, 8, 9], 0)
  | 16 => some ([0, 5, 6, 7, 8, 9], 0)
  | 17 => some ([0, 5, 6, 7, 8], 0)
  | 18 => some ([], 0)
  | 19 => some ([0, 5, 6, 7, 8], 0)
  | 20 => some ([0, 5, 6, 7, 8], 0)
  | 21 => some ([], 0)
  | 22 => some ([0, 5, 6, 7, 8], 0)
  | 23 => some ([0, 5, 6, 7, 8], 0)
  | 24 => some ([0, 5, 6, 7, 8], 0)
  | 25 => some ([0, 5, 6, 7, 8], 0)
  | 26 => some ([0, 5, 6, 7, 8], 0)
  | 27 => some ([5, 6], 0)
  | _ => none
def kf26 : Nat → Option (List Nat × Nat)
  | 0 => some ([0, 1], 0)
  | 1 => some ([0, 1], 0)
  | 2 => some ([], 0)
  | 3 => some ([0, 1], 0)
  | 4 => some ([0, 1, 5], 0)
  | 5 => some ([0, 1, 5], 0)
  | 6 => some ([0, 1, 5], 0)
  | 7 => some ([], 0)
  | 8 => some ([], 0)
  | _ => none
def kf27 : Nat → Option (List Nat × Nat)
  | 0 => some ([0], 0)
  | 1 => some ([0], 0)
  | 2 => some ([0, 3], 0)
  | 3 => some ([0, 3], 0)
  | 4 => some ([0, 3], 0)
  | 5 => some ([], 0)
  | 6 => some ([0], 0)
  | _ => none
def kf28 : Nat → Option (List Nat × Nat)
  | 0 => some ([0, 1], 0)
  | 1 => some ([0, 1], 0)
  | 2 => some ([0, 1, 5], 0)
  | 3 => some ([0, 1, 5], 1)
  | 4 => some ([0, 1, 5], 0)
  | 5 => some ([0, 1, 5, 6], 0)
  | 6 => some ([], 0)
  | 7 => some ([], 0)
  | _ => none
def kf29 : Nat → Option (List Nat × Nat)
  | 0 => some ([0, 1], 0)
  | 1 => some ([0, 1], 0)
  | _ => none
def kf30 : Nat → Option (List Nat × Nat)
  | 0 => some ([0], 0)
  | 1 => some ([0], 0)
  | 2 => some ([], 0)
  | 3 => some ([0], 0)
  | 4 => some ([0, 3], 0)
  | 5 => some ([0, 3, 4], 0)
  | 6 => some ([0, 4], 0)
  | 7 => some ([0, 3, 4], 0)
  | 8 => some ([0, 3, 4], 0)
  | 9 => some ([3], 0)
  | _ => none
def kf31 : Nat → Option (List Nat × Nat)
  | 0 => some ([0, 1], 0)
  | 1 => some ([0, 3], 0)
  | 2 => some ([], 0)
  | 3 => some ([0, 3], 0)
  | 4 => some ([], 0)
  | 5 => some ([], 0)
  | _ => none
def kf32 : Nat → Option (List Nat × Nat)
  | 0 => some ([0, 1], 0)
  | 1 => some ([0, 1], 0)
  | 2 => some ([], 0)
  | 3 => some ([0, 1], 0)
  | _ => none
def kf33 : Nat → Option (List Nat × Nat)
  | 0 => some ([0, 1], 0)
  | 1 => some ([0, 3], 0)
  | 2 => some ([3, 5], 0)
  | 3 => some ([3, 5, 6], 0)
  | 4 => some ([3, 5, 6], 0)
  | 5 => some ([5], 0)
  | 6 => some ([3, 5], 0)
  | 7 => some ([5], 0)
  | 8 => some ([5], 0)
  | _ => none
def kf34 : Nat → Option (List Nat × Nat)
  | 0 => some ([0, 1], 0)
  | 1 => some ([0, 3], 0)
  | _ => none
def kf35 : Nat → Option (List Nat × Nat)
  | 0 => some ([0, 1], 0)
  | 1 => some ([0, 1], 0)
  | 2 => some ([], 0)
  | 3 => some ([0, 1], 0)
  | 4 => some ([0, 1], 0)
  | _ => none
def kf36 : Nat → Option (List Nat × Nat)
  | 0 => some ([0], 0)
  | 1 => some ([0], 0)
  | 2 => some ([], 0)
  | 3 => some ([0], 0)
  | _ => none
def kf37 : Nat → Option (List Nat × Nat)
  | 0 => some ([0, 1], 0)
  | 1 => some ([0, 1], 0)
  | _ => none
def kf38 : Nat → Option (List Nat × Nat)
  | 0 => some ([0, 1], 0)
  | 1 => some ([0, 1], 0)
  | 2 => some ([], 0)
  | 3 => some ([0, 1], 0)
  | 4 => some ([0, 1, 12, 13], 0)
  | 5 => some ([0, 1, 12, 13], 0)
  | 6 => some ([0, 1, 5, 12, 13], 0)
  | 7 => some ([], 0)
  | 8 => some ([0, 1, 12, 13], 0)
  | 9 => some ([], 0)
  | _ => none
def kf39 : Nat → Option (List Nat × Nat)
  | 0 => some ([0, 1, 2], 0)
  | 1 => some ([0, 1, 2], 0)
  | 2 => some ([1, 2, 7], 0)
  | 3 => some ([7], 0)
  | 4 => some ([1, 2, 7], 0)
  | 5 => some ([2, 7, 15, 16], 0)
  | 6 => some ([2, 7, 15, 16], 0)
  | 7 => some ([2, 7, 8, 15, 16], 0)
  | 8 => some ([2, 15, 16], 0)
  | 9 => some ([7], 0)
  | _ => none
def kf40 : Nat → Option (List Nat × Nat)
  | 0 => some ([0, 1, 2], 0)
  | 1 => some ([0, 1, 2], 0)
  | 2 => some ([], 0)
  | 3 => some ([0, 1, 2], 0)
  | 4 => some ([0, 1, 2, 8], 0)
  | 5 => some ([0, 1, 8, 9], 0)
  | 6 => some ([0, 1, 8, 9], 0)
  | 7 => some ([0, 1, 8, 9], 0)
  | 8 => some ([8], 0)
  | _ => none
def kf41 : Nat → Option (List Nat × Nat)
  | 0 => some ([0, 1], 0)
  | 1 => some ([2, 3], 0)
  | 2 => some ([2, 3, 5], 0)
  | 3 => some ([2, 3, 5], 0)
  | 4 => some ([2, 3, 5], 0)
  | 5 => some ([2, 3, 5], 0)
  | 6 => some ([], 0)
  | _ => none
def kf42 : Nat → Option (List Nat × Nat)
  | 0 => some ([0, 1], 0)
  | 1 => some ([0, 1], 0)
  | 2 => some ([], 0)
  | 3 => some ([0, 1], 0)
  | _ => none
def kf43 : Nat → Option (List Nat × Nat)
  | 0 => some ([0, 1, 2], 0)
  | 1 => some ([0, 1, 2], 0)
  | 2 => some ([], 0)
  | 3 => some ([0, 1, 2], 0)
  | 4 => some ([0, 1, 2, 8], 0)
  | 5 => some ([0, 1, 8, 9], 0)
  | 6 => some ([0, 1, 8, 9], 0)
  | 7 => some ([0, 1, 8, 9], 0)
  | 8 => some ([8], 0)
  | _ => none
def kf44 : Nat → Option (List Nat × Nat)
  | 0 => some ([0], 0)
  | 1 => some ([0], 0)
  | 2 => some ([0, 3], 0)
  | 3 => some ([0, 3, 4], 0)
  | 4 => some ([0, 4], 0)
  | 5 => some ([0, 3, 4], 0)
  | 6 => some ([3], 0)
  | _ => none
def kf45 : Nat → Option (List Nat × Nat)
  | 0 => some ([0, 1], 0)
  | 1 => some ([0, 1, 4], 0)
  | _ => none
def kf46 : Nat → Option (List Nat × Nat)
  | 0 => some ([0, 1], 0)
  | 1 => some ([2, 3], 0)
  | _ => none
def kf47 : Nat → Option (List Nat × Nat)
  | 0 => some ([0, 1], 0)
  | 1 => some ([0, 1], 0)
  | 2 => some ([0, 1, 7, 8], 0)
  | 3 => some ([0, 1, 7, 8], 0)
  | 4 => some ([0, 1, 5, 7, 8], 0)
  | 5 => some ([5], 0)
  | 6 => some ([0, 1, 7, 8], 0)
  | 7 => some ([], 0)
  | _ => none
def kf48 : Nat → Option (List Nat × Nat)
  | 0 => some ([0, 1], 0)
  | 1 => some ([1, 2], 0)
  | _ => none
def kf50 : Nat → Option (List Nat × Nat)
  | 0 => some ([0], 0)
  | 1 => some ([0], 0)
  | 2 => some ([], 0)
  | 3 => some ([0], 0)
  | _ => none
def kf51 : Nat → Option (List Nat × Nat)
  | 0 => some ([0], 0)
  | 1 => some ([0], 0)
  | _ => none
def kf52 : Nat → Option (List Nat × Nat)
  | 0 => some ([0, 1], 0)
  | 1 => some ([0, 1], 0)
  | 2 => some ([], 0)
  | 3 => some ([0, 1], 0)
  | 4 => some ([], 0)
  | 5 => some ([], 0)
  | _ => none
def kf53 : Nat → Option (List Nat × Nat)
  | 0 => some ([0, 1], 0)
  | 1 => some ([0, 1], 0)
  | 2 => some ([0, 1, 5], 0)
  | 3 => some ([0, 1, 5, 6], 0)
  | 4 => some ([0, 1, 6], 0)
  | 5 => some ([0, 1, 5, 6], 0)
  | 6 => some ([0, 1, 5, 6], 0)
  | 7 => some ([5], 0)
  | _ => none
def kf54 : Nat → Option (List Nat × Nat)
  | 0 => some ([0, 1, 2, 3, 4], 0)
  | 1 => some ([0, 1, 2, 3, 4, 10], 0)
  | 2 => some ([0, 1, 2, 3, 4, 10, 11], 0)
  | 3 => some ([0, 1, 2, 3, 4, 10, 11, 12], 0)
  | 4 => some ([0, 1, 2, 4], 0)
  | 5 => some ([0, 1, 2, 3, 4, 10, 11, 12], 0)
  | 6 => some ([0, 1, 2, 4], 0)
  | 7 => some ([0, 1, 2, 3, 4, 10, 11, 12], 0)
  | 8 => some ([0, 1, 2, 3, 4, 10, 11, 12], 0)
  | 9 => some ([0, 1, 2, 3, 4, 10, 11, 12], 0)
  | 10 => some ([0, 1, 2, 3, 4, 10, 11, 12], 0)
  | 11 => some ([0, 1, 2, 3, 4, 10, 11, 12, 13, 14], 0)
  | 12 => some ([0, 1, 2, 3, 4, 10, 11, 12, 13], 0)
  | 13 => some ([0, 1, 2, 3, 4, 10, 11, 12, 13], 0)
  | 14 => some ([0, 1, 2, 3, 4, 10, 11, 12, 13], 0)
  | 15 => some ([0, 1, 2, 3, 4, 10, 11, 12, 13, 14], 0)
  | 16 => some ([0, 1, 2, 3, 4, 10, 11, 12, 13], 0)
  | 17 => some ([0, 1, 2, 3, 4, 10, 11, 12, 13], 0)
  | 18 => some ([0, 1, 2, 3, 4, 10, 11, 13], 0)
  | 19 => some ([0, 2, 3, 4, 10, 11, 15], 0)
  | 20 => some ([0, 1, 2, 3, 4, 12, 13], 0)
  | 21 => some ([0, 1, 2, 3, 4, 12, 16, 17], 0)
  | 22 => some ([0, 1, 2, 3, 4, 11, 12, 16], 0)
  | 23 => some ([0, 1, 2, 3, 4, 11, 12, 16, 18, 19], 0)
  | 24 => some ([0, 1, 2, 3, 4, 11, 16, 18, 19, 20], 0)
  | 25 => some ([0, 1, 2, 3, 4, 11, 16, 18, 20], 0)
  | 26 => some ([0, 1, 2, 3, 4, 10, 11, 16], 0)
  | 27 => some ([0, 2, 3, 4, 10, 11, 16], 0)
  | 28 => some ([0, 1, 2, 3, 4, 11, 16, 19, 20], 0)
  | 29 => some ([0, 1, 2, 3, 4, 10, 11, 16], 0)
  | 30 => some ([0, 1, 3, 4, 10, 11, 16], 0)
  | _ => none
def kf55 : Nat → Option (List Nat × Nat)
  | 0 => some ([0], 0)
  | 1 => some ([0], 0)
  | 2 => some ([0], 0)
  | _ => none
def kf56 : Nat → Option (List Nat × Nat)
  | 0 => some ([0, 1, 2, 3], 0)
  | 1 => some ([0, 1, 2, 3, 8], 0)
  | 2 => some ([0, 1, 2, 3, 8], 0)
  | 3 => some ([0, 1, 2, 3, 8], 0)
  | 4 => some ([0, 1, 2, 3, 8, 9], 0)
  | 5 => some ([0, 1, 2, 3, 8, 9], 0)
  | 6 => some ([0, 1, 2, 3, 8, 9], 0)
  | _ => none
def kf57 : Nat → Option (List Nat × Nat)
  | 0 => some ([0, 1, 2, 3], 0)
  | 1 => some ([0, 1, 2, 3, 8], 0)
  | 2 => some ([0, 1, 2, 3, 8, 9], 0)
  | 3 => some ([0, 3, 8, 9, 10], 0)
  | 4 => some ([0, 3, 8, 9, 10, 11], 0)
  | 5 => some ([0, 3, 8, 9, 10, 11], 0)
  | 6 => some ([0, 3, 8, 9, 10, 11], 0)
  | 7 => some ([0, 3, 8, 9, 10], 0)
  | 8 => some ([0, 3, 8, 9, 12], 0)
  | 9 => some ([0, 3, 8, 9, 12], 0)
  | 10 => some ([0, 3, 8, 9, 12], 0)
  | 11 => some ([0, 3, 8, 9, 12], 0)
  | _ => none
def kf58 : Nat → Option (List Nat × Nat)
  | 0 => some ([0, 1, 2], 0)
  | 1 => some ([0, 1, 8], 0)
  | 2 => some ([0, 1, 8], 0)
  | 3 => some ([0, 1, 8, 9], 0)
  | 4 => some ([0, 1, 8, 9, 10], 0)
  | 5 => some ([0, 1, 8, 9, 10, 11], 0)
  | 6 => some ([0, 1, 8, 9, 10, 11], 0)
  | 7 => some ([0, 1, 8, 9, 10, 11], 0)
  | 8 => some ([0, 1, 8, 9, 10, 11, 12], 0)
  | 9 => some ([0, 1, 8, 9, 10, 11, 12], 0)
  | 10 => some ([0, 1, 8, 9, 10, 11, 12], 0)
  | _ => none
def kf59 : Nat → Option (List Nat × Nat)
  | 0 => some ([0, 1, 2, 3], 0)
  | 1 => some ([0, 1, 2, 3], 0)
  | 2 => some ([0, 1, 3, 10], 0)
  | 3 => some ([0, 1, 3, 10, 11], 0)
  | 4 => some ([0, 1, 3, 10, 11, 12], 0)
  | 5 => some ([0, 1, 3, 10, 11, 12, 13], 0)
  | 6 => some ([0, 3, 10, 11, 12, 13, 14], 0)
  | 7 => some ([0, 3, 10, 11, 12, 13, 14], 0)
  | 8 => some ([0, 3, 11, 12, 13, 14], 0)
  | 9 => some ([0, 3, 11, 12, 13, 14], 0)
  | 10 => some ([0, 3, 11, 12, 13, 14], 0)
  | 11 => some ([0, 3, 11, 12, 13, 14], 0)
  | 12 => some ([11, 13], 0)
  | 13 => some ([13], 0)
  | 14 => some ([13, 55], 0)
  | 15 => some ([13], 0)
  | 16 => some ([13, 55], 0)
  | 17 => some ([13], 0)
  | _ => none
def kf60 : Nat → Option (List Nat × Nat)
  | 0 => some ([0, 1, 2], 0)
  | 1 => some ([0, 2, 8], 0)
  | 2 => some ([0, 8, 9], 0)
  | 3 => some ([0, 8, 9], 0)
  | 4 => some ([0, 8, 9], 0)
  | 5 => some ([0, 8, 9], 0)
  | _ => none
def kf61 : Nat → Option (List Nat × Nat)
  | 0 => some ([0, 1, 2, 3], 0)
  | 1 => some ([0, 1, 2, 3], 0)
  | 2 => some ([0, 1, 2, 3, 9], 0)
  | 3 => some ([0, 1, 2, 3, 9, 10], 0)
  | 4 => some ([0, 1, 2, 3, 9, 10], 0)
  | 5 => some ([0, 1, 2, 3, 9, 10], 0)
  | 6 => some ([0, 1, 2, 3, 9, 10], 0)
  | 7 => some ([0, 1, 2, 3, 9, 10], 0)
  | 8 => some ([], 0)
  | 9 => some ([0, 1, 2, 3, 9, 10], 0)
  | 10 => some ([], 0)
  | 11 => some ([0, 1, 2, 3, 9, 10], 0)
  | 12 => some ([0, 1, 2, 3, 9, 10], 0)
  | 13 => some ([0, 1, 2, 3, 9, 10], 0)
  | 14 => some ([0, 1, 2, 3, 9, 10, 11], 0)
  | 15 => some ([0, 1, 2, 3, 9, 10, 11], 0)
  | 16 => some ([0, 1, 2, 3, 9, 10, 11], 0)
  | 17 => some ([0, 1, 2, 3, 9, 10, 11], 0)
  | 18 => some ([0, 1, 2, 3, 9, 10], 0)
  | 19 => some ([0, 1, 2, 3, 9, 10], 0)
  | 20 => some ([0, 1, 2, 3, 9, 10, 12], 0)
  | 21 => some ([0, 1, 2, 3, 9, 10, 12], 0)
  | 22 => some ([0, 1, 2, 3, 9, 10, 12], 0)
  | 23 => some ([0, 1, 2, 3, 9, 10, 12], 0)
  | 24 => some ([], 0)
  | _ => none
def kf62 : Nat → Option (List Nat × Nat)
  | 0 => some ([0, 1, 2, 3, 4], 0)
  | 1 => some ([0, 1, 2, 3, 4], 0)
  | 2 => some ([0, 1, 2, 4], 0)
  | 3 => some ([0, 1, 4, 11, 12], 0)
  | 4 => some ([0, 1, 4, 11, 12], 0)
  | 5 => some ([0, 1, 4, 11, 12], 0)
  | 6 => some ([0, 1, 4, 11, 12], 0)
  | 7 => some ([0, 1, 4, 11, 12], 0)
  | 8 => some ([0, 1, 4, 11, 12], 0)
  | 9 => some ([0, 1, 4, 11, 12], 0)
  | 10 => some ([0, 1, 4, 11, 12], 0)
  | 11 => some ([11], 0)
  | _ => none
def kf63 : Nat → Option (List Nat × Nat)
  | 0 => some ([0, 1, 2, 3, 4], 0)
  | 1 => some ([0, 1, 2, 3, 4], 0)
  | 2 => some ([0, 1, 2, 4], 0)
  | 3 => some ([0, 1, 4, 12, 13], 0)
  | 4 => some ([0, 1, 4, 12, 13], 0)
  | 5 => some ([0, 1, 4, 12, 13], 0)
  | 6 => some ([0, 1, 4, 12, 13], 0)
  | 7 => some ([0, 1, 4, 12, 13], 0)
  | 8 => some ([0, 1, 13], 0)
  | 9 => some ([13], 0)
  | 10 => some ([0, 1, 4, 12, 13], 0)
  | 11 => some ([0, 1, 4, 12, 13], 0)
  | 12 => some ([0, 1, 4, 12, 13], 0)
  | 13 => some ([0, 1, 4, 12, 13], 0)
  | 14 => some ([0, 1, 4, 12, 13], 0)
  | 15 => some ([0, 1, 4, 12, 13], 0)
  | 16 => some ([0, 1, 4, 12, 13], 0)
  | 17 => some ([0, 1, 4, 12, 13], 0)
  | 18 => some ([0, 1, 4, 12, 13], 0)
  | 19 => some ([0, 1, 4, 12, 13], 0)
  | 20 => some ([0, 1, 4, 12, 13], 0)
  | 21 => some ([0, 1, 13], 0)
  | 22 => some ([13], 0)
  | _ => none
def kf64 : Nat → Option (List Nat × Nat)
  | 0 => some ([0], 0)
  | 1 => some ([0, 2], 0)
  | 2 => some ([0], 0)
  | 3 => some ([0], 0)
  | 4 => some ([0, 2], 0)
  | 5 => some ([0, 2], 0)
  | 6 => some ([0, 2], 0)
  | 7 => some ([0, 2], 0)
  | _ => none
def kf65 : Nat → Option (List Nat × Nat)
  | 0 => some ([0], 0)
  | 1 => some ([0, 2], 0)
  | 2 => some ([0], 0)
  | 3 => some ([0], 0)
  | 4 => some ([0, 2], 0)
  | 5 => some ([0, 2], 0)
  | 6 => some ([0, 2], 0)
  | 7 => some ([0, 2], 0)
  | 8 => some ([0, 2], 0)
  | 9 => some ([0, 2], 0)
  | 10 => some ([0, 2], 0)
  | _ => none
def kf66 : Nat → Option (List Nat × Nat)
  | 0 => some ([0, 1, 2, 3, 4], 0)
  | 1 => some ([0, 2, 3, 4, 10], 0)
  | 2 => some ([0, 2, 3, 4, 10, 11], 0)
  | 3 => some ([0, 2, 3, 4, 10, 11], 0)
  | 4 => some ([0, 2, 3, 4, 10, 11], 0)
  | 5 => some ([0, 2, 3, 4, 10, 11], 0)
  | 6 => some ([0, 2, 3, 4, 10, 11], 0)
  | 7 => some ([0, 2, 3, 4, 11], 0)
  | _ => none
def kf67 : Nat → Option (List Nat × Nat)
  | 0 => some ([0], 0)
  | 1 => some ([0], 0)
  | _ => none
def kf68 : Nat → Option (List Nat × Nat)
  | 0 => some ([0], 0)
  | 1 => some ([0], 0)
  | 2 => some ([0], 0)
  | 3 => some ([0], 0)
  | 4 => some ([0], 0)
  | _ => none
def kf69 : Nat → Option (List Nat × Nat)
  | 0 => some ([0, 1, 2, 3], 0)
  | 1 => some ([0, 1, 2, 3], 0)
  | _ => none
def kf70 : Nat → Option (List Nat × Nat)
  | 0 => some ([0, 1, 2, 3, 4, 5], 0)
  | 1 => some ([0, 1, 2, 3, 4, 5], 0)
  | 2 => some ([0, 1, 2, 3, 4, 5], 0)
  | 3 => some ([0, 1, 2, 4, 5], 0)
  | 4 => some ([2], 0)
  | _ => none
def kf71 : Nat → Option (List Nat × Nat)
  | 0 => some ([0, 1, 2, 3, 4], 0)
  | 1 => some ([0, 1, 2, 3, 4], 0)
  | 2 => some ([1, 2, 3], 0)
  | 3 => some ([1, 2], 0)
  | 4 => some ([1, 2], 0)
  | _ => none
def keepT : Nat → Nat → Option (List Nat × Nat)
  | 2 => kf2
  | 3 => kf3
  | 4 => kf4
  | 5 => kf5
  | 6 => kf6
  | 7 => kf7
  | 8 => kf8
  | 9 => kf9
  | 10 => kf10
  | 11 => kf11
  | 12 => kf12
  | 13 => kf13
  | 14 => kf14
  | 15 => kf15
  | 16 => kf16
  | 17 => kf17
  | 18 => kf18
  | 19 => kf19
  | 20 => kf20
  | 21 => kf21
  | 22 => kf22
  | 23 => kf23
  | 24 => kf24
  | 25 => kf25
  | 26 => kf26
  | 27 => kf27
  | 28 => kf28
  | 29 => kf29
  | 30 => kf30
  | 31 => kf31
  | 32 => kf32
  | 33 => kf33
  | 34 => kf34
  | 35 => kf35
  | 36 => kf36
  | 37 => kf37
  | 38 => kf38
  | 39 => kf39
  | 40 => kf40
  | 41 => kf41
  | 42 => kf42
  | 43 => kf43
  | 44 => kf44
  | 45 => kf45
  | 46 => kf46
  | 47 => kf47
  | 48 => kf48
  | 50 => kf50
  | 51 => kf51
  | 52 => kf52
  | 53 => kf53
  | 54 => kf54
  | 55 => kf55
  | 56 => kf56
  | 57 => kf57
  | 58 => kf58
  | 59 => kf59
  | 60 => kf60
  | 61 => kf61
  | 62 => kf62
  | 63 => kf63
  | 64 => kf64
  | 65 => kf65
  | 66 => kf66
  | 67 => kf67
  | 68 => kf68
  | 69 => kf69
  | 70 => kf70
  | 71 => kf71
  | _ => fun _ => none
def frzT : Nat → Nat → List Nat
  | 13, 4 => [6]
  | 17, 9 => [31]
  | 24, 4 => [6]
  | _, _ => []
def retT : Nat → Nat → List Nat
  | 12, 4 => [3]
  | 17, 9 => [3]
  | 17, 12 => [3]
  | 17, 13 => [3]
  | 18, 21 => [5]
  | 22, 8 => [3, 8]
  | 22, 10 => [3, 8]
  | 25, 9 => [5]
  | 30, 6 => [3]
  | 39, 8 => [7]
  | 44, 4 => [3]
  | 53, 4 => [5]
  | _, _ => []
def permT : Nat → Bool
  | 18 => true
  | 25 => true
  | _ => false
def byRefT : Nat → Bool
  | 12 => true
  | 35 => true
  | 45 => true
  | 54 => true
  | 56 => true
  | _ => false
def badT : Nat → Bool
  | _ => false
def pureT : Nat → Bool
  | 8 => true
  | 9 => true
  | 11 => true
  | 40 => true
  | 51 => true
  | _ => false
def fzrT : Nat → Bool
  | 19 => false
  | 36 => false
  | 39 => false
  | 50 => false
  | _ => true
def extT : Nat → List D → Option D
  | 49 => cmpExt
  | _ => fun _ => none
def conT : Nat → List D → Heap → Option (D × Heap)
  | _ => fun _ _ => none
def globT : Nat → Option (List D)
  | _ => none
noncomputable def cx : Cx := { P := Try.prog, glob := globT, keep := keepT, byRef := byRefT, pureF := pureT, ext := extT, bad := badT, frz := frzT, ret := retT, fzr := fzrT, con := conT, perm := permT }
@[simp] theorem cxP : cx.P = Try.prog := rfl
theorem cxF (f : Nat) : cx.P.funcs[f]? = Try.prog.funcs[f]? := rfl
@[simp] theorem br2 : cx.byRef 2 = false := rfl
@[simp] theorem pm2 : cx.perm 2 = false := rfl
@[simp] theorem pu2 : cx.pureF 2 = false := rfl
@[simp] theorem fz2 : cx.fzr 2 = true := rfl
@[simp] theorem br3 : cx.byRef 3 = false := rfl
@[simp] theorem pm3 : cx.perm 3 = false := rfl
@[simp] theorem pu3 : cx.pureF 3 = false := rfl
@[simp] theorem fz3 : cx.fzr 3 = true := rfl
@[simp] theorem br4 : cx.byRef 4 = false := rfl
@[simp] theorem pm4 : cx.perm 4 = false := rfl
@[simp] theorem pu4 : cx.pureF 4 = false := rfl
@[simp] theorem fz4 : cx.fzr 4 = true := rfl
@[simp] theorem br5 : cx.byRef 5 = false := rfl
@[simp] theorem pm5 : cx.perm 5 = false := rfl
@[simp] theorem pu5 : cx.pureF 5 = false := rfl
@[simp] theorem fz5 : cx.fzr 5 = true := rfl
@[simp] theorem br6 : cx.byRef 6 = false := rfl
@[simp] theorem pm6 : cx.perm 6 = false := rfl
@[simp] theorem pu6 : cx.pureF 6 = false := rfl
@[simp] theorem fz6 : cx.fzr 6 = true := rfl
@[simp] theorem br7 : cx.byRef 7 = false := rfl
@[simp] theorem pm7 : cx.perm 7 = false := rfl
@[simp] theorem pu7 : cx.pureF 7 = false := rfl
@[simp] theorem fz7 : cx.fzr 7 = true := rfl
@[simp] theorem br8 : cx.byRef 8 = false := rfl
@[simp] theorem pm8 : cx.perm 8 = false := rfl
@[simp] theorem pu8 : cx.pureF 8 = true := rfl
@[simp] theorem fz8 : cx.fzr 8 = true := rfl
@[simp] theorem br9 : cx.byRef 9 = false := rfl
@[simp] theorem pm9 : cx.perm 9 = false := rfl
@[simp] theorem pu9 : cx.pureF 9 = true := rfl
@[simp] theorem fz9 : cx.fzr 9 = true := rfl
@[simp] theorem br10 : cx.byRef 10 = false := rfl
@[simp] theorem pm10 : cx.perm 10 = false := rfl
@[simp] theorem pu10 : cx.pureF 10 = false := rfl
@[simp] theorem fz10 : cx.fzr 10 = true := rfl
@[simp] theorem br11 : cx.byRef 11 = false := rfl
@[simp] theorem pm11 : cx.perm 11 = false := rfl
@[simp] theorem pu11 : cx.pureF 11 = true := rfl
@[simp] theorem fz11 : cx.fzr 11 = true := rfl
@[simp] theorem br12 : cx.byRef 12 = true := rfl
@[simp] theorem pm12 : cx.perm 12 = false := rfl
@[simp] theorem pu12 : cx.pureF 12 = false := rfl
@[simp] theorem fz12 : cx.fzr 12 = true := rfl
@[simp] theorem br13 : cx.byRef 13 = false := rfl
@[simp] theorem pm13 : cx.perm 13 = false := rfl
@[simp] theorem pu13 : cx.pureF 13 = false := rfl
@[simp] theorem fz13 : cx.fzr 13 = true := rfl
@[simp] theorem br14 : cx.byRef 14 = false := rfl
@[simp] theorem pm14 : cx.perm 14 = false := rfl
@[simp] theorem pu14 : cx.pureF 14 = false := rfl
@[simp] theorem fz14 : cx.fzr 14 = true := rfl
@[simp] theorem br15 : cx.byRef 15 = false := rfl
@[simp] theorem pm15 : cx.perm 15 = false := rfl
@[simp] theorem pu15 : cx.pureF 15 = false := rfl
@[simp] theorem fz15 : cx.fzr 15 = true := rfl
@[simp] theorem br16 : cx.byRef 16 = false := rfl
@[simp] theorem pm16 : cx.perm 16 = false := rfl
@[simp] theorem pu16 : cx.pureF 16 = false := rfl
@[simp] theorem fz16 : cx.fzr 16 = true := rfl
@[simp] theorem br17 : cx.byRef 17 = false := rfl
@[simp] theorem pm17 : cx.perm 17 = false := rfl
@[simp] theorem pu17 : cx.pureF 17 = false := rfl
@[simp] theorem fz17 : cx.fzr 17 = true := rfl
@[simp] theorem br18 : cx.byRef 18 = false := rfl
@[simp] theorem pm18 : cx.perm 18 = true := rfl
@[simp] theorem pu18 : cx.pureF 18 = false := rfl
@[simp] theorem fz18 : cx.fzr 18 = true := rfl
@[simp] theorem br19 : cx.byRef 19 = false := rfl
@[simp] theorem pm19 : cx.perm 19 = false := rfl
@[simp] theorem pu19 : cx.pureF 19 = false := rfl
@[simp] theorem fz19 : cx.fzr 19 = false := rfl
@[simp] theorem br20 : cx.byRef 20 = false := rfl
@[simp] theorem pm20 : cx.perm 20 = false := rfl
@[simp] theorem pu20 : cx.pureF 20 = false := rfl
@[simp] theorem fz20 : cx.fzr 20 = true := rfl
@[simp] theorem br21 : cx.byRef 21 = false := rfl
@[simp] theorem pm21 : cx.perm 21 = false := rfl
@[simp] theorem pu21 : cx.pureF 21 = false := rfl
@[simp] theorem fz21 : cx.fzr 21 = true := rfl
@[simp] theorem br22 : cx.byRef 22 = false := rfl
@[simp] theorem pm22 : cx.perm 22 = false := rfl
@[simp] theorem pu22 : cx.pureF 22 = false := rfl
@[simp] theorem fz22 : cx.fzr 22 = true := rfl
@[simp] theorem br23 : cx.byRef 23 = false := rfl
@[simp] theorem pm23 : cx.perm 23 = false := rfl
@[simp] theorem pu23 : cx.pureF 23 = false := rfl
@[simp] theorem fz23 : cx.fzr 23 = true := rfl
@[simp] theorem br24 : cx.byRef 24 = false := rfl
@[simp] theorem pm24 : cx.perm 24 = false := rfl
@[simp] theorem pu24 : cx.pureF 24 = false := rfl
@[simp] theorem fz24 : cx.fzr 24 = true := rfl
@[simp] theorem br25 : cx.byRef 25 = false := rfl
@[simp] theorem pm25 : cx.perm 25 = true := rfl
@[simp] theorem pu25 : cx.pureF 25 = false := rfl
@[simp] theorem fz25 : cx.fzr 25 = true := rfl
@[simp] theorem br26 : cx.byRef 26 = false := rfl
@[simp] theorem pm26 : cx.perm 26 = false := rfl
@[simp] theorem pu26 : cx.pureF 26 = false := rfl
@[simp] theorem fz26 : cx.fzr 26 = true := rfl
@[simp] theorem br27 : cx.byRef 27 = false := rfl
@[simp] theorem pm27 : cx.perm 27 = false := rfl
@[simp] theorem pu27 : cx.pureF 27 = false := rfl
@[simp] theorem fz27 : cx.fzr 27 = true := rfl
@[simp] theorem br28 : cx.byRef 28 = false := rfl
@[simp] theorem pm28 : cx.perm 28 = false := rfl
@[simp] theorem pu28 : cx.pureF 28 = false := rfl
@[simp] theorem fz28 : cx.fzr 28 = true := rfl
@[simp] theorem br29 : cx.byRef 29 = false := rfl
@[simp] theorem pm29 : cx.perm 29 = false := rfl
@[simp] theorem pu29 : cx.pureF 29 = false := rfl
@[simp] theorem fz29 : cx.fzr 29 = true := rfl
@[simp] theorem br30 : cx.byRef 30 = false := rfl
@[simp] theorem pm30 : cx.perm 30 = false := rfl
@[simp] theorem pu30 : cx.pureF 30 = false := rfl
@[simp] theorem fz30 : cx.fzr 30 = true := rfl
@[simp] theorem br31 : cx.byRef 31 = false := rfl
@[simp] theorem pm31 : cx.perm 31 = false := rfl
@[simp] theorem pu31 : cx.pureF 31 = false := rfl
@[simp] theorem fz31 : cx.fzr 31 = true := rfl
@[simp] theorem br32 : cx.byRef 32 = false := rfl
@[simp] theorem pm32 : cx.perm 32 = false := rfl
@[simp] theorem pu32 : cx.pureF 32 = false := rfl
@[simp] theorem fz32 : cx.fzr 32 = true := rfl
@[simp] theorem br33 : cx.byRef 33 = false := rfl
@[simp] theorem pm33 : cx.perm 33 = false := rfl
@[simp] theorem pu33 : cx.pureF 33 = false := rfl
@[simp] theorem fz33 : cx.fzr 33 = true := rfl
@[simp] theorem br34 : cx.byRef 34 = false := rfl
@[simp] theorem pm34 : cx.perm 34 = false := rfl
@[simp] theorem pu34 : cx.pureF 34 = false := rfl
@[simp] theorem fz34 : cx.fzr 34 = true := rfl
@[simp] theorem br35 : cx.byRef 35 = true := rfl
@[simp] theorem pm35 : cx.perm 35 = false := rfl
@[simp] theorem pu35 : cx.pureF 35 = false := rfl
@[simp] theorem fz35 : cx.fzr 35 = true := rfl
@[simp] theorem br36 : cx.byRef 36 = false := rfl
@[simp] theorem pm36 : cx.perm 36 = false := rfl
@[simp] theorem pu36 : cx.pureF 36 = false := rfl
@[simp] theorem fz36 : cx.fzr 36 = false := rfl
@[simp] theorem br37 : cx.byRef 37 = false := rfl
@[simp] theorem pm37 : cx.perm 37 = false := rfl
@[simp] theorem pu37 : cx.pureF 37 = false := rfl
@[simp] theorem fz37 : cx.fzr 37 = true := rfl
@[simp] theorem br38 : cx.byRef 38 = false := rfl
@[simp] theorem pm38 : cx.perm 38 = false := rfl
@[simp] theorem pu38 : cx.pureF 38 = false := rfl
@[simp] theorem fz38 : cx.fzr 38 = true := rfl
@[simp] theorem br39 : cx.byRef 39 = false := rfl
@[simp] theorem pm39 : cx.perm 39 = false := rfl
@[simp] theorem pu39 : cx.pureF 39 = false := rfl
@[simp] theorem fz39 : cx.fzr 39 = false := rfl
@[simp] theorem br40 : cx.byRef 40 = false := rfl
@[simp] theorem pm40 : cx.perm 40 = false := rfl
@[simp] theorem pu40 : cx.pureF 40 = true := rfl
@[simp] theorem fz40 : cx.fzr 40 = true := rfl
@[simp] theorem br41 : cx.byRef 41 = false := rfl
@[simp] theorem pm41 : cx.perm 41 = false := rfl
@[simp] theorem pu41 : cx.pureF 41 = false := rfl
@[simp] theorem fz41 : cx.fzr 41 = true := rfl
@[simp] theorem br42 : cx.byRef 42 = false := rfl
@[simp] theorem pm42 : cx.perm 42 = false := rfl
@[simp] theorem pu42 : cx.pureF 42 = false := rfl
@[simp] theorem fz42 : cx.fzr 42 = true := rfl
@[simp] theorem br43 : cx.byRef 43 = false := rfl
@[simp] theorem pm43 : cx.perm 43 = false := rfl
@[simp] theorem pu43 : cx.pureF 43 = false := rfl
@[simp] theorem fz43 : cx.fzr 43 = true := rfl
@[simp] theorem br44 : cx.byRef 44 = false := rfl
@[simp] theorem pm44 : cx.perm 44 = false := rfl
@[simp] theorem pu44 : cx.pureF 44 = false := rfl
@[simp] theorem fz44 : cx.fzr 44 = true := rfl
@[simp] theorem br45 : cx.byRef 45 = true := rfl
@[simp] theorem pm45 : cx.perm 45 = false := rfl
@[simp] theorem pu45 : cx.pureF 45 = false := rfl
@[simp] theorem fz45 : cx.fzr 45 = true := rfl
@[simp] theorem br46 : cx.byRef 46 = false := rfl
@[simp] theorem pm46 : cx.perm 46 = false := rfl
@[simp] theorem pu46 : cx.pureF 46 = false := rfl
@[simp] theorem fz46 : cx.fzr 46 = true := rfl
@[simp] theorem br47 : cx.byRef 47 = false := rfl
@[simp] theorem pm47 : cx.perm 47 = false := rfl
@[simp] theorem pu47 : cx.pureF 47 = false := rfl
@[simp] theorem fz47 : cx.fzr 47 = true := rfl
@[simp] theorem br48 : cx.byRef 48 = false := rfl
@[simp] theorem pm48 : cx.perm 48 = false := rfl
@[simp] theorem pu48 : cx.pureF 48 = false := rfl
@[simp] theorem fz48 : cx.fzr 48 = true := rfl
@[simp] theorem br49 : cx.byRef 49 = false := rfl
@[simp] theorem pm49 : cx.perm 49 = false := rfl
@[simp] theorem pu49 : cx.pureF 49 = false := rfl
@[simp] theorem br50 : cx.byRef 50 = false := rfl
@[simp] theorem pm50 : cx.perm 50 = false := rfl
@[simp] theorem pu50 : cx.pureF 50 = false := rfl
@[simp] theorem fz50 : cx.fzr 50 = false := rfl
@[simp] theorem br51 : cx.byRef 51 = false := rfl
@[simp] theorem pm51 : cx.perm 51 = false := rfl
@[simp] theorem pu51 : cx.pureF 51 = true := rfl
@[simp] theorem fz51 : cx.fzr 51 = true := rfl
@[simp] theorem br52 : cx.byRef 52 = false := rfl
@[simp] theorem pm52 : cx.perm 52 = false := rfl
@[simp] theorem pu52 : cx.pureF 52 = false := rfl
@[simp] theorem fz52 : cx.fzr 52 = true := rfl
@[simp] theorem br53 : cx.byRef 53 = false := rfl
@[simp] theorem pm53 : cx.perm 53 = false := rfl
@[simp] theorem pu53 : cx.pureF 53 = false := rfl
@[simp] theorem fz53 : cx.fzr 53 = true := rfl
@[simp] theorem br54 : cx.byRef 54 = true := rfl
@[simp] theorem pm54 : cx.perm 54 = false := rfl
@[simp] theorem pu54 : cx.pureF 54 = false := rfl
@[simp] theorem fz54 : cx.fzr 54 = true := rfl
@[simp] theorem br55 : cx.byRef 55 = false := rfl
@[simp] theorem pm55 : cx.perm 55 = false := rfl
@[simp] theorem pu55 : cx.pureF 55 = false := rfl
@[simp] theorem fz55 : cx.fzr 55 = true := rfl
@[simp] theorem br56 : cx.byRef 56 = true := rfl
@[simp] theorem pm56 : cx.perm 56 = false := rfl
@[simp] theorem pu56 : cx.pureF 56 = false := rfl
@[simp] theorem fz56 : cx.fzr 56 = true := rfl
@[simp] theorem br57 : cx.byRef 57 = false := rfl
@[simp] theorem pm57 : cx.perm 57 = false := rfl
@[simp] theorem pu57 : cx.pureF 57 = false := rfl
@[simp] theorem fz57 : cx.fzr 57 = true := rfl
@[simp] theorem br58 : cx.byRef 58 = false := rfl
@[simp] theorem pm58 : cx.perm 58 = false := rfl
@[simp] theorem pu58 : cx.pureF 58 = false := rfl
@[simp] theorem fz58 : cx.fzr 58 = true := rfl
@[simp] theorem br59 : cx.byRef 59 = false := rfl
@[simp] theorem pm59 : cx.perm 59 = false := rfl
@[simp] theorem pu59 : cx.pureF 59 = false := rfl
@[simp] theorem fz59 : cx.fzr 59 = true := rfl
@[simp] theorem br60 : cx.byRef 60 = false := rfl
@[simp] theorem pm60 : cx.perm 60 = false := rfl
@[simp] theorem pu60 : cx.pureF 60 = false := rfl
@[simp] theorem fz60 : cx.fzr 60 = true := rfl
@[simp] theorem br61 : cx.byRef 61 = false := rfl
@[simp] theorem pm61 : cx.perm 61 = false := rfl
@[simp] theorem pu61 : cx.pureF 61 = false := rfl
@[simp] theorem fz61 : cx.fzr 61 = true := rfl
@[simp] theorem br62 : cx.byRef 62 = false := rfl
@[simp] theorem pm62 : cx.perm 62 = false := rfl
@[simp] theorem pu62 : cx.pureF 62 = false := rfl
@[simp] theorem fz62 : cx.fzr 62 = true := rfl
@[simp] theorem br63 : cx.byRef 63 = false := rfl
@[simp] theorem pm63 : cx.perm 63 = false := rfl
@[simp] theorem pu63 : cx.pureF 63 = false := rfl
@[simp] theorem fz63 : cx.fzr 63 = true := rfl
@[simp] theorem br64 : cx.byRef 64 = false := rfl
@[simp] theorem pm64 : cx.perm 64 = false := rfl
@[simp] theorem pu64 : cx.pureF 64 = false := rfl
@[simp] theorem fz64 : cx.fzr 64 = true := rfl
@[simp] theorem br65 : cx.byRef 65 = false := rfl
@[simp] theorem pm65 : cx.perm 65 = false := rfl
@[simp] theorem pu65 : cx.pureF 65 = false := rfl
@[simp] theorem fz65 : cx.fzr 65 = true := rfl
@[simp] theorem br66 : cx.byRef 66 = false := rfl
@[simp] theorem pm66 : cx.perm 66 = false := rfl
@[simp] theorem pu66 : cx.pureF 66 = false := rfl
@[simp] theorem fz66 : cx.fzr 66 = true := rfl
@[simp] theorem br67 : cx.byRef 67 = false := rfl
@[simp] theorem pm67 : cx.perm 67 = false := rfl
@[simp] theorem pu67 : cx.pureF 67 = false := rfl
@[simp] theorem fz67 : cx.fzr 67 = true := rfl
@[simp] theorem br68 : cx.byRef 68 = false := rfl
@[simp] theorem pm68 : cx.perm 68 = false := rfl
@[simp] theorem pu68 : cx.pureF 68 = false := rfl
@[simp] theorem fz68 : cx.fzr 68 = true := rfl
@[simp] theorem br69 : cx.byRef 69 = false := rfl
@[simp] theorem pm69 : cx.perm 69 = false := rfl
@[simp] theorem pu69 : cx.pureF 69 = false := rfl
@[simp] theorem fz69 : cx.fzr 69 = true := rfl
@[simp] theorem br70 : cx.byRef 70 = false := rfl
@[simp] theorem pm70 : cx.perm 70 = false := rfl
@[simp] theorem pu70 : cx.pureF 70 = false := rfl
@[simp] theorem fz70 : cx.fzr 70 = true := rfl
@[simp] theorem br71 : cx.byRef 71 = false := rfl
@[simp] theorem pm71 : cx.perm 71 = false := rfl
@[simp] theorem pu71 : cx.pureF 71 = false := rfl
@[simp] theorem fz71 : cx.fzr 71 = true := rfl
theorem ex49 (args : List D) : cx.ext 49 args = cmpExt args := rfl
end Go.Ev.S
/- What the evaluator needs of this program: printed by program. -/
namespace Go.Ev.S
open Go Go.Proofs Go.Ev
@[simp] theorem en2_0 (n0 : Nat) (e : Env) (H : Heap) : enter cx 2 n0 0 e H = enterK [] 0 n0 e H := rfl
@[simp] theorem en3_0 (n0 : Nat) (e : Env) (H : Heap) : enter cx 3 n0 0 e H = enterK [0, 1] 0 n0 e H := rfl
@[simp] theorem en3_1 (n0 : Nat) (e : Env) (H : Heap) : enter cx 3 n0 1 e H = enterK [0, 1] 0 n0 e H := rfl
@[simp] theorem en3_2 (n0 : Nat) (e : Env) (H : Heap) : enter cx 3 n0 2 e H = enterK [0, 1, 5] 0 n0 e H := rfl
@[simp] theorem en3_3 (n0 : Nat) (e : Env) (H : Heap) : enter cx 3 n0 3 e H = enterK [] 0 n0 e H := rfl
@[simp] theorem en3_4 (n0 : Nat) (e : Env) (H : Heap) : enter cx 3 n0 4 e H = enterK [0, 1, 5] 0 n0 e H := rfl
@[simp] theorem en3_5 (n0 : Nat) (e : Env) (H : Heap) : enter cx 3 n0 5 e H = enterK [5] 0 n0 e H := rfl
@[simp] theorem en3_6 (n0 : Nat) (e : Env) (H : Heap) : enter cx 3 n0 6 e H = enterK [0, 1, 5] 0 n0 e H := rfl
@[simp] theorem en3_7 (n0 : Nat) (e : Env) (H : Heap) : enter cx 3 n0 7 e H = enterK [0, 1, 5, 6] 0 n0 e H := rfl
@[simp] theorem en3_8 (n0 : Nat) (e : Env) (H : Heap) : enter cx 3 n0 8 e H = enterK [0, 1, 5, 6, 7, 8, 9] 0 n0 e H := rfl
@[simp] theorem en3_9 (n0 : Nat) (e : Env) (H : Heap) : enter cx 3 n0 9 e H = enterK [0, 1, 5, 6, 7, 8, 9, 10] 0 n0 e H := rfl
@[simp] theorem en3_10 (n0 : Nat) (e : Env) (H : Heap) : enter cx 3 n0 10 e H = enterK [0, 1, 5, 6, 7, 8, 9, 10, 11] 0 n0 e H := rfl
@[simp] theorem en3_11 (n0 : Nat) (e : Env) (H : Heap) : enter cx 3 n0 11 e H = enterK [0, 1, 5, 6, 7, 8, 9, 10, 11] 0 n0 e H := rfl
@[simp] theorem en3_12 (n0 : Nat) (e : Env) (H : Heap) : enter cx 3 n0 12 e H = enterK [0, 1, 5, 6, 7, 8, 9, 10, 11] 0 n0 e H := rfl
@[simp] theorem en3_13 (n0 : Nat) (e : Env) (H : Heap) : enter cx 3 n0 13 e H = enterK [0, 1, 5, 6, 7, 8, 9, 10, 11, 12] 0 n0 e H := rfl
@[simp] theorem en3_14 (n0 : Nat) (e : Env) (H : Heap) : enter cx 3 n0 14 e H = enterK [0, 1, 5, 6, 7, 8, 9, 10, 11, 12, 13] 0 n0 e H := rfl
@[simp] theorem en3_15 (n0 : Nat) (e : Env) (H : Heap) : enter cx 3 n0 15 e H = enterK [0, 1, 5, 6, 7, 8, 9, 10, 11, 12, 13, 14] 0 n0 e H := rfl
@[simp] theorem en3_16 (n0 : Nat) (e : Env) (H : Heap) : enter cx 3 n0 16 e H = enterK [0, 1, 5, 6, 7, 8, 9, 10, 11, 12, 13, 14] 0 n0 e H := rfl
@[simp] theorem en3_17 (n0 : Nat) (e : Env) (H : Heap) : enter cx 3 n0 17 e H = enterK [0, 1, 5, 6, 7, 8, 9, 10, 11, 12, 13, 14] 0 n0 e H := rfl
@[simp] theorem en3_18 (n0 : Nat) (e : Env) (H : Heap) : enter cx 3 n0 18 e H = enterK [0, 1, 5, 6, 7, 8, 9, 10, 11, 12, 13, 14] 0 n0 e H := rfl
@[simp] theorem en3_19 (n0 : Nat) (e : Env) (H : Heap) : enter cx 3 n0 19 e H = enterK [0, 1, 5, 6, 7, 8, 9, 10, 11, 12, 13, 14] 0 n0 e H := rfl
@[simp] theorem en3_20 (n0 : Nat) (e : Env) (H : Heap) : enter cx 3 n0 20 e H = enterK [0, 1, 5, 6, 7, 8, 9, 10, 11, 12, 13, 14] 0 n0 e H := rfl
@[simp] theorem en3_21 (n0 : Nat) (e : Env) (H : Heap) : enter cx 3 n0 21 e H = enterK [0, 1, 5, 7, 8, 9, 10, 11, 12, 15, 16] 0 n0 e H := rfl
@[simp] theorem en3_22 (n0 : Nat) (e : Env) (H : Heap) : enter cx 3 n0 22 e H = enterK [] 0 n0 e H := rfl
@[simp] theorem en3_23 (n0 : Nat) (e : Env) (H : Heap) : enter cx 3 n0 23 e H = enterK [0, 1, 5, 7, 8, 9, 10, 11, 12, 15] 0 n0 e H := rfl
@[simp] theorem en3_24 (n0 : Nat) (e : Env) (H : Heap) : enter cx 3 n0 24 e H = enterK [0, 1, 5, 6, 7, 8, 9, 10, 11] 0 n0 e H := rfl
@[simp] theorem en3_25 (n0 : Nat) (e : Env) (H : Heap) : enter cx 3 n0 25 e H = enterK [0, 1, 5, 6, 7, 8, 9, 10, 11, 17] 0 n0 e H := rfl
@[simp] theorem en3_26 (n0 : Nat) (e : Env) (H : Heap) : enter cx 3 n0 26 e H = enterK [0, 1, 5, 6, 7, 8, 9, 10, 11, 19] 0 n0 e H := rfl
@[simp] theorem en3_27 (n0 : Nat) (e : Env) (H : Heap) : enter cx 3 n0 27 e H = enterK [] 0 n0 e H := rfl
@[simp] theorem en3_28 (n0 : Nat) (e : Env) (H : Heap) : enter cx 3 n0 28 e H = enterK [0, 1, 5, 6, 7, 8, 9, 10, 11] 0 n0 e H := rfl
@[simp] theorem en3_29 (n0 : Nat) (e : Env) (H : Heap) : enter cx 3 n0 29 e H = enterK [0, 1, 5, 6, 7, 8, 9, 10, 11, 20] 0 n0 e H := rfl
@[simp] theorem en3_30 (n0 : Nat) (e : Env) (H : Heap) : enter cx 3 n0 30 e H = enterK [] 0 n0 e H := rfl
@[simp] theorem en3_31 (n0 : Nat) (e : Env) (H : Heap) : enter cx 3 n0 31 e H = enterK [5, 6] 0 n0 e H := rfl
@[simp] theorem en4_0 (n0 : Nat) (e : Env) (H : Heap) : enter cx 4 n0 0 e H = enterK [0, 1] 0 n0 e H := rfl
@[simp] theorem en4_1 (n0 : Nat) (e : Env) (H : Heap) : enter cx 4 n0 1 e H = enterK [0, 1] 0 n0 e H := rfl
@[simp] theorem en4_2 (n0 : Nat) (e : Env) (H : Heap) : enter cx 4 n0 2 e H = enterK [0, 1, 5] 0 n0 e H := rfl
@[simp] theorem en4_3 (n0 : Nat) (e : Env) (H : Heap) : enter cx 4 n0 3 e H = enterK [] 0 n0 e H := rfl
@[simp] theorem en4_4 (n0 : Nat) (e : Env) (H : Heap) : enter cx 4 n0 4 e H = enterK [0, 1, 5] 0 n0 e H := rfl
@[simp] theorem en4_5 (n0 : Nat) (e : Env) (H : Heap) : enter cx 4 n0 5 e H = enterK [5, 6, 7] 0 n0 e H := rfl
@[simp] theorem en4_6 (n0 : Nat) (e : Env) (H : Heap) : enter cx 4 n0 6 e H = enterK [5, 6, 7, 8, 9] 0 n0 e H := rfl
@[simp] theorem en4_7 (n0 : Nat) (e : Env) (H : Heap) : enter cx 4 n0 7 e H = enterK [5, 6, 7, 8, 9, 10, 11] 0 n0 e H := rfl
@[simp] theorem en4_8 (n0 : Nat) (e : Env) (H : Heap) : enter cx 4 n0 8 e H = enterK [] 0 n0 e H := rfl
@[simp] theorem en4_9 (n0 : Nat) (e : Env) (H : Heap) : enter cx 4 n0 9 e H = enterK [5, 6, 7, 8] 0 n0 e H := rfl
@[simp] theorem en4_10 (n0 : Nat) (e : Env) (H : Heap) : enter cx 4 n0 10 e H = enterK [5, 6, 7, 8, 12] 0 n0 e H := rfl
@[simp] theorem en4_11 (n0 : Nat) (e : Env) (H : Heap) : enter cx 4 n0 11 e H = enterK [5, 6, 7, 8, 12] 0 n0 e H := rfl
@[simp] theorem en4_12 (n0 : Nat) (e : Env) (H : Heap) : enter cx 4 n0 12 e H = enterK [5, 6, 7, 8, 12] 0 n0 e H := rfl
@[simp] theorem en4_13 (n0 : Nat) (e : Env) (H : Heap) : enter cx 4 n0 13 e H = enterK [] 0 n0 e H := rfl
@[simp] theorem en4_14 (n0 : Nat) (e : Env) (H : Heap) : enter cx 4 n0 14 e H = enterK [5, 6] 0 n0 e H := rfl
@[simp] theorem en4_15 (n0 : Nat) (e : Env) (H : Heap) : enter cx 4 n0 15 e H = enterK [5, 6, 13, 14] 0 n0 e H := rfl
@[simp] theorem en5_0 (n0 : Nat) (e : Env) (H : Heap) : enter cx 5 n0 0 e H = enterK [0, 1, 2] 0 n0 e H := rfl
@[simp] theorem en5_1 (n0 : Nat) (e : Env) (H : Heap) : enter cx 5 n0 1 e H = enterK [0, 1, 2] 0 n0 e H := rfl
@[simp] theorem en5_2 (n0 : Nat) (e : Env) (H : Heap) : enter cx 5 n0 2 e H = enterK [0, 1, 2, 7] 0 n0 e H := rfl
@[simp] theorem en5_3 (n0 : Nat) (e : Env) (H : Heap) : enter cx 5 n0 3 e H = enterK [] 0 n0 e H := rfl
@[simp] theorem en5_4 (n0 : Nat) (e : Env) (H : Heap) : enter cx 5 n0 4 e H = enterK [0, 1, 2, 7] 0 n0 e H := rfl
@[simp] theorem en5_5 (n0 : Nat) (e : Env) (H : Heap) : enter cx 5 n0 5 e H = enterK [7] 0 n0 e H := rfl
@[simp] theorem en5_6 (n0 : Nat) (e : Env) (H : Heap) : enter cx 5 n0 6 e H = enterK [0, 1, 2, 7] 0 n0 e H := rfl
@[simp] theorem en5_7 (n0 : Nat) (e : Env) (H : Heap) : enter cx 5 n0 7 e H = enterK [1, 2, 7, 8] 0 n0 e H := rfl
@[simp] theorem en5_8 (n0 : Nat) (e : Env) (H : Heap) : enter cx 5 n0 8 e H = enterK [1, 2, 7, 8, 9] 0 n0 e H := rfl
@[simp] theorem en5_9 (n0 : Nat) (e : Env) (H : Heap) : enter cx 5 n0 9 e H = enterK [] 0 n0 e H := rfl
@[simp] theorem en5_10 (n0 : Nat) (e : Env) (H : Heap) : enter cx 5 n0 10 e H = enterK [1, 2, 7, 8, 9] 0 n0 e H := rfl
@[simp] theorem en5_11 (n0 : Nat) (e : Env) (H : Heap) : enter cx 5 n0 11 e H = enterK [2, 7, 8, 9, 10, 11, 12] 0 n0 e H := rfl
@[simp] theorem en5_12 (n0 : Nat) (e : Env) (H : Heap) : enter cx 5 n0 12 e H = enterK [7, 8, 9, 10, 11, 12, 15] 0 n0 e H := rfl
@[simp] theorem en6_0 (n0 : Nat) (e : Env) (H : Heap) : enter cx 6 n0 0 e H = enterK [0, 1, 2, 3, 4, 5] 0 n0 e H := rfl
@[simp] theorem en6_1 (n0 : Nat) (e : Env) (H : Heap) : enter cx 6 n0 1 e H = enterK [0, 1, 4, 5, 8, 9] 0 n0 e H := rfl
@[simp] theorem en6_2 (n0 : Nat) (e : Env) (H : Heap) : enter cx 6 n0 2 e H = enterK [0, 1, 4, 5, 8, 9, 13] 0 n0 e H := rfl
@[simp] theorem en6_3 (n0 : Nat) (e : Env) (H : Heap) : enter cx 6 n0 3 e H = enterK [] 0 n0 e H := rfl
@[simp] theorem en6_4 (n0 : Nat) (e : Env) (H : Heap) : enter cx 6 n0 4 e H = enterK [0, 1, 4, 5, 8, 9, 13] 0 n0 e H := rfl
@[simp] theorem en6_5 (n0 : Nat) (e : Env) (H : Heap) : enter cx 6 n0 5 e H = enterK [13] 0 n0 e H := rfl
@[simp] theorem en6_6 (n0 : Nat) (e : Env) (H : Heap) : enter cx 6 n0 6 e H = enterK [0, 1, 4, 5, 8, 9, 13] 0 n0 e H := rfl
@[simp] theorem en6_7 (n0 : Nat) (e : Env) (H : Heap) : enter cx 6 n0 7 e H = enterK [0, 1, 4, 5, 8, 9, 13, 14] 0 n0 e H := rfl
@[simp] theorem en6_8 (n0 : Nat) (e : Env) (H : Heap) : enter cx 6 n0 8 e H = enterK [0, 1, 4, 5, 8, 9, 13, 14, 16, 17] 0 n0 e H := rfl
@[simp] theorem en6_9 (n0 : Nat) (e : Env) (H : Heap) : enter cx 6 n0 9 e H = enterK [0, 1, 4, 5, 8, 9, 13, 14, 16, 17, 18, 19] 0 n0 e H := rfl
@[simp] theorem en6_10 (n0 : Nat) (e : Env) (H : Heap) : enter cx 6 n0 10 e H = enterK [0, 1, 4, 5, 8, 9, 13, 14, 16, 17, 18, 19, 20, 21] 0 n0 e H := rfl
@[simp] theorem en6_11 (n0 : Nat) (e : Env) (H : Heap) : enter cx 6 n0 11 e H = enterK [0, 1, 5, 8, 13, 14, 16, 17, 18, 19, 20, 21, 22, 23] 0 n0 e H := rfl
@[simp] theorem en6_12 (n0 : Nat) (e : Env) (H : Heap) : enter cx 6 n0 12 e H = enterK [0, 1, 5, 8, 13, 14, 16, 17, 18, 19, 20, 21, 22, 23, 24, 25] 0 n0 e H := rfl
@[simp] theorem en6_13 (n0 : Nat) (e : Env) (H : Heap) : enter cx 6 n0 13 e H = enterK [0, 1, 5, 8, 13, 14, 16, 17, 18, 19, 20, 21, 22, 23, 24, 25, 26, 27] 0 n0 e H := rfl
@[simp] theorem en6_14 (n0 : Nat) (e : Env) (H : Heap) : enter cx 6 n0 14 e H = enterK [0, 1, 5, 8, 13, 14, 16, 17, 18, 19, 20, 21, 22, 23, 24, 25, 26, 27, 28, 29, 30] 0 n0 e H := rfl
@[simp] theorem en6_15 (n0 : Nat) (e : Env) (H : Heap) : enter cx 6 n0 15 e H = enterK [0, 1, 8, 13, 14, 16, 17, 18, 19, 20, 21, 22, 23, 24, 25, 26, 27, 28, 29, 30, 31, 32, 33] 0 n0 e H := rfl
@[simp] theorem en6_16 (n0 : Nat) (e : Env) (H : Heap) : enter cx 6 n0 16 e H = enterK [0, 1, 8, 13, 14, 34] 0 n0 e H := rfl
@[simp] theorem en7_0 (n0 : Nat) (e : Env) (H : Heap) : enter cx 7 n0 0 e H = enterK [] 0 n0 e H := rfl
@[simp] theorem en7_1 (n0 : Nat) (e : Env) (H : Heap) : enter cx 7 n0 1 e H = enterK [] 0 n0 e H := rfl
@[simp] theorem en7_2 (n0 : Nat) (e : Env) (H : Heap) : enter cx 7 n0 2 e H = enterK [1, 2] 0 n0 e H := rfl
@[simp] theorem en8_0 (n0 : Nat) (e : Env) (H : Heap) : enter cx 8 n0 0 e H = enterK [0] 0 n0 e H := rfl
@[simp] theorem en8_1 (n0 : Nat) (e : Env) (H : Heap) : enter cx 8 n0 1 e H = enterK [0, 2] 0 n0 e H := rfl
@[simp] theorem en8_2 (n0 : Nat) (e : Env) (H : Heap) : enter cx 8 n0 2 e H = enterK [0, 2, 3] 0 n0 e H := rfl
@[simp] theorem en8_3 (n0 : Nat) (e : Env) (H : Heap) : enter cx 8 n0 3 e H = enterK [2, 3] 0 n0 e H := rfl
@[simp] theorem en9_0 (n0 : Nat) (e : Env) (H : Heap) : enter cx 9 n0 0 e H = enterK [0, 1] 0 n0 e H := rfl
@[simp] theorem en9_1 (n0 : Nat) (e : Env) (H : Heap) : enter cx 9 n0 1 e H = enterK [0, 1] 0 n0 e H := rfl
@[simp] theorem en9_2 (n0 : Nat) (e : Env) (H : Heap) : enter cx 9 n0 2 e H = enterK [] 0 n0 e H := rfl
@[simp] theorem en9_3 (n0 : Nat) (e : Env) (H : Heap) : enter cx 9 n0 3 e H = enterK [0, 1] 0 n0 e H := rfl
@[simp] theorem en10_0 (n0 : Nat) (e : Env) (H : Heap) : enter cx 10 n0 0 e H = enterK [0, 1, 2] 0 n0 e H := rfl
@[simp] theorem en10_1 (n0 : Nat) (e : Env) (H : Heap) : enter cx 10 n0 1 e H = enterK [0, 2, 4] 0 n0 e H := rfl
@[simp] theorem en10_2 (n0 : Nat) (e : Env) (H : Heap) : enter cx 10 n0 2 e H = enterK [0, 2, 4, 8] 0 n0 e H := rfl
@[simp] theorem en10_3 (n0 : Nat) (e : Env) (H : Heap) : enter cx 10 n0 3 e H = enterK [8] 0 n0 e H := rfl
@[simp] theorem en10_4 (n0 : Nat) (e : Env) (H : Heap) : enter cx 10 n0 4 e H = enterK [0, 2, 4] 0 n0 e H := rfl
@[simp] theorem en10_5 (n0 : Nat) (e : Env) (H : Heap) : enter cx 10 n0 5 e H = enterK [0, 2, 4, 9] 0 n0 e H := rfl
@[simp] theorem en10_6 (n0 : Nat) (e : Env) (H : Heap) : enter cx 10 n0 6 e H = enterK [0, 2, 9] 0 n0 e H := rfl
@[simp] theorem en10_7 (n0 : Nat) (e : Env) (H : Heap) : enter cx 10 n0 7 e H = enterK [0, 9] 0 n0 e H := rfl
@[simp] theorem en10_8 (n0 : Nat) (e : Env) (H : Heap) : enter cx 10 n0 8 e H = enterK [0, 2, 4, 9] 0 n0 e H := rfl
@[simp] theorem en10_9 (n0 : Nat) (e : Env) (H : Heap) : enter cx 10 n0 9 e H = enterK [0, 2, 4, 9] 0 n0 e H := rfl
@[simp] theorem en10_10 (n0 : Nat) (e : Env) (H : Heap) : enter cx 10 n0 10 e H = enterK [] 0 n0 e H := rfl
@[simp] theorem en10_11 (n0 : Nat) (e : Env) (H : Heap) : enter cx 10 n0 11 e H = enterK [0, 2, 4, 9] 0 n0 e H := rfl
@[simp] theorem en10_12 (n0 : Nat) (e : Env) (H : Heap) : enter cx 10 n0 12 e H = enterK [0, 4, 9] 0 n0 e H := rfl
@[simp] theorem en10_13 (n0 : Nat) (e : Env) (H : Heap) : enter cx 10 n0 13 e H = enterK [0, 9] 0 n0 e H := rfl
@[simp] theorem en11_0 (n0 : Nat) (e : Env) (H : Heap) : enter cx 11 n0 0 e H = enterK [0, 1] 0 n0 e H := rfl
@[simp] theorem en11_1 (n0 : Nat) (e : Env) (H : Heap) : enter cx 11 n0 1 e H = enterK [0, 3, 4] 0 n0 e H := rfl
@[simp] theorem en11_2 (n0 : Nat) (e : Env) (H : Heap) : enter cx 11 n0 2 e H = enterK [0, 3, 4, 5] 0 n0 e H := rfl
@[simp] theorem en11_3 (n0 : Nat) (e : Env) (H : Heap) : enter cx 11 n0 3 e H = enterK [0, 4, 5] 0 n0 e H := rfl
@[simp] theorem en11_4 (n0 : Nat) (e : Env) (H : Heap) : enter cx 11 n0 4 e H = enterK [3, 4] 0 n0 e H := rfl
@[simp] theorem en12_0 (n0 : Nat) (e : Env) (H : Heap) : enter cx 12 n0 0 e H = enterK [0] 0 n0 e H := rfl
@[simp] theorem en12_1 (n0 : Nat) (e : Env) (H : Heap) : enter cx 12 n0 1 e H = enterK [0] 0 n0 e H := rfl
@[simp] theorem en12_2 (n0 : Nat) (e : Env) (H : Heap) : enter cx 12 n0 2 e H = enterK [0, 3] 0 n0 e H := rfl
@[simp] theorem en12_3 (n0 : Nat) (e : Env) (H : Heap) : enter cx 12 n0 3 e H = enterK [0, 3, 4] 0 n0 e H := rfl
@[simp] theorem en12_4 (n0 : Nat) (e : Env) (H : Heap) : enter cx 12 n0 4 e H = enterR [] [3] [0, 4] n0 e H := rfl
@[simp] theorem en12_5 (n0 : Nat) (e : Env) (H : Heap) : enter cx 12 n0 5 e H = enterK [0, 3, 4] 0 n0 e H := rfl
@[simp] theorem en12_6 (n0 : Nat) (e : Env) (H : Heap) : enter cx 12 n0 6 e H = enterK [0, 3, 4] 0 n0 e H := rfl
@[simp] theorem en12_7 (n0 : Nat) (e : Env) (H : Heap) : enter cx 12 n0 7 e H = enterK [3] 0 n0 e H := rfl
@[simp] theorem en13_0 (n0 : Nat) (e : Env) (H : Heap) : enter cx 13 n0 0 e H = enterK [0, 1] 0 n0 e H := rfl
@[simp] theorem en13_1 (n0 : Nat) (e : Env) (H : Heap) : enter cx 13 n0 1 e H = enterK [0, 1] 0 n0 e H := rfl
@[simp] theorem en13_2 (n0 : Nat) (e : Env) (H : Heap) : enter cx 13 n0 2 e H = enterK [] 0 n0 e H := rfl
@[simp] theorem en13_3 (n0 : Nat) (e : Env) (H : Heap) : enter cx 13 n0 3 e H = enterK [0, 1] 0 n0 e H := rfl
@[simp] theorem en13_4 (n0 : Nat) (e : Env) (H : Heap) : enter cx 13 n0 4 e H = enterZ [6] [1, 6] 1 n0 e H := rfl
@[simp] theorem en13_5 (n0 : Nat) (e : Env) (H : Heap) : enter cx 13 n0 5 e H = enterK [6, 19, 20, 21] 0 n0 e H := rfl
@[simp] theorem en13_6 (n0 : Nat) (e : Env) (H : Heap) : enter cx 13 n0 6 e H = enterK [6, 19, 20, 21] 0 n0 e H := rfl
@[simp] theorem en13_7 (n0 : Nat) (e : Env) (H : Heap) : enter cx 13 n0 7 e H = enterK [6, 8, 19, 20, 21] 0 n0 e H := rfl
@[simp] theorem en13_8 (n0 : Nat) (e : Env) (H : Heap) : enter cx 13 n0 8 e H = enterK [6, 8, 19, 20, 21] 0 n0 e H := rfl
@[simp] theorem en13_9 (n0 : Nat) (e : Env) (H : Heap) : enter cx 13 n0 9 e H = enterK [6, 19, 20, 21] 1 n0 e H := rfl
@[simp] theorem en13_10 (n0 : Nat) (e : Env) (H : Heap) : enter cx 13 n0 10 e H = enterK [6] 0 n0 e H := rfl
@[simp] theorem en13_11 (n0 : Nat) (e : Env) (H : Heap) : enter cx 13 n0 11 e H = enterK [] 0 n0 e H := rfl
@[simp] theorem en13_12 (n0 : Nat) (e : Env) (H : Heap) : enter cx 13 n0 12 e H = enterK [6] 0 n0 e H := rfl
@[simp] theorem en14_0 (n0 : Nat) (e : Env) (H : Heap) : enter cx 14 n0 0 e H = enterK [0, 1] 0 n0 e H := rfl
@[simp] theorem en14_1 (n0 : Nat) (e : Env) (H : Heap) : enter cx 14 n0 1 e H = enterK [0, 1] 0 n0 e H := rfl
@[simp] theorem en14_2 (n0 : Nat) (e : Env) (H : Heap) : enter cx 14 n0 2 e H = enterK [1, 7, 8, 9] 0 n0 e H := rfl
@[simp] theorem en14_3 (n0 : Nat) (e : Env) (H : Heap) : enter cx 14 n0 3 e H = enterK [1, 7, 8, 9] 0 n0 e H := rfl
@[simp] theorem en14_4 (n0 : Nat) (e : Env) (H : Heap) : enter cx 14 n0 4 e H = enterK [1, 6, 7, 8, 9] 0 n0 e H := rfl
@[simp] theorem en14_5 (n0 : Nat) (e : Env) (H : Heap) : enter cx 14 n0 5 e H = enterK [] 0 n0 e H := rfl
@[simp] theorem en14_6 (n0 : Nat) (e : Env) (H : Heap) : enter cx 14 n0 6 e H = enterK [1, 7, 8, 9] 1 n0 e H := rfl
@[simp] theorem en14_7 (n0 : Nat) (e : Env) (H : Heap) : enter cx 14 n0 7 e H = enterK [] 0 n0 e H := rfl
@[simp] theorem en15_0 (n0 : Nat) (e : Env) (H : Heap) : enter cx 15 n0 0 e H = enterK [0] 0 n0 e H := rfl
@[simp] theorem en15_1 (n0 : Nat) (e : Env) (H : Heap) : enter cx 15 n0 1 e H = enterK [0] 0 n0 e H := rfl
@[simp] theorem en15_2 (n0 : Nat) (e : Env) (H : Heap) : enter cx 15 n0 2 e H = enterK [] 0 n0 e H := rfl
@[simp] theorem en15_3 (n0 : Nat) (e : Env) (H : Heap) : enter cx 15 n0 3 e H = enterK [0] 0 n0 e H := rfl
@[simp] theorem en15_4 (n0 : Nat) (e : Env) (H : Heap) : enter cx 15 n0 4 e H = enterK [0, 3] 0 n0 e H := rfl
@[simp] theorem en15_5 (n0 : Nat) (e : Env) (H : Heap) : enter cx 15 n0 5 e H = enterK [0, 3] 0 n0 e H := rfl
@[simp] theorem en15_6 (n0 : Nat) (e : Env) (H : Heap) : enter cx 15 n0 6 e H = enterK [0, 3] 0 n0 e H := rfl
@[simp] theorem en15_7 (n0 : Nat) (e : Env) (H : Heap) : enter cx 15 n0 7 e H = enterK [] 0 n0 e H := rfl
@[simp] theorem en15_8 (n0 : Nat) (e : Env) (H : Heap) : enter cx 15 n0 8 e H = enterK [] 0 n0 e H := rfl
@[simp] theorem en16_0 (n0 : Nat) (e : Env) (H : Heap) : enter cx 16 n0 0 e H = enterK [0, 1] 0 n0 e H := rfl
@[simp] theorem en16_1 (n0 : Nat) (e : Env) (H : Heap) : enter cx 16 n0 1 e H = enterK [0, 1] 0 n0 e H := rfl
@[simp] theorem en17_0 (n0 : Nat) (e : Env) (H : Heap) : enter cx 17 n0 0 e H = enterK [0] 0 n0 e H := rfl
@[simp] theorem en17_1 (n0 : Nat) (e : Env) (H : Heap) : enter cx 17 n0 1 e H = enterK [0] 0 n0 e H := rfl
@[simp] theorem en17_2 (n0 : Nat) (e : Env) (H : Heap) : enter cx 17 n0 2 e H = enterK [] 0 n0 e H := rfl
@[simp] theorem en17_3 (n0 : Nat) (e : Env) (H : Heap) : enter cx 17 n0 3 e H = enterK [0] 0 n0 e H := rfl
@[simp] theorem en17_4 (n0 : Nat) (e : Env) (H : Heap) : enter cx 17 n0 4 e H = enterK [0, 3] 0 n0 e H := rfl
@[simp] theorem en17_5 (n0 : Nat) (e : Env) (H : Heap) : enter cx 17 n0 5 e H = enterK [3, 15, 16, 17] 0 n0 e H := rfl
@[simp] theorem en17_6 (n0 : Nat) (e : Env) (H : Heap) : enter cx 17 n0 6 e H = enterK [3, 15, 16, 17] 0 n0 e H := rfl
@[simp] theorem en17_7 (n0 : Nat) (e : Env) (H : Heap) : enter cx 17 n0 7 e H = enterK [3, 5, 15, 16, 17] 0 n0 e H := rfl
@[simp] theorem en17_8 (n0 : Nat) (e : Env) (H : Heap) : enter cx 17 n0 8 e H = enterK [3, 5, 15, 16, 17] 0 n0 e H := rfl
@[simp] theorem en17_9 (n0 : Nat) (e : Env) (H : Heap) : enter cx 17 n0 9 e H = enterR [31] [3] [15, 16, 17, 31, 32, 33] n0 e H := rfl
@[simp] theorem en17_10 (n0 : Nat) (e : Env) (H : Heap) : enter cx 17 n0 10 e H = enterK [3, 15, 16, 17, 31, 32, 33] 0 n0 e H := rfl
@[simp] theorem en17_11 (n0 : Nat) (e : Env) (H : Heap) : enter cx 17 n0 11 e H = enterK [3, 7, 15, 16, 17, 31, 32, 33] 0 n0 e H := rfl
@[simp] theorem en17_12 (n0 : Nat) (e : Env) (H : Heap) : enter cx 17 n0 12 e H = enterR [] [3] [15, 16, 17, 31, 32, 33] n0 e H := rfl
@[simp] theorem en17_13 (n0 : Nat) (e : Env) (H : Heap) : enter cx 17 n0 13 e H = enterR [] [3] [15, 16, 17] n0 e H := rfl
@[simp] theorem en17_14 (n0 : Nat) (e : Env) (H : Heap) : enter cx 17 n0 14 e H = enterK [3] 0 n0 e H := rfl
@[simp] theorem en18_0 (n0 : Nat) (e : Env) (H : Heap) : enter cx 18 n0 0 e H = enterK [0] 0 n0 e H := rfl
@[simp] theorem en18_1 (n0 : Nat) (e : Env) (H : Heap) : enter cx 18 n0 1 e H = enterK [0] 0 n0 e H := rfl
@[simp] theorem en18_2 (n0 : Nat) (e : Env) (H : Heap) : enter cx 18 n0 2 e H = enterK [] 0 n0 e H := rfl
@[simp] theorem en18_3 (n0 : Nat) (e : Env) (H : Heap) : enter cx 18 n0 3 e H = enterK [0] 0 n0 e H := rfl
@[simp] theorem en18_4 (n0 : Nat) (e : Env) (H : Heap) : enter cx 18 n0 4 e H = enterK [] 0 n0 e H := rfl
@[simp] theorem en18_5 (n0 : Nat) (e : Env) (H : Heap) : enter cx 18 n0 5 e H = enterK [0] 0 n0 e H := rfl
@[simp] theorem en18_6 (n0 : Nat) (e : Env) (H : Heap) : enter cx 18 n0 6 e H = enterK [0, 5] 0 n0 e H := rfl
@[simp] theorem en18_7 (n0 : Nat) (e : Env) (H : Heap) : enter cx 18 n0 7 e H = enterK [0, 5, 21, 22] 0 n0 e H := rfl
@[simp] theorem en18_8 (n0 : Nat) (e : Env) (H : Heap) : enter cx 18 n0 8 e H = enterK [0, 5, 21, 22] 0 n0 e H := rfl
@[simp] theorem en18_9 (n0 : Nat) (e : Env) (H : Heap) : enter cx 18 n0 9 e H = enterK [0, 5, 6, 21, 22] 0 n0 e H := rfl
@[simp] theorem en18_10 (n0 : Nat) (e : Env) (H : Heap) : enter cx 18 n0 10 e H = enterK [0, 5, 6, 7, 21, 22] 0 n0 e H := rfl
@[simp] theorem en18_11 (n0 : Nat) (e : Env) (H : Heap) : enter cx 18 n0 11 e H = enterK [0, 5, 6, 7, 8, 21, 22] 0 n0 e H := rfl
@[simp] theorem en18_12 (n0 : Nat) (e : Env) (H : Heap) : enter cx 18 n0 12 e H = enterK [] 0 n0 e H := rfl
@[simp] theorem en18_13 (n0 : Nat) (e : Env) (H : Heap) : enter cx 18 n0 13 e H = enterK [0, 5, 6, 7, 8, 21, 22] 0 n0 e H := rfl
@[simp] theorem en18_14 (n0 : Nat) (e : Env) (H : Heap) : enter cx 18 n0 14 e H = enterK [] 0 n0 e H := rfl
@[simp] theorem en18_15 (n0 : Nat) (e : Env) (H : Heap) : enter cx 18 n0 15 e H = enterK [0, 5, 7, 8, 21, 22] 0 n0 e H := rfl
@[simp] theorem en18_16 (n0 : Nat) (e : Env) (H : Heap) : enter cx 18 n0 16 e H = enterK [] 0 n0 e H := rfl
@[simp] theorem en18_17 (n0 : Nat) (e : Env) (H : Heap) : enter cx 18 n0 17 e H = enterK [0, 5, 7, 8, 21, 22] 0 n0 e H := rfl
@[simp] theorem en18_18 (n0 : Nat) (e : Env) (H : Heap) : enter cx 18 n0 18 e H = enterK [0, 5, 7, 8, 21, 22] 0 n0 e H := rfl
@[simp] theorem en18_19 (n0 : Nat) (e : Env) (H : Heap) : enter cx 18 n0 19 e H = enterK [0, 5, 7, 8, 21, 22] 0 n0 e H := rfl
@[simp] theorem en18_20 (n0 : Nat) (e : Env) (H : Heap) : enter cx 18 n0 20 e H = enterK [0, 5, 8, 21, 22] 0 n0 e H := rfl
@[simp] theorem en18_21 (n0 : Nat) (e : Env) (H : Heap) : enter cx 18 n0 21 e H = enterR [] [5] [0, 21, 22] n0 e H := rfl
@[simp] theorem en18_22 (n0 : Nat) (e : Env) (H : Heap) : enter cx 18 n0 22 e H = enterK [5] 0 n0 e H := rfl
@[simp] theorem en19_0 (n0 : Nat) (e : Env) (H : Heap) : enter cx 19 n0 0 e H = enterK [0] 0 n0 e H := rfl
@[simp] theorem en19_1 (n0 : Nat) (e : Env) (H : Heap) : enter cx 19 n0 1 e H = enterK [0] 0 n0 e H := rfl
@[simp] theorem en20_0 (n0 : Nat) (e : Env) (H : Heap) : enter cx 20 n0 0 e H = enterK [0, 1] 0 n0 e H := rfl
@[simp] theorem en20_1 (n0 : Nat) (e : Env) (H : Heap) : enter cx 20 n0 1 e H = enterK [0, 3, 4] 0 n0 e H := rfl
@[simp] theorem en20_2 (n0 : Nat) (e : Env) (H : Heap) : enter cx 20 n0 2 e H = enterK [0, 3, 4, 6] 0 n0 e H := rfl
@[simp] theorem en20_3 (n0 : Nat) (e : Env) (H : Heap) : enter cx 20 n0 3 e H = enterK [0, 3, 4, 6] 0 n0 e H := rfl
@[simp] theorem en20_4 (n0 : Nat) (e : Env) (H : Heap) : enter cx 20 n0 4 e H = enterK [0, 3, 4, 6] 0 n0 e H := rfl
@[simp] theorem en20_5 (n0 : Nat) (e : Env) (H : Heap) : enter cx 20 n0 5 e H = enterK [0, 4, 6] 0 n0 e H := rfl
@[simp] theorem en20_6 (n0 : Nat) (e : Env) (H : Heap) : enter cx 20 n0 6 e H = enterK [3, 4] 0 n0 e H := rfl
@[simp] theorem en21_0 (n0 : Nat) (e : Env) (H : Heap) : enter cx 21 n0 0 e H = enterK [0, 1] 0 n0 e H := rfl
@[simp] theorem en21_1 (n0 : Nat) (e : Env) (H : Heap) : enter cx 21 n0 1 e H = enterK [0, 3] 0 n0 e H := rfl
@[simp] theorem en21_2 (n0 : Nat) (e : Env) (H : Heap) : enter cx 21 n0 2 e H = enterK [0, 3, 6] 0 n0 e H := rfl
@[simp] theorem en21_3 (n0 : Nat) (e : Env) (H : Heap) : enter cx 21 n0 3 e H = enterK [6] 0 n0 e H := rfl
@[simp] theorem en21_4 (n0 : Nat) (e : Env) (H : Heap) : enter cx 21 n0 4 e H = enterK [0, 3] 0 n0 e H := rfl
@[simp] theorem en22_0 (n0 : Nat) (e : Env) (H : Heap) : enter cx 22 n0 0 e H = enterK [0, 1] 0 n0 e H := rfl
@[simp] theorem en22_1 (n0 : Nat) (e : Env) (H : Heap) : enter cx 22 n0 1 e H = enterK [0, 3] 0 n0 e H := rfl
@[simp] theorem en22_2 (n0 : Nat) (e : Env) (H : Heap) : enter cx 22 n0 2 e H = enterK [] 0 n0 e H := rfl
@[simp] theorem en22_3 (n0 : Nat) (e : Env) (H : Heap) : enter cx 22 n0 3 e H = enterK [0, 3] 0 n0 e H := rfl
@[simp] theorem en22_4 (n0 : Nat) (e : Env) (H : Heap) : enter cx 22 n0 4 e H = enterK [0, 3, 7] 0 n0 e H := rfl
@[simp] theorem en22_5 (n0 : Nat) (e : Env) (H : Heap) : enter cx 22 n0 5 e H = enterK [] 0 n0 e H := rfl
@[simp] theorem en22_6 (n0 : Nat) (e : Env) (H : Heap) : enter cx 22 n0 6 e H = enterK [0, 3] 0 n0 e H := rfl
@[simp] theorem en22_7 (n0 : Nat) (e : Env) (H : Heap) : enter cx 22 n0 7 e H = enterK [0, 3, 8] 0 n0 e H := rfl
@[simp] theorem en22_8 (n0 : Nat) (e : Env) (H : Heap) : enter cx 22 n0 8 e H = enterR [] [3, 8] [0, 9] n0 e H := rfl
@[simp] theorem en22_9 (n0 : Nat) (e : Env) (H : Heap) : enter cx 22 n0 9 e H = enterK [0, 3, 8, 9, 10] 0 n0 e H := rfl
@[simp] theorem en22_10 (n0 : Nat) (e : Env) (H : Heap) : enter cx 22 n0 10 e H = enterR [] [3, 8] [0, 9, 10] n0 e H := rfl
@[simp] theorem en22_11 (n0 : Nat) (e : Env) (H : Heap) : enter cx 22 n0 11 e H = enterK [0, 3, 8, 9, 10] 0 n0 e H := rfl
@[simp] theorem en22_12 (n0 : Nat) (e : Env) (H : Heap) : enter cx 22 n0 12 e H = enterK [0, 3, 8, 9, 10, 11] 0 n0 e H := rfl
@[simp] theorem en22_13 (n0 : Nat) (e : Env) (H : Heap) : enter cx 22 n0 13 e H = enterK [0, 3, 8, 10, 11] 0 n0 e H := rfl
@[simp] theorem en22_14 (n0 : Nat) (e : Env) (H : Heap) : enter cx 22 n0 14 e H = enterK [0, 3, 8, 9, 10, 11] 0 n0 e H := rfl
@[simp] theorem en22_15 (n0 : Nat) (e : Env) (H : Heap) : enter cx 22 n0 15 e H = enterK [0, 3, 8, 9, 10, 11] 0 n0 e H := rfl
@[simp] theorem en22_16 (n0 : Nat) (e : Env) (H : Heap) : enter cx 22 n0 16 e H = enterK [0, 3, 8, 9, 10] 0 n0 e H := rfl
@[simp] theorem en22_17 (n0 : Nat) (e : Env) (H : Heap) : enter cx 22 n0 17 e H = enterK [3, 8, 9] 0 n0 e H := rfl
@[simp] theorem en22_18 (n0 : Nat) (e : Env) (H : Heap) : enter cx 22 n0 18 e H = enterK [3, 8] 0 n0 e H := rfl
@[simp] theorem en22_19 (n0 : Nat) (e : Env) (H : Heap) : enter cx 22 n0 19 e H = enterK [8] 0 n0 e H := rfl
@[simp] theorem en23_0 (n0 : Nat) (e : Env) (H : Heap) : enter cx 23 n0 0 e H = enterK [0, 1, 2] 0 n0 e H := rfl
@[simp] theorem en23_1 (n0 : Nat) (e : Env) (H : Heap) : enter cx 23 n0 1 e H = enterK [0, 2, 4] 0 n0 e H := rfl
@[simp] theorem en23_2 (n0 : Nat) (e : Env) (H : Heap) : enter cx 23 n0 2 e H = enterK [0, 2, 4, 8] 0 n0 e H := rfl
@[simp] theorem en23_3 (n0 : Nat) (e : Env) (H : Heap) : enter cx 23 n0 3 e H = enterK [0, 2, 4, 8, 10] 0 n0 e H := rfl
@[simp] theorem en23_4 (n0 : Nat) (e : Env) (H : Heap) : enter cx 23 n0 4 e H = enterK [0, 4, 8, 10] 0 n0 e H := rfl
@[simp] theorem en23_5 (n0 : Nat) (e : Env) (H : Heap) : enter cx 23 n0 5 e H = enterK [0, 4, 8, 10] 0 n0 e H := rfl
@[simp] theorem en23_6 (n0 : Nat) (e : Env) (H : Heap) : enter cx 23 n0 6 e H = enterK [0, 2, 4, 8, 10] 0 n0 e H := rfl
@[simp] theorem en23_7 (n0 : Nat) (e : Env) (H : Heap) : enter cx 23 n0 7 e H = enterK [0, 2, 4, 8, 10] 0 n0 e H := rfl
@[simp] theorem en23_8 (n0 : Nat) (e : Env) (H : Heap) : enter cx 23 n0 8 e H = enterK [0, 4, 8, 10] 0 n0 e H := rfl
@[simp] theorem en23_9 (n0 : Nat) (e : Env) (H : Heap) : enter cx 23 n0 9 e H = enterK [0, 4, 8, 10] 0 n0 e H := rfl
@[simp] theorem en23_10 (n0 : Nat) (e : Env) (H : Heap) : enter cx 23 n0 10 e H = enterK [4, 10, 11, 12] 0 n0 e H := rfl
@[simp] theorem en23_11 (n0 : Nat) (e : Env) (H : Heap) : enter cx 23 n0 11 e H = enterK [12] 0 n0 e H := rfl
@[simp] theorem en23_12 (n0 : Nat) (e : Env) (H : Heap) : enter cx 23 n0 12 e H = enterK [4, 10, 11] 0 n0 e H := rfl
@[simp] theorem en23_13 (n0 : Nat) (e : Env) (H : Heap) : enter cx 23 n0 13 e H = enterK [] 0 n0 e H := rfl
@[simp] theorem en23_14 (n0 : Nat) (e : Env) (H : Heap) : enter cx 23 n0 14 e H = enterK [11] 0 n0 e H := rfl
@[simp] theorem en24_0 (n0 : Nat) (e : Env) (H : Heap) : enter cx 24 n0 0 e H = enterK [0, 1] 0 n0 e H := rfl
@[simp] theorem en24_1 (n0 : Nat) (e : Env) (H : Heap) : enter cx 24 n0 1 e H = enterK [0, 1] 0 n0 e H := rfl
@[simp] theorem en24_2 (n0 : Nat) (e : Env) (H : Heap) : enter cx 24 n0 2 e H = enterK [] 0 n0 e H := rfl
@[simp] theorem en24_3 (n0 : Nat) (e : Env) (H : Heap) : enter cx 24 n0 3 e H = enterK [0, 1] 0 n0 e H := rfl
@[simp] theorem en24_4 (n0 : Nat) (e : Env) (H : Heap) : enter cx 24 n0 4 e H = enterZ [6] [1, 6] 1 n0 e H := rfl
@[simp] theorem en24_5 (n0 : Nat) (e : Env) (H : Heap) : enter cx 24 n0 5 e H = enterK [1, 6, 7] 0 n0 e H := rfl
@[simp] theorem en24_6 (n0 : Nat) (e : Env) (H : Heap) : enter cx 24 n0 6 e H = enterK [1, 6, 7] 1 n0 e H := rfl
@[simp] theorem en24_7 (n0 : Nat) (e : Env) (H : Heap) : enter cx 24 n0 7 e H = enterK [1, 6, 7] 0 n0 e H := rfl
@[simp] theorem en24_8 (n0 : Nat) (e : Env) (H : Heap) : enter cx 24 n0 8 e H = enterK [1, 6, 7, 8, 9] 0 n0 e H := rfl
@[simp] theorem en24_9 (n0 : Nat) (e : Env) (H : Heap) : enter cx 24 n0 9 e H = enterK [1, 6, 7] 0 n0 e H := rfl
@[simp] theorem en24_10 (n0 : Nat) (e : Env) (H : Heap) : enter cx 24 n0 10 e H = enterK [1, 7, 10, 11] 0 n0 e H := rfl
@[simp] theorem en24_11 (n0 : Nat) (e : Env) (H : Heap) : enter cx 24 n0 11 e H = enterK [11] 0 n0 e H := rfl
@[simp] theorem en24_12 (n0 : Nat) (e : Env) (H : Heap) : enter cx 24 n0 12 e H = enterK [1, 7, 10] 0 n0 e H := rfl
@[simp] theorem en24_13 (n0 : Nat) (e : Env) (H : Heap) : enter cx 24 n0 13 e H = enterK [6] 0 n0 e H := rfl
@[simp] theorem en25_0 (n0 : Nat) (e : Env) (H : Heap) : enter cx 25 n0 0 e H = enterK [0] 0 n0 e H := rfl
@[simp] theorem en25_1 (n0 : Nat) (e : Env) (H : Heap) : enter cx 25 n0 1 e H = enterK [0] 0 n0 e H := rfl
@[simp] theorem en25_2 (n0 : Nat) (e : Env) (H : Heap) : enter cx 25 n0 2 e H = enterK [] 0 n0 e H := rfl
@[simp] theorem en25_3 (n0 : Nat) (e : Env) (H : Heap) : enter cx 25 n0 3 e H = enterK [0] 0 n0 e H := rfl
@[simp] theorem en25_4 (n0 : Nat) (e : Env) (H : Heap) : enter cx 25 n0 4 e H = enterK [] 0 n0 e H := rfl
@[simp] theorem en25_5 (n0 : Nat) (e : Env) (H : Heap) : enter cx 25 n0 5 e H = enterK [0] 0 n0 e H := rfl
@[simp] theorem en25_6 (n0 : Nat) (e : Env) (H : Heap) : enter cx 25 n0 6 e H = enterK [0, 5] 0 n0 e H := rfl
@[simp] theorem en25_7 (n0 : Nat) (e : Env) (H : Heap) : enter cx 25 n0 7 e H = enterK [0, 5, 6] 0 n0 e H := rfl
@[simp] theorem en25_8 (n0 : Nat) (e : Env) (H : Heap) : enter cx 25 n0 8 e H = enterK [0, 5, 6, 7] 0 n0 e H := rfl
@[simp] theorem en25_9 (n0 : Nat) (e : Env) (H : Heap) : enter cx 25 n0 9 e H = enterR [] [5] [0, 6, 7] n0 e H := rfl
@[simp] theorem en25_10 (n0 : Nat) (e : Env) (H : Heap) : enter cx 25 n0 10 e H = enterK [0, 5, 6, 7] 0 n0 e H := rfl
@[simp] theorem en25_11 (n0 : Nat) (e : Env) (H : Heap) : enter cx 25 n0 11 e H = enterK [] 0 n0 e H := rfl
@[simp] theorem en25_12 (n0 : Nat) (e : Env) (H : Heap) : enter cx 25 n0 12 e H = enterK [0, 5, 6, 7] 0 n0 e H := rfl
@[simp] theorem en25_13 (n0 : Nat) (e : Env) (H : Heap) : enter cx 25 n0 13 e H = enterK [0, 5, 6, 7, 8] 0 n0 e H := rfl
@[simp] theorem en25_14 (n0 : Nat) (e : Env) (H : Heap) : enter cx 25 n0 14 e H = enterK [0, 5, 6, 7, 8, 9] 0 n0 e H := rfl
@[simp] theorem en25_15 (n0 : Nat) (e : Env) (H : Heap) : enter cx 25 n0 15 e H = enterK [0, 5, 6, 7, 8, 9] 0 n0 e H := rfl
@[simp] theorem en25_16 (n0 : Nat) (e : Env) (H : Heap) : enter cx 25 n0 16 e H = enterK [0, 5, 6, 7, 8, 9] 0 n0 e H := rfl
@[simp] theorem en25_17 (n0 : Nat) (e : Env) (H : Heap) : enter cx 25 n0 17 e H = enterK [0, 5, 6, 7, 8] 0 n0 e H := rfl
@[simp] theorem en25_18 (n0 : Nat) (e : Env) (H : Heap) : enter cx 25 n0 18 e H = enterK [] 0 n0 e H := rfl
@[simp] theorem en25_19 (n0 : Nat) (e : Env) (H : Heap) : enter cx 25 n0 19 e H = enterK [0, 5, 6, 7, 8] 0 n0 e H := rfl
@[simp] theorem en25_20 (n0 : Nat) (e : Env) (H : Heap) : enter cx 25 n0 20 e H = enterK [0, 5, 6, 7, 8] 0 n0 e H := rfl
@[simp] theorem en25_21 (n0 : Nat) (e : Env) (H : Heap) : enter cx 25 n0 21 e H = enterK [] 0 n0 e H := rfl
@[simp] theorem en25_22 (n0 : Nat) (e : Env) (H : Heap) : enter cx 25 n0 22 e H = enterK [0, 5, 6, 7, 8] 0 n0 e H := rfl
@[simp] theorem en25_23 (n0 : Nat) (e : Env) (H : Heap) : enter cx 25 n0 23 e H = enterK [0, 5, 6, 7, 8] 0 n0 e H := rfl
@[simp] theorem en25_24 (n0 : Nat) (e : Env) (H : Heap) : enter cx 25 n0 24 e H = enterK [0, 5, 6, 7, 8] 0 n0 e H := rfl
@[simp] theorem en25_25 (n0 : Nat) (e : Env) (H : Heap) : enter cx 25 n0 25 e H = enterK [0, 5, 6, 7, 8] 0 n0 e H := rfl
@[simp] theorem en25_26 (n0 : Nat) (e : Env) (H : Heap) : enter cx 25 n0 26 e H = enterK [0, 5, 6, 7, 8] 0 n0 e H := rfl
@[simp] theorem en25_27 (n0 : Nat) (e : Env) (H : Heap) : enter cx 25 n0 27 e H = enterK [5, 6] 0 n0 e H := rfl
@[simp] theorem en26_0 (n0 : Nat) (e : Env) (H : Heap) : enter cx 26 n0 0 e H = enterK [0, 1] 0 n0 e H := rfl
@[simp] theorem en26_1 (n0 : Nat) (e : Env) (H : Heap) : enter cx 26 n0 1 e H = enterK [0, 1] 0 n0 e H := rfl
@[simp] theorem en26_2 (n0 : Nat) (e : Env) (H : Heap) : enter cx 26 n0 2 e H = enterK [] 0 n0 e H := rfl
@[simp] theorem en26_3 (n0 : Nat) (e : Env) (H : Heap) : enter cx 26 n0 3 e H = enterK [0, 1] 0 n0 e H := rfl
@[simp] theorem en26_4 (n0 : Nat) (e : Env) (H : Heap) : enter cx 26 n0 4 e H = enterK [0, 1, 5] 0 n0 e H := rfl
@[simp] theorem en26_5 (n0 : Nat) (e : Env) (H : Heap) : enter cx 26 n0 5 e H = enterK [0, 1, 5] 0 n0 e H := rfl
@[simp] theorem en26_6 (n0 : Nat) (e : Env) (H : Heap) : enter cx 26 n0 6 e H = enterK [0, 1, 5] 0 n0 e H := rfl
@[simp] theorem en26_7 (n0 : Nat) (e : Env) (H : Heap) : enter cx 26 n0 7 e H = enterK [] 0 n0 e H := rfl
@[simp] theorem en26_8 (n0 : Nat) (e : Env) (H : Heap) : enter cx 26 n0 8 e H = enterK [] 0 n0 e H := rfl
@[simp] theorem en27_0 (n0 : Nat) (e : Env) (H : Heap) : enter cx 27 n0 0 e H = enterK [0] 0 n0 e H := rfl
@[simp] theorem en27_1 (n0 : Nat) (e : Env) (H : Heap) : enter cx 27 n0 1 e H = enterK [0] 0 n0 e H := rfl
@[simp] theorem en27_2 (n0 : Nat) (e : Env) (H : Heap) : enter cx 27 n0 2 e H = enterK [0, 3] 0 n0 e H := rfl
@[simp] theorem en27_3 (n0 : Nat) (e : Env) (H : Heap) : enter cx 27 n0 3 e H = enterK [0, 3] 0 n0 e H := rfl
@[simp] theorem en27_4 (n0 : Nat) (e : Env) (H : Heap) : enter cx 27 n0 4 e H = enterK [0, 3] 0 n0 e H := rfl
@[simp] theorem en27_5 (n0 : Nat) (e : Env) (H : Heap) : enter cx 27 n0 5 e H = enterK [] 0 n0 e H := rfl
@[simp] theorem en27_6 (n0 : Nat) (e : Env) (H : Heap) : enter cx 27 n0 6 e H = enterK [0] 0 n0 e H := rfl
@[simp] theorem en28_0 (n0 : Nat) (e : Env) (H : Heap) : enter cx 28 n0 0 e H = enterK [0, 1] 0 n0 e H := rfl
@[simp] theorem en28_1 (n0 : Nat) (e : Env) (H : Heap) : enter cx 28 n0 1 e H = enterK [0, 1] 0 n0 e H := rfl
@[simp] theorem en28_2 (n0 : Nat) (e : Env) (H : Heap) : enter cx 28 n0 2 e H = enterK [0, 1, 5] 0 n0 e H := rfl
@[simp] theorem en28_3 (n0 : Nat) (e : Env) (H : Heap) : enter cx 28 n0 3 e H = enterK [0, 1, 5] 1 n0 e H := rfl
@[simp] theorem en28_4 (n0 : Nat) (e : Env) (H : Heap) : enter cx 28 n0 4 e H = enterK [0, 1, 5] 0 n0 e H := rfl
@[simp] theorem en28_5 (n0 : Nat) (e : Env) (H : Heap) : enter cx 28 n0 5 e H = enterK [0, 1, 5, 6] 0 n0 e H := rfl
@[simp] theorem en28_6 (n0 : Nat) (e : Env) (H : Heap) : enter cx 28 n0 6 e H = enterK [] 0 n0 e H := rfl
@[simp] theorem en28_7 (n0 : Nat) (e : Env) (H : Heap) : enter cx 28 n0 7 e H = enterK [] 0 n0 e H := rfl
@[simp] theorem en29_0 (n0 : Nat) (e : Env) (H : Heap) : enter cx 29 n0 0 e H = enterK [0, 1] 0 n0 e H := rfl
@[simp] theorem en29_1 (n0 : Nat) (e : Env) (H : Heap) : enter cx 29 n0 1 e H = enterK [0, 1] 0 n0 e H := rfl
@[simp] theorem en30_0 (n0 : Nat) (e : Env) (H : Heap) : enter cx 30 n0 0 e H = enterK [0] 0 n0 e H := rfl
@[simp] theorem en30_1 (n0 : Nat) (e : Env) (H : Heap) : enter cx 30 n0 1 e H = enterK [0] 0 n0 e H := rfl
@[simp] theorem en30_2 (n0 : Nat) (e : Env) (H : Heap) : enter cx 30 n0 2 e H = enterK [] 0 n0 e H := rfl
@[simp] theorem en30_3 (n0 : Nat) (e : Env) (H : Heap) : enter cx 30 n0 3 e H = enterK [0] 0 n0 e H := rfl
@[simp] theorem en30_4 (n0 : Nat) (e : Env) (H : Heap) : enter cx 30 n0 4 e H = enterK [0, 3] 0 n0 e H := rfl
@[simp] theorem en30_5 (n0 : Nat) (e : Env) (H : Heap) : enter cx 30 n0 5 e H = enterK [0, 3, 4] 0 n0 e H := rfl
@[simp] theorem en30_6 (n0 : Nat) (e : Env) (H : Heap) : enter cx 30 n0 6 e H = enterR [] [3] [0, 4] n0 e H := rfl
@[simp] theorem en30_7 (n0 : Nat) (e : Env) (H : Heap) : enter cx 30 n0 7 e H = enterK [0, 3, 4] 0 n0 e H := rfl
@[simp] theorem en30_8 (n0 : Nat) (e : Env) (H : Heap) : enter cx 30 n0 8 e H = enterK [0, 3, 4] 0 n0 e H := rfl
@[simp] theorem en30_9 (n0 : Nat) (e : Env) (H : Heap) : enter cx 30 n0 9 e H = enterK [3] 0 n0 e H := rfl
@[simp] theorem en31_0 (n0 : Nat) (e : Env) (H : Heap) : enter cx 31 n0 0 e H = enterK [0, 1] 0 n0 e H := rfl
@[simp] theorem en31_1 (n0 : Nat) (e : Env) (H : Heap) : enter cx 31 n0 1 e H = enterK [0, 3] 0 n0 e H := rfl
@[simp] theorem en31_2 (n0 : Nat) (e : Env) (H : Heap) : enter cx 31 n0 2 e H = enterK [] 0 n0 e H := rfl
@[simp] theorem en31_3 (n0 : Nat) (e : Env) (H : Heap) : enter cx 31 n0 3 e H = enterK [0, 3] 0 n0 e H := rfl
@[simp] theorem en31_4 (n0 : Nat) (e : Env) (H : Heap) : enter cx 31 n0 4 e H = enterK [] 0 n0 e H := rfl
@[simp] theorem en31_5 (n0 : Nat) (e : Env) (H : Heap) : enter cx 31 n0 5 e H = enterK [] 0 n0 e H := rfl
@[simp] theorem en32_0 (n0 : Nat) (e : Env) (H : Heap) : enter cx 32 n0 0 e H = enterK [0, 1] 0 n0 e H := rfl
@[simp] theorem en32_1 (n0 : Nat) (e : Env) (H : Heap) : enter cx 32 n0 1 e H = enterK [0, 1] 0 n0 e H := rfl
@[simp] theorem en32_2 (n0 : Nat) (e : Env) (H : Heap) : enter cx 32 n0 2 e H = enterK [] 0 n0 e H := rfl
@[simp] theorem en32_3 (n0 : Nat) (e : Env) (H : Heap) : enter cx 32 n0 3 e H = enterK [0, 1] 0 n0 e H := rfl
@[simp] theorem en33_0 (n0 : Nat) (e : Env) (H : Heap) : enter cx 33 n0 0 e H = enterK [0, 1] 0 n0 e H := rfl
@[simp] theorem en33_1 (n0 : Nat) (e : Env) (H : Heap) : enter cx 33 n0 1 e H = enterK [0, 3] 0 n0 e H := rfl
@[simp] theorem en33_2 (n0 : Nat) (e : Env) (H : Heap) : enter cx 33 n0 2 e H = enterK [3, 5] 0 n0 e H := rfl
@[simp] theorem en33_3 (n0 : Nat) (e : Env) (H : Heap) : enter cx 33 n0 3 e H = enterK [3, 5, 6] 0 n0 e H := rfl
@[simp] theorem en33_4 (n0 : Nat) (e : Env) (H : Heap) : enter cx 33 n0 4 e H = enterK [3, 5, 6] 0 n0 e H := rfl
@[simp] theorem en33_5 (n0 : Nat) (e : Env) (H : Heap) : enter cx 33 n0 5 e H = enterK [5] 0 n0 e H := rfl
@[simp] theorem en33_6 (n0 : Nat) (e : Env) (H : Heap) : enter cx 33 n0 6 e H = enterK [3, 5] 0 n0 e H := rfl
@[simp] theorem en33_7 (n0 : Nat) (e : Env) (H : Heap) : enter cx 33 n0 7 e H = enterK [5] 0 n0 e H := rfl
@[simp] theorem en33_8 (n0 : Nat) (e : Env) (H : Heap) : enter cx 33 n0 8 e H = enterK [5] 0 n0 e H := rfl
@[simp] theorem en34_0 (n0 : Nat) (e : Env) (H : Heap) : enter cx 34 n0 0 e H = enterK [0, 1] 0 n0 e H := rfl
@[simp] theorem en34_1 (n0 : Nat) (e : Env) (H : Heap) : enter cx 34 n0 1 e H = enterK [0, 3] 0 n0 e H := rfl
@[simp] theorem en35_0 (n0 : Nat) (e : Env) (H : Heap) : enter cx 35 n0 0 e H = enterK [0, 1] 0 n0 e H := rfl
@[simp] theorem en35_1 (n0 : Nat) (e : Env) (H : Heap) : enter cx 35 n0 1 e H = enterK [0, 1] 0 n0 e H := rfl
@[simp] theorem en35_2 (n0 : Nat) (e : Env) (H : Heap) : enter cx 35 n0 2 e H = enterK [] 0 n0 e H := rfl
@[simp] theorem en35_3 (n0 : Nat) (e : Env) (H : Heap) : enter cx 35 n0 3 e H = enterK [0, 1] 0 n0 e H := rfl
@[simp] theorem en35_4 (n0 : Nat) (e : Env) (H : Heap) : enter cx 35 n0 4 e H = enterK [0, 1] 0 n0 e H := rfl
@[simp] theorem en36_0 (n0 : Nat) (e : Env) (H : Heap) : enter cx 36 n0 0 e H = enterK [0] 0 n0 e H := rfl
@[simp] theorem en36_1 (n0 : Nat) (e : Env) (H : Heap) : enter cx 36 n0 1 e H = enterK [0] 0 n0 e H := rfl
@[simp] theorem en36_2 (n0 : Nat) (e : Env) (H : Heap) : enter cx 36 n0 2 e H = enterK [] 0 n0 e H := rfl
@[simp] theorem en36_3 (n0 : Nat) (e : Env) (H : Heap) : enter cx 36 n0 3 e H = enterK [0] 0 n0 e H := rfl
@[simp] theorem en37_0 (n0 : Nat) (e : Env) (H : Heap) : enter cx 37 n0 0 e H = enterK [0, 1] 0 n0 e H := rfl
@[simp] theorem en37_1 (n0 : Nat) (e : Env) (H : Heap) : enter cx 37 n0 1 e H = enterK [0, 1] 0 n0 e H := rfl
@[simp] theorem en38_0 (n0 : Nat) (e : Env) (H : Heap) : enter cx 38 n0 0 e H = enterK [0, 1] 0 n0 e H := rfl
@[simp] theorem en38_1 (n0 : Nat) (e : Env) (H : Heap) : enter cx 38 n0 1 e H = enterK [0, 1] 0 n0 e H := rfl
@[simp] theorem en38_2 (n0 : Nat) (e : Env) (H : Heap) : enter cx 38 n0 2 e H = enterK [] 0 n0 e H := rfl
@[simp] theorem en38_3 (n0 : Nat) (e : Env) (H : Heap) : enter cx 38 n0 3 e H = enterK [0, 1] 0 n0 e H := rfl
@[simp] theorem en38_4 (n0 : Nat) (e : Env) (H : Heap) : enter cx 38 n0 4 e H = enterK [0, 1, 12, 13] 0 n0 e H := rfl
@[simp] theorem en38_5 (n0 : Nat) (e : Env) (H : Heap) : enter cx 38 n0 5 e H = enterK [0, 1, 12, 13] 0 n0 e H := rfl
@[simp] theorem en38_6 (n0 : Nat) (e : Env) (H : Heap) : enter cx 38 n0 6 e H = enterK [0, 1, 5, 12, 13] 0 n0 e H := rfl
@[simp] theorem en38_7 (n0 : Nat) (e : Env) (H : Heap) : enter cx 38 n0 7 e H = enterK [] 0 n0 e H := rfl
@[simp] theorem en38_8 (n0 : Nat) (e : Env) (H : Heap) : enter cx 38 n0 8 e H = enterK [0, 1, 12, 13] 0 n0 e H := rfl
@[simp] theorem en38_9 (n0 : Nat) (e : Env) (H : Heap) : enter cx 38 n0 9 e H = enterK [] 0 n0 e H := rfl
@[simp] theorem en39_0 (n0 : Nat) (e : Env) (H : Heap) : enter cx 39 n0 0 e H = enterK [0, 1, 2] 0 n0 e H := rfl
@[simp] theorem en39_1 (n0 : Nat) (e : Env) (H : Heap) : enter cx 39 n0 1 e H = enterK [0, 1, 2] 0 n0 e H := rfl
@[simp] theorem en39_2 (n0 : Nat) (e : Env) (H : Heap) : enter cx 39 n0 2 e H = enterK [1, 2, 7] 0 n0 e H := rfl
@[simp] theorem en39_3 (n0 : Nat) (e : Env) (H : Heap) : enter cx 39 n0 3 e H = enterK [7] 0 n0 e H := rfl
@[simp] theorem en39_4 (n0 : Nat) (e : Env) (H : Heap) : enter cx 39 n0 4 e H = enterK [1, 2, 7] 0 n0 e H := rfl
@[simp] theorem en39_5 (n0 : Nat) (e : Env) (H : Heap) : enter cx 39 n0 5 e H = enterK [2, 7, 15, 16] 0 n0 e H := rfl
@[simp] theorem en39_6 (n0 : Nat) (e : Env) (H : Heap) : enter cx 39 n0 6 e H = enterK [2, 7, 15, 16] 0 n0 e H := rfl
@[simp] theorem en39_7 (n0 : Nat) (e : Env) (H : Heap) : enter cx 39 n0 7 e H = enterK [2, 7, 8, 15, 16] 0 n0 e H := rfl
@[simp] theorem en39_8 (n0 : Nat) (e : Env) (H : Heap) : enter cx 39 n0 8 e H = enterR [] [7] [2, 15, 16] n0 e H := rfl
@[simp] theorem en39_9 (n0 : Nat) (e : Env) (H : Heap) : enter cx 39 n0 9 e H = enterK [7] 0 n0 e H := rfl
@[simp] theorem en40_0 (n0 : Nat) (e : Env) (H : Heap) : enter cx 40 n0 0 e H = enterK [0, 1, 2] 0 n0 e H := rfl
@[simp] theorem en40_1 (n0 : Nat) (e : Env) (H : Heap) : enter cx 40 n0 1 e H = enterK [0, 1, 2] 0 n0 e H := rfl
@[simp] theorem en40_2 (n0 : Nat) (e : Env) (H : Heap) : enter cx 40 n0 2 e H = enterK [] 0 n0 e H := rfl
@[simp] theorem en40_3 (n0 : Nat) (e : Env) (H : Heap) : enter cx 40 n0 3 e H = enterK [0, 1, 2] 0 n0 e H := rfl
@[simp] theorem en40_4 (n0 : Nat) (e : Env) (H : Heap) : enter cx 40 n0 4 e H = enterK [0, 1, 2, 8] 0 n0 e H := rfl
@[simp] theorem en40_5 (n0 : Nat) (e : Env) (H : Heap) : enter cx 40 n0 5 e H = enterK [0, 1, 8, 9] 0 n0 e H := rfl
@[simp] theorem en40_6 (n0 : Nat) (e : Env) (H : Heap) : enter cx 40 n0 6 e H = enterK [0, 1, 8, 9] 0 n0 e H := rfl
@[simp] theorem en40_7 (n0 : Nat) (e : Env) (H : Heap) : enter cx 40 n0 7 e H = enterK [0, 1, 8, 9] 0 n0 e H := rfl
@[simp] theorem en40_8 (n0 : Nat) (e : Env) (H : Heap) : enter cx 40 n0 8 e H = enterK [8] 0 n0 e H := rfl
@[simp] theorem en41_0 (n0 : Nat) (e : Env) (H : Heap) : enter cx 41 n0 0 e H = enterK [0, 1] 0 n0 e H := rfl
@[simp] theorem en41_1 (n0 : Nat) (e : Env) (H : Heap) : enter cx 41 n0 1 e H = enterK [2, 3] 0 n0 e H := rfl
@[simp] theorem en41_2 (n0 : Nat) (e : Env) (H : Heap) : enter cx 41 n0 2 e H = enterK [2, 3, 5] 0 n0 e H := rfl
@[simp] theorem en41_3 (n0 : Nat) (e : Env) (H : Heap) : enter cx 41 n0 3 e H = enterK [2, 3, 5] 0 n0 e H := rfl
@[simp] theorem en41_4 (n0 : Nat) (e : Env) (H : Heap) : enter cx 41 n0 4 e H = enterK [2, 3, 5] 0 n0 e H := rfl
@[simp] theorem en41_5 (n0 : Nat) (e : Env) (H : Heap) : enter cx 41 n0 5 e H = enterK [2, 3, 5] 0 n0 e H := rfl
@[simp] theorem en41_6 (n0 : Nat) (e : Env) (H : Heap) : enter cx 41 n0 6 e H = enterK [] 0 n0 e H := rfl
@[simp] theorem en42_0 (n0 : Nat) (e : Env) (H : Heap) : enter cx 42 n0 0 e H = enterK [0, 1] 0 n0 e H := rfl
@[simp] theorem en42_1 (n0 : Nat) (e : Env) (H : Heap) : enter cx 42 n0 1 e H = enterK [0, 1] 0 n0 e H := rfl
@[simp] theorem en42_2 (n0 : Nat) (e : Env) (H : Heap) : enter cx 42 n0 2 e H = enterK [] 0 n0 e H := rfl
@[simp] theorem en42_3 (n0 : Nat) (e : Env) (H : Heap) : enter cx 42 n0 3 e H = enterK [0, 1] 0 n0 e H := rfl
@[simp] theorem en43_0 (n0 : Nat) (e : Env) (H : Heap) : enter cx 43 n0 0 e H = enterK [0, 1, 2] 0 n0 e H := rfl
@[simp] theorem en43_1 (n0 : Nat) (e : Env) (H : Heap) : enter cx 43 n0 1 e H = enterK [0, 1, 2] 0 n0 e H := rfl
@[simp] theorem en43_2 (n0 : Nat) (e : Env) (H : Heap) : enter cx 43 n0 2 e H = enterK [] 0 n0 e H := rfl
@[simp] theorem en43_3 (n0 : Nat) (e : Env) (H : Heap) : enter cx 43 n0 3 e H = enterK [0, 1, 2] 0 n0 e H := rfl
@[simp] theorem en43_4 (n0 : Nat) (e : Env) (H : Heap) : enter cx 43 n0 4 e H = enterK [0, 1, 2, 8] 0 n0 e H := rfl
@[simp] theorem en43_5 (n0 : Nat) (e : Env) (H : Heap) : enter cx 43 n0 5 e H = enterK [0, 1, 8, 9] 0 n0 e H := rfl
@[simp] theorem en43_6 (n0 : Nat) (e : Env) (H : Heap) : enter cx 43 n0 6 e H = enterK [0, 1, 8, 9] 0 n0 e H := rfl
@[simp] theorem en43_7 (n0 : Nat) (e : Env) (H : Heap) : enter cx 43 n0 7 e H = enterK [0, 1, 8, 9] 0 n0 e H := rfl
@[simp] theorem en43_8 (n0 : Nat) (e : Env) (H : Heap) : enter cx 43 n0 8 e H = enterK [8] 0 n0 e H := rfl
@[simp] theorem en44_0 (n0 : Nat) (e : Env) (H : Heap) : enter cx 44 n0 0 e H = enterK [0] 0 n0 e H := rfl
@[simp] theorem en44_1 (n0 : Nat) (e : Env) (H : Heap) : enter cx 44 n0 1 e H = enterK [0] 0 n0 e H := rfl
@[simp] theorem en44_2 (n0 : Nat) (e : Env) (H : Heap) : enter cx 44 n0 2 e H = enterK [0, 3] 0 n0 e H := rfl
@[simp] theorem en44_3 (n0 : Nat) (e : Env) (H : Heap) : enter cx 44 n0 3 e H = enterK [0, 3, 4] 0 n0 e H := rfl
@[simp] theorem en44_4 (n0 : Nat) (e : Env) (H : Heap) : enter cx 44 n0 4 e H = enterR [] [3] [0, 4] n0 e H := rfl
@[simp] theorem en44_5 (n0 : Nat) (e : Env) (H : Heap) : enter cx 44 n0 5 e H = enterK [0, 3, 4] 0 n0 e H := rfl
@[simp] theorem en44_6 (n0 : Nat) (e : Env) (H : Heap) : enter cx 44 n0 6 e H = enterK [3] 0 n0 e H := rfl
@[simp] theorem en45_0 (n0 : Nat) (e : Env) (H : Heap) : enter cx 45 n0 0 e H = enterK [0, 1] 0 n0 e H := rfl
@[simp] theorem en45_1 (n0 : Nat) (e : Env) (H : Heap) : enter cx 45 n0 1 e H = enterK [0, 1, 4] 0 n0 e H := rfl
@[simp] theorem en46_0 (n0 : Nat) (e : Env) (H : Heap) : enter cx 46 n0 0 e H = enterK [0, 1] 0 n0 e H := rfl
@[simp] theorem en46_1 (n0 : Nat) (e : Env) (H : Heap) : enter cx 46 n0 1 e H = enterK [2, 3] 0 n0 e H := rfl
@[simp] theorem en47_0 (n0 : Nat) (e : Env) (H : Heap) : enter cx 47 n0 0 e H = enterK [0, 1] 0 n0 e H := rfl
@[simp] theorem en47_1 (n0 : Nat) (e : Env) (H : Heap) : enter cx 47 n0 1 e H = enterK [0, 1] 0 n0 e H := rfl
@[simp] theorem en47_2 (n0 : Nat) (e : Env) (H : Heap) : enter cx 47 n0 2 e H = enterK [0, 1, 7, 8] 0 n0 e H := rfl
@[simp] theorem en47_3 (n0 : Nat) (e : Env) (H : Heap) : enter cx 47 n0 3 e H = enterK [0, 1, 7, 8] 0 n0 e H := rfl
@[simp] theorem en47_4 (n0 : Nat) (e : Env) (H : Heap) : enter cx 47 n0 4 e H = enterK [0, 1, 5, 7, 8] 0 n0 e H := rfl
@[simp] theorem en47_5 (n0 : Nat) (e : Env) (H : Heap) : enter cx 47 n0 5 e H = enterK [5] 0 n0 e H := rfl
@[simp] theorem en47_6 (n0 : Nat) (e : Env) (H : Heap) : enter cx 47 n0 6 e H = enterK [0, 1, 7, 8] 0 n0 e H := rfl
@[simp] theorem en47_7 (n0 : Nat) (e : Env) (H : Heap) : enter cx 47 n0 7 e H = enterK [] 0 n0 e H := rfl
@[simp] theorem en48_0 (n0 : Nat) (e : Env) (H : Heap) : enter cx 48 n0 0 e H = enterK [0, 1] 0 n0 e H := rfl
@[simp] theorem en48_1 (n0 : Nat) (e : Env) (H : Heap) : enter cx 48 n0 1 e H = enterK [1, 2] 0 n0 e H := rfl
@[simp] theorem en50_0 (n0 : Nat) (e : Env) (H : Heap) : enter cx 50 n0 0 e H = enterK [0] 0 n0 e H := rfl
@[simp] theorem en50_1 (n0 : Nat) (e : Env) (H : Heap) : enter cx 50 n0 1 e H = enterK [0] 0 n0 e H := rfl
@[simp] theorem en50_2 (n0 : Nat) (e : Env) (H : Heap) : enter cx 50 n0 2 e H = enterK [] 0 n0 e H := rfl
@[simp] theorem en50_3 (n0 : Nat) (e : Env) (H : Heap) : enter cx 50 n0 3 e H = enterK [0] 0 n0 e H := rfl
@[simp] theorem en51_0 (n0 : Nat) (e : Env) (H : Heap) : enter cx 51 n0 0 e H = enterK [0] 0 n0 e H := rfl
@[simp] theorem en51_1 (n0 : Nat) (e : Env) (H : Heap) : enter cx 51 n0 1 e H = enterK [0] 0 n0 e H := rfl
@[simp] theorem en52_0 (n0 : Nat) (e : Env) (H : Heap) : enter cx 52 n0 0 e H = enterK [0, 1] 0 n0 e H := rfl
@[simp] theorem en52_1 (n0 : Nat) (e : Env) (H : Heap) : enter cx 52 n0 1 e H = enterK [0, 1] 0 n0 e H := rfl
@[simp] theorem en52_2 (n0 : Nat) (e : Env) (H : Heap) : enter cx 52 n0 2 e H = enterK [] 0 n0 e H := rfl
@[simp] theorem en52_3 (n0 : Nat) (e : Env) (H : Heap) : enter cx 52 n0 3 e H = enterK [0, 1] 0 n0 e H := rfl
@[simp] theorem en52_4 (n0 : Nat) (e : Env) (H : Heap) : enter cx 52 n0 4 e H = enterK [] 0 n0 e H := rfl
@[simp] theorem en52_5 (n0 : Nat) (e : Env) (H : Heap) : enter cx 52 n0 5 e H = enterK [] 0 n0 e H := rfl
@[simp] theorem en53_0 (n0 : Nat) (e : Env) (H : Heap) : enter cx 53 n0 0 e H = enterK [0, 1] 0 n0 e H := rfl
@[simp] theorem en53_1 (n0 : Nat) (e : Env) (H : Heap) : enter cx 53 n0 1 e H = enterK [0, 1] 0 n0 e H := rfl
@[simp] theorem en53_2 (n0 : Nat) (e : Env) (H : Heap) : enter cx 53 n0 2 e H = enterK [0, 1, 5] 0 n0 e H := rfl
@[simp] theorem en53_3 (n0 : Nat) (e : Env) (H : Heap) : enter cx 53 n0 3 e H = enterK [0, 1, 5, 6] 0 n0 e H := rfl
@[simp] theorem en53_4 (n0 : Nat) (e : Env) (H : Heap) : enter cx 53 n0 4 e H = enterR [] [5] [0, 1, 6] n0 e H := rfl
@[simp] theorem en53_5 (n0 : Nat) (e : Env) (H : Heap) : enter cx 53 n0 5 e H = enterK [0, 1, 5, 6] 0 n0 e H := rfl
@[simp] theorem en53_6 (n0 : Nat) (e : Env) (H : Heap) : enter cx 53 n0 6 e H = enterK [0, 1, 5, 6] 0 n0 e H := rfl
@[simp] theorem en53_7 (n0 : Nat) (e : Env) (H : Heap) : enter cx 53 n0 7 e H = enterK [5] 0 n0 e H := rfl
@[simp] theorem en54_0 (n0 : Nat) (e : Env) (H : Heap) : enter cx 54 n0 0 e H = enterK [0, 1, 2, 3, 4] 0 n0 e H := rfl
@[simp] theorem en54_1 (n0 : Nat) (e : Env) (H : Heap) : enter cx 54 n0 1 e H = enterK [0, 1, 2, 3, 4, 10] 0 n0 e H := rfl
@[simp] theorem en54_2 (n0 : Nat) (e : Env) (H : Heap) : enter cx 54 n0 2 e H = enterK [0, 1, 2, 3, 4, 10, 11] 0 n0 e H := rfl
@[simp] theorem en54_3 (n0 : Nat) (e : Env) (H : Heap) : enter cx 54 n0 3 e H = enterK [0, 1, 2, 3, 4, 10, 11, 12] 0 n0 e H := rfl
@[simp] theorem en54_4 (n0 : Nat) (e : Env) (H : Heap) : enter cx 54 n0 4 e H = enterK [0, 1, 2, 4] 0 n0 e H := rfl
@[simp] theorem en54_5 (n0 : Nat) (e : Env) (H : Heap) : enter cx 54 n0 5 e H = enterK [0, 1, 2, 3, 4, 10, 11, 12] 0 n0 e H := rfl
@[simp] theorem en54_6 (n0 : Nat) (e : Env) (H : Heap) : enter cx 54 n0 6 e H = enterK [0, 1, 2, 4] 0 n0 e H := rfl
@[simp] theorem en54_7 (n0 : Nat) (e : Env) (H : Heap) : enter cx 54 n0 7 e H = enterK [0, 1, 2, 3, 4, 10, 11, 12] 0 n0 e H := rfl
@[simp] theorem en54_8 (n0 : Nat) (e : Env) (H : Heap) : enter cx 54 n0 8 e H = enterK [0, 1, 2, 3, 4, 10, 11, 12] 0 n0 e H := rfl
@[simp] theorem en54_9 (n0 : Nat) (e : Env) (H : Heap) : enter cx 54 n0 9 e H = enterK [0, 1, 2, 3, 4, 10, 11, 12] 0 n0 e H := rfl
@[simp] theorem en54_10 (n0 : Nat) (e : Env) (H : Heap) : enter cx 54 n0 10 e H = enterK [0, 1, 2, 3, 4, 10, 11, 12] 0 n0 e H := rfl
@[simp] theorem en54_11 (n0 : Nat) (e : Env) (H : Heap) : enter cx 54 n0 11 e H = enterK [0, 1, 2, 3, 4, 10, 11, 12, 13, 14] 0 n0 e H := rfl
@[simp] theorem en54_12 (n0 : Nat) (e : Env) (H : Heap) : enter cx 54 n0 12 e H = enterK [0, 1, 2, 3, 4, 10, 11, 12, 13] 0 n0 e H := rfl
@[simp] theorem en54_13 (n0 : Nat) (e : Env) (H : Heap) : enter cx 54 n0 13 e H = enterK [0, 1, 2, 3, 4, 10, 11, 12, 13] 0 n0 e H := rfl
@[simp] theorem en54_14 (n0 : Nat) (e : Env) (H : Heap) : enter cx 54 n0 14 e H = enterK [0, 1, 2, 3, 4, 10, 11, 12, 13] 0 n0 e H := rfl
@[simp] theorem en54_15 (n0 : Nat) (e : Env) (H : Heap) : enter cx 54 n0 15 e H = enterK [0, 1, 2, 3, 4, 10, 11, 12, 13, 14] 0 n0 e H := rfl
@[simp] theorem en54_16 (n0 : Nat) (e : Env) (H : Heap) : enter cx 54 n0 16 e H = enterK [0, 1, 2, 3, 4, 10, 11, 12, 13] 0 n0 e H := rfl
@[simp] theorem en54_17 (n0 : Nat) (e : Env) (H : Heap) : enter cx 54 n0 17 e H = enterK [0, 1, 2, 3, 4, 10, 11, 12, 13] 0 n0 e H := rfl
@[simp] theorem en54_18 (n0 : Nat) (e : Env) (H : Heap) : enter cx 54 n0 18 e H = enterK [0, 1, 2, 3, 4, 10, 11, 13] 0 n0 e H := rfl
@[simp] theorem en54_19 (n0 : Nat) (e : Env) (H : Heap) : enter cx 54 n0 19 e H = enterK [0, 2, 3, 4, 10, 11, 15] 0 n0 e H := rfl
@[simp] theorem en54_20 (n0 : Nat) (e : Env) (H : Heap) : enter cx 54 n0 20 e H = enterK [0, 1, 2, 3, 4, 12, 13] 0 n0 e H := rfl
@[simp] theorem en54_21 (n0 : Nat) (e : Env) (H : Heap) : enter cx 54 n0 21 e H = enterK [0, 1, 2, 3, 4, 12, 16, 17] 0 n0 e H := rfl
@[simp] theorem en54_22 (n0 : Nat) (e : Env) (H : Heap) : enter cx 54 n0 22 e H = enterK [0, 1, 2, 3, 4, 11, 12, 16] 0 n0 e H := rfl
@[simp] theorem en54_23 (n0 : Nat) (e : Env) (H : Heap) : enter cx 54 n0 23 e H = enterK [0, 1, 2, 3, 4, 11, 12, 16, 18, 19] 0 n0 e H := rfl
@[simp] theorem en54_24 (n0 : Nat) (e : Env) (H : Heap) : enter cx 54 n0 24 e H = enterK [0, 1, 2, 3, 4, 11, 16, 18, 19, 20] 0 n0 e H := rfl
@[simp] theorem en54_25 (n0 : Nat) (e : Env) (H : Heap) : enter cx 54 n0 25 e H = enterK [0, 1, 2, 3, 4, 11, 16, 18, 20] 0 n0 e H := rfl
@[simp] theorem en54_26 (n0 : Nat) (e : Env) (H : Heap) : enter cx 54 n0 26 e H = enterK [0, 1, 2, 3, 4, 10, 11, 16] 0 n0 e H := rfl
@[simp] theorem en54_27 (n0 : Nat) (e : Env) (H : Heap) : enter cx 54 n0 27 e H = enterK [0, 2, 3, 4, 10, 11, 16] 0 n0 e H := rfl
@[simp] theorem en54_28 (n0 : Nat) (e : Env) (H : Heap) : enter cx 54 n0 28 e H = enterK [0, 1, 2, 3, 4, 11, 16, 19, 20] 0 n0 e H := rfl
@[simp] theorem en54_29 (n0 : Nat) (e : Env) (H : Heap) : enter cx 54 n0 29 e H = enterK [0, 1, 2, 3, 4, 10, 11, 16] 0 n0 e H := rfl
@[simp] theorem en54_30 (n0 : Nat) (e : Env) (H : Heap) : enter cx 54 n0 30 e H = enterK [0, 1, 3, 4, 10, 11, 16] 0 n0 e H := rfl
@[simp] theorem en55_0 (n0 : Nat) (e : Env) (H : Heap) : enter cx 55 n0 0 e H = enterK [0] 0 n0 e H := rfl
@[simp] theorem en55_1 (n0 : Nat) (e : Env) (H : Heap) : enter cx 55 n0 1 e H = enterK [0] 0 n0 e H := rfl
@[simp] theorem en55_2 (n0 : Nat) (e : Env) (H : Heap) : enter cx 55 n0 2 e H = enterK [0] 0 n0 e H := rfl
@[simp] theorem en56_0 (n0 : Nat) (e : Env) (H : Heap) : enter cx 56 n0 0 e H = enterK [0, 1, 2, 3] 0 n0 e H := rfl
@[simp] theorem en56_1 (n0 : Nat) (e : Env) (H : Heap) : enter cx 56 n0 1 e H = enterK [0, 1, 2, 3, 8] 0 n0 e H := rfl
@[simp] theorem en56_2 (n0 : Nat) (e : Env) (H : Heap) : enter cx 56 n0 2 e H = enterK [0, 1, 2, 3, 8] 0 n0 e H := rfl
@[simp] theorem en56_3 (n0 : Nat) (e : Env) (H : Heap) : enter cx 56 n0 3 e H = enterK [0, 1, 2, 3, 8] 0 n0 e H := rfl
@[simp] theorem en56_4 (n0 : Nat) (e : Env) (H : Heap) : enter cx 56 n0 4 e H = enterK [0, 1, 2, 3, 8, 9] 0 n0 e H := rfl
@[simp] theorem en56_5 (n0 : Nat) (e : Env) (H : Heap) : enter cx 56 n0 5 e H = enterK [0, 1, 2, 3, 8, 9] 0 n0 e H := rfl
@[simp] theorem en56_6 (n0 : Nat) (e : Env) (H : Heap) : enter cx 56 n0 6 e H = enterK [0, 1, 2, 3, 8, 9] 0 n0 e H := rfl
@[simp] theorem en57_0 (n0 : Nat) (e : Env) (H : Heap) : enter cx 57 n0 0 e H = enterK [0, 1, 2, 3] 0 n0 e H := rfl
@[simp] theorem en57_1 (n0 : Nat) (e : Env) (H : Heap) : enter cx 57 n0 1 e H = enterK [0, 1, 2, 3, 8] 0 n0 e H := rfl
@[simp] theorem en57_2 (n0 : Nat) (e : Env) (H : Heap) : enter cx 57 n0 2 e H = enterK [0, 1, 2, 3, 8, 9] 0 n0 e H := rfl
@[simp] theorem en57_3 (n0 : Nat) (e : Env) (H : Heap) : enter cx 57 n0 3 e H = enterK [0, 3, 8, 9, 10] 0 n0 e H := rfl
@[simp] theorem en57_4 (n0 : Nat) (e : Env) (H : Heap) : enter cx 57 n0 4 e H = enterK [0, 3, 8, 9, 10, 11] 0 n0 e H := rfl
@[simp] theorem en57_5 (n0 : Nat) (e : Env) (H : Heap) : enter cx 57 n0 5 e H = enterK [0, 3, 8, 9, 10, 11] 0 n0 e H := rfl
@[simp] theorem en57_6 (n0 : Nat) (e : Env) (H : Heap) : enter cx 57 n0 6 e H = enterK [0, 3, 8, 9, 10, 11] 0 n0 e H := rfl
@[simp] theorem en57_7 (n0 : Nat) (e : Env) (H : Heap) : enter cx 57 n0 7 e H = enterK [0, 3, 8, 9, 10] 0 n0 e H := rfl
@[simp] theorem en57_8 (n0 : Nat) (e : Env) (H : Heap) : enter cx 57 n0 8 e H = enterK [0, 3, 8, 9, 12] 0 n0 e H := rfl
@[simp] theorem en57_9 (n0 : Nat) (e : Env) (H : Heap) : enter cx 57 n0 9 e H = enterK [0, 3, 8, 9, 12] 0 n0 e H := rfl
@[simp] theorem en57_10 (n0 : Nat) (e : Env) (H : Heap) : enter cx 57 n0 10 e H = enterK [0, 3, 8, 9, 12] 0 n0 e H := rfl
@[simp] theorem en57_11 (n0 : Nat) (e : Env) (H : Heap) : enter cx 57 n0 11 e H = enterK [0, 3, 8, 9, 12] 0 n0 e H := rfl
@[simp] theorem en58_0 (n0 : Nat) (e : Env) (H : Heap) : enter cx 58 n0 0 e H = enterK [0, 1, 2] 0 n0 e H := rfl
@[simp] theorem en58_1 (n0 : Nat) (e : Env) (H : Heap) : enter cx 58 n0 1 e H = enterK [0, 1, 8] 0 n0 e H := rfl
@[simp] theorem en58_2 (n0 : Nat) (e : Env) (H : Heap) : enter cx 58 n0 2 e H = enterK [0, 1, 8] 0 n0 e H := rfl
@[simp] theorem en58_3 (n0 : Nat) (e : Env) (H : Heap) : enter cx 58 n0 3 e H = enterK [0, 1, 8, 9] 0 n0 e H := rfl
@[simp] theorem en58_4 (n0 : Nat) (e : Env) (H : Heap) : enter cx 58 n0 4 e H = enterK [0, 1, 8, 9, 10] 0 n0 e H := rfl
@[simp] theorem en58_5 (n0 : Nat) (e : Env) (H : Heap) : enter cx 58 n0 5 e H = enterK [0, 1, 8, 9, 10, 11] 0 n0 e H := rfl
@[simp] theorem en58_6 (n0 : Nat) (e : Env) (H : Heap) : enter cx 58 n0 6 e H = enterK [0, 1, 8, 9, 10, 11] 0 n0 e H := rfl
@[simp] theorem en58_7 (n0 : Nat) (e : Env) (H : Heap) : enter cx 58 n0 7 e H = enterK [0, 1, 8, 9, 10, 11] 0 n0 e H := rfl
@[simp] theorem en58_8 (n0 : Nat) (e : Env) (H : Heap) : enter cx 58 n0 8 e H = enterK [0, 1, 8, 9, 10, 11, 12] 0 n0 e H := rfl
@[simp] theorem en58_9 (n0 : Nat) (e : Env) (H : Heap) : enter cx 58 n0 9 e H = enterK [0, 1, 8, 9, 10, 11, 12] 0 n0 e H := rfl
@[simp] theorem en58_10 (n0 : Nat) (e : Env) (H : Heap) : enter cx 58 n0 10 e H = enterK [0, 1, 8, 9, 10, 11, 12] 0 n0 e H := rfl
@[simp] theorem en59_0 (n0 : Nat) (e : Env) (H : Heap) : enter cx 59 n0 0 e H = enterK [0, 1, 2, 3] 0 n0 e H := rfl
@[simp] theorem en59_1 (n0 : Nat) (e : Env) (H : Heap) : enter cx 59 n0 1 e H = enterK [0, 1, 2, 3] 0 n0 e H := rfl
@[simp] theorem en59_2 (n0 : Nat) (e : Env) (H : Heap) : enter cx 59 n0 2 e H = enterK [0, 1, 3, 10] 0 n0 e H := rfl
@[simp] theorem en59_3 (n0 : Nat) (e : Env) (H : Heap) : enter cx 59 n0 3 e H = enterK [0, 1, 3, 10, 11] 0 n0 e H := rfl
@[simp] theorem en59_4 (n0 : Nat) (e : Env) (H : Heap) : enter cx 59 n0 4 e H = enterK [0, 1, 3, 10, 11, 12] 0 n0 e H := rfl
@[simp] theorem en59_5 (n0 : Nat) (e : Env) (H : Heap) : enter cx 59 n0 5 e H = enterK [0, 1, 3, 10, 11, 12, 13] 0 n0 e H := rfl
@[simp] theorem en59_6 (n0 : Nat) (e : Env) (H : Heap) : enter cx 59 n0 6 e H = enterK [0, 3, 10, 11, 12, 13, 14] 0 n0 e H := rfl
@[simp] theorem en59_7 (n0 : Nat) (e : Env) (H : Heap) : enter cx 59 n0 7 e H = enterK [0, 3, 10, 11, 12, 13, 14] 0 n0 e H := rfl
@[simp] theorem en59_8 (n0 : Nat) (e : Env) (H : Heap) : enter cx 59 n0 8 e H = enterK [0, 3, 11, 12, 13, 14] 0 n0 e H := rfl
@[simp] theorem en59_9 (n0 : Nat) (e : Env) (H : Heap) : enter cx 59 n0 9 e H = enterK [0, 3, 11, 12, 13, 14] 0 n0 e H := rfl
@[simp] theorem en59_10 (n0 : Nat) (e : Env) (H : Heap) : enter cx 59 n0 10 e H = enterK [0, 3, 11, 12, 13, 14] 0 n0 e H := rfl
@[simp] theorem en59_11 (n0 : Nat) (e : Env) (H : Heap) : enter cx 59 n0 11 e H = enterK [0, 3, 11, 12, 13, 14] 0 n0 e H := rfl
@[simp] theorem en59_12 (n0 : Nat) (e : Env) (H : Heap) : enter cx 59 n0 12 e H = enterK [11, 13] 0 n0 e H := rfl
@[simp] theorem en59_13 (n0 : Nat) (e : Env) (H : Heap) : enter cx 59 n0 13 e H = enterK [13] 0 n0 e H := rfl
@[simp] theorem en59_14 (n0 : Nat) (e : Env) (H : Heap) : enter cx 59 n0 14 e H = enterK [13, 55] 0 n0 e H := rfl
@[simp] theorem en59_15 (n0 : Nat) (e : Env) (H : Heap) : enter cx 59 n0 15 e H = enterK [13] 0 n0 e H := rfl
@[simp] theorem en59_16 (n0 : Nat) (e : Env) (H : Heap) : enter cx 59 n0 16 e H = enterK [13, 55] 0 n0 e H := rfl
@[simp] theorem en59_17 (n0 : Nat) (e : Env) (H : Heap) : enter cx 59 n0 17 e H = enterK [13] 0 n0 e H := rfl
@[simp] theorem en60_0 (n0 : Nat) (e : Env) (H : Heap) : enter cx 60 n0 0 e H = enterK [0, 1, 2] 0 n0 e H := rfl
@[simp] theorem en60_1 (n0 : Nat) (e : Env) (H : Heap) : enter cx 60 n0 1 e H = enterK [0, 2, 8] 0 n0 e H := rfl
@[simp] theorem en60_2 (n0 : Nat) (e : Env) (H : Heap) : enter cx 60 n0 2 e H = enterK [0, 8, 9] 0 n0 e H := rfl
@[simp] theorem en60_3 (n0 : Nat) (e : Env) (H : Heap) : enter cx 60 n0 3 e H = enterK [0, 8, 9] 0 n0 e H := rfl
@[simp] theorem en60_4 (n0 : Nat) (e : Env) (H : Heap) : enter cx 60 n0 4 e H = enterK [0, 8, 9] 0 n0 e H := rfl
@[simp] theorem en60_5 (n0 : Nat) (e : Env) (H : Heap) : enter cx 60 n0 5 e H = enterK [0, 8, 9] 0 n0 e H := rfl
@[simp] theorem en61_0 (n0 : Nat) (e : Env) (H : Heap) : enter cx 61 n0 0 e H = enterK [0, 1, 2, 3] 0 n0 e H := rfl
@[simp] theorem en61_1 (n0 : Nat) (e : Env) (H : Heap) : enter cx 61 n0 1 e H = enterK [0, 1, 2, 3] 0 n0 e H := rfl
@[simp] theorem en61_2 (n0 : Nat) (e : Env) (H : Heap) : enter cx 61 n0 2 e H = enterK [0, 1, 2, 3, 9] 0 n0 e H := rfl
@[simp] theorem en61_3 (n0 : Nat) (e : Env) (H : Heap) : enter cx 61 n0 3 e H = enterK [0, 1, 2, 3, 9, 10] 0 n0 e H := rfl
@[simp] theorem en61_4 (n0 : Nat) (e : Env) (H : Heap) : enter cx 61 n0 4 e H = enterK [0, 1, 2, 3, 9, 10] 0 n0 e H := rfl
@[simp] theorem en61_5 (n0 : Nat) (e : Env) (H : Heap) : enter cx 61 n0 5 e H = enterK [0, 1, 2, 3, 9, 10] 0 n0 e H := rfl
@[simp] theorem en61_6 (n0 : Nat) (e : Env) (H : Heap) : enter cx 61 n0 6 e H = enterK [0, 1, 2, 3, 9, 10] 0 n0 e H := rfl
@[simp] theorem en61_7 (n0 : Nat) (e : Env) (H : Heap) : enter cx 61 n0 7 e H = enterK [0, 1, 2, 3, 9, 10] 0 n0 e H := rfl
@[simp] theorem en61_8 (n0 : Nat) (e : Env) (H : Heap) : enter cx 61 n0 8 e H = enterK [] 0 n0 e H := rfl
@[simp] theorem en61_9 (n0 : Nat) (e : Env) (H : Heap) : enter cx 61 n0 9 e H = enterK [0, 1, 2, 3, 9, 10] 0 n0 e H := rfl
@[simp] theorem en61_10 (n0 : Nat) (e : Env) (H : Heap) : enter cx 61 n0 10 e H = enterK [] 0 n0 e H := rfl
@[simp] theorem en61_11 (n0 : Nat) (e : Env) (H : Heap) : enter cx 61 n0 11 e H = enterK [0, 1, 2, 3, 9, 10] 0 n0 e H := rfl
@[simp] theorem en61_12 (n0 : Nat) (e : Env) (H : Heap) : enter cx 61 n0 12 e H = enterK [0, 1, 2, 3, 9, 10] 0 n0 e H := rfl
@[simp] theorem en61_13 (n0 : Nat) (e : Env) (H : Heap) : enter cx 61 n0 13 e H = enterK [0, 1, 2, 3, 9, 10] 0 n0 e H := rfl
@[simp] theorem en61_14 (n0 : Nat) (e : Env) (H : Heap) : enter cx 61 n0 14 e H = enterK [0, 1, 2, 3, 9, 10, 11] 0 n0 e H := rfl
@[simp] theorem en61_15 (n0 : Nat) (e : Env) (H : Heap) : enter cx 61 n0 15 e H = enterK [0, 1, 2, 3, 9, 10, 11] 0 n0 e H := rfl
@[simp] theorem en61_16 (n0 : Nat) (e : Env) (H : Heap) : enter cx 61 n0 16 e H = enterK [0, 1, 2, 3, 9, 10, 11] 0 n0 e H := rfl
@[simp] theorem en61_17 (n0 : Nat) (e : Env) (H : Heap) : enter cx 61 n0 17 e H = enterK [0, 1, 2, 3, 9, 10, 11] 0 n0 e H := rfl
@[simp] theorem en61_18 (n0 : Nat) (e : Env) (H : Heap) : enter cx 61 n0 18 e H = enterK [0, 1, 2, 3, 9, 10] 0 n0 e H := rfl
@[simp] theorem en61_19 (n0 : Nat) (e : Env) (H : Heap) : enter cx 61 n0 19 e H = enterK [0, 1, 2, 3, 9, 10] 0 n0 e H := rfl
@[simp] theorem en61_20 (n0 : Nat) (e : Env) (H : Heap) : enter cx 61 n0 20 e H = enterK [0, 1, 2, 3, 9, 10, 12] 0 n0 e H := rfl
@[simp] theorem en61_21 (n0 : Nat) (e : Env) (H : Heap) : enter cx 61 n0 21 e H = enterK [0, 1, 2, 3, 9, 10, 12] 0 n0 e H := rfl
@[simp] theorem en61_22 (n0 : Nat) (e : Env) (H : Heap) : enter cx 61 n0 22 e H = enterK [0, 1, 2, 3, 9, 10, 12] 0 n0 e H := rfl
@[simp] theorem en61_23 (n0 : Nat) (e : Env) (H : Heap) : enter cx 61 n0 23 e H = enterK [0, 1, 2, 3, 9, 10, 12] 0 n0 e H := rfl
@[simp] theorem en61_24 (n0 : Nat) (e : Env) (H : Heap) : enter cx 61 n0 24 e H = enterK [] 0 n0 e H := rfl
@[simp] theorem en62_0 (n0 : Nat) (e : Env) (H : Heap) : enter cx 62 n0 0 e H = enterK [0, 1, 2, 3, 4] 0 n0 e H := rfl
@[simp] theorem en62_1 (n0 : Nat) (e : Env) (H : Heap) : enter cx 62 n0 1 e H = enterK [0, 1, 2, 3, 4] 0 n0 e H := rfl
@[simp] theorem en62_2 (n0 : Nat) (e : Env) (H : Heap) : enter cx 62 n0 2 e H = enterK [0, 1, 2, 4] 0 n0 e H := rfl
@[simp] theorem en62_3 (n0 : Nat) (e : Env) (H : Heap) : enter cx 62 n0 3 e H = enterK [0, 1, 4, 11, 12] 0 n0 e H := rfl
@[simp] theorem en62_4 (n0 : Nat) (e : Env) (H : Heap) : enter cx 62 n0 4 e H = enterK [0, 1, 4, 11, 12] 0 n0 e H := rfl
@[simp] theorem en62_5 (n0 : Nat) (e : Env) (H : Heap) : enter cx 62 n0 5 e H = enterK [0, 1, 4, 11, 12] 0 n0 e H := rfl
@[simp] theorem en62_6 (n0 : Nat) (e : Env) (H : Heap) : enter cx 62 n0 6 e H = enterK [0, 1, 4, 11, 12] 0 n0 e H := rfl
@[simp] theorem en62_7 (n0 : Nat) (e : Env) (H : Heap) : enter cx 62 n0 7 e H = enterK [0, 1, 4, 11, 12] 0 n0 e H := rfl
@[simp] theorem en62_8 (n0 : Nat) (e : Env) (H : Heap) : enter cx 62 n0 8 e H = enterK [0, 1, 4, 11, 12] 0 n0 e H := rfl
@[simp] theorem en62_9 (n0 : Nat) (e : Env) (H : Heap) : enter cx 62 n0 9 e H = enterK [0, 1, 4, 11, 12] 0 n0 e H := rfl
@[simp] theorem en62_10 (n0 : Nat) (e : Env) (H : Heap) : enter cx 62 n0 10 e H = enterK [0, 1, 4, 11, 12] 0 n0 e H := rfl
@[simp] theorem en62_11 (n0 : Nat) (e : Env) (H : Heap) : enter cx 62 n0 11 e H = enterK [11] 0 n0 e H := rfl
@[simp] theorem en63_0 (n0 : Nat) (e : Env) (H : Heap) : enter cx 63 n0 0 e H = enterK [0, 1, 2, 3, 4] 0 n0 e H := rfl
@[simp] theorem en63_1 (n0 : Nat) (e : Env) (H : Heap) : enter cx 63 n0 1 e H = enterK [0, 1, 2, 3, 4] 0 n0 e H := rfl
@[simp] theorem en63_2 (n0 : Nat) (e : Env) (H : Heap) : enter cx 63 n0 2 e H = enterK [0, 1, 2, 4] 0 n0 e H := rfl
@[simp] theorem en63_3 (n0 : Nat) (e : Env) (H : Heap) : enter cx 63 n0 3 e H = enterK [0, 1, 4, 12, 13] 0 n0 e H := rfl
@[simp] theorem en63_4 (n0 : Nat) (e : Env) (H : Heap) : enter cx 63 n0 4 e H = enterK [0, 1, 4, 12, 13] 0 n0 e H := rfl
@[simp] theorem en63_5 (n0 : Nat) (e : Env) (H : Heap) : enter cx 63 n0 5 e H = enterK [0, 1, 4, 12, 13] 0 n0 e H := rfl
@[simp] theorem en63_6 (n0 : Nat) (e : Env) (H : Heap) : enter cx 63 n0 6 e H = enterK [0, 1, 4, 12, 13] 0 n0 e H := rfl
@[simp] theorem en63_7 (n0 : Nat) (e : Env) (H : Heap) : enter cx 63 n0 7 e H = enterK [0, 1, 4, 12, 13] 0 n0 e H := rfl
@[simp] theorem en63_8 (n0 : Nat) (e : Env) (H : Heap) : enter cx 63 n0 8 e H = enterK [0, 1, 13] 0 n0 e H := rfl
@[simp] theorem en63_9 (n0 : Nat) (e : Env) (H : Heap) : enter cx 63 n0 9 e H = enterK [13] 0 n0 e H := rfl
@[simp] theorem en63_10 (n0 : Nat) (e : Env) (H : Heap) : enter cx 63 n0 10 e H = enterK [0, 1, 4, 12, 13] 0 n0 e H := rfl
@[simp] theorem en63_11 (n0 : Nat) (e : Env) (H : Heap) : enter cx 63 n0 11 e H = enterK [0, 1, 4, 12, 13] 0 n0 e H := rfl
@[simp] theorem en63_12 (n0 : Nat) (e : Env) (H : Heap) : enter cx 63 n0 12 e H = enterK [0, 1, 4, 12, 13] 0 n0 e H := rfl
@[simp] theorem en63_13 (n0 : Nat) (e : Env) (H : Heap) : enter cx 63 n0 13 e H = enterK [0, 1, 4, 12, 13] 0 n0 e H := rfl
@[simp] theorem en63_14 (n0 : Nat) (e : Env) (H : Heap) : enter cx 63 n0 14 e H = enterK [0, 1, 4, 12, 13] 0 n0 e H := rfl
@[simp] theorem en63_15 (n0 : Nat) (e : Env) (H : Heap) : enter cx 63 n0 15 e H = enterK [0, 1, 4, 12, 13] 0 n0 e H := rfl
@[simp] theorem en63_16 (n0 : Nat) (e : Env) (H : Heap) : enter cx 63 n0 16 e H = enterK [0, 1, 4, 12, 13] 0 n0 e H := rfl
@[simp] theorem en63_17 (n0 : Nat) (e : Env) (H : Heap) : enter cx 63 n0 17 e H = enterK [0, 1, 4, 12, 13] 0 n0 e H := rfl
@[simp] theorem en63_18 (n0 : Nat) (e : Env) (H : Heap) : enter cx 63 n0 18 e H = enterK [0, 1, 4, 12, 13] 0 n0 e H := rfl
@[simp] theorem en63_19 (n0 : Nat) (e : Env) (H : Heap) : enter cx 63 n0 19 e H = enterK [0, 1, 4, 12, 13] 0 n0 e H := rfl
@[simp] theorem en63_20 (n0 : Nat) (e : Env) (H : Heap) : enter cx 63 n0 20 e H = enterK [0, 1, 4, 12, 13] 0 n0 e H := rfl
@[simp] theorem en63_21 (n0 : Nat) (e : Env) (H : Heap) : enter cx 63 n0 21 e H = enterK [0, 1, 13] 0 n0 e H := rfl
@[simp] theorem en63_22 (n0 : Nat) (e : Env) (H : Heap) : enter cx 63 n0 22 e H = enterK [13] 0 n0 e H := rfl
@[simp] theorem en64_0 (n0 : Nat) (e : Env) (H : Heap) : enter cx 64 n0 0 e H = enterK [0] 0 n0 e H := rfl
@[simp] theorem en64_1 (n0 : Nat) (e : Env) (H : Heap) : enter cx 64 n0 1 e H = enterK [0, 2] 0 n0 e H := rfl
@[simp] theorem en64_2 (n0 : Nat) (e : Env) (H : Heap) : enter cx 64 n0 2 e H = enterK [0] 0 n0 e H := rfl
@[simp] theorem en64_3 (n0 : Nat) (e : Env) (H : Heap) : enter cx 64 n0 3 e H = enterK [0] 0 n0 e H := rfl
@[simp] theorem en64_4 (n0 : Nat) (e : Env) (H : Heap) : enter cx 64 n0 4 e H = enterK [0, 2] 0 n0 e H := rfl
@[simp] theorem en64_5 (n0 : Nat) (e : Env) (H : Heap) : enter cx 64 n0 5 e H = enterK [0, 2] 0 n0 e H := rfl
@[simp] theorem en64_6 (n0 : Nat) (e : Env) (H : Heap) : enter cx 64 n0 6 e H = enterK [0, 2] 0 n0 e H := rfl
@[simp] theorem en64_7 (n0 : Nat) (e : Env) (H : Heap) : enter cx 64 n0 7 e H = enterK [0, 2] 0 n0 e H := rfl
@[simp] theorem en65_0 (n0 : Nat) (e : Env) (H : Heap) : enter cx 65 n0 0 e H = enterK [0] 0 n0 e H := rfl
@[simp] theorem en65_1 (n0 : Nat) (e : Env) (H : Heap) : enter cx 65 n0 1 e H = enterK [0, 2] 0 n0 e H := rfl
@[simp] theorem en65_2 (n0 : Nat) (e : Env) (H : Heap) : enter cx 65 n0 2 e H = enterK [0] 0 n0 e H := rfl
@[simp] theorem en65_3 (n0 : Nat) (e : Env) (H : Heap) : enter cx 65 n0 3 e H = enterK [0] 0 n0 e H := rfl
@[simp] theorem en65_4 (n0 : Nat) (e : Env) (H : Heap) : enter cx 65 n0 4 e H = enterK [0, 2] 0 n0 e H := rfl
@[simp] theorem en65_5 (n0 : Nat) (e : Env) (H : Heap) : enter cx 65 n0 5 e H = enterK [0, 2] 0 n0 e H := rfl
@[simp] theorem en65_6 (n0 : Nat) (e : Env) (H : Heap) : enter cx 65 n0 6 e H = enterK [0, 2] 0 n0 e H := rfl
@[simp] theorem en65_7 (n0 : Nat) (e : Env) (H : Heap) : enter cx 65 n0 7 e H = enterK [0, 2] 0 n0 e H := rfl
@[simp] theorem en65_8 (n0 : Nat) (e : Env) (H : Heap) : enter cx 65 n0 8 e H = enterK [0, 2] 0 n0 e H := rfl
@[simp] theorem en65_9 (n0 : Nat) (e : Env) (H : Heap) : enter cx 65 n0 9 e H = enterK [0, 2] 0 n0 e H := rfl
@[simp] theorem en65_10 (n0 : Nat) (e : Env) (H : Heap) : enter cx 65 n0 10 e H = enterK [0, 2] 0 n0 e H := rfl
@[simp] theorem en66_0 (n0 : Nat) (e : Env) (H : Heap) : enter cx 66 n0 0 e H = enterK [0, 1, 2, 3, 4] 0 n0 e H := rfl
@[simp] theorem en66_1 (n0 : Nat) (e : Env) (H : Heap) : enter cx 66 n0 1 e H = enterK [0, 2, 3, 4, 10] 0 n0 e H := rfl
@[simp] theorem en66_2 (n0 : Nat) (e : Env) (H : Heap) : enter cx 66 n0 2 e H = enterK [0, 2, 3, 4, 10, 11] 0 n0 e H := rfl
@[simp] theorem en66_3 (n0 : Nat) (e : Env) (H : Heap) : enter cx 66 n0 3 e H = enterK [0, 2, 3, 4, 10, 11] 0 n0 e H := rfl
@[simp] theorem en66_4 (n0 : Nat) (e : Env) (H : Heap) : enter cx 66 n0 4 e H = enterK [0, 2, 3, 4, 10, 11] 0 n0 e H := rfl
@[simp] theorem en66_5 (n0 : Nat) (e : Env) (H : Heap) : enter cx 66 n0 5 e H = enterK [0, 2, 3, 4, 10, 11] 0 n0 e H := rfl
@[simp] theorem en66_6 (n0 : Nat) (e : Env) (H : Heap) : enter cx 66 n0 6 e H = enterK [0, 2, 3, 4, 10, 11] 0 n0 e H := rfl
@[simp] theorem en66_7 (n0 : Nat) (e : Env) (H : Heap) : enter cx 66 n0 7 e H = enterK [0, 2, 3, 4, 11] 0 n0 e H := rfl
@[simp] theorem en67_0 (n0 : Nat) (e : Env) (H : Heap) : enter cx 67 n0 0 e H = enterK [0] 0 n0 e H := rfl
@[simp] theorem en67_1 (n0 : Nat) (e : Env) (H : Heap) : enter cx 67 n0 1 e H = enterK [0] 0 n0 e H := rfl
@[simp] theorem en68_0 (n0 : Nat) (e : Env) (H : Heap) : enter cx 68 n0 0 e H = enterK [0] 0 n0 e H := rfl
@[simp] theorem en68_1 (n0 : Nat) (e : Env) (H : Heap) : enter cx 68 n0 1 e H = enterK [0] 0 n0 e H := rfl
@[simp] theorem en68_2 (n0 : Nat) (e : Env) (H : Heap) : enter cx 68 n0 2 e H = enterK [0] 0 n0 e H := rfl
@[simp] theorem en68_3 (n0 : Nat) (e : Env) (H : Heap) : enter cx 68 n0 3 e H = enterK [0] 0 n0 e H := rfl
@[simp] theorem en68_4 (n0 : Nat) (e : Env) (H : Heap) : enter cx 68 n0 4 e H = enterK [0] 0 n0 e H := rfl
@[simp] theorem en69_0 (n0 : Nat) (e : Env) (H : Heap) : enter cx 69 n0 0 e H = enterK [0, 1, 2, 3] 0 n0 e H := rfl
@[simp] theorem en69_1 (n0 : Nat) (e : Env) (H : Heap) : enter cx 69 n0 1 e H = enterK [0, 1, 2, 3] 0 n0 e H := rfl
@[simp] theorem en70_0 (n0 : Nat) (e : Env) (H : Heap) : enter cx 70 n0 0 e H = enterK [0, 1, 2, 3, 4, 5] 0 n0 e H := rfl
@[simp] theorem en70_1 (n0 : Nat) (e : Env) (H : Heap) : enter cx 70 n0 1 e H = enterK [0, 1, 2, 3, 4, 5] 0 n0 e H := rfl
@[simp] theorem en70_2 (n0 : Nat) (e : Env) (H : Heap) : enter cx 70 n0 2 e H = enterK [0, 1, 2, 3, 4, 5] 0 n0 e H := rfl
@[simp] theorem en70_3 (n0 : Nat) (e : Env) (H : Heap) : enter cx 70 n0 3 e H = enterK [0, 1, 2, 4, 5] 0 n0 e H := rfl
@[simp] theorem en70_4 (n0 : Nat) (e : Env) (H : Heap) : enter cx 70 n0 4 e H = enterK [2] 0 n0 e H := rfl
@[simp] theorem en71_0 (n0 : Nat) (e : Env) (H : Heap) : enter cx 71 n0 0 e H = enterK [0, 1, 2, 3, 4] 0 n0 e H := rfl
@[simp] theorem en71_1 (n0 : Nat) (e : Env) (H : Heap) : enter cx 71 n0 1 e H = enterK [0, 1, 2, 3, 4] 0 n0 e H := rfl
@[simp] theorem en71_2 (n0 : Nat) (e : Env) (H : Heap) : enter cx 71 n0 2 e H = enterK [1, 2, 3] 0 n0 e H := rfl
@[simp] theorem en71_3 (n0 : Nat) (e : Env) (H : Heap) : enter cx 71 n0 3 e H = enterK [1, 2] 0 n0 e H := rfl
@[simp] theorem en71_4 (n0 : Nat) (e : Env) (H : Heap) : enter cx 71 n0 4 e H = enterK [1, 2] 0 n0 e H := rfl
end Go.Ev.S
/- What the evaluator needs of this program: printed by program. -/
namespace Go.Ev.S
open Go Go.Proofs Go.Ev
@[simp] theorem sz3 : szOf Try.prog 3 = 1 := by kernel_rfl
@[simp] theorem ag3 : aggQ Try.prog 3 = some false := by kernel_rfl
@[simp] theorem by3 : bytesOf Try.prog 3 = 8 := by kernel_rfl
@[simp] theorem zo3 : zeroOf Try.prog 3 = some (.int .i64 0) := by kernel_rfl
@[simp] theorem un3 : Try.prog.underlying 3 = some (.int .i64) := by kernel_rfl
@[simp] theorem sz4 : szOf Try.prog 4 = 1 := by kernel_rfl
@[simp] theorem ag4 : aggQ Try.prog 4 = some false := by kernel_rfl
@[simp] theorem by4 : bytesOf Try.prog 4 = 1 := by kernel_rfl
@[simp] theorem zo4 : zeroOf Try.prog 4 = some (.bool false) := by kernel_rfl
@[simp] theorem un4 : Try.prog.underlying 4 = some .bool := by kernel_rfl
@[simp] theorem sz5 : szOf Try.prog 5 = 1 := by kernel_rfl
@[simp] theorem ag5 : aggQ Try.prog 5 = some false := by kernel_rfl
@[simp] theorem by5 : bytesOf Try.prog 5 = 1 := by kernel_rfl
@[simp] theorem zo5 : zeroOf Try.prog 5 = some (.int .u8 0) := by kernel_rfl
@[simp] theorem un5 : Try.prog.underlying 5 = some (.int .u8) := by kernel_rfl
@[simp] theorem sz9 : szOf Try.prog 9 = 1 := by kernel_rfl
@[simp] theorem ag9 : aggQ Try.prog 9 = some false := by kernel_rfl
@[simp] theorem by9 : bytesOf Try.prog 9 = 16 := by kernel_rfl
@[simp] theorem zo9 : zeroOf Try.prog 9 = some (.str []) := by kernel_rfl
@[simp] theorem un9 : Try.prog.underlying 9 = some .string := by kernel_rfl
@[simp] theorem sz22 : szOf Try.prog 22 = 1 := by kernel_rfl
@[simp] theorem ag22 : aggQ Try.prog 22 = some false := by kernel_rfl
@[simp] theorem by22 : bytesOf Try.prog 22 = 24 := by kernel_rfl
@[simp] theorem zo22 : zeroOf Try.prog 22 = some (.vsl true [] 0) := by kernel_rfl
@[simp] theorem un22 : Try.prog.underlying 22 = some (.slice 3) := by kernel_rfl
@[simp] theorem sz24 : szOf Try.prog 24 = 1 := by kernel_rfl
@[simp] theorem ag24 : aggQ Try.prog 24 = some false := by kernel_rfl
@[simp] theorem by24 : bytesOf Try.prog 24 = 24 := by kernel_rfl
@[simp] theorem zo24 : zeroOf Try.prog 24 = some (.vsl true [] 0) := by kernel_rfl
@[simp] theorem un24 : Try.prog.underlying 24 = some (.slice 38) := by kernel_rfl
@[simp] theorem sz25 : szOf Try.prog 25 = 1 := by kernel_rfl
@[simp] theorem ag25 : aggQ Try.prog 25 = some false := by kernel_rfl
@[simp] theorem by25 : bytesOf Try.prog 25 = 8 := by kernel_rfl
@[simp] theorem zo25 : zeroOf Try.prog 25 = some (.int .u64 0) := by kernel_rfl
@[simp] theorem un25 : Try.prog.underlying 25 = some (.int .u64) := by kernel_rfl
@[simp] theorem sz26 : szOf Try.prog 26 = 16 := by kernel_rfl
@[simp] theorem ag26 : aggQ Try.prog 26 = some true := by kernel_rfl
@[simp] theorem by26 : bytesOf Try.prog 26 = 16 := by kernel_rfl
@[simp] theorem zo26 : zeroOf Try.prog 26 = some (.agg [.int .u8 0, .int .u8 0, .int .u8 0, .int .u8 0, .int .u8 0, .int .u8 0, .int .u8 0, .int .u8 0, .int .u8 0, .int .u8 0, .int .u8 0, .int .u8 0, .int .u8 0, .int .u8 0, .int .u8 0, .int .u8 0]) := by kernel_rfl
@[simp] theorem un26 : Try.prog.underlying 26 = some (.array 16 5) := by kernel_rfl
@[simp] theorem sz27 : szOf Try.prog 27 = 16 := by kernel_rfl
@[simp] theorem ag27 : aggQ Try.prog 27 = some true := by kernel_rfl
@[simp] theorem by27 : bytesOf Try.prog 27 = 16 := by kernel_rfl
@[simp] theorem zo27 : zeroOf Try.prog 27 = some (.agg [.int .u8 0, .int .u8 0, .int .u8 0, .int .u8 0, .int .u8 0, .int .u8 0, .int .u8 0, .int .u8 0, .int .u8 0, .int .u8 0, .int .u8 0, .int .u8 0, .int .u8 0, .int .u8 0, .int .u8 0, .int .u8 0]) := by kernel_rfl
@[simp] theorem un27 : Try.prog.underlying 27 = some (.array 16 5) := by kernel_rfl
@[simp] theorem sz30 : szOf Try.prog 30 = 1 := by kernel_rfl
@[simp] theorem ag30 : aggQ Try.prog 30 = some false := by kernel_rfl
@[simp] theorem by30 : bytesOf Try.prog 30 = 24 := by kernel_rfl
@[simp] theorem zo30 : zeroOf Try.prog 30 = some (.vsl true [] 0) := by kernel_rfl
@[simp] theorem un30 : Try.prog.underlying 30 = some (.slice 118) := by kernel_rfl
@[simp] theorem sz31 : szOf Try.prog 31 = 20 := by kernel_rfl
@[simp] theorem ag31 : aggQ Try.prog 31 = some true := by kernel_rfl
@[simp] theorem by31 : bytesOf Try.prog 31 = 64 := by kernel_rfl
@[simp] theorem zo31 : zeroOf Try.prog 31 = some (.agg [.int .u64 0, .int .u64 0, .int .u64 0, .int .u8 0, .int .u8 0, .int .u8 0, .int .u8 0, .int .u8 0, .int .u8 0, .int .u8 0, .int .u8 0, .int .u8 0, .int .u8 0, .int .u8 0, .int .u8 0, .int .u8 0, .int .u8 0, .int .u8 0, .int .u8 0, .vsl true [] 0]) := by kernel_rfl
attribute [simp] Try.underlying31
@[simp] theorem sz32 : szOf Try.prog 32 = 20 := by kernel_rfl
@[simp] theorem ag32 : aggQ Try.prog 32 = some true := by kernel_rfl
@[simp] theorem by32 : bytesOf Try.prog 32 = 64 := by kernel_rfl
@[simp] theorem zo32 : zeroOf Try.prog 32 = some (.agg [.int .u64 0, .int .u64 0, .int .u64 0, .int .u8 0, .int .u8 0, .int .u8 0, .int .u8 0, .int .u8 0, .int .u8 0, .int .u8 0, .int .u8 0, .int .u8 0, .int .u8 0, .int .u8 0, .int .u8 0, .int .u8 0, .int .u8 0, .int .u8 0, .int .u8 0, .vsl true [] 0]) := by kernel_rfl
attribute [simp] Try.underlying32
@[simp] theorem sz33 : szOf Try.prog 33 = 39 := by kernel_rfl
@[simp] theorem ag33 : aggQ Try.prog 33 = some true := by kernel_rfl
@[simp] theorem by33 : bytesOf Try.prog 33 = 104 := by kernel_rfl
@[simp] theorem zo33 : zeroOf Try.prog 33 = some (.agg [.int .u8 0, .int .u8 0, .int .u8 0, .int .u8 0, .int .u8 0, .int .u8 0, .int .u8 0, .int .u8 0, .int .u8 0, .int .u8 0, .int .u8 0, .int .u8 0, .int .u8 0, .int .u8 0, .int .u8 0, .int .u8 0, .bool false, .int .u64 0, .int .u64 0, .int .u64 0, .int .u64 0, .int .u64 0, .int .u8 0, .int .u8 0, .int .u8 0, .int .u8 0, .int .u8 0, .int .u8 0, .int .u8 0, .int .u8 0, .int .u8 0, .int .u8 0, .int .u8 0, .int .u8 0, .int .u8 0, .int .u8 0, .int .u8 0, .int .u8 0, .vsl true [] 0]) := by kernel_rfl
attribute [simp] Try.underlying33
@[simp] theorem sz34 : szOf Try.prog 34 = 39 := by kernel_rfl
@[simp] theorem ag34 : aggQ Try.prog 34 = some true := by kernel_rfl
@[simp] theorem by34 : bytesOf Try.prog 34 = 104 := by kernel_rfl
@[simp] theorem zo34 : zeroOf Try.prog 34 = some (.agg [.int .u8 0, .int .u8 0, .int .u8 0, .int .u8 0, .int .u8 0, .int .u8 0, .int .u8 0, .int .u8 0, .int .u8 0, .int .u8 0, .int .u8 0, .int .u8 0, .int .u8 0, .int .u8 0, .int .u8 0, .int .u8 0, .bool false, .int .u64 0, .int .u64 0, .int .u64 0, .int .u64 0, .int .u64 0, .int .u8 0, .int .u8 0, .int .u8 0, .int .u8 0, .int .u8 0, .int .u8 0, .int .u8 0, .int .u8 0, .int .u8 0, .int .u8 0, .int .u8 0, .int .u8 0, .int .u8 0, .int .u8 0, .int .u8 0, .int .u8 0, .vsl true [] 0]) := by kernel_rfl
attribute [simp] Try.underlying34
@[simp] theorem sz37 : szOf Try.prog 37 = 19 := by kernel_rfl
@[simp] theorem ag37 : aggQ Try.prog 37 = some true := by kernel_rfl
@[simp] theorem by37 : bytesOf Try.prog 37 = 40 := by kernel_rfl
@[simp] theorem zo37 : zeroOf Try.prog 37 = some (.agg [.int .u8 0, .int .u8 0, .int .u8 0, .int .u8 0, .int .u8 0, .int .u8 0, .int .u8 0, .int .u8 0, .int .u8 0, .int .u8 0, .int .u8 0, .int .u8 0, .int .u8 0, .int .u8 0, .int .u8 0, .int .u8 0, .int .u64 0, .int .u64 0, .int .u64 0]) := by kernel_rfl
attribute [simp] Try.underlying37
@[simp] theorem sz38 : szOf Try.prog 38 = 19 := by kernel_rfl
@[simp] theorem ag38 : aggQ Try.prog 38 = some true := by kernel_rfl
@[simp] theorem by38 : bytesOf Try.prog 38 = 40 := by kernel_rfl
@[simp] theorem zo38 : zeroOf Try.prog 38 = some (.agg [.int .u8 0, .int .u8 0, .int .u8 0, .int .u8 0, .int .u8 0, .int .u8 0, .int .u8 0, .int .u8 0, .int .u8 0, .int .u8 0, .int .u8 0, .int .u8 0, .int .u8 0, .int .u8 0, .int .u8 0, .int .u8 0, .int .u64 0, .int .u64 0, .int .u64 0]) := by kernel_rfl
attribute [simp] Try.underlying38
@[simp] theorem sz42 : szOf Try.prog 42 = 1 := by kernel_rfl
@[simp] theorem ag42 : aggQ Try.prog 42 = some false := by kernel_rfl
@[simp] theorem by42 : bytesOf Try.prog 42 = 8 := by kernel_rfl
@[simp] theorem zo42 : zeroOf Try.prog 42 = some (.nilp) := by kernel_rfl
@[simp] theorem un42 : Try.prog.underlying 42 = some (.pointer 44) := by kernel_rfl
@[simp] theorem sz43 : szOf Try.prog 43 = 2 := by kernel_rfl
@[simp] theorem ag43 : aggQ Try.prog 43 = some true := by kernel_rfl
@[simp] theorem by43 : bytesOf Try.prog 43 = 32 := by kernel_rfl
@[simp] theorem zo43 : zeroOf Try.prog 43 = some (.agg [.vsl true [] 0, .int .i64 0]) := by kernel_rfl
attribute [simp] Try.underlying43
@[simp] theorem sz44 : szOf Try.prog 44 = 2 := by kernel_rfl
@[simp] theorem ag44 : aggQ Try.prog 44 = some true := by kernel_rfl
@[simp] theorem by44 : bytesOf Try.prog 44 = 32 := by kernel_rfl
@[simp] theorem zo44 : zeroOf Try.prog 44 = some (.agg [.vsl true [] 0, .int .i64 0]) := by kernel_rfl
attribute [simp] Try.underlying44
@[simp] theorem sz49 : szOf Try.prog 49 = 1 := by kernel_rfl
@[simp] theorem ag49 : aggQ Try.prog 49 = some false := by kernel_rfl
@[simp] theorem by49 : bytesOf Try.prog 49 = 24 := by kernel_rfl
@[simp] theorem zo49 : zeroOf Try.prog 49 = some (.vsl true [] 0) := by kernel_rfl
@[simp] theorem un49 : Try.prog.underlying 49 = some (.slice 5) := by kernel_rfl
@[simp] theorem sz66 : szOf Try.prog 66 = 1 := by kernel_rfl
@[simp] theorem ag66 : aggQ Try.prog 66 = some false := by kernel_rfl
@[simp] theorem by66 : bytesOf Try.prog 66 = 24 := by kernel_rfl
@[simp] theorem zo66 : zeroOf Try.prog 66 = some (.vsl true [] 0) := by kernel_rfl
@[simp] theorem un66 : Try.prog.underlying 66 = some (.slice 25) := by kernel_rfl
@[simp] theorem sz73 : szOf Try.prog 73 = 1 := by kernel_rfl
@[simp] theorem ag73 : aggQ Try.prog 73 = some false := by kernel_rfl
@[simp] theorem by73 : bytesOf Try.prog 73 = 8 := by kernel_rfl
@[simp] theorem zo73 : zeroOf Try.prog 73 = some (.nilf) := by kernel_rfl
@[simp] theorem sz75 : szOf Try.prog 75 = 1 := by kernel_rfl
@[simp] theorem ag75 : aggQ Try.prog 75 = some false := by kernel_rfl
@[simp] theorem by75 : bytesOf Try.prog 75 = 8 := by kernel_rfl
@[simp] theorem zo75 : zeroOf Try.prog 75 = some (.nilf) := by kernel_rfl
@[simp] theorem sz77 : szOf Try.prog 77 = 1 := by kernel_rfl
@[simp] theorem ag77 : aggQ Try.prog 77 = some false := by kernel_rfl
@[simp] theorem by77 : bytesOf Try.prog 77 = 8 := by kernel_rfl
@[simp] theorem zo77 : zeroOf Try.prog 77 = some (.int .u64 0) := by kernel_rfl
@[simp] theorem un77 : Try.prog.underlying 77 = some (.int .u64) := by kernel_rfl
@[simp] theorem sz83 : szOf Try.prog 83 = 1 := by kernel_rfl
@[simp] theorem ag83 : aggQ Try.prog 83 = some false := by kernel_rfl
@[simp] theorem by83 : bytesOf Try.prog 83 = 8 := by kernel_rfl
@[simp] theorem zo83 : zeroOf Try.prog 83 = some (.int .i64 0) := by kernel_rfl
@[simp] theorem un83 : Try.prog.underlying 83 = some (.int .i64) := by kernel_rfl
@[simp] theorem sz91 : szOf Try.prog 91 = 1 := by kernel_rfl
@[simp] theorem ag91 : aggQ Try.prog 91 = some false := by kernel_rfl
@[simp] theorem by91 : bytesOf Try.prog 91 = 4 := by kernel_rfl
@[simp] theorem zo91 : zeroOf Try.prog 91 = some (.int .u32 0) := by kernel_rfl
@[simp] theorem un91 : Try.prog.underlying 91 = some (.int .u32) := by kernel_rfl
@[simp] theorem sz93 : szOf Try.prog 93 = 1 := by kernel_rfl
@[simp] theorem ag93 : aggQ Try.prog 93 = some false := by kernel_rfl
@[simp] theorem by93 : bytesOf Try.prog 93 = 8 := by kernel_rfl
@[simp] theorem zo93 : zeroOf Try.prog 93 = some (.int .u64 0) := by kernel_rfl
@[simp] theorem un93 : Try.prog.underlying 93 = some (.int .u64) := by kernel_rfl
@[simp] theorem sz97 : szOf Try.prog 97 = 1 := by kernel_rfl
@[simp] theorem ag97 : aggQ Try.prog 97 = some false := by kernel_rfl
@[simp] theorem by97 : bytesOf Try.prog 97 = 8 := by kernel_rfl
@[simp] theorem zo97 : zeroOf Try.prog 97 = some (.nilp) := by kernel_rfl
@[simp] theorem un97 : Try.prog.underlying 97 = some (.pointer 3) := by kernel_rfl
@[simp] theorem sz117 : szOf Try.prog 117 = 2 := by kernel_rfl
@[simp] theorem ag117 : aggQ Try.prog 117 = some true := by kernel_rfl
@[simp] theorem by117 : bytesOf Try.prog 117 = 32 := by kernel_rfl
@[simp] theorem zo117 : zeroOf Try.prog 117 = some (.agg [.str [], .str []]) := by kernel_rfl
attribute [simp] Try.underlying117
@[simp] theorem sz118 : szOf Try.prog 118 = 2 := by kernel_rfl
@[simp] theorem ag118 : aggQ Try.prog 118 = some true := by kernel_rfl
@[simp] theorem by118 : bytesOf Try.prog 118 = 32 := by kernel_rfl
@[simp] theorem zo118 : zeroOf Try.prog 118 = some (.agg [.str [], .str []]) := by kernel_rfl
attribute [simp] Try.underlying118
@[simp] theorem pl3 : plainTy Try.prog 50 3 = some ([.i]) := by kernel_rfl
@[simp] theorem eg3 : Try.prog.eqGuardType Try.prog.depth 3 = false := by kernel_rfl
@[simp] theorem pl4 : plainTy Try.prog 50 4 = some ([.b]) := by kernel_rfl
@[simp] theorem eg4 : Try.prog.eqGuardType Try.prog.depth 4 = false := by kernel_rfl
@[simp] theorem pl5 : plainTy Try.prog 50 5 = some ([.i]) := by kernel_rfl
@[simp] theorem eg5 : Try.prog.eqGuardType Try.prog.depth 5 = false := by kernel_rfl
@[simp] theorem pl9 : plainTy Try.prog 50 9 = some ([.s]) := by kernel_rfl
@[simp] theorem eg9 : Try.prog.eqGuardType Try.prog.depth 9 = false := by kernel_rfl
@[simp] theorem pl25 : plainTy Try.prog 50 25 = some ([.i]) := by kernel_rfl
@[simp] theorem eg25 : Try.prog.eqGuardType Try.prog.depth 25 = false := by kernel_rfl
@[simp] theorem pl27 : plainTy Try.prog 50 27 = some ([.i, .i, .i, .i, .i, .i, .i, .i, .i, .i, .i, .i, .i, .i, .i, .i]) := by kernel_rfl
@[simp] theorem eg27 : Try.prog.eqGuardType Try.prog.depth 27 = false := by kernel_rfl
@[simp] theorem pl38 : plainTy Try.prog 50 38 = some ([.i, .i, .i, .i, .i, .i, .i, .i, .i, .i, .i, .i, .i, .i, .i, .i, .i, .i, .i]) := by kernel_rfl
@[simp] theorem eg38 : Try.prog.eqGuardType Try.prog.depth 38 = false := by kernel_rfl
@[simp] theorem pl83 : plainTy Try.prog 50 83 = some ([.i]) := by kernel_rfl
@[simp] theorem eg83 : Try.prog.eqGuardType Try.prog.depth 83 = false := by kernel_rfl
end Go.Ev.S
/- The program's marks: one is looked for. -/
namespace Go.Ev.S
open Go Go.Proofs Go.Ev
theorem number_ev (n b : Int) : call cx 9 [.int .i64 n, .int .i64 b] [] = some (.int .i64 (if b < 1 then 0 else (IntKind.i64.wrap (n.tmod b + b)).tmod b), []) := by
  refine call_run Try.func9 rfl ⟨rfl, rfl⟩ ?_
  by_cases h1 : b < 1
  · simp [Try.f9, h1]
  · have h2 : b ≠ 0 := by omega
    simp [Try.f9, h1, h2]

theorem eqid_ev (m : Mk) (id : ID) : call cx 48 [.agg (Enc.cells m), .vptr (ofBytes id.l)] [] = some (.bool (m.id == id), []) := by
  refine call_run Try.func48 rfl ⟨rfl, rfl⟩ ?_
  simp [Try.f48, Mk.cells]

/-- Where the first one stands that is so, or -1. -/
def find? {α : Type} (p : α → Bool) : List α → Int → Int
  | [], _ => -1
  | m :: l, i => if p m then i else find? p l (i + 1)

theorem index_ev (s : Sl Mk) (hn : s.l.length < 4611686018427387904) (f : Nat) (caps : List D) (p : Mk → Bool) (hb : cx.byRef f = false) (hpm : cx.perm f = false) (hcaps : ∀ x ∈ caps, idFree x = true)
    (hg : ∀ m ∈ s.l, call cx f (.agg (Enc.cells m) :: caps) [] = some (.bool (p m), [])) : call cx 47 [(.vsl s.nil (encs s.l) s.l.length), .fn f caps] [] = some (.int .i64 (find? p s.l 0), []) := by
  have hcaps' := eq_true hcaps
  refine call_run Try.func47 rfl ⟨rfl, rfl⟩ ?_
  simp [Try.f47]
  refine Run.loopThen (fun (i : Nat) e H => i ≤ s.l.length ∧ H = [] ∧ look e 0 = some (.vsl s.nil (encs s.l) s.l.length) ∧ look e 1 = some (.fn f caps) ∧ look e 7 = some (.int .i64 s.l.length) ∧ look e 8 = some (.int .i64 i) ∧ find? p s.l 0 = find? p (s.l.drop i) i) (fun i => s.l.length - i) 0 (by simp) ?_
  rintro i e H ⟨hi, rfl, h0, h1, h7, h8, hf⟩
  by_cases hlt : i < s.l.length
  · have hlt' : ((i : Int) < (s.l.length : Int)) := by omega
    have hd : s.l.drop i = s.l[i] :: s.l.drop (i + 1) := List.drop_eq_getElem_cons hlt
    have hc := hg s.l[i] (List.getElem_mem hlt)
    have hw : IntKind.i64.wrap ((i : Int) + 1) = ((i + 1 : Nat) : Int) := by rw [wrap_i64] <;> omega
    rw [hd, find?] at hf
    cases hp : p s.l[i] with
    | true =>
      rw [hp, if_pos rfl] at hf
      simp [h0, h1, h7, h8, hlt', hlt, Sl.nn hlt, hc, hb, hpm, hp, hf, hcaps']
    | false =>
      rw [hp, if_neg (by decide)] at hf
      simp [h0, h1, h7, h8, hlt', hlt, Sl.nn hlt, hc, hb, hpm, hp, hf, hcaps', hw]
      exact ⟨i + 1, by omega, by omega, rfl, rfl⟩
  · have hlt' : ¬ ((i : Int) < (s.l.length : Int)) := by omega
    have hd : s.l.drop i = [] := List.drop_eq_nil_of_le (by omega)
    rw [hd] at hf
    simp [h0, h1, h7, h8, hlt', hf, find?]

theorem find_ev (s : Sl Mk) (hn : s.l.length < 4611686018427387904) (id : ID) :
    call cx 34 [(.vsl s.nil (encs s.l) s.l.length), .agg (ofBytes id.l)] [] = some (.int .i64 (find? (fun m => m.id == id) s.l 0), []) := by
  have h := index_ev s hn 48 [.vptr (ofBytes id.l)] (fun m => m.id == id) rfl rfl (by simp [idFree]) (fun m hm => eqid_ev m id)
  refine call_run Try.func34 rfl ⟨rfl, rfl⟩ ?_
  simp [Try.f34, h]

theorem find?_spec {α : Type} (p : α → Bool) : ∀ (l : List α) (k : Int), (∃ (i : Nat) (m : α), l[i]? = some m ∧ i < l.length ∧ p m = true ∧ find? p l k = k + i ∧ l.find? p = some m) ∨ (find? p l k = -1 ∧ l.find? p = none)
  | [], k => .inr ⟨rfl, rfl⟩
  | m :: l, k => by
    cases hp : p m with
    | true => exact .inl ⟨0, m, rfl, by simp, hp, by simp [find?, hp], by simp [hp]⟩
    | false =>
      rcases find?_spec p l (k + 1) with ⟨i, m', h1, h2, h3, h4, h5⟩ | ⟨h1, h2⟩
      · exact .inl ⟨i + 1, m', by simpa using h1, by simpa using h2, h3, by simp [find?, hp, h4]; omega, by simp [hp, h5]⟩
      · exact .inr ⟨by simp [find?, hp, h1], by simp [hp, h2]⟩

/-- The mark of a name. -/
def getM (l : List Mk) (id : ID) : Mk := (l.find? fun m => m.id == id).getD ⟨id, 0, 0, 0⟩
theorem get_ev (s : Sl Mk) (hn : s.l.length < 4611686018427387904) (id : ID) :
    call cx 11 [(.vsl s.nil (encs s.l) s.l.length), .agg (ofBytes id.l)] [] = some (.agg (Enc.cells (getM s.l id)), []) := by
  have h := find_ev s hn id
  refine call_run Try.func11 rfl ⟨rfl, rfl⟩ ?_
  rcases find?_spec (fun m => m.id == id) s.l 0 with ⟨i, m, h1, h2, h3, h4, h5⟩ | ⟨h1, h2⟩
  · rw [h4, Sl.nn h2] at h
    have hg : s.l[i] = m := by rw [List.getElem?_eq_getElem h2] at h1; exact Option.some.inj h1
    simp [Try.f11, h, h2, Sl.nn h2, hg, getM, h5]
  · rw [h1] at h
    simp [Try.f11, h, getM, h2, Mk.cells, List.take_of_length_le]
theorem getM_id (l : List Mk) (id : ID) : (getM l id).id = id := by
  unfold getM
  cases h : l.find? (fun m => m.id == id) with
  | none => rfl
  | some m => simpa using List.find?_some h
theorem getM_ok {l : List Mk} (hl : ∀ m ∈ l, m.Ok) (id : ID) : (getM l id).Ok := by
  unfold getM
  cases h : l.find? (fun m => m.id == id) with
  | none => exact ⟨by simp [isU64], by simp [isU64], by simp [isU64]⟩
  | some m => exact hl m (List.mem_of_find?_eq_some h)
end Go.Ev.S
namespace Go.Ev.S
open Go Go.Proofs Go.Ev
theorem ok_0 : okRange cx 0 40 = true := by kernel_rfl
theorem ok_40 : okRange cx 40 40 = true := by kernel_rfl
theorem ok_80 : okRange cx 80 9 = true := by kernel_rfl
theorem fsize : Try.prog.funcs.size = 89 := by kernel_rfl
theorem all_ok (f : Nat) (h : f < 89) : okOne cx f = true := by
  rcases Nat.lt_or_ge f 40 with h0 | h0
  · exact okRange_get ok_0 (by omega) (by omega)
  rcases Nat.lt_or_ge f 80 with h1 | h1
  · exact okRange_get ok_40 (by omega) (by omega)
  exact okRange_get ok_80 (by omega) (by omega)
theorem good : Good cx where
  mixed := by kernel_rfl
  okc f fn c hf hc hb := (okOne_get (all_ok f (by rw [← fsize]; exact (Array.getElem?_eq_some_iff.1 hf).1)) hf).2 c hc hb
  ng f fn hf := (okOne_get (all_ok f (by rw [← fsize]; exact (Array.getElem?_eq_some_iff.1 hf).1)) hf).1
  ext f fn args d hf hn h ok w ι H vs hs hv := by
    by_cases h49 : f = 49
    · subst h49
      rw [ex49] at h
      have hff := Try.func49
      rw [show cx.P.funcs[49]? = Try.prog.funcs[49]? from rfl, hff] at hf
      injection hf with hf
      subst hf
      exact cmpExt_run (P := cx.P) hff rfl (by kernel_rfl) (by kernel_rfl) (by kernel_rfl) h hv
    · have : cx.ext f args = none := by
        show extT f args = none
        unfold extT
        split
        · exact absurd rfl h49
        · rfl
      rw [this] at h
      cases h
  con f args H r H' h ok w ι vs hs hv := by
    · have : cx.con f args H = none := by
        show conT f args H = none
        unfold conT
        rfl
      rw [this] at h
      cases h
end Go.Ev.S
/- Marks are sorted. -/
namespace Go.Ev.S
open Go Go.Proofs Go.Ev
theorem compare_ev (x y : Sl UInt8) : call cx 37 [(.vsl x.nil (ofBytes x.l) x.l.length), (.vsl y.nil (ofBytes y.l) y.l.length)] [] = some (.int .i64 (cmpB x.l y.l), []) := by
  have h : call cx 49 [(.vsl x.nil (ofBytes x.l) x.l.length), (.vsl y.nil (ofBytes y.l) y.l.length)] [] = some (.int .i64 (cmpB x.l y.l), []) := by
    rw [call_ext rfl Try.func49 rfl, ex49, cmpExt_bytes x.nil y.nil x.l y.l x.h y.h]
    rfl
  refine call_run Try.func37 rfl ⟨rfl, rfl⟩ ?_
  simp [Try.f37, h]
theorem compare_id (x y : ID) : call cx 37 [.vsl false (ofBytes x.l) 16, .vsl false (ofBytes y.l) 16] [] = some (.int .i64 (cmpB x.l y.l), []) := by
  have h := compare_ev (.of x.l) (.of y.l)
  simpa using h
theorem cmpm_ev (x y : Mk) : call cx 46 [.agg (Enc.cells x), .agg (Enc.cells y)] [] = some (.int .i64 (cmpB x.id.l y.id.l), []) := by
  have h := compare_id x.id y.id
  refine call_run Try.func46 rfl ⟨rfl, rfl⟩ ?_
  simp [Try.f46, Mk.cells, h]

def lenTab : Nat → Int
  | 0 => 0 | 1 => 1 | 2 => 2 | 3 => 2 | 4 => 3 | 5 => 3 | 6 => 3 | 7 => 3 | _ => 4
theorem len_ev (n : Nat) (hn : n ≤ 13) : call cx 55 [.int .u64 n] [] = some (.int .i64 (lenTab n), []) := by
  have h : n = 0 ∨ n = 1 ∨ n = 2 ∨ n = 3 ∨ n = 4 ∨ n = 5 ∨ n = 6 ∨ n = 7 ∨ n = 8 ∨ n = 9 ∨ n = 10 ∨ n = 11 ∨ n = 12 ∨ n = 13 := by omega
  refine call_some.2 ⟨60, ?_⟩
  rcases h with rfl | rfl | rfl | rfl | rfl | rfl | rfl | rfl | rfl | rfl | rfl | rfl | rfl | rfl <;> kernel_rfl

/-- One goes down as long as it is less than the one ahead of it. -/
def swp (l : List Mk) (j : Nat) : List Mk :=
  match l[j]?, l[j - 1]? with
  | some a, some b => (l.set j b).set (j - 1) a
  | _, _ => l
def sink : Nat → List Mk → List Mk
  | 0, l => l
  | j + 1, l => match l[j + 1]?, l[j]? with
    | some a, some b => if cmpB a.id.l b.id.l < 0 then sink j (swp l (j + 1)) else l
    | _, _ => l
def insFrom : Nat → Nat → List Mk → List Mk
  | 0, _, l => l
  | k + 1, i, l => insFrom k (i + 1) (sink i l)
theorem swp_len (l : List Mk) (j : Nat) : (swp l j).length = l.length := by
  unfold swp
  split <;> simp
theorem sink_len : ∀ (j : Nat) (l : List Mk), (sink j l).length = l.length
  | 0, l => rfl
  | j + 1, l => by
    unfold sink
    split
    · split
      · rw [sink_len j, swp_len]
      · rfl
    · rfl
theorem insFrom_len : ∀ (k i : Nat) (l : List Mk), (insFrom k i l).length = l.length
  | 0, _, _ => rfl
  | k + 1, i, l => by rw [insFrom, insFrom_len k, sink_len]

set_option maxHeartbeats 4000000 in
theorem isort_ev (n : Nat) (hn : n ≤ 12) (H : Heap) (b : Nat) (hcl : H.all (blkClosed H.length) = true) (l : List Mk) (hln : l.length = n) (hg : hget H b = some (encs l)) :
    call cx 56 [.osl b (n * 19) 0 n 19, .int .i64 0, .int .i64 n, .fn 46 []] H = some (.tup [], H.set b (some (encs (insFrom (n - 1) 1 l)))) := by
  have hb : b < H.length := by
    rcases Nat.lt_or_ge b H.length with h | h
    · exact h
    · rw [hget, List.getElem?_eq_none h] at hg; cases hg
  have hset : H.set b (some (encs l)) = H := by
    rw [hget, List.getElem?_eq_getElem hb] at hg
    simp only [Option.getD_some] at hg
    rw [← hg, List.set_getElem_self]
  refine call_run Try.func56 rfl ⟨rfl, rfl⟩ ?_
  simp [Try.f56]
  refine Run.loopThen (fun (s : Nat × List Mk) e H' => 1 ≤ s.1 ∧ s.2.length = n ∧ H' = H.set b (some (encs s.2)) ∧ insFrom (n - s.1) s.1 s.2 = insFrom (n - 1) 1 l ∧ look e 0 = some (.osl b (n * 19) 0 n 19) ∧ look e 1 = some (.int .i64 0) ∧ look e 2 = some (.int .i64 n) ∧ look e 3 = some (.fn 46 []) ∧ look e 8 = some (.int .i64 s.1)) (fun s => n - s.1) (1, l) (by simp [hln, hset]) ?_
  rintro ⟨i, l'⟩ e H' ⟨hi, hln', rfl, hs, h0, h1, h2, h3, h8⟩
  simp only at hi hln' hs h8
  by_cases hin : i < n
  · have hin' : (i : Int) < (n : Int) := by omega
    have hw : IntKind.i64.wrap ((i : Int) + 1) = ((i + 1 : Nat) : Int) := by rw [wrap_i64] <;> omega
    have hsn : insFrom (n - i) i l' = insFrom (n - (i + 1)) (i + 1) (sink i l') := by
      have : n - i = (n - (i + 1)) + 1 := by omega
      rw [this, insFrom]
    rw [hsn] at hs
    simp [h0, h1, h2, h3, h8, hin']
    clear h0 h1 h2 h3 h8 e
    refine Run.loopThen (fun (s : Nat × List Mk) e H' => s.1 ≤ i ∧ s.2.length = n ∧ H' = H.set b (some (encs s.2)) ∧ sink s.1 s.2 = sink i l' ∧ look e 0 = some (.osl b (n * 19) 0 n 19) ∧ look e 1 = some (.int .i64 0) ∧ look e 2 = some (.int .i64 n) ∧ look e 3 = some (.fn 46 []) ∧ look e 8 = some (.int .i64 i) ∧ look e 9 = some (.int .i64 s.1)) (fun s => s.1) (i, l') (by simp [hln']) ?_
    rintro ⟨j, l''⟩ e H' ⟨hj, hln'', rfl, hs2, h0, h1, h2, h3, h8, h9⟩
    simp only at hj hln'' hs2 h9
    have hlen : (encs l'').length = n * 19 := by rw [Mk.el, hln'']
    have hg : ((H.set b (some (encs l'')))[b]?).getD none = some (encs l'') := by rw [List.getElem?_set_self hb]; rfl
    cases j with
    | zero =>
      rw [sink] at hs2
      subst hs2
      simp [h0, h1, h2, h3, h8, h9, hw]
      exact ⟨i + 1, by omega, by omega, _, by rw [sink_len, hln'], rfl, hs, rfl⟩
    | succ k =>
      obtain ⟨j, hjk⟩ : ∃ j, j = k + 1 := ⟨_, rfl⟩
      rw [← hjk] at hj h9 hs2
      have hj0 : 0 < j := by omega
      have hjn : (j : Int) < (n : Int) := by omega
      have hkn : (k : Int) < (n : Int) := by omega
      have hwk : IntKind.i64.wrap ((j : Int) - 1) = (k : Int) := by rw [wrap_i64] <;> omega
      have hjl : j < l''.length := by omega
      have hkl : k < l''.length := by omega
      have hc := cmpm_ev l''[j] l''[k]
      have hsk : sink j l'' = if cmpB l''[j].id.l l''[k].id.l < 0 then sink k (swp l'' j) else l'' := by
        subst hjk
        rw [sink, List.getElem?_eq_getElem hjl, List.getElem?_eq_getElem hkl]
      have hsw : swp l'' j = (l''.set j l''[k]).set k l''[j] := by
        have : j - 1 = k := by omega
        rw [swp, this, List.getElem?_eq_getElem hjl, List.getElem?_eq_getElem hkl]
      by_cases hlt : cmpB l''[j].id.l l''[k].id.l < 0
      · rw [hsk, if_pos hlt, hsw] at hs2
        have h19 : j * 19 + 19 ≤ n * 19 := by omega
        have h19' : k * 19 + 19 ≤ n * 19 := by omega
        have hkl2 : k < (l''.set j l''[k]).length := by simpa using hkl
        have hlen2 : (encs (l''.set j l''[k])).length = n * 19 := by rw [Mk.el, List.length_set, hln'']
        simp [h0, h1, h2, h3, h8, h9, hj0, hjn, hkn, hwk, hlen, hjl, hkl, hc, hlt, h19, h19', hb, hlen2]
        exact ⟨k, by omega, by omega, _, by simp [hln''], rfl, hs2, rfl⟩
      · rw [hsk, if_neg hlt] at hs2
        subst hs2
        simp [h0, h1, h2, h3, h8, h9, hj0, hjn, hkn, hwk, hg, hlen, hjl, hkl, hc, hlt, hw]
        exact ⟨i + 1, by omega, by omega, _, by rw [sink_len, hln'], rfl, hs, rfl⟩
  · have hin' : ¬ (i : Int) < (n : Int) := by omega
    have h0n : n - i = 0 := by omega
    rw [h0n, insFrom] at hs
    subst hs
    simp [h0, h1, h2, h3, h8, hin']
    refine ⟨fun x hx => ?_, List.take_of_length_le (by simp)⟩
    have hx' := List.mem_of_mem_take hx
    rcases List.mem_or_eq_of_mem_set hx' with h | rfl
    · exact List.all_eq_true.1 hcl x h
    · exact encs_closed _ _
end Go.Ev.S
/- Marks are put, taken. -/
namespace Go.Ev.S
open Go Go.Proofs Go.Ev
theorem closed_set {H : Heap} {b : Nat} {ds : List D} (hcl : H.all (blkClosed H.length) = true) (hd : ds.all (closed H.length) = true) {x : Option (List D)} {n : Nat} (hx : x ∈ (H.set b (some ds)).take n) : blkClosed H.length x = true := by
  have hx' := List.mem_of_mem_take hx
  rcases List.mem_or_eq_of_mem_set hx' with h | rfl
  · exact List.all_eq_true.1 hcl x h
  · exact hd
theorem pdq_ev (n : Nat) (hn : n ≤ 12) (k : Int) (H : Heap) (b : Nat) (hcl : H.all (blkClosed H.length) = true) (l : List Mk) (hln : l.length = n) (hg : hget H b = some (encs l)) :
    call cx 54 [.osl b (n * 19) 0 n 19, .int .i64 0, .int .i64 n, .int .i64 k, .fn 46 []] H = some (.tup [], H.set b (some (encs (insFrom (n - 1) 1 l)))) := by
  have h := isort_ev n hn H b hcl l hln hg
  have hw : IntKind.i64.wrap (n : Int) = (n : Int) := by rw [wrap_i64]; omega
  have hn' : (n : Int) ≤ 12 := by omega
  refine call_run Try.func54 rfl ⟨rfl, rfl⟩ ?_
  simp [Try.f54]
  refine run_loop1 ?_
  simp [hw, hn', h]
  exact ⟨fun x hx => closed_set hcl (encs_closed _ _) hx, List.take_of_length_le (by simp)⟩

theorem sort_ev (n : Nat) (hn : n ≤ 12) (H : Heap) (b : Nat) (hcl : H.all (blkClosed H.length) = true) (l : List Mk) (hln : l.length = n) (hg : hget H b = some (encs l)) :
    call cx 45 [.osl b (n * 19) 0 n 19, .fn 46 []] H = some (.tup [], H.set b (some (encs (insFrom (n - 1) 1 l)))) := by
  have h := pdq_ev n hn (lenTab n) H b hcl l hln hg
  have hlen := len_ev n (by omega)
  have hw : IntKind.u64.wrap (n : Int) = (n : Int) := by rw [wrap_u64]; omega
  refine call_run Try.func45 rfl ⟨rfl, rfl⟩ ?_
  simp [Try.f45, h, hlen, hw]
  exact ⟨fun x hx => closed_set hcl (encs_closed _ _) hx, List.take_of_length_le (by simp)⟩

theorem clone_ev (s : Sl Mk) (hn : s.l.length ≤ 3000000000) :
    call cx 36 [(.vsl s.nil (encs s.l) s.l.length)] [] = if s.nil then some (.vsl true [] 0, []) else some (.osl 0 (s.l.length * 19) 0 s.l.length 19, [some (encs s.l)]) := by
  have h40 : s.l.length * 40 ≤ 140737488355328 := by omega
  have hmx : s.l.length ≤ 140737488355328 := by omega
  obtain ⟨nil, l, hnil⟩ := s
  simp only at hn h40 hmx ⊢
  cases nil with
  | true =>
    have hl0 := hnil rfl
    subst hl0
    rw [if_pos rfl]
    refine call_run Try.func36 rfl ⟨rfl, rfl⟩ ?_
    simp [Try.f36]
  | false =>
    rw [if_neg (by decide)]
    refine call_run Try.func36 rfl ⟨rfl, rfl⟩ ?_
    simp [Try.f36, h40, hmx, maxBytes]

/-- Marks with one of them put. -/
def putM (l : List Mk) (m : Mk) : List Mk :=
  if find? (fun x => x.id == m.id) l 0 < 0 then insFrom l.length 1 (l ++ [m]) else l.set (find? (fun x => x.id == m.id) l 0).toNat m

theorem put_ev (s : Sl Mk) (hn : s.l.length ≤ 11) (m : Mk) :
    call cx 33 [(.vsl s.nil (encs s.l) s.l.length), .agg (Enc.cells m)] [] = some (.vsl false (encs (putM s.l m)) (putM s.l m).length, []) := by
  have hc := clone_ev s (by omega)
  have hf := find_ev s (by omega) m.id
  have htk : (Enc.cells m).take 16 = ofBytes m.id.l := by simp [Mk.cells]
  have htl : (encs s.l).take (s.l.length * 19) = encs s.l := List.take_of_length_le (by simp)
  by_cases hnil : s.nil = true
  · have hl0 := s.h hnil
    rw [hnil, hl0] at hc hf
    have hs := sort_ev 1 (by decide) [some (Enc.cells m), some (Enc.cells m), some (Enc.cells m)] 2 (by simp [blkClosed]) [m] rfl (by simp [hget, encs_one])
    simp at hc hf hs
    have hp : putM s.l m = [m] := by rw [hl0]; rfl
    refine call_run Try.func33 rfl ⟨rfl, rfl⟩ ?_
    simp [Try.f33, hnil, hl0, hc, hf, htk, maxBytes, find?, hs, insFrom, encs_one]
    rw [← hl0, hp]
    simp [encs_one]
  · have hnf : s.nil = false := by simpa using hnil
    rw [hnf] at hc hf
    rw [if_neg (by decide)] at hc
    rcases find?_spec (fun x => x.id == m.id) s.l 0 with ⟨i, m', h1, h2, h3, h4, h5⟩ | ⟨h1, h2⟩
    · rw [h4] at hf
      have hp : putM s.l m = s.l.set i m := by
        unfold putM
        rw [h4, if_neg (by omega)]
        congr 1
        omega
      have h19 : i * 19 + 19 ≤ s.l.length * 19 := by omega
      refine call_run Try.func33 rfl ⟨rfl, rfl⟩ ?_
      simp [Try.f33, hnf, hc, hf, htk, htl, h2, h19, hp, List.take_of_length_le]
    · rw [h1] at hf
      have hp : putM s.l m = insFrom s.l.length 1 (s.l ++ [m]) := by
        unfold putM
        rw [h1, if_pos (by decide)]
      have hs := sort_ev (s.l.length + 1) (by omega) [some (Enc.cells m), some (encs s.l ++ Enc.cells m), some (Enc.cells m)] 1 (by simp [blkClosed]) (s.l ++ [m]) (by simp) (by simp [hget, encs_snoc])
      have hsz : s.l.length * 19 + 19 = (s.l.length + 1) * 19 := by omega
      have h40 : (s.l.length + 1) * 40 ≤ 140737488355328 := by omega
      have hmx : s.l.length + 1 ≤ 140737488355328 := by omega
      have hil : (insFrom s.l.length 1 (s.l ++ [m])).length = s.l.length + 1 := by rw [insFrom_len]; simp
      simp at hs
      refine call_run Try.func33 rfl ⟨rfl, rfl⟩ ?_
      simp [Try.f33, hnf, hc, hf, htk, htl, maxBytes, h40, hmx, hsz, hs, hp, hil, List.take_of_length_le]

def u64max : Int := 18446744073709551615
def moreM (v n : Int) : Int := if IntKind.u64.wrap (u64max - v) < n then u64max else IntKind.u64.wrap (v + n)
theorem more_ev (v n : Int) : call cx 32 [.int .u64 v, .int .u64 n] [] = some (.int .u64 (moreM v n), []) := by
  refine call_run Try.func32 rfl ⟨rfl, rfl⟩ ?_
  by_cases h : IntKind.u64.wrap (18446744073709551615 - v) < n
  · simp [Try.f32, h, moreM, u64max]
  · simp [Try.f32, h, moreM, u64max]
theorem moreM_eq {v n : Int} (hv : isU64 v) (hn : isU64 n) : moreM v n = if u64max - v < n then u64max else v + n := by
  unfold isU64 at hv hn
  have e : IntKind.u64.wrap (u64max - v) = u64max - v := by rw [wrap_u64]; unfold u64max; omega
  unfold moreM
  rw [e]
  split
  · rfl
  · rw [wrap_u64]
    unfold u64max at *
    omega

/-- Marks that rise. -/
def risesM : List Mk → Bool
  | a :: b :: l => decide (cmpB a.id.l b.id.l < 0) && risesM (b :: l)
  | _ => true
def rightM (l : List Mk) : Bool := decide (l.length ≤ 4) && risesM l

theorem right_ev (s : Sl Mk) (hn : s.l.length < 4611686018427387904) :
    call cx 15 [(.vsl s.nil (encs s.l) s.l.length)] [] = some (.bool (rightM s.l), []) := by
  refine call_run Try.func15 rfl ⟨rfl, rfl⟩ ?_
  by_cases h4 : s.l.length ≤ 4
  · have h4' : ¬ (4 : Int) < (s.l.length : Int) := by omega
    simp [Try.f15, h4', rightM, h4]
    refine Run.loopThen (fun (i : Nat) e H => 1 ≤ i ∧ (i ≤ s.l.length ∨ i = 1) ∧ H = [] ∧ look e 0 = some (.vsl s.nil (encs s.l) s.l.length) ∧ look e 3 = some (.int .i64 i) ∧ risesM s.l = risesM (s.l.drop (i - 1))) (fun i => s.l.length - i) 1 (by simp) ?_
    rintro i e H ⟨hi, hil, rfl, h0, h3, hr⟩
    by_cases hlt : i < s.l.length
    · obtain ⟨k, hk⟩ : ∃ k, k + 1 = i := ⟨i - 1, by omega⟩
      have hlt' : (i : Int) < (s.l.length : Int) := by omega
      have hkl : k < s.l.length := by omega
      have hkl' : (k : Int) < (s.l.length : Int) := by omega
      have hw : IntKind.i64.wrap ((i : Int) - 1) = (k : Int) := by rw [wrap_i64] <;> omega
      have hw2 : IntKind.i64.wrap ((i : Int) + 1) = ((i + 1 : Nat) : Int) := by rw [wrap_i64] <;> omega
      have hc := compare_id s.l[k].id s.l[i].id
      have hr2 : risesM s.l = (decide (cmpB s.l[k].id.l s.l[i].id.l < 0) && risesM (s.l.drop i)) := by
        have e1 : i - 1 = k := by omega
        have e2 : s.l.drop k = s.l[k] :: s.l[i] :: s.l.drop (i + 1) := by
          rw [List.drop_eq_getElem_cons hkl]
          congr 1
          rw [hk, List.drop_eq_getElem_cons hlt]
        rw [hr, e1, e2, risesM, List.drop_eq_getElem_cons hlt]
      have h16 : ∀ k, (16 ≤ 19 + k) = True := fun k => eq_true (by omega)
      have ht : ∀ (m : Mk) (r : List D), (Enc.cells m ++ r).take 16 = ofBytes m.id.l := fun m r => by simp [Mk.cells]
      by_cases hcm : cmpB s.l[k].id.l s.l[i].id.l < 0
      · have hcm' : ¬ 0 ≤ cmpB s.l[k].id.l s.l[i].id.l := by omega
        rw [decide_eq_true hcm, Bool.true_and] at hr2
        simp [h0, h3, hlt', hw, hkl', Sl.nn hlt, h16, hlt, hkl, ht, hc, hcm', hw2]
        exact ⟨i + 1, by omega, by omega, .inl (by omega), rfl, by simpa using hr2⟩
      · have hcm' : 0 ≤ cmpB s.l[k].id.l s.l[i].id.l := by omega
        rw [decide_eq_false hcm, Bool.false_and] at hr2
        simp [h0, h3, hlt', hw, hkl', Sl.nn hlt, h16, hlt, hkl, ht, hc, hcm', hr2]
    · have hlt' : ¬ (i : Int) < (s.l.length : Int) := by omega
      have hr2 : risesM s.l = true := by
        rw [hr]
        have : (s.l.drop (i - 1)).length ≤ 1 := by rw [List.length_drop]; omega
        match s.l.drop (i - 1), this with
        | [], _ => rfl
        | [a], _ => rfl
      simp [h0, h3, hlt', hr2]
  · have h4' : (4 : Int) < (s.l.length : Int) := by omega
    simp [Try.f15, h4', rightM, h4]
end Go.Ev.S
/- Numbers one by one; a few marks out of them. -/
namespace Go.Ev.S
open Go Go.Proofs Go.Ev
def num (n b : Int) : Int := if b < 1 then 0 else (IntKind.i64.wrap (n.tmod b + b)).tmod b
theorem num_small {n b : Int} (hb : 1 ≤ b) (hb2 : b ≤ 1000) : 0 ≤ num n b ∧ num n b < b := by
  have h1 : n.tmod b < b := Int.tmod_lt_of_pos _ (by omega)
  have h2 : -b < n.tmod b := by
    have := Int.tmod_lt_of_pos (-n) (show 0 < b by omega)
    rw [Int.neg_tmod] at this
    omega
  unfold num
  rw [if_neg (by omega)]
  generalize n.tmod b = x at *
  have hw : IntKind.i64.wrap (x + b) = x + b := by rw [wrap_i64]; omega
  rw [hw]
  have h3 : 0 ≤ x + b := by omega
  exact ⟨Int.tmod_nonneg _ h3, Int.tmod_lt_of_pos _ (by omega)⟩
/-- A row of numbers, and how many of them are gone. -/
def seqD (nil : Bool) (zs : List Int) (k : Nat) : List D := [.vsl nil (intsK .i64 zs) zs.length, .int .i64 k]
theorem intsK_at {k : IntKind} {l : List Int} {i : Nat} (h : i < l.length) : (intsK k l).drop i = .int k l[i] :: intsK k (l.drop (i + 1)) := by
  unfold intsK
  rw [← List.map_drop, List.drop_eq_getElem_cons h]
  rfl
@[simp] theorem intsK_len (k : IntKind) (l : List Int) : (intsK k l).length = l.length := by simp [intsK]
theorem n_ev (nil : Bool) (zs : List Int) (hnil : nil = true → zs = []) (k : Nat) (hk : k ≤ 1000) (b : Int) (H : Heap) (q : Nat) (hq : q < H.length) (hcl : H.all (blkClosed H.length) = true) (hg : hget H q = some (seqD nil zs k)) :
    ∃ x k', (x = 0 ∨ ∃ n, x = num n b) ∧ k' ≤ k + 1 ∧ call cx 35 [.optr q 2 0, .int .i64 b] H = some (.int .i64 x, H.set q (some (seqD nil zs k'))) := by
  have hset : H.set q (some (seqD nil zs k)) = H := by
    rw [hget, List.getElem?_eq_getElem hq] at hg
    simp only [Option.getD_some] at hg
    rw [← hg, List.set_getElem_self]
  have hget' : H[q] = some (seqD nil zs k) := by
    rw [hget, List.getElem?_eq_getElem hq] at hg
    simpa using hg
  have hin : ∀ ds, (∀ x, x ∈ List.take (List.length H) (H.set q (some (seqD nil zs ds))) → blkClosed H.length x = true) := fun ds x hx => by
    have hx' := List.mem_of_mem_take hx
    rcases List.mem_or_eq_of_mem_set hx' with h | rfl
    · exact List.all_eq_true.1 hcl x h
    · rfl
  by_cases hlt : k < zs.length
  · have hnf : nil = false := by
      cases nil with
      | false => rfl
      | true => rw [hnil rfl] at hlt; simp at hlt
    subst hnf
    have hlt' : ¬ (zs.length : Int) ≤ (k : Int) := by omega
    have hlt2 : (k : Int) < (zs.length : Int) := by omega
    have hw : IntKind.i64.wrap ((k : Int) + 1) = ((k + 1 : Nat) : Int) := by rw [wrap_i64] <;> omega
    have hw2 : IntKind.i64.wrap (((k + 1 : Nat) : Int) - 1) = (k : Int) := by rw [wrap_i64] <;> omega
    have hw3 : IntKind.i64.wrap (k : Int) = (k : Int) := by rw [wrap_i64]; omega
    have hn := number_ev zs[k] b
    refine ⟨num zs[k] b, k + 1, .inr ⟨_, rfl⟩, Nat.le_refl _, ?_⟩
    refine call_run Try.func35 rfl ⟨rfl, rfl⟩ ?_
    have hin' := hin (k + 1)
    unfold seqD at hget' hin' ⊢
    unfold num at *
    simp [Try.f35, hget', hlt', hw, hq, hlt2, hw3, intsK_at hlt, hn]
    exact ⟨hin', List.take_of_length_le (by simp)⟩
  · have hlt' : (zs.length : Int) ≤ (k : Int) := by omega
    refine ⟨0, k, .inl rfl, Nat.le_succ _, ?_⟩
    refine call_run Try.func35 rfl ⟨rfl, rfl⟩ ?_
    have hin' := hin k
    rw [hset] at hin' ⊢
    unfold seqD at hget'
    simp [Try.f35, hget', hq, hlt']
    exact fun x hx => List.all_eq_true.1 hcl x hx
theorem n_ev2 (nil : Bool) (zs : List Int) (hnil : nil = true → zs = []) (k : Nat) (hk : k ≤ 1000) (b : Int) (hb : 1 ≤ b) (hb2 : b ≤ 1000) (H L : Heap) (q : Nat) (hq : q < H.length) (hcl : H.all (blkClosed H.length) = true) (hL : L.all (fun o => o.all (·.all idFree)) = true) :
    ∃ (x k' : Nat), (x : Int) < b ∧ k' ≤ k + 1 ∧ call cx 35 [.optr q 2 0, .int .i64 b] (H.set q (some (seqD nil zs k)) ++ L) = some (.int .i64 x, H.set q (some (seqD nil zs k')) ++ L) := by
  have hq' : q < (H.set q (some (seqD nil zs k)) ++ L).length := by simp; omega
  have hg : hget (H.set q (some (seqD nil zs k)) ++ L) q = some (seqD nil zs k) := by
    rw [hget, List.getElem?_append_left (by simpa using hq), List.getElem?_set_self (by simpa using hq)]
    rfl
  have hc : (H.set q (some (seqD nil zs k)) ++ L).all (blkClosed (H.set q (some (seqD nil zs k)) ++ L).length) = true := by
    rw [List.all_eq_true]
    intro x hx
    rcases List.mem_append.1 hx with h | h
    · rcases List.mem_or_eq_of_mem_set h with h | rfl
      · have := List.all_eq_true.1 hcl x h
        cases x with
        | none => rfl
        | some ds =>
          simp only [blkClosed, List.all_eq_true] at this ⊢
          exact fun d hd => closed_mono (by simp) d (this d hd)
      · rfl
    · have := List.all_eq_true.1 hL x h
      cases x with
      | none => rfl
      | some ds =>
        simp only [blkClosed, List.all_eq_true, Option.all_some] at this ⊢
        exact fun d hd => idFree_closed d (this d hd)
  obtain ⟨x, k', h1, h2, h3⟩ := n_ev nil zs hnil k hk b _ q hq' hc hg
  have hx : 0 ≤ x ∧ x < b := by
    rcases h1 with rfl | ⟨n, rfl⟩
    · omega
    · exact num_small hb hb2
  refine ⟨x.toNat, k', by omega, h2, ?_⟩
  rw [h3, Int.toNat_of_nonneg hx.1, List.set_append_left _ _ (by simpa using hq), List.set_set]
def idOf (j : Nat) : ID := ⟨[94, 0, 0, 0, 0, 0, 0, 0, 0, 0, 0, 0, 0, 0, 0, UInt8.ofNat j], rfl⟩
theorem id_ev {j : Nat} (hj : j < 4) : call cx 8 [.int .i64 j] [] = some (.agg (ofBytes (idOf j).l), []) := by
  have h : j = 0 ∨ j = 1 ∨ j = 2 ∨ j = 3 := by omega
  refine call_some.2 ⟨60, ?_⟩
  rcases h with rfl | rfl | rfl | rfl <;> kernel_rfl
/-- A few marks, of the first i names. -/
structure Few (i : Nat) (l : List Mk) : Prop where
  rises : risesM l = true
  ok : ∀ m ∈ l, m.Ok
  id : ∀ m ∈ l, ∃ j, j < i ∧ m.id = idOf j
  len : l.length ≤ i
theorem id_lt {i j : Nat} (h : i < j) (hj : j < 4) : cmpB (idOf i).l (idOf j).l < 0 := by
  have h : (i = 0 ∧ (j = 1 ∨ j = 2 ∨ j = 3)) ∨ (i = 1 ∧ (j = 2 ∨ j = 3)) ∨ (i = 2 ∧ j = 3) := by omega
  rcases h with ⟨rfl, rfl | rfl | rfl⟩ | ⟨rfl, rfl | rfl⟩ | ⟨rfl, rfl⟩ <;> decide
theorem Few.same {i : Nat} {l : List Mk} (h : Few i l) : Few (i + 1) l :=
  ⟨h.rises, h.ok, fun m hm => by obtain ⟨j, h1, h2⟩ := h.id m hm; exact ⟨j, by omega, h2⟩, by have := h.len; omega⟩
theorem rises_snoc : ∀ {l : List Mk} {m : Mk}, risesM l = true → (∀ x ∈ l, cmpB x.id.l m.id.l < 0) → risesM (l ++ [m]) = true
  | [], _, _, _ => rfl
  | [a], m, _, h => by simp [risesM, h a (List.mem_cons_self ..)]
  | a :: b :: l, m, hr, h => by
    simp only [risesM, Bool.and_eq_true] at hr
    have := rises_snoc (l := b :: l) hr.2 fun x hx => h x (List.mem_cons_of_mem _ hx)
    simp only [List.cons_append, risesM, Bool.and_eq_true] at this ⊢
    exact ⟨hr.1, this⟩
theorem Few.add {i : Nat} {l : List Mk} (h : Few i l) (hi : i < 4) {a b c : Nat} (ha : a < 1000) (hb : b < 1000) (hc : c < 1000) : Few (i + 1) (l ++ [⟨idOf i, a, b, c⟩]) := by
  refine ⟨rises_snoc h.rises fun x hx => ?_, fun m hm => ?_, fun m hm => ?_, by have := h.len; simp; omega⟩
  · obtain ⟨j, h1, h2⟩ := h.id x hx
    rw [h2]
    exact id_lt h1 hi
  · rcases List.mem_append.1 hm with h' | h'
    · exact h.ok m h'
    · rw [List.mem_singleton.1 h']
      exact ⟨by simp only [isU64]; omega, by simp only [isU64]; omega, by simp only [isU64]; omega⟩
  · rcases List.mem_append.1 hm with h' | h'
    · obtain ⟨j, h1, h2⟩ := h.id m h'
      exact ⟨j, by omega, h2⟩
    · rw [List.mem_singleton.1 h']
      exact ⟨i, by omega, rfl⟩
theorem bndFew {n : Nat} (h : n ≤ 4) : (n + 1) * 40 ≤ 140737488355328 ∧ n ≤ 140737488355327 :=
  ⟨Nat.le_trans (Nat.mul_le_mul_right 40 (show n + 1 ≤ 5 by omega)) (by decide), Nat.le_trans h (by decide)⟩
set_option maxRecDepth 4000 in
set_option maxHeartbeats 2000000 in
theorem some_ev (nil : Bool) (zs : List Int) (hnil : nil = true → zs = []) (H : Heap) (q : Nat) (hq : q < H.length) (hcl : H.all (blkClosed H.length) = true) (hg : hget H q = some (seqD nil zs 0)) :
    ∃ (s : Sl Mk) (k : Nat), Few 4 s.l ∧ call cx 12 [.optr q 2 0] H = some ((.vsl s.nil (encs s.l) s.l.length), H.set q (some (seqD nil zs k))) := by
  have hset : H.set q (some (seqD nil zs 0)) = H := by
    rw [hget, List.getElem?_eq_getElem hq] at hg
    simp only [Option.getD_some] at hg
    rw [← hg, List.set_getElem_self]
  suffices h : ∃ r, call cx 12 [.optr q 2 0] H = some r ∧ ∃ (s : Sl Mk) (k : Nat), Few 4 s.l ∧ r = ((.vsl s.nil (encs s.l) s.l.length), H.set q (some (seqD nil zs k))) by
    obtain ⟨r, h1, s, k, h2, h3⟩ := h
    exact ⟨s, k, h2, by rw [h1, h3]⟩
  have hT : ∀ s (L : Heap), (H.set q s ++ L).take (List.length H) = H.set q s := fun s L => List.take_left' (by simp)
  have hT0 : ∀ s, (H.set q s).take (List.length H) = H.set q s := fun s => List.take_of_length_le (by simp)
  have hB : ∀ s, (H.set q (some (seqD nil zs s))).all (blkClosed (List.length H)) = true := fun s => by
    rw [List.all_eq_true]
    intro x hx
    rcases List.mem_or_eq_of_mem_set hx with h | rfl
    · exact List.all_eq_true.1 hcl x h
    · rfl
  have hnn : ¬ (H.length + 1 < H.length) := by omega
  have hB' : ∀ s, ∀ x, x ∈ H.set q (some (seqD nil zs s)) → blkClosed (List.length H) x = true := fun s => List.all_eq_true.1 (hB s)
  refine call_runE _ Try.func12 rfl ⟨rfl, rfl⟩ ?_
  simp [Try.f12]
  refine Run.loopThen (fun (i : Nat) e H' => i ≤ 4 ∧ ∃ (out : List Mk) (k : Nat), Few i out ∧ k ≤ 4 * i ∧ look e 0 = some (.optr q 2 0) ∧ look e 4 = some (.int .i64 i) ∧
    ((look e 3 = some (.vsl true [] 0) ∧ out = [] ∧ H' = H.set q (some (seqD nil zs k))) ∨ (look e 3 = some (.osl H.length (out.length * 19) 0 out.length 19) ∧ out ≠ [] ∧ H' = H.set q (some (seqD nil zs k)) ++ [some (encs out)]))) (fun i => 4 - i) 0 ?_ ?_
  · refine ⟨by omega, [], 0, ⟨rfl, by simp, by simp, by simp⟩, by omega, ?_⟩
    simp [hset]
  · rintro i e H' ⟨hi, out, k, hf, hk, h0, h4, hst⟩
    by_cases hlt : i < 4
    · have hlt' : (i : Int) < 4 := by omega
      have hw : IntKind.i64.wrap ((i : Int) + 1) = ((i + 1 : Nat) : Int) := by rw [wrap_i64] <;> omega
      have hid := id_ev hlt
      have hlen := hf.len
      rcases hst with ⟨h3, rfl, rfl⟩ | ⟨h3, hne, rfl⟩
      · obtain ⟨x1, k1, b1, c1, d1⟩ := n_ev2 nil zs hnil k (by omega) 2 (by omega) (by omega) H [] q hq hcl rfl
        simp only [List.append_nil] at d1
        by_cases hx1 : x1 = 1
        · obtain ⟨x2, k2, b2, c2, d2⟩ := n_ev2 nil zs hnil k1 (by omega) 9 (by omega) (by omega) H [] q hq hcl rfl
          obtain ⟨x3, k3, b3, c3, d3⟩ := n_ev2 nil zs hnil k2 (by omega) 9 (by omega) (by omega) H [] q hq hcl rfl
          obtain ⟨x4, k4, b4, c4, d4⟩ := n_ev2 nil zs hnil k3 (by omega) 9 (by omega) (by omega) H [] q hq hcl rfl
          simp only [List.append_nil] at d2 d3 d4
          have w2 : IntKind.u64.wrap (x2 : Int) = (x2 : Int) := by rw [wrap_u64]; omega
          have w3 : IntKind.u64.wrap (x3 : Int) = (x3 : Int) := by rw [wrap_u64]; omega
          have w4 : IntKind.u64.wrap (x4 : Int) = (x4 : Int) := by rw [wrap_u64]; omega
          subst hx1
          have hfold : ofBytes (idOf i).l ++ [.int .u64 (x2 : Int), .int .u64 (x3 : Int), .int .u64 (x4 : Int)] = Enc.cells (⟨idOf i, x2, x3, x4⟩ : Mk) := rfl
          simp [h0, h4, h3, hlt', d1, d2, d3, d4, hid, w2, w3, w4, hw, maxBytes, List.take_append, List.drop_append, drop_bytes, List.take_of_length_le, hfold, hT, hB, hq, hnn, -blkClosed]
          exact ⟨i + 1, by omega, by omega, [⟨idOf i, x2, x3, x4⟩], hf.add hlt (by omega) (by omega) (by omega), k4, by omega, rfl, ⟨rfl, rfl⟩, by simp, rfl, rfl⟩
        · have hx1' : ¬ (x1 : Int) = 1 := by omega
          simp [h0, h4, h3, hlt', d1, hx1, hx1', hw, hT, hT0, hB, hq, hnn, -blkClosed]
          exact ⟨i + 1, by omega, by omega, [], hf.same, k1, by omega, rfl, rfl, rfl⟩
      · have hL : List.all [some (encs out)] (fun o => o.all (·.all idFree)) = true := by simp [-List.all_eq_true]
        obtain ⟨x1, k1, b1, c1, d1⟩ := n_ev2 nil zs hnil k (by omega) 2 (by omega) (by omega) H [some (encs out)] q hq hcl hL
        by_cases hx1 : x1 = 1
        · obtain ⟨x2, k2, b2, c2, d2⟩ := n_ev2 nil zs hnil k1 (by omega) 9 (by omega) (by omega) H [some (encs out)] q hq hcl hL
          obtain ⟨x3, k3, b3, c3, d3⟩ := n_ev2 nil zs hnil k2 (by omega) 9 (by omega) (by omega) H [some (encs out)] q hq hcl hL
          obtain ⟨x4, k4, b4, c4, d4⟩ := n_ev2 nil zs hnil k3 (by omega) 9 (by omega) (by omega) H [some (encs out)] q hq hcl hL
          have w2 : IntKind.u64.wrap (x2 : Int) = (x2 : Int) := by rw [wrap_u64]; omega
          have w3 : IntKind.u64.wrap (x3 : Int) = (x3 : Int) := by rw [wrap_u64]; omega
          have w4 : IntKind.u64.wrap (x4 : Int) = (x4 : Int) := by rw [wrap_u64]; omega
          subst hx1
          have hfold : ofBytes (idOf i).l ++ [.int .u64 (x2 : Int), .int .u64 (x3 : Int), .int .u64 (x4 : Int)] = Enc.cells (⟨idOf i, x2, x3, x4⟩ : Mk) := rfl
          simp [h0, h4, h3, hlt', d1, d2, d3, d4, hid, w2, w3, w4, hw, maxBytes, List.take_append, List.drop_append, drop_bytes, List.take_of_length_le, hfold, hT, hB, hq, bndFew (show out.length ≤ 4 by omega), -blkClosed]
          refine ⟨i + 1, by omega, by omega, out ++ [⟨idOf i, x2, x3, x4⟩], hf.add hlt (by omega) (by omega) (by omega), k4, by omega, rfl, ⟨?_, ?_⟩, ?_, rfl, ?_⟩
          · rw [List.length_append, List.length_singleton, Nat.add_mul]
          · rw [List.length_append, List.length_singleton]
          · simp
          · rw [encs_append]; simp [encs]
        · have hx1' : ¬ (x1 : Int) = 1 := by omega
          simp [h0, h4, h3, hlt', d1, hx1, hx1', hw, hT, hT0, hB, hq, hnn, -blkClosed]
          exact ⟨i + 1, by omega, by omega, out, hf.same, k1, by omega, rfl, ⟨rfl, rfl⟩, hne, rfl, rfl⟩
    · have hlt' : ¬ (i : Int) < 4 := by omega
      have : i = 4 := by omega
      subst this
      rcases hst with ⟨h3, rfl, rfl⟩ | ⟨h3, hne, rfl⟩
      · simp [h0, h4, h3, hT, hT0, -blkClosed]
        exact ⟨_, _, ⟨hB' k, rfl, rfl⟩, Sl.none, hf, rfl, k, rfl⟩
      · simp [h0, h4, h3, hT, hT0, -blkClosed]
        exact ⟨_, _, ⟨hB' k, rfl, rfl⟩, ⟨false, out, by simp⟩, hf, rfl, k, rfl⟩
end Go.Ev.S
/- Fields, records, items. -/
namespace Go.Ev
open Go Go.Proofs
/-- A field. -/
structure Pr where
  name : List UInt8
  value : List UInt8
  deriving DecidableEq
instance : Enc Pr := ⟨2, fun p => [.str p.name, .str p.value], fun _ => rfl, fun _ => rfl⟩
theorem Pr.cells (p : Pr) : Enc.cells p = [.str p.name, .str p.value] := rfl
@[simp] theorem Pr.size : Enc.size Pr = 2 := rfl
@[simp] theorem Pr.cl (a : Pr) : (Enc.cells a).length = 2 := Enc.len a
@[simp] theorem Pr.ct (a : Pr) (r : List D) : (Enc.cells a ++ r).take 2 = Enc.cells a := cells_take rfl a r
@[simp] theorem Pr.ct' (a : Pr) : (Enc.cells a).take 2 = Enc.cells a := cells_take' rfl a
@[simp] theorem Pr.cd (a : Pr) (r : List D) : (Enc.cells a ++ r).drop 2 = r := cells_drop rfl a r
@[simp] theorem Pr.el (l : List Pr) : (encs l).length = l.length * 2 := encs_len' rfl l
@[simp] theorem Pr.ed (l : List Pr) (i : Nat) : (encs l).drop (i * 2) = encs (l.drop i) := encs_drop rfl l i
@[simp] theorem Pr.et (l : List Pr) (i : Nat) : (encs l).take (i * 2) = encs (l.take i) := encs_take rfl l i
@[simp high] theorem Pr.ea {l : List Pr} {i : Nat} (h : i < l.length) : (encs l).drop (i * 2) = Enc.cells l[i] ++ encs (l.drop (i + 1)) := encs_at rfl h
@[simp high] theorem Pr.es (m : Pr) {l : List Pr} {j : Nat} (h : j < l.length) : setRange (encs l) (j * 2) (Enc.cells m) = encs (l.set j m) := encs_set rfl m l h
/-- A record. -/
structure Rec where
  seq : Int
  real : Int
  mono : Int
  boot : ID
  fields : Sl Pr
instance : Enc Rec := ⟨20, fun r => [.int .u64 r.seq, .int .u64 r.real, .int .u64 r.mono] ++ (ofBytes r.boot.l ++ [(.vsl r.fields.nil (encs r.fields.l) r.fields.l.length)]), fun r => by simp, fun r => by simp [idFree]⟩
theorem Rec.cells (r : Rec) : Enc.cells r = [.int .u64 r.seq, .int .u64 r.real, .int .u64 r.mono] ++ (ofBytes r.boot.l ++ [(.vsl r.fields.nil (encs r.fields.l) r.fields.l.length)]) := rfl
@[simp] theorem Rec.size : Enc.size Rec = 20 := rfl
structure Rec.Ok (r : Rec) : Prop where
  seq : isU64 r.seq
  real : isU64 r.real
  mono : isU64 r.mono
@[simp] theorem Rec.cl (a : Rec) : (Enc.cells a).length = 20 := Enc.len a
@[simp] theorem Rec.ct (a : Rec) (r : List D) : (Enc.cells a ++ r).take 20 = Enc.cells a := cells_take rfl a r
@[simp] theorem Rec.ct' (a : Rec) : (Enc.cells a).take 20 = Enc.cells a := cells_take' rfl a
@[simp] theorem Rec.cd (a : Rec) (r : List D) : (Enc.cells a ++ r).drop 20 = r := cells_drop rfl a r
@[simp] theorem Rec.el (l : List Rec) : (encs l).length = l.length * 20 := encs_len' rfl l
@[simp] theorem Rec.ed (l : List Rec) (i : Nat) : (encs l).drop (i * 20) = encs (l.drop i) := encs_drop rfl l i
@[simp] theorem Rec.et (l : List Rec) (i : Nat) : (encs l).take (i * 20) = encs (l.take i) := encs_take rfl l i
@[simp high] theorem Rec.ea {l : List Rec} {i : Nat} (h : i < l.length) : (encs l).drop (i * 20) = Enc.cells l[i] ++ encs (l.drop (i + 1)) := encs_at rfl h
@[simp high] theorem Rec.es (m : Rec) {l : List Rec} {j : Nat} (h : j < l.length) : setRange (encs l) (j * 20) (Enc.cells m) = encs (l.set j m) := encs_set rfl m l h
/-- An item: an entry of a sequence, or numbers of it that are lost. -/
structure It where
  id : ID
  gap : Bool
  fr : Int
  to : Int
  rc : Rec
instance : Enc It := ⟨39, fun i => ofBytes i.id.l ++ ([.bool i.gap, .int .u64 i.fr, .int .u64 i.to] ++ Enc.cells i.rc), fun i => by simp, fun i => by simp [idFree]⟩
theorem It.cells (i : It) : Enc.cells i = ofBytes i.id.l ++ ([.bool i.gap, .int .u64 i.fr, .int .u64 i.to] ++ ([.int .u64 i.rc.seq, .int .u64 i.rc.real, .int .u64 i.rc.mono] ++ (ofBytes i.rc.boot.l ++ [(.vsl i.rc.fields.nil (encs i.rc.fields.l) i.rc.fields.l.length)]))) := rfl
@[simp] theorem It.size : Enc.size It = 39 := rfl
structure It.Ok (i : It) : Prop where
  fr : isU64 i.fr
  to : isU64 i.to
  rc : i.rc.Ok
@[simp] theorem It.cl (a : It) : (Enc.cells a).length = 39 := Enc.len a
@[simp] theorem It.ct (a : It) (r : List D) : (Enc.cells a ++ r).take 39 = Enc.cells a := cells_take rfl a r
@[simp] theorem It.ct' (a : It) : (Enc.cells a).take 39 = Enc.cells a := cells_take' rfl a
@[simp] theorem It.cd (a : It) (r : List D) : (Enc.cells a ++ r).drop 39 = r := cells_drop rfl a r
@[simp] theorem It.el (l : List It) : (encs l).length = l.length * 39 := encs_len' rfl l
@[simp] theorem It.ed (l : List It) (i : Nat) : (encs l).drop (i * 39) = encs (l.drop i) := encs_drop rfl l i
@[simp] theorem It.et (l : List It) (i : Nat) : (encs l).take (i * 39) = encs (l.take i) := encs_take rfl l i
@[simp high] theorem It.ea {l : List It} {i : Nat} (h : i < l.length) : (encs l).drop (i * 39) = Enc.cells l[i] ++ encs (l.drop (i + 1)) := encs_at rfl h
@[simp high] theorem It.es (m : It) {l : List It} {j : Nat} (h : j < l.length) : setRange (encs l) (j * 39) (Enc.cells m) = encs (l.set j m) := encs_set rfl m l h
@[simp] theorem It.t16 (i : It) : (Enc.cells i).take 16 = ofBytes i.id.l := by simp [It.cells]
@[simp] theorem It.t16' (i : It) (r : List D) : (Enc.cells i ++ r).take 16 = ofBytes i.id.l := by simp [It.cells]
@[simp] theorem It.d16 (i : It) : (Enc.cells i).drop 16 = .bool i.gap :: .int .u64 i.fr :: .int .u64 i.to :: .int .u64 i.rc.seq :: .int .u64 i.rc.real :: .int .u64 i.rc.mono :: (ofBytes i.rc.boot.l ++ [(.vsl i.rc.fields.nil (encs i.rc.fields.l) i.rc.fields.l.length)]) := by simp [It.cells]
@[simp] theorem It.d17 (i : It) : (Enc.cells i).drop 17 = .int .u64 i.fr :: .int .u64 i.to :: .int .u64 i.rc.seq :: .int .u64 i.rc.real :: .int .u64 i.rc.mono :: (ofBytes i.rc.boot.l ++ [(.vsl i.rc.fields.nil (encs i.rc.fields.l) i.rc.fields.l.length)]) := by simp [It.cells, List.drop_append, drop_bytes]
@[simp] theorem It.d18 (i : It) : (Enc.cells i).drop 18 = .int .u64 i.to :: .int .u64 i.rc.seq :: .int .u64 i.rc.real :: .int .u64 i.rc.mono :: (ofBytes i.rc.boot.l ++ [(.vsl i.rc.fields.nil (encs i.rc.fields.l) i.rc.fields.l.length)]) := by simp [It.cells, List.drop_append, drop_bytes]
@[simp] theorem It.d19 (i : It) : (Enc.cells i).drop 19 = .int .u64 i.rc.seq :: .int .u64 i.rc.real :: .int .u64 i.rc.mono :: (ofBytes i.rc.boot.l ++ [(.vsl i.rc.fields.nil (encs i.rc.fields.l) i.rc.fields.l.length)]) := by simp [It.cells, List.drop_append, drop_bytes]
@[simp] theorem It.d20 (i : It) : (Enc.cells i).drop 20 = .int .u64 i.rc.real :: .int .u64 i.rc.mono :: (ofBytes i.rc.boot.l ++ [(.vsl i.rc.fields.nil (encs i.rc.fields.l) i.rc.fields.l.length)]) := by simp [It.cells, List.drop_append, drop_bytes]
@[simp] theorem It.d21 (i : It) : (Enc.cells i).drop 21 = .int .u64 i.rc.mono :: (ofBytes i.rc.boot.l ++ [(.vsl i.rc.fields.nil (encs i.rc.fields.l) i.rc.fields.l.length)]) := by simp [It.cells, List.drop_append, drop_bytes]
@[simp] theorem It.d22 (i : It) : (Enc.cells i).drop 22 = ofBytes i.rc.boot.l ++ [(.vsl i.rc.fields.nil (encs i.rc.fields.l) i.rc.fields.l.length)] := by simp [It.cells, List.drop_append, drop_bytes]
@[simp] theorem It.d38 (i : It) : (Enc.cells i).drop 38 = [(.vsl i.rc.fields.nil (encs i.rc.fields.l) i.rc.fields.l.length)] := by simp [It.cells, List.drop_append, drop_bytes]
end Go.Ev
/- Marks are taken. -/
namespace Go.Ev.S
open Go Go.Proofs Go.Ev
def mayM (l : List Mk) (id : ID) : Int :=
  if rightM l = false then 1 else if l.length = 4 ∧ find? (fun m => m.id == id) l 0 < 0 then 15 else 0
theorem may_ev (s : Sl Mk) (hn : s.l.length < 4611686018427387904) (id : ID) :
    call cx 31 [(.vsl s.nil (encs s.l) s.l.length), .agg (ofBytes id.l)] [] = some (.int .i64 (mayM s.l id), []) := by
  have hr := right_ev s hn
  have hf := find_ev s hn id
  refine call_run Try.func31 rfl ⟨rfl, rfl⟩ ?_
  cases h : rightM s.l with
  | false =>
    rw [h] at hr
    simp [Try.f31, hr, mayM, h]
  | true =>
    rw [h] at hr
    by_cases h4 : s.l.length = 4
    · rw [h4] at hf hr
      by_cases hlt : find? (fun m => m.id == id) s.l 0 < 0
      · simp [Try.f31, hr, mayM, h, h4, hf, hlt]
      · simp [Try.f31, hr, mayM, h, h4, hf, hlt]
    · have h4' : ¬ ((s.l.length : Int) = 4) := by omega
      simp [Try.f31, hr, mayM, h, h4, h4']
theorem mayM_le {l : List Mk} {id : ID} (h : mayM l id = 0) : l.length ≤ 4 := by
  unfold mayM at h
  split at h
  · cases h
  · rename_i hr
    rw [Bool.not_eq_false, rightM, Bool.and_eq_true] at hr
    exact of_decide_eq_true hr.1

/-- A slice that is a result: none, or marks. -/
def resM (c : Int) (l : List Mk) : D := if c = 0 then .vsl false (encs l) l.length else .vsl true [] 0
theorem set_ev (s : Sl Mk) (hn : s.l.length < 4611686018427387904) (m : Mk) :
    call cx 21 [(.vsl s.nil (encs s.l) s.l.length), .agg (Enc.cells m)] [] = some (.tup [resM (mayM s.l m.id) (putM s.l m), .int .i64 (mayM s.l m.id)], []) := by
  have hm := may_ev s hn m.id
  have htk : (Enc.cells m).take 16 = ofBytes m.id.l := by simp [Mk.cells]
  refine call_run Try.func21 rfl ⟨rfl, rfl⟩ ?_
  by_cases hc : mayM s.l m.id = 0
  · have hp := put_ev s (by have := mayM_le hc; omega) m
    rw [hc] at hm
    simp [Try.f21, hm, htk, hp, resM, hc]
  · simp [Try.f21, hm, htk, hc, resM]

/-- A mark behind an item, where it goes on. -/
def stepM (m : Mk) (it : It) (over : Bool) : Mk :=
  if it.gap then { m with seq := it.to, lost := moreM m.lost (IntKind.u64.wrap (IntKind.u64.wrap (it.to - it.fr) + 1)) }
  else { m with seq := it.rc.seq, over := if over then moreM m.over 1 else m.over }
def goesM (m : Mk) (it : It) : Bool :=
  if it.gap then !(decide (it.fr ≤ m.seq) || decide (it.to < it.fr)) else !decide (it.rc.seq ≤ m.seq)
/-- The code of an item that is taken; the marks behind it. -/
def takeC (l : List Mk) (it : It) : Int := if mayM l it.id ≠ 0 then mayM l it.id else if goesM (getM l it.id) it then 0 else 13
def takeL (l : List Mk) (it : It) (over : Bool) : List Mk := putM l (stepM (getM l it.id) it over)
set_option maxRecDepth 4000 in
set_option maxHeartbeats 1000000 in
theorem take_ev (s : Sl Mk) (hn : s.l.length < 4611686018427387904) (it : It) (over : Bool) :
    call cx 10 [(.vsl s.nil (encs s.l) s.l.length), .agg (Enc.cells it), .bool over] [] = some (.tup [resM (takeC s.l it) (takeL s.l it over), .int .i64 (takeC s.l it)], []) := by
  have hm := may_ev s hn it.id
  have hge := get_ev s hn it.id
  have hgid := getM_id s.l it.id
  refine call_run Try.func10 rfl ⟨rfl, rfl⟩ ?_
  by_cases hc : mayM s.l it.id = 0
  · rw [hc] at hm
    have hp := put_ev s (by have := mayM_le hc; omega) (stepM (getM s.l it.id) it over)
    unfold takeC takeL
    rw [if_neg (by simpa using hc)]
    generalize getM s.l it.id = g at *
    generalize putM s.l (stepM g it over) = pm at *
    cases hgap : it.gap with
    | true =>
      by_cases h1 : it.fr ≤ g.seq
      · simp [Try.f10, It.cells, hm, List.drop_append, drop_bytes, hge, hgid, hgap, Mk.cells, h1, goesM, resM]
      · by_cases h2 : it.to < it.fr
        · simp [Try.f10, It.cells, hm, List.drop_append, drop_bytes, hge, hgid, hgap, Mk.cells, h1, h2, goesM, resM]
        · have hmo := more_ev g.lost (IntKind.u64.wrap (IntKind.u64.wrap (it.to - it.fr) + 1))
          simp only [stepM, hgap, if_true, Mk.cells, hgid] at hp
          simp [Try.f10, It.cells, hm, List.take_append, List.drop_append, drop_bytes, hge, hgid, hgap, Mk.cells, h1, h2, goesM, resM, hmo]
          simp [hp]
    | false =>
      by_cases h1 : it.rc.seq ≤ g.seq
      · simp [Try.f10, It.cells, hm, List.drop_append, drop_bytes, hge, hgid, hgap, Mk.cells, h1, goesM, resM]
      · have hmo := more_ev g.over 1
        simp only [stepM, hgap, Mk.cells, hgid] at hp
        cases over with
        | false =>
          simp at hp
          simp [Try.f10, It.cells, hm, List.take_append, List.drop_append, drop_bytes, hge, hgid, hgap, Mk.cells, h1, goesM, resM, hp]
        | true =>
          simp at hp
          simp [Try.f10, It.cells, hm, List.take_append, List.drop_append, drop_bytes, hge, hgid, hgap, Mk.cells, h1, goesM, resM, hp, hmo]
  · have e : takeC s.l it = mayM s.l it.id := by unfold takeC; rw [if_pos hc]
    simp [Try.f10, It.cells, hm, hc, List.drop_append, resM, e]
end Go.Ev.S
/- The greater of two marks. -/
namespace Go.Ev.S
open Go Go.Proofs Go.Ev
/-- One step towards the greater of two. -/
def maxStep (s : Sl Mk) (m : Mk) : Sl Mk :=
  if find? (fun x => x.id == m.id) s.l 0 < 0 ∨ (getM s.l m.id).seq < m.seq then .of (putM s.l m) else s
theorem putM_len (l : List Mk) (m : Mk) : (putM l m).length ≤ l.length + 1 := by
  unfold putM
  split
  · rw [insFrom_len]; simp
  · rw [List.length_set]; omega
theorem maxStep_len (s : Sl Mk) (m : Mk) : (maxStep s m).l.length ≤ s.l.length + 1 := by
  unfold maxStep
  split
  · exact putM_len _ m
  · omega
def maxS (a b : Sl Mk) : Sl Mk := b.l.foldl maxStep a
def maxC (a b : Sl Mk) : Int := if rightM a.l && rightM b.l then (if 4 < (maxS a b).l.length then 15 else 0) else 1
/-- A slice that is a result: none, or what it is. -/
def resS {α : Type} (c : Int) (s : Sl α) : Sl α := if c = 0 then s else .none
theorem rightM_le {l : List Mk} (h : rightM l = true) : l.length ≤ 4 := by
  rw [rightM, Bool.and_eq_true] at h
  exact of_decide_eq_true h.1
set_option maxRecDepth 4000 in
set_option maxHeartbeats 4000000 in
theorem max_ev (a b : Sl Mk) (ha : a.l.length < 4611686018427387904) (hb : b.l.length < 4611686018427387904) :
    call cx 13 [(.vsl a.nil (encs a.l) a.l.length), (.vsl b.nil (encs b.l) b.l.length)] [] = some (.tup [(.vsl (resS (maxC a b) (maxS a b)).nil (encs (resS (maxC a b) (maxS a b)).l) (resS (maxC a b) (maxS a b)).l.length), .int .i64 (maxC a b)], []) := by
  have hra := right_ev a ha
  have hrb := right_ev b hb
  cases h1 : rightM a.l with
  | false =>
    rw [h1] at hra
    refine call_run Try.func13 rfl ⟨rfl, rfl⟩ ?_
    simp [Try.f13, hra, resS, maxC, h1]
  | true =>
  cases h2 : rightM b.l with
  | false =>
    rw [h1] at hra
    rw [h2] at hrb
    refine call_run Try.func13 rfl ⟨rfl, rfl⟩ ?_
    simp [Try.f13, hra, hrb, resS, maxC, h1, h2]
  | true =>
  rw [h1] at hra
  rw [h2] at hrb
  have hal := rightM_le h1
  have hbl := rightM_le h2
  have hc := clone_ev a (by omega)
  have hn19 : (encs a.l).take (a.l.length * 19) = encs a.l := by rw [Mk.et, List.take_of_length_le (by omega)]
  have hln : ∀ i, i ≤ b.l.length → ((b.l.take i).foldl maxStep a).l.length ≤ a.l.length + i := by
    intro i
    induction i with
    | zero => simp
    | succ i ih =>
      intro hi
      rw [List.take_succ_eq_append_getElem (by omega), List.foldl_append]
      have := maxStep_len ((b.l.take i).foldl maxStep a) b.l[i]
      have := ih (by omega)
      simp only [List.foldl_cons, List.foldl_nil]
      omega
  refine call_run Try.func13 rfl ⟨rfl, rfl⟩ ?_
  cases hn : a.nil <;> (rw [hn] at hc hra; simp at hc; simp [Try.f13, hra, hrb, hc, hn19])
  all_goals
    refine Run.loopThen (fun (i : Nat) e H => i ≤ b.l.length ∧ H = [] ∧ look e 6 = some (.vsl ((b.l.take i).foldl maxStep a).nil (encs ((b.l.take i).foldl maxStep a).l) ((b.l.take i).foldl maxStep a).l.length) ∧ look e 19 = some (.vsl b.nil (encs b.l) b.l.length) ∧ look e 20 = some (.int .i64 b.l.length) ∧ look e 21 = some (.int .i64 i)) (fun i => b.l.length - i) 0 (by have := a.h; simp_all) ?_
    rintro i e H ⟨hi, rfl, h6, h19, h20, h21⟩
    by_cases hlt : i < b.l.length
    · have hlt' : (i : Int) < (b.l.length : Int) := by omega
      have hw : IntKind.i64.wrap ((i : Int) + 1) = ((i + 1 : Nat) : Int) := by rw [wrap_i64] <;> omega
      have hl := hln i hi
      have hs : (b.l.take (i + 1)).foldl maxStep a = maxStep ((b.l.take i).foldl maxStep a) b.l[i] := by
        rw [List.take_succ_eq_append_getElem hlt, List.foldl_append, List.foldl_cons, List.foldl_nil]
      generalize (b.l.take i).foldl maxStep a = s at h6 hl hs
      have hf := find_ev s (by omega) b.l[i].id
      have hg := get_ev s (by omega) b.l[i].id
      have hp := put_ev s (by omega) b.l[i]
      by_cases hfl : find? (fun x => x.id == b.l[i].id) s.l 0 < 0
      · have hms : maxStep s b.l[i] = .of (putM s.l b.l[i]) := by unfold maxStep; rw [if_pos (.inl hfl)]
        simp [h6, h19, h20, h21, hlt', hlt, Sl.nn hlt, hf, hfl, hp, hw]
        exact ⟨i + 1, by omega, by omega, by simp [hs, hms], rfl⟩
      · by_cases hsq : (getM s.l b.l[i].id).seq < b.l[i].seq
        · have hms : maxStep s b.l[i] = .of (putM s.l b.l[i]) := by unfold maxStep; rw [if_pos (.inr hsq)]
          simp [h6, h19, h20, h21, hlt', hlt, Sl.nn hlt, hf, hfl, hg, hsq, hp, hw]
          exact ⟨i + 1, by omega, by omega, by simp [hs, hms], rfl⟩
        · have hms : maxStep s b.l[i] = s := by unfold maxStep; rw [if_neg (by simp [hfl, hsq])]
          simp [h6, h19, h20, h21, hlt', hlt, Sl.nn hlt, hf, hfl, hg, hsq, hp, hw]
          exact ⟨i + 1, by omega, by omega, by simp [hs, hms], rfl⟩
    · have hlt' : ¬ (i : Int) < (b.l.length : Int) := by omega
      have hib : b.l.take i = b.l := List.take_of_length_le (by omega)
      rw [hib] at h6
      by_cases h4 : 4 < (maxS a b).l.length
      · have h4' : (4 : Int) < ((maxS a b).l.length : Int) := by omega
        have hc15 : maxC a b = 15 := by simp [maxC, h1, h2, h4]
        simp only [maxS] at h4'
        simp [h6, h19, h20, h21, hlt', h4', hc15, resS]
      · have h4' : ¬ (4 : Int) < ((maxS a b).l.length : Int) := by omega
        have hc0 : maxC a b = 0 := by simp [maxC, h1, h2, h4]
        simp only [maxS] at h4'
        simp [h6, h19, h20, h21, hlt', h4', hc0, resS, maxS]
end Go.Ev.S
/- Numbers in bytes, the lowest first. -/
namespace Go.Ev
open Go Go.Proofs
/-- The number that bytes are. -/
def leN : List UInt8 → Nat
  | [] => 0
  | b :: l => b.toNat + 256 * leN l
/-- The lowest n bytes of a number. -/
def leB : Nat → Nat → List UInt8
  | 0, _ => []
  | n + 1, v => UInt8.ofNat (v % 256) :: leB n (v / 256)
@[simp] theorem leB_len : ∀ (n v : Nat), (leB n v).length = n
  | 0, _ => rfl
  | n + 1, v => by simp [leB, leB_len n]
theorem leN_lt : ∀ (l : List UInt8), leN l < 256 ^ l.length
  | [] => by simp [leN]
  | b :: l => by
    have h1 := leN_lt l
    have h2 := b.toNat_lt
    simp only [leN, List.length_cons, Nat.pow_succ]
    omega
theorem leN_leB : ∀ (n v : Nat), leN (leB n v) = v % 256 ^ n
  | 0, v => by simp [leB, leN, Nat.mod_one]
  | n + 1, v => by
    simp only [leB, leN, leN_leB n]
    rw [UInt8.toNat_ofNat_of_lt' (Nat.mod_lt _ (by decide)), Nat.pow_succ, Nat.mul_comm (256 ^ n) 256, Nat.mod_mul]
theorem leB_leN : ∀ (l : List UInt8), leB l.length (leN l) = l
  | [] => rfl
  | b :: l => by
    have h2 := b.toNat_lt
    have e1 : (b.toNat + 256 * leN l) % 256 = b.toNat := by omega
    have e2 : (b.toNat + 256 * leN l) / 256 = leN l := by omega
    simp only [List.length_cons, leN, leB, e1, e2, leB_leN l]
    simp
theorem leB_snoc : ∀ (n v : Nat), leB (n + 1) v = leB n v ++ [UInt8.ofNat (v / 256 ^ n % 256)]
  | 0, v => by simp [leB]
  | n + 1, v => by
    rw [leB, leB_snoc n (v / 256), leB, List.cons_append, Nat.div_div_eq_div_mul, Nat.pow_succ, Nat.mul_comm 256]
theorem leN_append : ∀ (a b : List UInt8), leN (a ++ b) = leN a + 256 ^ a.length * leN b
  | [], b => by simp [leN]
  | x :: a, b => by
    simp only [List.cons_append, leN, leN_append a b, List.length_cons, Nat.pow_succ]
    rw [Nat.mul_add, ← Nat.mul_assoc, Nat.mul_comm 256 (256 ^ a.length), Nat.add_assoc]
theorem ofBytes_append (a b : List UInt8) : ofBytes (a ++ b) = ofBytes a ++ ofBytes b := by simp [ofBytes]
theorem ofBytes_cons (a : UInt8) (b : List UInt8) : ofBytes (a :: b) = .int .u8 (a.toNat : Int) :: ofBytes b := rfl
theorem ofBytes_drop (l : List UInt8) (i : Nat) : (ofBytes l).drop i = ofBytes (l.drop i) := by simp [ofBytes]
theorem ofBytes_take (l : List UInt8) (i : Nat) : (ofBytes l).take i = ofBytes (l.take i) := by simp [ofBytes]
theorem ofBytes_at {l : List UInt8} {i : Nat} (h : i < l.length) : (ofBytes l).drop i = .int .u8 (l[i].toNat : Int) :: ofBytes (l.drop (i + 1)) := by
  rw [ofBytes_drop, List.drop_eq_getElem_cons h, ofBytes_cons]
theorem ofBytes_get {l : List UInt8} {i : Nat} (h : i < (ofBytes l).length) : (ofBytes l)[i] = .int .u8 ((l[i]'(by simpa using h)).toNat : Int) := by simp [ofBytes]
@[simp] theorem bytesD_of (s : List UInt8) : bytesD (ofBytes s) = some s := by
  induction s with
  | nil => rfl
  | cons a s ih =>
    have : bytesD (ofBytes (a :: s)) = (bytesD (ofBytes s)).map fun r => UInt8.ofNat ((a.toNat : Int)).toNat :: r := rfl
    rw [this, ih]
    simp
theorem or_shl (x y : Nat) (h : y < 256) : (x * 256) ||| y = x * 256 + y := by
  have := Nat.shiftLeft_add_eq_or_of_lt (b := y) (i := 8) (by simpa using h) x
  rw [Nat.shiftLeft_eq] at this
  simpa using this.symm
/-- A slice of one's own that grows, none at first. -/
def BufE {α : Type} [Enc α] (n : Nat) (d : D) (H : Heap) (l : List α) : Prop := (d = .vsl true [] 0 ∧ l = [] ∧ H = []) ∨ (d = .osl 0 (l.length * n) 0 l.length n ∧ H = [some (encs l)] ∧ l ≠ [])
theorem BufE.snoc {α : Type} [Enc α] {n : Nat} (l : List α) (a : α) : BufE n (.osl 0 (l.length * n + n) 0 (l.length + 1) n) [some (encs l ++ Enc.cells a)] (l ++ [a]) :=
  .inr ⟨by simp [Nat.add_mul], by simp [encs_snoc], by simp⟩
theorem BufE.one {α : Type} [Enc α] {n : Nat} (a : α) : BufE n (.osl 0 n 0 1 n) [some (Enc.cells a)] ([] ++ [a]) :=
  .inr ⟨by simp, by simp [encs_one], by simp⟩
/-- A list as a slice: none where it is empty. -/
def Sl.grown {α : Type} (l : List α) : Sl α := ⟨l.isEmpty, l, by simp⟩
@[simp] theorem Sl.grown_l {α : Type} (l : List α) : (Sl.grown l).l = l := rfl
def ID.mk' (l : List UInt8) : ID := if h : l.length = 16 then ⟨l, h⟩ else ID.zero
theorem ID.mk'_l {l : List UInt8} (h : l.length = 16) : (ID.mk' l).l = l := by unfold ID.mk'; rw [dif_pos h]
/-- The mark that bytes are. -/
def mkOf (r : List UInt8) : Mk := ⟨ID.mk' (r.take 16), leN ((r.drop 16).take 8), leN ((r.drop 24).take 8), leN ((r.drop 32).take 8)⟩
def lastGe (out : List Mk) (id : List UInt8) : Bool := match out.getLast? with
  | some m => decide (0 ≤ cmpB m.id.l id)
  | none => false
/-- Marks that are read one behind the other: what is read, the code. -/
def readGo : Nat → List UInt8 → List Mk → List Mk × Int
  | 0, _, out => (out, 0)
  | k + 1, r, out => if r.length < 16 then ([], 22) else if lastGe out (r.take 16) then ([], 13) else if r.length < 40 then ([], 22) else readGo k (r.drop 40) (out ++ [mkOf r])
def readM : List UInt8 → List Mk × Int
  | [] => ([], 22)
  | c :: r => if 4 < c.toNat then ([], 21) else readGo c.toNat r []
def readN (x : List Mk × Int) : Int := if x.2 = 0 then 1 + 40 * (x.1.length : Int) else 0
end Go.Ev
/- Numbers in bytes: the program's. -/
namespace Go.Ev.S
open Go Go.Proofs Go.Ev
def szOk (n : Int) : Bool := n == 1 || n == 2 || n == 4 || n == 8
theorem lesize_ev (n : Int) : call cx 51 [.int .i64 n] [] = some (.bool (szOk n), []) := by
  refine call_run Try.func51 rfl ⟨rfl, rfl⟩ ?_
  unfold szOk
  by_cases h1 : n = 1
  · subst h1; simp [Try.f51]
  · by_cases h2 : n = 2
    · subst h2; simp [Try.f51]
    · by_cases h3 : n = 4
      · subst h3; simp [Try.f51]
      · simp [Try.f51, h1, h2, h3]
theorem szOk_le {n : Int} (h : szOk n = true) : 1 ≤ n ∧ n ≤ 8 := by
  simp [szOk] at h
  omega
/-- The number in n bytes at a place, if there are so many. -/
def leGet (l : List UInt8) (at_ n : Int) : Option Nat :=
  if szOk n = true ∧ 0 ≤ at_ ∧ at_ + n ≤ l.length then some (leN ((l.drop at_.toNat).take n.toNat)) else none
def optN (o : Option Nat) : D := .tup [.int .u64 ((o.getD 0 : Nat) : Int), .bool o.isSome]
theorem bytesclone_ev (s : Sl UInt8) (hn : s.l.length ≤ 140737488355328) :
    call cx 50 [(.vsl s.nil (ofBytes s.l) s.l.length)] [] = if s.nil then some (.vsl true [] 0, []) else some (.osl 0 s.l.length 0 s.l.length 1, [some (ofBytes s.l)]) := by
  obtain ⟨nil, l, hnil⟩ := s
  simp only at hn ⊢
  cases nil with
  | true =>
    have hl0 := hnil rfl
    subst hl0
    rw [if_pos rfl]
    refine call_run Try.func50 rfl ⟨rfl, rfl⟩ ?_
    simp [Try.f50]
  | false =>
    rw [if_neg (by decide)]
    refine call_run Try.func50 rfl ⟨rfl, rfl⟩ ?_
    simp [Try.f50, maxBytes, hn]
theorem bits64 : 2 ^ IntKind.u64.bits = 18446744073709551616 := by simp only [IntKind.bits]
theorem leget_step (x y : Nat) (hy : y < 256) (hx : x * 256 + y < 18446744073709551616) :
    orI .u64 (IntKind.u64.wrap ((x : Int) * 256)) (y : Int) = ((x * 256 + y : Nat) : Int) := by
  have e3 : x * 256 < 2 ^ IntKind.u64.bits := Nat.lt_of_lt_of_eq (Nat.lt_of_le_of_lt (Nat.le_add_right _ _) hx) bits64.symm
  have e4 : y < 2 ^ IntKind.u64.bits := Nat.lt_of_lt_of_eq (Nat.lt_of_lt_of_le hy (by decide)) bits64.symm
  have e1 : IntKind.u64.wrap ((x : Int) * 256) = ((x * 256 : Nat) : Int) := by clear e3 e4; rw [wrap_u64] <;> omega
  rw [e1, orI_nat rfl e3 e4, or_shl x y hy]
set_option maxHeartbeats 1000000 in
theorem leget_ev (s : Sl UInt8) (at_ n : Int) (hat : -9223372036854775808 ≤ at_ ∧ at_ < 9223372036854775808) (hl : s.l.length < 4611686018427387904) :
    call cx 40 [(.vsl s.nil (ofBytes s.l) s.l.length), .int .i64 at_, .int .i64 n] [] = some (optN (leGet s.l at_ n), []) := by
  have hs := lesize_ev n
  refine call_run Try.func40 rfl ⟨rfl, rfl⟩ ?_
  cases hz : szOk n with
  | false =>
    rw [hz] at hs
    simp [Try.f40, hs, leGet, hz, optN]
  | true =>
    rw [hz] at hs
    have hb := szOk_le hz
    by_cases h0 : at_ < 0
    · have h0' : ¬ 0 ≤ at_ := by omega
      simp [Try.f40, hs, leGet, hz, optN, h0, h0']
    · have h0' : 0 ≤ at_ := by omega
      have hw : IntKind.i64.wrap ((s.l.length : Int) - n) = (s.l.length : Int) - n := by rw [wrap_i64]; omega
      by_cases hle : at_ + n ≤ s.l.length
      · have hle' : ¬ ((s.l.length : Int) - n < at_) := by omega
        obtain ⟨a, rfl⟩ : ∃ a : Nat, at_ = a := ⟨at_.toNat, by omega⟩
        obtain ⟨k, rfl⟩ : ∃ k : Nat, n = k := ⟨n.toNat, by omega⟩
        have hw1 : IntKind.i64.wrap ((k : Int) - 1) = (k : Int) - 1 := by rw [wrap_i64]; omega
        have hnn : s.nil = false := Sl.nn (i := a) (by omega)
        simp [Try.f40, hs, leGet, hz, optN, h0, h0', hw, hle, hle', hw1, hnn]
        refine Run.loopThen (fun (i : Nat) e H => i ≤ k ∧ H = [] ∧ look e 0 = some (.vsl s.nil (ofBytes s.l) s.l.length) ∧ look e 1 = some (.int .i64 a) ∧ look e 8 = some (.int .u64 (leN ((s.l.drop (a + i)).take (k - i)) : Nat)) ∧ look e 9 = some (.int .i64 ((i : Int) - 1))) (fun i => i) k (by simp [leN, hnn]) ?_
        rintro i e H ⟨hi, rfl, h0, h1, h8, h9⟩
        cases i with
        | zero => simp [h0, h1, h8, h9]
        | succ j =>
          have hj : (0 : Int) ≤ (j : Int) := by omega
          have hwj : IntKind.i64.wrap ((a : Int) + (j : Int)) = ((a + j : Nat) : Int) := by rw [wrap_i64] <;> omega
          have hwk : IntKind.i64.wrap ((j : Int) - 1) = (j : Int) - 1 := by rw [wrap_i64]; omega
          have hlt : a + j < s.l.length := by omega
          have hlt' : ((a + j : Nat) : Int) < (s.l.length : Int) := by omega
          have e1 : ((j + 1 : Nat) : Int) - 1 = (j : Int) := by omega
          rw [e1] at h9
          have hd : (s.l.drop (a + j)).take (k - j) = s.l[a + j] :: (s.l.drop (a + (j + 1))).take (k - (j + 1)) := by
            rw [List.drop_eq_getElem_cons hlt, show k - j = (k - (j + 1)) + 1 by omega, List.take_succ_cons, Nat.add_assoc]
          have hn8 : leN ((s.l.drop (a + (j + 1))).take (k - (j + 1))) < 256 ^ 7 := by
            refine Nat.lt_of_lt_of_le (leN_lt _) (Nat.pow_le_pow_right (by decide) ?_)
            rw [List.length_take]
            omega
          have hst := leget_step (leN ((s.l.drop (a + (j + 1))).take (k - (j + 1)))) s.l[a + j].toNat s.l[a + j].toNat_lt (by have := s.l[a + j].toNat_lt; omega)
          have hwu : IntKind.u64.wrap (s.l[a + j].toNat : Int) = (s.l[a + j].toNat : Int) := by rw [wrap_u64]; have := s.l[a + j].toNat_lt; omega
          have g1 : (0 : Int) ≤ (a : Int) + (j : Int) := by omega
          have g2 : (a : Int) + (j : Int) < (s.l.length : Int) := by omega
          have g3 : ((a : Int) + (j : Int)).toNat = a + j := by omega
          simp [h0, h1, h8, h9, hj, hwj, hwk, hwu, hnn, g1, g2, g3, ofBytes_at hlt, IntKind.bits]
          rw [hst]
          exact ⟨j, by omega, by omega, by rw [hd, leN, Nat.mul_comm, Nat.add_comm], rfl⟩
      · have hle' : (s.l.length : Int) - n < at_ := by omega
        simp [Try.f40, hs, leGet, hz, optN, h0, h0', hw, hle, hle']
theorem leB_val (v : Nat) {i : Nat} (hi : i ≤ 7) : IntKind.u8.wrap ((v : Int).fdiv (2 ^ min (8 * i) 64)) = ((UInt8.ofNat (v / 256 ^ i % 256)).toNat : Int) := by
  have e1 : min (8 * i) 64 = 8 * i := by omega
  have e2 : ((2 : Int) ^ (8 * i)) = ((256 ^ i : Nat) : Int) := by rw [Int.pow_mul]; simp
  have e3 : (v : Int).fdiv ((256 ^ i : Nat) : Int) = ((v / 256 ^ i : Nat) : Int) := by
    rw [Int.fdiv_eq_ediv_of_nonneg _ (Int.natCast_nonneg _)]
    exact (Int.natCast_ediv v (256 ^ i)).symm
  rw [e1, e2, e3, UInt8.toNat_ofNat_of_lt' (Nat.mod_lt _ (by decide))]
  simp only [IntKind.wrap, IntKind.signed, IntKind.bits]
  simp
/-- A slice of one's own that grows. -/
def Buf (d : D) (H : Heap) (l : List UInt8) : Prop := (d = .vsl true [] 0 ∧ l = [] ∧ H = []) ∨ (d = .osl 0 l.length 0 l.length 1 ∧ H = [some (ofBytes l)])
/-- Bytes with the lowest ones of a number behind them. -/
def leAdd (l : List UInt8) (n : Int) (v : Nat) : List UInt8 := if szOk n then l ++ leB n.toNat v else l
theorem buf_pack {d : D} {H : Heap} {l : List UInt8} (h : Buf d H l) : pack 0 H d = some (d, H) := by
  rcases h with ⟨rfl, rfl, rfl⟩ | ⟨rfl, rfl⟩ <;> simp
set_option maxHeartbeats 1000000 in
theorem leadd_ev (s : Sl UInt8) (n : Int) (v : Nat) (hn : s.l.length ≤ 140737488355000) :
    ∃ d H, Buf d H (leAdd s.l n v) ∧ call cx 39 [(.vsl s.nil (ofBytes s.l) s.l.length), .int .i64 n, .int .u64 v] [] = some (d, H) := by
  have hc := bytesclone_ev s (by omega)
  have hs := lesize_ev n
  have hcl : ∃ d H, Buf d H s.l ∧ call cx 50 [(.vsl s.nil (ofBytes s.l) s.l.length)] [] = some (d, H) ∧ shift 0 d = d := by
    cases hnil : s.nil with
    | true =>
      rw [hnil, if_pos rfl] at hc
      exact ⟨_, _, .inl ⟨rfl, s.h hnil, rfl⟩, hc, rfl⟩
    | false =>
      rw [hnil, if_neg (by decide)] at hc
      exact ⟨_, _, .inr ⟨rfl, rfl⟩, hc, rfl⟩
  obtain ⟨d0, H0, hb0, hc0, hsh⟩ := hcl
  cases hz : szOk n with
  | false =>
    rw [hz] at hs
    have hla : leAdd s.l n v = s.l := by simp [leAdd, hz]
    rw [hla]
    refine ⟨d0, H0, hb0, ?_⟩
    refine call_run Try.func39 rfl ⟨rfl, rfl⟩ ?_
    simp [Try.f39, hc0, hs, hsh, buf_pack hb0, -pack]
  | true =>
    have hb := szOk_le hz
    rw [hz] at hs
    obtain ⟨k, rfl⟩ : ∃ k : Nat, n = k := ⟨n.toNat, by omega⟩
    have hla : leAdd s.l k v = s.l ++ leB k v := by simp [leAdd, hz]
    have hR : ∃ d H, Buf d H (leAdd s.l k v) := ⟨_, _, .inr ⟨rfl, rfl⟩⟩
    refine ⟨.osl 0 (leAdd s.l k v).length 0 (leAdd s.l k v).length 1, [some (ofBytes (leAdd s.l k v))], .inr ⟨rfl, rfl⟩, ?_⟩
    refine call_run Try.func39 rfl ⟨rfl, rfl⟩ ?_
    simp [Try.f39, hc0, hs, hsh, -pack]
    refine Run.loopThen (fun (i : Nat) e H => i ≤ k ∧ (∃ d, look e 7 = some d ∧ Buf d H (s.l ++ leB i v)) ∧ look e 2 = some (.int .u64 v) ∧ look e 15 = some (.int .i64 k) ∧ look e 16 = some (.int .i64 i)) (fun i => k - i) 0 (by simp [leB, hb0]) ?_
    rintro i e H ⟨hi, ⟨d, h7, hbuf⟩, h2, h15, h16⟩
    by_cases hlt : i < k
    · have hlt' : (i : Int) < (k : Int) := by omega
      have hw : IntKind.i64.wrap ((i : Int) + 1) = ((i + 1 : Nat) : Int) := by rw [wrap_i64] <;> omega
      have hw8 : IntKind.i64.wrap (8 * (i : Int)) = 8 * (i : Int) := by rw [wrap_i64]; omega
      have hng : ¬ (8 * (i : Int) < 0) := by omega
      have htn : (8 * (i : Int)).toNat = 8 * i := by omega
      have hv := leB_val v (i := i) (by omega)
      have hl : (s.l ++ leB i v).length ≤ 140737488355100 := by simp; omega
      have hsn : s.l ++ leB (i + 1) v = (s.l ++ leB i v) ++ [UInt8.ofNat (v / 256 ^ i % 256)] := by rw [leB_snoc, List.append_assoc]
      generalize s.l ++ leB i v = l at *
      generalize UInt8.ofNat (v / 256 ^ i % 256) = c at *
      have hmx : l.length + 1 ≤ 140737488355328 := by omega
      rcases hbuf with ⟨rfl, rfl, rfl⟩ | ⟨rfl, rfl⟩
      · simp [h7, h2, h15, h16, hlt', hw, hw8, hng, htn, IntKind.bits, hv, maxBytes]
        exact ⟨i + 1, by omega, by omega, .inr (by simp [hsn, ofBytes]), rfl⟩
      · simp [h7, h2, h15, h16, hlt', hw, hw8, hng, htn, IntKind.bits, hv, maxBytes, hmx]
        exact ⟨i + 1, by omega, by omega, .inr (by simp [hsn, ofBytes]), rfl⟩
    · have hlt' : ¬ (i : Int) < (k : Int) := by omega
      have hik : i = k := by omega
      subst hik
      rw [← hla] at hbuf
      have hlen : 1 ≤ (leAdd s.l i v).length := by rw [hla]; simp; omega
      rcases hbuf with ⟨rfl, hnil, rfl⟩ | ⟨rfl, rfl⟩
      · rw [hnil] at hlen; simp at hlen
      · simp [h7, h2, h15, h16, hlt']
end Go.Ev.S
/- Marks as bytes. -/
namespace Go.Ev.S
open Go Go.Proofs Go.Ev
def leM (a b : List Mk) : Bool := a.all fun m => decide (m.seq ≤ (getM b m.id).seq)
theorem all_step {α : Type} (p : α → Bool) {l : List α} {i : Nat} (h : i < l.length) : (l.drop i).all p = (p l[i] && (l.drop (i + 1)).all p) := by
  rw [List.drop_eq_getElem_cons h, List.all_cons]
set_option maxHeartbeats 1000000 in
theorem le_ev (a b : Sl Mk) (ha : a.l.length < 4611686018427387904) (hb : b.l.length < 4611686018427387904) :
    call cx 14 [(.vsl a.nil (encs a.l) a.l.length), (.vsl b.nil (encs b.l) b.l.length)] [] = some (.bool (leM a.l b.l), []) := by
  refine call_run Try.func14 rfl ⟨rfl, rfl⟩ ?_
  simp [Try.f14]
  refine Run.loopThen (fun (i : Nat) e H => i ≤ a.l.length ∧ H = [] ∧ look e 1 = some (.vsl b.nil (encs b.l) b.l.length) ∧ look e 7 = some (.vsl a.nil (encs a.l) a.l.length) ∧ look e 8 = some (.int .i64 a.l.length) ∧ look e 9 = some (.int .i64 i) ∧ leM a.l b.l = leM (a.l.drop i) b.l) (fun i => a.l.length - i) 0 (by simp) ?_
  rintro i e H ⟨hi, rfl, h1, h7, h8, h9, hr⟩
  by_cases hlt : i < a.l.length
  · have hlt' : (i : Int) < (a.l.length : Int) := by omega
    have hw : IntKind.i64.wrap ((i : Int) + 1) = ((i + 1 : Nat) : Int) := by rw [wrap_i64] <;> omega
    have hg := get_ev b hb a.l[i].id
    unfold leM at hr ⊢
    rw [all_step _ hlt] at hr
    by_cases hs : (getM b.l a.l[i].id).seq < a.l[i].seq
    · have hs' : ¬ a.l[i].seq ≤ (getM b.l a.l[i].id).seq := by omega
      simp only [hs', decide_false, Bool.false_and] at hr
      simp [h1, h7, h8, h9, hlt', hlt, Sl.nn hlt, hg, hs, hr]
    · have hs' : a.l[i].seq ≤ (getM b.l a.l[i].id).seq := by omega
      simp only [hs', decide_true, Bool.true_and] at hr
      simp [h1, h7, h8, h9, hlt', hlt, Sl.nn hlt, hg, hs, hw]
      exact ⟨i + 1, by omega, by omega, rfl, hr⟩
  · have hlt' : ¬ (i : Int) < (a.l.length : Int) := by omega
    have hd : a.l.drop i = [] := List.drop_eq_nil_of_le (by omega)
    rw [hd] at hr
    have he : leM [] b.l = true := rfl
    rw [he] at hr
    simp [h1, h7, h8, h9, hlt', hr]

/-- Two rows are the same. -/
def sameFrom : List Mk → List Mk → Bool
  | a :: x, b :: y => a == b && sameFrom x y
  | [], [] => true
  | _, _ => false
theorem sameFrom_eq : ∀ (x y : List Mk), sameFrom x y = (x == y)
  | [], [] => rfl
  | [], _ :: _ => rfl
  | _ :: _, [] => rfl
  | a :: x, b :: y => by rw [sameFrom, sameFrom_eq x y, List.cons_beq_cons]
set_option maxHeartbeats 1000000 in
theorem equal_ev (a b : Sl Mk) (ha : a.l.length < 4611686018427387904) :
    call cx 38 [(.vsl a.nil (encs a.l) a.l.length), (.vsl b.nil (encs b.l) b.l.length)] [] = some (.bool (a.l == b.l), []) := by
  refine call_run Try.func38 rfl ⟨rfl, rfl⟩ ?_
  by_cases hl : a.l.length = b.l.length
  · simp [Try.f38, hl]
    refine Run.loopThen (fun (i : Nat) e H => i ≤ b.l.length ∧ H = [] ∧ look e 0 = some (.vsl a.nil (encs a.l) a.l.length) ∧ look e 1 = some (.vsl b.nil (encs b.l) b.l.length) ∧ look e 12 = some (.int .i64 b.l.length) ∧ look e 13 = some (.int .i64 i) ∧ sameFrom a.l b.l = sameFrom (a.l.drop i) (b.l.drop i)) (fun i => b.l.length - i) 0 (by simp [hl]) ?_
    rintro i e H ⟨hi, rfl, h0, h1, h12, h13, hr⟩
    rw [sameFrom_eq a.l b.l] at hr
    by_cases hlt : i < b.l.length
    · have hlt' : (i : Int) < (b.l.length : Int) := by omega
      have hla : i < a.l.length := by omega
      have hw : IntKind.i64.wrap ((i : Int) + 1) = ((i + 1 : Nat) : Int) := by rw [wrap_i64] <;> omega
      rw [List.drop_eq_getElem_cons hlt, List.drop_eq_getElem_cons hla, sameFrom] at hr
      have hc := cellsEqMk a.l[i] b.l[i]
      cases he : a.l[i] == b.l[i] with
      | true =>
        rw [he] at hr hc
        rw [Bool.true_and] at hr
        simp [h0, h1, h12, h13, hl, hlt', hlt, Sl.nn hlt, Sl.nn hla, hc, hw]
        exact ⟨i + 1, by omega, by omega, rfl, by rw [sameFrom_eq a.l b.l]; exact hr⟩
      | false =>
        rw [he] at hr hc
        rw [Bool.false_and] at hr
        simp [h0, h1, h12, h13, hl, hlt', hlt, Sl.nn hlt, Sl.nn hla, hc, hr]
    · have hlt' : ¬ (i : Int) < (b.l.length : Int) := by omega
      have h1d : a.l.drop i = [] := List.drop_eq_nil_of_le (by omega)
      have h2d : b.l.drop i = [] := List.drop_eq_nil_of_le (by omega)
      rw [h1d, h2d, sameFrom] at hr
      simp [h0, h1, h12, h13, hlt', hr]
  · have hl' : ¬ ((a.l.length : Int) = (b.l.length : Int)) := by omega
    have he : (a.l == b.l) = false := by
      rw [beq_eq_false_iff_ne]
      intro h
      exact hl (by rw [h])
    simp [Try.f38, hl', he]
theorem same_ev (a b : Sl Mk) (ha : a.l.length < 4611686018427387904) :
    call cx 16 [(.vsl a.nil (encs a.l) a.l.length), (.vsl b.nil (encs b.l) b.l.length)] [] = some (.bool (a.l == b.l), []) := by
  have h := equal_ev a b ha
  refine call_run Try.func16 rfl ⟨rfl, rfl⟩ ?_
  simp [Try.f16, h]

/-- A mark's bytes, marks' bytes. -/
def mkB (m : Mk) : List UInt8 := m.id.l ++ (leB 8 m.seq.toNat ++ (leB 8 m.lost.toNat ++ leB 8 m.over.toNat))
def mksB (l : List Mk) : List UInt8 := UInt8.ofNat l.length :: l.flatMap mkB
theorem mkB_len (m : Mk) : (mkB m).length = 40 := by simp [mkB]
theorem mkBs_len (l : List Mk) : (l.flatMap mkB).length = l.length * 40 := by
  induction l with
  | nil => rfl
  | cons a l ih => rw [List.flatMap_cons, List.length_append, ih, mkB_len, List.length_cons]; omega
theorem leadd8 (l : List UInt8) (v : Nat) (hn : l.length ≤ 140737488355000) :
    call cx 39 [.vsl false (ofBytes l) l.length, .int .i64 8, .int .u64 v] [] = some (.osl 0 (l.length + 8) 0 (l.length + 8) 1, [some (ofBytes (l ++ leB 8 v))]) := by
  obtain ⟨d, H, hb, hc⟩ := leadd_ev (.of l) 8 v (by simpa using hn)
  have e : leAdd l 8 v = l ++ leB 8 v := by simp [leAdd, szOk]
  simp only [Sl.of_l, Sl.of_nil] at hb hc
  rw [e] at hb
  rcases hb with ⟨rfl, h, rfl⟩ | ⟨rfl, rfl⟩
  · have := congrArg List.length h
    simp at this
  · rw [hc]
    simp
def bytesS (l : List Mk) : Sl UInt8 := if rightM l then .of (mksB l) else .none
/-- What is written behind i marks; behind j numbers more. -/
def BytesC (l : List Mk) (i : Nat) (X : List UInt8) : Prop := X = UInt8.ofNat l.length :: (l.take i).flatMap mkB
def NumsC (X : List UInt8) (id : ID) (ns : List Nat) (j : Nat) (Y : List UInt8) : Prop := Y = X ++ (id.l ++ (ns.take j).flatMap (leB 8))
set_option maxRecDepth 4000 in
set_option maxHeartbeats 2000000 in
theorem bytes_ev (s : Sl Mk) (hn : s.l.length < 4611686018427387904) (hok : ∀ m ∈ s.l, m.Ok) :
    call cx 17 [(.vsl s.nil (encs s.l) s.l.length)] [] = some ((.vsl (bytesS s.l).nil (ofBytes (bytesS s.l).l) (bytesS s.l).l.length), []) := by
  have hr := right_ev s hn
  refine call_run Try.func17 rfl ⟨rfl, rfl⟩ ?_
  cases h : rightM s.l with
  | false =>
    rw [h] at hr
    simp [Try.f17, hr, bytesS, h, ofBytes]
  | true =>
    rw [h] at hr
    have hl := rightM_le h
    have hw8 : IntKind.u8.wrap (s.l.length : Int) = (s.l.length : Int) := by rw [wrap_u8]; omega
    simp [Try.f17, hr, bytesS, h, hw8]
    refine Run.loopThen (fun (i : Nat) e H => i ≤ s.l.length ∧ ∃ X : List UInt8, BytesC s.l i X ∧ H = [some (ofBytes X)] ∧ look e 3 = some (.osl 0 X.length 0 X.length 1) ∧ look e 15 = some (.vsl s.nil (encs s.l) s.l.length) ∧ look e 16 = some (.int .i64 s.l.length) ∧ look e 17 = some (.int .i64 i)) (fun i => s.l.length - i) 0 ?_ ?_
    · refine ⟨by omega, [UInt8.ofNat s.l.length], by simp [BytesC], ?_⟩
      simp [ofBytes]
      omega
    rintro i e H ⟨hi, X, hX, rfl, h3, h15, h16, h17⟩
    by_cases hlt : i < s.l.length
    · have hlt' : (i : Int) < (s.l.length : Int) := by omega
      have hw : IntKind.i64.wrap ((i : Int) + 1) = ((i + 1 : Nat) : Int) := by rw [wrap_i64] <;> omega
      have hl40 := mkBs_len (s.l.take i)
      rw [List.length_take, Nat.min_eq_left hi] at hl40
      have hsn : BytesC s.l (i + 1) (X ++ mkB s.l[i]) := by
        unfold BytesC at *
        rw [hX, List.take_succ_eq_append_getElem hlt, List.flatMap_append]; simp
      have hXl : X.length ≤ 200 := by rw [hX, List.length_cons, hl40]; omega
      clear hX hl40
      have hm := hok _ (List.getElem_mem hlt)
      obtain ⟨⟨m0, m1, m2, m3⟩, hme⟩ : ∃ m, s.l[i] = m := ⟨_, rfl⟩
      rw [hme] at hsn hm
      obtain ⟨a1, rfl⟩ : ∃ k : Nat, m1 = k := ⟨m1.toNat, by have := hm.seq; simp [isU64] at this; omega⟩
      obtain ⟨a2, rfl⟩ : ∃ k : Nat, m2 = k := ⟨m2.toNat, by have := hm.lost; simp [isU64] at this; omega⟩
      obtain ⟨a3, rfl⟩ : ∃ k : Nat, m3 = k := ⟨m3.toNat, by have := hm.over; simp [isU64] at this; omega⟩
      have hb : X.length + 16 ≤ 140737488355328 := by omega
      simp [h3, h15, h16, h17, hlt', hlt, Sl.nn hlt, hme, maxBytes, hb]
      clear h3 h15 h16 h17 e
      have d1 := leadd8 (X ++ m0.l) a1 (by simp; omega)
      have d2 := leadd8 (X ++ m0.l ++ leB 8 a1) a2 (by simp; omega)
      have d3 := leadd8 (X ++ m0.l ++ leB 8 a1 ++ leB 8 a2) a3 (by simp; omega)
      simp [ofBytes_append, Nat.add_assoc] at d1 d2 d3
      iterate 4
        refine run_unroll ?_
        simp [d1, d2, d3, hw, List.take_of_length_le]
      exact ⟨i + 1, by omega, by omega, _, hsn, by simp [mkB, ofBytes_append], by simp [mkB], rfl⟩
    · have hlt' : ¬ (i : Int) < (s.l.length : Int) := by omega
      have hit : s.l.take i = s.l := List.take_of_length_le (by omega)
      have hXe : X = mksB s.l := by rw [hX, hit]; rfl
      simp [h3, h15, h16, h17, hlt', hXe]
end Go.Ev.S
/- Marks are read. -/
namespace Go.Ev.S
open Go Go.Proofs Go.Ev
set_option maxRecDepth 4000 in
set_option maxHeartbeats 4000000 in
theorem read_ev (s : Sl UInt8) (hn : s.l.length < 4611686018427387904) :
    call cx 18 [(.vsl s.nil (ofBytes s.l) s.l.length)] [] = some (.tup [(.vsl (Sl.grown (readM s.l).1).nil (encs (Sl.grown (readM s.l).1).l) (Sl.grown (readM s.l).1).l.length), .int .i64 (readN (readM s.l)), .int .i64 (readM s.l).2], []) := by
  refine call_run Try.func18 rfl ⟨rfl, rfl⟩ ?_
  obtain ⟨nil, l, hnil⟩ := s
  simp only at hn ⊢
  cases l with
  | nil => simp [Try.f18, readM, readN, Sl.grown]
  | cons c r =>
    have hnf : nil = false := by
      cases nil with
      | false => rfl
      | true => simpa using hnil rfl
    subst hnf
    have hne : ¬ ((r.length : Int) + 1 = 0) := by omega
    have hpos : (0 : Int) < (r.length : Int) + 1 := by omega
    by_cases h4 : 4 < c.toNat
    · have h4' : (4 : Int) < (c.toNat : Int) := by omega
      simp [Try.f18, readM, readN, Sl.grown, hne, hpos, ofBytes_cons, h4, h4']
    · have h4' : ¬ (4 : Int) < (c.toNat : Int) := by omega
      have hwc : IntKind.i64.wrap (c.toNat : Int) = (c.toNat : Int) := by rw [wrap_i64]; omega
      simp [Try.f18, hne, hpos, ofBytes_cons, h4', hwc]
      refine Run.loopThen (fun (i : Nat) e H => i ≤ c.toNat ∧ ∃ (d : D) (out : List Mk), BufE 19 d H out ∧ out.length = i ∧ 40 * i ≤ r.length ∧ look e 0 = some (.vsl false (ofBytes (c :: r)) (r.length + 1)) ∧ look e 5 = some d ∧ look e 21 = some (.int .i64 c.toNat) ∧ look e 22 = some (.int .i64 i) ∧
        readM (c :: r) = readGo (c.toNat - i) (r.drop (40 * i)) out) (fun i => c.toNat - i) 0 ?_ ?_
      · refine ⟨by omega, .vsl true [] 0, [], .inl ⟨rfl, rfl, rfl⟩, rfl, by omega, ?_⟩
        simp [readM, h4, ofBytes_cons]
      · rintro i e H ⟨hi, d, out, hbuf, hlen, hir, h0, h5, h21, h22, hr⟩
        by_cases hlt : i < c.toNat
        · have hlt' : (i : Int) < (c.toNat : Int) := by omega
          have hw40 : IntKind.i64.wrap (40 * (i : Int)) = 40 * (i : Int) := by rw [wrap_i64]; omega
          have hw41 : IntKind.i64.wrap (1 + 40 * (i : Int)) = 1 + 40 * (i : Int) := by rw [wrap_i64]; omega
          have g1 : (0 : Int) ≤ 1 + 40 * (i : Int) := by omega
          have g2 : 1 + 40 * (i : Int) ≤ (r.length : Int) + 1 := by omega
          have g3 : (1 + 40 * (i : Int)).toNat = 40 * i + 1 := by omega
          have hk : c.toNat - i = (c.toNat - (i + 1)) + 1 := by omega
          rw [hk, readGo] at hr
          have hdl : (r.drop (40 * i)).length = r.length - 40 * i := List.length_drop
          by_cases h16 : r.length - 40 * i < 16
          · rw [hdl, if_pos h16] at hr
            have hm : min (r.length - 40 * i) 16 = r.length - 40 * i := by omega
            have hm' : ((r.length - 40 * i : Nat) : Int) < 16 := by omega
            simp [h0, h5, h21, h22, hlt', hw40, hw41, g1, g2, g3, ofBytes_drop, hm, hm', hr, readN, Sl.grown]
          · have hm : min (r.length - 40 * i) 16 = 16 := by omega
            rw [hdl, if_neg h16] at hr
            generalize hR : r.drop (40 * i) = R at *
            have ht16 : (ofBytes R).take 16 = ofBytes (R.take 16) := ofBytes_take R 16
            obtain ⟨id, hid⟩ : ∃ id : ID, id.l = R.take 16 := ⟨ID.mk' (R.take 16), ID.mk'_l (by rw [List.length_take]; omega)⟩
            have hidm : ID.mk' (R.take 16) = id := ID.ext' (by rw [ID.mk'_l (by rw [List.length_take]; omega), hid])
            rw [← hid] at ht16 hr
            have hdr : (r.drop (40 * (i + 1))) = R.drop 40 := by rw [← hR, List.drop_drop]; congr 1
            have hRl : R.length = r.length - 40 * i := hdl
            have fin40 : lastGe out id.l = false → (¬ R.length < 40 → ∃ a1 a2 a3 : Nat, mkOf R = ⟨id, a1, a2, a3⟩ ∧ call cx 40 [.vsl false (ofBytes R) R.length, .int .i64 16, .int .i64 8] [] = some (.tup [.int .u64 a1, .bool true], []) ∧
                call cx 40 [.vsl false (ofBytes R) R.length, .int .i64 24, .int .i64 8] [] = some (.tup [.int .u64 a2, .bool true], []) ∧ call cx 40 [.vsl false (ofBytes R) R.length, .int .i64 32, .int .i64 8] [] = some (.tup [.int .u64 a3, .bool true], []) ∧
                readM (c :: r) = readGo (c.toNat - (i + 1)) (r.drop (40 * (i + 1))) (out ++ [⟨id, a1, a2, a3⟩])) := by
              intro hlg h40
              rw [hlg] at hr
              simp only [Bool.false_eq_true, if_false] at hr
              rw [if_neg (by omega)] at hr
              have hmk : mkOf R = ⟨id, leN ((R.drop 16).take 8), leN ((R.drop 24).take 8), leN ((R.drop 32).take 8)⟩ := by unfold mkOf; rw [hidm]
              have q := fun a (ha : a + 8 ≤ 40) => leget_ev (.of R) (a : Nat) 8 (by omega) (by simp only [Sl.of_l, hRl]; simp at hn; omega)
              have ql : ∀ a, a + 8 ≤ 40 → leGet R (a : Nat) 8 = some (leN ((R.drop a).take 8)) := fun a ha => by
                unfold leGet
                rw [if_pos ⟨rfl, by omega, by omega⟩]
                simp
              refine ⟨_, _, _, hmk, ?_, ?_, ?_, by rw [hr, hdr, hmk]⟩
              · have := q 16 (by omega); simp only [Sl.of_l, Sl.of_nil, ql 16 (by omega)] at this; exact this
              · have := q 24 (by omega); simp only [Sl.of_l, Sl.of_nil, ql 24 (by omega)] at this; exact this
              · have := q 32 (by omega); simp only [Sl.of_l, Sl.of_nil, ql 32 (by omega)] at this; exact this
            rw [← hRl] at hm hr
            have hRd : (ofBytes (c :: r)).drop (40 * i + 1) = ofBytes R := by rw [ofBytes_drop, List.drop_succ_cons, hR]
            have hlast0 : i = 0 → lastGe out id.l = false := fun h => by
              have : out = [] := List.eq_nil_of_length_eq_zero (by omega)
              subst this
              rfl
            have hlastk : ∀ k (hk : k < out.length), k + 1 = i → lastGe out id.l = decide (0 ≤ cmpB out[k].id.l id.l) := fun k hk hki => by
              unfold lastGe
              have : out.getLast? = some out[k] := by
                rw [List.getLast?_eq_getElem?, List.getElem?_eq_getElem (by omega)]
                congr 2
                omega
              rw [this]
            have hw1 : IntKind.i64.wrap ((i : Int) + 1) = ((i + 1 : Nat) : Int) := by rw [wrap_i64] <;> omega
            have hc19 : (out.length + 1) * 40 ≤ 140737488355328 ∧ out.length + 1 ≤ 140737488355328 := by have := c.toNat_lt; omega
            rcases Nat.eq_zero_or_pos i with hi0 | hipos
            · have hi0' : ¬ 0 < i := by omega
              have hlg := hlast0 hi0
              by_cases h40 : R.length < 40
              · have h40' : (R.length : Int) < 40 := by omega
                rw [hlg, if_pos h40] at hr
                simp only [Bool.false_eq_true, if_false] at hr
                rcases hbuf with ⟨rfl, rfl, rfl⟩ | ⟨rfl, rfl, hne0⟩ <;>
                  simp [h0, h5, h21, h22, hlt', hw40, hw41, g1, g2, g3, hRd, ← hRl, List.take_of_length_le, hm, ht16, hi0', h40', hr, readN, Sl.grown]
              · have h40' : ¬ (R.length : Int) < 40 := by omega
                obtain ⟨a1, a2, a3, q1, q2, q3, q4, q5⟩ := fin40 hlg h40
                have hfold : ofBytes id.l ++ [.int .u64 (a1 : Int), .int .u64 (a2 : Int), .int .u64 (a3 : Int)] = Enc.cells (⟨id, a1, a2, a3⟩ : Mk) := rfl
                clear hr
                rcases hbuf with ⟨rfl, rfl, rfl⟩ | ⟨rfl, rfl, hne0⟩
                · simp [h0, h5, h21, h22, hlt', hw40, hw41, g1, g2, g3, hRd, ← hRl, List.take_of_length_le, hm, ht16, hi0', h40', q2, q3, q4, hfold, hw1, maxBytes, List.take_append, List.drop_append, drop_bytes]
                  exact ⟨i + 1, by omega, by omega, _, _, .one _, by simp at hlen; simp [← hlen], by omega, rfl, rfl, q5⟩
                · simp [h0, h5, h21, h22, hlt', hw40, hw41, g1, g2, g3, hRd, ← hRl, List.take_of_length_le, hm, ht16, hi0', h40', q2, q3, q4, hfold, hw1, maxBytes, hc19, List.take_append, List.drop_append, drop_bytes]
                  exact ⟨i + 1, by omega, by omega, _, _, .snoc _ _, by simp [hlen], by omega, rfl, rfl, q5⟩
            · obtain ⟨k, hki⟩ : ∃ k, k + 1 = i := ⟨i - 1, by omega⟩
              have hko : k < out.length := by omega
              have hko' : (k : Int) < (out.length : Int) := by omega
              have hwk : IntKind.i64.wrap ((i : Int) - 1) = (k : Int) := by rw [wrap_i64] <;> omega
              have hlg := hlastk k hko hki
              have hcm := compare_id out[k].id id
              have h19 : k * 19 + 16 ≤ out.length * 19 := by omega
              have h16k : ∀ k, (16 ≤ 19 + k) = True := fun k => eq_true (by omega)
              rcases hbuf with ⟨rfl, rfl, rfl⟩ | ⟨rfl, rfl, hne0⟩
              · simp at hko
              · by_cases hge : 0 ≤ cmpB out[k].id.l id.l
                · rw [hlg, decide_eq_true hge] at hr
                  simp only [if_true] at hr
                  simp [h0, h5, h21, h22, hlt', hw40, hw41, g1, g2, g3, hRd, ← hRl, List.take_of_length_le, hm, ht16, hipos, hwk, hko, hko', h19, hcm, hge, hr, readN, Sl.grown, List.take_append, List.drop_append]
                · rw [decide_eq_false hge] at hlg
                  by_cases h40 : R.length < 40
                  · have h40' : (R.length : Int) < 40 := by omega
                    rw [hlg, if_pos h40] at hr
                    simp only [Bool.false_eq_true, if_false] at hr
                    simp [h0, h5, h21, h22, hlt', hw40, hw41, g1, g2, g3, hRd, ← hRl, List.take_of_length_le, hm, ht16, hipos, hwk, hko, hko', h19, hcm, hge, h40', hr, readN, Sl.grown, List.take_append, List.drop_append]
                  · have h40' : ¬ (R.length : Int) < 40 := by omega
                    obtain ⟨a1, a2, a3, q1, q2, q3, q4, q5⟩ := fin40 hlg h40
                    have hfold : ofBytes id.l ++ [.int .u64 (a1 : Int), .int .u64 (a2 : Int), .int .u64 (a3 : Int)] = Enc.cells (⟨id, a1, a2, a3⟩ : Mk) := rfl
                    clear hr
                    simp [h0, h5, h21, h22, hlt', hw40, hw41, g1, g2, g3, hRd, ← hRl, List.take_of_length_le, hm, ht16, hipos, hwk, hko, hko', h19, hcm, hge, h40', q2, q3, q4, hfold, hw1, maxBytes, hc19, List.take_append, List.drop_append, drop_bytes]
                    exact ⟨i + 1, by omega, by omega, _, _, .snoc _ _, by simp [hlen], by omega, rfl, rfl, q5⟩
        · have hlt' : ¬ (i : Int) < (c.toNat : Int) := by omega
          have hk : c.toNat - i = 0 := by omega
          rw [hk, readGo] at hr
          rcases hbuf with ⟨rfl, rfl, rfl⟩ | ⟨rfl, rfl, hne0⟩
          · simp [h0, h5, h21, h22, hlt', hr, readN, Sl.grown]
          · have hw1 : IntKind.i64.wrap (40 * (out.length : Int)) = 40 * (out.length : Int) := by rw [wrap_i64]; omega
            have hw2 : IntKind.i64.wrap (1 + 40 * (out.length : Int)) = 1 + 40 * (out.length : Int) := by rw [wrap_i64]; omega
            simp [h0, h5, h21, h22, hlt', hr, readN, Sl.grown, hw1, hw2, hne0]
end Go.Ev.S
