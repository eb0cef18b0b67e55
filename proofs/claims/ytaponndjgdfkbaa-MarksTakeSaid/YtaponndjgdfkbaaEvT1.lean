import Derived.Test.YtaponndjgdfkbaaEv23
import Derived.Test.YtaponndjgdfkbaaRows
/- What the evaluator needs of this program: printed by program. -/
namespace Go.Ev.S1
open Go Go.Proofs
def kf2 : Nat → Option (List Nat × Nat)
  | 0 => some ([], 0)
  | _ => none
def kf3 : Nat → Option (List Nat × Nat)
  | 0 => some ([0, 1], 0)
  | 1 => some ([0, 1], 0)
  | 2 => some ([0, 1, 5], 0)
  | 3 => some ([], 0)
  | 4 => some ([0, 1, 5], 0)
  | 5 => some ([5], 0)
  | 6 => some ([0, 1, 5], 0)
  | 7 => some ([0, 1, 5, 6], 0)
  | 8 => some ([0, 1, 5, 6, 7, 8, 9], 0)
  | 9 => some ([0, 1, 5, 6, 7, 8, 9, 10], 0)
  | 10 => some ([0, 1, 5, 6, 7, 8, 9, 10, 11], 0)
  | 11 => some ([0, 1, 5, 6, 7, 8, 9, 10, 11], 0)
  | 12 => some ([0, 1, 5, 6, 7, 8, 9, 10, 11], 0)
  | 13 => some ([0, 1, 5, 6, 7, 8, 9, 10, 11, 12], 0)
  | 14 => some ([0, 1, 5, 6, 7, 8, 9, 10, 11, 12, 13], 0)
  | 15 => some ([0, 1, 5, 6, 7, 8, 9, 10, 11, 12, 13, 14], 0)
  | 16 => some ([0, 1, 5, 6, 7, 8, 9, 10, 11, 12, 13, 14], 0)
  | 17 => some ([0, 1, 5, 6, 7, 8, 9, 10, 11, 12, 13, 14], 0)
  | 18 => some ([0, 1, 5, 6, 7, 8, 9, 10, 11, 12, 13, 14], 0)
  | 19 => some ([0, 1, 5, 6, 7, 8, 9, 10, 11, 12, 13, 14], 0)
  | 20 => some ([0, 1, 5, 6, 7, 8, 9, 10, 11, 12, 13, 14], 0)
  | 21 => some ([0, 1, 5, 7, 8, 9, 10, 11, 12, 15, 16], 0)
  | 22 => some ([], 0)
  | 23 => some ([0, 1, 5, 7, 8, 9, 10, 11, 12, 15], 0)
  | 24 => some ([0, 1, 5, 6, 7, 8, 9, 10, 11], 0)
  | 25 => some ([0, 1, 5, 6, 7, 8, 9, 10, 11, 17], 0)
  | 26 => some ([0, 1, 5, 6, 7, 8, 9, 10, 11, 19], 0)
  | 27 => some ([], 0)
  | 28 => some ([0, 1, 5, 6, 7, 8, 9, 10, 11], 0)
  | 29 => some ([0, 1, 5, 6, 7, 8, 9, 10, 11, 20], 0)
  | 30 => some ([], 0)
  | 31 => some ([5, 6], 0)
  | _ => none
def kf4 : Nat → Option (List Nat × Nat)
  | 0 => some ([0, 1], 0)
  | 1 => some ([0, 1], 0)
  | 2 => some ([0, 1, 5], 0)
  | 3 => some ([], 0)
  | 4 => some ([0, 1, 5], 0)
  | 5 => some ([5, 6, 7], 0)
  | 6 => some ([5, 6, 7, 8, 9], 0)
  | 7 => some ([5, 6, 7, 8, 9, 10, 11], 0)
  | 8 => some ([], 0)
  | 9 => some ([5, 6, 7, 8], 0)
  | 10 => some ([5, 6, 7, 8, 12], 0)
  | 11 => some ([5, 6, 7, 8, 12], 0)
  | 12 => some ([5, 6, 7, 8, 12], 0)
  | 13 => some ([], 0)
  | 14 => some ([5, 6], 0)
  | 15 => some ([5, 6, 13, 14], 0)
  | _ => none
def kf5 : Nat → Option (List Nat × Nat)
  | 0 => some ([0, 1, 2], 0)
  | 1 => some ([0, 1, 2], 0)
  | 2 => some ([0, 1, 2, 7], 0)
  | 3 => some ([], 0)
  | 4 => some ([0, 1, 2, 7], 0)
  | 5 => some ([7], 0)
  | 6 => some ([0, 1, 2, 7], 0)
  | 7 => some ([1, 2, 7, 8], 0)
  | 8 => some ([1, 2, 7, 8, 9], 0)
  | 9 => some ([], 0)
  | 10 => some ([1, 2, 7, 8, 9], 0)
  | 11 => some ([2, 7, 8, 9, 10, 11, 12], 0)
  | 12 => some ([7, 8, 9, 10, 11, 12, 15], 0)
  | _ => none
def kf6 : Nat → Option (List Nat × Nat)
  | 0 => some ([0, 1, 2, 3, 4, 5], 0)
  | 1 => some ([0, 1, 4, 5, 8, 9], 0)
  | 2 => some ([0, 1, 4, 5, 8, 9, 13], 0)
  | 3 => some ([], 0)
  | 4 => some ([0, 1, 4, 5, 8, 9, 13], 0)
  | 5 => some ([13], 0)
  | 6 => some ([0, 1, 4, 5, 8, 9, 13], 0)
  | 7 => some ([0, 1, 4, 5, 8, 9, 13, 14], 0)
  | 8 => some ([0, 1, 4, 5, 8, 9, 13, 14, 16, 17], 0)
  | 9 => some ([0, 1, 4, 5, 8, 9, 13, 14, 16, 17, 18, 19], 0)
  | 10 => some ([0, 1, 4, 5, 8, 9, 13, 14, 16, 17, 18, 19, 20, 21], 0)
  | 11 => some ([0, 1, 5, 8, 13, 14, 16, 17, 18, 19, 20, 21, 22, 23], 0)
  | 12 => some ([0, 1, 5, 8, 13, 14, 16, 17, 18, 19, 20, 21, 22, 23, 24, 25], 0)
  | 13 => some ([0, 1, 5, 8, 13, 14, 16, 17, 18, 19, 20, 21, 22, 23, 24, 25, 26, 27], 0)
  | 14 => some ([0, 1, 5, 8, 13, 14, 16, 17, 18, 19, 20, 21, 22, 23, 24, 25, 26, 27, 28, 29, 30], 0)
  | 15 => some ([0, 1, 8, 13, 14, 16, 17, 18, 19, 20, 21, 22, 23, 24, 25, 26, 27, 28, 29, 30, 31, 32, 33], 0)
  | 16 => some ([0, 1, 8, 13, 14, 34], 0)
  | _ => none
def kf7 : Nat → Option (List Nat × Nat)
  | 0 => some ([], 0)
  | 1 => some ([], 0)
  | 2 => some ([1, 2], 0)
  | _ => none
def kf8 : Nat → Option (List Nat × Nat)
  | 0 => some ([0], 0)
  | 1 => some ([0, 2], 0)
  | 2 => some ([0, 2, 3], 0)
  | 3 => some ([2, 3], 0)
  | _ => none
def kf9 : Nat → Option (List Nat × Nat)
  | 0 => some ([0, 1], 0)
  | 1 => some ([0, 1], 0)
  | 2 => some ([], 0)
  | 3 => some ([0, 1], 0)
  | _ => none
def kf10 : Nat → Option (List Nat × Nat)
  | 0 => some ([0, 1, 2], 0)
  | 1 => some ([0, 2, 4], 0)
  | 2 => some ([0, 2, 4, 8], 0)
  | 3 => some ([8], 0)
  | 4 => some ([0, 2, 4], 0)
  | 5 => some ([0, 2, 4, 9], 0)
  | 6 => some ([0, 2, 9], 0)
  | 7 => some ([0, 9], 0)
  | 8 => some ([0, 2, 4, 9], 0)
  | 9 => some ([0, 2, 4, 9], 0)
  | 10 => some ([], 0)
  | 11 => some ([0, 2, 4, 9], 0)
  | 12 => some ([0, 4, 9], 0)
  | 13 => some ([0, 9], 0)
  | _ => none
def kf11 : Nat → Option (List Nat × Nat)
  | 0 => some ([0, 1], 0)
  | 1 => some ([0, 3, 4], 0)
  | 2 => some ([0, 3, 4, 5], 0)
  | 3 => some ([0, 4, 5], 0)
  | 4 => some ([3, 4], 0)
  | _ => none
def kf12 : Nat → Option (List Nat × Nat)
  | 0 => some ([0], 0)
  | 1 => some ([0], 0)
  | 2 => some ([0, 3], 0)
  | 3 => some ([0, 3, 4], 0)
  | 4 => some ([0, 3, 4], 0)
  | 5 => some ([0, 3, 4], 0)
  | 6 => some ([0, 3, 4], 0)
  | 7 => some ([3], 0)
  | _ => none
def kf13 : Nat → Option (List Nat × Nat)
  | 0 => some ([0, 1], 0)
  | 1 => some ([0, 1], 0)
  | 2 => some ([], 0)
  | 3 => some ([0, 1], 0)
  | 4 => some ([1, 6], 0)
  | 5 => some ([6, 19, 20, 21], 0)
  | 6 => some ([6, 19, 20, 21], 0)
  | 7 => some ([6, 8, 19, 20, 21], 0)
  | 8 => some ([6, 8, 19, 20, 21], 0)
  | 9 => some ([6, 19, 20, 21], 0)
  | 10 => some ([6], 0)
  | 11 => some ([], 0)
  | 12 => some ([6], 0)
  | _ => none
def kf14 : Nat → Option (List Nat × Nat)
  | 0 => some ([0, 1], 0)
  | 1 => some ([0, 1], 0)
  | 2 => some ([1, 7, 8, 9], 0)
  | 3 => some ([1, 7, 8, 9], 0)
  | 4 => some ([1, 6, 7, 8, 9], 0)
  | 5 => some ([], 0)
  | 6 => some ([1, 7, 8, 9], 0)
  | 7 => some ([], 0)
  | _ => none
def kf15 : Nat → Option (List Nat × Nat)
  | 0 => some ([0], 0)
  | 1 => some ([0], 0)
  | 2 => some ([], 0)
  | 3 => some ([0], 0)
  | 4 => some ([0, 3], 0)
  | 5 => some ([0, 3], 0)
  | 6 => some ([0, 3], 0)
  | 7 => some ([], 0)
  | 8 => some ([], 0)
  | _ => none
def kf16 : Nat → Option (List Nat × Nat)
  | 0 => some ([0, 1], 0)
  | 1 => some ([0, 1], 0)
  | _ => none
def kf17 : Nat → Option (List Nat × Nat)
  | 0 => some ([0], 0)
  | 1 => some ([0], 0)
  | 2 => some ([], 0)
  | 3 => some ([0], 0)
  | 4 => some ([0, 3], 0)
  | 5 => some ([3, 15, 16, 17], 0)
  | 6 => some ([3, 15, 16, 17], 0)
  | 7 => some ([3, 5, 15, 16, 17], 0)
  | 8 => some ([3, 5, 15, 16, 17], 0)
  | 9 => some ([3, 15, 16, 17, 31, 32, 33], 0)
  | 10 => some ([3, 15, 16, 17, 31, 32, 33], 0)
  | 11 => some ([3, 7, 15, 16, 17, 31, 32, 33], 0)
  | 12 => some ([3, 15, 16, 17, 31, 32, 33], 0)
  | 13 => some ([3, 15, 16, 17], 0)
  | 14 => some ([3], 0)
  | _ => none
def kf18 : Nat → Option (List Nat × Nat)
  | 0 => some ([0], 0)
  | 1 => some ([0], 0)
  | 2 => some ([], 0)
  | 3 => some ([0], 0)
  | 4 => some ([], 0)
  | 5 => some ([0], 0)
  | 6 => some ([0, 5], 0)
  | 7 => some ([0, 5, 21, 22], 0)
  | 8 => some ([0, 5, 21, 22], 0)
  | 9 => some ([0, 5, 6, 21, 22], 0)
  | 10 => some ([0, 5, 6, 7, 21, 22], 0)
  | 11 => some ([0, 5, 6, 7, 8, 21, 22], 0)
  | 12 => some ([], 0)
  | 13 => some ([0, 5, 6, 7, 8, 21, 22], 0)
  | 14 => some ([], 0)
  | 15 => some ([0, 5, 7, 8, 21, 22], 0)
  | 16 => some ([], 0)
  | 17 => some ([0, 5, 7, 8, 21, 22], 0)
  | 18 => some ([0, 5, 7, 8, 21, 22], 0)
  | 19 => some ([0, 5, 7, 8, 21, 22], 0)
  | 20 => some ([0, 5, 8, 21, 22], 0)
  | 21 => some ([0, 5, 21, 22], 0)
  | 22 => some ([5], 0)
  | _ => none
def kf19 : Nat → Option (List Nat × Nat)
  | 0 => some ([0], 0)
  | 1 => some ([0], 0)
  | _ => none
def kf20 : Nat → Option (List Nat × Nat)
  | 0 => some ([0, 1], 0)
  | 1 => some ([0, 3, 4], 0)
  | 2 => some ([0, 3, 4, 6], 0)
  | 3 => some ([0, 3, 4, 6], 0)
  | 4 => some ([0, 3, 4, 6], 0)
  | 5 => some ([0, 4, 6], 0)
  | 6 => some ([3, 4], 0)
  | _ => none
def kf21 : Nat → Option (List Nat × Nat)
  | 0 => some ([0, 1], 0)
  | 1 => some ([0, 3], 0)
  | 2 => some ([0, 3, 6], 0)
  | 3 => some ([6], 0)
  | 4 => some ([0, 3], 0)
  | _ => none
def kf22 : Nat → Option (List Nat × Nat)
  | 0 => some ([0, 1], 0)
  | 1 => some ([0, 3], 0)
  | 2 => some ([], 0)
  | 3 => some ([0, 3], 0)
  | 4 => some ([0, 3, 7], 0)
  | 5 => some ([], 0)
  | 6 => some ([0, 3], 0)
  | 7 => some ([0, 3, 8], 0)
  | 8 => some ([0, 3, 8, 9], 0)
  | 9 => some ([0, 3, 8, 9, 10], 0)
  | 10 => some ([0, 3, 8, 9, 10], 0)
  | 11 => some ([0, 3, 8, 9, 10], 0)
  | 12 => some ([0, 3, 8, 9, 10, 11], 0)
  | 13 => some ([0, 3, 8, 10, 11], 0)
  | 14 => some ([0, 3, 8, 9, 10, 11], 0)
  | 15 => some ([0, 3, 8, 9, 10, 11], 0)
  | 16 => some ([0, 3, 8, 9, 10], 0)
  | 17 => some ([3, 8, 9], 0)
  | 18 => some ([3, 8], 0)
  | 19 => some ([8], 0)
  | _ => none
def kf23 : Nat → Option (List Nat × Nat)
  | 0 => some ([0, 1, 2], 0)
  | 1 => some ([0, 2, 4], 0)
  | 2 => some ([0, 2, 4, 8], 0)
  | 3 => some ([0, 2, 4, 8, 10], 0)
  | 4 => some ([0, 4, 8, 10], 0)
  | 5 => some ([0, 4, 8, 10], 0)
  | 6 => some ([0, 2, 4, 8, 10], 0)
  | 7 => some ([0, 2, 4, 8, 10], 0)
  | 8 => some ([0, 4, 8, 10], 0)
  | 9 => some ([0, 4, 8, 10], 0)
  | 10 => some ([4, 10, 11, 12], 0)
  | 11 => some ([12], 0)
  | 12 => some ([4, 10, 11], 0)
  | 13 => some ([], 0)
  | 14 => some ([11], 0)
  | _ => none
def kf24 : Nat → Option (List Nat × Nat)
  | 0 => some ([0, 1], 0)
  | 1 => some ([0, 1], 0)
  | 2 => some ([], 0)
  | 3 => some ([0, 1], 0)
  | 4 => some ([1, 6], 0)
  | 5 => some ([1, 6, 7], 0)
  | 6 => some ([1, 6, 7], 0)
  | 7 => some ([1, 6, 7], 0)
  | 8 => some ([1, 6, 7, 8, 9], 0)
  | 9 => some ([1, 6, 7], 0)
  | 10 => some ([1, 7, 10, 11], 0)
  | 11 => some ([11], 0)
  | 12 => some ([1, 7, 10], 0)
  | 13 => some ([6], 0)
  | _ => none
def kf25 : Nat → Option (List Nat × Nat)
  | 0 => some ([0], 0)
  | 1 => some ([0], 0)
  | 2 => some ([], 0)
  | 3 => some ([0], 0)
  | 4 => some ([], 0)
  | 5 => some ([0], 0)
  | 6 => some ([0, 5], 0)
  | 7 => some ([0, 5, 6], 0)
  | 8 => some ([0, 5, 6, 7], 0)
  | 9 => some ([0, 5, 6, 7], 0)
  | 10 => some ([0, 5, 6, 7], 0)
  | 11 => some ([], 0)
  | 12 => some ([0, 5, 6, 7], 0)
  | 13 => some ([0, 5, 6, 7, 8], 0)
  | 14 => some ([0, 5, 6, 7, 8, 9], 0)
  | 15 => some ([0, 5, 6, 7, 8, 9], 0)
  | 16 => some ([0, 5, 6, 7, 8, 9], 0)
  | 17 => some ([0, 5, 6, 7, 8], 0)
  | 18 => some ([], 0)
  | 19 => some ([0, 5, 6, 7, 8], 0)
  | 20 => some ([0, 5, 6, 7, 8], 0)
  | 21 => some ([], 0)
  | 22 => some ([0, 5, 6, 7, 8], 0)
  | 23 => some ([0, 5, 6, 7, 8], 0)
  | 24 => some ([0, 5, 6, 7, 8], 0)
  | 25 => some ([0, 5, 6, 7, 8], 0)
  | 26 => some ([0, 5, 6, 7, 8], 0)
  | 27 => some ([5, 6], 0)
  | _ => none
def kf26 : Nat → Option (List Nat × Nat)
  | 0 => some ([0, 1], 0)
  | 1 => some ([0, 1], 0)
  | 2 => some ([], 0)
  | 3 => some ([0, 1], 0)
  | 4 => some ([0, 1, 5], 0)
  | 5 => some ([0, 1, 5], 0)
  | 6 => some ([0, 1, 5], 0)
  | 7 => some ([], 0)
  | 8 => some ([], 0)
  | _ => none
def kf27 : Nat → Option (List Nat × Nat)
  | 0 => some ([0], 0)
  | 1 => some ([0], 0)
  | 2 => some ([0, 3], 0)
  | 3 => some ([0, 3], 0)
  | 4 => some ([0, 3], 0)
  | 5 => some ([], 0)
  | 6 => some ([0], 0)
  | _ => none
def kf28 : Nat → Option (List Nat × Nat)
  | 0 => some ([0, 1], 0)
  | 1 => some ([0, 1], 0)
  | 2 => some ([0, 1, 5], 0)
  | 3 => some ([0, 1, 5], 0)
  | 4 => some ([0, 1, 5], 0)
  | 5 => some ([0, 1, 5, 6], 0)
  | 6 => some ([], 0)
  | 7 => some ([], 0)
  | _ => none
def kf29 : Nat → Option (List Nat × Nat)
  | 0 => some ([0, 1], 0)
  | 1 => some ([0, 1], 0)
  | _ => none
def kf30 : Nat → Option (List Nat × Nat)
  | 0 => some ([0], 0)
  | 1 => some ([0], 0)
  | 2 => some ([], 0)
  | 3 => some ([0], 0)
  | 4 => some ([0, 3], 0)
  | 5 => some ([0, 3, 4], 0)
  | 6 => some ([0, 3, 4], 0)
  | 7 => some ([0, 3, 4], 0)
  | 8 => some ([0, 3, 4], 0)
  | 9 => some ([3], 0)
  | _ => none
def kf31 : Nat → Option (List Nat × Nat)
  | 0 => some ([0, 1], 0)
  | 1 => some ([0, 3], 0)
  | 2 => some ([], 0)
  | 3 => some ([0, 3], 0)
  | 4 => some ([], 0)
  | 5 => some ([], 0)
  | _ => none
def kf32 : Nat → Option (List Nat × Nat)
  | 0 => some ([0, 1], 0)
  | 1 => some ([0, 1], 0)
  | 2 => some ([], 0)
  | 3 => some ([0, 1], 0)
  | _ => none
def kf33 : Nat → Option (List Nat × Nat)
  | 0 => some ([0, 1], 0)
  | 1 => some ([0, 3], 0)
  | 2 => some ([3, 5], 0)
  | 3 => some ([3, 5, 6], 0)
  | 4 => some ([3, 5, 6], 0)
  | 5 => some ([5], 0)
  | 6 => some ([3, 5], 0)
  | 7 => some ([5], 0)
  | 8 => some ([5], 0)
  | _ => none
def kf34 : Nat → Option (List Nat × Nat)
  | 0 => some ([0, 1], 0)
  | 1 => some ([0, 3], 0)
  | _ => none
def kf35 : Nat → Option (List Nat × Nat)
  | 0 => some ([0, 1], 0)
  | 1 => some ([0, 1], 0)
  | 2 => some ([], 0)
  | 3 => some ([0, 1], 0)
  | 4 => some ([0, 1], 0)
  | _ => none
def kf36 : Nat → Option (List Nat × Nat)
  | 0 => some ([0], 0)
  | 1 => some ([0], 0)
  | 2 => some ([], 0)
  | 3 => some ([0], 0)
  | _ => none
def kf37 : Nat → Option (List Nat × Nat)
  | 0 => some ([0, 1], 0)
  | 1 => some ([0, 1], 0)
  | _ => none
def kf38 : Nat → Option (List Nat × Nat)
  | 0 => some ([0, 1], 0)
  | 1 => some ([0, 1], 0)
  | 2 => some ([], 0)
  | 3 => some ([0, 1], 0)
  | 4 => some ([0, 1, 12, 13], 0)
  | 5 => some ([0, 1, 12, 13], 0)
  | 6 => some ([0, 1, 5, 12, 13], 0)
  | 7 => some ([], 0)
  | 8 => some ([0, 1, 12, 13], 0)
  | 9 => some ([], 0)
  | _ => none
def kf39 : Nat → Option (List Nat × Nat)
  | 0 => some ([0, 1, 2], 0)
  | 1 => some ([0, 1, 2], 0)
  | 2 => some ([1, 2, 7], 0)
  | 3 => some ([7], 0)
  | 4 => some ([1, 2, 7], 0)
  | 5 => some ([2, 7, 15, 16], 0)
  | 6 => some ([2, 7, 15, 16], 0)
  | 7 => some ([2, 7, 8, 15, 16], 0)
  | 8 => some ([2, 7, 15, 16], 0)
  | 9 => some ([7], 0)
  | _ => none
def kf40 : Nat → Option (List Nat × Nat)
  | 0 => some ([0, 1, 2], 0)
  | 1 => some ([0, 1, 2], 0)
  | 2 => some ([], 0)
  | 3 => some ([0, 1, 2], 0)
  | 4 => some ([0, 1, 2, 8], 0)
  | 5 => some ([0, 1, 8, 9], 0)
  | 6 => some ([0, 1, 8, 9], 0)
  | 7 => some ([0, 1, 8, 9], 0)
  | 8 => some ([8], 0)
  | _ => none
def kf41 : Nat → Option (List Nat × Nat)
  | 0 => some ([0, 1], 0)
  | 1 => some ([2, 3], 0)
  | 2 => some ([2, 3, 5], 0)
  | 3 => some ([2, 3, 5], 0)
  | 4 => some ([2, 3, 5], 0)
  | 5 => some ([2, 3, 5], 0)
  | 6 => some ([], 0)
  | _ => none
def kf42 : Nat → Option (List Nat × Nat)
  | 0 => some ([0, 1], 0)
  | 1 => some ([0, 1], 0)
  | 2 => some ([], 0)
  | 3 => some ([0, 1], 0)
  | _ => none
def kf43 : Nat → Option (List Nat × Nat)
  | 0 => some ([0, 1, 2], 0)
  | 1 => some ([0, 1, 2], 0)
  | 2 => some ([], 0)
  | 3 => some ([0, 1, 2], 0)
  | 4 => some ([0, 1, 2, 8], 0)
  | 5 => some ([0, 1, 8, 9], 0)
  | 6 => some ([0, 1, 8, 9], 0)
  | 7 => some ([0, 1, 8, 9], 0)
  | 8 => some ([8], 0)
  | _ => none
def kf44 : Nat → Option (List Nat × Nat)
  | 0 => some ([0], 0)
  | 1 => some ([0], 0)
  | 2 => some ([0, 3], 0)
  | 3 => some ([0, 3, 4], 0)
  | 4 => some ([0, 3, 4], 0)
  | 5 => some ([0, 3, 4], 0)
  | 6 => some ([3], 0)
  | _ => none
def kf45 : Nat → Option (List Nat × Nat)
  | 0 => some ([0, 1], 0)
  | 1 => some ([0, 1, 4], 0)
  | _ => none
def kf46 : Nat → Option (List Nat × Nat)
  | 0 => some ([0, 1], 0)
  | 1 => some ([2, 3], 0)
  | _ => none
def kf47 : Nat → Option (List Nat × Nat)
  | 0 => some ([0, 1], 0)
  | 1 => some ([0, 1], 0)
  | 2 => some ([0, 1, 7, 8], 0)
  | 3 => some ([0, 1, 7, 8], 0)
  | 4 => some ([0, 1, 5, 7, 8], 0)
  | 5 => some ([5], 0)
  | 6 => some ([0, 1, 7, 8], 0)
  | 7 => some ([], 0)
  | _ => none
def kf48 : Nat → Option (List Nat × Nat)
  | 0 => some ([0, 1], 0)
  | 1 => some ([1, 2], 0)
  | _ => none
def kf50 : Nat → Option (List Nat × Nat)
  | 0 => some ([0], 0)
  | 1 => some ([0], 0)
  | 2 => some ([], 0)
  | 3 => some ([0], 0)
  | _ => none
def kf51 : Nat → Option (List Nat × Nat)
  | 0 => some ([0], 0)
  | 1 => some ([0], 0)
  | _ => none
def kf52 : Nat → Option (List Nat × Nat)
  | 0 => some ([0, 1], 0)
  | 1 => some ([0, 1], 0)
  | 2 => some ([], 0)
  | 3 => some ([0, 1], 0)
  | 4 => some ([], 0)
  | 5 => some ([], 0)
  | _ => none
def kf53 : Nat → Option (List Nat × Nat)
  | 0 => some ([0, 1], 0)
  | 1 => some ([0, 1], 0)
  | 2 => some ([0, 1, 5], 0)
  | 3 => some ([0, 1, 5, 6], 0)
  | 4 => some ([0, 1, 5, 6], 0)
  | 5 => some ([0, 1, 5, 6], 0)
  | 6 => some ([0, 1, 5, 6], 0)
  | 7 => some ([5], 0)
  | _ => none
def kf54 : Nat → Option (List Nat × Nat)
  | 0 => some ([0, 1, 2, 3, 4], 0)
  | 1 => some ([0, 1, 2, 3, 4, 10], 0)
  | 2 => some ([0, 1, 2, 3, 4, 10, 11], 0)
  | 3 => some ([0, 1, 2, 3, 4, 10, 11, 12], 0)
  | 4 => some ([0, 1, 2, 4], 0)
  | 5 => some ([0, 1, 2, 3, 4, 10, 11, 12], 0)
  | 6 => some ([0, 1, 2, 4], 0)
  | 7 => some ([0, 1, 2, 3, 4, 10, 11, 12], 0)
  | 8 => some ([0, 1, 2, 3, 4, 10, 11, 12], 0)
  | 9 => some ([0, 1, 2, 3, 4, 10, 11, 12], 0)
  | 10 => some ([0, 1, 2, 3, 4, 10, 11, 12], 0)
  | 11 => some ([0, 1, 2, 3, 4, 10, 11, 12, 13, 14], 0)
  | 12 => some ([0, 1, 2, 3, 4, 10, 11, 12, 13], 0)
  | 13 => some ([0, 1, 2, 3, 4, 10, 11, 12, 13], 0)
  | 14 => some ([0, 1, 2, 3, 4, 10, 11, 12, 13], 0)
  | 15 => some ([0, 1, 2, 3, 4, 10, 11, 12, 13, 14], 0)
  | 16 => some ([0, 1, 2, 3, 4, 10, 11, 12, 13], 0)
  | 17 => some ([0, 1, 2, 3, 4, 10, 11, 12, 13], 0)
  | 18 => some ([0, 1, 2, 3, 4, 10, 11, 13], 0)
  | 19 => some ([0, 2, 3, 4, 10, 11, 15], 0)
  | 20 => some ([0, 1, 2, 3, 4, 12, 13], 0)
  | 21 => some ([0, 1, 2, 3, 4, 12, 16, 17], 0)
  | 22 => some ([0, 1, 2, 3, 4, 11, 12, 16], 0)
  | 23 => some ([0, 1, 2, 3, 4, 11, 12, 16, 18, 19], 0)
  | 24 => some ([0, 1, 2, 3, 4, 11, 16, 18, 19, 20], 0)
  | 25 => some ([0, 1, 2, 3, 4, 11, 16, 18, 20], 0)
  | 26 => some ([0, 1, 2, 3, 4, 10, 11, 16], 0)
  | 27 => some ([0, 2, 3, 4, 10, 11, 16], 0)
  | 28 => some ([0, 1, 2, 3, 4, 11, 16, 19, 20], 0)
  | 29 => some ([0, 1, 2, 3, 4, 10, 11, 16], 0)
  | 30 => some ([0, 1, 3, 4, 10, 11, 16], 0)
  | _ => none
def kf55 : Nat → Option (List Nat × Nat)
  | 0 => some ([0], 0)
  | 1 => some ([0], 0)
  | 2 => some ([0], 0)
  | _ => none
def kf56 : Nat → Option (List Nat × Nat)
  | 0 => some ([0, 1, 2, 3], 0)
  | 1 => some ([0, 1, 2, 3, 8], 0)
  | 2 => some ([0, 1, 2, 3, 8], 0)
  | 3 => some ([0, 1, 2, 3, 8], 0)
  | 4 => some ([0, 1, 2, 3, 8, 9], 0)
  | 5 => some ([0, 1, 2, 3, 8, 9], 0)
  | 6 => some ([0, 1, 2, 3, 8, 9], 0)
  | _ => none
def kf57 : Nat → Option (List Nat × Nat)
  | 0 => some ([0, 1, 2, 3], 0)
  | 1 => some ([0, 1, 2, 3, 8], 0)
  | 2 => some ([0, 1, 2, 3, 8, 9], 0)
  | 3 => some ([0, 3, 8, 9, 10], 0)
  | 4 => some ([0, 3, 8, 9, 10, 11], 0)
  | 5 => some ([0, 3, 8, 9, 10, 11], 0)
  | 6 => some ([0, 3, 8, 9, 10, 11], 0)
  | 7 => some ([0, 3, 8, 9, 10], 0)
  | 8 => some ([0, 3, 8, 9, 12], 0)
  | 9 => some ([0, 3, 8, 9, 12], 0)
  | 10 => some ([0, 3, 8, 9, 12], 0)
  | 11 => some ([0, 3, 8, 9, 12], 0)
  | _ => none
def kf58 : Nat → Option (List Nat × Nat)
  | 0 => some ([0, 1, 2], 0)
  | 1 => some ([0, 1, 8], 0)
  | 2 => some ([0, 1, 8], 0)
  | 3 => some ([0, 1, 8, 9], 0)
  | 4 => some ([0, 1, 8, 9, 10], 0)
  | 5 => some ([0, 1, 8, 9, 10, 11], 0)
  | 6 => some ([0, 1, 8, 9, 10, 11], 0)
  | 7 => some ([0, 1, 8, 9, 10, 11], 0)
  | 8 => some ([0, 1, 8, 9, 10, 11, 12], 0)
  | 9 => some ([0, 1, 8, 9, 10, 11, 12], 0)
  | 10 => some ([0, 1, 8, 9, 10, 11, 12], 0)
  | _ => none
def kf59 : Nat → Option (List Nat × Nat)
  | 0 => some ([0, 1, 2, 3], 0)
  | 1 => some ([0, 1, 2, 3], 0)
  | 2 => some ([0, 1, 3, 10], 0)
  | 3 => some ([0, 1, 3, 10, 11], 0)
  | 4 => some ([0, 1, 3, 10, 11, 12], 0)
  | 5 => some ([0, 1, 3, 10, 11, 12, 13], 0)
  | 6 => some ([0, 3, 10, 11, 12, 13, 14], 0)
  | 7 => some ([0, 3, 10, 11, 12, 13, 14], 0)
  | 8 => some ([0, 3, 11, 12, 13, 14], 0)
  | 9 => some ([0, 3, 11, 12, 13, 14], 0)
  | 10 => some ([0, 3, 11, 12, 13, 14], 0)
  | 11 => some ([0, 3, 11, 12, 13, 14], 0)
  | 12 => some ([11, 13], 0)
  | 13 => some ([13], 0)
  | 14 => some ([13, 55], 0)
  | 15 => some ([13], 0)
  | 16 => some ([13, 55], 0)
  | 17 => some ([13], 0)
  | _ => none
def kf60 : Nat → Option (List Nat × Nat)
  | 0 => some ([0, 1, 2], 0)
  | 1 => some ([0, 2, 8], 0)
  | 2 => some ([0, 8, 9], 0)
  | 3 => some ([0, 8, 9], 0)
  | 4 => some ([0, 8, 9], 0)
  | 5 => some ([0, 8, 9], 0)
  | _ => none
def kf61 : Nat → Option (List Nat × Nat)
  | 0 => some ([0, 1, 2, 3], 0)
  | 1 => some ([0, 1, 2, 3], 0)
  | 2 => some ([0, 1, 2, 3, 9], 0)
  | 3 => some ([0, 1, 2, 3, 9, 10], 0)
  | 4 => some ([0, 1, 2, 3, 9, 10], 0)
  | 5 => some ([0, 1, 2, 3, 9, 10], 0)
  | 6 => some ([0, 1, 2, 3, 9, 10], 0)
  | 7 => some ([0, 1, 2, 3, 9, 10], 0)
  | 8 => some ([], 0)
  | 9 => some ([0, 1, 2, 3, 9, 10], 0)
  | 10 => some ([], 0)
  | 11 => some ([0, 1, 2, 3, 9, 10], 0)
  | 12 => some ([0, 1, 2, 3, 9, 10], 0)
  | 13 => some ([0, 1, 2, 3, 9, 10], 0)
  | 14 => some ([0, 1, 2, 3, 9, 10, 11], 0)
  | 15 => some ([0, 1, 2, 3, 9, 10, 11], 0)
  | 16 => some ([0, 1, 2, 3, 9, 10, 11], 0)
  | 17 => some ([0, 1, 2, 3, 9, 10, 11], 0)
  | 18 => some ([0, 1, 2, 3, 9, 10], 0)
  | 19 => some ([0, 1, 2, 3, 9, 10], 0)
  | 20 => some ([0, 1, 2, 3, 9, 10, 12], 0)
  | 21 => some ([0, 1, 2, 3, 9, 10, 12], 0)
  | 22 => some ([0, 1, 2, 3, 9, 10, 12], 0)
  | 23 => some ([0, 1, 2, 3, 9, 10, 12], 0)
  | 24 => some ([], 0)
  | _ => none
def kf62 : Nat → Option (List Nat × Nat)
  | 0 => some ([0, 1, 2, 3, 4], 0)
  | 1 => some ([0, 1, 2, 3, 4], 0)
  | 2 => some ([0, 1, 2, 4], 0)
  | 3 => some ([0, 1, 4, 11, 12], 0)
  | 4 => some ([0, 1, 4, 11, 12], 0)
  | 5 => some ([0, 1, 4, 11, 12], 0)
  | 6 => some ([0, 1, 4, 11, 12], 0)
  | 7 => some ([0, 1, 4, 11, 12], 0)
  | 8 => some ([0, 1, 4, 11, 12], 0)
  | 9 => some ([0, 1, 4, 11, 12], 0)
  | 10 => some ([0, 1, 4, 11, 12], 0)
  | 11 => some ([11], 0)
  | _ => none
def kf63 : Nat → Option (List Nat × Nat)
  | 0 => some ([0, 1, 2, 3, 4], 0)
  | 1 => some ([0, 1, 2, 3, 4], 0)
  | 2 => some ([0, 1, 2, 4], 0)
  | 3 => some ([0, 1, 4, 12, 13], 0)
  | 4 => some ([0, 1, 4, 12, 13], 0)
  | 5 => some ([0, 1, 4, 12, 13], 0)
  | 6 => some ([0, 1, 4, 12, 13], 0)
  | 7 => some ([0, 1, 4, 12, 13], 0)
  | 8 => some ([0, 1, 13], 0)
  | 9 => some ([13], 0)
  | 10 => some ([0, 1, 4, 12, 13], 0)
  | 11 => some ([0, 1, 4, 12, 13], 0)
  | 12 => some ([0, 1, 4, 12, 13], 0)
  | 13 => some ([0, 1, 4, 12, 13], 0)
  | 14 => some ([0, 1, 4, 12, 13], 0)
  | 15 => some ([0, 1, 4, 12, 13], 0)
  | 16 => some ([0, 1, 4, 12, 13], 0)
  | 17 => some ([0, 1, 4, 12, 13], 0)
  | 18 => some ([0, 1, 4, 12, 13], 0)
  | 19 => some ([0, 1, 4, 12, 13], 0)
  | 20 => some ([0, 1, 4, 12, 13], 0)
  | 21 => some ([0, 1, 13], 0)
  | 22 => some ([13], 0)
  | _ => none
def kf64 : Nat → Option (List Nat × Nat)
  | 0 => some ([0], 0)
  | 1 => some ([0, 2], 0)
  | 2 => some ([0], 0)
  | 3 => some ([0], 0)
  | 4 => some ([0, 2], 0)
  | 5 => some ([0, 2], 0)
  | 6 => some ([0, 2], 0)
  | 7 => some ([0, 2], 0)
  | _ => none
def kf65 : Nat → Option (List Nat × Nat)
  | 0 => some ([0], 0)
  | 1 => some ([0, 2], 0)
  | 2 => some ([0], 0)
  | 3 => some ([0], 0)
  | 4 => some ([0, 2], 0)
  | 5 => some ([0, 2], 0)
  | 6 => some ([0, 2], 0)
  | 7 => some ([0, 2], 0)
  | 8 => some ([0, 2], 0)
  | 9 => some ([0, 2], 0)
  | 10 => some ([0, 2], 0)
  | _ => none
def kf66 : Nat → Option (List Nat × Nat)
  | 0 => some ([0, 1, 2, 3, 4], 0)
  | 1 => some ([0, 2, 3, 4, 10], 0)
  | 2 => some ([0, 2, 3, 4, 10, 11], 0)
  | 3 => some ([0, 2, 3, 4, 10, 11], 0)
  | 4 => some ([0, 2, 3, 4, 10, 11], 0)
  | 5 => some ([0, 2, 3, 4, 10, 11], 0)
  | 6 => some ([0, 2, 3, 4, 10, 11], 0)
  | 7 => some ([0, 2, 3, 4, 11], 0)
  | _ => none
def kf67 : Nat → Option (List Nat × Nat)
  | 0 => some ([0], 0)
  | 1 => some ([0], 0)
  | _ => none
def kf68 : Nat → Option (List Nat × Nat)
  | 0 => some ([0], 0)
  | 1 => some ([0], 0)
  | 2 => some ([0], 0)
  | 3 => some ([0], 0)
  | 4 => some ([0], 0)
  | _ => none
def kf69 : Nat → Option (List Nat × Nat)
  | 0 => some ([0, 1, 2, 3], 0)
  | 1 => some ([0, 1, 2, 3], 0)
  | _ => none
def kf70 : Nat → Option (List Nat × Nat)
  | 0 => some ([0, 1, 2, 3, 4, 5], 0)
  | 1 => some ([0, 1, 2, 3, 4, 5], 0)
  | 2 => some ([0, 1, 2, 3, 4, 5], 0)
  | 3 => some ([0, 1, 2, 4, 5], 0)
  | 4 => some ([2], 0)
  | _ => none
def kf71 : Nat → Option (List Nat × Nat)
  | 0 => some ([0, 1, 2, 3, 4], 0)
  | 1 => some ([0, 1, 2, 3, 4], 0)
  | 2 => some ([1, 2, 3], 0)
  | 3 => some ([1, 2], 0)
  | 4 => some ([1, 2], 0)
  | _ => none
def keepT : Nat → Nat → Option (List Nat × Nat)
  | 2 => kf2
  | 3 => kf3
  | 4 => kf4
  | 5 => kf5
  | 6 => kf6
  | 7 => kf7
  | 8 => kf8
  | 9 => kf9
  | 10 => kf10
  | 11 => kf11
  | 12 => kf12
  | 13 => kf13
  | 14 => kf14
  | 15 => kf15
  | 16 => kf16
  | 17 => kf17
  | 18 => kf18
  | 19 => kf19
  | 20 => kf20
  | 21 => kf21
  | 22 => kf22
  | 23 => kf23
  | 24 => kf24
  | 25 => kf25
  | 26 => kf26
  | 27 => kf27
  | 28 => kf28
  | 29 => kf29
  | 30 => kf30
  | 31 => kf31
  | 32 => kf32
  | 33 => kf33
  | 34 => kf34
  | 35 => kf35
  | 36 => kf36
  | 37 => kf37
  | 38 => kf38
  | 39 => kf39
  | 40 => kf40
  | 41 => kf41
  | 42 => kf42
  | 43 => kf43
  | 44 => kf44
  | 45 => kf45
  | 46 => kf46
  | 47 => kf47
  | 48 => kf48
  | 50 => kf50
  | 51 => kf51
  | 52 => kf52
  | 53 => kf53
  | 54 => kf54
  | 55 => kf55
  | 56 => kf56
  | 57 => kf57
  | 58 => kf58
  | 59 => kf59
  | 60 => kf60
  | 61 => kf61
  | 62 => kf62
  | 63 => kf63
  | 64 => kf64
  | 65 => kf65
  | 66 => kf66
  | 67 => kf67
  | 68 => kf68
  | 69 => kf69
  | 70 => kf70
  | 71 => kf71
  | _ => fun _ => none
def byRefT : Nat → Bool
  | 35 => true
  | 45 => true
  | 54 => true
  | 56 => true
  | _ => false
def badT : Nat → Bool
  | _ => false
def pureT : Nat → Bool
  | 9 => true
  | _ => false
def extT : Nat → List D → Option D
  | 49 => cmpExt
  | _ => fun _ => none
noncomputable def cx : Cx := { P := Try.prog, glob := fun _ => none, keep := keepT, byRef := byRefT, pureF := pureT, ext := extT, bad := badT }
@[simp] theorem cxP : cx.P = Try.prog := rfl
theorem cxF (f : Nat) : cx.P.funcs[f]? = Try.prog.funcs[f]? := rfl
@[simp] theorem br2 : cx.byRef 2 = false := rfl
@[simp] theorem pu2 : cx.pureF 2 = false := rfl
theorem bd2 : cx.bad 2 = false := rfl
@[simp] theorem br3 : cx.byRef 3 = false := rfl
@[simp] theorem pu3 : cx.pureF 3 = false := rfl
theorem bd3 : cx.bad 3 = false := rfl
@[simp] theorem br4 : cx.byRef 4 = false := rfl
@[simp] theorem pu4 : cx.pureF 4 = false := rfl
theorem bd4 : cx.bad 4 = false := rfl
@[simp] theorem br5 : cx.byRef 5 = false := rfl
@[simp] theorem pu5 : cx.pureF 5 = false := rfl
theorem bd5 : cx.bad 5 = false := rfl
@[simp] theorem br6 : cx.byRef 6 = false := rfl
@[simp] theorem pu6 : cx.pureF 6 = false := rfl
theorem bd6 : cx.bad 6 = false := rfl
@[simp] theorem br7 : cx.byRef 7 = false := rfl
@[simp] theorem pu7 : cx.pureF 7 = false := rfl
theorem bd7 : cx.bad 7 = false := rfl
@[simp] theorem br8 : cx.byRef 8 = false := rfl
@[simp] theorem pu8 : cx.pureF 8 = false := rfl
theorem bd8 : cx.bad 8 = false := rfl
@[simp] theorem br9 : cx.byRef 9 = false := rfl
@[simp] theorem pu9 : cx.pureF 9 = true := rfl
theorem bd9 : cx.bad 9 = false := rfl
@[simp] theorem br10 : cx.byRef 10 = false := rfl
@[simp] theorem pu10 : cx.pureF 10 = false := rfl
theorem bd10 : cx.bad 10 = false := rfl
@[simp] theorem br11 : cx.byRef 11 = false := rfl
@[simp] theorem pu11 : cx.pureF 11 = false := rfl
theorem bd11 : cx.bad 11 = false := rfl
@[simp] theorem br12 : cx.byRef 12 = false := rfl
@[simp] theorem pu12 : cx.pureF 12 = false := rfl
theorem bd12 : cx.bad 12 = false := rfl
@[simp] theorem br13 : cx.byRef 13 = false := rfl
@[simp] theorem pu13 : cx.pureF 13 = false := rfl
theorem bd13 : cx.bad 13 = false := rfl
@[simp] theorem br14 : cx.byRef 14 = false := rfl
@[simp] theorem pu14 : cx.pureF 14 = false := rfl
theorem bd14 : cx.bad 14 = false := rfl
@[simp] theorem br15 : cx.byRef 15 = false := rfl
@[simp] theorem pu15 : cx.pureF 15 = false := rfl
theorem bd15 : cx.bad 15 = false := rfl
@[simp] theorem br16 : cx.byRef 16 = false := rfl
@[simp] theorem pu16 : cx.pureF 16 = false := rfl
theorem bd16 : cx.bad 16 = false := rfl
@[simp] theorem br17 : cx.byRef 17 = false := rfl
@[simp] theorem pu17 : cx.pureF 17 = false := rfl
theorem bd17 : cx.bad 17 = false := rfl
@[simp] theorem br18 : cx.byRef 18 = false := rfl
@[simp] theorem pu18 : cx.pureF 18 = false := rfl
theorem bd18 : cx.bad 18 = false := rfl
@[simp] theorem br19 : cx.byRef 19 = false := rfl
@[simp] theorem pu19 : cx.pureF 19 = false := rfl
theorem bd19 : cx.bad 19 = false := rfl
@[simp] theorem br20 : cx.byRef 20 = false := rfl
@[simp] theorem pu20 : cx.pureF 20 = false := rfl
theorem bd20 : cx.bad 20 = false := rfl
@[simp] theorem br21 : cx.byRef 21 = false := rfl
@[simp] theorem pu21 : cx.pureF 21 = false := rfl
theorem bd21 : cx.bad 21 = false := rfl
@[simp] theorem br22 : cx.byRef 22 = false := rfl
@[simp] theorem pu22 : cx.pureF 22 = false := rfl
theorem bd22 : cx.bad 22 = false := rfl
@[simp] theorem br23 : cx.byRef 23 = false := rfl
@[simp] theorem pu23 : cx.pureF 23 = false := rfl
theorem bd23 : cx.bad 23 = false := rfl
@[simp] theorem br24 : cx.byRef 24 = false := rfl
@[simp] theorem pu24 : cx.pureF 24 = false := rfl
theorem bd24 : cx.bad 24 = false := rfl
@[simp] theorem br25 : cx.byRef 25 = false := rfl
@[simp] theorem pu25 : cx.pureF 25 = false := rfl
theorem bd25 : cx.bad 25 = false := rfl
@[simp] theorem br26 : cx.byRef 26 = false := rfl
@[simp] theorem pu26 : cx.pureF 26 = false := rfl
theorem bd26 : cx.bad 26 = false := rfl
@[simp] theorem br27 : cx.byRef 27 = false := rfl
@[simp] theorem pu27 : cx.pureF 27 = false := rfl
theorem bd27 : cx.bad 27 = false := rfl
@[simp] theorem br28 : cx.byRef 28 = false := rfl
@[simp] theorem pu28 : cx.pureF 28 = false := rfl
theorem bd28 : cx.bad 28 = false := rfl
@[simp] theorem br29 : cx.byRef 29 = false := rfl
@[simp] theorem pu29 : cx.pureF 29 = false := rfl
theorem bd29 : cx.bad 29 = false := rfl
@[simp] theorem br30 : cx.byRef 30 = false := rfl
@[simp] theorem pu30 : cx.pureF 30 = false := rfl
theorem bd30 : cx.bad 30 = false := rfl
@[simp] theorem br31 : cx.byRef 31 = false := rfl
@[simp] theorem pu31 : cx.pureF 31 = false := rfl
theorem bd31 : cx.bad 31 = false := rfl
@[simp] theorem br32 : cx.byRef 32 = false := rfl
@[simp] theorem pu32 : cx.pureF 32 = false := rfl
theorem bd32 : cx.bad 32 = false := rfl
@[simp] theorem br33 : cx.byRef 33 = false := rfl
@[simp] theorem pu33 : cx.pureF 33 = false := rfl
theorem bd33 : cx.bad 33 = false := rfl
@[simp] theorem br34 : cx.byRef 34 = false := rfl
@[simp] theorem pu34 : cx.pureF 34 = false := rfl
theorem bd34 : cx.bad 34 = false := rfl
@[simp] theorem br35 : cx.byRef 35 = true := rfl
@[simp] theorem pu35 : cx.pureF 35 = false := rfl
theorem bd35 : cx.bad 35 = false := rfl
@[simp] theorem br36 : cx.byRef 36 = false := rfl
@[simp] theorem pu36 : cx.pureF 36 = false := rfl
theorem bd36 : cx.bad 36 = false := rfl
@[simp] theorem br37 : cx.byRef 37 = false := rfl
@[simp] theorem pu37 : cx.pureF 37 = false := rfl
theorem bd37 : cx.bad 37 = false := rfl
@[simp] theorem br38 : cx.byRef 38 = false := rfl
@[simp] theorem pu38 : cx.pureF 38 = false := rfl
theorem bd38 : cx.bad 38 = false := rfl
@[simp] theorem br39 : cx.byRef 39 = false := rfl
@[simp] theorem pu39 : cx.pureF 39 = false := rfl
theorem bd39 : cx.bad 39 = false := rfl
@[simp] theorem br40 : cx.byRef 40 = false := rfl
@[simp] theorem pu40 : cx.pureF 40 = false := rfl
theorem bd40 : cx.bad 40 = false := rfl
@[simp] theorem br41 : cx.byRef 41 = false := rfl
@[simp] theorem pu41 : cx.pureF 41 = false := rfl
theorem bd41 : cx.bad 41 = false := rfl
@[simp] theorem br42 : cx.byRef 42 = false := rfl
@[simp] theorem pu42 : cx.pureF 42 = false := rfl
theorem bd42 : cx.bad 42 = false := rfl
@[simp] theorem br43 : cx.byRef 43 = false := rfl
@[simp] theorem pu43 : cx.pureF 43 = false := rfl
theorem bd43 : cx.bad 43 = false := rfl
@[simp] theorem br44 : cx.byRef 44 = false := rfl
@[simp] theorem pu44 : cx.pureF 44 = false := rfl
theorem bd44 : cx.bad 44 = false := rfl
@[simp] theorem br45 : cx.byRef 45 = true := rfl
@[simp] theorem pu45 : cx.pureF 45 = false := rfl
theorem bd45 : cx.bad 45 = false := rfl
@[simp] theorem br46 : cx.byRef 46 = false := rfl
@[simp] theorem pu46 : cx.pureF 46 = false := rfl
theorem bd46 : cx.bad 46 = false := rfl
@[simp] theorem br47 : cx.byRef 47 = false := rfl
@[simp] theorem pu47 : cx.pureF 47 = false := rfl
theorem bd47 : cx.bad 47 = false := rfl
@[simp] theorem br48 : cx.byRef 48 = false := rfl
@[simp] theorem pu48 : cx.pureF 48 = false := rfl
theorem bd48 : cx.bad 48 = false := rfl
@[simp] theorem br50 : cx.byRef 50 = false := rfl
@[simp] theorem pu50 : cx.pureF 50 = false := rfl
theorem bd50 : cx.bad 50 = false := rfl
@[simp] theorem br51 : cx.byRef 51 = false := rfl
@[simp] theorem pu51 : cx.pureF 51 = false := rfl
theorem bd51 : cx.bad 51 = false := rfl
@[simp] theorem br52 : cx.byRef 52 = false := rfl
@[simp] theorem pu52 : cx.pureF 52 = false := rfl
theorem bd52 : cx.bad 52 = false := rfl
@[simp] theorem br53 : cx.byRef 53 = false := rfl
@[simp] theorem pu53 : cx.pureF 53 = false := rfl
theorem bd53 : cx.bad 53 = false := rfl
@[simp] theorem br54 : cx.byRef 54 = true := rfl
@[simp] theorem pu54 : cx.pureF 54 = false := rfl
theorem bd54 : cx.bad 54 = false := rfl
@[simp] theorem br55 : cx.byRef 55 = false := rfl
@[simp] theorem pu55 : cx.pureF 55 = false := rfl
theorem bd55 : cx.bad 55 = false := rfl
@[simp] theorem br56 : cx.byRef 56 = true := rfl
@[simp] theorem pu56 : cx.pureF 56 = false := rfl
theorem bd56 : cx.bad 56 = false := rfl
@[simp] theorem br57 : cx.byRef 57 = false := rfl
@[simp] theorem pu57 : cx.pureF 57 = false := rfl
theorem bd57 : cx.bad 57 = false := rfl
@[simp] theorem br58 : cx.byRef 58 = false := rfl
@[simp] theorem pu58 : cx.pureF 58 = false := rfl
theorem bd58 : cx.bad 58 = false := rfl
@[simp] theorem br59 : cx.byRef 59 = false := rfl
@[simp] theorem pu59 : cx.pureF 59 = false := rfl
theorem bd59 : cx.bad 59 = false := rfl
@[simp] theorem br60 : cx.byRef 60 = false := rfl
@[simp] theorem pu60 : cx.pureF 60 = false := rfl
theorem bd60 : cx.bad 60 = false := rfl
@[simp] theorem br61 : cx.byRef 61 = false := rfl
@[simp] theorem pu61 : cx.pureF 61 = false := rfl
theorem bd61 : cx.bad 61 = false := rfl
@[simp] theorem br62 : cx.byRef 62 = false := rfl
@[simp] theorem pu62 : cx.pureF 62 = false := rfl
theorem bd62 : cx.bad 62 = false := rfl
@[simp] theorem br63 : cx.byRef 63 = false := rfl
@[simp] theorem pu63 : cx.pureF 63 = false := rfl
theorem bd63 : cx.bad 63 = false := rfl
@[simp] theorem br64 : cx.byRef 64 = false := rfl
@[simp] theorem pu64 : cx.pureF 64 = false := rfl
theorem bd64 : cx.bad 64 = false := rfl
@[simp] theorem br65 : cx.byRef 65 = false := rfl
@[simp] theorem pu65 : cx.pureF 65 = false := rfl
theorem bd65 : cx.bad 65 = false := rfl
@[simp] theorem br66 : cx.byRef 66 = false := rfl
@[simp] theorem pu66 : cx.pureF 66 = false := rfl
theorem bd66 : cx.bad 66 = false := rfl
@[simp] theorem br67 : cx.byRef 67 = false := rfl
@[simp] theorem pu67 : cx.pureF 67 = false := rfl
theorem bd67 : cx.bad 67 = false := rfl
@[simp] theorem br68 : cx.byRef 68 = false := rfl
@[simp] theorem pu68 : cx.pureF 68 = false := rfl
theorem bd68 : cx.bad 68 = false := rfl
@[simp] theorem br69 : cx.byRef 69 = false := rfl
@[simp] theorem pu69 : cx.pureF 69 = false := rfl
theorem bd69 : cx.bad 69 = false := rfl
@[simp] theorem br70 : cx.byRef 70 = false := rfl
@[simp] theorem pu70 : cx.pureF 70 = false := rfl
theorem bd70 : cx.bad 70 = false := rfl
@[simp] theorem br71 : cx.byRef 71 = false := rfl
@[simp] theorem pu71 : cx.pureF 71 = false := rfl
theorem bd71 : cx.bad 71 = false := rfl
theorem ex49 (args : List D) : cx.ext 49 args = cmpExt args := rfl
@[simp] theorem en2_0 (n0 : Nat) (e : Env) (H : Heap) : enter cx 2 n0 0 e H = enterK [] 0 n0 e H := rfl
@[simp] theorem en3_0 (n0 : Nat) (e : Env) (H : Heap) : enter cx 3 n0 0 e H = enterK [0, 1] 0 n0 e H := rfl
@[simp] theorem en3_1 (n0 : Nat) (e : Env) (H : Heap) : enter cx 3 n0 1 e H = enterK [0, 1] 0 n0 e H := rfl
@[simp] theorem en3_2 (n0 : Nat) (e : Env) (H : Heap) : enter cx 3 n0 2 e H = enterK [0, 1, 5] 0 n0 e H := rfl
@[simp] theorem en3_3 (n0 : Nat) (e : Env) (H : Heap) : enter cx 3 n0 3 e H = enterK [] 0 n0 e H := rfl
@[simp] theorem en3_4 (n0 : Nat) (e : Env) (H : Heap) : enter cx 3 n0 4 e H = enterK [0, 1, 5] 0 n0 e H := rfl
@[simp] theorem en3_5 (n0 : Nat) (e : Env) (H : Heap) : enter cx 3 n0 5 e H = enterK [5] 0 n0 e H := rfl
@[simp] theorem en3_6 (n0 : Nat) (e : Env) (H : Heap) : enter cx 3 n0 6 e H = enterK [0, 1, 5] 0 n0 e H := rfl
@[simp] theorem en3_7 (n0 : Nat) (e : Env) (H : Heap) : enter cx 3 n0 7 e H = enterK [0, 1, 5, 6] 0 n0 e H := rfl
@[simp] theorem en3_8 (n0 : Nat) (e : Env) (H : Heap) : enter cx 3 n0 8 e H = enterK [0, 1, 5, 6, 7, 8, 9] 0 n0 e H := rfl
@[simp] theorem en3_9 (n0 : Nat) (e : Env) (H : Heap) : enter cx 3 n0 9 e H = enterK [0, 1, 5, 6, 7, 8, 9, 10] 0 n0 e H := rfl
@[simp] theorem en3_10 (n0 : Nat) (e : Env) (H : Heap) : enter cx 3 n0 10 e H = enterK [0, 1, 5, 6, 7, 8, 9, 10, 11] 0 n0 e H := rfl
@[simp] theorem en3_11 (n0 : Nat) (e : Env) (H : Heap) : enter cx 3 n0 11 e H = enterK [0, 1, 5, 6, 7, 8, 9, 10, 11] 0 n0 e H := rfl
@[simp] theorem en3_12 (n0 : Nat) (e : Env) (H : Heap) : enter cx 3 n0 12 e H = enterK [0, 1, 5, 6, 7, 8, 9, 10, 11] 0 n0 e H := rfl
@[simp] theorem en3_13 (n0 : Nat) (e : Env) (H : Heap) : enter cx 3 n0 13 e H = enterK [0, 1, 5, 6, 7, 8, 9, 10, 11, 12] 0 n0 e H := rfl
@[simp] theorem en3_14 (n0 : Nat) (e : Env) (H : Heap) : enter cx 3 n0 14 e H = enterK [0, 1, 5, 6, 7, 8, 9, 10, 11, 12, 13] 0 n0 e H := rfl
@[simp] theorem en3_15 (n0 : Nat) (e : Env) (H : Heap) : enter cx 3 n0 15 e H = enterK [0, 1, 5, 6, 7, 8, 9, 10, 11, 12, 13, 14] 0 n0 e H := rfl
@[simp] theorem en3_16 (n0 : Nat) (e : Env) (H : Heap) : enter cx 3 n0 16 e H = enterK [0, 1, 5, 6, 7, 8, 9, 10, 11, 12, 13, 14] 0 n0 e H := rfl
@[simp] theorem en3_17 (n0 : Nat) (e : Env) (H : Heap) : enter cx 3 n0 17 e H = enterK [0, 1, 5, 6, 7, 8, 9, 10, 11, 12, 13, 14] 0 n0 e H := rfl
@[simp] theorem en3_18 (n0 : Nat) (e : Env) (H : Heap) : enter cx 3 n0 18 e H = enterK [0, 1, 5, 6, 7, 8, 9, 10, 11, 12, 13, 14] 0 n0 e H := rfl
@[simp] theorem en3_19 (n0 : Nat) (e : Env) (H : Heap) : enter cx 3 n0 19 e H = enterK [0, 1, 5, 6, 7, 8, 9, 10, 11, 12, 13, 14] 0 n0 e H := rfl
@[simp] theorem en3_20 (n0 : Nat) (e : Env) (H : Heap) : enter cx 3 n0 20 e H = enterK [0, 1, 5, 6, 7, 8, 9, 10, 11, 12, 13, 14] 0 n0 e H := rfl
@[simp] theorem en3_21 (n0 : Nat) (e : Env) (H : Heap) : enter cx 3 n0 21 e H = enterK [0, 1, 5, 7, 8, 9, 10, 11, 12, 15, 16] 0 n0 e H := rfl
@[simp] theorem en3_22 (n0 : Nat) (e : Env) (H : Heap) : enter cx 3 n0 22 e H = enterK [] 0 n0 e H := rfl
@[simp] theorem en3_23 (n0 : Nat) (e : Env) (H : Heap) : enter cx 3 n0 23 e H = enterK [0, 1, 5, 7, 8, 9, 10, 11, 12, 15] 0 n0 e H := rfl
@[simp] theorem en3_24 (n0 : Nat) (e : Env) (H : Heap) : enter cx 3 n0 24 e H = enterK [0, 1, 5, 6, 7, 8, 9, 10, 11] 0 n0 e H := rfl
@[simp] theorem en3_25 (n0 : Nat) (e : Env) (H : Heap) : enter cx 3 n0 25 e H = enterK [0, 1, 5, 6, 7, 8, 9, 10, 11, 17] 0 n0 e H := rfl
@[simp] theorem en3_26 (n0 : Nat) (e : Env) (H : Heap) : enter cx 3 n0 26 e H = enterK [0, 1, 5, 6, 7, 8, 9, 10, 11, 19] 0 n0 e H := rfl
@[simp] theorem en3_27 (n0 : Nat) (e : Env) (H : Heap) : enter cx 3 n0 27 e H = enterK [] 0 n0 e H := rfl
@[simp] theorem en3_28 (n0 : Nat) (e : Env) (H : Heap) : enter cx 3 n0 28 e H = enterK [0, 1, 5, 6, 7, 8, 9, 10, 11] 0 n0 e H := rfl
@[simp] theorem en3_29 (n0 : Nat) (e : Env) (H : Heap) : enter cx 3 n0 29 e H = enterK [0, 1, 5, 6, 7, 8, 9, 10, 11, 20] 0 n0 e H := rfl
@[simp] theorem en3_30 (n0 : Nat) (e : Env) (H : Heap) : enter cx 3 n0 30 e H = enterK [] 0 n0 e H := rfl
@[simp] theorem en3_31 (n0 : Nat) (e : Env) (H : Heap) : enter cx 3 n0 31 e H = enterK [5, 6] 0 n0 e H := rfl
@[simp] theorem en4_0 (n0 : Nat) (e : Env) (H : Heap) : enter cx 4 n0 0 e H = enterK [0, 1] 0 n0 e H := rfl
@[simp] theorem en4_1 (n0 : Nat) (e : Env) (H : Heap) : enter cx 4 n0 1 e H = enterK [0, 1] 0 n0 e H := rfl
@[simp] theorem en4_2 (n0 : Nat) (e : Env) (H : Heap) : enter cx 4 n0 2 e H = enterK [0, 1, 5] 0 n0 e H := rfl
@[simp] theorem en4_3 (n0 : Nat) (e : Env) (H : Heap) : enter cx 4 n0 3 e H = enterK [] 0 n0 e H := rfl
@[simp] theorem en4_4 (n0 : Nat) (e : Env) (H : Heap) : enter cx 4 n0 4 e H = enterK [0, 1, 5] 0 n0 e H := rfl
@[simp] theorem en4_5 (n0 : Nat) (e : Env) (H : Heap) : enter cx 4 n0 5 e H = enterK [5, 6, 7] 0 n0 e H := rfl
@[simp] theorem en4_6 (n0 : Nat) (e : Env) (H : Heap) : enter cx 4 n0 6 e H = enterK [5, 6, 7, 8, 9] 0 n0 e H := rfl
@[simp] theorem en4_7 (n0 : Nat) (e : Env) (H : Heap) : enter cx 4 n0 7 e H = enterK [5, 6, 7, 8, 9, 10, 11] 0 n0 e H := rfl
@[simp] theorem en4_8 (n0 : Nat) (e : Env) (H : Heap) : enter cx 4 n0 8 e H = enterK [] 0 n0 e H := rfl
@[simp] theorem en4_9 (n0 : Nat) (e : Env) (H : Heap) : enter cx 4 n0 9 e H = enterK [5, 6, 7, 8] 0 n0 e H := rfl
@[simp] theorem en4_10 (n0 : Nat) (e : Env) (H : Heap) : enter cx 4 n0 10 e H = enterK [5, 6, 7, 8, 12] 0 n0 e H := rfl
@[simp] theorem en4_11 (n0 : Nat) (e : Env) (H : Heap) : enter cx 4 n0 11 e H = enterK [5, 6, 7, 8, 12] 0 n0 e H := rfl
@[simp] theorem en4_12 (n0 : Nat) (e : Env) (H : Heap) : enter cx 4 n0 12 e H = enterK [5, 6, 7, 8, 12] 0 n0 e H := rfl
@[simp] theorem en4_13 (n0 : Nat) (e : Env) (H : Heap) : enter cx 4 n0 13 e H = enterK [] 0 n0 e H := rfl
@[simp] theorem en4_14 (n0 : Nat) (e : Env) (H : Heap) : enter cx 4 n0 14 e H = enterK [5, 6] 0 n0 e H := rfl
@[simp] theorem en4_15 (n0 : Nat) (e : Env) (H : Heap) : enter cx 4 n0 15 e H = enterK [5, 6, 13, 14] 0 n0 e H := rfl
@[simp] theorem en5_0 (n0 : Nat) (e : Env) (H : Heap) : enter cx 5 n0 0 e H = enterK [0, 1, 2] 0 n0 e H := rfl
@[simp] theorem en5_1 (n0 : Nat) (e : Env) (H : Heap) : enter cx 5 n0 1 e H = enterK [0, 1, 2] 0 n0 e H := rfl
@[simp] theorem en5_2 (n0 : Nat) (e : Env) (H : Heap) : enter cx 5 n0 2 e H = enterK [0, 1, 2, 7] 0 n0 e H := rfl
@[simp] theorem en5_3 (n0 : Nat) (e : Env) (H : Heap) : enter cx 5 n0 3 e H = enterK [] 0 n0 e H := rfl
@[simp] theorem en5_4 (n0 : Nat) (e : Env) (H : Heap) : enter cx 5 n0 4 e H = enterK [0, 1, 2, 7] 0 n0 e H := rfl
@[simp] theorem en5_5 (n0 : Nat) (e : Env) (H : Heap) : enter cx 5 n0 5 e H = enterK [7] 0 n0 e H := rfl
@[simp] theorem en5_6 (n0 : Nat) (e : Env) (H : Heap) : enter cx 5 n0 6 e H = enterK [0, 1, 2, 7] 0 n0 e H := rfl
@[simp] theorem en5_7 (n0 : Nat) (e : Env) (H : Heap) : enter cx 5 n0 7 e H = enterK [1, 2, 7, 8] 0 n0 e H := rfl
@[simp] theorem en5_8 (n0 : Nat) (e : Env) (H : Heap) : enter cx 5 n0 8 e H = enterK [1, 2, 7, 8, 9] 0 n0 e H := rfl
@[simp] theorem en5_9 (n0 : Nat) (e : Env) (H : Heap) : enter cx 5 n0 9 e H = enterK [] 0 n0 e H := rfl
@[simp] theorem en5_10 (n0 : Nat) (e : Env) (H : Heap) : enter cx 5 n0 10 e H = enterK [1, 2, 7, 8, 9] 0 n0 e H := rfl
@[simp] theorem en5_11 (n0 : Nat) (e : Env) (H : Heap) : enter cx 5 n0 11 e H = enterK [2, 7, 8, 9, 10, 11, 12] 0 n0 e H := rfl
@[simp] theorem en5_12 (n0 : Nat) (e : Env) (H : Heap) : enter cx 5 n0 12 e H = enterK [7, 8, 9, 10, 11, 12, 15] 0 n0 e H := rfl
@[simp] theorem en6_0 (n0 : Nat) (e : Env) (H : Heap) : enter cx 6 n0 0 e H = enterK [0, 1, 2, 3, 4, 5] 0 n0 e H := rfl
@[simp] theorem en6_1 (n0 : Nat) (e : Env) (H : Heap) : enter cx 6 n0 1 e H = enterK [0, 1, 4, 5, 8, 9] 0 n0 e H := rfl
@[simp] theorem en6_2 (n0 : Nat) (e : Env) (H : Heap) : enter cx 6 n0 2 e H = enterK [0, 1, 4, 5, 8, 9, 13] 0 n0 e H := rfl
@[simp] theorem en6_3 (n0 : Nat) (e : Env) (H : Heap) : enter cx 6 n0 3 e H = enterK [] 0 n0 e H := rfl
@[simp] theorem en6_4 (n0 : Nat) (e : Env) (H : Heap) : enter cx 6 n0 4 e H = enterK [0, 1, 4, 5, 8, 9, 13] 0 n0 e H := rfl
@[simp] theorem en6_5 (n0 : Nat) (e : Env) (H : Heap) : enter cx 6 n0 5 e H = enterK [13] 0 n0 e H := rfl
@[simp] theorem en6_6 (n0 : Nat) (e : Env) (H : Heap) : enter cx 6 n0 6 e H = enterK [0, 1, 4, 5, 8, 9, 13] 0 n0 e H := rfl
@[simp] theorem en6_7 (n0 : Nat) (e : Env) (H : Heap) : enter cx 6 n0 7 e H = enterK [0, 1, 4, 5, 8, 9, 13, 14] 0 n0 e H := rfl
@[simp] theorem en6_8 (n0 : Nat) (e : Env) (H : Heap) : enter cx 6 n0 8 e H = enterK [0, 1, 4, 5, 8, 9, 13, 14, 16, 17] 0 n0 e H := rfl
@[simp] theorem en6_9 (n0 : Nat) (e : Env) (H : Heap) : enter cx 6 n0 9 e H = enterK [0, 1, 4, 5, 8, 9, 13, 14, 16, 17, 18, 19] 0 n0 e H := rfl
@[simp] theorem en6_10 (n0 : Nat) (e : Env) (H : Heap) : enter cx 6 n0 10 e H = enterK [0, 1, 4, 5, 8, 9, 13, 14, 16, 17, 18, 19, 20, 21] 0 n0 e H := rfl
@[simp] theorem en6_11 (n0 : Nat) (e : Env) (H : Heap) : enter cx 6 n0 11 e H = enterK [0, 1, 5, 8, 13, 14, 16, 17, 18, 19, 20, 21, 22, 23] 0 n0 e H := rfl
@[simp] theorem en6_12 (n0 : Nat) (e : Env) (H : Heap) : enter cx 6 n0 12 e H = enterK [0, 1, 5, 8, 13, 14, 16, 17, 18, 19, 20, 21, 22, 23, 24, 25] 0 n0 e H := rfl
@[simp] theorem en6_13 (n0 : Nat) (e : Env) (H : Heap) : enter cx 6 n0 13 e H = enterK [0, 1, 5, 8, 13, 14, 16, 17, 18, 19, 20, 21, 22, 23, 24, 25, 26, 27] 0 n0 e H := rfl
@[simp] theorem en6_14 (n0 : Nat) (e : Env) (H : Heap) : enter cx 6 n0 14 e H = enterK [0, 1, 5, 8, 13, 14, 16, 17, 18, 19, 20, 21, 22, 23, 24, 25, 26, 27, 28, 29, 30] 0 n0 e H := rfl
@[simp] theorem en6_15 (n0 : Nat) (e : Env) (H : Heap) : enter cx 6 n0 15 e H = enterK [0, 1, 8, 13, 14, 16, 17, 18, 19, 20, 21, 22, 23, 24, 25, 26, 27, 28, 29, 30, 31, 32, 33] 0 n0 e H := rfl
@[simp] theorem en6_16 (n0 : Nat) (e : Env) (H : Heap) : enter cx 6 n0 16 e H = enterK [0, 1, 8, 13, 14, 34] 0 n0 e H := rfl
@[simp] theorem en7_0 (n0 : Nat) (e : Env) (H : Heap) : enter cx 7 n0 0 e H = enterK [] 0 n0 e H := rfl
@[simp] theorem en7_1 (n0 : Nat) (e : Env) (H : Heap) : enter cx 7 n0 1 e H = enterK [] 0 n0 e H := rfl
@[simp] theorem en7_2 (n0 : Nat) (e : Env) (H : Heap) : enter cx 7 n0 2 e H = enterK [1, 2] 0 n0 e H := rfl
@[simp] theorem en8_0 (n0 : Nat) (e : Env) (H : Heap) : enter cx 8 n0 0 e H = enterK [0] 0 n0 e H := rfl
@[simp] theorem en8_1 (n0 : Nat) (e : Env) (H : Heap) : enter cx 8 n0 1 e H = enterK [0, 2] 0 n0 e H := rfl
@[simp] theorem en8_2 (n0 : Nat) (e : Env) (H : Heap) : enter cx 8 n0 2 e H = enterK [0, 2, 3] 0 n0 e H := rfl
@[simp] theorem en8_3 (n0 : Nat) (e : Env) (H : Heap) : enter cx 8 n0 3 e H = enterK [2, 3] 0 n0 e H := rfl
@[simp] theorem en9_0 (n0 : Nat) (e : Env) (H : Heap) : enter cx 9 n0 0 e H = enterK [0, 1] 0 n0 e H := rfl
@[simp] theorem en9_1 (n0 : Nat) (e : Env) (H : Heap) : enter cx 9 n0 1 e H = enterK [0, 1] 0 n0 e H := rfl
@[simp] theorem en9_2 (n0 : Nat) (e : Env) (H : Heap) : enter cx 9 n0 2 e H = enterK [] 0 n0 e H := rfl
@[simp] theorem en9_3 (n0 : Nat) (e : Env) (H : Heap) : enter cx 9 n0 3 e H = enterK [0, 1] 0 n0 e H := rfl
@[simp] theorem en10_0 (n0 : Nat) (e : Env) (H : Heap) : enter cx 10 n0 0 e H = enterK [0, 1, 2] 0 n0 e H := rfl
@[simp] theorem en10_1 (n0 : Nat) (e : Env) (H : Heap) : enter cx 10 n0 1 e H = enterK [0, 2, 4] 0 n0 e H := rfl
@[simp] theorem en10_2 (n0 : Nat) (e : Env) (H : Heap) : enter cx 10 n0 2 e H = enterK [0, 2, 4, 8] 0 n0 e H := rfl
@[simp] theorem en10_3 (n0 : Nat) (e : Env) (H : Heap) : enter cx 10 n0 3 e H = enterK [8] 0 n0 e H := rfl
@[simp] theorem en10_4 (n0 : Nat) (e : Env) (H : Heap) : enter cx 10 n0 4 e H = enterK [0, 2, 4] 0 n0 e H := rfl
@[simp] theorem en10_5 (n0 : Nat) (e : Env) (H : Heap) : enter cx 10 n0 5 e H = enterK [0, 2, 4, 9] 0 n0 e H := rfl
@[simp] theorem en10_6 (n0 : Nat) (e : Env) (H : Heap) : enter cx 10 n0 6 e H = enterK [0, 2, 9] 0 n0 e H := rfl
@[simp] theorem en10_7 (n0 : Nat) (e : Env) (H : Heap) : enter cx 10 n0 7 e H = enterK [0, 9] 0 n0 e H := rfl
@[simp] theorem en10_8 (n0 : Nat) (e : Env) (H : Heap) : enter cx 10 n0 8 e H = enterK [0, 2, 4, 9] 0 n0 e H := rfl
@[simp] theorem en10_9 (n0 : Nat) (e : Env) (H : Heap) : enter cx 10 n0 9 e H = enterK [0, 2, 4, 9] 0 n0 e H := rfl
@[simp] theorem en10_10 (n0 : Nat) (e : Env) (H : Heap) : enter cx 10 n0 10 e H = enterK [] 0 n0 e H := rfl
@[simp] theorem en10_11 (n0 : Nat) (e : Env) (H : Heap) : enter cx 10 n0 11 e H = enterK [0, 2, 4, 9] 0 n0 e H := rfl
@[simp] theorem en10_12 (n0 : Nat) (e : Env) (H : Heap) : enter cx 10 n0 12 e H = enterK [0, 4, 9] 0 n0 e H := rfl
@[simp] theorem en10_13 (n0 : Nat) (e : Env) (H : Heap) : enter cx 10 n0 13 e H = enterK [0, 9] 0 n0 e H := rfl
@[simp] theorem en11_0 (n0 : Nat) (e : Env) (H : Heap) : enter cx 11 n0 0 e H = enterK [0, 1] 0 n0 e H := rfl
@[simp] theorem en11_1 (n0 : Nat) (e : Env) (H : Heap) : enter cx 11 n0 1 e H = enterK [0, 3, 4] 0 n0 e H := rfl
@[simp] theorem en11_2 (n0 : Nat) (e : Env) (H : Heap) : enter cx 11 n0 2 e H = enterK [0, 3, 4, 5] 0 n0 e H := rfl
@[simp] theorem en11_3 (n0 : Nat) (e : Env) (H : Heap) : enter cx 11 n0 3 e H = enterK [0, 4, 5] 0 n0 e H := rfl
@[simp] theorem en11_4 (n0 : Nat) (e : Env) (H : Heap) : enter cx 11 n0 4 e H = enterK [3, 4] 0 n0 e H := rfl
@[simp] theorem en12_0 (n0 : Nat) (e : Env) (H : Heap) : enter cx 12 n0 0 e H = enterK [0] 0 n0 e H := rfl
@[simp] theorem en12_1 (n0 : Nat) (e : Env) (H : Heap) : enter cx 12 n0 1 e H = enterK [0] 0 n0 e H := rfl
@[simp] theorem en12_2 (n0 : Nat) (e : Env) (H : Heap) : enter cx 12 n0 2 e H = enterK [0, 3] 0 n0 e H := rfl
@[simp] theorem en12_3 (n0 : Nat) (e : Env) (H : Heap) : enter cx 12 n0 3 e H = enterK [0, 3, 4] 0 n0 e H := rfl
@[simp] theorem en12_4 (n0 : Nat) (e : Env) (H : Heap) : enter cx 12 n0 4 e H = enterK [0, 3, 4] 0 n0 e H := rfl
@[simp] theorem en12_5 (n0 : Nat) (e : Env) (H : Heap) : enter cx 12 n0 5 e H = enterK [0, 3, 4] 0 n0 e H := rfl
@[simp] theorem en12_6 (n0 : Nat) (e : Env) (H : Heap) : enter cx 12 n0 6 e H = enterK [0, 3, 4] 0 n0 e H := rfl
@[simp] theorem en12_7 (n0 : Nat) (e : Env) (H : Heap) : enter cx 12 n0 7 e H = enterK [3] 0 n0 e H := rfl
@[simp] theorem en13_0 (n0 : Nat) (e : Env) (H : Heap) : enter cx 13 n0 0 e H = enterK [0, 1] 0 n0 e H := rfl
@[simp] theorem en13_1 (n0 : Nat) (e : Env) (H : Heap) : enter cx 13 n0 1 e H = enterK [0, 1] 0 n0 e H := rfl
@[simp] theorem en13_2 (n0 : Nat) (e : Env) (H : Heap) : enter cx 13 n0 2 e H = enterK [] 0 n0 e H := rfl
@[simp] theorem en13_3 (n0 : Nat) (e : Env) (H : Heap) : enter cx 13 n0 3 e H = enterK [0, 1] 0 n0 e H := rfl
@[simp] theorem en13_4 (n0 : Nat) (e : Env) (H : Heap) : enter cx 13 n0 4 e H = enterK [1, 6] 0 n0 e H := rfl
@[simp] theorem en13_5 (n0 : Nat) (e : Env) (H : Heap) : enter cx 13 n0 5 e H = enterK [6, 19, 20, 21] 0 n0 e H := rfl
@[simp] theorem en13_6 (n0 : Nat) (e : Env) (H : Heap) : enter cx 13 n0 6 e H = enterK [6, 19, 20, 21] 0 n0 e H := rfl
@[simp] theorem en13_7 (n0 : Nat) (e : Env) (H : Heap) : enter cx 13 n0 7 e H = enterK [6, 8, 19, 20, 21] 0 n0 e H := rfl
@[simp] theorem en13_8 (n0 : Nat) (e : Env) (H : Heap) : enter cx 13 n0 8 e H = enterK [6, 8, 19, 20, 21] 0 n0 e H := rfl
@[simp] theorem en13_9 (n0 : Nat) (e : Env) (H : Heap) : enter cx 13 n0 9 e H = enterK [6, 19, 20, 21] 0 n0 e H := rfl
@[simp] theorem en13_10 (n0 : Nat) (e : Env) (H : Heap) : enter cx 13 n0 10 e H = enterK [6] 0 n0 e H := rfl
@[simp] theorem en13_11 (n0 : Nat) (e : Env) (H : Heap) : enter cx 13 n0 11 e H = enterK [] 0 n0 e H := rfl
@[simp] theorem en13_12 (n0 : Nat) (e : Env) (H : Heap) : enter cx 13 n0 12 e H = enterK [6] 0 n0 e H := rfl
@[simp] theorem en14_0 (n0 : Nat) (e : Env) (H : Heap) : enter cx 14 n0 0 e H = enterK [0, 1] 0 n0 e H := rfl
@[simp] theorem en14_1 (n0 : Nat) (e : Env) (H : Heap) : enter cx 14 n0 1 e H = enterK [0, 1] 0 n0 e H := rfl
@[simp] theorem en14_2 (n0 : Nat) (e : Env) (H : Heap) : enter cx 14 n0 2 e H = enterK [1, 7, 8, 9] 0 n0 e H := rfl
@[simp] theorem en14_3 (n0 : Nat) (e : Env) (H : Heap) : enter cx 14 n0 3 e H = enterK [1, 7, 8, 9] 0 n0 e H := rfl
@[simp] theorem en14_4 (n0 : Nat) (e : Env) (H : Heap) : enter cx 14 n0 4 e H = enterK [1, 6, 7, 8, 9] 0 n0 e H := rfl
@[simp] theorem en14_5 (n0 : Nat) (e : Env) (H : Heap) : enter cx 14 n0 5 e H = enterK [] 0 n0 e H := rfl
@[simp] theorem en14_6 (n0 : Nat) (e : Env) (H : Heap) : enter cx 14 n0 6 e H = enterK [1, 7, 8, 9] 0 n0 e H := rfl
@[simp] theorem en14_7 (n0 : Nat) (e : Env) (H : Heap) : enter cx 14 n0 7 e H = enterK [] 0 n0 e H := rfl
@[simp] theorem en15_0 (n0 : Nat) (e : Env) (H : Heap) : enter cx 15 n0 0 e H = enterK [0] 0 n0 e H := rfl
@[simp] theorem en15_1 (n0 : Nat) (e : Env) (H : Heap) : enter cx 15 n0 1 e H = enterK [0] 0 n0 e H := rfl
@[simp] theorem en15_2 (n0 : Nat) (e : Env) (H : Heap) : enter cx 15 n0 2 e H = enterK [] 0 n0 e H := rfl
@[simp] theorem en15_3 (n0 : Nat) (e : Env) (H : Heap) : enter cx 15 n0 3 e H = enterK [0] 0 n0 e H := rfl
@[simp] theorem en15_4 (n0 : Nat) (e : Env) (H : Heap) : enter cx 15 n0 4 e H = enterK [0, 3] 0 n0 e H := rfl
@[simp] theorem en15_5 (n0 : Nat) (e : Env) (H : Heap) : enter cx 15 n0 5 e H = enterK [0, 3] 0 n0 e H := rfl
@[simp] theorem en15_6 (n0 : Nat) (e : Env) (H : Heap) : enter cx 15 n0 6 e H = enterK [0, 3] 0 n0 e H := rfl
@[simp] theorem en15_7 (n0 : Nat) (e : Env) (H : Heap) : enter cx 15 n0 7 e H = enterK [] 0 n0 e H := rfl
@[simp] theorem en15_8 (n0 : Nat) (e : Env) (H : Heap) : enter cx 15 n0 8 e H = enterK [] 0 n0 e H := rfl
@[simp] theorem en16_0 (n0 : Nat) (e : Env) (H : Heap) : enter cx 16 n0 0 e H = enterK [0, 1] 0 n0 e H := rfl
@[simp] theorem en16_1 (n0 : Nat) (e : Env) (H : Heap) : enter cx 16 n0 1 e H = enterK [0, 1] 0 n0 e H := rfl
@[simp] theorem en17_0 (n0 : Nat) (e : Env) (H : Heap) : enter cx 17 n0 0 e H = enterK [0] 0 n0 e H := rfl
@[simp] theorem en17_1 (n0 : Nat) (e : Env) (H : Heap) : enter cx 17 n0 1 e H = enterK [0] 0 n0 e H := rfl
@[simp] theorem en17_2 (n0 : Nat) (e : Env) (H : Heap) : enter cx 17 n0 2 e H = enterK [] 0 n0 e H := rfl
@[simp] theorem en17_3 (n0 : Nat) (e : Env) (H : Heap) : enter cx 17 n0 3 e H = enterK [0] 0 n0 e H := rfl
@[simp] theorem en17_4 (n0 : Nat) (e : Env) (H : Heap) : enter cx 17 n0 4 e H = enterK [0, 3] 0 n0 e H := rfl
@[simp] theorem en17_5 (n0 : Nat) (e : Env) (H : Heap) : enter cx 17 n0 5 e H = enterK [3, 15, 16, 17] 0 n0 e H := rfl
@[simp] theorem en17_6 (n0 : Nat) (e : Env) (H : Heap) : enter cx 17 n0 6 e H = enterK [3, 15, 16, 17] 0 n0 e H := rfl
@[simp] theorem en17_7 (n0 : Nat) (e : Env) (H : Heap) : enter cx 17 n0 7 e H = enterK [3, 5, 15, 16, 17] 0 n0 e H := rfl
@[simp] theorem en17_8 (n0 : Nat) (e : Env) (H : Heap) : enter cx 17 n0 8 e H = enterK [3, 5, 15, 16, 17] 0 n0 e H := rfl
@[simp] theorem en17_9 (n0 : Nat) (e : Env) (H : Heap) : enter cx 17 n0 9 e H = enterK [3, 15, 16, 17, 31, 32, 33] 0 n0 e H := rfl
@[simp] theorem en17_10 (n0 : Nat) (e : Env) (H : Heap) : enter cx 17 n0 10 e H = enterK [3, 15, 16, 17, 31, 32, 33] 0 n0 e H := rfl
@[simp] theorem en17_11 (n0 : Nat) (e : Env) (H : Heap) : enter cx 17 n0 11 e H = enterK [3, 7, 15, 16, 17, 31, 32, 33] 0 n0 e H := rfl
@[simp] theorem en17_12 (n0 : Nat) (e : Env) (H : Heap) : enter cx 17 n0 12 e H = enterK [3, 15, 16, 17, 31, 32, 33] 0 n0 e H := rfl
@[simp] theorem en17_13 (n0 : Nat) (e : Env) (H : Heap) : enter cx 17 n0 13 e H = enterK [3, 15, 16, 17] 0 n0 e H := rfl
@[simp] theorem en17_14 (n0 : Nat) (e : Env) (H : Heap) : enter cx 17 n0 14 e H = enterK [3] 0 n0 e H := rfl
@[simp] theorem en18_0 (n0 : Nat) (e : Env) (H : Heap) : enter cx 18 n0 0 e H = enterK [0] 0 n0 e H := rfl
@[simp] theorem en18_1 (n0 : Nat) (e : Env) (H : Heap) : enter cx 18 n0 1 e H = enterK [0] 0 n0 e H := rfl
@[simp] theorem en18_2 (n0 : Nat) (e : Env) (H : Heap) : enter cx 18 n0 2 e H = enterK [] 0 n0 e H := rfl
@[simp] theorem en18_3 (n0 : Nat) (e : Env) (H : Heap) : enter cx 18 n0 3 e H = enterK [0] 0 n0 e H := rfl
@[simp] theorem en18_4 (n0 : Nat) (e : Env) (H : Heap) : enter cx 18 n0 4 e H = enterK [] 0 n0 e H := rfl
@[simp] theorem en18_5 (n0 : Nat) (e : Env) (H : Heap) : enter cx 18 n0 5 e H = enterK [0] 0 n0 e H := rfl
@[simp] theorem en18_6 (n0 : Nat) (e : Env) (H : Heap) : enter cx 18 n0 6 e H = enterK [0, 5] 0 n0 e H := rfl
@[simp] theorem en18_7 (n0 : Nat) (e : Env) (H : Heap) : enter cx 18 n0 7 e H = enterK [0, 5, 21, 22] 0 n0 e H := rfl
@[simp] theorem en18_8 (n0 : Nat) (e : Env) (H : Heap) : enter cx 18 n0 8 e H = enterK [0, 5, 21, 22] 0 n0 e H := rfl
@[simp] theorem en18_9 (n0 : Nat) (e : Env) (H : Heap) : enter cx 18 n0 9 e H = enterK [0, 5, 6, 21, 22] 0 n0 e H := rfl
@[simp] theorem en18_10 (n0 : Nat) (e : Env) (H : Heap) : enter cx 18 n0 10 e H = enterK [0, 5, 6, 7, 21, 22] 0 n0 e H := rfl
@[simp] theorem en18_11 (n0 : Nat) (e : Env) (H : Heap) : enter cx 18 n0 11 e H = enterK [0, 5, 6, 7, 8, 21, 22] 0 n0 e H := rfl
@[simp] theorem en18_12 (n0 : Nat) (e : Env) (H : Heap) : enter cx 18 n0 12 e H = enterK [] 0 n0 e H := rfl
@[simp] theorem en18_13 (n0 : Nat) (e : Env) (H : Heap) : enter cx 18 n0 13 e H = enterK [0, 5, 6, 7, 8, 21, 22] 0 n0 e H := rfl
@[simp] theorem en18_14 (n0 : Nat) (e : Env) (H : Heap) : enter cx 18 n0 14 e H = enterK [] 0 n0 e H := rfl
@[simp] theorem en18_15 (n0 : Nat) (e : Env) (H : Heap) : enter cx 18 n0 15 e H = enterK [0, 5, 7, 8, 21, 22] 0 n0 e H := rfl
@[simp] theorem en18_16 (n0 : Nat) (e : Env) (H : Heap) : enter cx 18 n0 16 e H = enterK [] 0 n0 e H := rfl
@[simp] theorem en18_17 (n0 : Nat) (e : Env) (H : Heap) : enter cx 18 n0 17 e H = enterK [0, 5, 7, 8, 21, 22] 0 n0 e H := rfl
@[simp] theorem en18_18 (n0 : Nat) (e : Env) (H : Heap) : enter cx 18 n0 18 e H = enterK [0, 5, 7, 8, 21, 22] 0 n0 e H := rfl
@[simp] theorem en18_19 (n0 : Nat) (e : Env) (H : Heap) : enter cx 18 n0 19 e H = enterK [0, 5, 7, 8, 21, 22] 0 n0 e H := rfl
@[simp] theorem en18_20 (n0 : Nat) (e : Env) (H : Heap) : enter cx 18 n0 20 e H = enterK [0, 5, 8, 21, 22] 0 n0 e H := rfl
@[simp] theorem en18_21 (n0 : Nat) (e : Env) (H : Heap) : enter cx 18 n0 21 e H = enterK [0, 5, 21, 22] 0 n0 e H := rfl
@[simp] theorem en18_22 (n0 : Nat) (e : Env) (H : Heap) : enter cx 18 n0 22 e H = enterK [5] 0 n0 e H := rfl
@[simp] theorem en19_0 (n0 : Nat) (e : Env) (H : Heap) : enter cx 19 n0 0 e H = enterK [0] 0 n0 e H := rfl
@[simp] theorem en19_1 (n0 : Nat) (e : Env) (H : Heap) : enter cx 19 n0 1 e H = enterK [0] 0 n0 e H := rfl
@[simp] theorem en20_0 (n0 : Nat) (e : Env) (H : Heap) : enter cx 20 n0 0 e H = enterK [0, 1] 0 n0 e H := rfl
@[simp] theorem en20_1 (n0 : Nat) (e : Env) (H : Heap) : enter cx 20 n0 1 e H = enterK [0, 3, 4] 0 n0 e H := rfl
@[simp] theorem en20_2 (n0 : Nat) (e : Env) (H : Heap) : enter cx 20 n0 2 e H = enterK [0, 3, 4, 6] 0 n0 e H := rfl
@[simp] theorem en20_3 (n0 : Nat) (e : Env) (H : Heap) : enter cx 20 n0 3 e H = enterK [0, 3, 4, 6] 0 n0 e H := rfl
@[simp] theorem en20_4 (n0 : Nat) (e : Env) (H : Heap) : enter cx 20 n0 4 e H = enterK [0, 3, 4, 6] 0 n0 e H := rfl
@[simp] theorem en20_5 (n0 : Nat) (e : Env) (H : Heap) : enter cx 20 n0 5 e H = enterK [0, 4, 6] 0 n0 e H := rfl
@[simp] theorem en20_6 (n0 : Nat) (e : Env) (H : Heap) : enter cx 20 n0 6 e H = enterK [3, 4] 0 n0 e H := rfl
@[simp] theorem en21_0 (n0 : Nat) (e : Env) (H : Heap) : enter cx 21 n0 0 e H = enterK [0, 1] 0 n0 e H := rfl
@[simp] theorem en21_1 (n0 : Nat) (e : Env) (H : Heap) : enter cx 21 n0 1 e H = enterK [0, 3] 0 n0 e H := rfl
@[simp] theorem en21_2 (n0 : Nat) (e : Env) (H : Heap) : enter cx 21 n0 2 e H = enterK [0, 3, 6] 0 n0 e H := rfl
@[simp] theorem en21_3 (n0 : Nat) (e : Env) (H : Heap) : enter cx 21 n0 3 e H = enterK [6] 0 n0 e H := rfl
@[simp] theorem en21_4 (n0 : Nat) (e : Env) (H : Heap) : enter cx 21 n0 4 e H = enterK [0, 3] 0 n0 e H := rfl
@[simp] theorem en22_0 (n0 : Nat) (e : Env) (H : Heap) : enter cx 22 n0 0 e H = enterK [0, 1] 0 n0 e H := rfl
@[simp] theorem en22_1 (n0 : Nat) (e : Env) (H : Heap) : enter cx 22 n0 1 e H = enterK [0, 3] 0 n0 e H := rfl
@[simp] theorem en22_2 (n0 : Nat) (e : Env) (H : Heap) : enter cx 22 n0 2 e H = enterK [] 0 n0 e H := rfl
@[simp] theorem en22_3 (n0 : Nat) (e : Env) (H : Heap) : enter cx 22 n0 3 e H = enterK [0, 3] 0 n0 e H := rfl
@[simp] theorem en22_4 (n0 : Nat) (e : Env) (H : Heap) : enter cx 22 n0 4 e H = enterK [0, 3, 7] 0 n0 e H := rfl
@[simp] theorem en22_5 (n0 : Nat) (e : Env) (H : Heap) : enter cx 22 n0 5 e H = enterK [] 0 n0 e H := rfl
@[simp] theorem en22_6 (n0 : Nat) (e : Env) (H : Heap) : enter cx 22 n0 6 e H = enterK [0, 3] 0 n0 e H := rfl
@[simp] theorem en22_7 (n0 : Nat) (e : Env) (H : Heap) : enter cx 22 n0 7 e H = enterK [0, 3, 8] 0 n0 e H := rfl
@[simp] theorem en22_8 (n0 : Nat) (e : Env) (H : Heap) : enter cx 22 n0 8 e H = enterK [0, 3, 8, 9] 0 n0 e H := rfl
@[simp] theorem en22_9 (n0 : Nat) (e : Env) (H : Heap) : enter cx 22 n0 9 e H = enterK [0, 3, 8, 9, 10] 0 n0 e H := rfl
@[simp] theorem en22_10 (n0 : Nat) (e : Env) (H : Heap) : enter cx 22 n0 10 e H = enterK [0, 3, 8, 9, 10] 0 n0 e H := rfl
@[simp] theorem en22_11 (n0 : Nat) (e : Env) (H : Heap) : enter cx 22 n0 11 e H = enterK [0, 3, 8, 9, 10] 0 n0 e H := rfl
@[simp] theorem en22_12 (n0 : Nat) (e : Env) (H : Heap) : enter cx 22 n0 12 e H = enterK [0, 3, 8, 9, 10, 11] 0 n0 e H := rfl
@[simp] theorem en22_13 (n0 : Nat) (e : Env) (H : Heap) : enter cx 22 n0 13 e H = enterK [0, 3, 8, 10, 11] 0 n0 e H := rfl
@[simp] theorem en22_14 (n0 : Nat) (e : Env) (H : Heap) : enter cx 22 n0 14 e H = enterK [0, 3, 8, 9, 10, 11] 0 n0 e H := rfl
@[simp] theorem en22_15 (n0 : Nat) (e : Env) (H : Heap) : enter cx 22 n0 15 e H = enterK [0, 3, 8, 9, 10, 11] 0 n0 e H := rfl
@[simp] theorem en22_16 (n0 : Nat) (e : Env) (H : Heap) : enter cx 22 n0 16 e H = enterK [0, 3, 8, 9, 10] 0 n0 e H := rfl
@[simp] theorem en22_17 (n0 : Nat) (e : Env) (H : Heap) : enter cx 22 n0 17 e H = enterK [3, 8, 9] 0 n0 e H := rfl
@[simp] theorem en22_18 (n0 : Nat) (e : Env) (H : Heap) : enter cx 22 n0 18 e H = enterK [3, 8] 0 n0 e H := rfl
@[simp] theorem en22_19 (n0 : Nat) (e : Env) (H : Heap) : enter cx 22 n0 19 e H = enterK [8] 0 n0 e H := rfl
@[simp] theorem en23_0 (n0 : Nat) (e : Env) (H : Heap) : enter cx 23 n0 0 e H = enterK [0, 1, 2] 0 n0 e H := rfl
@[simp] theorem en23_1 (n0 : Nat) (e : Env) (H : Heap) : enter cx 23 n0 1 e H = enterK [0, 2, 4] 0 n0 e H := rfl
@[simp] theorem en23_2 (n0 : Nat) (e : Env) (H : Heap) : enter cx 23 n0 2 e H = enterK [0, 2, 4, 8] 0 n0 e H := rfl
@[simp] theorem en23_3 (n0 : Nat) (e : Env) (H : Heap) : enter cx 23 n0 3 e H = enterK [0, 2, 4, 8, 10] 0 n0 e H := rfl
@[simp] theorem en23_4 (n0 : Nat) (e : Env) (H : Heap) : enter cx 23 n0 4 e H = enterK [0, 4, 8, 10] 0 n0 e H := rfl
@[simp] theorem en23_5 (n0 : Nat) (e : Env) (H : Heap) : enter cx 23 n0 5 e H = enterK [0, 4, 8, 10] 0 n0 e H := rfl
@[simp] theorem en23_6 (n0 : Nat) (e : Env) (H : Heap) : enter cx 23 n0 6 e H = enterK [0, 2, 4, 8, 10] 0 n0 e H := rfl
@[simp] theorem en23_7 (n0 : Nat) (e : Env) (H : Heap) : enter cx 23 n0 7 e H = enterK [0, 2, 4, 8, 10] 0 n0 e H := rfl
@[simp] theorem en23_8 (n0 : Nat) (e : Env) (H : Heap) : enter cx 23 n0 8 e H = enterK [0, 4, 8, 10] 0 n0 e H := rfl
@[simp] theorem en23_9 (n0 : Nat) (e : Env) (H : Heap) : enter cx 23 n0 9 e H = enterK [0, 4, 8, 10] 0 n0 e H := rfl
@[simp] theorem en23_10 (n0 : Nat) (e : Env) (H : Heap) : enter cx 23 n0 10 e H = enterK [4, 10, 11, 12] 0 n0 e H := rfl
@[simp] theorem en23_11 (n0 : Nat) (e : Env) (H : Heap) : enter cx 23 n0 11 e H = enterK [12] 0 n0 e H := rfl
@[simp] theorem en23_12 (n0 : Nat) (e : Env) (H : Heap) : enter cx 23 n0 12 e H = enterK [4, 10, 11] 0 n0 e H := rfl
@[simp] theorem en23_13 (n0 : Nat) (e : Env) (H : Heap) : enter cx 23 n0 13 e H = enterK [] 0 n0 e H := rfl
@[simp] theorem en23_14 (n0 : Nat) (e : Env) (H : Heap) : enter cx 23 n0 14 e H = enterK [11] 0 n0 e H := rfl
@[simp] theorem en24_0 (n0 : Nat) (e : Env) (H : Heap) : enter cx 24 n0 0 e H = enterK [0, 1] 0 n0 e H := rfl
@[simp] theorem en24_1 (n0 : Nat) (e : Env) (H : Heap) : enter cx 24 n0 1 e H = enterK [0, 1] 0 n0 e H := rfl
@[simp] theorem en24_2 (n0 : Nat) (e : Env) (H : Heap) : enter cx 24 n0 2 e H = enterK [] 0 n0 e H := rfl
@[simp] theorem en24_3 (n0 : Nat) (e : Env) (H : Heap) : enter cx 24 n0 3 e H = enterK [0, 1] 0 n0 e H := rfl
@[simp] theorem en24_4 (n0 : Nat) (e : Env) (H : Heap) : enter cx 24 n0 4 e H = enterK [1, 6] 0 n0 e H := rfl
@[simp] theorem en24_5 (n0 : Nat) (e : Env) (H : Heap) : enter cx 24 n0 5 e H = enterK [1, 6, 7] 0 n0 e H := rfl
@[simp] theorem en24_6 (n0 : Nat) (e : Env) (H : Heap) : enter cx 24 n0 6 e H = enterK [1, 6, 7] 0 n0 e H := rfl
@[simp] theorem en24_7 (n0 : Nat) (e : Env) (H : Heap) : enter cx 24 n0 7 e H = enterK [1, 6, 7] 0 n0 e H := rfl
@[simp] theorem en24_8 (n0 : Nat) (e : Env) (H : Heap) : enter cx 24 n0 8 e H = enterK [1, 6, 7, 8, 9] 0 n0 e H := rfl
@[simp] theorem en24_9 (n0 : Nat) (e : Env) (H : Heap) : enter cx 24 n0 9 e H = enterK [1, 6, 7] 0 n0 e H := rfl
@[simp] theorem en24_10 (n0 : Nat) (e : Env) (H : Heap) : enter cx 24 n0 10 e H = enterK [1, 7, 10, 11] 0 n0 e H := rfl
@[simp] theorem en24_11 (n0 : Nat) (e : Env) (H : Heap) : enter cx 24 n0 11 e H = enterK [11] 0 n0 e H := rfl
@[simp] theorem en24_12 (n0 : Nat) (e : Env) (H : Heap) : enter cx 24 n0 12 e H = enterK [1, 7, 10] 0 n0 e H := rfl
@[simp] theorem en24_13 (n0 : Nat) (e : Env) (H : Heap) : enter cx 24 n0 13 e H = enterK [6] 0 n0 e H := rfl
@[simp] theorem en25_0 (n0 : Nat) (e : Env) (H : Heap) : enter cx 25 n0 0 e H = enterK [0] 0 n0 e H := rfl
@[simp] theorem en25_1 (n0 : Nat) (e : Env) (H : Heap) : enter cx 25 n0 1 e H = enterK [0] 0 n0 e H := rfl
@[simp] theorem en25_2 (n0 : Nat) (e : Env) (H : Heap) : enter cx 25 n0 2 e H = enterK [] 0 n0 e H := rfl
@[simp] theorem en25_3 (n0 : Nat) (e : Env) (H : Heap) : enter cx 25 n0 3 e H = enterK [0] 0 n0 e H := rfl
@[simp] theorem en25_4 (n0 : Nat) (e : Env) (H : Heap) : enter cx 25 n0 4 e H = enterK [] 0 n0 e H := rfl
@[simp] theorem en25_5 (n0 : Nat) (e : Env) (H : Heap) : enter cx 25 n0 5 e H = enterK [0] 0 n0 e H := rfl
@[simp] theorem en25_6 (n0 : Nat) (e : Env) (H : Heap) : enter cx 25 n0 6 e H = enterK [0, 5] 0 n0 e H := rfl
@[simp] theorem en25_7 (n0 : Nat) (e : Env) (H : Heap) : enter cx 25 n0 7 e H = enterK [0, 5, 6] 0 n0 e H := rfl
@[simp] theorem en25_8 (n0 : Nat) (e : Env) (H : Heap) : enter cx 25 n0 8 e H = enterK [0, 5, 6, 7] 0 n0 e H := rfl
@[simp] theorem en25_9 (n0 : Nat) (e : Env) (H : Heap) : enter cx 25 n0 9 e H = enterK [0, 5, 6, 7] 0 n0 e H := rfl
@[simp] theorem en25_10 (n0 : Nat) (e : Env) (H : Heap) : enter cx 25 n0 10 e H = enterK [0, 5, 6, 7] 0 n0 e H := rfl
@[simp] theorem en25_11 (n0 : Nat) (e : Env) (H : Heap) : enter cx 25 n0 11 e H = enterK [] 0 n0 e H := rfl
@[simp] theorem en25_12 (n0 : Nat) (e : Env) (H : Heap) : enter cx 25 n0 12 e H = enterK [0, 5, 6, 7] 0 n0 e H := rfl
@[simp] theorem en25_13 (n0 : Nat) (e : Env) (H : Heap) : enter cx 25 n0 13 e H = enterK [0, 5, 6, 7, 8] 0 n0 e H := rfl
@[simp] theorem en25_14 (n0 : Nat) (e : Env) (H : Heap) : enter cx 25 n0 14 e H = enterK [0, 5, 6, 7, 8, 9] 0 n0 e H := rfl
@[simp] theorem en25_15 (n0 : Nat) (e : Env) (H : Heap) : enter cx 25 n0 15 e H = enterK [0, 5, 6, 7, 8, 9] 0 n0 e H := rfl
@[simp] theorem en25_16 (n0 : Nat) (e : Env) (H : Heap) : enter cx 25 n0 16 e H = enterK [0, 5, 6, 7, 8, 9] 0 n0 e H := rfl
@[simp] theorem en25_17 (n0 : Nat) (e : Env) (H : Heap) : enter cx 25 n0 17 e H = enterK [0, 5, 6, 7, 8] 0 n0 e H := rfl
@[simp] theorem en25_18 (n0 : Nat) (e : Env) (H : Heap) : enter cx 25 n0 18 e H = enterK [] 0 n0 e H := rfl
@[simp] theorem en25_19 (n0 : Nat) (e : Env) (H : Heap) : enter cx 25 n0 19 e H = enterK [0, 5, 6, 7, 8] 0 n0 e H := rfl
@[simp] theorem en25_20 (n0 : Nat) (e : Env) (H : Heap) : enter cx 25 n0 20 e H = enterK [0, 5, 6, 7, 8] 0 n0 e H := rfl
@[simp] theorem en25_21 (n0 : Nat) (e : Env) (H : Heap) : enter cx 25 n0 21 e H = enterK [] 0 n0 e H := rfl
@[simp] theorem en25_22 (n0 : Nat) (e : Env) (H : Heap) : enter cx 25 n0 22 e H = enterK [0, 5, 6, 7, 8] 0 n0 e H := rfl
@[simp] theorem en25_23 (n0 : Nat) (e : Env) (H : Heap) : enter cx 25 n0 23 e H = enterK [0, 5, 6, 7, 8] 0 n0 e H := rfl
@[simp] theorem en25_24 (n0 : Nat) (e : Env) (H : Heap) : enter cx 25 n0 24 e H = enterK [0, 5, 6, 7, 8] 0 n0 e H := rfl
@[simp] theorem en25_25 (n0 : Nat) (e : Env) (H : Heap) : enter cx 25 n0 25 e H = enterK [0, 5, 6, 7, 8] 0 n0 e H := rfl
@[simp] theorem en25_26 (n0 : Nat) (e : Env) (H : Heap) : enter cx 25 n0 26 e H = enterK [0, 5, 6, 7, 8] 0 n0 e H := rfl
@[simp] theorem en25_27 (n0 : Nat) (e : Env) (H : Heap) : enter cx 25 n0 27 e H = enterK [5, 6] 0 n0 e H := rfl
@[simp] theorem en26_0 (n0 : Nat) (e : Env) (H : Heap) : enter cx 26 n0 0 e H = enterK [0, 1] 0 n0 e H := rfl
@[simp] theorem en26_1 (n0 : Nat) (e : Env) (H : Heap) : enter cx 26 n0 1 e H = enterK [0, 1] 0 n0 e H := rfl
@[simp] theorem en26_2 (n0 : Nat) (e : Env) (H : Heap) : enter cx 26 n0 2 e H = enterK [] 0 n0 e H := rfl
@[simp] theorem en26_3 (n0 : Nat) (e : Env) (H : Heap) : enter cx 26 n0 3 e H = enterK [0, 1] 0 n0 e H := rfl
@[simp] theorem en26_4 (n0 : Nat) (e : Env) (H : Heap) : enter cx 26 n0 4 e H = enterK [0, 1, 5] 0 n0 e H := rfl
@[simp] theorem en26_5 (n0 : Nat) (e : Env) (H : Heap) : enter cx 26 n0 5 e H = enterK [0, 1, 5] 0 n0 e H := rfl
@[simp] theorem en26_6 (n0 : Nat) (e : Env) (H : Heap) : enter cx 26 n0 6 e H = enterK [0, 1, 5] 0 n0 e H := rfl
@[simp] theorem en26_7 (n0 : Nat) (e : Env) (H : Heap) : enter cx 26 n0 7 e H = enterK [] 0 n0 e H := rfl
@[simp] theorem en26_8 (n0 : Nat) (e : Env) (H : Heap) : enter cx 26 n0 8 e H = enterK [] 0 n0 e H := rfl
@[simp] theorem en27_0 (n0 : Nat) (e : Env) (H : Heap) : enter cx 27 n0 0 e H = enterK [0] 0 n0 e H := rfl
@[simp] theorem en27_1 (n0 : Nat) (e : Env) (H : Heap) : enter cx 27 n0 1 e H = enterK [0] 0 n0 e H := rfl
@[simp] theorem en27_2 (n0 : Nat) (e : Env) (H : Heap) : enter cx 27 n0 2 e H = enterK [0, 3] 0 n0 e H := rfl
@[simp] theorem en27_3 (n0 : Nat) (e : Env) (H : Heap) : enter cx 27 n0 3 e H = enterK [0, 3] 0 n0 e H := rfl
@[simp] theorem en27_4 (n0 : Nat) (e : Env) (H : Heap) : enter cx 27 n0 4 e H = enterK [0, 3] 0 n0 e H := rfl
@[simp] theorem en27_5 (n0 : Nat) (e : Env) (H : Heap) : enter cx 27 n0 5 e H = enterK [] 0 n0 e H := rfl
@[simp] theorem en27_6 (n0 : Nat) (e : Env) (H : Heap) : enter cx 27 n0 6 e H = enterK [0] 0 n0 e H := rfl
@[simp] theorem en28_0 (n0 : Nat) (e : Env) (H : Heap) : enter cx 28 n0 0 e H = enterK [0, 1] 0 n0 e H := rfl
@[simp] theorem en28_1 (n0 : Nat) (e : Env) (H : Heap) : enter cx 28 n0 1 e H = enterK [0, 1] 0 n0 e H := rfl
@[simp] theorem en28_2 (n0 : Nat) (e : Env) (H : Heap) : enter cx 28 n0 2 e H = enterK [0, 1, 5] 0 n0 e H := rfl
@[simp] theorem en28_3 (n0 : Nat) (e : Env) (H : Heap) : enter cx 28 n0 3 e H = enterK [0, 1, 5] 0 n0 e H := rfl
@[simp] theorem en28_4 (n0 : Nat) (e : Env) (H : Heap) : enter cx 28 n0 4 e H = enterK [0, 1, 5] 0 n0 e H := rfl
@[simp] theorem en28_5 (n0 : Nat) (e : Env) (H : Heap) : enter cx 28 n0 5 e H = enterK [0, 1, 5, 6] 0 n0 e H := rfl
@[simp] theorem en28_6 (n0 : Nat) (e : Env) (H : Heap) : enter cx 28 n0 6 e H = enterK [] 0 n0 e H := rfl
@[simp] theorem en28_7 (n0 : Nat) (e : Env) (H : Heap) : enter cx 28 n0 7 e H = enterK [] 0 n0 e H := rfl
@[simp] theorem en29_0 (n0 : Nat) (e : Env) (H : Heap) : enter cx 29 n0 0 e H = enterK [0, 1] 0 n0 e H := rfl
@[simp] theorem en29_1 (n0 : Nat) (e : Env) (H : Heap) : enter cx 29 n0 1 e H = enterK [0, 1] 0 n0 e H := rfl
@[simp] theorem en30_0 (n0 : Nat) (e : Env) (H : Heap) : enter cx 30 n0 0 e H = enterK [0] 0 n0 e H := rfl
@[simp] theorem en30_1 (n0 : Nat) (e : Env) (H : Heap) : enter cx 30 n0 1 e H = enterK [0] 0 n0 e H := rfl
@[simp] theorem en30_2 (n0 : Nat) (e : Env) (H : Heap) : enter cx 30 n0 2 e H = enterK [] 0 n0 e H := rfl
@[simp] theorem en30_3 (n0 : Nat) (e : Env) (H : Heap) : enter cx 30 n0 3 e H = enterK [0] 0 n0 e H := rfl
@[simp] theorem en30_4 (n0 : Nat) (e : Env) (H : Heap) : enter cx 30 n0 4 e H = enterK [0, 3] 0 n0 e H := rfl
@[simp] theorem en30_5 (n0 : Nat) (e : Env) (H : Heap) : enter cx 30 n0 5 e H = enterK [0, 3, 4] 0 n0 e H := rfl
@[simp] theorem en30_6 (n0 : Nat) (e : Env) (H : Heap) : enter cx 30 n0 6 e H = enterK [0, 3, 4] 0 n0 e H := rfl
@[simp] theorem en30_7 (n0 : Nat) (e : Env) (H : Heap) : enter cx 30 n0 7 e H = enterK [0, 3, 4] 0 n0 e H := rfl
@[simp] theorem en30_8 (n0 : Nat) (e : Env) (H : Heap) : enter cx 30 n0 8 e H = enterK [0, 3, 4] 0 n0 e H := rfl
@[simp] theorem en30_9 (n0 : Nat) (e : Env) (H : Heap) : enter cx 30 n0 9 e H = enterK [3] 0 n0 e H := rfl
@[simp] theorem en31_0 (n0 : Nat) (e : Env) (H : Heap) : enter cx 31 n0 0 e H = enterK [0, 1] 0 n0 e H := rfl
@[simp] theorem en31_1 (n0 : Nat) (e : Env) (H : Heap) : enter cx 31 n0 1 e H = enterK [0, 3] 0 n0 e H := rfl
@[simp] theorem en31_2 (n0 : Nat) (e : Env) (H : Heap) : enter cx 31 n0 2 e H = enterK [] 0 n0 e H := rfl
@[simp] theorem en31_3 (n0 : Nat) (e : Env) (H : Heap) : enter cx 31 n0 3 e H = enterK [0, 3] 0 n0 e H := rfl
@[simp] theorem en31_4 (n0 : Nat) (e : Env) (H : Heap) : enter cx 31 n0 4 e H = enterK [] 0 n0 e H := rfl
@[simp] theorem en31_5 (n0 : Nat) (e : Env) (H : Heap) : enter cx 31 n0 5 e H = enterK [] 0 n0 e H := rfl
@[simp] theorem en32_0 (n0 : Nat) (e : Env) (H : Heap) : enter cx 32 n0 0 e H = enterK [0, 1] 0 n0 e H := rfl
@[simp] theorem en32_1 (n0 : Nat) (e : Env) (H : Heap) : enter cx 32 n0 1 e H = enterK [0, 1] 0 n0 e H := rfl
@[simp] theorem en32_2 (n0 : Nat) (e : Env) (H : Heap) : enter cx 32 n0 2 e H = enterK [] 0 n0 e H := rfl
@[simp] theorem en32_3 (n0 : Nat) (e : Env) (H : Heap) : enter cx 32 n0 3 e H = enterK [0, 1] 0 n0 e H := rfl
@[simp] theorem en33_0 (n0 : Nat) (e : Env) (H : Heap) : enter cx 33 n0 0 e H = enterK [0, 1] 0 n0 e H := rfl
@[simp] theorem en33_1 (n0 : Nat) (e : Env) (H : Heap) : enter cx 33 n0 1 e H = enterK [0, 3] 0 n0 e H := rfl
@[simp] theorem en33_2 (n0 : Nat) (e : Env) (H : Heap) : enter cx 33 n0 2 e H = enterK [3, 5] 0 n0 e H := rfl
@[simp] theorem en33_3 (n0 : Nat) (e : Env) (H : Heap) : enter cx 33 n0 3 e H = enterK [3, 5, 6] 0 n0 e H := rfl
@[simp] theorem en33_4 (n0 : Nat) (e : Env) (H : Heap) : enter cx 33 n0 4 e H = enterK [3, 5, 6] 0 n0 e H := rfl
@[simp] theorem en33_5 (n0 : Nat) (e : Env) (H : Heap) : enter cx 33 n0 5 e H = enterK [5] 0 n0 e H := rfl
@[simp] theorem en33_6 (n0 : Nat) (e : Env) (H : Heap) : enter cx 33 n0 6 e H = enterK [3, 5] 0 n0 e H := rfl
@[simp] theorem en33_7 (n0 : Nat) (e : Env) (H : Heap) : enter cx 33 n0 7 e H = enterK [5] 0 n0 e H := rfl
@[simp] theorem en33_8 (n0 : Nat) (e : Env) (H : Heap) : enter cx 33 n0 8 e H = enterK [5] 0 n0 e H := rfl
@[simp] theorem en34_0 (n0 : Nat) (e : Env) (H : Heap) : enter cx 34 n0 0 e H = enterK [0, 1] 0 n0 e H := rfl
@[simp] theorem en34_1 (n0 : Nat) (e : Env) (H : Heap) : enter cx 34 n0 1 e H = enterK [0, 3] 0 n0 e H := rfl
@[simp] theorem en35_0 (n0 : Nat) (e : Env) (H : Heap) : enter cx 35 n0 0 e H = enterK [0, 1] 0 n0 e H := rfl
@[simp] theorem en35_1 (n0 : Nat) (e : Env) (H : Heap) : enter cx 35 n0 1 e H = enterK [0, 1] 0 n0 e H := rfl
@[simp] theorem en35_2 (n0 : Nat) (e : Env) (H : Heap) : enter cx 35 n0 2 e H = enterK [] 0 n0 e H := rfl
@[simp] theorem en35_3 (n0 : Nat) (e : Env) (H : Heap) : enter cx 35 n0 3 e H = enterK [0, 1] 0 n0 e H := rfl
@[simp] theorem en35_4 (n0 : Nat) (e : Env) (H : Heap) : enter cx 35 n0 4 e H = enterK [0, 1] 0 n0 e H := rfl
@[simp] theorem en36_0 (n0 : Nat) (e : Env) (H : Heap) : enter cx 36 n0 0 e H = enterK [0] 0 n0 e H := rfl
@[simp] theorem en36_1 (n0 : Nat) (e : Env) (H : Heap) : enter cx 36 n0 1 e H = enterK [0] 0 n0 e H := rfl
@[simp] theorem en36_2 (n0 : Nat) (e : Env) (H : Heap) : enter cx 36 n0 2 e H = enterK [] 0 n0 e H := rfl
@[simp] theorem en36_3 (n0 : Nat) (e : Env) (H : Heap) : enter cx 36 n0 3 e H = enterK [0] 0 n0 e H := rfl
@[simp] theorem en37_0 (n0 : Nat) (e : Env) (H : Heap) : enter cx 37 n0 0 e H = enterK [0, 1] 0 n0 e H := rfl
@[simp] theorem en37_1 (n0 : Nat) (e : Env) (H : Heap) : enter cx 37 n0 1 e H = enterK [0, 1] 0 n0 e H := rfl
@[simp] theorem en38_0 (n0 : Nat) (e : Env) (H : Heap) : enter cx 38 n0 0 e H = enterK [0, 1] 0 n0 e H := rfl
@[simp] theorem en38_1 (n0 : Nat) (e : Env) (H : Heap) : enter cx 38 n0 1 e H = enterK [0, 1] 0 n0 e H := rfl
@[simp] theorem en38_2 (n0 : Nat) (e : Env) (H : Heap) : enter cx 38 n0 2 e H = enterK [] 0 n0 e H := rfl
@[simp] theorem en38_3 (n0 : Nat) (e : Env) (H : Heap) : enter cx 38 n0 3 e H = enterK [0, 1] 0 n0 e H := rfl
@[simp] theorem en38_4 (n0 : Nat) (e : Env) (H : Heap) : enter cx 38 n0 4 e H = enterK [0, 1, 12, 13] 0 n0 e H := rfl
@[simp] theorem en38_5 (n0 : Nat) (e : Env) (H : Heap) : enter cx 38 n0 5 e H = enterK [0, 1, 12, 13] 0 n0 e H := rfl
@[simp] theorem en38_6 (n0 : Nat) (e : Env) (H : Heap) : enter cx 38 n0 6 e H = enterK [0, 1, 5, 12, 13] 0 n0 e H := rfl
@[simp] theorem en38_7 (n0 : Nat) (e : Env) (H : Heap) : enter cx 38 n0 7 e H = enterK [] 0 n0 e H := rfl
@[simp] theorem en38_8 (n0 : Nat) (e : Env) (H : Heap) : enter cx 38 n0 8 e H = enterK [0, 1, 12, 13] 0 n0 e H := rfl
@[simp] theorem en38_9 (n0 : Nat) (e : Env) (H : Heap) : enter cx 38 n0 9 e H = enterK [] 0 n0 e H := rfl
@[simp] theorem en39_0 (n0 : Nat) (e : Env) (H : Heap) : enter cx 39 n0 0 e H = enterK [0, 1, 2] 0 n0 e H := rfl
@[simp] theorem en39_1 (n0 : Nat) (e : Env) (H : Heap) : enter cx 39 n0 1 e H = enterK [0, 1, 2] 0 n0 e H := rfl
@[simp] theorem en39_2 (n0 : Nat) (e : Env) (H : Heap) : enter cx 39 n0 2 e H = enterK [1, 2, 7] 0 n0 e H := rfl
@[simp] theorem en39_3 (n0 : Nat) (e : Env) (H : Heap) : enter cx 39 n0 3 e H = enterK [7] 0 n0 e H := rfl
@[simp] theorem en39_4 (n0 : Nat) (e : Env) (H : Heap) : enter cx 39 n0 4 e H = enterK [1, 2, 7] 0 n0 e H := rfl
@[simp] theorem en39_5 (n0 : Nat) (e : Env) (H : Heap) : enter cx 39 n0 5 e H = enterK [2, 7, 15, 16] 0 n0 e H := rfl
@[simp] theorem en39_6 (n0 : Nat) (e : Env) (H : Heap) : enter cx 39 n0 6 e H = enterK [2, 7, 15, 16] 0 n0 e H := rfl
@[simp] theorem en39_7 (n0 : Nat) (e : Env) (H : Heap) : enter cx 39 n0 7 e H = enterK [2, 7, 8, 15, 16] 0 n0 e H := rfl
@[simp] theorem en39_8 (n0 : Nat) (e : Env) (H : Heap) : enter cx 39 n0 8 e H = enterK [2, 7, 15, 16] 0 n0 e H := rfl
@[simp] theorem en39_9 (n0 : Nat) (e : Env) (H : Heap) : enter cx 39 n0 9 e H = enterK [7] 0 n0 e H := rfl
@[simp] theorem en40_0 (n0 : Nat) (e : Env) (H : Heap) : enter cx 40 n0 0 e H = enterK [0, 1, 2] 0 n0 e H := rfl
@[simp] theorem en40_1 (n0 : Nat) (e : Env) (H : Heap) : enter cx 40 n0 1 e H = enterK [0, 1, 2] 0 n0 e H := rfl
@[simp] theorem en40_2 (n0 : Nat) (e : Env) (H : Heap) : enter cx 40 n0 2 e H = enterK [] 0 n0 e H := rfl
@[simp] theorem en40_3 (n0 : Nat) (e : Env) (H : Heap) : enter cx 40 n0 3 e H = enterK [0, 1, 2] 0 n0 e H := rfl
@[simp] theorem en40_4 (n0 : Nat) (e : Env) (H : Heap) : enter cx 40 n0 4 e H = enterK [0, 1, 2, 8] 0 n0 e H := rfl
@[simp] theorem en40_5 (n0 : Nat) (e : Env) (H : Heap) : enter cx 40 n0 5 e H = enterK [0, 1, 8, 9] 0 n0 e H := rfl
@[simp] theorem en40_6 (n0 : Nat) (e : Env) (H : Heap) : enter cx 40 n0 6 e H = enterK [0, 1, 8, 9] 0 n0 e H := rfl
@[simp] theorem en40_7 (n0 : Nat) (e : Env) (H : Heap) : enter cx 40 n0 7 e H = enterK [0, 1, 8, 9] 0 n0 e H := rfl
@[simp] theorem en40_8 (n0 : Nat) (e : Env) (H : Heap) : enter cx 40 n0 8 e H = enterK [8] 0 n0 e H := rfl
@[simp] theorem en41_0 (n0 : Nat) (e : Env) (H : Heap) : enter cx 41 n0 0 e H = enterK [0, 1] 0 n0 e H := rfl
@[simp] theorem en41_1 (n0 : Nat) (e : Env) (H : Heap) : enter cx 41 n0 1 e H = enterK [2, 3] 0 n0 e H := rfl
@[simp] theorem en41_2 (n0 : Nat) (e : Env) (H : Heap) : enter cx 41 n0 2 e H = enterK [2, 3, 5] 0 n0 e H := rfl
@[simp] theorem en41_3 (n0 : Nat) (e : Env) (H : Heap) : enter cx 41 n0 3 e H = enterK [2, 3, 5] 0 n0 e H := rfl
@[simp] theorem en41_4 (n0 : Nat) (e : Env) (H : Heap) : enter cx 41 n0 4 e H = enterK [2, 3, 5] 0 n0 e H := rfl
@[simp] theorem en41_5 (n0 : Nat) (e : Env) (H : Heap) : enter cx 41 n0 5 e H = enterK [2, 3, 5] 0 n0 e H := rfl
@[simp] theorem en41_6 (n0 : Nat) (e : Env) (H : Heap) : enter cx 41 n0 6 e H = enterK [] 0 n0 e H := rfl
@[simp] theorem en42_0 (n0 : Nat) (e : Env) (H : Heap) : enter cx 42 n0 0 e H = enterK [0, 1] 0 n0 e H := rfl
@[simp] theorem en42_1 (n0 : Nat) (e : Env) (H : Heap) : enter cx 42 n0 1 e H = enterK [0, 1] 0 n0 e H := rfl
@[simp] theorem en42_2 (n0 : Nat) (e : Env) (H : Heap) : enter cx 42 n0 2 e H = enterK [] 0 n0 e H := rfl
@[simp] theorem en42_3 (n0 : Nat) (e : Env) (H : Heap) : enter cx 42 n0 3 e H = enterK [0, 1] 0 n0 e H := rfl
@[simp] theorem en43_0 (n0 : Nat) (e : Env) (H : Heap) : enter cx 43 n0 0 e H = enterK [0, 1, 2] 0 n0 e H := rfl
@[simp] theorem en43_1 (n0 : Nat) (e : Env) (H : Heap) : enter cx 43 n0 1 e H = enterK [0, 1, 2] 0 n0 e H := rfl
@[simp] theorem en43_2 (n0 : Nat) (e : Env) (H : Heap) : enter cx 43 n0 2 e H = enterK [] 0 n0 e H := rfl
@[simp] theorem en43_3 (n0 : Nat) (e : Env) (H : Heap) : enter cx 43 n0 3 e H = enterK [0, 1, 2] 0 n0 e H := rfl
@[simp] theorem en43_4 (n0 : Nat) (e : Env) (H : Heap) : enter cx 43 n0 4 e H = enterK [0, 1, 2, 8] 0 n0 e H := rfl
@[simp] theorem en43_5 (n0 : Nat) (e : Env) (H : Heap) : enter cx 43 n0 5 e H = enterK [0, 1, 8, 9] 0 n0 e H := rfl
@[simp] theorem en43_6 (n0 : Nat) (e : Env) (H : Heap) : enter cx 43 n0 6 e H = enterK [0, 1, 8, 9] 0 n0 e H := rfl
@[simp] theorem en43_7 (n0 : Nat) (e : Env) (H : Heap) : enter cx 43 n0 7 e H = enterK [0, 1, 8, 9] 0 n0 e H := rfl
@[simp] theorem en43_8 (n0 : Nat) (e : Env) (H : Heap) : enter cx 43 n0 8 e H = enterK [8] 0 n0 e H := rfl
@[simp] theorem en44_0 (n0 : Nat) (e : Env) (H : Heap) : enter cx 44 n0 0 e H = enterK [0] 0 n0 e H := rfl
@[simp] theorem en44_1 (n0 : Nat) (e : Env) (H : Heap) : enter cx 44 n0 1 e H = enterK [0] 0 n0 e H := rfl
@[simp] theorem en44_2 (n0 : Nat) (e : Env) (H : Heap) : enter cx 44 n0 2 e H = enterK [0, 3] 0 n0 e H := rfl
@[simp] theorem en44_3 (n0 : Nat) (e : Env) (H : Heap) : enter cx 44 n0 3 e H = enterK [0, 3, 4] 0 n0 e H := rfl
@[simp] theorem en44_4 (n0 : Nat) (e : Env) (H : Heap) : enter cx 44 n0 4 e H = enterK [0, 3, 4] 0 n0 e H := rfl
@[simp] theorem en44_5 (n0 : Nat) (e : Env) (H : Heap) : enter cx 44 n0 5 e H = enterK [0, 3, 4] 0 n0 e H := rfl
@[simp] theorem en44_6 (n0 : Nat) (e : Env) (H : Heap) : enter cx 44 n0 6 e H = enterK [3] 0 n0 e H := rfl
@[simp] theorem en45_0 (n0 : Nat) (e : Env) (H : Heap) : enter cx 45 n0 0 e H = enterK [0, 1] 0 n0 e H := rfl
@[simp] theorem en45_1 (n0 : Nat) (e : Env) (H : Heap) : enter cx 45 n0 1 e H = enterK [0, 1, 4] 0 n0 e H := rfl
@[simp] theorem en46_0 (n0 : Nat) (e : Env) (H : Heap) : enter cx 46 n0 0 e H = enterK [0, 1] 0 n0 e H := rfl
@[simp] theorem en46_1 (n0 : Nat) (e : Env) (H : Heap) : enter cx 46 n0 1 e H = enterK [2, 3] 0 n0 e H := rfl
@[simp] theorem en47_0 (n0 : Nat) (e : Env) (H : Heap) : enter cx 47 n0 0 e H = enterK [0, 1] 0 n0 e H := rfl
@[simp] theorem en47_1 (n0 : Nat) (e : Env) (H : Heap) : enter cx 47 n0 1 e H = enterK [0, 1] 0 n0 e H := rfl
@[simp] theorem en47_2 (n0 : Nat) (e : Env) (H : Heap) : enter cx 47 n0 2 e H = enterK [0, 1, 7, 8] 0 n0 e H := rfl
@[simp] theorem en47_3 (n0 : Nat) (e : Env) (H : Heap) : enter cx 47 n0 3 e H = enterK [0, 1, 7, 8] 0 n0 e H := rfl
@[simp] theorem en47_4 (n0 : Nat) (e : Env) (H : Heap) : enter cx 47 n0 4 e H = enterK [0, 1, 5, 7, 8] 0 n0 e H := rfl
@[simp] theorem en47_5 (n0 : Nat) (e : Env) (H : Heap) : enter cx 47 n0 5 e H = enterK [5] 0 n0 e H := rfl
@[simp] theorem en47_6 (n0 : Nat) (e : Env) (H : Heap) : enter cx 47 n0 6 e H = enterK [0, 1, 7, 8] 0 n0 e H := rfl
@[simp] theorem en47_7 (n0 : Nat) (e : Env) (H : Heap) : enter cx 47 n0 7 e H = enterK [] 0 n0 e H := rfl
@[simp] theorem en48_0 (n0 : Nat) (e : Env) (H : Heap) : enter cx 48 n0 0 e H = enterK [0, 1] 0 n0 e H := rfl
@[simp] theorem en48_1 (n0 : Nat) (e : Env) (H : Heap) : enter cx 48 n0 1 e H = enterK [1, 2] 0 n0 e H := rfl
@[simp] theorem en50_0 (n0 : Nat) (e : Env) (H : Heap) : enter cx 50 n0 0 e H = enterK [0] 0 n0 e H := rfl
@[simp] theorem en50_1 (n0 : Nat) (e : Env) (H : Heap) : enter cx 50 n0 1 e H = enterK [0] 0 n0 e H := rfl
@[simp] theorem en50_2 (n0 : Nat) (e : Env) (H : Heap) : enter cx 50 n0 2 e H = enterK [] 0 n0 e H := rfl
@[simp] theorem en50_3 (n0 : Nat) (e : Env) (H : Heap) : enter cx 50 n0 3 e H = enterK [0] 0 n0 e H := rfl
@[simp] theorem en51_0 (n0 : Nat) (e : Env) (H : Heap) : enter cx 51 n0 0 e H = enterK [0] 0 n0 e H := rfl
@[simp] theorem en51_1 (n0 : Nat) (e : Env) (H : Heap) : enter cx 51 n0 1 e H = enterK [0] 0 n0 e H := rfl
@[simp] theorem en52_0 (n0 : Nat) (e : Env) (H : Heap) : enter cx 52 n0 0 e H = enterK [0, 1] 0 n0 e H := rfl
@[simp] theorem en52_1 (n0 : Nat) (e : Env) (H : Heap) : enter cx 52 n0 1 e H = enterK [0, 1] 0 n0 e H := rfl
@[simp] theorem en52_2 (n0 : Nat) (e : Env) (H : Heap) : enter cx 52 n0 2 e H = enterK [] 0 n0 e H := rfl
@[simp] theorem en52_3 (n0 : Nat) (e : Env) (H : Heap) : enter cx 52 n0 3 e H = enterK [0, 1] 0 n0 e H := rfl
@[simp] theorem en52_4 (n0 : Nat) (e : Env) (H : Heap) : enter cx 52 n0 4 e H = enterK [] 0 n0 e H := rfl
@[simp] theorem en52_5 (n0 : Nat) (e : Env) (H : Heap) : enter cx 52 n0 5 e H = enterK [] 0 n0 e H := rfl
@[simp] theorem en53_0 (n0 : Nat) (e : Env) (H : Heap) : enter cx 53 n0 0 e H = enterK [0, 1] 0 n0 e H := rfl
@[simp] theorem en53_1 (n0 : Nat) (e : Env) (H : Heap) : enter cx 53 n0 1 e H = enterK [0, 1] 0 n0 e H := rfl
@[simp] theorem en53_2 (n0 : Nat) (e : Env) (H : Heap) : enter cx 53 n0 2 e H = enterK [0, 1, 5] 0 n0 e H := rfl
@[simp] theorem en53_3 (n0 : Nat) (e : Env) (H : Heap) : enter cx 53 n0 3 e H = enterK [0, 1, 5, 6] 0 n0 e H := rfl
@[simp] theorem en53_4 (n0 : Nat) (e : Env) (H : Heap) : enter cx 53 n0 4 e H = enterK [0, 1, 5, 6] 0 n0 e H := rfl
@[simp] theorem en53_5 (n0 : Nat) (e : Env) (H : Heap) : enter cx 53 n0 5 e H = enterK [0, 1, 5, 6] 0 n0 e H := rfl
@[simp] theorem en53_6 (n0 : Nat) (e : Env) (H : Heap) : enter cx 53 n0 6 e H = enterK [0, 1, 5, 6] 0 n0 e H := rfl
@[simp] theorem en53_7 (n0 : Nat) (e : Env) (H : Heap) : enter cx 53 n0 7 e H = enterK [5] 0 n0 e H := rfl
@[simp] theorem en54_0 (n0 : Nat) (e : Env) (H : Heap) : enter cx 54 n0 0 e H = enterK [0, 1, 2, 3, 4] 0 n0 e H := rfl
@[simp] theorem en54_1 (n0 : Nat) (e : Env) (H : Heap) : enter cx 54 n0 1 e H = enterK [0, 1, 2, 3, 4, 10] 0 n0 e H := rfl
@[simp] theorem en54_2 (n0 : Nat) (e : Env) (H : Heap) : enter cx 54 n0 2 e H = enterK [0, 1, 2, 3, 4, 10, 11] 0 n0 e H := rfl
@[simp] theorem en54_3 (n0 : Nat) (e : Env) (H : Heap) : enter cx 54 n0 3 e H = enterK [0, 1, 2, 3, 4, 10, 11, 12] 0 n0 e H := rfl
@[simp] theorem en54_4 (n0 : Nat) (e : Env) (H : Heap) : enter cx 54 n0 4 e H = enterK [0, 1, 2, 4] 0 n0 e H := rfl
@[simp] theorem en54_5 (n0 : Nat) (e : Env) (H : Heap) : enter cx 54 n0 5 e H = enterK [0, 1, 2, 3, 4, 10, 11, 12] 0 n0 e H := rfl
@[simp] theorem en54_6 (n0 : Nat) (e : Env) (H : Heap) : enter cx 54 n0 6 e H = enterK [0, 1, 2, 4] 0 n0 e H := rfl
@[simp] theorem en54_7 (n0 : Nat) (e : Env) (H : Heap) : enter cx 54 n0 7 e H = enterK [0, 1, 2, 3, 4, 10, 11, 12] 0 n0 e H := rfl
@[simp] theorem en54_8 (n0 : Nat) (e : Env) (H : Heap) : enter cx 54 n0 8 e H = enterK [0, 1, 2, 3, 4, 10, 11, 12] 0 n0 e H := rfl
@[simp] theorem en54_9 (n0 : Nat) (e : Env) (H : Heap) : enter cx 54 n0 9 e H = enterK [0, 1, 2, 3, 4, 10, 11, 12] 0 n0 e H := rfl
@[simp] theorem en54_10 (n0 : Nat) (e : Env) (H : Heap) : enter cx 54 n0 10 e H = enterK [0, 1, 2, 3, 4, 10, 11, 12] 0 n0 e H := rfl
@[simp] theorem en54_11 (n0 : Nat) (e : Env) (H : Heap) : enter cx 54 n0 11 e H = enterK [0, 1, 2, 3, 4, 10, 11, 12, 13, 14] 0 n0 e H := rfl
@[simp] theorem en54_12 (n0 : Nat) (e : Env) (H : Heap) : enter cx 54 n0 12 e H = enterK [0, 1, 2, 3, 4, 10, 11, 12, 13] 0 n0 e H := rfl
@[simp] theorem en54_13 (n0 : Nat) (e : Env) (H : Heap) : enter cx 54 n0 13 e H = enterK [0, 1, 2, 3, 4, 10, 11, 12, 13] 0 n0 e H := rfl
@[simp] theorem en54_14 (n0 : Nat) (e : Env) (H : Heap) : enter cx 54 n0 14 e H = enterK [0, 1, 2, 3, 4, 10, 11, 12, 13] 0 n0 e H := rfl
@[simp] theorem en54_15 (n0 : Nat) (e : Env) (H : Heap) : enter cx 54 n0 15 e H = enterK [0, 1, 2, 3, 4, 10, 11, 12, 13, 14] 0 n0 e H := rfl
@[simp] theorem en54_16 (n0 : Nat) (e : Env) (H : Heap) : enter cx 54 n0 16 e H = enterK [0, 1, 2, 3, 4, 10, 11, 12, 13] 0 n0 e H := rfl
@[simp] theorem en54_17 (n0 : Nat) (e : Env) (H : Heap) : enter cx 54 n0 17 e H = enterK [0, 1, 2, 3, 4, 10, 11, 12, 13] 0 n0 e H := rfl
@[simp] theorem en54_18 (n0 : Nat) (e : Env) (H : Heap) : enter cx 54 n0 18 e H = enterK [0, 1, 2, 3, 4, 10, 11, 13] 0 n0 e H := rfl
@[simp] theorem en54_19 (n0 : Nat) (e : Env) (H : Heap) : enter cx 54 n0 19 e H = enterK [0, 2, 3, 4, 10, 11, 15] 0 n0 e H := rfl
@[simp] theorem en54_20 (n0 : Nat) (e : Env) (H : Heap) : enter cx 54 n0 20 e H = enterK [0, 1, 2, 3, 4, 12, 13] 0 n0 e H := rfl
@[simp] theorem en54_21 (n0 : Nat) (e : Env) (H : Heap) : enter cx 54 n0 21 e H = enterK [0, 1, 2, 3, 4, 12, 16, 17] 0 n0 e H := rfl
@[simp] theorem en54_22 (n0 : Nat) (e : Env) (H : Heap) : enter cx 54 n0 22 e H = enterK [0, 1, 2, 3, 4, 11, 12, 16] 0 n0 e H := rfl
@[simp] theorem en54_23 (n0 : Nat) (e : Env) (H : Heap) : enter cx 54 n0 23 e H = enterK [0, 1, 2, 3, 4, 11, 12, 16, 18, 19] 0 n0 e H := rfl
@[simp] theorem en54_24 (n0 : Nat) (e : Env) (H : Heap) : enter cx 54 n0 24 e H = enterK [0, 1, 2, 3, 4, 11, 16, 18, 19, 20] 0 n0 e H := rfl
@[simp] theorem en54_25 (n0 : Nat) (e : Env) (H : Heap) : enter cx 54 n0 25 e H = enterK [0, 1, 2, 3, 4, 11, 16, 18, 20] 0 n0 e H := rfl
@[simp] theorem en54_26 (n0 : Nat) (e : Env) (H : Heap) : enter cx 54 n0 26 e H = enterK [0, 1, 2, 3, 4, 10, 11, 16] 0 n0 e H := rfl
@[simp] theorem en54_27 (n0 : Nat) (e : Env) (H : Heap) : enter cx 54 n0 27 e H = enterK [0, 2, 3, 4, 10, 11, 16] 0 n0 e H := rfl
@[simp] theorem en54_28 (n0 : Nat) (e : Env) (H : Heap) : enter cx 54 n0 28 e H = enterK [0, 1, 2, 3, 4, 11, 16, 19, 20] 0 n0 e H := rfl
@[simp] theorem en54_29 (n0 : Nat) (e : Env) (H : Heap) : enter cx 54 n0 29 e H = enterK [0, 1, 2, 3, 4, 10, 11, 16] 0 n0 e H := rfl
@[simp] theorem en54_30 (n0 : Nat) (e : Env) (H : Heap) : enter cx 54 n0 30 e H = enterK [0, 1, 3, 4, 10, 11, 16] 0 n0 e H := rfl
@[simp] theorem en55_0 (n0 : Nat) (e : Env) (H : Heap) : enter cx 55 n0 0 e H = enterK [0] 0 n0 e H := rfl
@[simp] theorem en55_1 (n0 : Nat) (e : Env) (H : Heap) : enter cx 55 n0 1 e H = enterK [0] 0 n0 e H := rfl
@[simp] theorem en55_2 (n0 : Nat) (e : Env) (H : Heap) : enter cx 55 n0 2 e H = enterK [0] 0 n0 e H := rfl
@[simp] theorem en56_0 (n0 : Nat) (e : Env) (H : Heap) : enter cx 56 n0 0 e H = enterK [0, 1, 2, 3] 0 n0 e H := rfl
@[simp] theorem en56_1 (n0 : Nat) (e : Env) (H : Heap) : enter cx 56 n0 1 e H = enterK [0, 1, 2, 3, 8] 0 n0 e H := rfl
@[simp] theorem en56_2 (n0 : Nat) (e : Env) (H : Heap) : enter cx 56 n0 2 e H = enterK [0, 1, 2, 3, 8] 0 n0 e H := rfl
@[simp] theorem en56_3 (n0 : Nat) (e : Env) (H : Heap) : enter cx 56 n0 3 e H = enterK [0, 1, 2, 3, 8] 0 n0 e H := rfl
@[simp] theorem en56_4 (n0 : Nat) (e : Env) (H : Heap) : enter cx 56 n0 4 e H = enterK [0, 1, 2, 3, 8, 9] 0 n0 e H := rfl
@[simp] theorem en56_5 (n0 : Nat) (e : Env) (H : Heap) : enter cx 56 n0 5 e H = enterK [0, 1, 2, 3, 8, 9] 0 n0 e H := rfl
@[simp] theorem en56_6 (n0 : Nat) (e : Env) (H : Heap) : enter cx 56 n0 6 e H = enterK [0, 1, 2, 3, 8, 9] 0 n0 e H := rfl
@[simp] theorem en57_0 (n0 : Nat) (e : Env) (H : Heap) : enter cx 57 n0 0 e H = enterK [0, 1, 2, 3] 0 n0 e H := rfl
@[simp] theorem en57_1 (n0 : Nat) (e : Env) (H : Heap) : enter cx 57 n0 1 e H = enterK [0, 1, 2, 3, 8] 0 n0 e H := rfl
@[simp] theorem en57_2 (n0 : Nat) (e : Env) (H : Heap) : enter cx 57 n0 2 e H = enterK [0, 1, 2, 3, 8, 9] 0 n0 e H := rfl
@[simp] theorem en57_3 (n0 : Nat) (e : Env) (H : Heap) : enter cx 57 n0 3 e H = enterK [0, 3, 8, 9, 10] 0 n0 e H := rfl
@[simp] theorem en57_4 (n0 : Nat) (e : Env) (H : Heap) : enter cx 57 n0 4 e H = enterK [0, 3, 8, 9, 10, 11] 0 n0 e H := rfl
@[simp] theorem en57_5 (n0 : Nat) (e : Env) (H : Heap) : enter cx 57 n0 5 e H = enterK [0, 3, 8, 9, 10, 11] 0 n0 e H := rfl
@[simp] theorem en57_6 (n0 : Nat) (e : Env) (H : Heap) : enter cx 57 n0 6 e H = enterK [0, 3, 8, 9, 10, 11] 0 n0 e H := rfl
@[simp] theorem en57_7 (n0 : Nat) (e : Env) (H : Heap) : enter cx 57 n0 7 e H = enterK [0, 3, 8, 9, 10] 0 n0 e H := rfl
@[simp] theorem en57_8 (n0 : Nat) (e : Env) (H : Heap) : enter cx 57 n0 8 e H = enterK [0, 3, 8, 9, 12] 0 n0 e H := rfl
@[simp] theorem en57_9 (n0 : Nat) (e : Env) (H : Heap) : enter cx 57 n0 9 e H = enterK [0, 3, 8, 9, 12] 0 n0 e H := rfl
@[simp] theorem en57_10 (n0 : Nat) (e : Env) (H : Heap) : enter cx 57 n0 10 e H = enterK [0, 3, 8, 9, 12] 0 n0 e H := rfl
@[simp] theorem en57_11 (n0 : Nat) (e : Env) (H : Heap) : enter cx 57 n0 11 e H = enterK [0, 3, 8, 9, 12] 0 n0 e H := rfl
@[simp] theorem en58_0 (n0 : Nat) (e : Env) (H : Heap) : enter cx 58 n0 0 e H = enterK [0, 1, 2] 0 n0 e H := rfl
@[simp] theorem en58_1 (n0 : Nat) (e : Env) (H : Heap) : enter cx 58 n0 1 e H = enterK [0, 1, 8] 0 n0 e H := rfl
@[simp] theorem en58_2 (n0 : Nat) (e : Env) (H : Heap) : enter cx 58 n0 2 e H = enterK [0, 1, 8] 0 n0 e H := rfl
@[simp] theorem en58_3 (n0 : Nat) (e : Env) (H : Heap) : enter cx 58 n0 3 e H = enterK [0, 1, 8, 9] 0 n0 e H := rfl
@[simp] theorem en58_4 (n0 : Nat) (e : Env) (H : Heap) : enter cx 58 n0 4 e H = enterK [0, 1, 8, 9, 10] 0 n0 e H := rfl
@[simp] theorem en58_5 (n0 : Nat) (e : Env) (H : Heap) : enter cx 58 n0 5 e H = enterK [0, 1, 8, 9, 10, 11] 0 n0 e H := rfl
@[simp] theorem en58_6 (n0 : Nat) (e : Env) (H : Heap) : enter cx 58 n0 6 e H = enterK [0, 1, 8, 9, 10, 11] 0 n0 e H := rfl
@[simp] theorem en58_7 (n0 : Nat) (e : Env) (H : Heap) : enter cx 58 n0 7 e H = enterK [0, 1, 8, 9, 10, 11] 0 n0 e H := rfl
@[simp] theorem en58_8 (n0 : Nat) (e : Env) (H : Heap) : enter cx 58 n0 8 e H = enterK [0, 1, 8, 9, 10, 11, 12] 0 n0 e H := rfl
@[simp] theorem en58_9 (n0 : Nat) (e : Env) (H : Heap) : enter cx 58 n0 9 e H = enterK [0, 1, 8, 9, 10, 11, 12] 0 n0 e H := rfl
@[simp] theorem en58_10 (n0 : Nat) (e : Env) (H : Heap) : enter cx 58 n0 10 e H = enterK [0, 1, 8, 9, 10, 11, 12] 0 n0 e H := rfl
@[simp] theorem en59_0 (n0 : Nat) (e : Env) (H : Heap) : enter cx 59 n0 0 e H = enterK [0, 1, 2, 3] 0 n0 e H := rfl
@[simp] theorem en59_1 (n0 : Nat) (e : Env) (H : Heap) : enter cx 59 n0 1 e H = enterK [0, 1, 2, 3] 0 n0 e H := rfl
@[simp] theorem en59_2 (n0 : Nat) (e : Env) (H : Heap) : enter cx 59 n0 2 e H = enterK [0, 1, 3, 10] 0 n0 e H := rfl
@[simp] theorem en59_3 (n0 : Nat) (e : Env) (H : Heap) : enter cx 59 n0 3 e H = enterK [0, 1, 3, 10, 11] 0 n0 e H := rfl
@[simp] theorem en59_4 (n0 : Nat) (e : Env) (H : Heap) : enter cx 59 n0 4 e H = enterK [0, 1, 3, 10, 11, 12] 0 n0 e H := rfl
@[simp] theorem en59_5 (n0 : Nat) (e : Env) (H : Heap) : enter cx 59 n0 5 e H = enterK [0, 1, 3, 10, 11, 12, 13] 0 n0 e H := rfl
@[simp] theorem en59_6 (n0 : Nat) (e : Env) (H : Heap) : enter cx 59 n0 6 e H = enterK [0, 3, 10, 11, 12, 13, 14] 0 n0 e H := rfl
@[simp] theorem en59_7 (n0 : Nat) (e : Env) (H : Heap) : enter cx 59 n0 7 e H = enterK [0, 3, 10, 11, 12, 13, 14] 0 n0 e H := rfl
@[simp] theorem en59_8 (n0 : Nat) (e : Env) (H : Heap) : enter cx 59 n0 8 e H = enterK [0, 3, 11, 12, 13, 14] 0 n0 e H := rfl
@[simp] theorem en59_9 (n0 : Nat) (e : Env) (H : Heap) : enter cx 59 n0 9 e H = enterK [0, 3, 11, 12, 13, 14] 0 n0 e H := rfl
@[simp] theorem en59_10 (n0 : Nat) (e : Env) (H : Heap) : enter cx 59 n0 10 e H = enterK [0, 3, 11, 12, 13, 14] 0 n0 e H := rfl
@[simp] theorem en59_11 (n0 : Nat) (e : Env) (H : Heap) : enter cx 59 n0 11 e H = enterK [0, 3, 11, 12, 13, 14] 0 n0 e H := rfl
@[simp] theorem en59_12 (n0 : Nat) (e : Env) (H : Heap) : enter cx 59 n0 12 e H = enterK [11, 13] 0 n0 e H := rfl
@[simp] theorem en59_13 (n0 : Nat) (e : Env) (H : Heap) : enter cx 59 n0 13 e H = enterK [13] 0 n0 e H := rfl
@[simp] theorem en59_14 (n0 : Nat) (e : Env) (H : Heap) : enter cx 59 n0 14 e H = enterK [13, 55] 0 n0 e H := rfl
@[simp] theorem en59_15 (n0 : Nat) (e : Env) (H : Heap) : enter cx 59 n0 15 e H = enterK [13] 0 n0 e H := rfl
@[simp] theorem en59_16 (n0 : Nat) (e : Env) (H : Heap) : enter cx 59 n0 16 e H = enterK [13, 55] 0 n0 e H := rfl
@[simp] theorem en59_17 (n0 : Nat) (e : Env) (H : Heap) : enter cx 59 n0 17 e H = enterK [13] 0 n0 e H := rfl
@[simp] theorem en60_0 (n0 : Nat) (e : Env) (H : Heap) : enter cx 60 n0 0 e H = enterK [0, 1, 2] 0 n0 e H := rfl
@[simp] theorem en60_1 (n0 : Nat) (e : Env) (H : Heap) : enter cx 60 n0 1 e H = enterK [0, 2, 8] 0 n0 e H := rfl
@[simp] theorem en60_2 (n0 : Nat) (e : Env) (H : Heap) : enter cx 60 n0 2 e H = enterK [0, 8, 9] 0 n0 e H := rfl
@[simp] theorem en60_3 (n0 : Nat) (e : Env) (H : Heap) : enter cx 60 n0 3 e H = enterK [0, 8, 9] 0 n0 e H := rfl
@[simp] theorem en60_4 (n0 : Nat) (e : Env) (H : Heap) : enter cx 60 n0 4 e H = enterK [0, 8, 9] 0 n0 e H := rfl
@[simp] theorem en60_5 (n0 : Nat) (e : Env) (H : Heap) : enter cx 60 n0 5 e H = enterK [0, 8, 9] 0 n0 e H := rfl
@[simp] theorem en61_0 (n0 : Nat) (e : Env) (H : Heap) : enter cx 61 n0 0 e H = enterK [0, 1, 2, 3] 0 n0 e H := rfl
@[simp] theorem en61_1 (n0 : Nat) (e : Env) (H : Heap) : enter cx 61 n0 1 e H = enterK [0, 1, 2, 3] 0 n0 e H := rfl
@[simp] theorem en61_2 (n0 : Nat) (e : Env) (H : Heap) : enter cx 61 n0 2 e H = enterK [0, 1, 2, 3, 9] 0 n0 e H := rfl
@[simp] theorem en61_3 (n0 : Nat) (e : Env) (H : Heap) : enter cx 61 n0 3 e H = enterK [0, 1, 2, 3, 9, 10] 0 n0 e H := rfl
@[simp] theorem en61_4 (n0 : Nat) (e : Env) (H : Heap) : enter cx 61 n0 4 e H = enterK [0, 1, 2, 3, 9, 10] 0 n0 e H := rfl
@[simp] theorem en61_5 (n0 : Nat) (e : Env) (H : Heap) : enter cx 61 n0 5 e H = enterK [0, 1, 2, 3, 9, 10] 0 n0 e H := rfl
@[simp] theorem en61_6 (n0 : Nat) (e : Env) (H : Heap) : enter cx 61 n0 6 e H = enterK [0, 1, 2, 3, 9, 10] 0 n0 e H := rfl
@[simp] theorem en61_7 (n0 : Nat) (e : Env) (H : Heap) : enter cx 61 n0 7 e H = enterK [0, 1, 2, 3, 9, 10] 0 n0 e H := rfl
@[simp] theorem en61_8 (n0 : Nat) (e : Env) (H : Heap) : enter cx 61 n0 8 e H = enterK [] 0 n0 e H := rfl
@[simp] theorem en61_9 (n0 : Nat) (e : Env) (H : Heap) : enter cx 61 n0 9 e H = enterK [0, 1, 2, 3, 9, 10] 0 n0 e H := rfl
@[simp] theorem en61_10 (n0 : Nat) (e : Env) (H : Heap) : enter cx 61 n0 10 e H = enterK [] 0 n0 e H := rfl
@[simp] theorem en61_11 (n0 : Nat) (e : Env) (H : Heap) : enter cx 61 n0 11 e H = enterK [0, 1, 2, 3, 9, 10] 0 n0 e H := rfl
@[simp] theorem en61_12 (n0 : Nat) (e : Env) (H : Heap) : enter cx 61 n0 12 e H = enterK [0, 1, 2, 3, 9, 10] 0 n0 e H := rfl
@[simp] theorem en61_13 (n0 : Nat) (e : Env) (H : Heap) : enter cx 61 n0 13 e H = enterK [0, 1, 2, 3, 9, 10] 0 n0 e H := rfl
@[simp] theorem en61_14 (n0 : Nat) (e : Env) (H : Heap) : enter cx 61 n0 14 e H = enterK [0, 1, 2, 3, 9, 10, 11] 0 n0 e H := rfl
@[simp] theorem en61_15 (n0 : Nat) (e : Env) (H : Heap) : enter cx 61 n0 15 e H = enterK [0, 1, 2, 3, 9, 10, 11] 0 n0 e H := rfl
@[simp] theorem en61_16 (n0 : Nat) (e : Env) (H : Heap) : enter cx 61 n0 16 e H = enterK [0, 1, 2, 3, 9, 10, 11] 0 n0 e H := rfl
@[simp] theorem en61_17 (n0 : Nat) (e : Env) (H : Heap) : enter cx 61 n0 17 e H = enterK [0, 1, 2, 3, 9, 10, 11] 0 n0 e H := rfl
@[simp] theorem en61_18 (n0 : Nat) (e : Env) (H : Heap) : enter cx 61 n0 18 e H = enterK [0, 1, 2, 3, 9, 10] 0 n0 e H := rfl
@[simp] theorem en61_19 (n0 : Nat) (e : Env) (H : Heap) : enter cx 61 n0 19 e H = enterK [0, 1, 2, 3, 9, 10] 0 n0 e H := rfl
@[simp] theorem en61_20 (n0 : Nat) (e : Env) (H : Heap) : enter cx 61 n0 20 e H = enterK [0, 1, 2, 3, 9, 10, 12] 0 n0 e H := rfl
@[simp] theorem en61_21 (n0 : Nat) (e : Env) (H : Heap) : enter cx 61 n0 21 e H = enterK [0, 1, 2, 3, 9, 10, 12] 0 n0 e H := rfl
@[simp] theorem en61_22 (n0 : Nat) (e : Env) (H : Heap) : enter cx 61 n0 22 e H = enterK [0, 1, 2, 3, 9, 10, 12] 0 n0 e H := rfl
@[simp] theorem en61_23 (n0 : Nat) (e : Env) (H : Heap) : enter cx 61 n0 23 e H = enterK [0, 1, 2, 3, 9, 10, 12] 0 n0 e H := rfl
@[simp] theorem en61_24 (n0 : Nat) (e : Env) (H : Heap) : enter cx 61 n0 24 e H = enterK [] 0 n0 e H := rfl
@[simp] theorem en62_0 (n0 : Nat) (e : Env) (H : Heap) : enter cx 62 n0 0 e H = enterK [0, 1, 2, 3, 4] 0 n0 e H := rfl
@[simp] theorem en62_1 (n0 : Nat) (e : Env) (H : Heap) : enter cx 62 n0 1 e H = enterK [0, 1, 2, 3, 4] 0 n0 e H := rfl
@[simp] theorem en62_2 (n0 : Nat) (e : Env) (H : Heap) : enter cx 62 n0 2 e H = enterK [0, 1, 2, 4] 0 n0 e H := rfl
@[simp] theorem en62_3 (n0 : Nat) (e : Env) (H : Heap) : enter cx 62 n0 3 e H = enterK [0, 1, 4, 11, 12] 0 n0 e H := rfl
@[simp] theorem en62_4 (n0 : Nat) (e : Env) (H : Heap) : enter cx 62 n0 4 e H = enterK [0, 1, 4, 11, 12] 0 n0 e H := rfl
@[simp] theorem en62_5 (n0 : Nat) (e : Env) (H : Heap) : enter cx 62 n0 5 e H = enterK [0, 1, 4, 11, 12] 0 n0 e H := rfl
@[simp] theorem en62_6 (n0 : Nat) (e : Env) (H : Heap) : enter cx 62 n0 6 e H = enterK [0, 1, 4, 11, 12] 0 n0 e H := rfl
@[simp] theorem en62_7 (n0 : Nat) (e : Env) (H : Heap) : enter cx 62 n0 7 e H = enterK [0, 1, 4, 11, 12] 0 n0 e H := rfl
@[simp] theorem en62_8 (n0 : Nat) (e : Env) (H : Heap) : enter cx 62 n0 8 e H = enterK [0, 1, 4, 11, 12] 0 n0 e H := rfl
@[simp] theorem en62_9 (n0 : Nat) (e : Env) (H : Heap) : enter cx 62 n0 9 e H = enterK [0, 1, 4, 11, 12] 0 n0 e H := rfl
@[simp] theorem en62_10 (n0 : Nat) (e : Env) (H : Heap) : enter cx 62 n0 10 e H = enterK [0, 1, 4, 11, 12] 0 n0 e H := rfl
@[simp] theorem en62_11 (n0 : Nat) (e : Env) (H : Heap) : enter cx 62 n0 11 e H = enterK [11] 0 n0 e H := rfl
@[simp] theorem en63_0 (n0 : Nat) (e : Env) (H : Heap) : enter cx 63 n0 0 e H = enterK [0, 1, 2, 3, 4] 0 n0 e H := rfl
@[simp] theorem en63_1 (n0 : Nat) (e : Env) (H : Heap) : enter cx 63 n0 1 e H = enterK [0, 1, 2, 3, 4] 0 n0 e H := rfl
@[simp] theorem en63_2 (n0 : Nat) (e : Env) (H : Heap) : enter cx 63 n0 2 e H = enterK [0, 1, 2, 4] 0 n0 e H := rfl
@[simp] theorem en63_3 (n0 : Nat) (e : Env) (H : Heap) : enter cx 63 n0 3 e H = enterK [0, 1, 4, 12, 13] 0 n0 e H := rfl
@[simp] theorem en63_4 (n0 : Nat) (e : Env) (H : Heap) : enter cx 63 n0 4 e H = enterK [0, 1, 4, 12, 13] 0 n0 e H := rfl
@[simp] theorem en63_5 (n0 : Nat) (e : Env) (H : Heap) : enter cx 63 n0 5 e H = enterK [0, 1, 4, 12, 13] 0 n0 e H := rfl
@[simp] theorem en63_6 (n0 : Nat) (e : Env) (H : Heap) : enter cx 63 n0 6 e H = enterK [0, 1, 4, 12, 13] 0 n0 e H := rfl
@[simp] theorem en63_7 (n0 : Nat) (e : Env) (H : Heap) : enter cx 63 n0 7 e H = enterK [0, 1, 4, 12, 13] 0 n0 e H := rfl
@[simp] theorem en63_8 (n0 : Nat) (e : Env) (H : Heap) : enter cx 63 n0 8 e H = enterK [0, 1, 13] 0 n0 e H := rfl
@[simp] theorem en63_9 (n0 : Nat) (e : Env) (H : Heap) : enter cx 63 n0 9 e H = enterK [13] 0 n0 e H := rfl
@[simp] theorem en63_10 (n0 : Nat) (e : Env) (H : Heap) : enter cx 63 n0 10 e H = enterK [0, 1, 4, 12, 13] 0 n0 e H := rfl
@[simp] theorem en63_11 (n0 : Nat) (e : Env) (H : Heap) : enter cx 63 n0 11 e H = enterK [0, 1, 4, 12, 13] 0 n0 e H := rfl
@[simp] theorem en63_12 (n0 : Nat) (e : Env) (H : Heap) : enter cx 63 n0 12 e H = enterK [0, 1, 4, 12, 13] 0 n0 e H := rfl
@[simp] theorem en63_13 (n0 : Nat) (e : Env) (H : Heap) : enter cx 63 n0 13 e H = enterK [0, 1, 4, 12, 13] 0 n0 e H := rfl
@[simp] theorem en63_14 (n0 : Nat) (e : Env) (H : Heap) : enter cx 63 n0 14 e H = enterK [0, 1, 4, 12, 13] 0 n0 e H := rfl
@[simp] theorem en63_15 (n0 : Nat) (e : Env) (H : Heap) : enter cx 63 n0 15 e H = enterK [0, 1, 4, 12, 13] 0 n0 e H := rfl
@[simp] theorem en63_16 (n0 : Nat) (e : Env) (H : Heap) : enter cx 63 n0 16 e H = enterK [0, 1, 4, 12, 13] 0 n0 e H := rfl
@[simp] theorem en63_17 (n0 : Nat) (e : Env) (H : Heap) : enter cx 63 n0 17 e H = enterK [0, 1, 4, 12, 13] 0 n0 e H := rfl
@[simp] theorem en63_18 (n0 : Nat) (e : Env) (H : Heap) : enter cx 63 n0 18 e H = enterK [0, 1, 4, 12, 13] 0 n0 e H := rfl
@[simp] theorem en63_19 (n0 : Nat) (e : Env) (H : Heap) : enter cx 63 n0 19 e H = enterK [0, 1, 4, 12, 13] 0 n0 e H := rfl
@[simp] theorem en63_20 (n0 : Nat) (e : Env) (H : Heap) : enter cx 63 n0 20 e H = enterK [0, 1, 4, 12, 13] 0 n0 e H := rfl
@[simp] theorem en63_21 (n0 : Nat) (e : Env) (H : Heap) : enter cx 63 n0 21 e H = enterK [0, 1, 13] 0 n0 e H := rfl
@[simp] theorem en63_22 (n0 : Nat) (e : Env) (H : Heap) : enter cx 63 n0 22 e H = enterK [13] 0 n0 e H := rfl
@[simp] theorem en64_0 (n0 : Nat) (e : Env) (H : Heap) : enter cx 64 n0 0 e H = enterK [0] 0 n0 e H := rfl
@[simp] theorem en64_1 (n0 : Nat) (e : Env) (H : Heap) : enter cx 64 n0 1 e H = enterK [0, 2] 0 n0 e H := rfl
@[simp] theorem en64_2 (n0 : Nat) (e : Env) (H : Heap) : enter cx 64 n0 2 e H = enterK [0] 0 n0 e H := rfl
@[simp] theorem en64_3 (n0 : Nat) (e : Env) (H : Heap) : enter cx 64 n0 3 e H = enterK [0] 0 n0 e H := rfl
@[simp] theorem en64_4 (n0 : Nat) (e : Env) (H : Heap) : enter cx 64 n0 4 e H = enterK [0, 2] 0 n0 e H := rfl
@[simp] theorem en64_5 (n0 : Nat) (e : Env) (H : Heap) : enter cx 64 n0 5 e H = enterK [0, 2] 0 n0 e H := rfl
@[simp] theorem en64_6 (n0 : Nat) (e : Env) (H : Heap) : enter cx 64 n0 6 e H = enterK [0, 2] 0 n0 e H := rfl
@[simp] theorem en64_7 (n0 : Nat) (e : Env) (H : Heap) : enter cx 64 n0 7 e H = enterK [0, 2] 0 n0 e H := rfl
@[simp] theorem en65_0 (n0 : Nat) (e : Env) (H : Heap) : enter cx 65 n0 0 e H = enterK [0] 0 n0 e H := rfl
@[simp] theorem en65_1 (n0 : Nat) (e : Env) (H : Heap) : enter cx 65 n0 1 e H = enterK [0, 2] 0 n0 e H := rfl
@[simp] theorem en65_2 (n0 : Nat) (e : Env) (H : Heap) : enter cx 65 n0 2 e H = enterK [0] 0 n0 e H := rfl
@[simp] theorem en65_3 (n0 : Nat) (e : Env) (H : Heap) : enter cx 65 n0 3 e H = enterK [0] 0 n0 e H := rfl
@[simp] theorem en65_4 (n0 : Nat) (e : Env) (H : Heap) : enter cx 65 n0 4 e H = enterK [0, 2] 0 n0 e H := rfl
@[simp] theorem en65_5 (n0 : Nat) (e : Env) (H : Heap) : enter cx 65 n0 5 e H = enterK [0, 2] 0 n0 e H := rfl
@[simp] theorem en65_6 (n0 : Nat) (e : Env) (H : Heap) : enter cx 65 n0 6 e H = enterK [0, 2] 0 n0 e H := rfl
@[simp] theorem en65_7 (n0 : Nat) (e : Env) (H : Heap) : enter cx 65 n0 7 e H = enterK [0, 2] 0 n0 e H := rfl
@[simp] theorem en65_8 (n0 : Nat) (e : Env) (H : Heap) : enter cx 65 n0 8 e H = enterK [0, 2] 0 n0 e H := rfl
@[simp] theorem en65_9 (n0 : Nat) (e : Env) (H : Heap) : enter cx 65 n0 9 e H = enterK [0, 2] 0 n0 e H := rfl
@[simp] theorem en65_10 (n0 : Nat) (e : Env) (H : Heap) : enter cx 65 n0 10 e H = enterK [0, 2] 0 n0 e H := rfl
@[simp] theorem en66_0 (n0 : Nat) (e : Env) (H : Heap) : enter cx 66 n0 0 e H = enterK [0, 1, 2, 3, 4] 0 n0 e H := rfl
@[simp] theorem en66_1 (n0 : Nat) (e : Env) (H : Heap) : enter cx 66 n0 1 e H = enterK [0, 2, 3, 4, 10] 0 n0 e H := rfl
@[simp] theorem en66_2 (n0 : Nat) (e : Env) (H : Heap) : enter cx 66 n0 2 e H = enterK [0, 2, 3, 4, 10, 11] 0 n0 e H := rfl
@[simp] theorem en66_3 (n0 : Nat) (e : Env) (H : Heap) : enter cx 66 n0 3 e H = enterK [0, 2, 3, 4, 10, 11] 0 n0 e H := rfl
@[simp] theorem en66_4 (n0 : Nat) (e : Env) (H : Heap) : enter cx 66 n0 4 e H = enterK [0, 2, 3, 4, 10, 11] 0 n0 e H := rfl
@[simp] theorem en66_5 (n0 : Nat) (e : Env) (H : Heap) : enter cx 66 n0 5 e H = enterK [0, 2, 3, 4, 10, 11] 0 n0 e H := rfl
@[simp] theorem en66_6 (n0 : Nat) (e : Env) (H : Heap) : enter cx 66 n0 6 e H = enterK [0, 2, 3, 4, 10, 11] 0 n0 e H := rfl
@[simp] theorem en66_7 (n0 : Nat) (e : Env) (H : Heap) : enter cx 66 n0 7 e H = enterK [0, 2, 3, 4, 11] 0 n0 e H := rfl
@[simp] theorem en67_0 (n0 : Nat) (e : Env) (H : Heap) : enter cx 67 n0 0 e H = enterK [0] 0 n0 e H := rfl
@[simp] theorem en67_1 (n0 : Nat) (e : Env) (H : Heap) : enter cx 67 n0 1 e H = enterK [0] 0 n0 e H := rfl
@[simp] theorem en68_0 (n0 : Nat) (e : Env) (H : Heap) : enter cx 68 n0 0 e H = enterK [0] 0 n0 e H := rfl
@[simp] theorem en68_1 (n0 : Nat) (e : Env) (H : Heap) : enter cx 68 n0 1 e H = enterK [0] 0 n0 e H := rfl
@[simp] theorem en68_2 (n0 : Nat) (e : Env) (H : Heap) : enter cx 68 n0 2 e H = enterK [0] 0 n0 e H := rfl
@[simp] theorem en68_3 (n0 : Nat) (e : Env) (H : Heap) : enter cx 68 n0 3 e H = enterK [0] 0 n0 e H := rfl
@[simp] theorem en68_4 (n0 : Nat) (e : Env) (H : Heap) : enter cx 68 n0 4 e H = enterK [0] 0 n0 e H := rfl
@[simp] theorem en69_0 (n0 : Nat) (e : Env) (H : Heap) : enter cx 69 n0 0 e H = enterK [0, 1, 2, 3] 0 n0 e H := rfl
@[simp] theorem en69_1 (n0 : Nat) (e : Env) (H : Heap) : enter cx 69 n0 1 e H = enterK [0, 1, 2, 3] 0 n0 e H := rfl
@[simp] theorem en70_0 (n0 : Nat) (e : Env) (H : Heap) : enter cx 70 n0 0 e H = enterK [0, 1, 2, 3, 4, 5] 0 n0 e H := rfl
@[simp] theorem en70_1 (n0 : Nat) (e : Env) (H : Heap) : enter cx 70 n0 1 e H = enterK [0, 1, 2, 3, 4, 5] 0 n0 e H := rfl
@[simp] theorem en70_2 (n0 : Nat) (e : Env) (H : Heap) : enter cx 70 n0 2 e H = enterK [0, 1, 2, 3, 4, 5] 0 n0 e H := rfl
@[simp] theorem en70_3 (n0 : Nat) (e : Env) (H : Heap) : enter cx 70 n0 3 e H = enterK [0, 1, 2, 4, 5] 0 n0 e H := rfl
@[simp] theorem en70_4 (n0 : Nat) (e : Env) (H : Heap) : enter cx 70 n0 4 e H = enterK [2] 0 n0 e H := rfl
@[simp] theorem en71_0 (n0 : Nat) (e : Env) (H : Heap) : enter cx 71 n0 0 e H = enterK [0, 1, 2, 3, 4] 0 n0 e H := rfl
@[simp] theorem en71_1 (n0 : Nat) (e : Env) (H : Heap) : enter cx 71 n0 1 e H = enterK [0, 1, 2, 3, 4] 0 n0 e H := rfl
@[simp] theorem en71_2 (n0 : Nat) (e : Env) (H : Heap) : enter cx 71 n0 2 e H = enterK [1, 2, 3] 0 n0 e H := rfl
@[simp] theorem en71_3 (n0 : Nat) (e : Env) (H : Heap) : enter cx 71 n0 3 e H = enterK [1, 2] 0 n0 e H := rfl
@[simp] theorem en71_4 (n0 : Nat) (e : Env) (H : Heap) : enter cx 71 n0 4 e H = enterK [1, 2] 0 n0 e H := rfl
@[simp] theorem sz3 : szOf Try.prog 3 = 1 := by kernel_rfl
@[simp] theorem ag3 : aggQ Try.prog 3 = some false := by kernel_rfl
@[simp] theorem by3 : bytesOf Try.prog 3 = 8 := by kernel_rfl
@[simp] theorem zo3 : zeroOf Try.prog 3 = some (.int .i64 0) := by kernel_rfl
@[simp] theorem un3 : Try.prog.underlying 3 = some (.int .i64) := by kernel_rfl
@[simp] theorem sz4 : szOf Try.prog 4 = 1 := by kernel_rfl
@[simp] theorem ag4 : aggQ Try.prog 4 = some false := by kernel_rfl
@[simp] theorem by4 : bytesOf Try.prog 4 = 1 := by kernel_rfl
@[simp] theorem zo4 : zeroOf Try.prog 4 = some (.bool false) := by kernel_rfl
@[simp] theorem un4 : Try.prog.underlying 4 = some .bool := by kernel_rfl
@[simp] theorem sz5 : szOf Try.prog 5 = 1 := by kernel_rfl
@[simp] theorem ag5 : aggQ Try.prog 5 = some false := by kernel_rfl
@[simp] theorem by5 : bytesOf Try.prog 5 = 1 := by kernel_rfl
@[simp] theorem zo5 : zeroOf Try.prog 5 = some (.int .u8 0) := by kernel_rfl
@[simp] theorem un5 : Try.prog.underlying 5 = some (.int .u8) := by kernel_rfl
@[simp] theorem sz9 : szOf Try.prog 9 = 1 := by kernel_rfl
@[simp] theorem ag9 : aggQ Try.prog 9 = some false := by kernel_rfl
@[simp] theorem by9 : bytesOf Try.prog 9 = 16 := by kernel_rfl
@[simp] theorem zo9 : zeroOf Try.prog 9 = some (.str []) := by kernel_rfl
@[simp] theorem un9 : Try.prog.underlying 9 = some .string := by kernel_rfl
@[simp] theorem sz22 : szOf Try.prog 22 = 1 := by kernel_rfl
@[simp] theorem ag22 : aggQ Try.prog 22 = some false := by kernel_rfl
@[simp] theorem by22 : bytesOf Try.prog 22 = 24 := by kernel_rfl
@[simp] theorem zo22 : zeroOf Try.prog 22 = some (.vsl true [] 0) := by kernel_rfl
@[simp] theorem un22 : Try.prog.underlying 22 = some (.slice 3) := by kernel_rfl
@[simp] theorem sz24 : szOf Try.prog 24 = 1 := by kernel_rfl
@[simp] theorem ag24 : aggQ Try.prog 24 = some false := by kernel_rfl
@[simp] theorem by24 : bytesOf Try.prog 24 = 24 := by kernel_rfl
@[simp] theorem zo24 : zeroOf Try.prog 24 = some (.vsl true [] 0) := by kernel_rfl
@[simp] theorem un24 : Try.prog.underlying 24 = some (.slice 38) := by kernel_rfl
@[simp] theorem sz25 : szOf Try.prog 25 = 1 := by kernel_rfl
@[simp] theorem ag25 : aggQ Try.prog 25 = some false := by kernel_rfl
@[simp] theorem by25 : bytesOf Try.prog 25 = 8 := by kernel_rfl
@[simp] theorem zo25 : zeroOf Try.prog 25 = some (.int .u64 0) := by kernel_rfl
@[simp] theorem un25 : Try.prog.underlying 25 = some (.int .u64) := by kernel_rfl
@[simp] theorem sz26 : szOf Try.prog 26 = 16 := by kernel_rfl
@[simp] theorem ag26 : aggQ Try.prog 26 = some true := by kernel_rfl
@[simp] theorem by26 : bytesOf Try.prog 26 = 16 := by kernel_rfl
@[simp] theorem zo26 : zeroOf Try.prog 26 = some (.agg [.int .u8 0, .int .u8 0, .int .u8 0, .int .u8 0, .int .u8 0, .int .u8 0, .int .u8 0, .int .u8 0, .int .u8 0, .int .u8 0, .int .u8 0, .int .u8 0, .int .u8 0, .int .u8 0, .int .u8 0, .int .u8 0]) := by kernel_rfl
@[simp] theorem un26 : Try.prog.underlying 26 = some (.array 16 5) := by kernel_rfl
@[simp] theorem sz27 : szOf Try.prog 27 = 16 := by kernel_rfl
@[simp] theorem ag27 : aggQ Try.prog 27 = some true := by kernel_rfl
@[simp] theorem by27 : bytesOf Try.prog 27 = 16 := by kernel_rfl
@[simp] theorem zo27 : zeroOf Try.prog 27 = some (.agg [.int .u8 0, .int .u8 0, .int .u8 0, .int .u8 0, .int .u8 0, .int .u8 0, .int .u8 0, .int .u8 0, .int .u8 0, .int .u8 0, .int .u8 0, .int .u8 0, .int .u8 0, .int .u8 0, .int .u8 0, .int .u8 0]) := by kernel_rfl
@[simp] theorem un27 : Try.prog.underlying 27 = some (.array 16 5) := by kernel_rfl
@[simp] theorem sz30 : szOf Try.prog 30 = 1 := by kernel_rfl
@[simp] theorem ag30 : aggQ Try.prog 30 = some false := by kernel_rfl
@[simp] theorem by30 : bytesOf Try.prog 30 = 24 := by kernel_rfl
@[simp] theorem zo30 : zeroOf Try.prog 30 = some (.vsl true [] 0) := by kernel_rfl
@[simp] theorem un30 : Try.prog.underlying 30 = some (.slice 118) := by kernel_rfl
@[simp] theorem sz31 : szOf Try.prog 31 = 20 := by kernel_rfl
@[simp] theorem ag31 : aggQ Try.prog 31 = some true := by kernel_rfl
@[simp] theorem by31 : bytesOf Try.prog 31 = 64 := by kernel_rfl
@[simp] theorem zo31 : zeroOf Try.prog 31 = some (.agg [.int .u64 0, .int .u64 0, .int .u64 0, .int .u8 0, .int .u8 0, .int .u8 0, .int .u8 0, .int .u8 0, .int .u8 0, .int .u8 0, .int .u8 0, .int .u8 0, .int .u8 0, .int .u8 0, .int .u8 0, .int .u8 0, .int .u8 0, .int .u8 0, .int .u8 0, .vsl true [] 0]) := by kernel_rfl
attribute [simp] Try.underlying31
@[simp] theorem sz32 : szOf Try.prog 32 = 20 := by kernel_rfl
@[simp] theorem ag32 : aggQ Try.prog 32 = some true := by kernel_rfl
@[simp] theorem by32 : bytesOf Try.prog 32 = 64 := by kernel_rfl
@[simp] theorem zo32 : zeroOf Try.prog 32 = some (.agg [.int .u64 0, .int .u64 0, .int .u64 0, .int .u8 0, .int .u8 0, .int .u8 0, .int .u8 0, .int .u8 0, .int .u8 0, .int .u8 0, .int .u8 0, .int .u8 0, .int .u8 0, .int .u8 0, .int .u8 0, .int .u8 0, .int .u8 0, .int .u8 0, .int .u8 0, .vsl true [] 0]) := by kernel_rfl
attribute [simp] Try.underlying32
@[simp] theorem sz33 : szOf Try.prog 33 = 39 := by kernel_rfl
@[simp] theorem ag33 : aggQ Try.prog 33 = some true := by kernel_rfl
@[simp] theorem by33 : bytesOf Try.prog 33 = 104 := by kernel_rfl
@[simp] theorem zo33 : zeroOf Try.prog 33 = some (.agg [.int .u8 0, .int .u8 0, .int .u8 0, .int .u8 0, .int .u8 0, .int .u8 0, .int .u8 0, .int .u8 0, .int .u8 0, .int .u8 0, .int .u8 0, .int .u8 0, .int .u8 0, .int .u8 0, .int .u8 0, .int .u8 0, .bool false, .int .u64 0, .int .u64 0, .int .u64 0, .int .u64 0, .int .u64 0, .int .u8 0, .int .u8 0, .int .u8 0, .int .u8 0, .int .u8 0, .int .u8 0, .int .u8 0, .int .u8 0, .int .u8 0, .int .u8 0, .int .u8 0, .int .u8 0, .int .u8 0, .int .u8 0, .int .u8 0, .int .u8 0, .vsl true [] 0]) := by kernel_rfl
attribute [simp] Try.underlying33
@[simp] theorem sz34 : szOf Try.prog 34 = 39 := by kernel_rfl
@[simp] theorem ag34 : aggQ Try.prog 34 = some true := by kernel_rfl
@[simp] theorem by34 : bytesOf Try.prog 34 = 104 := by kernel_rfl
@[simp] theorem zo34 : zeroOf Try.prog 34 = some (.agg [.int .u8 0, .int .u8 0, .int .u8 0, .int .u8 0, .int .u8 0, .int .u8 0, .int .u8 0, .int .u8 0, .int .u8 0, .int .u8 0, .int .u8 0, .int .u8 0, .int .u8 0, .int .u8 0, .int .u8 0, .int .u8 0, .bool false, .int .u64 0, .int .u64 0, .int .u64 0, .int .u64 0, .int .u64 0, .int .u8 0, .int .u8 0, .int .u8 0, .int .u8 0, .int .u8 0, .int .u8 0, .int .u8 0, .int .u8 0, .int .u8 0, .int .u8 0, .int .u8 0, .int .u8 0, .int .u8 0, .int .u8 0, .int .u8 0, .int .u8 0, .vsl true [] 0]) := by kernel_rfl
attribute [simp] Try.underlying34
@[simp] theorem sz37 : szOf Try.prog 37 = 19 := by kernel_rfl
@[simp] theorem ag37 : aggQ Try.prog 37 = some true := by kernel_rfl
@[simp] theorem by37 : bytesOf Try.prog 37 = 40 := by kernel_rfl
@[simp] theorem zo37 : zeroOf Try.prog 37 = some (.agg [.int .u8 0, .int .u8 0, .int .u8 0, .int .u8 0, .int .u8 0, .int .u8 0, .int .u8 0, .int .u8 0, .int .u8 0, .int .u8 0, .int .u8 0, .int .u8 0, .int .u8 0, .int .u8 0, .int .u8 0, .int .u8 0, .int .u64 0, .int .u64 0, .int .u64 0]) := by kernel_rfl
attribute [simp] Try.underlying37
@[simp] theorem sz38 : szOf Try.prog 38 = 19 := by kernel_rfl
@[simp] theorem ag38 : aggQ Try.prog 38 = some true := by kernel_rfl
@[simp] theorem by38 : bytesOf Try.prog 38 = 40 := by kernel_rfl
@[simp] theorem zo38 : zeroOf Try.prog 38 = some (.agg [.int .u8 0, .int .u8 0, .int .u8 0, .int .u8 0, .int .u8 0, .int .u8 0, .int .u8 0, .int .u8 0, .int .u8 0, .int .u8 0, .int .u8 0, .int .u8 0, .int .u8 0, .int .u8 0, .int .u8 0, .int .u8 0, .int .u64 0, .int .u64 0, .int .u64 0]) := by kernel_rfl
attribute [simp] Try.underlying38
@[simp] theorem sz42 : szOf Try.prog 42 = 1 := by kernel_rfl
@[simp] theorem ag42 : aggQ Try.prog 42 = some false := by kernel_rfl
@[simp] theorem by42 : bytesOf Try.prog 42 = 8 := by kernel_rfl
@[simp] theorem zo42 : zeroOf Try.prog 42 = some (.nilp) := by kernel_rfl
@[simp] theorem un42 : Try.prog.underlying 42 = some (.pointer 44) := by kernel_rfl
@[simp] theorem sz43 : szOf Try.prog 43 = 2 := by kernel_rfl
@[simp] theorem ag43 : aggQ Try.prog 43 = some true := by kernel_rfl
@[simp] theorem by43 : bytesOf Try.prog 43 = 32 := by kernel_rfl
@[simp] theorem zo43 : zeroOf Try.prog 43 = some (.agg [.vsl true [] 0, .int .i64 0]) := by kernel_rfl
attribute [simp] Try.underlying43
@[simp] theorem sz44 : szOf Try.prog 44 = 2 := by kernel_rfl
@[simp] theorem ag44 : aggQ Try.prog 44 = some true := by kernel_rfl
@[simp] theorem by44 : bytesOf Try.prog 44 = 32 := by kernel_rfl
@[simp] theorem zo44 : zeroOf Try.prog 44 = some (.agg [.vsl true [] 0, .int .i64 0]) := by kernel_rfl
attribute [simp] Try.underlying44
@[simp] theorem sz49 : szOf Try.prog 49 = 1 := by kernel_rfl
@[simp] theorem ag49 : aggQ Try.prog 49 = some false := by kernel_rfl
@[simp] theorem by49 : bytesOf Try.prog 49 = 24 := by kernel_rfl
@[simp] theorem zo49 : zeroOf Try.prog 49 = some (.vsl true [] 0) := by kernel_rfl
@[simp] theorem un49 : Try.prog.underlying 49 = some (.slice 5) := by kernel_rfl
@[simp] theorem sz66 : szOf Try.prog 66 = 1 := by kernel_rfl
@[simp] theorem ag66 : aggQ Try.prog 66 = some false := by kernel_rfl
@[simp] theorem by66 : bytesOf Try.prog 66 = 24 := by kernel_rfl
@[simp] theorem zo66 : zeroOf Try.prog 66 = some (.vsl true [] 0) := by kernel_rfl
@[simp] theorem un66 : Try.prog.underlying 66 = some (.slice 25) := by kernel_rfl
@[simp] theorem sz73 : szOf Try.prog 73 = 1 := by kernel_rfl
@[simp] theorem ag73 : aggQ Try.prog 73 = some false := by kernel_rfl
@[simp] theorem by73 : bytesOf Try.prog 73 = 8 := by kernel_rfl
@[simp] theorem zo73 : zeroOf Try.prog 73 = some (.nilf) := by kernel_rfl
@[simp] theorem sz75 : szOf Try.prog 75 = 1 := by kernel_rfl
@[simp] theorem ag75 : aggQ Try.prog 75 = some false := by kernel_rfl
@[simp] theorem by75 : bytesOf Try.prog 75 = 8 := by kernel_rfl
@[simp] theorem zo75 : zeroOf Try.prog 75 = some (.nilf) := by kernel_rfl
@[simp] theorem sz77 : szOf Try.prog 77 = 1 := by kernel_rfl
@[simp] theorem ag77 : aggQ Try.prog 77 = some false := by kernel_rfl
@[simp] theorem by77 : bytesOf Try.prog 77 = 8 := by kernel_rfl
@[simp] theorem zo77 : zeroOf Try.prog 77 = some (.int .u64 0) := by kernel_rfl
@[simp] theorem un77 : Try.prog.underlying 77 = some (.int .u64) := by kernel_rfl
@[simp] theorem sz83 : szOf Try.prog 83 = 1 := by kernel_rfl
@[simp] theorem ag83 : aggQ Try.prog 83 = some false := by kernel_rfl
@[simp] theorem by83 : bytesOf Try.prog 83 = 8 := by kernel_rfl
@[simp] theorem zo83 : zeroOf Try.prog 83 = some (.int .i64 0) := by kernel_rfl
@[simp] theorem un83 : Try.prog.underlying 83 = some (.int .i64) := by kernel_rfl
@[simp] theorem sz91 : szOf Try.prog 91 = 1 := by kernel_rfl
@[simp] theorem ag91 : aggQ Try.prog 91 = some false := by kernel_rfl
@[simp] theorem by91 : bytesOf Try.prog 91 = 4 := by kernel_rfl
@[simp] theorem zo91 : zeroOf Try.prog 91 = some (.int .u32 0) := by kernel_rfl
@[simp] theorem un91 : Try.prog.underlying 91 = some (.int .u32) := by kernel_rfl
@[simp] theorem sz93 : szOf Try.prog 93 = 1 := by kernel_rfl
@[simp] theorem ag93 : aggQ Try.prog 93 = some false := by kernel_rfl
@[simp] theorem by93 : bytesOf Try.prog 93 = 8 := by kernel_rfl
@[simp] theorem zo93 : zeroOf Try.prog 93 = some (.int .u64 0) := by kernel_rfl
@[simp] theorem un93 : Try.prog.underlying 93 = some (.int .u64) := by kernel_rfl
@[simp] theorem sz97 : szOf Try.prog 97 = 1 := by kernel_rfl
@[simp] theorem ag97 : aggQ Try.prog 97 = some false := by kernel_rfl
@[simp] theorem by97 : bytesOf Try.prog 97 = 8 := by kernel_rfl
@[simp] theorem zo97 : zeroOf Try.prog 97 = some (.nilp) := by kernel_rfl
@[simp] theorem un97 : Try.prog.underlying 97 = some (.pointer 3) := by kernel_rfl
@[simp] theorem sz117 : szOf Try.prog 117 = 2 := by kernel_rfl
@[simp] theorem ag117 : aggQ Try.prog 117 = some true := by kernel_rfl
@[simp] theorem by117 : bytesOf Try.prog 117 = 32 := by kernel_rfl
@[simp] theorem zo117 : zeroOf Try.prog 117 = some (.agg [.str [], .str []]) := by kernel_rfl
attribute [simp] Try.underlying117
@[simp] theorem sz118 : szOf Try.prog 118 = 2 := by kernel_rfl
@[simp] theorem ag118 : aggQ Try.prog 118 = some true := by kernel_rfl
@[simp] theorem by118 : bytesOf Try.prog 118 = 32 := by kernel_rfl
@[simp] theorem zo118 : zeroOf Try.prog 118 = some (.agg [.str [], .str []]) := by kernel_rfl
attribute [simp] Try.underlying118
@[simp] theorem pl3 : plainTy Try.prog 50 3 = some [.i] := by kernel_rfl
@[simp] theorem eg3 : Try.prog.eqGuardType Try.prog.depth 3 = false := by kernel_rfl
@[simp] theorem pl4 : plainTy Try.prog 50 4 = some [.b] := by kernel_rfl
@[simp] theorem eg4 : Try.prog.eqGuardType Try.prog.depth 4 = false := by kernel_rfl
@[simp] theorem pl5 : plainTy Try.prog 50 5 = some [.i] := by kernel_rfl
@[simp] theorem eg5 : Try.prog.eqGuardType Try.prog.depth 5 = false := by kernel_rfl
@[simp] theorem pl9 : plainTy Try.prog 50 9 = some [.s] := by kernel_rfl
@[simp] theorem eg9 : Try.prog.eqGuardType Try.prog.depth 9 = false := by kernel_rfl
@[simp] theorem pl25 : plainTy Try.prog 50 25 = some [.i] := by kernel_rfl
@[simp] theorem eg25 : Try.prog.eqGuardType Try.prog.depth 25 = false := by kernel_rfl
@[simp] theorem pl27 : plainTy Try.prog 50 27 = some [.i, .i, .i, .i, .i, .i, .i, .i, .i, .i, .i, .i, .i, .i, .i, .i] := by kernel_rfl
@[simp] theorem eg27 : Try.prog.eqGuardType Try.prog.depth 27 = false := by kernel_rfl
@[simp] theorem pl38 : plainTy Try.prog 50 38 = some [.i, .i, .i, .i, .i, .i, .i, .i, .i, .i, .i, .i, .i, .i, .i, .i, .i, .i, .i] := by kernel_rfl
@[simp] theorem eg38 : Try.prog.eqGuardType Try.prog.depth 38 = false := by kernel_rfl
@[simp] theorem pl83 : plainTy Try.prog 50 83 = some [.i] := by kernel_rfl
@[simp] theorem eg83 : Try.prog.eqGuardType Try.prog.depth 83 = false := by kernel_rfl
end Go.Ev.S1
