import Derived.Test.YtknidmbkmglfaaaDoorC3
import Derived.Test.YtknidmbkmglfaaaDoorRows
import Derived.Shelf.LaysM
import Derived.Shelf.Strconv.Clone
import Derived.Shelf.Strings.Search2
import Derived.Shelf.Strings.Repeat
import Derived.Test.YtknidmbkmglfaaaDoorProg
/- What the evaluator needs of this program: printed by program. -/
namespace Go.Ev.S
open Go Go.Proofs Go.Ev
def kf3 : Nat → Option (List Nat × Nat)
  | 0 => some ([0, 1, 2, 3, 4, 5], 0)
  | 1 => some ([0, 2, 3, 4, 5, 7], 0)
  | 2 => some ([0, 2, 3, 4, 5, 7, 13], 0)
  | 3 => some ([], 0)
  | 4 => some ([0, 2, 3, 4, 5, 7, 13], 0)
  | 5 => some ([2, 3, 4, 5, 7, 13, 14], 0)
  | 6 => some ([2, 3, 4, 5, 7, 13, 14], 0)
  | 7 => some ([4, 5, 13, 14], 0)
  | 8 => some ([4, 5, 13, 14, 15], 0)
  | 9 => some ([], 0)
  | 10 => some ([4, 5, 13, 14, 15], 0)
  | 11 => some ([4, 5, 13, 14, 15, 16, 17], 0)
  | 12 => some ([4, 5, 13, 14, 15, 16, 17, 18], 0)
  | 13 => some ([5, 13, 14, 15, 16, 17, 18, 19], 0)
  | 14 => some ([5, 13, 14, 15, 16, 17, 18, 19], 0)
  | 15 => some ([5, 13, 14, 15, 16, 17, 18, 19, 20, 21], 0)
  | 16 => some ([5, 13, 14, 15, 16, 17, 18, 20, 21, 22, 23], 0)
  | 17 => some ([5, 13, 14, 16, 17, 18, 20, 21, 22, 23, 25], 0)
  | _ => none
def kf4 : Nat → Option (List Nat × Nat)
  | 0 => some ([], 0)
  | 1 => some ([], 0)
  | 2 => some ([1, 2], 0)
  | _ => none
def kf5 : Nat → Option (List Nat × Nat)
  | 0 => some ([0, 1], 0)
  | 1 => some ([0, 1], 0)
  | 2 => some ([], 0)
  | 3 => some ([0, 1], 0)
  | _ => none
def kf6 : Nat → Option (List Nat × Nat)
  | 0 => some ([0], 0)
  | 1 => some ([1], 0)
  | 2 => some ([1, 4], 0)
  | 3 => some ([], 0)
  | 4 => some ([1, 4], 0)
  | 5 => some ([], 0)
  | 6 => some ([1, 4], 0)
  | 7 => some ([1], 0)
  | 8 => some ([1, 4], 0)
  | 9 => some ([1], 0)
  | 10 => some ([1], 0)
  | 11 => some ([], 0)
  | _ => none
def kf7 : Nat → Option (List Nat × Nat)
  | 0 => some ([0], 0)
  | 1 => some ([0, 2], 0)
  | 2 => some ([0, 2, 4], 0)
  | 3 => some ([2], 0)
  | 4 => some ([0, 2, 4], 0)
  | 5 => some ([2], 0)
  | 6 => some ([0, 2, 4], 0)
  | 7 => some ([0, 2, 4], 0)
  | 8 => some ([0, 2, 4], 0)
  | 9 => some ([0, 2, 4, 5], 0)
  | 10 => some ([0, 2, 4, 6], 0)
  | 11 => some ([2], 0)
  | 12 => some ([0, 2, 4, 6], 0)
  | 13 => some ([0, 2, 4, 6], 0)
  | 14 => some ([0, 2, 4, 6], 0)
  | 15 => some ([0, 2, 4], 0)
  | 16 => some ([2], 0)
  | 17 => some ([2, 4], 0)
  | _ => none
def kf8 : Nat → Option (List Nat × Nat)
  | 0 => some ([0], 0)
  | 1 => some ([1], 0)
  | 2 => some ([1, 3], 0)
  | 3 => some ([6, 7], 0)
  | 4 => some ([3, 6, 7], 0)
  | 5 => some ([3, 5, 6, 7], 0)
  | 6 => some ([3, 6, 7], 0)
  | 7 => some ([3], 0)
  | _ => none
def kf9 : Nat → Option (List Nat × Nat)
  | 0 => some ([0], 0)
  | 1 => some ([0], 0)
  | 2 => some ([3], 0)
  | _ => none
def kf10 : Nat → Option (List Nat × Nat)
  | 0 => some ([0, 1], 0)
  | 1 => some ([0, 1], 0)
  | _ => none
def kf11 : Nat → Option (List Nat × Nat)
  | 0 => some ([0, 1], 0)
  | 1 => some ([0, 1], 0)
  | _ => none
def kf12 : Nat → Option (List Nat × Nat)
  | 0 => some ([0, 1], 0)
  | 1 => some ([0, 1], 0)
  | _ => none
def kf13 : Nat → Option (List Nat × Nat)
  | 0 => some ([0, 1], 0)
  | 1 => some ([0, 1], 0)
  | _ => none
def kf14 : Nat → Option (List Nat × Nat)
  | 0 => some ([0], 0)
  | 1 => some ([0, 2], 0)
  | 2 => some ([0, 2, 4], 0)
  | 3 => some ([2], 0)
  | 4 => some ([0, 2, 4], 0)
  | 5 => some ([0, 2, 4, 12, 13], 0)
  | 6 => some ([0, 2, 4, 12, 13], 0)
  | 7 => some ([0, 2, 4, 5, 12, 13], 0)
  | 8 => some ([0, 2, 4, 5, 6, 12, 13], 0)
  | 9 => some ([2], 0)
  | 10 => some ([0, 2, 4, 5, 6, 12, 13], 0)
  | 11 => some ([0, 2, 4, 12, 13], 0)
  | 12 => some ([2, 4], 0)
  | _ => none
def kf15 : Nat → Option (List Nat × Nat)
  | 0 => some ([0], 0)
  | 1 => some ([0], 0)
  | 2 => some ([0, 4, 5], 0)
  | 3 => some ([], 0)
  | 4 => some ([4], 0)
  | _ => none
def kf16 : Nat → Option (List Nat × Nat)
  | 0 => some ([0, 1], 0)
  | 1 => some ([0, 1], 0)
  | _ => none
def kf18 : Nat → Option (List Nat × Nat)
  | 0 => some ([0, 1], 0)
  | 1 => some ([0, 1], 0)
  | _ => none
def kf19 : Nat → Option (List Nat × Nat)
  | 0 => some ([0, 1], 0)
  | 1 => some ([0, 1], 0)
  | 2 => some ([0, 1], 0)
  | 3 => some ([0], 0)
  | _ => none
def kf20 : Nat → Option (List Nat × Nat)
  | 0 => some ([0, 1], 0)
  | 1 => some ([0, 1], 0)
  | 2 => some ([0, 1], 0)
  | 3 => some ([0], 0)
  | _ => none
def kf21 : Nat → Option (List Nat × Nat)
  | 0 => some ([0, 1, 2, 3], 0)
  | 1 => some ([0, 1, 2, 3], 0)
  | 2 => some ([], 0)
  | 3 => some ([0, 1, 2, 3], 0)
  | 4 => some ([0, 3], 0)
  | 5 => some ([0, 1, 2, 3], 0)
  | 6 => some ([0, 1, 2], 0)
  | 7 => some ([0, 1, 2, 3], 0)
  | 8 => some ([0, 1, 2, 3], 0)
  | 9 => some ([0, 1, 2, 3, 9], 0)
  | 10 => some ([0, 1, 2, 3, 9], 0)
  | 11 => some ([0, 1, 2, 3, 9, 10], 0)
  | 12 => some ([0, 1, 2, 3, 9, 10], 0)
  | 13 => some ([0, 1, 2, 3, 9, 10, 11], 0)
  | 14 => some ([0, 1, 2, 3, 9, 10, 11], 0)
  | 15 => some ([0, 1, 2, 3, 9, 10, 11], 0)
  | 16 => some ([0, 1, 2, 3, 9, 10], 0)
  | 17 => some ([0, 9, 10], 0)
  | 18 => some ([9, 10], 0)
  | _ => none
def kf22 : Nat → Option (List Nat × Nat)
  | 0 => some ([0, 1], 0)
  | 1 => some ([0, 1], 0)
  | _ => none
def kf23 : Nat → Option (List Nat × Nat)
  | 0 => some ([0, 1, 2], 0)
  | 1 => some ([0, 1, 2], 0)
  | 2 => some ([0, 1, 2, 8, 9], 0)
  | 3 => some ([0, 1, 2, 8, 9], 0)
  | 4 => some ([8], 0)
  | _ => none
def kf24 : Nat → Option (List Nat × Nat)
  | 0 => some ([0, 1], 0)
  | 1 => some ([0, 1], 0)
  | 2 => some ([0], 0)
  | 3 => some ([0], 0)
  | 4 => some ([0], 0)
  | 5 => some ([0, 5], 0)
  | 6 => some ([0, 5, 6], 0)
  | 7 => some ([5, 6], 0)
  | 8 => some ([0, 1], 0)
  | 9 => some ([8], 0)
  | _ => none
def kf31 : Nat → Option (List Nat × Nat)
  | 0 => some ([0, 1], 0)
  | 1 => some ([0, 1], 0)
  | _ => none
def kf32 : Nat → Option (List Nat × Nat)
  | 0 => some ([0, 1], 0)
  | 1 => some ([0, 1], 0)
  | 2 => some ([0, 1, 5], 0)
  | 3 => some ([0, 5], 0)
  | 4 => some ([0, 1], 0)
  | 5 => some ([0, 1, 6], 0)
  | 6 => some ([0, 1, 6, 7], 0)
  | 7 => some ([0, 1, 6, 7], 0)
  | 8 => some ([0, 1, 6, 7], 0)
  | 9 => some ([0, 1, 6, 7, 9], 0)
  | 10 => some ([0, 1, 6, 7, 9], 0)
  | 11 => some ([0, 1, 6], 0)
  | 12 => some ([0, 1, 6], 0)
  | 13 => some ([6], 0)
  | _ => none
def kf33 : Nat → Option (List Nat × Nat)
  | 0 => some ([0, 1], 0)
  | 1 => some ([0, 1], 0)
  | 2 => some ([0], 0)
  | 3 => some ([0, 1], 0)
  | 4 => some ([0, 1], 0)
  | 5 => some ([0, 1], 0)
  | 6 => some ([0, 1, 5], 0)
  | 7 => some ([0, 1, 5, 6], 0)
  | 8 => some ([5], 0)
  | 9 => some ([0, 1, 5, 6], 0)
  | 10 => some ([0, 1, 5, 6], 0)
  | _ => none
def kf34 : Nat → Option (List Nat × Nat)
  | 0 => some ([0, 1], 0)
  | 1 => some ([0, 1], 0)
  | _ => none
def kf35 : Nat → Option (List Nat × Nat)
  | 0 => some ([0, 1], 0)
  | 1 => some ([0, 1], 0)
  | _ => none
def kf36 : Nat → Option (List Nat × Nat)
  | 0 => some ([0, 1, 2], 0)
  | 1 => some ([0, 1, 2], 0)
  | 2 => some ([], 0)
  | 3 => some ([0, 1, 2], 0)
  | 4 => some ([0, 1, 2, 8], 0)
  | 5 => some ([], 0)
  | 6 => some ([0, 1, 2, 8, 9], 0)
  | 7 => some ([0, 1, 2, 8, 9], 0)
  | 8 => some ([0, 2, 8, 9], 0)
  | 9 => some ([0, 1, 2, 8, 9], 0)
  | 10 => some ([0, 2, 8, 9], 0)
  | 11 => some ([0, 1, 2, 8, 9], 0)
  | 12 => some ([0, 2, 8, 9], 0)
  | 13 => some ([0, 2, 8, 9], 0)
  | 14 => some ([0, 1, 2, 8, 9], 0)
  | 15 => some ([0, 2, 8, 9], 0)
  | 16 => some ([0, 2, 8, 9], 0)
  | 17 => some ([0, 1, 2, 8, 9], 0)
  | 18 => some ([0, 2, 8, 9], 0)
  | 19 => some ([0, 2, 8, 9], 0)
  | 20 => some ([0, 1, 2, 8, 9], 0)
  | 21 => some ([0, 1, 2, 8, 9], 0)
  | 22 => some ([0, 1, 8, 9], 0)
  | 23 => some ([0, 1, 2, 8, 9], 0)
  | 24 => some ([], 0)
  | 25 => some ([0, 1, 2, 8, 9], 0)
  | 26 => some ([0, 1, 2, 8, 9], 0)
  | 27 => some ([0, 1, 2, 8, 9], 0)
  | 28 => some ([0, 1, 2, 8, 9, 85], 0)
  | 29 => some ([0, 1, 2, 8, 9], 0)
  | 30 => some ([0, 1, 2, 8, 9, 85], 0)
  | 31 => some ([0, 1, 2, 8, 9], 0)
  | 32 => some ([0, 1, 2, 8, 9, 10], 0)
  | 33 => some ([0, 1, 8, 9, 10, 11], 0)
  | 34 => some ([0, 1, 8, 9, 10, 11, 12], 0)
  | 35 => some ([0, 1, 8, 9, 10, 11, 12, 13], 0)
  | 36 => some ([1, 8, 9, 10, 11, 12, 13, 99, 100, 101], 0)
  | 37 => some ([1, 8, 9, 10, 11, 12, 13, 99, 100, 101], 0)
  | 38 => some ([1, 8, 9, 10, 11, 12, 13, 15, 99, 100, 101], 0)
  | 39 => some ([], 0)
  | 40 => some ([1, 8, 9, 10, 11, 12, 13, 15, 99, 100, 101], 0)
  | 41 => some ([1, 8, 9, 10, 11, 13, 99, 100, 101], 0)
  | 42 => some ([1, 8, 9, 10, 11, 12, 13, 15, 99, 100, 101], 0)
  | 43 => some ([1, 8, 9, 10, 11, 12, 13, 15, 99, 100, 101], 0)
  | 44 => some ([1, 8, 9, 10, 11, 12, 13, 15, 99, 100, 101], 0)
  | 45 => some ([1, 8, 9, 10, 11, 12, 13, 15, 99, 100, 101], 0)
  | 46 => some ([1, 8, 9, 10, 11, 12, 13, 16, 99, 100, 101], 0)
  | 47 => some ([], 0)
  | 48 => some ([1, 8, 9, 10, 11, 12, 13, 16, 99, 100, 101], 0)
  | 49 => some ([11], 0)
  | 50 => some ([1, 8, 9, 10, 11, 12, 13, 16, 99, 100, 101], 0)
  | 51 => some ([1, 8, 9, 10, 11, 12, 13, 16, 99, 100, 101], 0)
  | 52 => some ([1, 8, 9, 10, 11, 12, 13, 17, 99, 100, 101], 0)
  | 53 => some ([11], 0)
  | 54 => some ([1, 8, 9, 10, 11, 12, 17, 99, 100, 101], 0)
  | 55 => some ([1, 8, 9, 10, 11, 12, 13, 99, 100, 101], 0)
  | 56 => some ([9, 12, 13], 0)
  | 57 => some ([], 0)
  | 58 => some ([13], 0)
  | _ => none
def kf37 : Nat → Option (List Nat × Nat)
  | 0 => some ([0, 1, 2, 3, 4], 0)
  | 1 => some ([0, 1, 2, 3, 4], 0)
  | 2 => some ([0, 1, 2, 3, 4, 11], 0)
  | 3 => some ([0, 1], 0)
  | 4 => some ([0, 1, 2, 3, 4, 11], 0)
  | 5 => some ([0, 1], 0)
  | 6 => some ([0, 1, 2, 3, 4, 11], 0)
  | 7 => some ([0, 1, 2], 0)
  | 8 => some ([0, 1, 3, 4, 11], 0)
  | 9 => some ([0, 1, 3], 0)
  | 10 => some ([4], 0)
  | _ => none
def kf38 : Nat → Option (List Nat × Nat)
  | 0 => some ([0], 0)
  | 1 => some ([0], 0)
  | 2 => some ([0], 0)
  | 3 => some ([0], 0)
  | _ => none
def kf39 : Nat → Option (List Nat × Nat)
  | 0 => some ([0], 0)
  | 1 => some ([0], 0)
  | 2 => some ([0, 3], 0)
  | _ => none
def kf40 : Nat → Option (List Nat × Nat)
  | 0 => some ([0, 1], 0)
  | 1 => some ([0, 1, 4], 0)
  | 2 => some ([0, 1, 4], 0)
  | 3 => some ([0, 1, 4, 5], 0)
  | 4 => some ([0, 1, 4, 5], 0)
  | 5 => some ([0, 1, 4, 6, 7], 0)
  | 6 => some ([0, 1, 4, 6, 8, 9], 0)
  | 7 => some ([0, 1, 4, 8, 9, 10, 11], 0)
  | 8 => some ([0, 1, 4, 8, 10, 11], 0)
  | 9 => some ([0, 1, 4, 10, 11], 0)
  | 10 => some ([0, 1, 4, 10], 0)
  | 11 => some ([0, 1, 4], 0)
  | 12 => some ([0, 1, 4], 0)
  | 13 => some ([0, 4, 12], 0)
  | 14 => some ([0, 4, 12], 0)
  | 15 => some ([0, 4, 12, 13], 0)
  | 16 => some ([0, 4, 12, 13], 0)
  | 17 => some ([0, 4, 12, 14, 15], 0)
  | 18 => some ([0, 4, 12, 14], 0)
  | 19 => some ([0, 4, 12], 0)
  | 20 => some ([0, 4, 12], 0)
  | 21 => some ([0, 4, 12], 0)
  | 22 => some ([0, 4, 12, 16], 0)
  | 23 => some ([0, 4, 12, 16], 0)
  | 24 => some ([0, 4, 12], 0)
  | 25 => some ([0, 4, 12], 0)
  | 26 => some ([0, 12], 0)
  | _ => none
def kf41 : Nat → Option (List Nat × Nat)
  | 0 => some ([0, 1, 2, 3, 4], 0)
  | 1 => some ([0, 1, 2, 3, 4, 10, 11], 0)
  | 2 => some ([0, 1, 2, 3, 4, 10, 11], 0)
  | 3 => some ([0, 1, 2, 3, 4, 10, 11], 0)
  | 4 => some ([0, 1, 2, 3, 4, 10, 11, 12], 0)
  | 5 => some ([0, 1, 2, 3, 4, 10, 11, 12, 13], 0)
  | 6 => some ([0, 1, 2, 3, 4, 10, 11, 12, 13], 0)
  | 7 => some ([0, 1, 2, 3, 4, 10, 11, 12, 13], 0)
  | 8 => some ([0, 1, 2, 3, 4, 10, 11, 12, 13], 0)
  | 9 => some ([0, 1, 2, 3, 4, 10, 11, 12, 13, 14], 0)
  | 10 => some ([0, 1, 2, 3, 4, 10, 11, 12, 13, 14, 15], 0)
  | 11 => some ([0, 1, 3, 4, 10, 11, 12, 13, 14, 15, 16], 0)
  | 12 => some ([0, 1, 3, 4, 10, 11, 12, 13, 14, 15, 16], 0)
  | 13 => some ([0, 1, 3, 4, 10, 11, 12, 13, 14, 15, 16], 0)
  | 14 => some ([0, 1, 3, 4, 10, 11, 12, 13, 14, 15, 16], 0)
  | 15 => some ([0, 1, 3, 4, 10, 11, 12, 13], 0)
  | 16 => some ([0, 1, 3, 4, 10, 11, 12, 13], 0)
  | 17 => some ([0, 1, 2, 3, 4, 10, 11, 12, 13], 0)
  | 18 => some ([0, 1, 3, 4, 10, 11, 12, 13, 17], 0)
  | 19 => some ([0, 1, 3, 4, 10, 11, 12, 13, 17], 0)
  | 20 => some ([0, 1, 3, 4, 10, 11, 12, 13, 17], 0)
  | 21 => some ([0, 1, 3, 4, 10, 11, 12, 13, 17, 18], 0)
  | 22 => some ([0, 3, 4, 10, 11, 12, 13, 17, 18], 0)
  | 23 => some ([0, 1, 3, 4, 10, 11, 12, 13], 0)
  | 24 => some ([0, 1, 3, 4, 10, 11, 12, 13], 0)
  | 25 => some ([0, 3, 4, 10, 11, 12, 13], 0)
  | 26 => some ([0, 4, 10, 11, 12, 13], 0)
  | 27 => some ([0, 4, 10, 11, 12, 13], 0)
  | 28 => some ([0, 4, 10, 11, 12, 13], 0)
  | 29 => some ([0, 11, 12, 13], 0)
  | 30 => some ([10, 12, 13], 0)
  | _ => none
def kf46 : Nat → Option (List Nat × Nat)
  | 0 => some ([0], 0)
  | 1 => some ([0, 2], 0)
  | 2 => some ([2, 4], 0)
  | 3 => some ([2, 4], 0)
  | 4 => some ([2], 0)
  | _ => none
def kf47 : Nat → Option (List Nat × Nat)
  | 0 => some ([0], 0)
  | 1 => some ([0], 0)
  | 2 => some ([0], 0)
  | 3 => some ([0], 0)
  | _ => none
def kf51 : Nat → Option (List Nat × Nat)
  | 0 => some ([0], 0)
  | 1 => some ([0], 0)
  | _ => none
def kf52 : Nat → Option (List Nat × Nat)
  | 0 => some ([0], 0)
  | 1 => some ([0], 0)
  | 2 => some ([0, 3], 0)
  | 3 => some ([0, 3, 4], 0)
  | 4 => some ([0, 3, 4], 0)
  | 5 => some ([0, 3, 4], 0)
  | 6 => some ([0, 3, 4, 5], 0)
  | 7 => some ([0], 0)
  | 8 => some ([0, 4], 0)
  | 9 => some ([0, 3, 4], 0)
  | 10 => some ([0, 3, 4, 5], 0)
  | 11 => some ([0, 3, 4, 5], 0)
  | 12 => some ([0, 3, 4, 5], 0)
  | 13 => some ([0, 4, 5], 0)
  | 14 => some ([0, 3, 4, 5], 0)
  | 15 => some ([0, 3, 4, 5], 0)
  | 16 => some ([], 0)
  | 17 => some ([0, 4, 5], 0)
  | 18 => some ([0, 3, 4, 5], 0)
  | 19 => some ([], 0)
  | 20 => some ([0, 4, 5], 0)
  | 21 => some ([3], 0)
  | _ => none
def kf53 : Nat → Option (List Nat × Nat)
  | 0 => some ([0, 1], 0)
  | 1 => some ([0, 1], 0)
  | _ => none
def kf54 : Nat → Option (List Nat × Nat)
  | 0 => some ([0, 1], 0)
  | 1 => some ([0, 1], 0)
  | _ => none
def kf55 : Nat → Option (List Nat × Nat)
  | 0 => some ([0, 1, 2], 0)
  | 1 => some ([0, 1, 2], 0)
  | _ => none
def kf56 : Nat → Option (List Nat × Nat)
  | 0 => some ([0, 1, 2], 0)
  | 1 => some ([0, 1, 2], 0)
  | _ => none
def kf57 : Nat → Option (List Nat × Nat)
  | 0 => some ([0], 0)
  | 1 => some ([0], 0)
  | _ => none
def kf58 : Nat → Option (List Nat × Nat)
  | 0 => some ([0], 0)
  | 1 => some ([0, 2], 0)
  | 2 => some ([0], 0)
  | 3 => some ([0], 0)
  | 4 => some ([0, 2], 0)
  | 5 => some ([0, 2], 0)
  | 6 => some ([0, 2], 0)
  | 7 => some ([0, 2], 0)
  | 8 => some ([0, 2], 0)
  | 9 => some ([0, 2], 0)
  | 10 => some ([0, 2], 0)
  | _ => none
def kf59 : Nat → Option (List Nat × Nat)
  | 0 => some ([0], 0)
  | 1 => some ([0], 0)
  | 2 => some ([], 0)
  | 3 => some ([], 0)
  | _ => none
def kf60 : Nat → Option (List Nat × Nat)
  | 0 => some ([0], 0)
  | 1 => some ([0], 0)
  | _ => none
def kf61 : Nat → Option (List Nat × Nat)
  | 0 => some ([0], 0)
  | 1 => some ([0], 0)
  | 2 => some ([0], 0)
  | _ => none
def kf64 : Nat → Option (List Nat × Nat)
  | 0 => some ([0], 0)
  | 1 => some ([0], 0)
  | 2 => some ([0, 4], 0)
  | 3 => some ([], 0)
  | 4 => some ([0, 4], 0)
  | 5 => some ([0, 4, 5], 0)
  | 6 => some ([0, 4, 5, 6], 0)
  | 7 => some ([0, 6], 0)
  | 8 => some ([0, 7], 0)
  | 9 => some ([0, 4, 5, 6], 0)
  | 10 => some ([0, 4, 5, 6, 8], 0)
  | 11 => some ([0, 4, 5, 8, 9], 0)
  | 12 => some ([], 0)
  | 13 => some ([0, 5, 8, 9], 0)
  | 14 => some ([0, 5, 8, 9, 10], 0)
  | 15 => some ([], 0)
  | 16 => some ([0, 5, 8, 10], 0)
  | 17 => some ([5, 10], 0)
  | 18 => some ([0, 5, 8, 10], 0)
  | 19 => some ([0, 5, 8, 10, 11], 0)
  | 20 => some ([], 0)
  | 21 => some ([0, 5, 8, 10, 11], 0)
  | 22 => some ([5, 10, 11], 0)
  | 23 => some ([0, 5, 10, 11], 0)
  | 24 => some ([5, 10, 11, 12], 0)
  | 25 => some ([], 0)
  | 26 => some ([5, 10, 11, 12], 0)
  | _ => none
def kf69 : Nat → Option (List Nat × Nat)
  | 0 => some ([0], 0)
  | 1 => some ([0], 0)
  | _ => none
def kf70 : Nat → Option (List Nat × Nat)
  | 0 => some ([0], 0)
  | 1 => some ([0], 0)
  | _ => none
def kf71 : Nat → Option (List Nat × Nat)
  | 0 => some ([0], 0)
  | 1 => some ([0], 0)
  | 2 => some ([], 0)
  | 3 => some ([0], 0)
  | _ => none
def kf72 : Nat → Option (List Nat × Nat)
  | 0 => some ([0], 0)
  | 1 => some ([0], 0)
  | 2 => some ([], 0)
  | 3 => some ([0], 0)
  | _ => none
def kf74 : Nat → Option (List Nat × Nat)
  | 0 => some ([0], 0)
  | 1 => some ([0], 0)
  | _ => none
def kf75 : Nat → Option (List Nat × Nat)
  | 0 => some ([0, 1], 0)
  | 1 => some ([0, 1], 0)
  | 2 => some ([0], 0)
  | 3 => some ([0], 0)
  | 4 => some ([0], 0)
  | 5 => some ([0, 5], 0)
  | 6 => some ([0, 5, 6], 0)
  | 7 => some ([0, 5, 6], 0)
  | 8 => some ([0, 5, 6], 0)
  | 9 => some ([0, 5, 6, 7], 0)
  | 10 => some ([0, 5, 7], 0)
  | 11 => some ([5, 7], 0)
  | 12 => some ([5, 7], 0)
  | 13 => some ([5, 7], 0)
  | 14 => some ([0, 1], 0)
  | 15 => some ([9], 0)
  | _ => none
def keepT : Nat → Nat → Option (List Nat × Nat)
  | 3 => kf3
  | 4 => kf4
  | 5 => kf5
  | 6 => kf6
  | 7 => kf7
  | 8 => kf8
  | 9 => kf9
  | 10 => kf10
  | 11 => kf11
  | 12 => kf12
  | 13 => kf13
  | 14 => kf14
  | 15 => kf15
  | 16 => kf16
  | 18 => kf18
  | 19 => kf19
  | 20 => kf20
  | 21 => kf21
  | 22 => kf22
  | 23 => kf23
  | 24 => kf24
  | 31 => kf31
  | 32 => kf32
  | 33 => kf33
  | 34 => kf34
  | 35 => kf35
  | 36 => kf36
  | 37 => kf37
  | 38 => kf38
  | 39 => kf39
  | 40 => kf40
  | 41 => kf41
  | 46 => kf46
  | 47 => kf47
  | 51 => kf51
  | 52 => kf52
  | 53 => kf53
  | 54 => kf54
  | 55 => kf55
  | 56 => kf56
  | 57 => kf57
  | 58 => kf58
  | 59 => kf59
  | 60 => kf60
  | 61 => kf61
  | 64 => kf64
  | 69 => kf69
  | 70 => kf70
  | 71 => kf71
  | 72 => kf72
  | 74 => kf74
  | 75 => kf75
  | _ => fun _ => none
def frzT : Nat → Nat → List Nat
  | _, _ => []
def retT : Nat → Nat → List Nat
  | 8, 3 => [3]
  | _, _ => []
def permT : Nat → Bool
  | _ => false
def byRefT : Nat → Bool
  | _ => false
def badT : Nat → Bool
  | 2 => true
  | 17 => true
  | 25 => true
  | 26 => true
  | 27 => true
  | 28 => true
  | 29 => true
  | 30 => true
  | 42 => true
  | 43 => true
  | 44 => true
  | 45 => true
  | 49 => true
  | 66 => true
  | 67 => true
  | 68 => true
  | 73 => true
  | 105 => true
  | _ => false
def pureT : Nat → Bool
  | 5 => true
  | 6 => true
  | 7 => true
  | 8 => true
  | 9 => true
  | 10 => true
  | 11 => true
  | 12 => true
  | 14 => true
  | 15 => true
  | 16 => true
  | 17 => true
  | 22 => true
  | 23 => true
  | 24 => true
  | 33 => true
  | 34 => true
  | 35 => true
  | 41 => true
  | 51 => true
  | 60 => true
  | 61 => true
  | 68 => true
  | 72 => true
  | _ => false
def fzrT : Nat → Bool
  | _ => true
def extT : Nat → List D → Option D
  | 50 => idxBExt
  | 48 => cntExt
  | _ => fun _ => none
def conT : Nat → List D → Heap → Option (D × Heap)
  | 49 => conIdx
  | 68 => conClone
  | 17 => conRepeat
  | _ => fun _ _ => none
def gz0 : List Int := [1, 10, 100, 1000, 10000, 100000, 1000000, 10000000, 100000000, 1000000000, 10000000000, 100000000000, 1000000000000, 10000000000000, 100000000000000, 1000000000000000, 10000000000000000, 100000000000000000, 1000000000000000000, 10000000000000000000]
def gd0 : List D := gz0.map (D.int .u64)
def gs2 : List UInt8 := [105, 110, 118, 97, 108, 105, 100, 32, 115, 121, 110, 116, 97, 120]
def gs3 : List UInt8 := [118, 97, 108, 117, 101, 32, 111, 117, 116, 32, 111, 102, 32, 114, 97, 110, 103, 101]
def gz6 : List Int := [0, 1, 28, 2, 29, 14, 24, 3, 30, 22, 20, 15, 25, 17, 4, 8, 31, 27, 13, 23, 21, 19, 16, 7, 26, 12, 18, 6, 11, 5, 10, 9]
def gd6 : List D := gz6.map (D.int .u8)
def gz7 : List Int := [0, 1, 56, 2, 57, 49, 28, 3, 61, 58, 42, 50, 38, 29, 17, 4, 62, 47, 59, 36, 45, 43, 51, 22, 53, 39, 33, 30, 24, 18, 12, 5, 63, 55, 48, 27, 60, 41, 37, 16, 46, 35, 44, 21, 52, 32, 23, 11, 54, 26, 40, 15, 34, 20, 31, 10, 25, 14, 19, 9, 13, 8, 7, 6]
def gd7 : List D := gz7.map (D.int .u8)
def globT [MaxL] : Nat → Option (List D)
  | 0 => some gd0
  | 2 => some [.iface 106 (.vptr [.str gs2])]
  | 3 => some [.iface 106 (.vptr [.str gs3])]
  | 6 => some gd6
  | 7 => some gd7
  | 1 => some [.int .i64 MaxL.m]
  | _ => none
noncomputable def cx [MaxL] : Cx := { P := Tryd.prog, glob := globT, keep := keepT, byRef := byRefT, pureF := pureT, ext := extT, bad := badT, frz := frzT, ret := retT, fzr := fzrT, con := conT, perm := permT, dynV := true }
@[simp] theorem cxP [MaxL] : cx.P = Tryd.prog := rfl
@[simp] theorem cxD [MaxL] : cx.dynV = true := rfl
theorem cxF [MaxL] (f : Nat) : cx.P.funcs[f]? = Tryd.prog.funcs[f]? := rfl
@[simp] theorem gl0 [MaxL] : cx.glob 0 = some gd0 := rfl
@[simp] theorem gl2 [MaxL] : cx.glob 2 = some [.iface 106 (.vptr [.str gs2])] := rfl
@[simp] theorem gl3 [MaxL] : cx.glob 3 = some [.iface 106 (.vptr [.str gs3])] := rfl
@[simp] theorem gl6 [MaxL] : cx.glob 6 = some gd6 := rfl
@[simp] theorem gl7 [MaxL] : cx.glob 7 = some gd7 := rfl
@[simp] theorem br3 [MaxL] : cx.byRef 3 = false := rfl
@[simp] theorem pm3 [MaxL] : cx.perm 3 = false := rfl
@[simp] theorem pu3 [MaxL] : cx.pureF 3 = false := rfl
@[simp] theorem fz3 [MaxL] : cx.fzr 3 = true := rfl
@[simp] theorem br4 [MaxL] : cx.byRef 4 = false := rfl
@[simp] theorem pm4 [MaxL] : cx.perm 4 = false := rfl
@[simp] theorem pu4 [MaxL] : cx.pureF 4 = false := rfl
@[simp] theorem fz4 [MaxL] : cx.fzr 4 = true := rfl
@[simp] theorem br5 [MaxL] : cx.byRef 5 = false := rfl
@[simp] theorem pm5 [MaxL] : cx.perm 5 = false := rfl
@[simp] theorem pu5 [MaxL] : cx.pureF 5 = true := rfl
@[simp] theorem fz5 [MaxL] : cx.fzr 5 = true := rfl
@[simp] theorem br6 [MaxL] : cx.byRef 6 = false := rfl
@[simp] theorem pm6 [MaxL] : cx.perm 6 = false := rfl
@[simp] theorem pu6 [MaxL] : cx.pureF 6 = true := rfl
@[simp] theorem fz6 [MaxL] : cx.fzr 6 = true := rfl
@[simp] theorem br7 [MaxL] : cx.byRef 7 = false := rfl
@[simp] theorem pm7 [MaxL] : cx.perm 7 = false := rfl
@[simp] theorem pu7 [MaxL] : cx.pureF 7 = true := rfl
@[simp] theorem fz7 [MaxL] : cx.fzr 7 = true := rfl
@[simp] theorem br8 [MaxL] : cx.byRef 8 = false := rfl
@[simp] theorem pm8 [MaxL] : cx.perm 8 = false := rfl
@[simp] theorem pu8 [MaxL] : cx.pureF 8 = true := rfl
@[simp] theorem fz8 [MaxL] : cx.fzr 8 = true := rfl
@[simp] theorem br9 [MaxL] : cx.byRef 9 = false := rfl
@[simp] theorem pm9 [MaxL] : cx.perm 9 = false := rfl
@[simp] theorem pu9 [MaxL] : cx.pureF 9 = true := rfl
@[simp] theorem fz9 [MaxL] : cx.fzr 9 = true := rfl
@[simp] theorem br10 [MaxL] : cx.byRef 10 = false := rfl
@[simp] theorem pm10 [MaxL] : cx.perm 10 = false := rfl
@[simp] theorem pu10 [MaxL] : cx.pureF 10 = true := rfl
@[simp] theorem fz10 [MaxL] : cx.fzr 10 = true := rfl
@[simp] theorem br11 [MaxL] : cx.byRef 11 = false := rfl
@[simp] theorem pm11 [MaxL] : cx.perm 11 = false := rfl
@[simp] theorem pu11 [MaxL] : cx.pureF 11 = true := rfl
@[simp] theorem fz11 [MaxL] : cx.fzr 11 = true := rfl
@[simp] theorem br12 [MaxL] : cx.byRef 12 = false := rfl
@[simp] theorem pm12 [MaxL] : cx.perm 12 = false := rfl
@[simp] theorem pu12 [MaxL] : cx.pureF 12 = true := rfl
@[simp] theorem fz12 [MaxL] : cx.fzr 12 = true := rfl
@[simp] theorem br13 [MaxL] : cx.byRef 13 = false := rfl
@[simp] theorem pm13 [MaxL] : cx.perm 13 = false := rfl
@[simp] theorem pu13 [MaxL] : cx.pureF 13 = false := rfl
@[simp] theorem fz13 [MaxL] : cx.fzr 13 = true := rfl
@[simp] theorem br14 [MaxL] : cx.byRef 14 = false := rfl
@[simp] theorem pm14 [MaxL] : cx.perm 14 = false := rfl
@[simp] theorem pu14 [MaxL] : cx.pureF 14 = true := rfl
@[simp] theorem fz14 [MaxL] : cx.fzr 14 = true := rfl
@[simp] theorem br15 [MaxL] : cx.byRef 15 = false := rfl
@[simp] theorem pm15 [MaxL] : cx.perm 15 = false := rfl
@[simp] theorem pu15 [MaxL] : cx.pureF 15 = true := rfl
@[simp] theorem fz15 [MaxL] : cx.fzr 15 = true := rfl
@[simp] theorem br16 [MaxL] : cx.byRef 16 = false := rfl
@[simp] theorem pm16 [MaxL] : cx.perm 16 = false := rfl
@[simp] theorem pu16 [MaxL] : cx.pureF 16 = true := rfl
@[simp] theorem fz16 [MaxL] : cx.fzr 16 = true := rfl
@[simp] theorem br17 [MaxL] : cx.byRef 17 = false := rfl
@[simp] theorem pm17 [MaxL] : cx.perm 17 = false := rfl
@[simp] theorem pu17 [MaxL] : cx.pureF 17 = true := rfl
@[simp] theorem br18 [MaxL] : cx.byRef 18 = false := rfl
@[simp] theorem pm18 [MaxL] : cx.perm 18 = false := rfl
@[simp] theorem pu18 [MaxL] : cx.pureF 18 = false := rfl
@[simp] theorem fz18 [MaxL] : cx.fzr 18 = true := rfl
@[simp] theorem br19 [MaxL] : cx.byRef 19 = false := rfl
@[simp] theorem pm19 [MaxL] : cx.perm 19 = false := rfl
@[simp] theorem pu19 [MaxL] : cx.pureF 19 = false := rfl
@[simp] theorem fz19 [MaxL] : cx.fzr 19 = true := rfl
@[simp] theorem br20 [MaxL] : cx.byRef 20 = false := rfl
@[simp] theorem pm20 [MaxL] : cx.perm 20 = false := rfl
@[simp] theorem pu20 [MaxL] : cx.pureF 20 = false := rfl
@[simp] theorem fz20 [MaxL] : cx.fzr 20 = true := rfl
@[simp] theorem br21 [MaxL] : cx.byRef 21 = false := rfl
@[simp] theorem pm21 [MaxL] : cx.perm 21 = false := rfl
@[simp] theorem pu21 [MaxL] : cx.pureF 21 = false := rfl
@[simp] theorem fz21 [MaxL] : cx.fzr 21 = true := rfl
@[simp] theorem br22 [MaxL] : cx.byRef 22 = false := rfl
@[simp] theorem pm22 [MaxL] : cx.perm 22 = false := rfl
@[simp] theorem pu22 [MaxL] : cx.pureF 22 = true := rfl
@[simp] theorem fz22 [MaxL] : cx.fzr 22 = true := rfl
@[simp] theorem br23 [MaxL] : cx.byRef 23 = false := rfl
@[simp] theorem pm23 [MaxL] : cx.perm 23 = false := rfl
@[simp] theorem pu23 [MaxL] : cx.pureF 23 = true := rfl
@[simp] theorem fz23 [MaxL] : cx.fzr 23 = true := rfl
@[simp] theorem br24 [MaxL] : cx.byRef 24 = false := rfl
@[simp] theorem pm24 [MaxL] : cx.perm 24 = false := rfl
@[simp] theorem pu24 [MaxL] : cx.pureF 24 = true := rfl
@[simp] theorem fz24 [MaxL] : cx.fzr 24 = true := rfl
@[simp] theorem br31 [MaxL] : cx.byRef 31 = false := rfl
@[simp] theorem pm31 [MaxL] : cx.perm 31 = false := rfl
@[simp] theorem pu31 [MaxL] : cx.pureF 31 = false := rfl
@[simp] theorem fz31 [MaxL] : cx.fzr 31 = true := rfl
@[simp] theorem br32 [MaxL] : cx.byRef 32 = false := rfl
@[simp] theorem pm32 [MaxL] : cx.perm 32 = false := rfl
@[simp] theorem pu32 [MaxL] : cx.pureF 32 = false := rfl
@[simp] theorem fz32 [MaxL] : cx.fzr 32 = true := rfl
@[simp] theorem br33 [MaxL] : cx.byRef 33 = false := rfl
@[simp] theorem pm33 [MaxL] : cx.perm 33 = false := rfl
@[simp] theorem pu33 [MaxL] : cx.pureF 33 = true := rfl
@[simp] theorem fz33 [MaxL] : cx.fzr 33 = true := rfl
@[simp] theorem br34 [MaxL] : cx.byRef 34 = false := rfl
@[simp] theorem pm34 [MaxL] : cx.perm 34 = false := rfl
@[simp] theorem pu34 [MaxL] : cx.pureF 34 = true := rfl
@[simp] theorem fz34 [MaxL] : cx.fzr 34 = true := rfl
@[simp] theorem br35 [MaxL] : cx.byRef 35 = false := rfl
@[simp] theorem pm35 [MaxL] : cx.perm 35 = false := rfl
@[simp] theorem pu35 [MaxL] : cx.pureF 35 = true := rfl
@[simp] theorem fz35 [MaxL] : cx.fzr 35 = true := rfl
@[simp] theorem br36 [MaxL] : cx.byRef 36 = false := rfl
@[simp] theorem pm36 [MaxL] : cx.perm 36 = false := rfl
@[simp] theorem pu36 [MaxL] : cx.pureF 36 = false := rfl
@[simp] theorem fz36 [MaxL] : cx.fzr 36 = true := rfl
@[simp] theorem br37 [MaxL] : cx.byRef 37 = false := rfl
@[simp] theorem pm37 [MaxL] : cx.perm 37 = false := rfl
@[simp] theorem pu37 [MaxL] : cx.pureF 37 = false := rfl
@[simp] theorem fz37 [MaxL] : cx.fzr 37 = true := rfl
@[simp] theorem br38 [MaxL] : cx.byRef 38 = false := rfl
@[simp] theorem pm38 [MaxL] : cx.perm 38 = false := rfl
@[simp] theorem pu38 [MaxL] : cx.pureF 38 = false := rfl
@[simp] theorem fz38 [MaxL] : cx.fzr 38 = true := rfl
@[simp] theorem br39 [MaxL] : cx.byRef 39 = false := rfl
@[simp] theorem pm39 [MaxL] : cx.perm 39 = false := rfl
@[simp] theorem pu39 [MaxL] : cx.pureF 39 = false := rfl
@[simp] theorem fz39 [MaxL] : cx.fzr 39 = true := rfl
@[simp] theorem br40 [MaxL] : cx.byRef 40 = false := rfl
@[simp] theorem pm40 [MaxL] : cx.perm 40 = false := rfl
@[simp] theorem pu40 [MaxL] : cx.pureF 40 = false := rfl
@[simp] theorem fz40 [MaxL] : cx.fzr 40 = true := rfl
@[simp] theorem br41 [MaxL] : cx.byRef 41 = false := rfl
@[simp] theorem pm41 [MaxL] : cx.perm 41 = false := rfl
@[simp] theorem pu41 [MaxL] : cx.pureF 41 = true := rfl
@[simp] theorem fz41 [MaxL] : cx.fzr 41 = true := rfl
@[simp] theorem br46 [MaxL] : cx.byRef 46 = false := rfl
@[simp] theorem pm46 [MaxL] : cx.perm 46 = false := rfl
@[simp] theorem pu46 [MaxL] : cx.pureF 46 = false := rfl
@[simp] theorem fz46 [MaxL] : cx.fzr 46 = true := rfl
@[simp] theorem br47 [MaxL] : cx.byRef 47 = false := rfl
@[simp] theorem pm47 [MaxL] : cx.perm 47 = false := rfl
@[simp] theorem pu47 [MaxL] : cx.pureF 47 = false := rfl
@[simp] theorem fz47 [MaxL] : cx.fzr 47 = true := rfl
@[simp] theorem br48 [MaxL] : cx.byRef 48 = false := rfl
@[simp] theorem pm48 [MaxL] : cx.perm 48 = false := rfl
@[simp] theorem pu48 [MaxL] : cx.pureF 48 = false := rfl
@[simp] theorem br49 [MaxL] : cx.byRef 49 = false := rfl
@[simp] theorem pm49 [MaxL] : cx.perm 49 = false := rfl
@[simp] theorem pu49 [MaxL] : cx.pureF 49 = false := rfl
@[simp] theorem br50 [MaxL] : cx.byRef 50 = false := rfl
@[simp] theorem pm50 [MaxL] : cx.perm 50 = false := rfl
@[simp] theorem pu50 [MaxL] : cx.pureF 50 = false := rfl
@[simp] theorem br51 [MaxL] : cx.byRef 51 = false := rfl
@[simp] theorem pm51 [MaxL] : cx.perm 51 = false := rfl
@[simp] theorem pu51 [MaxL] : cx.pureF 51 = true := rfl
@[simp] theorem fz51 [MaxL] : cx.fzr 51 = true := rfl
@[simp] theorem br52 [MaxL] : cx.byRef 52 = false := rfl
@[simp] theorem pm52 [MaxL] : cx.perm 52 = false := rfl
@[simp] theorem pu52 [MaxL] : cx.pureF 52 = false := rfl
@[simp] theorem fz52 [MaxL] : cx.fzr 52 = true := rfl
@[simp] theorem br53 [MaxL] : cx.byRef 53 = false := rfl
@[simp] theorem pm53 [MaxL] : cx.perm 53 = false := rfl
@[simp] theorem pu53 [MaxL] : cx.pureF 53 = false := rfl
@[simp] theorem fz53 [MaxL] : cx.fzr 53 = true := rfl
@[simp] theorem br54 [MaxL] : cx.byRef 54 = false := rfl
@[simp] theorem pm54 [MaxL] : cx.perm 54 = false := rfl
@[simp] theorem pu54 [MaxL] : cx.pureF 54 = false := rfl
@[simp] theorem fz54 [MaxL] : cx.fzr 54 = true := rfl
@[simp] theorem br55 [MaxL] : cx.byRef 55 = false := rfl
@[simp] theorem pm55 [MaxL] : cx.perm 55 = false := rfl
@[simp] theorem pu55 [MaxL] : cx.pureF 55 = false := rfl
@[simp] theorem fz55 [MaxL] : cx.fzr 55 = true := rfl
@[simp] theorem br56 [MaxL] : cx.byRef 56 = false := rfl
@[simp] theorem pm56 [MaxL] : cx.perm 56 = false := rfl
@[simp] theorem pu56 [MaxL] : cx.pureF 56 = false := rfl
@[simp] theorem fz56 [MaxL] : cx.fzr 56 = true := rfl
@[simp] theorem br57 [MaxL] : cx.byRef 57 = false := rfl
@[simp] theorem pm57 [MaxL] : cx.perm 57 = false := rfl
@[simp] theorem pu57 [MaxL] : cx.pureF 57 = false := rfl
@[simp] theorem fz57 [MaxL] : cx.fzr 57 = true := rfl
@[simp] theorem br58 [MaxL] : cx.byRef 58 = false := rfl
@[simp] theorem pm58 [MaxL] : cx.perm 58 = false := rfl
@[simp] theorem pu58 [MaxL] : cx.pureF 58 = false := rfl
@[simp] theorem fz58 [MaxL] : cx.fzr 58 = true := rfl
@[simp] theorem br59 [MaxL] : cx.byRef 59 = false := rfl
@[simp] theorem pm59 [MaxL] : cx.perm 59 = false := rfl
@[simp] theorem pu59 [MaxL] : cx.pureF 59 = false := rfl
@[simp] theorem fz59 [MaxL] : cx.fzr 59 = true := rfl
@[simp] theorem br60 [MaxL] : cx.byRef 60 = false := rfl
@[simp] theorem pm60 [MaxL] : cx.perm 60 = false := rfl
@[simp] theorem pu60 [MaxL] : cx.pureF 60 = true := rfl
@[simp] theorem fz60 [MaxL] : cx.fzr 60 = true := rfl
@[simp] theorem br61 [MaxL] : cx.byRef 61 = false := rfl
@[simp] theorem pm61 [MaxL] : cx.perm 61 = false := rfl
@[simp] theorem pu61 [MaxL] : cx.pureF 61 = true := rfl
@[simp] theorem fz61 [MaxL] : cx.fzr 61 = true := rfl
@[simp] theorem br64 [MaxL] : cx.byRef 64 = false := rfl
@[simp] theorem pm64 [MaxL] : cx.perm 64 = false := rfl
@[simp] theorem pu64 [MaxL] : cx.pureF 64 = false := rfl
@[simp] theorem fz64 [MaxL] : cx.fzr 64 = true := rfl
@[simp] theorem br68 [MaxL] : cx.byRef 68 = false := rfl
@[simp] theorem pm68 [MaxL] : cx.perm 68 = false := rfl
@[simp] theorem pu68 [MaxL] : cx.pureF 68 = true := rfl
@[simp] theorem br69 [MaxL] : cx.byRef 69 = false := rfl
@[simp] theorem pm69 [MaxL] : cx.perm 69 = false := rfl
@[simp] theorem pu69 [MaxL] : cx.pureF 69 = false := rfl
@[simp] theorem fz69 [MaxL] : cx.fzr 69 = true := rfl
@[simp] theorem br70 [MaxL] : cx.byRef 70 = false := rfl
@[simp] theorem pm70 [MaxL] : cx.perm 70 = false := rfl
@[simp] theorem pu70 [MaxL] : cx.pureF 70 = false := rfl
@[simp] theorem fz70 [MaxL] : cx.fzr 70 = true := rfl
@[simp] theorem br71 [MaxL] : cx.byRef 71 = false := rfl
@[simp] theorem pm71 [MaxL] : cx.perm 71 = false := rfl
@[simp] theorem pu71 [MaxL] : cx.pureF 71 = false := rfl
@[simp] theorem fz71 [MaxL] : cx.fzr 71 = true := rfl
@[simp] theorem br72 [MaxL] : cx.byRef 72 = false := rfl
@[simp] theorem pm72 [MaxL] : cx.perm 72 = false := rfl
@[simp] theorem pu72 [MaxL] : cx.pureF 72 = true := rfl
@[simp] theorem fz72 [MaxL] : cx.fzr 72 = true := rfl
@[simp] theorem br74 [MaxL] : cx.byRef 74 = false := rfl
@[simp] theorem pm74 [MaxL] : cx.perm 74 = false := rfl
@[simp] theorem pu74 [MaxL] : cx.pureF 74 = false := rfl
@[simp] theorem fz74 [MaxL] : cx.fzr 74 = true := rfl
@[simp] theorem br75 [MaxL] : cx.byRef 75 = false := rfl
@[simp] theorem pm75 [MaxL] : cx.perm 75 = false := rfl
@[simp] theorem pu75 [MaxL] : cx.pureF 75 = false := rfl
@[simp] theorem fz75 [MaxL] : cx.fzr 75 = true := rfl
theorem ex50 [MaxL] (args : List D) : cx.ext 50 args = idxBExt args := rfl
theorem ex48 [MaxL] (args : List D) : cx.ext 48 args = cntExt args := rfl
theorem co49 [MaxL] (args : List D) (H : Heap) : cx.con 49 args H = conIdx args H := rfl
theorem co68 [MaxL] (args : List D) (H : Heap) : cx.con 68 args H = conClone args H := rfl
theorem co17 [MaxL] (args : List D) (H : Heap) : cx.con 17 args H = conRepeat args H := rfl
end Go.Ev.S
/- What the evaluator needs of this program: printed by program. -/
namespace Go.Ev.S
open Go Go.Proofs Go.Ev
@[simp] theorem en3_0 [MaxL] (n0 : Nat) (e : Env) (H : Heap) : enter cx 3 n0 0 e H = enterK [0, 1, 2, 3, 4, 5] 0 n0 e H := rfl
@[simp] theorem en3_1 [MaxL] (n0 : Nat) (e : Env) (H : Heap) : enter cx 3 n0 1 e H = enterK [0, 2, 3, 4, 5, 7] 0 n0 e H := rfl
@[simp] theorem en3_2 [MaxL] (n0 : Nat) (e : Env) (H : Heap) : enter cx 3 n0 2 e H = enterK [0, 2, 3, 4, 5, 7, 13] 0 n0 e H := rfl
@[simp] theorem en3_3 [MaxL] (n0 : Nat) (e : Env) (H : Heap) : enter cx 3 n0 3 e H = enterK [] 0 n0 e H := rfl
@[simp] theorem en3_4 [MaxL] (n0 : Nat) (e : Env) (H : Heap) : enter cx 3 n0 4 e H = enterK [0, 2, 3, 4, 5, 7, 13] 0 n0 e H := rfl
@[simp] theorem en3_5 [MaxL] (n0 : Nat) (e : Env) (H : Heap) : enter cx 3 n0 5 e H = enterK [2, 3, 4, 5, 7, 13, 14] 0 n0 e H := rfl
@[simp] theorem en3_6 [MaxL] (n0 : Nat) (e : Env) (H : Heap) : enter cx 3 n0 6 e H = enterK [2, 3, 4, 5, 7, 13, 14] 0 n0 e H := rfl
@[simp] theorem en3_7 [MaxL] (n0 : Nat) (e : Env) (H : Heap) : enter cx 3 n0 7 e H = enterK [4, 5, 13, 14] 0 n0 e H := rfl
@[simp] theorem en3_8 [MaxL] (n0 : Nat) (e : Env) (H : Heap) : enter cx 3 n0 8 e H = enterK [4, 5, 13, 14, 15] 0 n0 e H := rfl
@[simp] theorem en3_9 [MaxL] (n0 : Nat) (e : Env) (H : Heap) : enter cx 3 n0 9 e H = enterK [] 0 n0 e H := rfl
@[simp] theorem en3_10 [MaxL] (n0 : Nat) (e : Env) (H : Heap) : enter cx 3 n0 10 e H = enterK [4, 5, 13, 14, 15] 0 n0 e H := rfl
@[simp] theorem en3_11 [MaxL] (n0 : Nat) (e : Env) (H : Heap) : enter cx 3 n0 11 e H = enterK [4, 5, 13, 14, 15, 16, 17] 0 n0 e H := rfl
@[simp] theorem en3_12 [MaxL] (n0 : Nat) (e : Env) (H : Heap) : enter cx 3 n0 12 e H = enterK [4, 5, 13, 14, 15, 16, 17, 18] 0 n0 e H := rfl
@[simp] theorem en3_13 [MaxL] (n0 : Nat) (e : Env) (H : Heap) : enter cx 3 n0 13 e H = enterK [5, 13, 14, 15, 16, 17, 18, 19] 0 n0 e H := rfl
@[simp] theorem en3_14 [MaxL] (n0 : Nat) (e : Env) (H : Heap) : enter cx 3 n0 14 e H = enterK [5, 13, 14, 15, 16, 17, 18, 19] 0 n0 e H := rfl
@[simp] theorem en3_15 [MaxL] (n0 : Nat) (e : Env) (H : Heap) : enter cx 3 n0 15 e H = enterK [5, 13, 14, 15, 16, 17, 18, 19, 20, 21] 0 n0 e H := rfl
@[simp] theorem en3_16 [MaxL] (n0 : Nat) (e : Env) (H : Heap) : enter cx 3 n0 16 e H = enterK [5, 13, 14, 15, 16, 17, 18, 20, 21, 22, 23] 0 n0 e H := rfl
@[simp] theorem en3_17 [MaxL] (n0 : Nat) (e : Env) (H : Heap) : enter cx 3 n0 17 e H = enterK [5, 13, 14, 16, 17, 18, 20, 21, 22, 23, 25] 0 n0 e H := rfl
@[simp] theorem en4_0 [MaxL] (n0 : Nat) (e : Env) (H : Heap) : enter cx 4 n0 0 e H = enterK [] 0 n0 e H := rfl
@[simp] theorem en4_1 [MaxL] (n0 : Nat) (e : Env) (H : Heap) : enter cx 4 n0 1 e H = enterK [] 0 n0 e H := rfl
@[simp] theorem en4_2 [MaxL] (n0 : Nat) (e : Env) (H : Heap) : enter cx 4 n0 2 e H = enterK [1, 2] 0 n0 e H := rfl
@[simp] theorem en5_0 [MaxL] (n0 : Nat) (e : Env) (H : Heap) : enter cx 5 n0 0 e H = enterK [0, 1] 0 n0 e H := rfl
@[simp] theorem en5_1 [MaxL] (n0 : Nat) (e : Env) (H : Heap) : enter cx 5 n0 1 e H = enterK [0, 1] 0 n0 e H := rfl
@[simp] theorem en5_2 [MaxL] (n0 : Nat) (e : Env) (H : Heap) : enter cx 5 n0 2 e H = enterK [] 0 n0 e H := rfl
@[simp] theorem en5_3 [MaxL] (n0 : Nat) (e : Env) (H : Heap) : enter cx 5 n0 3 e H = enterK [0, 1] 0 n0 e H := rfl
@[simp] theorem en6_0 [MaxL] (n0 : Nat) (e : Env) (H : Heap) : enter cx 6 n0 0 e H = enterK [0] 0 n0 e H := rfl
@[simp] theorem en6_1 [MaxL] (n0 : Nat) (e : Env) (H : Heap) : enter cx 6 n0 1 e H = enterK [1] 0 n0 e H := rfl
@[simp] theorem en6_2 [MaxL] (n0 : Nat) (e : Env) (H : Heap) : enter cx 6 n0 2 e H = enterK [1, 4] 0 n0 e H := rfl
@[simp] theorem en6_3 [MaxL] (n0 : Nat) (e : Env) (H : Heap) : enter cx 6 n0 3 e H = enterK [] 0 n0 e H := rfl
@[simp] theorem en6_4 [MaxL] (n0 : Nat) (e : Env) (H : Heap) : enter cx 6 n0 4 e H = enterK [1, 4] 0 n0 e H := rfl
@[simp] theorem en6_5 [MaxL] (n0 : Nat) (e : Env) (H : Heap) : enter cx 6 n0 5 e H = enterK [] 0 n0 e H := rfl
@[simp] theorem en6_6 [MaxL] (n0 : Nat) (e : Env) (H : Heap) : enter cx 6 n0 6 e H = enterK [1, 4] 0 n0 e H := rfl
@[simp] theorem en6_7 [MaxL] (n0 : Nat) (e : Env) (H : Heap) : enter cx 6 n0 7 e H = enterK [1] 0 n0 e H := rfl
@[simp] theorem en6_8 [MaxL] (n0 : Nat) (e : Env) (H : Heap) : enter cx 6 n0 8 e H = enterK [1, 4] 0 n0 e H := rfl
@[simp] theorem en6_9 [MaxL] (n0 : Nat) (e : Env) (H : Heap) : enter cx 6 n0 9 e H = enterK [1] 0 n0 e H := rfl
@[simp] theorem en6_10 [MaxL] (n0 : Nat) (e : Env) (H : Heap) : enter cx 6 n0 10 e H = enterK [1] 0 n0 e H := rfl
@[simp] theorem en6_11 [MaxL] (n0 : Nat) (e : Env) (H : Heap) : enter cx 6 n0 11 e H = enterK [] 0 n0 e H := rfl
@[simp] theorem en7_0 [MaxL] (n0 : Nat) (e : Env) (H : Heap) : enter cx 7 n0 0 e H = enterK [0] 0 n0 e H := rfl
@[simp] theorem en7_1 [MaxL] (n0 : Nat) (e : Env) (H : Heap) : enter cx 7 n0 1 e H = enterK [0, 2] 0 n0 e H := rfl
@[simp] theorem en7_2 [MaxL] (n0 : Nat) (e : Env) (H : Heap) : enter cx 7 n0 2 e H = enterK [0, 2, 4] 0 n0 e H := rfl
@[simp] theorem en7_3 [MaxL] (n0 : Nat) (e : Env) (H : Heap) : enter cx 7 n0 3 e H = enterK [2] 0 n0 e H := rfl
@[simp] theorem en7_4 [MaxL] (n0 : Nat) (e : Env) (H : Heap) : enter cx 7 n0 4 e H = enterK [0, 2, 4] 0 n0 e H := rfl
@[simp] theorem en7_5 [MaxL] (n0 : Nat) (e : Env) (H : Heap) : enter cx 7 n0 5 e H = enterK [2] 0 n0 e H := rfl
@[simp] theorem en7_6 [MaxL] (n0 : Nat) (e : Env) (H : Heap) : enter cx 7 n0 6 e H = enterK [0, 2, 4] 0 n0 e H := rfl
@[simp] theorem en7_7 [MaxL] (n0 : Nat) (e : Env) (H : Heap) : enter cx 7 n0 7 e H = enterK [0, 2, 4] 0 n0 e H := rfl
@[simp] theorem en7_8 [MaxL] (n0 : Nat) (e : Env) (H : Heap) : enter cx 7 n0 8 e H = enterK [0, 2, 4] 0 n0 e H := rfl
@[simp] theorem en7_9 [MaxL] (n0 : Nat) (e : Env) (H : Heap) : enter cx 7 n0 9 e H = enterK [0, 2, 4, 5] 0 n0 e H := rfl
@[simp] theorem en7_10 [MaxL] (n0 : Nat) (e : Env) (H : Heap) : enter cx 7 n0 10 e H = enterK [0, 2, 4, 6] 0 n0 e H := rfl
@[simp] theorem en7_11 [MaxL] (n0 : Nat) (e : Env) (H : Heap) : enter cx 7 n0 11 e H = enterK [2] 0 n0 e H := rfl
@[simp] theorem en7_12 [MaxL] (n0 : Nat) (e : Env) (H : Heap) : enter cx 7 n0 12 e H = enterK [0, 2, 4, 6] 0 n0 e H := rfl
@[simp] theorem en7_13 [MaxL] (n0 : Nat) (e : Env) (H : Heap) : enter cx 7 n0 13 e H = enterK [0, 2, 4, 6] 0 n0 e H := rfl
@[simp] theorem en7_14 [MaxL] (n0 : Nat) (e : Env) (H : Heap) : enter cx 7 n0 14 e H = enterK [0, 2, 4, 6] 0 n0 e H := rfl
@[simp] theorem en7_15 [MaxL] (n0 : Nat) (e : Env) (H : Heap) : enter cx 7 n0 15 e H = enterK [0, 2, 4] 0 n0 e H := rfl
@[simp] theorem en7_16 [MaxL] (n0 : Nat) (e : Env) (H : Heap) : enter cx 7 n0 16 e H = enterK [2] 0 n0 e H := rfl
@[simp] theorem en7_17 [MaxL] (n0 : Nat) (e : Env) (H : Heap) : enter cx 7 n0 17 e H = enterK [2, 4] 0 n0 e H := rfl
@[simp] theorem en8_0 [MaxL] (n0 : Nat) (e : Env) (H : Heap) : enter cx 8 n0 0 e H = enterK [0] 0 n0 e H := rfl
@[simp] theorem en8_1 [MaxL] (n0 : Nat) (e : Env) (H : Heap) : enter cx 8 n0 1 e H = enterK [1] 0 n0 e H := rfl
@[simp] theorem en8_2 [MaxL] (n0 : Nat) (e : Env) (H : Heap) : enter cx 8 n0 2 e H = enterK [1, 3] 0 n0 e H := rfl
@[simp] theorem en8_3 [MaxL] (n0 : Nat) (e : Env) (H : Heap) : enter cx 8 n0 3 e H = enterR [] [3] [6, 7] n0 e H := rfl
@[simp] theorem en8_4 [MaxL] (n0 : Nat) (e : Env) (H : Heap) : enter cx 8 n0 4 e H = enterK [3, 6, 7] 0 n0 e H := rfl
@[simp] theorem en8_5 [MaxL] (n0 : Nat) (e : Env) (H : Heap) : enter cx 8 n0 5 e H = enterK [3, 5, 6, 7] 0 n0 e H := rfl
@[simp] theorem en8_6 [MaxL] (n0 : Nat) (e : Env) (H : Heap) : enter cx 8 n0 6 e H = enterK [3, 6, 7] 0 n0 e H := rfl
@[simp] theorem en8_7 [MaxL] (n0 : Nat) (e : Env) (H : Heap) : enter cx 8 n0 7 e H = enterK [3] 0 n0 e H := rfl
@[simp] theorem en9_0 [MaxL] (n0 : Nat) (e : Env) (H : Heap) : enter cx 9 n0 0 e H = enterK [0] 0 n0 e H := rfl
@[simp] theorem en9_1 [MaxL] (n0 : Nat) (e : Env) (H : Heap) : enter cx 9 n0 1 e H = enterK [0] 0 n0 e H := rfl
@[simp] theorem en9_2 [MaxL] (n0 : Nat) (e : Env) (H : Heap) : enter cx 9 n0 2 e H = enterK [3] 0 n0 e H := rfl
@[simp] theorem en10_0 [MaxL] (n0 : Nat) (e : Env) (H : Heap) : enter cx 10 n0 0 e H = enterK [0, 1] 0 n0 e H := rfl
@[simp] theorem en10_1 [MaxL] (n0 : Nat) (e : Env) (H : Heap) : enter cx 10 n0 1 e H = enterK [0, 1] 0 n0 e H := rfl
@[simp] theorem en11_0 [MaxL] (n0 : Nat) (e : Env) (H : Heap) : enter cx 11 n0 0 e H = enterK [0, 1] 0 n0 e H := rfl
@[simp] theorem en11_1 [MaxL] (n0 : Nat) (e : Env) (H : Heap) : enter cx 11 n0 1 e H = enterK [0, 1] 0 n0 e H := rfl
@[simp] theorem en12_0 [MaxL] (n0 : Nat) (e : Env) (H : Heap) : enter cx 12 n0 0 e H = enterK [0, 1] 0 n0 e H := rfl
@[simp] theorem en12_1 [MaxL] (n0 : Nat) (e : Env) (H : Heap) : enter cx 12 n0 1 e H = enterK [0, 1] 0 n0 e H := rfl
@[simp] theorem en13_0 [MaxL] (n0 : Nat) (e : Env) (H : Heap) : enter cx 13 n0 0 e H = enterK [0, 1] 0 n0 e H := rfl
@[simp] theorem en13_1 [MaxL] (n0 : Nat) (e : Env) (H : Heap) : enter cx 13 n0 1 e H = enterK [0, 1] 0 n0 e H := rfl
@[simp] theorem en14_0 [MaxL] (n0 : Nat) (e : Env) (H : Heap) : enter cx 14 n0 0 e H = enterK [0] 0 n0 e H := rfl
@[simp] theorem en14_1 [MaxL] (n0 : Nat) (e : Env) (H : Heap) : enter cx 14 n0 1 e H = enterK [0, 2] 0 n0 e H := rfl
@[simp] theorem en14_2 [MaxL] (n0 : Nat) (e : Env) (H : Heap) : enter cx 14 n0 2 e H = enterK [0, 2, 4] 0 n0 e H := rfl
@[simp] theorem en14_3 [MaxL] (n0 : Nat) (e : Env) (H : Heap) : enter cx 14 n0 3 e H = enterK [2] 0 n0 e H := rfl
@[simp] theorem en14_4 [MaxL] (n0 : Nat) (e : Env) (H : Heap) : enter cx 14 n0 4 e H = enterK [0, 2, 4] 0 n0 e H := rfl
@[simp] theorem en14_5 [MaxL] (n0 : Nat) (e : Env) (H : Heap) : enter cx 14 n0 5 e H = enterK [0, 2, 4, 12, 13] 0 n0 e H := rfl
@[simp] theorem en14_6 [MaxL] (n0 : Nat) (e : Env) (H : Heap) : enter cx 14 n0 6 e H = enterK [0, 2, 4, 12, 13] 0 n0 e H := rfl
@[simp] theorem en14_7 [MaxL] (n0 : Nat) (e : Env) (H : Heap) : enter cx 14 n0 7 e H = enterK [0, 2, 4, 5, 12, 13] 0 n0 e H := rfl
@[simp] theorem en14_8 [MaxL] (n0 : Nat) (e : Env) (H : Heap) : enter cx 14 n0 8 e H = enterK [0, 2, 4, 5, 6, 12, 13] 0 n0 e H := rfl
@[simp] theorem en14_9 [MaxL] (n0 : Nat) (e : Env) (H : Heap) : enter cx 14 n0 9 e H = enterK [2] 0 n0 e H := rfl
@[simp] theorem en14_10 [MaxL] (n0 : Nat) (e : Env) (H : Heap) : enter cx 14 n0 10 e H = enterK [0, 2, 4, 5, 6, 12, 13] 0 n0 e H := rfl
@[simp] theorem en14_11 [MaxL] (n0 : Nat) (e : Env) (H : Heap) : enter cx 14 n0 11 e H = enterK [0, 2, 4, 12, 13] 0 n0 e H := rfl
@[simp] theorem en14_12 [MaxL] (n0 : Nat) (e : Env) (H : Heap) : enter cx 14 n0 12 e H = enterK [2, 4] 0 n0 e H := rfl
@[simp] theorem en15_0 [MaxL] (n0 : Nat) (e : Env) (H : Heap) : enter cx 15 n0 0 e H = enterK [0] 0 n0 e H := rfl
@[simp] theorem en15_1 [MaxL] (n0 : Nat) (e : Env) (H : Heap) : enter cx 15 n0 1 e H = enterK [0] 0 n0 e H := rfl
@[simp] theorem en15_2 [MaxL] (n0 : Nat) (e : Env) (H : Heap) : enter cx 15 n0 2 e H = enterK [0, 4, 5] 0 n0 e H := rfl
@[simp] theorem en15_3 [MaxL] (n0 : Nat) (e : Env) (H : Heap) : enter cx 15 n0 3 e H = enterK [] 0 n0 e H := rfl
@[simp] theorem en15_4 [MaxL] (n0 : Nat) (e : Env) (H : Heap) : enter cx 15 n0 4 e H = enterK [4] 0 n0 e H := rfl
@[simp] theorem en16_0 [MaxL] (n0 : Nat) (e : Env) (H : Heap) : enter cx 16 n0 0 e H = enterK [0, 1] 0 n0 e H := rfl
@[simp] theorem en16_1 [MaxL] (n0 : Nat) (e : Env) (H : Heap) : enter cx 16 n0 1 e H = enterK [0, 1] 0 n0 e H := rfl
@[simp] theorem en18_0 [MaxL] (n0 : Nat) (e : Env) (H : Heap) : enter cx 18 n0 0 e H = enterK [0, 1] 0 n0 e H := rfl
@[simp] theorem en18_1 [MaxL] (n0 : Nat) (e : Env) (H : Heap) : enter cx 18 n0 1 e H = enterK [0, 1] 0 n0 e H := rfl
@[simp] theorem en19_0 [MaxL] (n0 : Nat) (e : Env) (H : Heap) : enter cx 19 n0 0 e H = enterK [0, 1] 0 n0 e H := rfl
@[simp] theorem en19_1 [MaxL] (n0 : Nat) (e : Env) (H : Heap) : enter cx 19 n0 1 e H = enterK [0, 1] 0 n0 e H := rfl
@[simp] theorem en19_2 [MaxL] (n0 : Nat) (e : Env) (H : Heap) : enter cx 19 n0 2 e H = enterK [0, 1] 0 n0 e H := rfl
@[simp] theorem en19_3 [MaxL] (n0 : Nat) (e : Env) (H : Heap) : enter cx 19 n0 3 e H = enterK [0] 0 n0 e H := rfl
@[simp] theorem en20_0 [MaxL] (n0 : Nat) (e : Env) (H : Heap) : enter cx 20 n0 0 e H = enterK [0, 1] 0 n0 e H := rfl
@[simp] theorem en20_1 [MaxL] (n0 : Nat) (e : Env) (H : Heap) : enter cx 20 n0 1 e H = enterK [0, 1] 0 n0 e H := rfl
@[simp] theorem en20_2 [MaxL] (n0 : Nat) (e : Env) (H : Heap) : enter cx 20 n0 2 e H = enterK [0, 1] 0 n0 e H := rfl
@[simp] theorem en20_3 [MaxL] (n0 : Nat) (e : Env) (H : Heap) : enter cx 20 n0 3 e H = enterK [0] 0 n0 e H := rfl
@[simp] theorem en21_0 [MaxL] (n0 : Nat) (e : Env) (H : Heap) : enter cx 21 n0 0 e H = enterK [0, 1, 2, 3] 0 n0 e H := rfl
@[simp] theorem en21_1 [MaxL] (n0 : Nat) (e : Env) (H : Heap) : enter cx 21 n0 1 e H = enterK [0, 1, 2, 3] 0 n0 e H := rfl
@[simp] theorem en21_2 [MaxL] (n0 : Nat) (e : Env) (H : Heap) : enter cx 21 n0 2 e H = enterK [] 0 n0 e H := rfl
@[simp] theorem en21_3 [MaxL] (n0 : Nat) (e : Env) (H : Heap) : enter cx 21 n0 3 e H = enterK [0, 1, 2, 3] 0 n0 e H := rfl
@[simp] theorem en21_4 [MaxL] (n0 : Nat) (e : Env) (H : Heap) : enter cx 21 n0 4 e H = enterK [0, 3] 0 n0 e H := rfl
@[simp] theorem en21_5 [MaxL] (n0 : Nat) (e : Env) (H : Heap) : enter cx 21 n0 5 e H = enterK [0, 1, 2, 3] 0 n0 e H := rfl
@[simp] theorem en21_6 [MaxL] (n0 : Nat) (e : Env) (H : Heap) : enter cx 21 n0 6 e H = enterK [0, 1, 2] 0 n0 e H := rfl
@[simp] theorem en21_7 [MaxL] (n0 : Nat) (e : Env) (H : Heap) : enter cx 21 n0 7 e H = enterK [0, 1, 2, 3] 0 n0 e H := rfl
@[simp] theorem en21_8 [MaxL] (n0 : Nat) (e : Env) (H : Heap) : enter cx 21 n0 8 e H = enterK [0, 1, 2, 3] 0 n0 e H := rfl
@[simp] theorem en21_9 [MaxL] (n0 : Nat) (e : Env) (H : Heap) : enter cx 21 n0 9 e H = enterK [0, 1, 2, 3, 9] 0 n0 e H := rfl
@[simp] theorem en21_10 [MaxL] (n0 : Nat) (e : Env) (H : Heap) : enter cx 21 n0 10 e H = enterK [0, 1, 2, 3, 9] 0 n0 e H := rfl
@[simp] theorem en21_11 [MaxL] (n0 : Nat) (e : Env) (H : Heap) : enter cx 21 n0 11 e H = enterK [0, 1, 2, 3, 9, 10] 0 n0 e H := rfl
@[simp] theorem en21_12 [MaxL] (n0 : Nat) (e : Env) (H : Heap) : enter cx 21 n0 12 e H = enterK [0, 1, 2, 3, 9, 10] 0 n0 e H := rfl
@[simp] theorem en21_13 [MaxL] (n0 : Nat) (e : Env) (H : Heap) : enter cx 21 n0 13 e H = enterK [0, 1, 2, 3, 9, 10, 11] 0 n0 e H := rfl
@[simp] theorem en21_14 [MaxL] (n0 : Nat) (e : Env) (H : Heap) : enter cx 21 n0 14 e H = enterK [0, 1, 2, 3, 9, 10, 11] 0 n0 e H := rfl
@[simp] theorem en21_15 [MaxL] (n0 : Nat) (e : Env) (H : Heap) : enter cx 21 n0 15 e H = enterK [0, 1, 2, 3, 9, 10, 11] 0 n0 e H := rfl
@[simp] theorem en21_16 [MaxL] (n0 : Nat) (e : Env) (H : Heap) : enter cx 21 n0 16 e H = enterK [0, 1, 2, 3, 9, 10] 0 n0 e H := rfl
@[simp] theorem en21_17 [MaxL] (n0 : Nat) (e : Env) (H : Heap) : enter cx 21 n0 17 e H = enterK [0, 9, 10] 0 n0 e H := rfl
@[simp] theorem en21_18 [MaxL] (n0 : Nat) (e : Env) (H : Heap) : enter cx 21 n0 18 e H = enterK [9, 10] 0 n0 e H := rfl
@[simp] theorem en22_0 [MaxL] (n0 : Nat) (e : Env) (H : Heap) : enter cx 22 n0 0 e H = enterK [0, 1] 0 n0 e H := rfl
@[simp] theorem en22_1 [MaxL] (n0 : Nat) (e : Env) (H : Heap) : enter cx 22 n0 1 e H = enterK [0, 1] 0 n0 e H := rfl
@[simp] theorem en23_0 [MaxL] (n0 : Nat) (e : Env) (H : Heap) : enter cx 23 n0 0 e H = enterK [0, 1, 2] 0 n0 e H := rfl
@[simp] theorem en23_1 [MaxL] (n0 : Nat) (e : Env) (H : Heap) : enter cx 23 n0 1 e H = enterK [0, 1, 2] 0 n0 e H := rfl
@[simp] theorem en23_2 [MaxL] (n0 : Nat) (e : Env) (H : Heap) : enter cx 23 n0 2 e H = enterK [0, 1, 2, 8, 9] 0 n0 e H := rfl
@[simp] theorem en23_3 [MaxL] (n0 : Nat) (e : Env) (H : Heap) : enter cx 23 n0 3 e H = enterK [0, 1, 2, 8, 9] 0 n0 e H := rfl
@[simp] theorem en23_4 [MaxL] (n0 : Nat) (e : Env) (H : Heap) : enter cx 23 n0 4 e H = enterK [8] 0 n0 e H := rfl
@[simp] theorem en24_0 [MaxL] (n0 : Nat) (e : Env) (H : Heap) : enter cx 24 n0 0 e H = enterK [0, 1] 0 n0 e H := rfl
@[simp] theorem en24_1 [MaxL] (n0 : Nat) (e : Env) (H : Heap) : enter cx 24 n0 1 e H = enterK [0, 1] 0 n0 e H := rfl
@[simp] theorem en24_2 [MaxL] (n0 : Nat) (e : Env) (H : Heap) : enter cx 24 n0 2 e H = enterK [0] 0 n0 e H := rfl
@[simp] theorem en24_3 [MaxL] (n0 : Nat) (e : Env) (H : Heap) : enter cx 24 n0 3 e H = enterK [0] 0 n0 e H := rfl
@[simp] theorem en24_4 [MaxL] (n0 : Nat) (e : Env) (H : Heap) : enter cx 24 n0 4 e H = enterK [0] 0 n0 e H := rfl
@[simp] theorem en24_5 [MaxL] (n0 : Nat) (e : Env) (H : Heap) : enter cx 24 n0 5 e H = enterK [0, 5] 0 n0 e H := rfl
@[simp] theorem en24_6 [MaxL] (n0 : Nat) (e : Env) (H : Heap) : enter cx 24 n0 6 e H = enterK [0, 5, 6] 0 n0 e H := rfl
@[simp] theorem en24_7 [MaxL] (n0 : Nat) (e : Env) (H : Heap) : enter cx 24 n0 7 e H = enterK [5, 6] 0 n0 e H := rfl
@[simp] theorem en24_8 [MaxL] (n0 : Nat) (e : Env) (H : Heap) : enter cx 24 n0 8 e H = enterK [0, 1] 0 n0 e H := rfl
@[simp] theorem en24_9 [MaxL] (n0 : Nat) (e : Env) (H : Heap) : enter cx 24 n0 9 e H = enterK [8] 0 n0 e H := rfl
@[simp] theorem en31_0 [MaxL] (n0 : Nat) (e : Env) (H : Heap) : enter cx 31 n0 0 e H = enterK [0, 1] 0 n0 e H := rfl
@[simp] theorem en31_1 [MaxL] (n0 : Nat) (e : Env) (H : Heap) : enter cx 31 n0 1 e H = enterK [0, 1] 0 n0 e H := rfl
@[simp] theorem en32_0 [MaxL] (n0 : Nat) (e : Env) (H : Heap) : enter cx 32 n0 0 e H = enterK [0, 1] 0 n0 e H := rfl
@[simp] theorem en32_1 [MaxL] (n0 : Nat) (e : Env) (H : Heap) : enter cx 32 n0 1 e H = enterK [0, 1] 0 n0 e H := rfl
@[simp] theorem en32_2 [MaxL] (n0 : Nat) (e : Env) (H : Heap) : enter cx 32 n0 2 e H = enterK [0, 1, 5] 0 n0 e H := rfl
@[simp] theorem en32_3 [MaxL] (n0 : Nat) (e : Env) (H : Heap) : enter cx 32 n0 3 e H = enterK [0, 5] 0 n0 e H := rfl
@[simp] theorem en32_4 [MaxL] (n0 : Nat) (e : Env) (H : Heap) : enter cx 32 n0 4 e H = enterK [0, 1] 0 n0 e H := rfl
@[simp] theorem en32_5 [MaxL] (n0 : Nat) (e : Env) (H : Heap) : enter cx 32 n0 5 e H = enterK [0, 1, 6] 0 n0 e H := rfl
@[simp] theorem en32_6 [MaxL] (n0 : Nat) (e : Env) (H : Heap) : enter cx 32 n0 6 e H = enterK [0, 1, 6, 7] 0 n0 e H := rfl
@[simp] theorem en32_7 [MaxL] (n0 : Nat) (e : Env) (H : Heap) : enter cx 32 n0 7 e H = enterK [0, 1, 6, 7] 0 n0 e H := rfl
@[simp] theorem en32_8 [MaxL] (n0 : Nat) (e : Env) (H : Heap) : enter cx 32 n0 8 e H = enterK [0, 1, 6, 7] 0 n0 e H := rfl
@[simp] theorem en32_9 [MaxL] (n0 : Nat) (e : Env) (H : Heap) : enter cx 32 n0 9 e H = enterK [0, 1, 6, 7, 9] 0 n0 e H := rfl
@[simp] theorem en32_10 [MaxL] (n0 : Nat) (e : Env) (H : Heap) : enter cx 32 n0 10 e H = enterK [0, 1, 6, 7, 9] 0 n0 e H := rfl
@[simp] theorem en32_11 [MaxL] (n0 : Nat) (e : Env) (H : Heap) : enter cx 32 n0 11 e H = enterK [0, 1, 6] 0 n0 e H := rfl
@[simp] theorem en32_12 [MaxL] (n0 : Nat) (e : Env) (H : Heap) : enter cx 32 n0 12 e H = enterK [0, 1, 6] 0 n0 e H := rfl
@[simp] theorem en32_13 [MaxL] (n0 : Nat) (e : Env) (H : Heap) : enter cx 32 n0 13 e H = enterK [6] 0 n0 e H := rfl
@[simp] theorem en33_0 [MaxL] (n0 : Nat) (e : Env) (H : Heap) : enter cx 33 n0 0 e H = enterK [0, 1] 0 n0 e H := rfl
@[simp] theorem en33_1 [MaxL] (n0 : Nat) (e : Env) (H : Heap) : enter cx 33 n0 1 e H = enterK [0, 1] 0 n0 e H := rfl
@[simp] theorem en33_2 [MaxL] (n0 : Nat) (e : Env) (H : Heap) : enter cx 33 n0 2 e H = enterK [0] 0 n0 e H := rfl
@[simp] theorem en33_3 [MaxL] (n0 : Nat) (e : Env) (H : Heap) : enter cx 33 n0 3 e H = enterK [0, 1] 0 n0 e H := rfl
@[simp] theorem en33_4 [MaxL] (n0 : Nat) (e : Env) (H : Heap) : enter cx 33 n0 4 e H = enterK [0, 1] 0 n0 e H := rfl
@[simp] theorem en33_5 [MaxL] (n0 : Nat) (e : Env) (H : Heap) : enter cx 33 n0 5 e H = enterK [0, 1] 0 n0 e H := rfl
@[simp] theorem en33_6 [MaxL] (n0 : Nat) (e : Env) (H : Heap) : enter cx 33 n0 6 e H = enterK [0, 1, 5] 0 n0 e H := rfl
@[simp] theorem en33_7 [MaxL] (n0 : Nat) (e : Env) (H : Heap) : enter cx 33 n0 7 e H = enterK [0, 1, 5, 6] 0 n0 e H := rfl
@[simp] theorem en33_8 [MaxL] (n0 : Nat) (e : Env) (H : Heap) : enter cx 33 n0 8 e H = enterK [5] 0 n0 e H := rfl
@[simp] theorem en33_9 [MaxL] (n0 : Nat) (e : Env) (H : Heap) : enter cx 33 n0 9 e H = enterK [0, 1, 5, 6] 0 n0 e H := rfl
@[simp] theorem en33_10 [MaxL] (n0 : Nat) (e : Env) (H : Heap) : enter cx 33 n0 10 e H = enterK [0, 1, 5, 6] 0 n0 e H := rfl
@[simp] theorem en34_0 [MaxL] (n0 : Nat) (e : Env) (H : Heap) : enter cx 34 n0 0 e H = enterK [0, 1] 0 n0 e H := rfl
@[simp] theorem en34_1 [MaxL] (n0 : Nat) (e : Env) (H : Heap) : enter cx 34 n0 1 e H = enterK [0, 1] 0 n0 e H := rfl
@[simp] theorem en35_0 [MaxL] (n0 : Nat) (e : Env) (H : Heap) : enter cx 35 n0 0 e H = enterK [0, 1] 0 n0 e H := rfl
@[simp] theorem en35_1 [MaxL] (n0 : Nat) (e : Env) (H : Heap) : enter cx 35 n0 1 e H = enterK [0, 1] 0 n0 e H := rfl
@[simp] theorem en36_0 [MaxL] (n0 : Nat) (e : Env) (H : Heap) : enter cx 36 n0 0 e H = enterK [0, 1, 2] 0 n0 e H := rfl
@[simp] theorem en36_1 [MaxL] (n0 : Nat) (e : Env) (H : Heap) : enter cx 36 n0 1 e H = enterK [0, 1, 2] 0 n0 e H := rfl
@[simp] theorem en36_2 [MaxL] (n0 : Nat) (e : Env) (H : Heap) : enter cx 36 n0 2 e H = enterK [] 0 n0 e H := rfl
@[simp] theorem en36_3 [MaxL] (n0 : Nat) (e : Env) (H : Heap) : enter cx 36 n0 3 e H = enterK [0, 1, 2] 0 n0 e H := rfl
@[simp] theorem en36_4 [MaxL] (n0 : Nat) (e : Env) (H : Heap) : enter cx 36 n0 4 e H = enterK [0, 1, 2, 8] 0 n0 e H := rfl
@[simp] theorem en36_5 [MaxL] (n0 : Nat) (e : Env) (H : Heap) : enter cx 36 n0 5 e H = enterK [] 0 n0 e H := rfl
@[simp] theorem en36_6 [MaxL] (n0 : Nat) (e : Env) (H : Heap) : enter cx 36 n0 6 e H = enterK [0, 1, 2, 8, 9] 0 n0 e H := rfl
@[simp] theorem en36_7 [MaxL] (n0 : Nat) (e : Env) (H : Heap) : enter cx 36 n0 7 e H = enterK [0, 1, 2, 8, 9] 0 n0 e H := rfl
@[simp] theorem en36_8 [MaxL] (n0 : Nat) (e : Env) (H : Heap) : enter cx 36 n0 8 e H = enterK [0, 2, 8, 9] 0 n0 e H := rfl
@[simp] theorem en36_9 [MaxL] (n0 : Nat) (e : Env) (H : Heap) : enter cx 36 n0 9 e H = enterK [0, 1, 2, 8, 9] 0 n0 e H := rfl
@[simp] theorem en36_10 [MaxL] (n0 : Nat) (e : Env) (H : Heap) : enter cx 36 n0 10 e H = enterK [0, 2, 8, 9] 0 n0 e H := rfl
@[simp] theorem en36_11 [MaxL] (n0 : Nat) (e : Env) (H : Heap) : enter cx 36 n0 11 e H = enterK [0, 1, 2, 8, 9] 0 n0 e H := rfl
@[simp] theorem en36_12 [MaxL] (n0 : Nat) (e : Env) (H : Heap) : enter cx 36 n0 12 e H = enterK [0, 2, 8, 9] 0 n0 e H := rfl
@[simp] theorem en36_13 [MaxL] (n0 : Nat) (e : Env) (H : Heap) : enter cx 36 n0 13 e H = enterK [0, 2, 8, 9] 0 n0 e H := rfl
@[simp] theorem en36_14 [MaxL] (n0 : Nat) (e : Env) (H : Heap) : enter cx 36 n0 14 e H = enterK [0, 1, 2, 8, 9] 0 n0 e H := rfl
@[simp] theorem en36_15 [MaxL] (n0 : Nat) (e : Env) (H : Heap) : enter cx 36 n0 15 e H = enterK [0, 2, 8, 9] 0 n0 e H := rfl
@[simp] theorem en36_16 [MaxL] (n0 : Nat) (e : Env) (H : Heap) : enter cx 36 n0 16 e H = enterK [0, 2, 8, 9] 0 n0 e H := rfl
@[simp] theorem en36_17 [MaxL] (n0 : Nat) (e : Env) (H : Heap) : enter cx 36 n0 17 e H = enterK [0, 1, 2, 8, 9] 0 n0 e H := rfl
@[simp] theorem en36_18 [MaxL] (n0 : Nat) (e : Env) (H : Heap) : enter cx 36 n0 18 e H = enterK [0, 2, 8, 9] 0 n0 e H := rfl
@[simp] theorem en36_19 [MaxL] (n0 : Nat) (e : Env) (H : Heap) : enter cx 36 n0 19 e H = enterK [0, 2, 8, 9] 0 n0 e H := rfl
@[simp] theorem en36_20 [MaxL] (n0 : Nat) (e : Env) (H : Heap) : enter cx 36 n0 20 e H = enterK [0, 1, 2, 8, 9] 0 n0 e H := rfl
@[simp] theorem en36_21 [MaxL] (n0 : Nat) (e : Env) (H : Heap) : enter cx 36 n0 21 e H = enterK [0, 1, 2, 8, 9] 0 n0 e H := rfl
@[simp] theorem en36_22 [MaxL] (n0 : Nat) (e : Env) (H : Heap) : enter cx 36 n0 22 e H = enterK [0, 1, 8, 9] 0 n0 e H := rfl
@[simp] theorem en36_23 [MaxL] (n0 : Nat) (e : Env) (H : Heap) : enter cx 36 n0 23 e H = enterK [0, 1, 2, 8, 9] 0 n0 e H := rfl
@[simp] theorem en36_24 [MaxL] (n0 : Nat) (e : Env) (H : Heap) : enter cx 36 n0 24 e H = enterK [] 0 n0 e H := rfl
@[simp] theorem en36_25 [MaxL] (n0 : Nat) (e : Env) (H : Heap) : enter cx 36 n0 25 e H = enterK [0, 1, 2, 8, 9] 0 n0 e H := rfl
@[simp] theorem en36_26 [MaxL] (n0 : Nat) (e : Env) (H : Heap) : enter cx 36 n0 26 e H = enterK [0, 1, 2, 8, 9] 0 n0 e H := rfl
@[simp] theorem en36_27 [MaxL] (n0 : Nat) (e : Env) (H : Heap) : enter cx 36 n0 27 e H = enterK [0, 1, 2, 8, 9] 0 n0 e H := rfl
@[simp] theorem en36_28 [MaxL] (n0 : Nat) (e : Env) (H : Heap) : enter cx 36 n0 28 e H = enterK [0, 1, 2, 8, 9, 85] 0 n0 e H := rfl
@[simp] theorem en36_29 [MaxL] (n0 : Nat) (e : Env) (H : Heap) : enter cx 36 n0 29 e H = enterK [0, 1, 2, 8, 9] 0 n0 e H := rfl
@[simp] theorem en36_30 [MaxL] (n0 : Nat) (e : Env) (H : Heap) : enter cx 36 n0 30 e H = enterK [0, 1, 2, 8, 9, 85] 0 n0 e H := rfl
@[simp] theorem en36_31 [MaxL] (n0 : Nat) (e : Env) (H : Heap) : enter cx 36 n0 31 e H = enterK [0, 1, 2, 8, 9] 0 n0 e H := rfl
@[simp] theorem en36_32 [MaxL] (n0 : Nat) (e : Env) (H : Heap) : enter cx 36 n0 32 e H = enterK [0, 1, 2, 8, 9, 10] 0 n0 e H := rfl
@[simp] theorem en36_33 [MaxL] (n0 : Nat) (e : Env) (H : Heap) : enter cx 36 n0 33 e H = enterK [0, 1, 8, 9, 10, 11] 0 n0 e H := rfl
@[simp] theorem en36_34 [MaxL] (n0 : Nat) (e : Env) (H : Heap) : enter cx 36 n0 34 e H = enterK [0, 1, 8, 9, 10, 11, 12] 0 n0 e H := rfl
@[simp] theorem en36_35 [MaxL] (n0 : Nat) (e : Env) (H : Heap) : enter cx 36 n0 35 e H = enterK [0, 1, 8, 9, 10, 11, 12, 13] 0 n0 e H := rfl
@[simp] theorem en36_36 [MaxL] (n0 : Nat) (e : Env) (H : Heap) : enter cx 36 n0 36 e H = enterK [1, 8, 9, 10, 11, 12, 13, 99, 100, 101] 0 n0 e H := rfl
@[simp] theorem en36_37 [MaxL] (n0 : Nat) (e : Env) (H : Heap) : enter cx 36 n0 37 e H = enterK [1, 8, 9, 10, 11, 12, 13, 99, 100, 101] 0 n0 e H := rfl
@[simp] theorem en36_38 [MaxL] (n0 : Nat) (e : Env) (H : Heap) : enter cx 36 n0 38 e H = enterK [1, 8, 9, 10, 11, 12, 13, 15, 99, 100, 101] 0 n0 e H := rfl
@[simp] theorem en36_39 [MaxL] (n0 : Nat) (e : Env) (H : Heap) : enter cx 36 n0 39 e H = enterK [] 0 n0 e H := rfl
@[simp] theorem en36_40 [MaxL] (n0 : Nat) (e : Env) (H : Heap) : enter cx 36 n0 40 e H = enterK [1, 8, 9, 10, 11, 12, 13, 15, 99, 100, 101] 0 n0 e H := rfl
@[simp] theorem en36_41 [MaxL] (n0 : Nat) (e : Env) (H : Heap) : enter cx 36 n0 41 e H = enterK [1, 8, 9, 10, 11, 13, 99, 100, 101] 0 n0 e H := rfl
@[simp] theorem en36_42 [MaxL] (n0 : Nat) (e : Env) (H : Heap) : enter cx 36 n0 42 e H = enterK [1, 8, 9, 10, 11, 12, 13, 15, 99, 100, 101] 0 n0 e H := rfl
@[simp] theorem en36_43 [MaxL] (n0 : Nat) (e : Env) (H : Heap) : enter cx 36 n0 43 e H = enterK [1, 8, 9, 10, 11, 12, 13, 15, 99, 100, 101] 0 n0 e H := rfl
@[simp] theorem en36_44 [MaxL] (n0 : Nat) (e : Env) (H : Heap) : enter cx 36 n0 44 e H = enterK [1, 8, 9, 10, 11, 12, 13, 15, 99, 100, 101] 0 n0 e H := rfl
@[simp] theorem en36_45 [MaxL] (n0 : Nat) (e : Env) (H : Heap) : enter cx 36 n0 45 e H = enterK [1, 8, 9, 10, 11, 12, 13, 15, 99, 100, 101] 0 n0 e H := rfl
@[simp] theorem en36_46 [MaxL] (n0 : Nat) (e : Env) (H : Heap) : enter cx 36 n0 46 e H = enterK [1, 8, 9, 10, 11, 12, 13, 16, 99, 100, 101] 0 n0 e H := rfl
@[simp] theorem en36_47 [MaxL] (n0 : Nat) (e : Env) (H : Heap) : enter cx 36 n0 47 e H = enterK [] 0 n0 e H := rfl
@[simp] theorem en36_48 [MaxL] (n0 : Nat) (e : Env) (H : Heap) : enter cx 36 n0 48 e H = enterK [1, 8, 9, 10, 11, 12, 13, 16, 99, 100, 101] 0 n0 e H := rfl
@[simp] theorem en36_49 [MaxL] (n0 : Nat) (e : Env) (H : Heap) : enter cx 36 n0 49 e H = enterK [11] 0 n0 e H := rfl
@[simp] theorem en36_50 [MaxL] (n0 : Nat) (e : Env) (H : Heap) : enter cx 36 n0 50 e H = enterK [1, 8, 9, 10, 11, 12, 13, 16, 99, 100, 101] 0 n0 e H := rfl
@[simp] theorem en36_51 [MaxL] (n0 : Nat) (e : Env) (H : Heap) : enter cx 36 n0 51 e H = enterK [1, 8, 9, 10, 11, 12, 13, 16, 99, 100, 101] 0 n0 e H := rfl
@[simp] theorem en36_52 [MaxL] (n0 : Nat) (e : Env) (H : Heap) : enter cx 36 n0 52 e H = enterK [1, 8, 9, 10, 11, 12, 13, 17, 99, 100, 101] 0 n0 e H := rfl
@[simp] theorem en36_53 [MaxL] (n0 : Nat) (e : Env) (H : Heap) : enter cx 36 n0 53 e H = enterK [11] 0 n0 e H := rfl
@[simp] theorem en36_54 [MaxL] (n0 : Nat) (e : Env) (H : Heap) : enter cx 36 n0 54 e H = enterK [1, 8, 9, 10, 11, 12, 17, 99, 100, 101] 0 n0 e H := rfl
@[simp] theorem en36_55 [MaxL] (n0 : Nat) (e : Env) (H : Heap) : enter cx 36 n0 55 e H = enterK [1, 8, 9, 10, 11, 12, 13, 99, 100, 101] 0 n0 e H := rfl
@[simp] theorem en36_56 [MaxL] (n0 : Nat) (e : Env) (H : Heap) : enter cx 36 n0 56 e H = enterK [9, 12, 13] 0 n0 e H := rfl
@[simp] theorem en36_57 [MaxL] (n0 : Nat) (e : Env) (H : Heap) : enter cx 36 n0 57 e H = enterK [] 0 n0 e H := rfl
@[simp] theorem en36_58 [MaxL] (n0 : Nat) (e : Env) (H : Heap) : enter cx 36 n0 58 e H = enterK [13] 0 n0 e H := rfl
@[simp] theorem en37_0 [MaxL] (n0 : Nat) (e : Env) (H : Heap) : enter cx 37 n0 0 e H = enterK [0, 1, 2, 3, 4] 0 n0 e H := rfl
@[simp] theorem en37_1 [MaxL] (n0 : Nat) (e : Env) (H : Heap) : enter cx 37 n0 1 e H = enterK [0, 1, 2, 3, 4] 0 n0 e H := rfl
@[simp] theorem en37_2 [MaxL] (n0 : Nat) (e : Env) (H : Heap) : enter cx 37 n0 2 e H = enterK [0, 1, 2, 3, 4, 11] 0 n0 e H := rfl
@[simp] theorem en37_3 [MaxL] (n0 : Nat) (e : Env) (H : Heap) : enter cx 37 n0 3 e H = enterK [0, 1] 0 n0 e H := rfl
@[simp] theorem en37_4 [MaxL] (n0 : Nat) (e : Env) (H : Heap) : enter cx 37 n0 4 e H = enterK [0, 1, 2, 3, 4, 11] 0 n0 e H := rfl
@[simp] theorem en37_5 [MaxL] (n0 : Nat) (e : Env) (H : Heap) : enter cx 37 n0 5 e H = enterK [0, 1] 0 n0 e H := rfl
@[simp] theorem en37_6 [MaxL] (n0 : Nat) (e : Env) (H : Heap) : enter cx 37 n0 6 e H = enterK [0, 1, 2, 3, 4, 11] 0 n0 e H := rfl
@[simp] theorem en37_7 [MaxL] (n0 : Nat) (e : Env) (H : Heap) : enter cx 37 n0 7 e H = enterK [0, 1, 2] 0 n0 e H := rfl
@[simp] theorem en37_8 [MaxL] (n0 : Nat) (e : Env) (H : Heap) : enter cx 37 n0 8 e H = enterK [0, 1, 3, 4, 11] 0 n0 e H := rfl
@[simp] theorem en37_9 [MaxL] (n0 : Nat) (e : Env) (H : Heap) : enter cx 37 n0 9 e H = enterK [0, 1, 3] 0 n0 e H := rfl
@[simp] theorem en37_10 [MaxL] (n0 : Nat) (e : Env) (H : Heap) : enter cx 37 n0 10 e H = enterK [4] 0 n0 e H := rfl
@[simp] theorem en38_0 [MaxL] (n0 : Nat) (e : Env) (H : Heap) : enter cx 38 n0 0 e H = enterK [0] 0 n0 e H := rfl
@[simp] theorem en38_1 [MaxL] (n0 : Nat) (e : Env) (H : Heap) : enter cx 38 n0 1 e H = enterK [0] 0 n0 e H := rfl
@[simp] theorem en38_2 [MaxL] (n0 : Nat) (e : Env) (H : Heap) : enter cx 38 n0 2 e H = enterK [0] 0 n0 e H := rfl
@[simp] theorem en38_3 [MaxL] (n0 : Nat) (e : Env) (H : Heap) : enter cx 38 n0 3 e H = enterK [0] 0 n0 e H := rfl
@[simp] theorem en39_0 [MaxL] (n0 : Nat) (e : Env) (H : Heap) : enter cx 39 n0 0 e H = enterK [0] 0 n0 e H := rfl
@[simp] theorem en39_1 [MaxL] (n0 : Nat) (e : Env) (H : Heap) : enter cx 39 n0 1 e H = enterK [0] 0 n0 e H := rfl
@[simp] theorem en39_2 [MaxL] (n0 : Nat) (e : Env) (H : Heap) : enter cx 39 n0 2 e H = enterK [0, 3] 0 n0 e H := rfl
@[simp] theorem en40_0 [MaxL] (n0 : Nat) (e : Env) (H : Heap) : enter cx 40 n0 0 e H = enterK [0, 1] 0 n0 e H := rfl
@[simp] theorem en40_1 [MaxL] (n0 : Nat) (e : Env) (H : Heap) : enter cx 40 n0 1 e H = enterK [0, 1, 4] 0 n0 e H := rfl
@[simp] theorem en40_2 [MaxL] (n0 : Nat) (e : Env) (H : Heap) : enter cx 40 n0 2 e H = enterK [0, 1, 4] 0 n0 e H := rfl
@[simp] theorem en40_3 [MaxL] (n0 : Nat) (e : Env) (H : Heap) : enter cx 40 n0 3 e H = enterK [0, 1, 4, 5] 0 n0 e H := rfl
@[simp] theorem en40_4 [MaxL] (n0 : Nat) (e : Env) (H : Heap) : enter cx 40 n0 4 e H = enterK [0, 1, 4, 5] 0 n0 e H := rfl
@[simp] theorem en40_5 [MaxL] (n0 : Nat) (e : Env) (H : Heap) : enter cx 40 n0 5 e H = enterK [0, 1, 4, 6, 7] 0 n0 e H := rfl
@[simp] theorem en40_6 [MaxL] (n0 : Nat) (e : Env) (H : Heap) : enter cx 40 n0 6 e H = enterK [0, 1, 4, 6, 8, 9] 0 n0 e H := rfl
@[simp] theorem en40_7 [MaxL] (n0 : Nat) (e : Env) (H : Heap) : enter cx 40 n0 7 e H = enterK [0, 1, 4, 8, 9, 10, 11] 0 n0 e H := rfl
@[simp] theorem en40_8 [MaxL] (n0 : Nat) (e : Env) (H : Heap) : enter cx 40 n0 8 e H = enterK [0, 1, 4, 8, 10, 11] 0 n0 e H := rfl
@[simp] theorem en40_9 [MaxL] (n0 : Nat) (e : Env) (H : Heap) : enter cx 40 n0 9 e H = enterK [0, 1, 4, 10, 11] 0 n0 e H := rfl
@[simp] theorem en40_10 [MaxL] (n0 : Nat) (e : Env) (H : Heap) : enter cx 40 n0 10 e H = enterK [0, 1, 4, 10] 0 n0 e H := rfl
@[simp] theorem en40_11 [MaxL] (n0 : Nat) (e : Env) (H : Heap) : enter cx 40 n0 11 e H = enterK [0, 1, 4] 0 n0 e H := rfl
@[simp] theorem en40_12 [MaxL] (n0 : Nat) (e : Env) (H : Heap) : enter cx 40 n0 12 e H = enterK [0, 1, 4] 0 n0 e H := rfl
@[simp] theorem en40_13 [MaxL] (n0 : Nat) (e : Env) (H : Heap) : enter cx 40 n0 13 e H = enterK [0, 4, 12] 0 n0 e H := rfl
@[simp] theorem en40_14 [MaxL] (n0 : Nat) (e : Env) (H : Heap) : enter cx 40 n0 14 e H = enterK [0, 4, 12] 0 n0 e H := rfl
@[simp] theorem en40_15 [MaxL] (n0 : Nat) (e : Env) (H : Heap) : enter cx 40 n0 15 e H = enterK [0, 4, 12, 13] 0 n0 e H := rfl
@[simp] theorem en40_16 [MaxL] (n0 : Nat) (e : Env) (H : Heap) : enter cx 40 n0 16 e H = enterK [0, 4, 12, 13] 0 n0 e H := rfl
@[simp] theorem en40_17 [MaxL] (n0 : Nat) (e : Env) (H : Heap) : enter cx 40 n0 17 e H = enterK [0, 4, 12, 14, 15] 0 n0 e H := rfl
@[simp] theorem en40_18 [MaxL] (n0 : Nat) (e : Env) (H : Heap) : enter cx 40 n0 18 e H = enterK [0, 4, 12, 14] 0 n0 e H := rfl
@[simp] theorem en40_19 [MaxL] (n0 : Nat) (e : Env) (H : Heap) : enter cx 40 n0 19 e H = enterK [0, 4, 12] 0 n0 e H := rfl
@[simp] theorem en40_20 [MaxL] (n0 : Nat) (e : Env) (H : Heap) : enter cx 40 n0 20 e H = enterK [0, 4, 12] 0 n0 e H := rfl
@[simp] theorem en40_21 [MaxL] (n0 : Nat) (e : Env) (H : Heap) : enter cx 40 n0 21 e H = enterK [0, 4, 12] 0 n0 e H := rfl
@[simp] theorem en40_22 [MaxL] (n0 : Nat) (e : Env) (H : Heap) : enter cx 40 n0 22 e H = enterK [0, 4, 12, 16] 0 n0 e H := rfl
@[simp] theorem en40_23 [MaxL] (n0 : Nat) (e : Env) (H : Heap) : enter cx 40 n0 23 e H = enterK [0, 4, 12, 16] 0 n0 e H := rfl
@[simp] theorem en40_24 [MaxL] (n0 : Nat) (e : Env) (H : Heap) : enter cx 40 n0 24 e H = enterK [0, 4, 12] 0 n0 e H := rfl
@[simp] theorem en40_25 [MaxL] (n0 : Nat) (e : Env) (H : Heap) : enter cx 40 n0 25 e H = enterK [0, 4, 12] 0 n0 e H := rfl
@[simp] theorem en40_26 [MaxL] (n0 : Nat) (e : Env) (H : Heap) : enter cx 40 n0 26 e H = enterK [0, 12] 0 n0 e H := rfl
@[simp] theorem en41_0 [MaxL] (n0 : Nat) (e : Env) (H : Heap) : enter cx 41 n0 0 e H = enterK [0, 1, 2, 3, 4] 0 n0 e H := rfl
@[simp] theorem en41_1 [MaxL] (n0 : Nat) (e : Env) (H : Heap) : enter cx 41 n0 1 e H = enterK [0, 1, 2, 3, 4, 10, 11] 0 n0 e H := rfl
@[simp] theorem en41_2 [MaxL] (n0 : Nat) (e : Env) (H : Heap) : enter cx 41 n0 2 e H = enterK [0, 1, 2, 3, 4, 10, 11] 0 n0 e H := rfl
@[simp] theorem en41_3 [MaxL] (n0 : Nat) (e : Env) (H : Heap) : enter cx 41 n0 3 e H = enterK [0, 1, 2, 3, 4, 10, 11] 0 n0 e H := rfl
@[simp] theorem en41_4 [MaxL] (n0 : Nat) (e : Env) (H : Heap) : enter cx 41 n0 4 e H = enterK [0, 1, 2, 3, 4, 10, 11, 12] 0 n0 e H := rfl
@[simp] theorem en41_5 [MaxL] (n0 : Nat) (e : Env) (H : Heap) : enter cx 41 n0 5 e H = enterK [0, 1, 2, 3, 4, 10, 11, 12, 13] 0 n0 e H := rfl
@[simp] theorem en41_6 [MaxL] (n0 : Nat) (e : Env) (H : Heap) : enter cx 41 n0 6 e H = enterK [0, 1, 2, 3, 4, 10, 11, 12, 13] 0 n0 e H := rfl
@[simp] theorem en41_7 [MaxL] (n0 : Nat) (e : Env) (H : Heap) : enter cx 41 n0 7 e H = enterK [0, 1, 2, 3, 4, 10, 11, 12, 13] 0 n0 e H := rfl
@[simp] theorem en41_8 [MaxL] (n0 : Nat) (e : Env) (H : Heap) : enter cx 41 n0 8 e H = enterK [0, 1, 2, 3, 4, 10, 11, 12, 13] 0 n0 e H := rfl
@[simp] theorem en41_9 [MaxL] (n0 : Nat) (e : Env) (H : Heap) : enter cx 41 n0 9 e H = enterK [0, 1, 2, 3, 4, 10, 11, 12, 13, 14] 0 n0 e H := rfl
@[simp] theorem en41_10 [MaxL] (n0 : Nat) (e : Env) (H : Heap) : enter cx 41 n0 10 e H = enterK [0, 1, 2, 3, 4, 10, 11, 12, 13, 14, 15] 0 n0 e H := rfl
@[simp] theorem en41_11 [MaxL] (n0 : Nat) (e : Env) (H : Heap) : enter cx 41 n0 11 e H = enterK [0, 1, 3, 4, 10, 11, 12, 13, 14, 15, 16] 0 n0 e H := rfl
@[simp] theorem en41_12 [MaxL] (n0 : Nat) (e : Env) (H : Heap) : enter cx 41 n0 12 e H = enterK [0, 1, 3, 4, 10, 11, 12, 13, 14, 15, 16] 0 n0 e H := rfl
@[simp] theorem en41_13 [MaxL] (n0 : Nat) (e : Env) (H : Heap) : enter cx 41 n0 13 e H = enterK [0, 1, 3, 4, 10, 11, 12, 13, 14, 15, 16] 0 n0 e H := rfl
@[simp] theorem en41_14 [MaxL] (n0 : Nat) (e : Env) (H : Heap) : enter cx 41 n0 14 e H = enterK [0, 1, 3, 4, 10, 11, 12, 13, 14, 15, 16] 0 n0 e H := rfl
@[simp] theorem en41_15 [MaxL] (n0 : Nat) (e : Env) (H : Heap) : enter cx 41 n0 15 e H = enterK [0, 1, 3, 4, 10, 11, 12, 13] 0 n0 e H := rfl
@[simp] theorem en41_16 [MaxL] (n0 : Nat) (e : Env) (H : Heap) : enter cx 41 n0 16 e H = enterK [0, 1, 3, 4, 10, 11, 12, 13] 0 n0 e H := rfl
@[simp] theorem en41_17 [MaxL] (n0 : Nat) (e : Env) (H : Heap) : enter cx 41 n0 17 e H = enterK [0, 1, 2, 3, 4, 10, 11, 12, 13] 0 n0 e H := rfl
@[simp] theorem en41_18 [MaxL] (n0 : Nat) (e : Env) (H : Heap) : enter cx 41 n0 18 e H = enterK [0, 1, 3, 4, 10, 11, 12, 13, 17] 0 n0 e H := rfl
@[simp] theorem en41_19 [MaxL] (n0 : Nat) (e : Env) (H : Heap) : enter cx 41 n0 19 e H = enterK [0, 1, 3, 4, 10, 11, 12, 13, 17] 0 n0 e H := rfl
@[simp] theorem en41_20 [MaxL] (n0 : Nat) (e : Env) (H : Heap) : enter cx 41 n0 20 e H = enterK [0, 1, 3, 4, 10, 11, 12, 13, 17] 0 n0 e H := rfl
@[simp] theorem en41_21 [MaxL] (n0 : Nat) (e : Env) (H : Heap) : enter cx 41 n0 21 e H = enterK [0, 1, 3, 4, 10, 11, 12, 13, 17, 18] 0 n0 e H := rfl
@[simp] theorem en41_22 [MaxL] (n0 : Nat) (e : Env) (H : Heap) : enter cx 41 n0 22 e H = enterK [0, 3, 4, 10, 11, 12, 13, 17, 18] 0 n0 e H := rfl
@[simp] theorem en41_23 [MaxL] (n0 : Nat) (e : Env) (H : Heap) : enter cx 41 n0 23 e H = enterK [0, 1, 3, 4, 10, 11, 12, 13] 0 n0 e H := rfl
@[simp] theorem en41_24 [MaxL] (n0 : Nat) (e : Env) (H : Heap) : enter cx 41 n0 24 e H = enterK [0, 1, 3, 4, 10, 11, 12, 13] 0 n0 e H := rfl
@[simp] theorem en41_25 [MaxL] (n0 : Nat) (e : Env) (H : Heap) : enter cx 41 n0 25 e H = enterK [0, 3, 4, 10, 11, 12, 13] 0 n0 e H := rfl
@[simp] theorem en41_26 [MaxL] (n0 : Nat) (e : Env) (H : Heap) : enter cx 41 n0 26 e H = enterK [0, 4, 10, 11, 12, 13] 0 n0 e H := rfl
@[simp] theorem en41_27 [MaxL] (n0 : Nat) (e : Env) (H : Heap) : enter cx 41 n0 27 e H = enterK [0, 4, 10, 11, 12, 13] 0 n0 e H := rfl
@[simp] theorem en41_28 [MaxL] (n0 : Nat) (e : Env) (H : Heap) : enter cx 41 n0 28 e H = enterK [0, 4, 10, 11, 12, 13] 0 n0 e H := rfl
@[simp] theorem en41_29 [MaxL] (n0 : Nat) (e : Env) (H : Heap) : enter cx 41 n0 29 e H = enterK [0, 11, 12, 13] 0 n0 e H := rfl
@[simp] theorem en41_30 [MaxL] (n0 : Nat) (e : Env) (H : Heap) : enter cx 41 n0 30 e H = enterK [10, 12, 13] 0 n0 e H := rfl
@[simp] theorem en46_0 [MaxL] (n0 : Nat) (e : Env) (H : Heap) : enter cx 46 n0 0 e H = enterK [0] 0 n0 e H := rfl
@[simp] theorem en46_1 [MaxL] (n0 : Nat) (e : Env) (H : Heap) : enter cx 46 n0 1 e H = enterK [0, 2] 0 n0 e H := rfl
@[simp] theorem en46_2 [MaxL] (n0 : Nat) (e : Env) (H : Heap) : enter cx 46 n0 2 e H = enterK [2, 4] 0 n0 e H := rfl
@[simp] theorem en46_3 [MaxL] (n0 : Nat) (e : Env) (H : Heap) : enter cx 46 n0 3 e H = enterK [2, 4] 0 n0 e H := rfl
@[simp] theorem en46_4 [MaxL] (n0 : Nat) (e : Env) (H : Heap) : enter cx 46 n0 4 e H = enterK [2] 0 n0 e H := rfl
@[simp] theorem en47_0 [MaxL] (n0 : Nat) (e : Env) (H : Heap) : enter cx 47 n0 0 e H = enterK [0] 0 n0 e H := rfl
@[simp] theorem en47_1 [MaxL] (n0 : Nat) (e : Env) (H : Heap) : enter cx 47 n0 1 e H = enterK [0] 0 n0 e H := rfl
@[simp] theorem en47_2 [MaxL] (n0 : Nat) (e : Env) (H : Heap) : enter cx 47 n0 2 e H = enterK [0] 0 n0 e H := rfl
@[simp] theorem en47_3 [MaxL] (n0 : Nat) (e : Env) (H : Heap) : enter cx 47 n0 3 e H = enterK [0] 0 n0 e H := rfl
@[simp] theorem en51_0 [MaxL] (n0 : Nat) (e : Env) (H : Heap) : enter cx 51 n0 0 e H = enterK [0] 0 n0 e H := rfl
@[simp] theorem en51_1 [MaxL] (n0 : Nat) (e : Env) (H : Heap) : enter cx 51 n0 1 e H = enterK [0] 0 n0 e H := rfl
@[simp] theorem en52_0 [MaxL] (n0 : Nat) (e : Env) (H : Heap) : enter cx 52 n0 0 e H = enterK [0] 0 n0 e H := rfl
@[simp] theorem en52_1 [MaxL] (n0 : Nat) (e : Env) (H : Heap) : enter cx 52 n0 1 e H = enterK [0] 0 n0 e H := rfl
@[simp] theorem en52_2 [MaxL] (n0 : Nat) (e : Env) (H : Heap) : enter cx 52 n0 2 e H = enterK [0, 3] 0 n0 e H := rfl
@[simp] theorem en52_3 [MaxL] (n0 : Nat) (e : Env) (H : Heap) : enter cx 52 n0 3 e H = enterK [0, 3, 4] 0 n0 e H := rfl
@[simp] theorem en52_4 [MaxL] (n0 : Nat) (e : Env) (H : Heap) : enter cx 52 n0 4 e H = enterK [0, 3, 4] 0 n0 e H := rfl
@[simp] theorem en52_5 [MaxL] (n0 : Nat) (e : Env) (H : Heap) : enter cx 52 n0 5 e H = enterK [0, 3, 4] 0 n0 e H := rfl
@[simp] theorem en52_6 [MaxL] (n0 : Nat) (e : Env) (H : Heap) : enter cx 52 n0 6 e H = enterK [0, 3, 4, 5] 0 n0 e H := rfl
@[simp] theorem en52_7 [MaxL] (n0 : Nat) (e : Env) (H : Heap) : enter cx 52 n0 7 e H = enterK [0] 0 n0 e H := rfl
@[simp] theorem en52_8 [MaxL] (n0 : Nat) (e : Env) (H : Heap) : enter cx 52 n0 8 e H = enterK [0, 4] 0 n0 e H := rfl
@[simp] theorem en52_9 [MaxL] (n0 : Nat) (e : Env) (H : Heap) : enter cx 52 n0 9 e H = enterK [0, 3, 4] 0 n0 e H := rfl
@[simp] theorem en52_10 [MaxL] (n0 : Nat) (e : Env) (H : Heap) : enter cx 52 n0 10 e H = enterK [0, 3, 4, 5] 0 n0 e H := rfl
@[simp] theorem en52_11 [MaxL] (n0 : Nat) (e : Env) (H : Heap) : enter cx 52 n0 11 e H = enterK [0, 3, 4, 5] 0 n0 e H := rfl
@[simp] theorem en52_12 [MaxL] (n0 : Nat) (e : Env) (H : Heap) : enter cx 52 n0 12 e H = enterK [0, 3, 4, 5] 0 n0 e H := rfl
@[simp] theorem en52_13 [MaxL] (n0 : Nat) (e : Env) (H : Heap) : enter cx 52 n0 13 e H = enterK [0, 4, 5] 0 n0 e H := rfl
@[simp] theorem en52_14 [MaxL] (n0 : Nat) (e : Env) (H : Heap) : enter cx 52 n0 14 e H = enterK [0, 3, 4, 5] 0 n0 e H := rfl
@[simp] theorem en52_15 [MaxL] (n0 : Nat) (e : Env) (H : Heap) : enter cx 52 n0 15 e H = enterK [0, 3, 4, 5] 0 n0 e H := rfl
@[simp] theorem en52_16 [MaxL] (n0 : Nat) (e : Env) (H : Heap) : enter cx 52 n0 16 e H = enterK [] 0 n0 e H := rfl
@[simp] theorem en52_17 [MaxL] (n0 : Nat) (e : Env) (H : Heap) : enter cx 52 n0 17 e H = enterK [0, 4, 5] 0 n0 e H := rfl
@[simp] theorem en52_18 [MaxL] (n0 : Nat) (e : Env) (H : Heap) : enter cx 52 n0 18 e H = enterK [0, 3, 4, 5] 0 n0 e H := rfl
@[simp] theorem en52_19 [MaxL] (n0 : Nat) (e : Env) (H : Heap) : enter cx 52 n0 19 e H = enterK [] 0 n0 e H := rfl
@[simp] theorem en52_20 [MaxL] (n0 : Nat) (e : Env) (H : Heap) : enter cx 52 n0 20 e H = enterK [0, 4, 5] 0 n0 e H := rfl
@[simp] theorem en52_21 [MaxL] (n0 : Nat) (e : Env) (H : Heap) : enter cx 52 n0 21 e H = enterK [3] 0 n0 e H := rfl
@[simp] theorem en53_0 [MaxL] (n0 : Nat) (e : Env) (H : Heap) : enter cx 53 n0 0 e H = enterK [0, 1] 0 n0 e H := rfl
@[simp] theorem en53_1 [MaxL] (n0 : Nat) (e : Env) (H : Heap) : enter cx 53 n0 1 e H = enterK [0, 1] 0 n0 e H := rfl
@[simp] theorem en54_0 [MaxL] (n0 : Nat) (e : Env) (H : Heap) : enter cx 54 n0 0 e H = enterK [0, 1] 0 n0 e H := rfl
@[simp] theorem en54_1 [MaxL] (n0 : Nat) (e : Env) (H : Heap) : enter cx 54 n0 1 e H = enterK [0, 1] 0 n0 e H := rfl
@[simp] theorem en55_0 [MaxL] (n0 : Nat) (e : Env) (H : Heap) : enter cx 55 n0 0 e H = enterK [0, 1, 2] 0 n0 e H := rfl
@[simp] theorem en55_1 [MaxL] (n0 : Nat) (e : Env) (H : Heap) : enter cx 55 n0 1 e H = enterK [0, 1, 2] 0 n0 e H := rfl
@[simp] theorem en56_0 [MaxL] (n0 : Nat) (e : Env) (H : Heap) : enter cx 56 n0 0 e H = enterK [0, 1, 2] 0 n0 e H := rfl
@[simp] theorem en56_1 [MaxL] (n0 : Nat) (e : Env) (H : Heap) : enter cx 56 n0 1 e H = enterK [0, 1, 2] 0 n0 e H := rfl
@[simp] theorem en57_0 [MaxL] (n0 : Nat) (e : Env) (H : Heap) : enter cx 57 n0 0 e H = enterK [0] 0 n0 e H := rfl
@[simp] theorem en57_1 [MaxL] (n0 : Nat) (e : Env) (H : Heap) : enter cx 57 n0 1 e H = enterK [0] 0 n0 e H := rfl
@[simp] theorem en58_0 [MaxL] (n0 : Nat) (e : Env) (H : Heap) : enter cx 58 n0 0 e H = enterK [0] 0 n0 e H := rfl
@[simp] theorem en58_1 [MaxL] (n0 : Nat) (e : Env) (H : Heap) : enter cx 58 n0 1 e H = enterK [0, 2] 0 n0 e H := rfl
@[simp] theorem en58_2 [MaxL] (n0 : Nat) (e : Env) (H : Heap) : enter cx 58 n0 2 e H = enterK [0] 0 n0 e H := rfl
@[simp] theorem en58_3 [MaxL] (n0 : Nat) (e : Env) (H : Heap) : enter cx 58 n0 3 e H = enterK [0] 0 n0 e H := rfl
@[simp] theorem en58_4 [MaxL] (n0 : Nat) (e : Env) (H : Heap) : enter cx 58 n0 4 e H = enterK [0, 2] 0 n0 e H := rfl
@[simp] theorem en58_5 [MaxL] (n0 : Nat) (e : Env) (H : Heap) : enter cx 58 n0 5 e H = enterK [0, 2] 0 n0 e H := rfl
@[simp] theorem en58_6 [MaxL] (n0 : Nat) (e : Env) (H : Heap) : enter cx 58 n0 6 e H = enterK [0, 2] 0 n0 e H := rfl
@[simp] theorem en58_7 [MaxL] (n0 : Nat) (e : Env) (H : Heap) : enter cx 58 n0 7 e H = enterK [0, 2] 0 n0 e H := rfl
@[simp] theorem en58_8 [MaxL] (n0 : Nat) (e : Env) (H : Heap) : enter cx 58 n0 8 e H = enterK [0, 2] 0 n0 e H := rfl
@[simp] theorem en58_9 [MaxL] (n0 : Nat) (e : Env) (H : Heap) : enter cx 58 n0 9 e H = enterK [0, 2] 0 n0 e H := rfl
@[simp] theorem en58_10 [MaxL] (n0 : Nat) (e : Env) (H : Heap) : enter cx 58 n0 10 e H = enterK [0, 2] 0 n0 e H := rfl
@[simp] theorem en59_0 [MaxL] (n0 : Nat) (e : Env) (H : Heap) : enter cx 59 n0 0 e H = enterK [0] 0 n0 e H := rfl
@[simp] theorem en59_1 [MaxL] (n0 : Nat) (e : Env) (H : Heap) : enter cx 59 n0 1 e H = enterK [0] 0 n0 e H := rfl
@[simp] theorem en59_2 [MaxL] (n0 : Nat) (e : Env) (H : Heap) : enter cx 59 n0 2 e H = enterK [] 0 n0 e H := rfl
@[simp] theorem en59_3 [MaxL] (n0 : Nat) (e : Env) (H : Heap) : enter cx 59 n0 3 e H = enterK [] 0 n0 e H := rfl
@[simp] theorem en60_0 [MaxL] (n0 : Nat) (e : Env) (H : Heap) : enter cx 60 n0 0 e H = enterK [0] 0 n0 e H := rfl
@[simp] theorem en60_1 [MaxL] (n0 : Nat) (e : Env) (H : Heap) : enter cx 60 n0 1 e H = enterK [0] 0 n0 e H := rfl
@[simp] theorem en61_0 [MaxL] (n0 : Nat) (e : Env) (H : Heap) : enter cx 61 n0 0 e H = enterK [0] 0 n0 e H := rfl
@[simp] theorem en61_1 [MaxL] (n0 : Nat) (e : Env) (H : Heap) : enter cx 61 n0 1 e H = enterK [0] 0 n0 e H := rfl
@[simp] theorem en61_2 [MaxL] (n0 : Nat) (e : Env) (H : Heap) : enter cx 61 n0 2 e H = enterK [0] 0 n0 e H := rfl
@[simp] theorem en64_0 [MaxL] (n0 : Nat) (e : Env) (H : Heap) : enter cx 64 n0 0 e H = enterK [0] 0 n0 e H := rfl
@[simp] theorem en64_1 [MaxL] (n0 : Nat) (e : Env) (H : Heap) : enter cx 64 n0 1 e H = enterK [0] 0 n0 e H := rfl
@[simp] theorem en64_2 [MaxL] (n0 : Nat) (e : Env) (H : Heap) : enter cx 64 n0 2 e H = enterK [0, 4] 0 n0 e H := rfl
@[simp] theorem en64_3 [MaxL] (n0 : Nat) (e : Env) (H : Heap) : enter cx 64 n0 3 e H = enterK [] 0 n0 e H := rfl
@[simp] theorem en64_4 [MaxL] (n0 : Nat) (e : Env) (H : Heap) : enter cx 64 n0 4 e H = enterK [0, 4] 0 n0 e H := rfl
@[simp] theorem en64_5 [MaxL] (n0 : Nat) (e : Env) (H : Heap) : enter cx 64 n0 5 e H = enterK [0, 4, 5] 0 n0 e H := rfl
@[simp] theorem en64_6 [MaxL] (n0 : Nat) (e : Env) (H : Heap) : enter cx 64 n0 6 e H = enterK [0, 4, 5, 6] 0 n0 e H := rfl
@[simp] theorem en64_7 [MaxL] (n0 : Nat) (e : Env) (H : Heap) : enter cx 64 n0 7 e H = enterK [0, 6] 0 n0 e H := rfl
@[simp] theorem en64_8 [MaxL] (n0 : Nat) (e : Env) (H : Heap) : enter cx 64 n0 8 e H = enterK [0, 7] 0 n0 e H := rfl
@[simp] theorem en64_9 [MaxL] (n0 : Nat) (e : Env) (H : Heap) : enter cx 64 n0 9 e H = enterK [0, 4, 5, 6] 0 n0 e H := rfl
@[simp] theorem en64_10 [MaxL] (n0 : Nat) (e : Env) (H : Heap) : enter cx 64 n0 10 e H = enterK [0, 4, 5, 6, 8] 0 n0 e H := rfl
@[simp] theorem en64_11 [MaxL] (n0 : Nat) (e : Env) (H : Heap) : enter cx 64 n0 11 e H = enterK [0, 4, 5, 8, 9] 0 n0 e H := rfl
@[simp] theorem en64_12 [MaxL] (n0 : Nat) (e : Env) (H : Heap) : enter cx 64 n0 12 e H = enterK [] 0 n0 e H := rfl
@[simp] theorem en64_13 [MaxL] (n0 : Nat) (e : Env) (H : Heap) : enter cx 64 n0 13 e H = enterK [0, 5, 8, 9] 0 n0 e H := rfl
@[simp] theorem en64_14 [MaxL] (n0 : Nat) (e : Env) (H : Heap) : enter cx 64 n0 14 e H = enterK [0, 5, 8, 9, 10] 0 n0 e H := rfl
@[simp] theorem en64_15 [MaxL] (n0 : Nat) (e : Env) (H : Heap) : enter cx 64 n0 15 e H = enterK [] 0 n0 e H := rfl
@[simp] theorem en64_16 [MaxL] (n0 : Nat) (e : Env) (H : Heap) : enter cx 64 n0 16 e H = enterK [0, 5, 8, 10] 0 n0 e H := rfl
@[simp] theorem en64_17 [MaxL] (n0 : Nat) (e : Env) (H : Heap) : enter cx 64 n0 17 e H = enterK [5, 10] 0 n0 e H := rfl
@[simp] theorem en64_18 [MaxL] (n0 : Nat) (e : Env) (H : Heap) : enter cx 64 n0 18 e H = enterK [0, 5, 8, 10] 0 n0 e H := rfl
@[simp] theorem en64_19 [MaxL] (n0 : Nat) (e : Env) (H : Heap) : enter cx 64 n0 19 e H = enterK [0, 5, 8, 10, 11] 0 n0 e H := rfl
@[simp] theorem en64_20 [MaxL] (n0 : Nat) (e : Env) (H : Heap) : enter cx 64 n0 20 e H = enterK [] 0 n0 e H := rfl
@[simp] theorem en64_21 [MaxL] (n0 : Nat) (e : Env) (H : Heap) : enter cx 64 n0 21 e H = enterK [0, 5, 8, 10, 11] 0 n0 e H := rfl
@[simp] theorem en64_22 [MaxL] (n0 : Nat) (e : Env) (H : Heap) : enter cx 64 n0 22 e H = enterK [5, 10, 11] 0 n0 e H := rfl
@[simp] theorem en64_23 [MaxL] (n0 : Nat) (e : Env) (H : Heap) : enter cx 64 n0 23 e H = enterK [0, 5, 10, 11] 0 n0 e H := rfl
@[simp] theorem en64_24 [MaxL] (n0 : Nat) (e : Env) (H : Heap) : enter cx 64 n0 24 e H = enterK [5, 10, 11, 12] 0 n0 e H := rfl
@[simp] theorem en64_25 [MaxL] (n0 : Nat) (e : Env) (H : Heap) : enter cx 64 n0 25 e H = enterK [] 0 n0 e H := rfl
@[simp] theorem en64_26 [MaxL] (n0 : Nat) (e : Env) (H : Heap) : enter cx 64 n0 26 e H = enterK [5, 10, 11, 12] 0 n0 e H := rfl
@[simp] theorem en69_0 [MaxL] (n0 : Nat) (e : Env) (H : Heap) : enter cx 69 n0 0 e H = enterK [0] 0 n0 e H := rfl
@[simp] theorem en69_1 [MaxL] (n0 : Nat) (e : Env) (H : Heap) : enter cx 69 n0 1 e H = enterK [0] 0 n0 e H := rfl
@[simp] theorem en70_0 [MaxL] (n0 : Nat) (e : Env) (H : Heap) : enter cx 70 n0 0 e H = enterK [0] 0 n0 e H := rfl
@[simp] theorem en70_1 [MaxL] (n0 : Nat) (e : Env) (H : Heap) : enter cx 70 n0 1 e H = enterK [0] 0 n0 e H := rfl
@[simp] theorem en71_0 [MaxL] (n0 : Nat) (e : Env) (H : Heap) : enter cx 71 n0 0 e H = enterK [0] 0 n0 e H := rfl
@[simp] theorem en71_1 [MaxL] (n0 : Nat) (e : Env) (H : Heap) : enter cx 71 n0 1 e H = enterK [0] 0 n0 e H := rfl
@[simp] theorem en71_2 [MaxL] (n0 : Nat) (e : Env) (H : Heap) : enter cx 71 n0 2 e H = enterK [] 0 n0 e H := rfl
@[simp] theorem en71_3 [MaxL] (n0 : Nat) (e : Env) (H : Heap) : enter cx 71 n0 3 e H = enterK [0] 0 n0 e H := rfl
@[simp] theorem en72_0 [MaxL] (n0 : Nat) (e : Env) (H : Heap) : enter cx 72 n0 0 e H = enterK [0] 0 n0 e H := rfl
@[simp] theorem en72_1 [MaxL] (n0 : Nat) (e : Env) (H : Heap) : enter cx 72 n0 1 e H = enterK [0] 0 n0 e H := rfl
@[simp] theorem en72_2 [MaxL] (n0 : Nat) (e : Env) (H : Heap) : enter cx 72 n0 2 e H = enterK [] 0 n0 e H := rfl
@[simp] theorem en72_3 [MaxL] (n0 : Nat) (e : Env) (H : Heap) : enter cx 72 n0 3 e H = enterK [0] 0 n0 e H := rfl
@[simp] theorem en74_0 [MaxL] (n0 : Nat) (e : Env) (H : Heap) : enter cx 74 n0 0 e H = enterK [0] 0 n0 e H := rfl
@[simp] theorem en74_1 [MaxL] (n0 : Nat) (e : Env) (H : Heap) : enter cx 74 n0 1 e H = enterK [0] 0 n0 e H := rfl
@[simp] theorem en75_0 [MaxL] (n0 : Nat) (e : Env) (H : Heap) : enter cx 75 n0 0 e H = enterK [0, 1] 0 n0 e H := rfl
@[simp] theorem en75_1 [MaxL] (n0 : Nat) (e : Env) (H : Heap) : enter cx 75 n0 1 e H = enterK [0, 1] 0 n0 e H := rfl
@[simp] theorem en75_2 [MaxL] (n0 : Nat) (e : Env) (H : Heap) : enter cx 75 n0 2 e H = enterK [0] 0 n0 e H := rfl
@[simp] theorem en75_3 [MaxL] (n0 : Nat) (e : Env) (H : Heap) : enter cx 75 n0 3 e H = enterK [0] 0 n0 e H := rfl
@[simp] theorem en75_4 [MaxL] (n0 : Nat) (e : Env) (H : Heap) : enter cx 75 n0 4 e H = enterK [0] 0 n0 e H := rfl
@[simp] theorem en75_5 [MaxL] (n0 : Nat) (e : Env) (H : Heap) : enter cx 75 n0 5 e H = enterK [0, 5] 0 n0 e H := rfl
@[simp] theorem en75_6 [MaxL] (n0 : Nat) (e : Env) (H : Heap) : enter cx 75 n0 6 e H = enterK [0, 5, 6] 0 n0 e H := rfl
@[simp] theorem en75_7 [MaxL] (n0 : Nat) (e : Env) (H : Heap) : enter cx 75 n0 7 e H = enterK [0, 5, 6] 0 n0 e H := rfl
@[simp] theorem en75_8 [MaxL] (n0 : Nat) (e : Env) (H : Heap) : enter cx 75 n0 8 e H = enterK [0, 5, 6] 0 n0 e H := rfl
@[simp] theorem en75_9 [MaxL] (n0 : Nat) (e : Env) (H : Heap) : enter cx 75 n0 9 e H = enterK [0, 5, 6, 7] 0 n0 e H := rfl
@[simp] theorem en75_10 [MaxL] (n0 : Nat) (e : Env) (H : Heap) : enter cx 75 n0 10 e H = enterK [0, 5, 7] 0 n0 e H := rfl
@[simp] theorem en75_11 [MaxL] (n0 : Nat) (e : Env) (H : Heap) : enter cx 75 n0 11 e H = enterK [5, 7] 0 n0 e H := rfl
@[simp] theorem en75_12 [MaxL] (n0 : Nat) (e : Env) (H : Heap) : enter cx 75 n0 12 e H = enterK [5, 7] 0 n0 e H := rfl
@[simp] theorem en75_13 [MaxL] (n0 : Nat) (e : Env) (H : Heap) : enter cx 75 n0 13 e H = enterK [5, 7] 0 n0 e H := rfl
@[simp] theorem en75_14 [MaxL] (n0 : Nat) (e : Env) (H : Heap) : enter cx 75 n0 14 e H = enterK [0, 1] 0 n0 e H := rfl
@[simp] theorem en75_15 [MaxL] (n0 : Nat) (e : Env) (H : Heap) : enter cx 75 n0 15 e H = enterK [9] 0 n0 e H := rfl
end Go.Ev.S
/- What the evaluator needs of this program: printed by program. -/
namespace Go.Ev.S
open Go Go.Proofs Go.Ev
@[simp] theorem sz2 : szOf Tryd.prog 2 = 1 := by kernel_rfl
@[simp] theorem ag2 : aggQ Tryd.prog 2 = some false := by kernel_rfl
@[simp] theorem by2 : bytesOf Tryd.prog 2 = 8 := by kernel_rfl
@[simp] theorem zo2 : zeroOf Tryd.prog 2 = some (.int .i64 0) := by kernel_rfl
@[simp] theorem cq2 : cmpQ Tryd.prog 2 = true := by kernel_rfl
@[simp] theorem un2 : Tryd.prog.underlying 2 = some (.int .i64) := by kernel_rfl
@[simp] theorem sz3 : szOf Tryd.prog 3 = 1 := by kernel_rfl
@[simp] theorem ag3 : aggQ Tryd.prog 3 = some false := by kernel_rfl
@[simp] theorem by3 : bytesOf Tryd.prog 3 = 8 := by kernel_rfl
@[simp] theorem zo3 : zeroOf Tryd.prog 3 = some (.int .i64 0) := by kernel_rfl
@[simp] theorem cq3 : cmpQ Tryd.prog 3 = true := by kernel_rfl
@[simp] theorem un3 : Tryd.prog.underlying 3 = some (.int .i64) := by kernel_rfl
@[simp] theorem sz4 : szOf Tryd.prog 4 = 1 := by kernel_rfl
@[simp] theorem ag4 : aggQ Tryd.prog 4 = some false := by kernel_rfl
@[simp] theorem by4 : bytesOf Tryd.prog 4 = 1 := by kernel_rfl
@[simp] theorem zo4 : zeroOf Tryd.prog 4 = some (.bool false) := by kernel_rfl
@[simp] theorem un4 : Tryd.prog.underlying 4 = some .bool := by kernel_rfl
@[simp] theorem sz5 : szOf Tryd.prog 5 = 1 := by kernel_rfl
@[simp] theorem ag5 : aggQ Tryd.prog 5 = some false := by kernel_rfl
@[simp] theorem by5 : bytesOf Tryd.prog 5 = 1 := by kernel_rfl
@[simp] theorem zo5 : zeroOf Tryd.prog 5 = some (.int .u8 0) := by kernel_rfl
@[simp] theorem cq5 : cmpQ Tryd.prog 5 = true := by kernel_rfl
@[simp] theorem un5 : Tryd.prog.underlying 5 = some (.int .u8) := by kernel_rfl
@[simp] theorem sz9 : szOf Tryd.prog 9 = 1 := by kernel_rfl
@[simp] theorem ag9 : aggQ Tryd.prog 9 = some false := by kernel_rfl
@[simp] theorem by9 : bytesOf Tryd.prog 9 = 16 := by kernel_rfl
@[simp] theorem zo9 : zeroOf Tryd.prog 9 = some (.str []) := by kernel_rfl
@[simp] theorem un9 : Tryd.prog.underlying 9 = some .string := by kernel_rfl
@[simp] theorem sz21 : szOf Tryd.prog 21 = 1 := by kernel_rfl
@[simp] theorem ag21 : aggQ Tryd.prog 21 = some false := by kernel_rfl
@[simp] theorem by21 : bytesOf Tryd.prog 21 = 4 := by kernel_rfl
@[simp] theorem zo21 : zeroOf Tryd.prog 21 = some (.int .i32 0) := by kernel_rfl
@[simp] theorem cq21 : cmpQ Tryd.prog 21 = true := by kernel_rfl
@[simp] theorem un21 : Tryd.prog.underlying 21 = some (.int .i32) := by kernel_rfl
@[simp] theorem sz22 : szOf Tryd.prog 22 = 16 := by kernel_rfl
@[simp] theorem ag22 : aggQ Tryd.prog 22 = some true := by kernel_rfl
@[simp] theorem by22 : bytesOf Tryd.prog 22 = 16 := by kernel_rfl
@[simp] theorem zo22 : zeroOf Tryd.prog 22 = some (.agg [.int .u8 0, .int .u8 0, .int .u8 0, .int .u8 0, .int .u8 0, .int .u8 0, .int .u8 0, .int .u8 0, .int .u8 0, .int .u8 0, .int .u8 0, .int .u8 0, .int .u8 0, .int .u8 0, .int .u8 0, .int .u8 0]) := by kernel_rfl
@[simp] theorem un22 : Tryd.prog.underlying 22 = some (.array 16 5) := by kernel_rfl
@[simp] theorem sz23 : szOf Tryd.prog 23 = 16 := by kernel_rfl
@[simp] theorem ag23 : aggQ Tryd.prog 23 = some true := by kernel_rfl
@[simp] theorem by23 : bytesOf Tryd.prog 23 = 16 := by kernel_rfl
@[simp] theorem zo23 : zeroOf Tryd.prog 23 = some (.agg [.int .u8 0, .int .u8 0, .int .u8 0, .int .u8 0, .int .u8 0, .int .u8 0, .int .u8 0, .int .u8 0, .int .u8 0, .int .u8 0, .int .u8 0, .int .u8 0, .int .u8 0, .int .u8 0, .int .u8 0, .int .u8 0]) := by kernel_rfl
@[simp] theorem un23 : Tryd.prog.underlying 23 = some (.array 16 5) := by kernel_rfl
@[simp] theorem sz24 : szOf Tryd.prog 24 = 1 := by kernel_rfl
@[simp] theorem ag24 : aggQ Tryd.prog 24 = some false := by kernel_rfl
@[simp] theorem by24 : bytesOf Tryd.prog 24 = 8 := by kernel_rfl
@[simp] theorem zo24 : zeroOf Tryd.prog 24 = some (.int .u64 0) := by kernel_rfl
@[simp] theorem cq24 : cmpQ Tryd.prog 24 = true := by kernel_rfl
@[simp] theorem un24 : Tryd.prog.underlying 24 = some (.int .u64) := by kernel_rfl
@[simp] theorem sz27 : szOf Tryd.prog 27 = 19 := by kernel_rfl
@[simp] theorem ag27 : aggQ Tryd.prog 27 = some true := by kernel_rfl
@[simp] theorem by27 : bytesOf Tryd.prog 27 = 40 := by kernel_rfl
@[simp] theorem zo27 : zeroOf Tryd.prog 27 = some (.agg [.int .i64 0, .int .u8 0, .int .u8 0, .int .u8 0, .int .u8 0, .int .u8 0, .int .u8 0, .int .u8 0, .int .u8 0, .int .u8 0, .int .u8 0, .int .u8 0, .int .u8 0, .int .u8 0, .int .u8 0, .int .u8 0, .int .u8 0, .int .u64 0, .int .u64 0]) := by kernel_rfl
attribute [simp] Tryd.underlying27
@[simp] theorem sz28 : szOf Tryd.prog 28 = 19 := by kernel_rfl
@[simp] theorem ag28 : aggQ Tryd.prog 28 = some true := by kernel_rfl
@[simp] theorem by28 : bytesOf Tryd.prog 28 = 40 := by kernel_rfl
@[simp] theorem zo28 : zeroOf Tryd.prog 28 = some (.agg [.int .i64 0, .int .u8 0, .int .u8 0, .int .u8 0, .int .u8 0, .int .u8 0, .int .u8 0, .int .u8 0, .int .u8 0, .int .u8 0, .int .u8 0, .int .u8 0, .int .u8 0, .int .u8 0, .int .u8 0, .int .u8 0, .int .u8 0, .int .u64 0, .int .u64 0]) := by kernel_rfl
attribute [simp] Tryd.underlying28
@[simp] theorem sz32 : szOf Tryd.prog 32 = 1 := by kernel_rfl
@[simp] theorem ag32 : aggQ Tryd.prog 32 = some false := by kernel_rfl
@[simp] theorem by32 : bytesOf Tryd.prog 32 = 24 := by kernel_rfl
@[simp] theorem zo32 : zeroOf Tryd.prog 32 = some (.vsl true [] 0) := by kernel_rfl
@[simp] theorem un32 : Tryd.prog.underlying 32 = some (.slice 5) := by kernel_rfl
@[simp] theorem sz38 : szOf Tryd.prog 38 = 1 := by kernel_rfl
@[simp] theorem ag38 : aggQ Tryd.prog 38 = some false := by kernel_rfl
@[simp] theorem by38 : bytesOf Tryd.prog 38 = 24 := by kernel_rfl
@[simp] theorem zo38 : zeroOf Tryd.prog 38 = some (.vsl true [] 0) := by kernel_rfl
@[simp] theorem un38 : Tryd.prog.underlying 38 = some (.slice 9) := by kernel_rfl
@[simp] theorem sz44 : szOf Tryd.prog 44 = 1 := by kernel_rfl
@[simp] theorem ag44 : aggQ Tryd.prog 44 = some false := by kernel_rfl
@[simp] theorem by44 : bytesOf Tryd.prog 44 = 8 := by kernel_rfl
@[simp] theorem zo44 : zeroOf Tryd.prog 44 = some (.int .u64 0) := by kernel_rfl
@[simp] theorem cq44 : cmpQ Tryd.prog 44 = true := by kernel_rfl
@[simp] theorem un44 : Tryd.prog.underlying 44 = some (.int .u64) := by kernel_rfl
@[simp] theorem sz49 : szOf Tryd.prog 49 = 1 := by kernel_rfl
@[simp] theorem ag49 : aggQ Tryd.prog 49 = some false := by kernel_rfl
@[simp] theorem by49 : bytesOf Tryd.prog 49 = 16 := by kernel_rfl
@[simp] theorem zo49 : zeroOf Tryd.prog 49 = some (.nili) := by kernel_rfl
attribute [simp] Tryd.underlying49
@[simp] theorem sz50 : szOf Tryd.prog 50 = 1 := by kernel_rfl
@[simp] theorem ag50 : aggQ Tryd.prog 50 = some false := by kernel_rfl
@[simp] theorem by50 : bytesOf Tryd.prog 50 = 16 := by kernel_rfl
@[simp] theorem zo50 : zeroOf Tryd.prog 50 = some (.nili) := by kernel_rfl
attribute [simp] Tryd.underlying50
@[simp] theorem sz67 : szOf Tryd.prog 67 = 24 := by kernel_rfl
@[simp] theorem ag67 : aggQ Tryd.prog 67 = some true := by kernel_rfl
@[simp] theorem by67 : bytesOf Tryd.prog 67 = 24 := by kernel_rfl
@[simp] theorem zo67 : zeroOf Tryd.prog 67 = some (.agg [.int .u8 0, .int .u8 0, .int .u8 0, .int .u8 0, .int .u8 0, .int .u8 0, .int .u8 0, .int .u8 0, .int .u8 0, .int .u8 0, .int .u8 0, .int .u8 0, .int .u8 0, .int .u8 0, .int .u8 0, .int .u8 0, .int .u8 0, .int .u8 0, .int .u8 0, .int .u8 0, .int .u8 0, .int .u8 0, .int .u8 0, .int .u8 0]) := by kernel_rfl
@[simp] theorem un67 : Tryd.prog.underlying 67 = some (.array 24 5) := by kernel_rfl
@[simp] theorem sz72 : szOf Tryd.prog 72 = 1 := by kernel_rfl
@[simp] theorem ag72 : aggQ Tryd.prog 72 = some false := by kernel_rfl
@[simp] theorem by72 : bytesOf Tryd.prog 72 = 4 := by kernel_rfl
@[simp] theorem zo72 : zeroOf Tryd.prog 72 = some (.int .u32 0) := by kernel_rfl
@[simp] theorem cq72 : cmpQ Tryd.prog 72 = true := by kernel_rfl
@[simp] theorem un72 : Tryd.prog.underlying 72 = some (.int .u32) := by kernel_rfl
@[simp] theorem sz81 : szOf Tryd.prog 81 = 1 := by kernel_rfl
@[simp] theorem ag81 : aggQ Tryd.prog 81 = some false := by kernel_rfl
@[simp] theorem by81 : bytesOf Tryd.prog 81 = 8 := by kernel_rfl
@[simp] theorem zo81 : zeroOf Tryd.prog 81 = some (.int .i64 0) := by kernel_rfl
@[simp] theorem cq81 : cmpQ Tryd.prog 81 = true := by kernel_rfl
@[simp] theorem un81 : Tryd.prog.underlying 81 = some (.int .i64) := by kernel_rfl
@[simp] theorem sz84 : szOf Tryd.prog 84 = 1 := by kernel_rfl
@[simp] theorem ag84 : aggQ Tryd.prog 84 = some false := by kernel_rfl
@[simp] theorem by84 : bytesOf Tryd.prog 84 = 8 := by kernel_rfl
@[simp] theorem zo84 : zeroOf Tryd.prog 84 = some (.nilp) := by kernel_rfl
@[simp] theorem un84 : Tryd.prog.underlying 84 = some (.pointer 98) := by kernel_rfl
@[simp] theorem sz89 : szOf Tryd.prog 89 = 20 := by kernel_rfl
@[simp] theorem ag89 : aggQ Tryd.prog 89 = some true := by kernel_rfl
@[simp] theorem by89 : bytesOf Tryd.prog 89 = 160 := by kernel_rfl
@[simp] theorem zo89 : zeroOf Tryd.prog 89 = some (.agg [.int .u64 0, .int .u64 0, .int .u64 0, .int .u64 0, .int .u64 0, .int .u64 0, .int .u64 0, .int .u64 0, .int .u64 0, .int .u64 0, .int .u64 0, .int .u64 0, .int .u64 0, .int .u64 0, .int .u64 0, .int .u64 0, .int .u64 0, .int .u64 0, .int .u64 0, .int .u64 0]) := by kernel_rfl
@[simp] theorem un89 : Tryd.prog.underlying 89 = some (.array 20 24) := by kernel_rfl
@[simp] theorem sz90 : szOf Tryd.prog 90 = 65 := by kernel_rfl
@[simp] theorem ag90 : aggQ Tryd.prog 90 = some true := by kernel_rfl
@[simp] theorem by90 : bytesOf Tryd.prog 90 = 65 := by kernel_rfl
@[simp] theorem zo90 : zeroOf Tryd.prog 90 = some (.agg (List.replicate 65 (.int .u8 0))) := by kernel_rfl
@[simp] theorem un90 : Tryd.prog.underlying 90 = some (.array 65 5) := by kernel_rfl
@[simp] theorem sz97 : szOf Tryd.prog 97 = 3 := by kernel_rfl
@[simp] theorem ag97 : aggQ Tryd.prog 97 = some true := by kernel_rfl
@[simp] theorem by97 : bytesOf Tryd.prog 97 = 48 := by kernel_rfl
@[simp] theorem zo97 : zeroOf Tryd.prog 97 = some (.agg [.str [], .str [], .nili]) := by kernel_rfl
attribute [simp] Tryd.underlying97
@[simp] theorem sz98 : szOf Tryd.prog 98 = 3 := by kernel_rfl
@[simp] theorem ag98 : aggQ Tryd.prog 98 = some true := by kernel_rfl
@[simp] theorem by98 : bytesOf Tryd.prog 98 = 48 := by kernel_rfl
@[simp] theorem zo98 : zeroOf Tryd.prog 98 = some (.agg [.str [], .str [], .nili]) := by kernel_rfl
attribute [simp] Tryd.underlying98
@[simp] theorem sz101 : szOf Tryd.prog 101 = 256 := by kernel_rfl
@[simp] theorem ag101 : aggQ Tryd.prog 101 = some true := by kernel_rfl
@[simp] theorem by101 : bytesOf Tryd.prog 101 = 256 := by kernel_rfl
@[simp] theorem zo101 : zeroOf Tryd.prog 101 = some (.agg (List.replicate 256 (.int .u8 0))) := by kernel_rfl
@[simp] theorem un101 : Tryd.prog.underlying 101 = some (.array 256 5) := by kernel_rfl
@[simp] theorem sz102 : szOf Tryd.prog 102 = 2 := by kernel_rfl
@[simp] theorem ag102 : aggQ Tryd.prog 102 = some true := by kernel_rfl
@[simp] theorem by102 : bytesOf Tryd.prog 102 = 2 := by kernel_rfl
@[simp] theorem zo102 : zeroOf Tryd.prog 102 = some (.agg [.int .u8 0, .int .u8 0]) := by kernel_rfl
attribute [simp] Tryd.underlying102
@[simp] theorem sz103 : szOf Tryd.prog 103 = 2 := by kernel_rfl
@[simp] theorem ag103 : aggQ Tryd.prog 103 = some true := by kernel_rfl
@[simp] theorem by103 : bytesOf Tryd.prog 103 = 2 := by kernel_rfl
@[simp] theorem zo103 : zeroOf Tryd.prog 103 = some (.agg [.int .u8 0, .int .u8 0]) := by kernel_rfl
attribute [simp] Tryd.underlying103
@[simp] theorem sz104 : szOf Tryd.prog 104 = 32 := by kernel_rfl
@[simp] theorem ag104 : aggQ Tryd.prog 104 = some true := by kernel_rfl
@[simp] theorem by104 : bytesOf Tryd.prog 104 = 32 := by kernel_rfl
@[simp] theorem zo104 : zeroOf Tryd.prog 104 = some (.agg (List.replicate 32 (.int .u8 0))) := by kernel_rfl
@[simp] theorem un104 : Tryd.prog.underlying 104 = some (.array 16 103) := by kernel_rfl
@[simp] theorem sz106 : szOf Tryd.prog 106 = 1 := by kernel_rfl
@[simp] theorem ag106 : aggQ Tryd.prog 106 = some false := by kernel_rfl
@[simp] theorem by106 : bytesOf Tryd.prog 106 = 8 := by kernel_rfl
@[simp] theorem zo106 : zeroOf Tryd.prog 106 = some (.nilp) := by kernel_rfl
@[simp] theorem un106 : Tryd.prog.underlying 106 = some (.pointer 108) := by kernel_rfl
@[simp] theorem sz107 : szOf Tryd.prog 107 = 1 := by kernel_rfl
@[simp] theorem ag107 : aggQ Tryd.prog 107 = some true := by kernel_rfl
@[simp] theorem by107 : bytesOf Tryd.prog 107 = 16 := by kernel_rfl
@[simp] theorem zo107 : zeroOf Tryd.prog 107 = some (.agg [.str []]) := by kernel_rfl
attribute [simp] Tryd.underlying107
@[simp] theorem sz108 : szOf Tryd.prog 108 = 1 := by kernel_rfl
@[simp] theorem ag108 : aggQ Tryd.prog 108 = some true := by kernel_rfl
@[simp] theorem by108 : bytesOf Tryd.prog 108 = 16 := by kernel_rfl
@[simp] theorem zo108 : zeroOf Tryd.prog 108 = some (.agg [.str []]) := by kernel_rfl
attribute [simp] Tryd.underlying108
@[simp] theorem sz109 : szOf Tryd.prog 109 = 32 := by kernel_rfl
@[simp] theorem ag109 : aggQ Tryd.prog 109 = some true := by kernel_rfl
@[simp] theorem by109 : bytesOf Tryd.prog 109 = 32 := by kernel_rfl
@[simp] theorem zo109 : zeroOf Tryd.prog 109 = some (.agg (List.replicate 32 (.int .u8 0))) := by kernel_rfl
@[simp] theorem un109 : Tryd.prog.underlying 109 = some (.array 32 5) := by kernel_rfl
@[simp] theorem sz110 : szOf Tryd.prog 110 = 64 := by kernel_rfl
@[simp] theorem ag110 : aggQ Tryd.prog 110 = some true := by kernel_rfl
@[simp] theorem by110 : bytesOf Tryd.prog 110 = 64 := by kernel_rfl
@[simp] theorem zo110 : zeroOf Tryd.prog 110 = some (.agg (List.replicate 64 (.int .u8 0))) := by kernel_rfl
@[simp] theorem un110 : Tryd.prog.underlying 110 = some (.array 64 5) := by kernel_rfl
@[simp] theorem pl3 : plainTy Tryd.prog 50 3 = some ([.i]) := by kernel_rfl
@[simp] theorem eg3 : Tryd.prog.eqGuardType Tryd.prog.depth 3 = false := by kernel_rfl
@[simp] theorem pl4 : plainTy Tryd.prog 50 4 = some ([.b]) := by kernel_rfl
@[simp] theorem eg4 : Tryd.prog.eqGuardType Tryd.prog.depth 4 = false := by kernel_rfl
@[simp] theorem pl5 : plainTy Tryd.prog 50 5 = some ([.i]) := by kernel_rfl
@[simp] theorem eg5 : Tryd.prog.eqGuardType Tryd.prog.depth 5 = false := by kernel_rfl
@[simp] theorem pl9 : plainTy Tryd.prog 50 9 = some ([.s]) := by kernel_rfl
@[simp] theorem eg9 : Tryd.prog.eqGuardType Tryd.prog.depth 9 = false := by kernel_rfl
@[simp] theorem pl21 : plainTy Tryd.prog 50 21 = some ([.i]) := by kernel_rfl
@[simp] theorem eg21 : Tryd.prog.eqGuardType Tryd.prog.depth 21 = false := by kernel_rfl
@[simp] theorem pl24 : plainTy Tryd.prog 50 24 = some ([.i]) := by kernel_rfl
@[simp] theorem eg24 : Tryd.prog.eqGuardType Tryd.prog.depth 24 = false := by kernel_rfl
@[simp] theorem pl28 : plainTy Tryd.prog 50 28 = some ([.i, .i, .i, .i, .i, .i, .i, .i, .i, .i, .i, .i, .i, .i, .i, .i, .i, .i, .i]) := by kernel_rfl
@[simp] theorem eg28 : Tryd.prog.eqGuardType Tryd.prog.depth 28 = false := by kernel_rfl
@[simp] theorem pl72 : plainTy Tryd.prog 50 72 = some ([.i]) := by kernel_rfl
@[simp] theorem eg72 : Tryd.prog.eqGuardType Tryd.prog.depth 72 = false := by kernel_rfl
end Go.Ev.S
/- The library as it lies in this program: the shelf's layings, printed by its tool. -/
namespace Go.Proofs
open Go.Shelf
def Tryd.laysM316_ren : Go.Shelf.Ren := ⟨fun | 316 => 68 | n => n, fun | 9 => 9 | 3 => 3 | 4 => 4 | 37 => 32 | 0 => 0 | 127 => 77 | 5 => 5 | n => n, fun | n => n⟩
theorem Tryd.laysM316 : Go.Proofs.LaysM.n316 Tryd.prog Tryd.laysM316_ren := {
  mixed := by kernel_rfl
  f316 := Tryd.func68.trans (congrArg some (by kernel_rfl))
  t0 := Tryd.underlying0
  a0 := Tryd.isAgg0
  z0 := Tryd.sizeOf0
  v0 := Tryd.zeroValue0
  t3 := Tryd.underlying3
  a3 := Tryd.isAgg3
  z3 := Tryd.sizeOf3
  v3 := Tryd.zeroValue3
  t4 := Tryd.underlying4
  a4 := Tryd.isAgg4
  z4 := Tryd.sizeOf4
  v4 := Tryd.zeroValue4
  t9 := Tryd.underlying9
  a9 := Tryd.isAgg9
  z9 := Tryd.sizeOf9
  v9 := Tryd.zeroValue9
  t37 := Tryd.underlying32
  a37 := Tryd.isAgg32
  z37 := Tryd.sizeOf32
  v37 := Tryd.zeroValue32
  t127 := Tryd.underlying77
  a127 := Tryd.isAgg77
  z127 := Tryd.sizeOf77
  v127 := Tryd.zeroValue77
  t5 := Tryd.underlying5
  a5 := Tryd.isAgg5
  z5 := Tryd.sizeOf5
  v5 := Tryd.zeroValue5
  i0 := by kernel_rfl
  i3 := by kernel_rfl
  i4 := by kernel_rfl
  i5 := by kernel_rfl
  i9 := by kernel_rfl
  i37 := by kernel_rfl
  i127 := by kernel_rfl }
def Tryd.lays219_ren : Go.Shelf.Ren := ⟨fun | 219 => 49 | 217 => 35 | 225 => 65 | 224 => 66 | 267 => 67 | 266 => 50 | 314 => 73 | n => n, fun | 9 => 9 | 3 => 3 | 4 => 4 | 5 => 5 | 46 => 44 | 146 => 73 | 51 => 72 | n => n, fun | 1 => 1 | n => n⟩
theorem Tryd.lays219 : Go.Proofs.Lays.n219 Tryd.prog Tryd.lays219_ren := {
  mixed := by kernel_rfl
  f217 := Tryd.func35.trans (congrArg some (by kernel_rfl))
  f219 := Tryd.func49.trans (congrArg some (by kernel_rfl))
  f224 := Tryd.func66.trans (congrArg some (by kernel_rfl))
  f225 := Tryd.func65.trans (congrArg some (by kernel_rfl))
  f266 := Tryd.func50.trans (congrArg some (by kernel_rfl))
  f267 := Tryd.func67.trans (congrArg some (by kernel_rfl))
  f314 := Tryd.func73.trans (congrArg some (by kernel_rfl))
  t3 := Tryd.underlying3
  a3 := Tryd.isAgg3
  z3 := Tryd.sizeOf3
  v3 := Tryd.zeroValue3
  t4 := Tryd.underlying4
  a4 := Tryd.isAgg4
  z4 := Tryd.sizeOf4
  v4 := Tryd.zeroValue4
  t5 := Tryd.underlying5
  a5 := Tryd.isAgg5
  z5 := Tryd.sizeOf5
  v5 := Tryd.zeroValue5
  t9 := Tryd.underlying9
  a9 := Tryd.isAgg9
  z9 := Tryd.sizeOf9
  v9 := Tryd.zeroValue9
  t46 := Tryd.underlying44
  a46 := Tryd.isAgg44
  z46 := Tryd.sizeOf44
  v46 := Tryd.zeroValue44
  t51 := Tryd.underlying72
  a51 := Tryd.isAgg72
  z51 := Tryd.sizeOf72
  v51 := Tryd.zeroValue72
  t146 := Tryd.underlying73
  a146 := Tryd.isAgg73
  z146 := Tryd.sizeOf73
  v146 := Tryd.zeroValue73
  g1 := by kernel_rfl }
def Tryd.lays105_ren : Go.Shelf.Ren := ⟨fun | 105 => 17 | 212 => 25 | 99 => 26 | 165 => 27 | 166 => 28 | 170 => 29 | 169 => 30 | 263 => 42 | 264 => 43 | 206 => 31 | 240 => 44 | 241 => 45 | 276 => 62 | 277 => 63 | n => n, fun | 9 => 9 | 3 => 3 | 4 => 4 | 20 => 20 | 0 => 0 | 46 => 44 | 109 => 53 | 5 => 5 | 72 => 57 | 76 => 59 | 51 => 72 | 146 => 73 | 53 => 24 | 148 => 75 | 70 => 55 | 37 => 32 | 75 => 50 | 127 => 77 | 164 => 93 | 80 => 62 | n => n, fun | n => n⟩
theorem Tryd.lays105 : Go.Proofs.Lays.n105 Tryd.prog Tryd.lays105_ren := {
  mixed := by kernel_rfl
  f99 := Tryd.func26.trans (congrArg some (by kernel_rfl))
  f105 := Tryd.func17.trans (congrArg some (by kernel_rfl))
  f165 := Tryd.func27.trans (congrArg some (by kernel_rfl))
  f166 := Tryd.func28.trans (congrArg some (by kernel_rfl))
  f169 := Tryd.func30.trans (congrArg some (by kernel_rfl))
  f170 := Tryd.func29.trans (congrArg some (by kernel_rfl))
  f206 := Tryd.func31.trans (congrArg some (by kernel_rfl))
  f212 := Tryd.func25.trans (congrArg some (by kernel_rfl))
  f240 := Tryd.func44.trans (congrArg some (by kernel_rfl))
  f241 := Tryd.func45.trans (congrArg some (by kernel_rfl))
  f263 := Tryd.func42.trans (congrArg some (by kernel_rfl))
  f264 := Tryd.func43.trans (congrArg some (by kernel_rfl))
  f276 := Tryd.func62.trans (congrArg some (by kernel_rfl))
  f277 := Tryd.func63.trans (congrArg some (by kernel_rfl))
  t0 := Tryd.underlying0
  a0 := Tryd.isAgg0
  z0 := Tryd.sizeOf0
  v0 := Tryd.zeroValue0
  t3 := Tryd.underlying3
  a3 := Tryd.isAgg3
  z3 := Tryd.sizeOf3
  v3 := Tryd.zeroValue3
  t4 := Tryd.underlying4
  a4 := Tryd.isAgg4
  z4 := Tryd.sizeOf4
  v4 := Tryd.zeroValue4
  t5 := Tryd.underlying5
  a5 := Tryd.isAgg5
  z5 := Tryd.sizeOf5
  v5 := Tryd.zeroValue5
  t9 := Tryd.underlying9
  a9 := Tryd.isAgg9
  z9 := Tryd.sizeOf9
  v9 := Tryd.zeroValue9
  t20 := Tryd.underlying20
  a20 := Tryd.isAgg20
  z20 := Tryd.sizeOf20
  v20 := Tryd.zeroValue20
  t37 := Tryd.underlying32
  a37 := Tryd.isAgg32
  z37 := Tryd.sizeOf32
  v37 := Tryd.zeroValue32
  t46 := Tryd.underlying44
  a46 := Tryd.isAgg44
  z46 := Tryd.sizeOf44
  v46 := Tryd.zeroValue44
  t51 := Tryd.underlying72
  a51 := Tryd.isAgg72
  z51 := Tryd.sizeOf72
  v51 := Tryd.zeroValue72
  t53 := Tryd.underlying24
  a53 := Tryd.isAgg24
  z53 := Tryd.sizeOf24
  v53 := Tryd.zeroValue24
  t70 := Tryd.underlying55
  a70 := Tryd.isAgg55
  z70 := Tryd.sizeOf55
  v70 := Tryd.zeroValue55
  t72 := Tryd.underlying57
  a72 := Tryd.isAgg57
  z72 := Tryd.sizeOf57
  v72 := Tryd.zeroValue57
  t75 := Tryd.underlying50
  a75 := Tryd.isAgg50
  z75 := Tryd.sizeOf50
  v75 := Tryd.zeroValue50
  t76 := Tryd.underlying59
  a76 := Tryd.isAgg59
  z76 := Tryd.sizeOf59
  v76 := Tryd.zeroValue59
  t109 := Tryd.underlying53
  a109 := Tryd.isAgg53
  z109 := Tryd.sizeOf53
  v109 := Tryd.zeroValue53
  t127 := Tryd.underlying77
  a127 := Tryd.isAgg77
  z127 := Tryd.sizeOf77
  v127 := Tryd.zeroValue77
  t146 := Tryd.underlying73
  a146 := Tryd.isAgg73
  z146 := Tryd.sizeOf73
  v146 := Tryd.zeroValue73
  t148 := Tryd.underlying75
  a148 := Tryd.isAgg75
  z148 := Tryd.sizeOf75
  v148 := Tryd.zeroValue75
  t164 := Tryd.underlying93
  a164 := Tryd.isAgg93
  z164 := Tryd.sizeOf93
  v164 := Tryd.zeroValue93 }
theorem Tryd.Builder_Extra_105 : Builder.Extra Tryd.prog Tryd.lays105_ren := {
  sizeBuilder := by kernel_rfl
  liesBuilder := by kernel_rfl
  t5 := Tryd.underlying5
  a5 := Tryd.isAgg5
  z5 := Tryd.sizeOf5
  v5 := Tryd.zeroValue5
  infoByte := by kernel_rfl
  cellsByte := by kernel_rfl
  sizeByte := by kernel_rfl
  neB5 := by decide }
end Go.Proofs
namespace Go.Ev.S
open Go Go.Proofs Go.Ev
theorem ok_0 [MaxL] : okRange cx 0 40 = true := by kernel_rfl
theorem ok_40 [MaxL] : okRange cx 40 40 = true := by kernel_rfl
theorem ok_80 [MaxL] : okRange cx 80 26 = true := by kernel_rfl
theorem fsize : Tryd.prog.funcs.size = 106 := by kernel_rfl
theorem all_ok [MaxL] (f : Nat) (h : f < 106) : okOne cx f = true := by
  rcases Nat.lt_or_ge f 40 with h0 | h0
  · exact okRange_get ok_0 (by omega) (by omega)
  rcases Nat.lt_or_ge f 80 with h1 | h1
  · exact okRange_get ok_40 (by omega) (by omega)
  exact okRange_get ok_80 (by omega) (by omega)
set_option maxRecDepth 100000 in
theorem good [MaxL] : Good cx where
  mixed := by kernel_rfl
  okc f fn c hf hc hb := (okOne_get (all_ok f (by rw [← fsize]; exact (Array.getElem?_eq_some_iff.1 hf).1)) hf).2 c hc hb
  ng f fn hf := (okOne_get (all_ok f (by rw [← fsize]; exact (Array.getElem?_eq_some_iff.1 hf).1)) hf).1
  ext f fn args d hf hn h ok w ι H vs hs hv := by
    by_cases h50 : f = 50
    · subst h50
      rw [ex50] at h
      have hff := Tryd.func50
      rw [show cx.P.funcs[50]? = Tryd.prog.funcs[50]? from rfl, hff] at hf
      injection hf with hf
      subst hf
      exact idxBExt_run (P := cx.P) hff rfl (by kernel_rfl) (by kernel_rfl) (by kernel_rfl) h hv
    by_cases h48 : f = 48
    · subst h48
      rw [ex48] at h
      have hff := Tryd.func48
      rw [show cx.P.funcs[48]? = Tryd.prog.funcs[48]? from rfl, hff] at hf
      injection hf with hf
      subst hf
      exact cntExt_run (P := cx.P) hff rfl (by kernel_rfl) (by kernel_rfl) (by kernel_rfl) h hv
    · have : cx.ext f args = none := by
        show extT f args = none
        unfold extT
        split
        · exact absurd rfl h50
        · exact absurd rfl h48
        · rfl
      rw [this] at h
      cases h
  con f args H r H' h ok w ι vs hs hv := by
    by_cases h49 : f = 49
    · subst h49
      rw [co49] at h
      exact conIdx_run (X := cx) (m := MaxL.m) Tryd.lays219 rfl h hs hv
    by_cases h68 : f = 68
    · subst h68
      rw [co68] at h
      exact conClone_run (X := cx) Tryd.laysM316 h hs hv
    by_cases h17 : f = 17
    · subst h17
      rw [co17] at h
      exact conRepeat_run (X := cx) Tryd.lays105 Tryd.Builder_Extra_105 h hs hv
    · have : cx.con f args H = none := by
        show conT f args H = none
        unfold conT
        split
        · exact absurd rfl h49
        · exact absurd rfl h68
        · exact absurd rfl h17
        · rfl
      rw [this] at h
      cases h
end Go.Ev.S
namespace Go.Ev.S
open Go Go.Proofs Go.Ev
theorem globs [MaxL] {W : World} (h : laidMet Tryd.prog YtknidmbkmglfaaaDoor.Rows.scanNamesRow.laid W) (hm1 : W.cell? ⟨1, 0, none⟩ = some (.int .i64 MaxL.m)) : ∀ g cs, cx.glob g = some cs → Rep (· < W.heap.size) W iota0 [] (.vptr cs) (.pointer (some ⟨g, 0, none⟩)) := by
  unfold YtknidmbkmglfaaaDoor.Rows.scanNamesRow at h
  have t6 := rep_tab (g := 6) (zs := gz6) (Lib.tabIs_of_head (g := 6) (t := 109) (e := 5) (n := 32) (k := .u8) (by kernel_rfl) (by kernel_rfl) (by kernel_rfl) (by kernel_rfl) (by kernel_rfl) (by kernel_rfl) h) (by kernel_rfl)
  replace h := h.tail
  have t7 := rep_tab (g := 7) (zs := gz7) (Lib.tabIs_of_head (g := 7) (t := 110) (e := 5) (n := 64) (k := .u8) (by kernel_rfl) (by kernel_rfl) (by kernel_rfl) (by kernel_rfl) (by kernel_rfl) (by kernel_rfl) h) (by kernel_rfl)
  replace h := h.tail
  have t0 := rep_tab (g := 0) (zs := gz0) (Lib.tabIs_of_head (g := 0) (t := 89) (e := 24) (n := 20) (k := .u64) (by kernel_rfl) (by kernel_rfl) (by kernel_rfl) (by kernel_rfl) (by kernel_rfl) (by kernel_rfl) h) (by kernel_rfl)
  replace h := h.tail
  replace h := h.tail
  have t3 := rep_err (g := 3) (text := gs3) (by kernel_rfl) (laid_sentinel (g := 3) (ti := 50) (tp := 106) (te := 108) (ts := 9) h (by kernel_rfl) (by kernel_rfl) Tryd.underlying50 (err_row (base := "errors.errorString") (by decide) (by kernel_rfl) (by kernel_rfl) (by decide)) Tryd.underlying106 Tryd.underlying108 rfl rfl (by kernel_rfl) (by kernel_rfl) (by kernel_rfl))
  replace h := h.tail
  have t2 := rep_err (g := 2) (text := gs2) (by kernel_rfl) (laid_sentinel (g := 2) (ti := 50) (tp := 106) (te := 108) (ts := 9) h (by kernel_rfl) (by kernel_rfl) Tryd.underlying50 (err_row (base := "errors.errorString") (by decide) (by kernel_rfl) (by kernel_rfl) (by decide)) Tryd.underlying106 Tryd.underlying108 rfl rfl (by kernel_rfl) (by kernel_rfl) (by kernel_rfl))
  replace h := h.tail
  intro g cs hg
  have hgl : globT g = some cs := hg
  unfold globT at hgl
  split at hgl
  · cases hgl; exact t0
  · cases hgl; exact t2
  · cases hgl; exact t3
  · cases hgl; exact t6
  · cases hgl; exact t7
  · cases hgl; exact rep_one hm1
  · cases hgl
end Go.Ev.S
/- Names, marks. -/
namespace Go.Ev
open Go Go.Proofs
/-- A name of sixteen bytes. -/
structure ID where
  l : List UInt8
  h : l.length = 16
  deriving DecidableEq
@[simp] theorem ID.len (i : ID) : i.l.length = 16 := i.h
theorem ID.ext' {a b : ID} (h : a.l = b.l) : a = b := by cases a; cases b; simp at h; subst h; rfl
instance : Enc ID := ⟨16, fun i => ofBytes i.l, fun i => by simp, fun i => by simp⟩
theorem ID.cells (i : ID) : Enc.cells i = ofBytes i.l := rfl
def ID.zero : ID := ⟨List.replicate 16 0, by simp⟩
theorem cellsEq_bytes : ∀ (x y : List UInt8), x.length = y.length → cellsEq (List.replicate x.length .i) (ofBytes x) (ofBytes y) = some (x == y)
  | [], [], _ => rfl
  | a :: x, b :: y, h => by
    have ih := cellsEq_bytes x y (by simpa using h)
    simp only [List.length_cons, List.replicate_succ, ofBytes, List.map_cons, cellsEq, cellEq]
    simp only [ofBytes] at ih
    rw [ih]
    have : ((a.toNat : Int) == (b.toNat : Int)) = (a == b) := by
      rw [Bool.eq_iff_iff]
      simp only [beq_iff_eq, Int.natCast_inj]
      exact ⟨fun h => UInt8.toNat_inj.1 h, fun h => by rw [h]⟩
    simp [this]
  | [], _ :: _, h => by simp at h
  | _ :: _, [], h => by simp at h
theorem cellsEq_app : ∀ (k1 k2 : List CK) (a1 a2 b1 b2 : List D), k1.length = a1.length → k1.length = b1.length → cellsEq (k1 ++ k2) (a1 ++ a2) (b1 ++ b2) = match cellsEq k1 a1 b1, cellsEq k2 a2 b2 with
    | some x, some y => some (x && y)
    | _, _ => none
  | [], k2, [], a2, [], b2, _, _ => by
    simp only [List.nil_append, cellsEq]
    cases cellsEq k2 a2 b2 <;> simp
  | k :: k1, k2, a :: a1, a2, b :: b1, b2, h1, h2 => by
    simp only [List.cons_append, cellsEq, cellsEq_app k1 k2 a1 a2 b1 b2 (by simpa using h1) (by simpa using h2)]
    cases cellEq k a b <;> cases cellsEq k1 a1 b1 <;> cases cellsEq k2 a2 b2 <;> simp [Bool.and_assoc]
  | [], _, _ :: _, _, _, _, h, _ => by simp at h
  | [], _, [], _, _ :: _, _, _, h => by simp at h
  | _ :: _, _, [], _, _, _, h, _ => by simp at h
  | _ :: _, _, _ :: _, _, [], _, _, h => by simp at h
@[simp] theorem cellsEq16 (x y : ID) : cellsEq [.i, .i, .i, .i, .i, .i, .i, .i, .i, .i, .i, .i, .i, .i, .i, .i] (ofBytes x.l) (ofBytes y.l) = some (x == y) := by
  have := cellsEq_bytes x.l y.l (by simp)
  rw [x.h] at this
  have e : (x.l == y.l) = (x == y) := by
    rw [Bool.eq_iff_iff]
    simp only [beq_iff_eq]
    exact ⟨ID.ext', fun h => by rw [h]⟩
  rw [e] at this
  exact this
/-- A mark. -/
structure Mk where
  id : ID
  seq : Int
  lost : Int
  over : Int
  deriving DecidableEq
def isU64 (n : Int) : Prop := 0 ≤ n ∧ n < 18446744073709551616
structure Mk.Ok (m : Mk) : Prop where
  seq : isU64 m.seq
  lost : isU64 m.lost
  over : isU64 m.over
def Mk.tl (m : Mk) : List D := [.int .u64 m.seq, .int .u64 m.lost, .int .u64 m.over]
instance : Enc Mk := ⟨19, fun m => ofBytes m.id.l ++ m.tl, fun m => by simp [Mk.tl], fun m => by simp [Mk.tl, idFree]⟩
theorem Mk.cells (m : Mk) : Enc.cells m = ofBytes m.id.l ++ [.int .u64 m.seq, .int .u64 m.lost, .int .u64 m.over] := rfl
@[simp] theorem Mk.size : Enc.size Mk = 19 := rfl
@[simp] theorem ID.size : Enc.size ID = 16 := rfl
@[simp] theorem Mk.cl (a : Mk) : (Enc.cells a).length = 19 := Enc.len a
@[simp] theorem Mk.ct (a : Mk) (r : List D) : (Enc.cells a ++ r).take 19 = Enc.cells a := cells_take rfl a r
@[simp] theorem Mk.ct' (a : Mk) : (Enc.cells a).take 19 = Enc.cells a := cells_take' rfl a
@[simp] theorem Mk.cd (a : Mk) (r : List D) : (Enc.cells a ++ r).drop 19 = r := cells_drop rfl a r
@[simp] theorem Mk.el (l : List Mk) : (encs l).length = l.length * 19 := encs_len' rfl l
@[simp] theorem Mk.ed (l : List Mk) (i : Nat) : (encs l).drop (i * 19) = encs (l.drop i) := encs_drop rfl l i
@[simp] theorem Mk.et (l : List Mk) (i : Nat) : (encs l).take (i * 19) = encs (l.take i) := encs_take rfl l i
@[simp high] theorem Mk.ea {l : List Mk} {i : Nat} (h : i < l.length) : (encs l).drop (i * 19) = Enc.cells l[i] ++ encs (l.drop (i + 1)) := encs_at rfl h
@[simp high] theorem Mk.es (m : Mk) {l : List Mk} {j : Nat} (h : j < l.length) : setRange (encs l) (j * 19) (Enc.cells m) = encs (l.set j m) := encs_set rfl m l h
theorem drop_bytes {s : List UInt8} {n : Nat} (h : s.length ≤ n) : (ofBytes s).drop n = [] := List.drop_eq_nil_of_le (by simpa using h)
@[simp] theorem Mk.t16 (m : Mk) : (Enc.cells m).take 16 = ofBytes m.id.l := by simp [Mk.cells]
@[simp] theorem Mk.t16' (m : Mk) (r : List D) : (Enc.cells m ++ r).take 16 = ofBytes m.id.l := by simp [Mk.cells]
@[simp] theorem Mk.d16 (m : Mk) : (Enc.cells m).drop 16 = [.int .u64 m.seq, .int .u64 m.lost, .int .u64 m.over] := by simp [Mk.cells]
@[simp] theorem Mk.d17 (m : Mk) : (Enc.cells m).drop 17 = [.int .u64 m.lost, .int .u64 m.over] := by simp [Mk.cells, List.drop_append, drop_bytes]
@[simp] theorem Mk.d18 (m : Mk) : (Enc.cells m).drop 18 = [.int .u64 m.over] := by simp [Mk.cells, List.drop_append, drop_bytes]
@[simp] theorem Mk.d16' (m : Mk) (r : List D) : (Enc.cells m ++ r).drop 16 = [.int .u64 m.seq, .int .u64 m.lost, .int .u64 m.over] ++ r := by simp [Mk.cells]
@[simp] theorem Mk.d17' (m : Mk) (r : List D) : (Enc.cells m ++ r).drop 17 = [.int .u64 m.lost, .int .u64 m.over] ++ r := by simp [Mk.cells, List.drop_append, drop_bytes]
@[simp] theorem Mk.d18' (m : Mk) (r : List D) : (Enc.cells m ++ r).drop 18 = [.int .u64 m.over] ++ r := by simp [Mk.cells, List.drop_append, drop_bytes]
@[simp] theorem Mk.g16 (m : Mk) (h) : (Enc.cells m)[16]'h = .int .u64 m.seq := by simp [Mk.cells]
@[simp] theorem Mk.g17 (m : Mk) (h) : (Enc.cells m)[17]'h = .int .u64 m.lost := by simp [Mk.cells]
@[simp] theorem Mk.g18 (m : Mk) (h) : (Enc.cells m)[18]'h = .int .u64 m.over := by simp [Mk.cells]
@[simp] theorem Mk.s16 (m : Mk) (x : Int) : setRange (Enc.cells m) 16 [.int .u64 x] = Enc.cells { m with seq := x } := by simp [Mk.cells, List.drop_append, drop_bytes]
@[simp] theorem Mk.s17 (m : Mk) (x : Int) : setRange (Enc.cells m) 17 [.int .u64 x] = Enc.cells { m with lost := x } := by simp [Mk.cells, List.take_append, List.drop_append, drop_bytes, List.take_of_length_le]
@[simp] theorem Mk.s18 (m : Mk) (x : Int) : setRange (Enc.cells m) 18 [.int .u64 x] = Enc.cells { m with over := x } := by simp [Mk.cells, List.take_append, List.drop_append, drop_bytes, List.take_of_length_le]
theorem cellsEqMk (x y : Mk) : cellsEq [.i, .i, .i, .i, .i, .i, .i, .i, .i, .i, .i, .i, .i, .i, .i, .i, .i, .i, .i] (Enc.cells x) (Enc.cells y) = some (x == y) := by
  have h := cellsEq_app [.i, .i, .i, .i, .i, .i, .i, .i, .i, .i, .i, .i, .i, .i, .i, .i] [.i, .i, .i] (ofBytes x.id.l) x.tl (ofBytes y.id.l) y.tl (by simp) (by simp)
  rw [cellsEq16] at h
  have e : cellsEq [.i, .i, .i] x.tl y.tl = some (x.seq == y.seq && (x.lost == y.lost && x.over == y.over)) := by simp [Mk.tl, cellsEq]
  rw [e] at h
  have e2 : (x == y) = (x.id == y.id && (x.seq == y.seq && (x.lost == y.lost && x.over == y.over))) := by
    rw [Bool.eq_iff_iff]
    cases x; cases y
    simp [Mk.mk.injEq, beq_iff_eq]
  rw [e2]
  exact h
end Go.Ev
/- Fields, records, items. -/
namespace Go.Ev
open Go Go.Proofs
/-- A field. -/
structure Pr where
  name : List UInt8
  value : List UInt8
  deriving DecidableEq
instance : Enc Pr := ⟨2, fun p => [.str p.name, .str p.value], fun _ => rfl, fun _ => rfl⟩
theorem Pr.cells (p : Pr) : Enc.cells p = [.str p.name, .str p.value] := rfl
@[simp] theorem Pr.size : Enc.size Pr = 2 := rfl
@[simp] theorem Pr.cl (a : Pr) : (Enc.cells a).length = 2 := Enc.len a
@[simp] theorem Pr.ct (a : Pr) (r : List D) : (Enc.cells a ++ r).take 2 = Enc.cells a := cells_take rfl a r
@[simp] theorem Pr.ct' (a : Pr) : (Enc.cells a).take 2 = Enc.cells a := cells_take' rfl a
@[simp] theorem Pr.cd (a : Pr) (r : List D) : (Enc.cells a ++ r).drop 2 = r := cells_drop rfl a r
@[simp] theorem Pr.el (l : List Pr) : (encs l).length = l.length * 2 := encs_len' rfl l
@[simp] theorem Pr.ed (l : List Pr) (i : Nat) : (encs l).drop (i * 2) = encs (l.drop i) := encs_drop rfl l i
@[simp] theorem Pr.et (l : List Pr) (i : Nat) : (encs l).take (i * 2) = encs (l.take i) := encs_take rfl l i
@[simp high] theorem Pr.ea {l : List Pr} {i : Nat} (h : i < l.length) : (encs l).drop (i * 2) = Enc.cells l[i] ++ encs (l.drop (i + 1)) := encs_at rfl h
@[simp high] theorem Pr.es (m : Pr) {l : List Pr} {j : Nat} (h : j < l.length) : setRange (encs l) (j * 2) (Enc.cells m) = encs (l.set j m) := encs_set rfl m l h
/-- A record. -/
structure Rec where
  seq : Int
  real : Int
  mono : Int
  boot : ID
  fields : Sl Pr
instance : Enc Rec := ⟨20, fun r => [.int .u64 r.seq, .int .u64 r.real, .int .u64 r.mono] ++ (ofBytes r.boot.l ++ [(.vsl r.fields.nil (encs r.fields.l) r.fields.l.length)]), fun r => by simp, fun r => by simp [idFree]⟩
theorem Rec.cells (r : Rec) : Enc.cells r = [.int .u64 r.seq, .int .u64 r.real, .int .u64 r.mono] ++ (ofBytes r.boot.l ++ [(.vsl r.fields.nil (encs r.fields.l) r.fields.l.length)]) := rfl
@[simp] theorem Rec.size : Enc.size Rec = 20 := rfl
structure Rec.Ok (r : Rec) : Prop where
  seq : isU64 r.seq
  real : isU64 r.real
  mono : isU64 r.mono
@[simp] theorem Rec.cl (a : Rec) : (Enc.cells a).length = 20 := Enc.len a
@[simp] theorem Rec.ct (a : Rec) (r : List D) : (Enc.cells a ++ r).take 20 = Enc.cells a := cells_take rfl a r
@[simp] theorem Rec.ct' (a : Rec) : (Enc.cells a).take 20 = Enc.cells a := cells_take' rfl a
@[simp] theorem Rec.cd (a : Rec) (r : List D) : (Enc.cells a ++ r).drop 20 = r := cells_drop rfl a r
@[simp] theorem Rec.el (l : List Rec) : (encs l).length = l.length * 20 := encs_len' rfl l
@[simp] theorem Rec.ed (l : List Rec) (i : Nat) : (encs l).drop (i * 20) = encs (l.drop i) := encs_drop rfl l i
@[simp] theorem Rec.et (l : List Rec) (i : Nat) : (encs l).take (i * 20) = encs (l.take i) := encs_take rfl l i
@[simp high] theorem Rec.ea {l : List Rec} {i : Nat} (h : i < l.length) : (encs l).drop (i * 20) = Enc.cells l[i] ++ encs (l.drop (i + 1)) := encs_at rfl h
@[simp high] theorem Rec.es (m : Rec) {l : List Rec} {j : Nat} (h : j < l.length) : setRange (encs l) (j * 20) (Enc.cells m) = encs (l.set j m) := encs_set rfl m l h
/-- An item: an entry of a sequence, or numbers of it that are lost. -/
structure It where
  id : ID
  gap : Bool
  fr : Int
  til : Int
  rc : Rec
instance : Enc It := ⟨39, fun i => ofBytes i.id.l ++ ([.bool i.gap, .int .u64 i.fr, .int .u64 i.til] ++ Enc.cells i.rc), fun i => by simp, fun i => by simp [idFree]⟩
theorem It.cells (i : It) : Enc.cells i = ofBytes i.id.l ++ ([.bool i.gap, .int .u64 i.fr, .int .u64 i.til] ++ ([.int .u64 i.rc.seq, .int .u64 i.rc.real, .int .u64 i.rc.mono] ++ (ofBytes i.rc.boot.l ++ [(.vsl i.rc.fields.nil (encs i.rc.fields.l) i.rc.fields.l.length)]))) := rfl
@[simp] theorem It.size : Enc.size It = 39 := rfl
structure It.Ok (i : It) : Prop where
  fr : isU64 i.fr
  til : isU64 i.til
  rc : i.rc.Ok
@[simp] theorem It.cl (a : It) : (Enc.cells a).length = 39 := Enc.len a
@[simp] theorem It.ct (a : It) (r : List D) : (Enc.cells a ++ r).take 39 = Enc.cells a := cells_take rfl a r
@[simp] theorem It.ct' (a : It) : (Enc.cells a).take 39 = Enc.cells a := cells_take' rfl a
@[simp] theorem It.cd (a : It) (r : List D) : (Enc.cells a ++ r).drop 39 = r := cells_drop rfl a r
@[simp] theorem It.el (l : List It) : (encs l).length = l.length * 39 := encs_len' rfl l
@[simp] theorem It.ed (l : List It) (i : Nat) : (encs l).drop (i * 39) = encs (l.drop i) := encs_drop rfl l i
@[simp] theorem It.et (l : List It) (i : Nat) : (encs l).take (i * 39) = encs (l.take i) := encs_take rfl l i
@[simp high] theorem It.ea {l : List It} {i : Nat} (h : i < l.length) : (encs l).drop (i * 39) = Enc.cells l[i] ++ encs (l.drop (i + 1)) := encs_at rfl h
@[simp high] theorem It.es (m : It) {l : List It} {j : Nat} (h : j < l.length) : setRange (encs l) (j * 39) (Enc.cells m) = encs (l.set j m) := encs_set rfl m l h
@[simp] theorem It.t16 (i : It) : (Enc.cells i).take 16 = ofBytes i.id.l := by simp [It.cells]
@[simp] theorem It.t16' (i : It) (r : List D) : (Enc.cells i ++ r).take 16 = ofBytes i.id.l := by simp [It.cells]
@[simp] theorem It.d16 (i : It) : (Enc.cells i).drop 16 = .bool i.gap :: .int .u64 i.fr :: .int .u64 i.til :: .int .u64 i.rc.seq :: .int .u64 i.rc.real :: .int .u64 i.rc.mono :: (ofBytes i.rc.boot.l ++ [(.vsl i.rc.fields.nil (encs i.rc.fields.l) i.rc.fields.l.length)]) := by simp [It.cells]
@[simp] theorem It.d17 (i : It) : (Enc.cells i).drop 17 = .int .u64 i.fr :: .int .u64 i.til :: .int .u64 i.rc.seq :: .int .u64 i.rc.real :: .int .u64 i.rc.mono :: (ofBytes i.rc.boot.l ++ [(.vsl i.rc.fields.nil (encs i.rc.fields.l) i.rc.fields.l.length)]) := by simp [It.cells, List.drop_append, drop_bytes]
@[simp] theorem It.d18 (i : It) : (Enc.cells i).drop 18 = .int .u64 i.til :: .int .u64 i.rc.seq :: .int .u64 i.rc.real :: .int .u64 i.rc.mono :: (ofBytes i.rc.boot.l ++ [(.vsl i.rc.fields.nil (encs i.rc.fields.l) i.rc.fields.l.length)]) := by simp [It.cells, List.drop_append, drop_bytes]
@[simp] theorem It.d19 (i : It) : (Enc.cells i).drop 19 = .int .u64 i.rc.seq :: .int .u64 i.rc.real :: .int .u64 i.rc.mono :: (ofBytes i.rc.boot.l ++ [(.vsl i.rc.fields.nil (encs i.rc.fields.l) i.rc.fields.l.length)]) := by simp [It.cells, List.drop_append, drop_bytes]
@[simp] theorem It.d20 (i : It) : (Enc.cells i).drop 20 = .int .u64 i.rc.real :: .int .u64 i.rc.mono :: (ofBytes i.rc.boot.l ++ [(.vsl i.rc.fields.nil (encs i.rc.fields.l) i.rc.fields.l.length)]) := by simp [It.cells, List.drop_append, drop_bytes]
@[simp] theorem It.d21 (i : It) : (Enc.cells i).drop 21 = .int .u64 i.rc.mono :: (ofBytes i.rc.boot.l ++ [(.vsl i.rc.fields.nil (encs i.rc.fields.l) i.rc.fields.l.length)]) := by simp [It.cells, List.drop_append, drop_bytes]
@[simp] theorem It.d22 (i : It) : (Enc.cells i).drop 22 = ofBytes i.rc.boot.l ++ [(.vsl i.rc.fields.nil (encs i.rc.fields.l) i.rc.fields.l.length)] := by simp [It.cells, List.drop_append, drop_bytes]
@[simp] theorem It.d38 (i : It) : (Enc.cells i).drop 38 = [(.vsl i.rc.fields.nil (encs i.rc.fields.l) i.rc.fields.l.length)] := by simp [It.cells, List.drop_append, drop_bytes]
end Go.Ev
/- Numbers in bytes, the lowest first. -/
namespace Go.Ev
open Go Go.Proofs
/-- The number that bytes are. -/
def leN : List UInt8 → Nat
  | [] => 0
  | b :: l => b.toNat + 256 * leN l
/-- The lowest n bytes of a number. -/
def leB : Nat → Nat → List UInt8
  | 0, _ => []
  | n + 1, v => UInt8.ofNat (v % 256) :: leB n (v / 256)
@[simp] theorem leB_len : ∀ (n v : Nat), (leB n v).length = n
  | 0, _ => rfl
  | n + 1, v => by simp [leB, leB_len n]
theorem leN_lt : ∀ (l : List UInt8), leN l < 256 ^ l.length
  | [] => by simp [leN]
  | b :: l => by
    have h1 := leN_lt l
    have h2 := b.toNat_lt
    simp only [leN, List.length_cons, Nat.pow_succ]
    omega
theorem leN_leB : ∀ (n v : Nat), leN (leB n v) = v % 256 ^ n
  | 0, v => by simp [leB, leN, Nat.mod_one]
  | n + 1, v => by
    simp only [leB, leN, leN_leB n]
    rw [UInt8.toNat_ofNat_of_lt' (Nat.mod_lt _ (by decide)), Nat.pow_succ, Nat.mul_comm (256 ^ n) 256, Nat.mod_mul]
theorem leB_leN : ∀ (l : List UInt8), leB l.length (leN l) = l
  | [] => rfl
  | b :: l => by
    have h2 := b.toNat_lt
    have e1 : (b.toNat + 256 * leN l) % 256 = b.toNat := by omega
    have e2 : (b.toNat + 256 * leN l) / 256 = leN l := by omega
    simp only [List.length_cons, leN, leB, e1, e2, leB_leN l]
    simp
theorem leB_snoc : ∀ (n v : Nat), leB (n + 1) v = leB n v ++ [UInt8.ofNat (v / 256 ^ n % 256)]
  | 0, v => by simp [leB]
  | n + 1, v => by
    rw [leB, leB_snoc n (v / 256), leB, List.cons_append, Nat.div_div_eq_div_mul, Nat.pow_succ, Nat.mul_comm 256]
theorem leN_append : ∀ (a b : List UInt8), leN (a ++ b) = leN a + 256 ^ a.length * leN b
  | [], b => by simp [leN]
  | x :: a, b => by
    simp only [List.cons_append, leN, leN_append a b, List.length_cons, Nat.pow_succ]
    rw [Nat.mul_add, ← Nat.mul_assoc, Nat.mul_comm 256 (256 ^ a.length), Nat.add_assoc]
theorem ofBytes_append (a b : List UInt8) : ofBytes (a ++ b) = ofBytes a ++ ofBytes b := by simp [ofBytes]
theorem ofBytes_cons (a : UInt8) (b : List UInt8) : ofBytes (a :: b) = .int .u8 (a.toNat : Int) :: ofBytes b := rfl
theorem ofBytes_drop (l : List UInt8) (i : Nat) : (ofBytes l).drop i = ofBytes (l.drop i) := by simp [ofBytes]
theorem ofBytes_take (l : List UInt8) (i : Nat) : (ofBytes l).take i = ofBytes (l.take i) := by simp [ofBytes]
theorem ofBytes_at {l : List UInt8} {i : Nat} (h : i < l.length) : (ofBytes l).drop i = .int .u8 (l[i].toNat : Int) :: ofBytes (l.drop (i + 1)) := by
  rw [ofBytes_drop, List.drop_eq_getElem_cons h, ofBytes_cons]
theorem ofBytes_get {l : List UInt8} {i : Nat} (h : i < (ofBytes l).length) : (ofBytes l)[i] = .int .u8 ((l[i]'(by simpa using h)).toNat : Int) := by simp [ofBytes]
@[simp] theorem bytesD_of (s : List UInt8) : bytesD (ofBytes s) = some s := by
  induction s with
  | nil => rfl
  | cons a s ih =>
    have : bytesD (ofBytes (a :: s)) = (bytesD (ofBytes s)).map fun r => UInt8.ofNat ((a.toNat : Int)).toNat :: r := rfl
    rw [this, ih]
    simp
theorem or_shl (x y : Nat) (h : y < 256) : (x * 256) ||| y = x * 256 + y := by
  have := Nat.shiftLeft_add_eq_or_of_lt (b := y) (i := 8) (by simpa using h) x
  rw [Nat.shiftLeft_eq] at this
  simpa using this.symm
/-- A slice of one's own that grows, none at first. -/
def BufE {α : Type} [Enc α] (n : Nat) (d : D) (H : Heap) (l : List α) : Prop := (d = .vsl true [] 0 ∧ l = [] ∧ H = []) ∨ (d = .osl 0 (l.length * n) 0 l.length n ∧ H = [some (encs l)] ∧ l ≠ [])
theorem BufE.snoc {α : Type} [Enc α] {n : Nat} (l : List α) (a : α) : BufE n (.osl 0 (l.length * n + n) 0 (l.length + 1) n) [some (encs l ++ Enc.cells a)] (l ++ [a]) :=
  .inr ⟨by simp [Nat.add_mul], by simp [encs_snoc], by simp⟩
theorem BufE.one {α : Type} [Enc α] {n : Nat} (a : α) : BufE n (.osl 0 n 0 1 n) [some (Enc.cells a)] ([] ++ [a]) :=
  .inr ⟨by simp, by simp [encs_one], by simp⟩
/-- A list as a slice: none where it is empty. -/
def Sl.grown {α : Type} (l : List α) : Sl α := ⟨l.isEmpty, l, by simp⟩
@[simp] theorem Sl.grown_l {α : Type} (l : List α) : (Sl.grown l).l = l := rfl
def ID.mk' (l : List UInt8) : ID := if h : l.length = 16 then ⟨l, h⟩ else ID.zero
theorem ID.mk'_l {l : List UInt8} (h : l.length = 16) : (ID.mk' l).l = l := by unfold ID.mk'; rw [dif_pos h]
/-- The mark that bytes are. -/
def mkOf (r : List UInt8) : Mk := ⟨ID.mk' (r.take 16), leN ((r.drop 16).take 8), leN ((r.drop 24).take 8), leN ((r.drop 32).take 8)⟩
def lastGe (out : List Mk) (id : List UInt8) : Bool := match out.getLast? with
  | some m => decide (0 ≤ cmpB m.id.l id)
  | none => false
/-- Marks that are read one behind the other: what is read, the code. -/
def readGo : Nat → List UInt8 → List Mk → List Mk × Int
  | 0, _, out => (out, 0)
  | k + 1, r, out => if r.length < 16 then ([], 22) else if lastGe out (r.take 16) then ([], 13) else if r.length < 40 then ([], 22) else readGo k (r.drop 40) (out ++ [mkOf r])
def readM : List UInt8 → List Mk × Int
  | [] => ([], 22)
  | c :: r => if 4 < c.toNat then ([], 21) else readGo c.toNat r []
def readN (x : List Mk × Int) : Int := if x.2 = 0 then 1 + 40 * (x.1.length : Int) else 0
end Go.Ev
/- What arguments of plain data are, as data of one's own. -/
namespace Go.Ev
open Go Go.Proofs
section
variable {P : Program} {n : Nat} {t e : TypeId} {cs : List D}
theorem has_bool (hu : P.underlying t = some .bool) (h : HasT P (n + 1) t cs) : ∃ b, cs = [.bool b] := by
  unfold HasT at h; rw [hu] at h; exact h
theorem has_int {k : IntKind} (hu : P.underlying t = some (.int k)) (h : HasT P (n + 1) t cs) : ∃ x, cs = [.int k x] ∧ (Lit.int k x).wf = true := by
  unfold HasT at h; rw [hu] at h; exact h
theorem has_u64 (hu : P.underlying t = some (.int .u64)) (h : HasT P (n + 1) t cs) : ∃ x, cs = [.int .u64 x] ∧ isU64 x := by
  obtain ⟨x, h1, h2⟩ := has_int hu h
  refine ⟨x, h1, ?_⟩
  simp [Lit.wf, IntKind.min, IntKind.max, IntKind.signed, IntKind.bits] at h2
  unfold isU64
  omega
def isI64 (n : Int) : Prop := -9223372036854775808 ≤ n ∧ n < 9223372036854775808
theorem has_i64 (hu : P.underlying t = some (.int .i64)) (h : HasT P (n + 1) t cs) : ∃ x, cs = [.int .i64 x] ∧ isI64 x := by
  obtain ⟨x, h1, h2⟩ := has_int hu h
  refine ⟨x, h1, ?_⟩
  simp [Lit.wf, IntKind.min, IntKind.max, IntKind.signed, IntKind.bits] at h2
  unfold isI64
  omega
theorem has_u8 (hu : P.underlying t = some (.int .u8)) (h : HasT P (n + 1) t cs) : ∃ x : UInt8, cs = [.int .u8 x.toNat] := by
  obtain ⟨x, h1, h2⟩ := has_int hu h
  simp [Lit.wf, IntKind.min, IntKind.max, IntKind.signed, IntKind.bits] at h2
  refine ⟨UInt8.ofNat x.toNat, ?_⟩
  rw [h1, UInt8.toNat_ofNat_of_lt' (by simp; omega)]
  congr 2
  omega
theorem has_str (hu : P.underlying t = some .string) (h : HasT P (n + 1) t cs) : ∃ s, cs = [.str s] ∧ s.length ≤ maxLen := by
  unfold HasT at h; rw [hu] at h; exact h
theorem rows_bytes {e : TypeId} (hu : P.underlying e = some (.int .u8)) : ∀ (ls : List (List D)), (∀ l, l ∈ ls → l.length = P.cellsOf e ∧ HasT P (n + 1) e l) → ∃ s : List UInt8, ls.flatten = ofBytes s ∧ s.length = ls.length
  | [], _ => ⟨[], rfl, rfl⟩
  | l :: ls, h => by
    obtain ⟨x, hx⟩ := has_u8 hu (h l (List.mem_cons_self ..)).2
    obtain ⟨s, h1, h2⟩ := rows_bytes hu ls fun l' hl => h l' (List.mem_cons_of_mem _ hl)
    exact ⟨x :: s, by rw [List.flatten_cons, hx, h1]; rfl, by simp [h2]⟩
theorem has_id (hu : P.underlying t = some (.array 16 e)) (he : P.underlying e = some (.int .u8)) (h : HasT P (n + 2) t cs) : ∃ i : ID, cs = ofBytes i.l := by
  unfold HasT at h
  rw [hu] at h
  obtain ⟨ls, h1, h2, h3⟩ := h
  obtain ⟨s, s1, s2⟩ := rows_bytes he ls h3
  exact ⟨⟨s, by omega⟩, by rw [h1, s1]⟩
theorem has_bytes (hu : P.underlying t = some (.slice e)) (he : P.underlying e = some (.int .u8)) (h : HasT P (n + 2) t cs) : ∃ s : Sl UInt8, cs = [(.vsl s.nil (ofBytes s.l) s.l.length)] ∧ s.l.length ≤ maxLen := by
  unfold HasT at h
  rw [hu] at h
  rcases h with rfl | ⟨ls, h1, h2, h3⟩
  · exact ⟨.none, rfl, by simp⟩
  · obtain ⟨s, s1, s2⟩ := rows_bytes he ls h3
    exact ⟨.of s, by rw [h1, s1, ← s2]; rfl, by simp only [Sl.of_l]; omega⟩
theorem rows_enc {α : Type} [Enc α] {R : α → Prop} {Q : List D → Prop} (hel : ∀ l, Q l → ∃ a : α, l = Enc.cells a ∧ R a) : ∀ (ls : List (List D)), (∀ l, l ∈ ls → Q l) → ∃ s : List α, ls.flatten = encs s ∧ s.length = ls.length ∧ ∀ a, a ∈ s → R a
  | [], _ => ⟨[], rfl, rfl, by simp⟩
  | l :: ls, h => by
    obtain ⟨x, hx, hr⟩ := hel l (h l (List.mem_cons_self ..))
    obtain ⟨s, h1, h2, h3⟩ := rows_enc hel ls fun l' hl => h l' (List.mem_cons_of_mem _ hl)
    refine ⟨x :: s, by rw [List.flatten_cons, hx, h1, encs_cons], by simp [h2], fun a ha => ?_⟩
    rcases List.mem_cons.1 ha with rfl | ha
    · exact hr
    · exact h3 a ha
theorem has_slice {α : Type} [Enc α] {R : α → Prop} (hu : P.underlying t = some (.slice e)) (hel : ∀ l, HasT P n e l → ∃ a : α, l = Enc.cells a ∧ R a) (h : HasT P (n + 1) t cs) : ∃ s : Sl α, cs = [(.vsl s.nil (encs s.l) s.l.length)] ∧ s.l.length ≤ maxLen ∧ ∀ a, a ∈ s.l → R a := by
  unfold HasT at h
  rw [hu] at h
  rcases h with rfl | ⟨ls, h1, h2, h3⟩
  · exact ⟨.none, rfl, by simp, by simp⟩
  · obtain ⟨s, s1, s2, s3⟩ := rows_enc hel ls fun l hl => (h3 l hl).2
    exact ⟨.of s, by rw [h1, s1, ← s2]; rfl, by simp only [Sl.of_l]; omega, s3⟩
theorem has_struct {fs : Array Field} (hu : P.underlying t = some (.struct fs)) (h : HasT P (n + 1) t cs) : HasFs P (HasT P n) fs.toList cs := by
  unfold HasT at h; rw [hu] at h; exact h
end
/-- Cells back to a value. -/
theorem cor_val {W : World} {d : D} {v : Value} (h : Cor W [d] v.cells.toList) (ho : v.oneCell' = true) : Rep (· < W.heap.size) W iota0 [] d v := by
  have hv : v.cells.toList = [v] := by
    cases v <;> first | rfl | simp [Value.oneCell'] at ho
  rw [hv] at h
  exact h.2.2 0 d rfl
theorem cor_agg {W : World} {ds : List D} {vs : Array Value} (h : Cor W ds vs.toList) : Rep (· < W.heap.size) W iota0 [] (.agg ds) (.agg vs) := by
  refine .agg (by simpa using h.1.symm) h.2.1 fun j d hj => ?_
  have := h.2.2 j d hj
  simpa [List.getD_eq_getElem?_getD, Array.getD_eq_getD_getElem?] using this
end Go.Ev
namespace Go.Ev
open Go Go.Proofs
theorem one_slice {P : Program} {W : World} {base : Nat} {t e : TypeId} {v : Value} (hu : P.underlying t = some (.slice e)) (h : Value.okWide P W .any base t v) : v.oneCell' = true := by
  simp only [Value.okWide, hu, Cell.okWide] at h
  cases v <;> first | rfl | simp [Cell.ok, hu] at h
theorem one_bool {P : Program} {W : World} {base : Nat} {t : TypeId} {v : Value} (hu : P.underlying t = some .bool) (h : Value.okWide P W .any base t v) : v.oneCell' = true := by
  simp only [Value.okWide, hu, Cell.okWide] at h
  cases v <;> first | rfl | simp [Cell.ok, hu] at h
theorem one_int {P : Program} {W : World} {base : Nat} {t : TypeId} {k : IntKind} {v : Value} (hu : P.underlying t = some (.int k)) (h : Value.okWide P W .any base t v) : v.oneCell' = true := by
  simp only [Value.okWide, hu, Cell.okWide] at h
  cases v <;> first | rfl | simp [Cell.ok, hu] at h
theorem one_str {P : Program} {W : World} {base : Nat} {t : TypeId} {v : Value} (hu : P.underlying t = some .string) (h : Value.okWide P W .any base t v) : v.oneCell' = true := by
  simp only [Value.okWide, hu, Cell.okWide] at h
  cases v <;> first | rfl | simp [Cell.ok, hu] at h
theorem agg_struct {P : Program} {W : World} {base : Nat} {t : TypeId} {fs : Array Field} {v : Value} (hu : P.underlying t = some (.struct fs)) (h : Value.okWide P W .any base t v) : ∃ vs, v = .agg vs := by
  simp only [Value.okWide, hu] at h
  obtain ⟨cs, h, _⟩ := h
  exact ⟨cs, h⟩
theorem agg_array {P : Program} {W : World} {base : Nat} {t e : TypeId} {n : Nat} {v : Value} (hu : P.underlying t = some (.array n e)) (h : Value.okWide P W .any base t v) : ∃ vs, v = .agg vs := by
  simp only [Value.okWide, hu] at h
  obtain ⟨cs, h, _⟩ := h
  exact ⟨cs, h⟩
section
variable {H : Type} {enc : TypeId × Value → H} {P : Program} {W : World} {base n : Nat} {t e : TypeId} {v : Value} {d : DataW H} {ps : List MemPlace}
theorem arg_bytes (hu : P.underlying t = some (.slice e)) (he : P.underlying e = some (.int .u8)) (hp : PlainT P (n + 2) t = true) (hv : Value.okWide P W .any base t v) (h : DataW.Trod enc P W 0 (fun _ => true) true t v d ps) :
    ∃ s : Sl UInt8, Rep (· < W.heap.size) W iota0 [] (.vsl s.nil (ofBytes s.l) s.l.length) v ∧ s.l.length ≤ maxLen := by
  obtain ⟨ds, h1, h2⟩ := read_plain hp h
  obtain ⟨s, rfl, hl⟩ := has_bytes hu he h1
  exact ⟨s, cor_val h2 (one_slice hu hv), hl⟩
theorem arg_slice {α : Type} [Enc α] {R : α → Prop} (hu : P.underlying t = some (.slice e)) (hel : ∀ l, HasT P n e l → ∃ a : α, l = Enc.cells a ∧ R a) (hp : PlainT P (n + 1) t = true) (hv : Value.okWide P W .any base t v) (h : DataW.Trod enc P W 0 (fun _ => true) true t v d ps) :
    ∃ s : Sl α, Rep (· < W.heap.size) W iota0 [] (.vsl s.nil (encs s.l) s.l.length) v ∧ s.l.length ≤ maxLen ∧ ∀ a, a ∈ s.l → R a := by
  obtain ⟨ds, h1, h2⟩ := read_plain hp h
  obtain ⟨s, rfl, hl, hr⟩ := has_slice hu hel h1
  exact ⟨s, cor_val h2 (one_slice hu hv), hl, hr⟩
theorem arg_struct {α : Type} [Enc α] {R : α → Prop} {fs : Array Field} (hu : P.underlying t = some (.struct fs)) (hel : ∀ l, HasT P n t l → ∃ a : α, l = Enc.cells a ∧ R a) (hp : PlainT P n t = true) (hv : Value.okWide P W .any base t v) (h : DataW.Trod enc P W 0 (fun _ => true) true t v d ps) :
    ∃ a : α, Rep (· < W.heap.size) W iota0 [] (.agg (Enc.cells a)) v ∧ R a := by
  obtain ⟨ds, h1, h2⟩ := read_plain hp h
  obtain ⟨a, rfl, hr⟩ := hel ds h1
  obtain ⟨vs, rfl⟩ := agg_struct hu hv
  exact ⟨a, cor_agg h2, hr⟩
theorem arg_bool (hu : P.underlying t = some .bool) (hp : PlainT P (n + 1) t = true) (hv : Value.okWide P W .any base t v) (h : DataW.Trod enc P W 0 (fun _ => true) true t v d ps) : ∃ b, Rep (· < W.heap.size) W iota0 [] (.bool b) v := by
  obtain ⟨ds, h1, h2⟩ := read_plain hp h
  obtain ⟨b, rfl⟩ := has_bool hu h1
  exact ⟨b, cor_val h2 (one_bool hu hv)⟩
theorem arg_i64 (hu : P.underlying t = some (.int .i64)) (hp : PlainT P (n + 1) t = true) (hv : Value.okWide P W .any base t v) (h : DataW.Trod enc P W 0 (fun _ => true) true t v d ps) : ∃ b, Rep (· < W.heap.size) W iota0 [] (.int .i64 b) v ∧ isI64 b := by
  obtain ⟨ds, h1, h2⟩ := read_plain hp h
  obtain ⟨b, rfl, hb⟩ := has_i64 hu h1
  exact ⟨b, cor_val h2 (one_int hu hv), hb⟩
theorem arg_str (hu : P.underlying t = some .string) (hp : PlainT P (n + 1) t = true) (hv : Value.okWide P W .any base t v) (h : DataW.Trod enc P W 0 (fun _ => true) true t v d ps) : ∃ s, Rep (· < W.heap.size) W iota0 [] (.str s) v ∧ s.length ≤ maxLen := by
  obtain ⟨ds, h1, h2⟩ := read_plain hp h
  obtain ⟨b, rfl, hb⟩ := has_str hu h1
  exact ⟨b, cor_val h2 (one_str hu hv), hb⟩
end
theorem repL_nil' {ok : Nat → Prop} {w : World} {ι : Iota} {H : Heap} : RepL ok w ι H [] [] := ⟨rfl, by simp⟩
theorem repL_cons' {ok : Nat → Prop} {w : World} {ι : Iota} {H : Heap} {d : D} {v : Value} {ds : List D} {vs : List Value} (h : Rep ok w ι H d v) (hs : RepL ok w ι H ds vs) : RepL ok w ι H (d :: ds) (v :: vs) := by
  refine ⟨by simp [hs.1], fun j x hj => ?_⟩
  cases j with
  | zero => simp at hj; subst hj; exact h
  | succ j => exact hs.2 j x (by simpa using hj)
/-- Fields as they may come in. -/
def Rec.Fit (r : Rec) : Prop := r.fields.l.length ≤ maxLen ∧ ∀ p, p ∈ r.fields.l → p.name.length ≤ maxLen ∧ p.value.length ≤ maxLen
end Go.Ev
/- Cursors. -/
namespace Go.Ev
open Go Go.Proofs
@[simp] theorem ID.ta (i : ID) (r : List D) : (ofBytes i.l ++ r).take 16 = ofBytes i.l := by simp
@[simp] theorem ID.da (i : ID) (r : List D) : (ofBytes i.l ++ r).drop 16 = r := by simp
structure Cur where
  seq : ID
  n : Int
  boot : ID
  mono : Int
  real : Int
  xor : Int
  deriving DecidableEq
instance : Enc Cur := ⟨36, fun m => (ofBytes m.seq.l ++ (.int .u64 m.n :: (ofBytes m.boot.l ++ (.int .u64 m.mono :: (.int .u64 m.real :: (.int .u64 m.xor :: ([] : List D))))))), fun m => by simp, fun m => by simp [idFree]⟩
theorem Cur.cells (m : Cur) : Enc.cells m = (ofBytes m.seq.l ++ (.int .u64 m.n :: (ofBytes m.boot.l ++ (.int .u64 m.mono :: (.int .u64 m.real :: (.int .u64 m.xor :: ([] : List D))))))) := rfl
@[simp] theorem Cur.size : Enc.size Cur = 36 := rfl
@[simp] theorem Cur.cl (a : Cur) : (Enc.cells a).length = 36 := Enc.len a
@[simp] theorem Cur.ct (a : Cur) (r : List D) : (Enc.cells a ++ r).take 36 = Enc.cells a := cells_take rfl a r
@[simp] theorem Cur.ct' (a : Cur) : (Enc.cells a).take 36 = Enc.cells a := cells_take' rfl a
@[simp] theorem Cur.cd (a : Cur) (r : List D) : (Enc.cells a ++ r).drop 36 = r := cells_drop rfl a r
@[simp] theorem Cur.el (l : List Cur) : (encs l).length = l.length * 36 := encs_len' rfl l
@[simp] theorem Cur.ed (l : List Cur) (i : Nat) : (encs l).drop (i * 36) = encs (l.drop i) := encs_drop rfl l i
@[simp] theorem Cur.et (l : List Cur) (i : Nat) : (encs l).take (i * 36) = encs (l.take i) := encs_take rfl l i
@[simp high] theorem Cur.ea {l : List Cur} {i : Nat} (h : i < l.length) : (encs l).drop (i * 36) = Enc.cells l[i] ++ encs (l.drop (i + 1)) := encs_at rfl h
@[simp high] theorem Cur.es (m : Cur) {l : List Cur} {j : Nat} (h : j < l.length) : setRange (encs l) (j * 36) (Enc.cells m) = encs (l.set j m) := encs_set rfl m l h
@[simp] theorem Cur.t0 (m : Cur) : (Enc.cells m).take 16 = ofBytes m.seq.l := by simp [Cur.cells]
@[simp] theorem Cur.t0' (m : Cur) (r : List D) : (Enc.cells m ++ r).take 16 = ofBytes m.seq.l := by simp [Cur.cells]
@[simp] theorem Cur.s0 (m : Cur) (x : ID) : setRange (Enc.cells m) 0 (ofBytes x.l) = Enc.cells { m with seq := x } := by simp [List.take_append, Cur.cells]
@[simp] theorem Cur.d16 (m : Cur) : (Enc.cells m).drop 16 = (.int .u64 m.n :: (ofBytes m.boot.l ++ (.int .u64 m.mono :: (.int .u64 m.real :: (.int .u64 m.xor :: ([] : List D)))))) := by simp [Cur.cells]
@[simp] theorem Cur.d16' (m : Cur) (r : List D) : (Enc.cells m ++ r).drop 16 = (.int .u64 m.n :: (ofBytes m.boot.l ++ (.int .u64 m.mono :: (.int .u64 m.real :: (.int .u64 m.xor :: ([] : List D)))))) ++ r := by simp [Cur.cells]
@[simp] theorem Cur.g16 (m : Cur) (h) : (Enc.cells m)[16]'h = .int .u64 m.n := by simp [Cur.cells]
@[simp] theorem Cur.q16 (m : Cur) : (Enc.cells m)[16]? = some (.int .u64 m.n) := by simp [Cur.cells]
@[simp] theorem Cur.s16 (m : Cur) (x : Int) : setRange (Enc.cells m) 16 [.int .u64 x] = Enc.cells { m with n := x } := by simp [List.drop_append, drop_bytes, Cur.cells]
@[simp] theorem Cur.d17 (m : Cur) : (Enc.cells m).drop 17 = (ofBytes m.boot.l ++ (.int .u64 m.mono :: (.int .u64 m.real :: (.int .u64 m.xor :: ([] : List D))))) := by simp [List.drop_append, drop_bytes, Cur.cells]
@[simp] theorem Cur.d17' (m : Cur) (r : List D) : (Enc.cells m ++ r).drop 17 = (ofBytes m.boot.l ++ (.int .u64 m.mono :: (.int .u64 m.real :: (.int .u64 m.xor :: ([] : List D))))) ++ r := by simp [List.drop_append, drop_bytes, Cur.cells]
@[simp] theorem Cur.s17 (m : Cur) (x : ID) : setRange (Enc.cells m) 17 (ofBytes x.l) = Enc.cells { m with boot := x } := by simp [List.take_append, List.drop_append, drop_bytes, List.take_of_length_le, Cur.cells]
@[simp] theorem Cur.d33 (m : Cur) : (Enc.cells m).drop 33 = (.int .u64 m.mono :: (.int .u64 m.real :: (.int .u64 m.xor :: ([] : List D)))) := by simp [List.drop_append, drop_bytes, Cur.cells]
@[simp] theorem Cur.d33' (m : Cur) (r : List D) : (Enc.cells m ++ r).drop 33 = (.int .u64 m.mono :: (.int .u64 m.real :: (.int .u64 m.xor :: ([] : List D)))) ++ r := by simp [List.drop_append, drop_bytes, Cur.cells]
@[simp] theorem Cur.g33 (m : Cur) (h) : (Enc.cells m)[33]'h = .int .u64 m.mono := by simp [Cur.cells]
@[simp] theorem Cur.q33 (m : Cur) : (Enc.cells m)[33]? = some (.int .u64 m.mono) := by simp [Cur.cells]
@[simp] theorem Cur.s33 (m : Cur) (x : Int) : setRange (Enc.cells m) 33 [.int .u64 x] = Enc.cells { m with mono := x } := by simp [List.take_append, List.drop_append, drop_bytes, List.take_of_length_le, Cur.cells]
@[simp] theorem Cur.d34 (m : Cur) : (Enc.cells m).drop 34 = (.int .u64 m.real :: (.int .u64 m.xor :: ([] : List D))) := by simp [List.drop_append, drop_bytes, Cur.cells]
@[simp] theorem Cur.d34' (m : Cur) (r : List D) : (Enc.cells m ++ r).drop 34 = (.int .u64 m.real :: (.int .u64 m.xor :: ([] : List D))) ++ r := by simp [List.drop_append, drop_bytes, Cur.cells]
@[simp] theorem Cur.g34 (m : Cur) (h) : (Enc.cells m)[34]'h = .int .u64 m.real := by simp [Cur.cells]
@[simp] theorem Cur.q34 (m : Cur) : (Enc.cells m)[34]? = some (.int .u64 m.real) := by simp [Cur.cells]
@[simp] theorem Cur.s34 (m : Cur) (x : Int) : setRange (Enc.cells m) 34 [.int .u64 x] = Enc.cells { m with real := x } := by simp [List.take_append, List.drop_append, drop_bytes, List.take_of_length_le, Cur.cells]
@[simp] theorem Cur.d35 (m : Cur) : (Enc.cells m).drop 35 = (.int .u64 m.xor :: ([] : List D)) := by simp [List.drop_append, drop_bytes, Cur.cells]
@[simp] theorem Cur.d35' (m : Cur) (r : List D) : (Enc.cells m ++ r).drop 35 = (.int .u64 m.xor :: ([] : List D)) ++ r := by simp [List.drop_append, drop_bytes, Cur.cells]
@[simp] theorem Cur.g35 (m : Cur) (h) : (Enc.cells m)[35]'h = .int .u64 m.xor := by simp [Cur.cells]
@[simp] theorem Cur.q35 (m : Cur) : (Enc.cells m)[35]? = some (.int .u64 m.xor) := by simp [Cur.cells]
@[simp] theorem Cur.s35 (m : Cur) (x : Int) : setRange (Enc.cells m) 35 [.int .u64 x] = Enc.cells { m with xor := x } := by simp [List.take_append, List.drop_append, drop_bytes, List.take_of_length_le, Cur.cells]
end Go.Ev
/- The order of bytes. -/
namespace Go.Ev
open Go Go.Proofs
theorem cmpB_self : ∀ (x : List UInt8), cmpB x x = 0
  | [] => rfl
  | a :: x => by simp [cmpB, cmpB_self x]
theorem cmpB_swap : ∀ (x y : List UInt8), cmpB y x = - cmpB x y
  | [], [] => rfl
  | [], _ :: _ => rfl
  | _ :: _, [] => rfl
  | a :: x, b :: y => by
    simp only [cmpB]
    by_cases h : a = b
    · subst h; simp [cmpB_swap x y]
    · have h' : ¬ b = a := fun e => h e.symm
      rw [if_neg h, if_neg h']
      by_cases hl : a < b
      · have : ¬ b < a := UInt8.not_lt.2 (UInt8.le_of_lt hl)
        rw [if_pos hl, if_neg this]; rfl
      · have : b < a := UInt8.lt_of_le_of_ne (UInt8.not_lt.1 hl) h'
        rw [if_neg hl, if_pos this]
theorem cmpB_eq : ∀ {x y : List UInt8}, cmpB x y = 0 → x = y
  | [], [], _ => rfl
  | [], _ :: _, h => by simp [cmpB] at h
  | _ :: _, [], h => by simp [cmpB] at h
  | a :: x, b :: y, h => by
    simp only [cmpB] at h
    by_cases e : a = b
    · rw [if_pos e] at h
      rw [e, cmpB_eq h]
    · rw [if_neg e] at h
      split at h <;> simp at h
theorem cmpB_rng : ∀ (x y : List UInt8), cmpB x y = -1 ∨ cmpB x y = 0 ∨ cmpB x y = 1
  | [], [] => by simp [cmpB]
  | [], _ :: _ => by simp [cmpB]
  | _ :: _, [] => by simp [cmpB]
  | a :: x, b :: y => by
    simp only [cmpB]
    split
    · exact cmpB_rng x y
    · split <;> simp
theorem cmpB_trans : ∀ {x y z : List UInt8}, cmpB x y < 0 → cmpB y z < 0 → cmpB x z < 0
  | [], [], _, h, _ => by simp [cmpB] at h
  | [], _ :: _, [], _, h => by simp [cmpB] at h
  | [], _ :: _, _ :: _, _, _ => by simp [cmpB]
  | _ :: _, [], _, h, _ => by simp [cmpB] at h
  | _ :: _, _ :: _, [], _, h => by simp [cmpB] at h
  | a :: x, b :: y, c :: z, h1, h2 => by
    simp only [cmpB] at h1 h2 ⊢
    by_cases e1 : a = b
    · subst e1
      rw [if_pos rfl] at h1
      by_cases e2 : a = c
      · subst e2
        rw [if_pos rfl] at h2 ⊢
        exact cmpB_trans h1 h2
      · rw [if_neg e2] at h2 ⊢
        exact h2
    · rw [if_neg e1] at h1
      have l1 : a < b := by
        by_cases l : a < b
        · exact l
        · rw [if_neg l] at h1; simp at h1
      by_cases e2 : b = c
      · subst e2
        rw [if_neg e1, if_pos l1]
        decide
      · rw [if_neg e2] at h2
        have l2 : b < c := by
          by_cases l : b < c
          · exact l
          · rw [if_neg l] at h2; simp at h2
        have l3 : a < c := UInt8.lt_trans l1 l2
        rw [if_neg (UInt8.ne_of_lt l3), if_pos l3]
        decide
theorem id_of_cmp {a b : ID} (h : cmpB a.l b.l = 0) : a = b := ID.ext' (cmpB_eq h)
end Go.Ev
/- Hexadecimal digits. -/
namespace Go.Ev
open Go Go.Proofs
def hexc (k : Nat) : UInt8 := if k < 10 then UInt8.ofNat (48 + k) else UInt8.ofNat (87 + k)
def hexF : Nat → Nat → List UInt8
  | 0, _ => []
  | f + 1, v => if v < 16 then [hexc v] else hexF f (v / 16) ++ [hexc (v % 16)]
/-- A number's digits, as few as can be. -/
def hx (v : Nat) : List UInt8 := hexF 16 v
def digL : List UInt8 := [48, 49, 50, 51, 52, 53, 54, 55, 56, 57, 97, 98, 99, 100, 101, 102]
def dig36 : List UInt8 := [48, 49, 50, 51, 52, 53, 54, 55, 56, 57, 97, 98, 99, 100, 101, 102, 103, 104, 105, 106, 107, 108, 109, 110, 111, 112, 113, 114, 115, 116, 117, 118, 119, 120, 121, 122]
theorem dig36_at : ∀ k, k < 16 → dig36[k]? = some (hexc k) := by decide
theorem digL_at : ∀ k, k < 16 → digL[k]? = some (hexc k) := by decide
theorem digL_idx : ∀ k, k < 16 → idxB (hexc k) digL 0 = (k : Int) := by decide
theorem hexF_len : ∀ (f v : Nat), (hexF f v).length ≤ f
  | 0, _ => Nat.le_refl _
  | f + 1, v => by
    rw [hexF]
    split
    · simp
    · have := hexF_len f (v / 16)
      simp
      omega
theorem hx_len (v : Nat) : (hx v).length ≤ 16 := hexF_len 16 v
theorem hx_pos (v : Nat) : 0 < (hx v).length := by
  unfold hx hexF
  split <;> simp
theorem hexc_ne : ∀ k, k < 16 → hexc k ≠ 59 ∧ hexc k ≠ 61 ∧ hexc k ≠ 45 := by decide
theorem hexF_ne : ∀ (f v : Nat), ∀ x ∈ hexF f v, x ≠ 59 ∧ x ≠ 61 ∧ x ≠ 45
  | 0, _ => by simp [hexF]
  | f + 1, v => by
    rw [hexF]
    split
    · intro x hx
      rw [List.mem_singleton.1 hx]
      exact hexc_ne v (by assumption)
    · intro x hx
      rcases List.mem_append.1 hx with h | h
      · exact hexF_ne f _ x h
      · rw [List.mem_singleton.1 h]
        exact hexc_ne _ (Nat.mod_lt _ (by decide))
theorem hx_ne (v : Nat) : ∀ x ∈ hx v, x ≠ 59 ∧ x ≠ 61 ∧ x ≠ 45 := hexF_ne 16 v
/-- A name's digits. -/
def hexs : List UInt8 → List UInt8
  | [] => []
  | b :: l => hexc (b.toNat / 16) :: hexc (b.toNat % 16) :: hexs l
theorem hexs_len : ∀ (l : List UInt8), (hexs l).length = 2 * l.length
  | [] => rfl
  | b :: l => by simp [hexs, hexs_len l]; omega
theorem hexs_append : ∀ (a b : List UInt8), hexs (a ++ b) = hexs a ++ hexs b
  | [], _ => rfl
  | x :: a, b => by simp [hexs, hexs_append a b]
theorem hexs_ne : ∀ (l : List UInt8), ∀ x ∈ hexs l, x ≠ 59 ∧ x ≠ 61 ∧ x ≠ 45
  | [] => by simp [hexs]
  | b :: l => by
    intro x hx
    simp only [hexs, List.mem_cons] at hx
    have hb := b.toNat_lt
    rcases hx with rfl | rfl | hx
    · exact hexc_ne _ (by omega)
    · exact hexc_ne _ (by omega)
    · exact hexs_ne l x hx
/-- A number in sixteen digits. -/
def fixed (v : Nat) : List UInt8 := List.replicate (16 - (hx v).length) 48 ++ hx v
theorem fixed_len (v : Nat) : (fixed v).length = 16 := by
  have := hx_len v
  simp [fixed]
  omega
/-- The name that digits are, one digit behind the other. -/
def idGo : List UInt8 → Nat → List UInt8 → Option (List UInt8)
  | [], _, st => some st
  | c :: l, i, st => if idxB c digL 0 < 0 then none else idGo l (i + 1) (st.set (i / 2) ((st.getD (i / 2) 0 <<< 4) ||| UInt8.ofNat (idxB c digL 0).toNat))
def zero16 : List UInt8 := List.replicate 16 0
def idP (s : List UInt8) : Option (List UInt8) := if s.length = 32 then idGo s 0 zero16 else none
theorem idGo_len : ∀ (s : List UInt8) (i : Nat) (st r : List UInt8), idGo s i st = some r → r.length = st.length
  | [], _, st, r, h => by simp only [idGo, Option.some.injEq] at h; rw [h]
  | c :: l, i, st, r, h => by
    simp only [idGo] at h
    split at h
    · cases h
    · have := idGo_len l _ _ r h
      simpa using this
theorem idP_len {s r : List UInt8} (h : idP s = some r) : r.length = 16 := by
  unfold idP at h
  split at h
  · have := idGo_len _ _ _ _ h
    simpa [zero16] using this
  · cases h
theorem idx_range (c : UInt8) : ∀ (l : List UInt8) (n : Nat), idxB c l n = -1 ∨ ∃ k, k < l.length ∧ idxB c l n = ((n + k : Nat) : Int)
  | [], _ => .inl rfl
  | b :: l, n => by
    unfold idxB
    split
    · exact .inr ⟨0, by simp, by simp⟩
    · rcases idx_range c l (n + 1) with h | ⟨k, h1, h2⟩
      · exact .inl h
      · exact .inr ⟨k + 1, by simp; omega, by rw [h2]; omega⟩
theorem nib_orN : ∀ n, n < 256 → (((0 : UInt8) <<< 4 ||| UInt8.ofNat (n / 16)) <<< 4) ||| UInt8.ofNat (n % 16) = UInt8.ofNat n := by decide +kernel
theorem nib_or (b : UInt8) : (((0 : UInt8) <<< 4 ||| UInt8.ofNat (b.toNat / 16)) <<< 4) ||| UInt8.ofNat (b.toNat % 16) = b := by
  rw [nib_orN b.toNat b.toNat_lt, UInt8.ofNat_toNat]
theorem idGo_hexs : ∀ (l done : List UInt8), idGo (hexs l) (2 * done.length) (done ++ List.replicate l.length 0) = some (done ++ l)
  | [], done => by simp [hexs, idGo]
  | b :: l, done => by
    have hb := b.toNat_lt
    have h1 := digL_idx (b.toNat / 16) (by omega)
    have h2 := digL_idx (b.toNat % 16) (by omega)
    simp only [hexs, idGo, h1, h2]
    rw [if_neg (by omega), if_neg (by omega)]
    have e1 : 2 * done.length / 2 = done.length := by omega
    have e2 : (2 * done.length + 1) / 2 = done.length := by omega
    have e3 : 2 * done.length + 1 + 1 = 2 * (done ++ [b]).length := by simp; omega
    have g1 : (done ++ List.replicate (b :: l).length 0).getD done.length 0 = (0 : UInt8) := by
      simp [List.getD, List.replicate_succ]
    rw [e1, e2, e3, g1]
    have s1 : ∀ x : UInt8, (done ++ List.replicate (b :: l).length (0 : UInt8)).set done.length x = done ++ x :: List.replicate l.length 0 := by
      intro x
      simp [List.replicate_succ]
    rw [s1]
    have g2 : ∀ x : UInt8, (done ++ x :: List.replicate l.length (0 : UInt8)).getD done.length 0 = x := by
      intro x
      simp [List.getD]
    rw [g2]
    have s2 : ∀ x y : UInt8, (done ++ x :: List.replicate l.length (0 : UInt8)).set done.length y = (done ++ [y]) ++ List.replicate l.length 0 := by
      intro x y
      simp
    have e4 : ((((b.toNat / 16 : Nat) : Int)).toNat) = b.toNat / 16 := by omega
    have e5 : ((((b.toNat % 16 : Nat) : Int)).toNat) = b.toNat % 16 := by omega
    rw [s2, e4, e5, nib_or b, idGo_hexs l (done ++ [b])]
    simp
theorem idP_hexs {l : List UInt8} (h : l.length = 16) : idP (hexs l) = some l := by
  unfold idP
  rw [if_pos (by rw [hexs_len, h])]
  have := idGo_hexs l []
  simpa [zero16, h] using this
theorem shl4_N : ∀ n : Nat, n < 256 → ∀ k : Nat, k < 16 → orI .u8 (IntKind.u8.wrap ((n : Int) * 16)) (k : Int) = ((UInt8.ofNat n <<< 4 ||| UInt8.ofNat k).toNat : Int) := by decide +kernel
theorem shl4_u8 (a : UInt8) (k : Nat) (hk : k < 16) : orI .u8 (IntKind.u8.wrap ((a.toNat : Int) * 16)) (k : Int) = ((a <<< 4 ||| UInt8.ofNat k).toNat : Int) := by
  rw [shl4_N a.toNat a.toNat_lt k hk, UInt8.ofNat_toNat]
theorem and15_u64 {n : Nat} (h : n < 18446744073709551616) : andI .u64 (n : Int) 15 = ((n % 16 : Nat) : Int) := by
  unfold andI
  have e : (BitVec.ofInt IntKind.u64.bits (n : Int) &&& BitVec.ofInt IntKind.u64.bits 15).toNat = n % 16 := by
    show (BitVec.ofInt 64 (n : Int) &&& BitVec.ofInt 64 ((15 : Nat) : Int)).toNat = n % 16
    rw [BitVec.ofInt_natCast, BitVec.ofInt_natCast, BitVec.toNat_and, BitVec.toNat_ofNat, BitVec.toNat_ofNat, Nat.mod_eq_of_lt (show n < 2 ^ 64 by omega)]
    exact Nat.and_two_pow_sub_one_eq_mod n 4
  rw [e, wrap_u64]
  omega
theorem and15_u8N : ∀ n : Nat, n < 256 → andI .u8 (n : Int) 15 = ((n % 16 : Nat) : Int) := by decide +kernel
theorem and15_u8 (b : UInt8) : andI .u8 (b.toNat : Int) 15 = ((b.toNat % 16 : Nat) : Int) := and15_u8N b.toNat b.toNat_lt
theorem fdiv16 (n : Nat) : Int.fdiv (n : Int) 16 = ((n / 16 : Nat) : Int) := by
  rw [Int.fdiv_eq_ediv_of_nonneg _ (by omega)]
  omega
/-- A row of zeros, filled from behind. -/
theorem fill_behind (i : Nat) (s : List UInt8) (c : UInt8) : setRange (List.replicate (i + 1) (D.int .u8 0) ++ ofBytes s) i [.int .u8 c.toNat] = List.replicate i (.int .u8 0) ++ ofBytes (c :: s) := by
  unfold setRange
  have h : (List.replicate (i + 1) (D.int .u8 0) ++ ofBytes s).drop (i + 1) = ofBytes s := List.drop_left' (by simp)
  have h2 : (List.replicate (i + 1) (D.int .u8 0) ++ ofBytes s).take i = List.replicate i (D.int .u8 0) := by
    rw [List.take_append_of_le_length (by simp), List.take_replicate]
    congr 1
    omega
  rw [h2, List.length_singleton, h]
  simp [ofBytes]
end Go.Ev
/- Numbers in hexadecimal digits. -/
namespace Go.Ev.S
open Go Go.Proofs Go.Ev
theorem pow2_ev [MaxL] : call cx 60 [.int .i64 16] [] = some (.bool true, []) := call_some.2 ⟨60, by kernel_rfl⟩
theorem tz_ev [MaxL] : call cx 61 [.int .u64 16] [] = some (.int .i64 4, []) := call_some.2 ⟨100, by kernel_rfl⟩
/-- What stands in the row so far. -/
def HexI (v i u : Nat) (s : List UInt8) : Prop := ∃ g, 1 ≤ g ∧ g ≤ 16 ∧ i = 49 + g ∧ s.length + g = 16 ∧ u < 16 ^ g ∧ hexF g u ++ s = hx v
theorem hexI_step {v i u : Nat} {s : List UInt8} (h : HexI v i u s) (hu : 16 ≤ u) : 51 ≤ i ∧ HexI v (i - 1) (u / 16) (hexc (u % 16) :: s) := by
  obtain ⟨g, h1, h2, rfl, h4, h5, h6⟩ := h
  obtain ⟨f, rfl⟩ : ∃ f, g = f + 1 := ⟨g - 1, by omega⟩
  have hf : 1 ≤ f := by
    rcases f with _ | f
    · simp at h5; omega
    · omega
  refine ⟨by omega, f, hf, by omega, by omega, by simp; omega, by rw [Nat.pow_succ] at h5; omega, ?_⟩
  rw [hexF, if_neg (by omega)] at h6
  simpa using h6
theorem hexI_end {v i u : Nat} {s : List UInt8} (h : HexI v i u s) (hu : u < 16) : hexc u :: s = hx v ∧ 50 ≤ i ∧ i ≤ 65 ∧ i + s.length = 65 := by
  obtain ⟨g, h1, h2, rfl, h4, h5, h6⟩ := h
  obtain ⟨f, rfl⟩ : ∃ f, g = f + 1 := ⟨g - 1, by omega⟩
  rw [hexF, if_pos hu] at h6
  exact ⟨by simpa using h6, by omega, by omega, by omega⟩
theorem hexI_len {v i u : Nat} {s : List UInt8} (h : HexI v i u s) : i + s.length = 65 ∧ 50 ≤ i := by
  obtain ⟨g, h1, h2, rfl, h4, h5, h6⟩ := h
  omega
theorem fill_of {i j : Nat} (hi : i = j + 1) (s : List UInt8) (c : UInt8) : setRange (List.replicate i (D.int .u8 0) ++ ofBytes s) j [.int .u8 c.toNat] = List.replicate j (.int .u8 0) ++ ofBytes (c :: s) := by
  rw [hi]; exact fill_behind j s c
set_option maxHeartbeats 2000000 in
theorem fb16_ev [MaxL] (v : Nat) (hv : v < 18446744073709551616) : call cx 41 [.vsl true [] 0, .int .u64 v, .int .i64 16, .bool false, .bool false] [] = some (.tup [.vsl true [] 0, .str (hx v)], []) := by
  have h1 := pow2_ev
  have h2 := tz_ev
  have w16 : IntKind.u64.wrap 16 = 16 := by decide
  have w15 : IntKind.u64.wrap 15 = 15 := by decide
  have w4 : IntKind.u64.wrap 4 = 4 := by decide
  refine call_run Tryd.func41 rfl ⟨rfl, rfl⟩ ?_
  simp [-List.reduceReplicate, Tryd.f41, h1, h2, w16, w15, w4]
  refine Run.loopThen (fun (q : Nat × Nat × List UInt8) e H' => HexI v q.1 q.2.1 q.2.2 ∧ q.2.1 < 18446744073709551616 ∧ H' = [some (List.replicate q.1 (.int .u8 0) ++ ofBytes q.2.2)] ∧
      look e 0 = some (.vsl true [] 0) ∧ look e 1 = some (.int .u64 (q.2.1 : Nat)) ∧ look e 3 = some (.bool false) ∧ look e 4 = some (.bool false) ∧ look e 10 = some (.vsl true [] 0) ∧ look e 11 = some (.str []) ∧ look e 12 = some (.optr 0 65 0) ∧
      look e 13 = some (.int .i64 (q.1 : Nat)) ∧ look e 14 = some (.int .u64 4) ∧ look e 15 = some (.int .u64 16) ∧ look e 16 = some (.int .u64 15)) (fun q => q.2.1) (65, v, []) ?_ ?_
  · refine ⟨⟨16, by omega, by omega, by omega, by simp, by omega, by simp [hx]⟩, hv, ?_, ?_⟩
    · show [some (List.replicate 65 (D.int .u8 0))] = [some (List.replicate 65 (D.int .u8 0) ++ [])]
      rw [List.append_nil]
    · simp
  rintro ⟨i, u, s⟩ e H' ⟨hI, hu, rfl, k0, k1, k3, k4, k10, k11, k12, k13, k14, k15, k16⟩
  simp only at hI hu k1 k13
  obtain ⟨hl, h50⟩ := hexI_len hI
  obtain ⟨j, hj⟩ : ∃ j, i = j + 1 := ⟨i - 1, by omega⟩
  have hw : IntKind.i64.wrap ((i : Int) - 1) = (j : Int) := by rw [wrap_i64] <;> omega
  have hj65 : (j : Int) < 65 := by omega
  have hj1 : j + 1 ≤ i + s.length := by omega
  have hj64 : j ≤ 64 := by omega
  by_cases h16 : 16 ≤ u
  · have h16' : (16 : Int) ≤ (u : Int) := by omega
    obtain ⟨h51, hS⟩ := hexI_step hI h16
    have ha := and15_u64 hu
    have hd := dig36_at (u % 16) (Nat.mod_lt _ (by decide))
    simp only [dig36] at hd
    have hf := fdiv16 u
    have hst := fill_of hj s (hexc (u % 16))
    have e1 : i - 1 = j := by omega
    rw [e1] at hS
    have hu2 : u / 16 < u := by omega
    have hu3 : u / 16 < 18446744073709551616 := by omega
    generalize u / 16 = u2 at *
    generalize hexc (u % 16) = c at *
    obtain ⟨m, hm⟩ : ∃ m, m = u % 16 := ⟨_, rfl⟩
    rw [← hm] at ha hd
    simp [-setRange_eq, k0, k1, k3, k4, k10, k11, k12, k13, k14, k15, k16, h16', hw, hj65, hj64, hl, ha, hd, hst]
    have hp4 : (2 : Int) ^ min 4 IntKind.u64.bits = 16 := by decide
    exact ⟨j, u2, hu2, c :: s, hS, hu3, by simp [hp4, hf]⟩
  · have h16' : ¬ (16 : Int) ≤ (u : Int) := by omega
    obtain ⟨hE, _, _, _⟩ := hexI_end hI (by omega)
    have hd := dig36_at u (by omega)
    simp only [dig36] at hd
    have hst := fill_of hj s (hexc u)
    have hdr : List.take (65 - j) (List.drop j (List.replicate j (D.int .u8 0) ++ ofBytes (hexc u :: s))) = ofBytes (hx v) := by
      rw [List.drop_left' (by simp), hE]
      refine List.take_of_length_le ?_
      rw [← hE]
      simp
      omega
    have hj2 : (j : Int) ≤ 65 := by omega
    have hj3 : j ≤ 65 := by omega
    have hj4 : j < 65 := by omega
    have hl3 : j + (65 - j) = 65 := by omega
    have hl4 : j + (hx v).length = 65 := by rw [← hE]; simp; omega
    have hlh : (hx v).length = 65 - j := by rw [← hE]; simp; omega
    have hl2 : j + (ofBytes (hexc u :: s)).length = 65 := by simp; omega
    simp only [hE] at hst hdr hl2
    generalize hexc u = c at *
    simp [-setRange_eq, k0, k1, k3, k4, k10, k11, k12, k13, k14, k15, k16, h16', hw, hj65, hj64, hl, hd, hst, hj2, hj4, hl3, hlh]
theorem fui16_ev [MaxL] (v : Nat) (hv : v < 18446744073709551616) : call cx 24 [.int .u64 v, .int .i64 16] [] = some (.str (hx v), []) := by
  have h := fb16_ev v hv
  refine call_run Tryd.func24 rfl ⟨rfl, rfl⟩ ?_
  simp [Tryd.f24, h]
theorem fu16_ev [MaxL] (v : Nat) (hv : v < 18446744073709551616) : call cx 16 [.int .u64 v, .int .i64 16] [] = some (.str (hx v), []) := by
  have h := fui16_ev v hv
  refine call_run Tryd.func16 rfl ⟨rfl, rfl⟩ ?_
  simp [Tryd.f16, h]
end Go.Ev.S
/- Numbers that texts are. -/
namespace Go.Ev.S
open Go Go.Proofs Go.Ev
theorem orI_u8 (a b : UInt8) : orI .u8 (a.toNat : Int) (b.toNat : Int) = ((a ||| b).toNat : Int) := by
  unfold orI
  have h := (a ||| b).toNat_lt
  have e : (BitVec.ofInt IntKind.u8.bits (a.toNat : Int) ||| BitVec.ofInt IntKind.u8.bits (b.toNat : Int)).toNat = (a ||| b).toNat := by
    simp [IntKind.bits]
    rfl
  rw [e, wrap_u8]
  omega
theorem lower_ev [MaxL] (c : UInt8) : call cx 51 [.int .u8 c.toNat] [] = some (.int .u8 ((c ||| 32).toNat : Int), []) := by
  have h := orI_u8 c 32
  have h' : orI .u8 (c.toNat : Int) 32 = ((c ||| 32).toNat : Int) := h
  refine call_run Tryd.func51 rfl ⟨rfl, rfl⟩ ?_
  simp [Tryd.f51, h']
theorem all_u8 {p : UInt8 → Bool} (h : ((List.range 256).all fun k => p (UInt8.ofNat k)) = true) (c : UInt8) : p c = true := by
  have := List.all_eq_true.1 h c.toNat (List.mem_range.2 c.toNat_lt)
  rw [UInt8.ofNat_toNat] at this
  exact this
theorem low_lt {c : UInt8} (h : c.toNat < 48) : (c ||| 32).toNat < 97 := by
  have := all_u8 (p := fun c => decide (c.toNat < 48) == false || decide ((c ||| 32).toNat < 97)) (by decide +kernel) c
  simpa [h] using this
theorem low_95 {c : UInt8} (h : c.toNat = 95) : 122 < (c ||| 32).toNat := by
  simp [h]
/-- What a sign counts; none: it is no digit. -/
def dval (c : UInt8) : Option Nat := if 48 ≤ c.toNat ∧ c.toNat ≤ 57 then some (c.toNat - 48) else if 97 ≤ (c ||| 32).toNat ∧ (c ||| 32).toNat ≤ 122 then some ((c ||| 32).toNat - 97 + 10) else none
def puGo (b : Nat) : List UInt8 → Nat → Option Nat
  | [], n => some n
  | c :: l, n => match dval c with
    | none => none
    | some d => if b ≤ d then none else if 18446744073709551616 ≤ n * b + d then none else puGo b l (n * b + d)
def pu (b : Nat) (s : List UInt8) : Option Nat := if s = [] then none else puGo b s 0
def cutoff (b : Nat) : Nat := if b = 10 then 1844674407370955162 else 1152921504606846976
theorem cut_of {b n d : Nat} (hb : b = 10 ∨ b = 16) (h : cutoff b ≤ n) : 18446744073709551616 ≤ n * b + d := by
  unfold cutoff at h
  rcases hb with rfl | rfl
  · simp at h; omega
  · simp at h; omega
theorem cut_ok {b n : Nat} (hb : b = 10 ∨ b = 16) (h : n < cutoff b) : n * b < 18446744073709551616 := by
  unfold cutoff at h
  rcases hb with rfl | rfl
  · simp at h; omega
  · simp at h; omega
theorem wrap_over {x d : Nat} (hx : x < 18446744073709551616) (hd : d < 16) (h : 18446744073709551616 ≤ x + d) : IntKind.u64.wrap ((x : Int) + (d : Int)) < (x : Int) := by
  simp only [IntKind.wrap, IntKind.signed, IntKind.bits]
  simp
  omega
theorem puGo_lt (b : Nat) : ∀ (l : List UInt8) (n v : Nat), n < 18446744073709551616 → puGo b l n = some v → v < 18446744073709551616
  | [], n, v, hn, h => by simp [puGo] at h; omega
  | c :: l, n, v, hn, h => by
    unfold puGo at h
    split at h
    · cases h
    · split at h
      · cases h
      · split at h
        · cases h
        · exact puGo_lt b l _ v (by omega) h
set_option maxHeartbeats 2000000 in
set_option maxRecDepth 4000 in
theorem pui_ev [MaxL] (b : Nat) (hb : b = 10 ∨ b = 16) (s : List UInt8) (hs : s.length < 4611686018427387904) :
    (∃ n, pu b s = some n ∧ call cx 36 [.str s, .int .i64 b, .int .i64 64] [] = some (.tup [.int .u64 n, .nili], [])) ∨
    (pu b s = none ∧ ∃ (x : Nat) (c : Int), (c = 1 ∨ c = 2) ∧ call cx 36 [.str s, .int .i64 b, .int .i64 64] [] = some (.tup [.int .u64 x, .iface 81 (.int .i64 c)], [])) := by
  suffices h : ∃ r, call cx 36 [.str s, .int .i64 b, .int .i64 64] [] = some r ∧ ((∃ n, pu b s = some n ∧ r = (.tup [.int .u64 n, .nili], [])) ∨ (pu b s = none ∧ ∃ (x : Nat) (c : Int), (c = 1 ∨ c = 2) ∧ r = (.tup [.int .u64 x, .iface 81 (.int .i64 c)], []))) by
    obtain ⟨r, h1, ⟨n, h2, rfl⟩ | ⟨h2, x, c, h3, rfl⟩⟩ := h
    · exact .inl ⟨n, h2, h1⟩
    · exact .inr ⟨h2, x, c, h3, h1⟩
  refine call_runE (fun r => (∃ n : Nat, pu b s = some n ∧ r = (D.tup [.int .u64 n, .nili], [])) ∨ (pu b s = none ∧ ∃ (x : Nat) (c : Int), (c = 1 ∨ c = 2) ∧ r = (D.tup [.int .u64 x, .iface 81 (.int .i64 c)], []))) Tryd.func36 rfl ⟨rfl, rfl⟩ ?_
  by_cases h0 : s = []
  · subst h0
    simp [Tryd.f36, pu]
    exact ⟨0, rfl⟩
  · have hpos : s.length ≠ 0 := by simpa using h0
    have hc2 : (2 : Int) ≤ (b : Int) := by omega
    have hc36 : (b : Int) ≤ 36 := by omega
    have hbz : ¬ (b : Int) = 0 := by omega
    have hmx : IntKind.u64.wrap (IntKind.u64.wrap (2 ^ min 64 IntKind.u64.bits) - 1) = 18446744073709551615 := by decide
    have hpu : pu b s = puGo b s 0 := by rw [pu, if_neg h0]
    rcases hb with rfl | rfl
    · simp [Tryd.f36, h0, hmx]
      refine Run.loopThen (fun (z : Nat × Nat) e H' => z.1 ≤ s.length ∧ z.2 < 18446744073709551616 ∧ puGo 10 (s.drop z.1) z.2 = puGo 10 s 0 ∧ H' = [some (ofBytes s)] ∧ look e 1 = some (.int .i64 10) ∧ look e 8 = some (.bool false) ∧ look e 9 = some (.str s) ∧ look e 10 = some (.int .u64 1844674407370955162) ∧ look e 11 = some (.int .u64 18446744073709551615) ∧ look e 12 = some (.bool false) ∧ look e 13 = some (.int .u64 (z.2 : Nat)) ∧ look e 99 = some (.osl 0 s.length 0 s.length 1) ∧ look e 100 = some (.int .i64 s.length) ∧ look e 101 = some (.int .i64 (z.1 : Nat))) (fun z => s.length - z.1) (0, 0) (by simp) ?_
      rintro ⟨i, n⟩ e H' ⟨hi, hn, hp, rfl, h1, h8, h9, h10, h11, h12, h13, h99, h100, h101⟩
      simp only at hi hn hp h13 h101
      by_cases hlt : i < s.length
      · have hlt' : (i : Int) < (s.length : Int) := by omega
        have hw : IntKind.i64.wrap ((i : Int) + 1) = ((i + 1 : Nat) : Int) := by rw [wrap_i64] <;> omega
        have hc := lower_ev s[i]
        have hclt := s[i].toNat_lt
        rw [List.drop_eq_getElem_cons hlt, puGo] at hp
        unfold dval at hp
        by_cases hd : 48 ≤ s[i].toNat ∧ s[i].toNat ≤ 57
        · rw [if_pos hd] at hp
          have g1 : (48 : Int) ≤ (s[i].toNat : Int) := by omega
          have g2 : (s[i].toNat : Int) ≤ 57 := by omega
          have g3 : ¬ (s[i].toNat : Int) = 95 := by omega
          obtain ⟨d, hdd⟩ : ∃ d, d = s[i].toNat - 48 := ⟨_, rfl⟩
          have dw : IntKind.u8.wrap ((s[i].toNat : Int) - 48) = (d : Int) := by rw [wrap_u8] <;> omega
          rw [← hdd] at hp
          simp only at hp
          have hd16 : d < 16 := by omega
          have wd : IntKind.u64.wrap (d : Int) = (d : Int) := by rw [wrap_u64]; omega
          by_cases hbd : 10 ≤ d
          · have hbd' : (10 : Int) ≤ (d : Int) := by omega
            rw [if_pos hbd] at hp
            simp [h1, h8, h9, h10, h11, h12, h13, h99, h100, h101, hlt', ofBytes_at hlt, g1, g2, g3, dw, hbd']
            exact ⟨by rw [hpu]; exact hp.symm, 0, rfl⟩
          · have hbd' : ¬ (10 : Int) ≤ (d : Int) := by omega
            rw [if_neg hbd] at hp
            by_cases hcut : 1844674407370955162 ≤ n
            · have hcut' : (1844674407370955162 : Int) ≤ (n : Int) := by omega
              rw [if_pos (by omega)] at hp
              simp [h1, h8, h9, h10, h11, h12, h13, h99, h100, h101, hlt', ofBytes_at hlt, g1, g2, g3, dw, hbd', hcut']
              exact ⟨by rw [hpu]; exact hp.symm, 18446744073709551615, rfl⟩
            · have hcut' : ¬ (1844674407370955162 : Int) ≤ (n : Int) := by omega
              obtain ⟨m, hm⟩ : ∃ m, m = n * 10 := ⟨_, rfl⟩
              have hm64 : m < 18446744073709551616 := by omega
              have wm : IntKind.u64.wrap ((n : Int) * 10) = (m : Int) := by rw [wrap_u64] <;> omega
              rw [← hm] at hp
              by_cases hov : 18446744073709551616 ≤ m + d
              · rw [if_pos hov] at hp
                have hx := wrap_over hm64 (by omega) hov
                generalize hX : IntKind.u64.wrap ((m : Int) + (d : Int)) = X at hx
                simp [h1, h8, h9, h10, h11, h12, h13, h99, h100, h101, hlt', ofBytes_at hlt, g1, g2, g3, dw, hbd', hcut', wd, wm, hX, hx]
                exact ⟨by rw [hpu]; exact hp.symm, 18446744073709551615, rfl⟩
              · rw [if_neg hov] at hp
                obtain ⟨q, hq⟩ : ∃ q, q = m + d := ⟨_, rfl⟩
                have wq : IntKind.u64.wrap ((m : Int) + (d : Int)) = (q : Int) := by rw [wrap_u64] <;> omega
                have hx1 : ¬ (q : Int) < (m : Int) := by omega
                have hx2 : ¬ (18446744073709551615 : Int) < (q : Int) := by omega
                rw [← hq] at hp
                simp [h1, h8, h9, h10, h11, h12, h13, h99, h100, h101, hlt', ofBytes_at hlt, g1, g2, g3, dw, hbd', hcut', wd, wm, wq, hx1, hx2, hw]
                exact ⟨i + 1, by omega, by omega, q, by omega, hp, rfl, by simp⟩
        · rw [if_neg hd] at hp
          by_cases h48 : s[i].toNat < 48
          · have lw := low_lt h48
            rw [if_neg (by omega)] at hp
            have g1 : ¬ (48 : Int) ≤ (s[i].toNat : Int) := by omega
            have g3 : ¬ (s[i].toNat : Int) = 95 := by omega
            have f1 : ¬ (97 : Int) ≤ ((s[i] ||| 32).toNat : Int) := by omega
            generalize (s[i] ||| 32).toNat = lc at *
            simp only at hp
            simp [h1, h8, h9, h10, h11, h12, h13, h99, h100, h101, hlt', ofBytes_at hlt, g1, g3, hc, f1]
            exact ⟨by rw [hpu]; exact hp.symm, 0, rfl⟩
          · have g1 : (48 : Int) ≤ (s[i].toNat : Int) := by omega
            have g2 : ¬ (s[i].toNat : Int) ≤ 57 := by omega
            by_cases g95 : s[i].toNat = 95
            · have lw := low_95 g95
              rw [if_neg (by omega)] at hp
              have g3 : (s[i].toNat : Int) = 95 := by omega
              have f1 : (97 : Int) ≤ ((s[i] ||| 32).toNat : Int) := by omega
              have f2 : ¬ ((s[i] ||| 32).toNat : Int) ≤ 122 := by omega
              generalize (s[i] ||| 32).toNat = lc at *
              rw [g3] at hc
              simp only at hp
              simp [h1, h8, h9, h10, h11, h12, h13, h99, h100, h101, hlt', ofBytes_at hlt, g3, hc, f1, f2]
              exact ⟨by rw [hpu]; exact hp.symm, 0, rfl⟩
            · have g3 : ¬ (s[i].toNat : Int) = 95 := by omega
              have lw256 := (s[i] ||| 32).toNat_lt
              generalize (s[i] ||| 32).toNat = lc at *
              by_cases f : 97 ≤ lc ∧ lc ≤ 122
              · rw [if_pos f] at hp
                have f1 : (97 : Int) ≤ (lc : Int) := by omega
                have f2 : (lc : Int) ≤ 122 := by omega
                obtain ⟨d0, hd0⟩ : ∃ d, d = lc - 97 := ⟨_, rfl⟩
                obtain ⟨d, hdd⟩ : ∃ d, d = d0 + 10 := ⟨_, rfl⟩
                have dw1 : IntKind.u8.wrap ((lc : Int) - 97) = (d0 : Int) := by rw [wrap_u8] <;> omega
                have dw2 : IntKind.u8.wrap ((d0 : Int) + 10) = (d : Int) := by rw [wrap_u8] <;> omega
                rw [← hd0, ← hdd] at hp
                simp only at hp
                have hd16 : d < 36 := by omega
                have wd : IntKind.u64.wrap (d : Int) = (d : Int) := by rw [wrap_u64]; omega
                by_cases hbd : 10 ≤ d
                · have hbd' : (10 : Int) ≤ (d : Int) := by omega
                  rw [if_pos hbd] at hp
                  simp [h1, h8, h9, h10, h11, h12, h13, h99, h100, h101, hlt', ofBytes_at hlt, g1, g2, g3, hc, f1, f2, dw1, dw2, hbd']
                  exact ⟨by rw [hpu]; exact hp.symm, 0, rfl⟩
                · have hbd' : ¬ (10 : Int) ≤ (d : Int) := by omega
                  rw [if_neg hbd] at hp
                  by_cases hcut : 1844674407370955162 ≤ n
                  · have hcut' : (1844674407370955162 : Int) ≤ (n : Int) := by omega
                    rw [if_pos (by omega)] at hp
                    simp [h1, h8, h9, h10, h11, h12, h13, h99, h100, h101, hlt', ofBytes_at hlt, g1, g2, g3, hc, f1, f2, dw1, dw2, hbd', hcut']
                    exact ⟨by rw [hpu]; exact hp.symm, 18446744073709551615, rfl⟩
                  · have hcut' : ¬ (1844674407370955162 : Int) ≤ (n : Int) := by omega
                    obtain ⟨m, hm⟩ : ∃ m, m = n * 10 := ⟨_, rfl⟩
                    have hm64 : m < 18446744073709551616 := by omega
                    have wm : IntKind.u64.wrap ((n : Int) * 10) = (m : Int) := by rw [wrap_u64] <;> omega
                    rw [← hm] at hp
                    by_cases hov : 18446744073709551616 ≤ m + d
                    · rw [if_pos hov] at hp
                      have hx := wrap_over hm64 (by omega) hov
                      generalize hX : IntKind.u64.wrap ((m : Int) + (d : Int)) = X at hx
                      simp [h1, h8, h9, h10, h11, h12, h13, h99, h100, h101, hlt', ofBytes_at hlt, g1, g2, g3, hc, f1, f2, dw1, dw2, hbd', hcut', wd, wm, hX, hx]
                      exact ⟨by rw [hpu]; exact hp.symm, 18446744073709551615, rfl⟩
                    · rw [if_neg hov] at hp
                      obtain ⟨q, hq⟩ : ∃ q, q = m + d := ⟨_, rfl⟩
                      have wq : IntKind.u64.wrap ((m : Int) + (d : Int)) = (q : Int) := by rw [wrap_u64] <;> omega
                      have hx1 : ¬ (q : Int) < (m : Int) := by omega
                      have hx2 : ¬ (18446744073709551615 : Int) < (q : Int) := by omega
                      rw [← hq] at hp
                      simp [h1, h8, h9, h10, h11, h12, h13, h99, h100, h101, hlt', ofBytes_at hlt, g1, g2, g3, hc, f1, f2, dw1, dw2, hbd', hcut', wd, wm, wq, hx1, hx2, hw]
                      exact ⟨i + 1, by omega, by omega, q, by omega, hp, rfl, by simp⟩
              · rw [if_neg f] at hp
                by_cases f3 : 97 ≤ lc
                · have f1 : (97 : Int) ≤ (lc : Int) := by omega
                  have f2 : ¬ (lc : Int) ≤ 122 := by omega
                  simp only at hp
                  simp [h1, h8, h9, h10, h11, h12, h13, h99, h100, h101, hlt', ofBytes_at hlt, g1, g2, g3, hc, f1, f2]
                  exact ⟨by rw [hpu]; exact hp.symm, 0, rfl⟩
                · have f1 : ¬ (97 : Int) ≤ (lc : Int) := by omega
                  simp only at hp
                  simp [h1, h8, h9, h10, h11, h12, h13, h99, h100, h101, hlt', ofBytes_at hlt, g1, g2, g3, hc, f1]
                  exact ⟨by rw [hpu]; exact hp.symm, 0, rfl⟩
      · have hlt' : ¬ (i : Int) < (s.length : Int) := by omega
        rw [List.drop_eq_nil_of_le (by omega), puGo] at hp
        simp [h1, h8, h9, h10, h11, h12, h13, h99, h100, h101, hlt']
        exact ⟨n, by rw [hpu]; exact hp.symm, rfl⟩
    · simp [Tryd.f36, h0, hmx]
      refine Run.loopThen (fun (z : Nat × Nat) e H' => z.1 ≤ s.length ∧ z.2 < 18446744073709551616 ∧ puGo 16 (s.drop z.1) z.2 = puGo 16 s 0 ∧ H' = [some (ofBytes s)] ∧ look e 1 = some (.int .i64 16) ∧ look e 8 = some (.bool false) ∧ look e 9 = some (.str s) ∧ look e 10 = some (.int .u64 1152921504606846976) ∧ look e 11 = some (.int .u64 18446744073709551615) ∧ look e 12 = some (.bool false) ∧ look e 13 = some (.int .u64 (z.2 : Nat)) ∧ look e 99 = some (.osl 0 s.length 0 s.length 1) ∧ look e 100 = some (.int .i64 s.length) ∧ look e 101 = some (.int .i64 (z.1 : Nat))) (fun z => s.length - z.1) (0, 0) (by simp) ?_
      rintro ⟨i, n⟩ e H' ⟨hi, hn, hp, rfl, h1, h8, h9, h10, h11, h12, h13, h99, h100, h101⟩
      simp only at hi hn hp h13 h101
      by_cases hlt : i < s.length
      · have hlt' : (i : Int) < (s.length : Int) := by omega
        have hw : IntKind.i64.wrap ((i : Int) + 1) = ((i + 1 : Nat) : Int) := by rw [wrap_i64] <;> omega
        have hc := lower_ev s[i]
        have hclt := s[i].toNat_lt
        rw [List.drop_eq_getElem_cons hlt, puGo] at hp
        unfold dval at hp
        by_cases hd : 48 ≤ s[i].toNat ∧ s[i].toNat ≤ 57
        · rw [if_pos hd] at hp
          have g1 : (48 : Int) ≤ (s[i].toNat : Int) := by omega
          have g2 : (s[i].toNat : Int) ≤ 57 := by omega
          have g3 : ¬ (s[i].toNat : Int) = 95 := by omega
          obtain ⟨d, hdd⟩ : ∃ d, d = s[i].toNat - 48 := ⟨_, rfl⟩
          have dw : IntKind.u8.wrap ((s[i].toNat : Int) - 48) = (d : Int) := by rw [wrap_u8] <;> omega
          rw [← hdd] at hp
          simp only at hp
          have hd16 : d < 16 := by omega
          have wd : IntKind.u64.wrap (d : Int) = (d : Int) := by rw [wrap_u64]; omega
          by_cases hbd : 16 ≤ d
          · have hbd' : (16 : Int) ≤ (d : Int) := by omega
            rw [if_pos hbd] at hp
            simp [h1, h8, h9, h10, h11, h12, h13, h99, h100, h101, hlt', ofBytes_at hlt, g1, g2, g3, dw, hbd']
            exact ⟨by rw [hpu]; exact hp.symm, 0, rfl⟩
          · have hbd' : ¬ (16 : Int) ≤ (d : Int) := by omega
            rw [if_neg hbd] at hp
            by_cases hcut : 1152921504606846976 ≤ n
            · have hcut' : (1152921504606846976 : Int) ≤ (n : Int) := by omega
              rw [if_pos (by omega)] at hp
              simp [h1, h8, h9, h10, h11, h12, h13, h99, h100, h101, hlt', ofBytes_at hlt, g1, g2, g3, dw, hbd', hcut']
              exact ⟨by rw [hpu]; exact hp.symm, 18446744073709551615, rfl⟩
            · have hcut' : ¬ (1152921504606846976 : Int) ≤ (n : Int) := by omega
              obtain ⟨m, hm⟩ : ∃ m, m = n * 16 := ⟨_, rfl⟩
              have hm64 : m < 18446744073709551616 := by omega
              have wm : IntKind.u64.wrap ((n : Int) * 16) = (m : Int) := by rw [wrap_u64] <;> omega
              rw [← hm] at hp
              by_cases hov : 18446744073709551616 ≤ m + d
              · rw [if_pos hov] at hp
                have hx := wrap_over hm64 (by omega) hov
                generalize hX : IntKind.u64.wrap ((m : Int) + (d : Int)) = X at hx
                simp [h1, h8, h9, h10, h11, h12, h13, h99, h100, h101, hlt', ofBytes_at hlt, g1, g2, g3, dw, hbd', hcut', wd, wm, hX, hx]
                exact ⟨by rw [hpu]; exact hp.symm, 18446744073709551615, rfl⟩
              · rw [if_neg hov] at hp
                obtain ⟨q, hq⟩ : ∃ q, q = m + d := ⟨_, rfl⟩
                have wq : IntKind.u64.wrap ((m : Int) + (d : Int)) = (q : Int) := by rw [wrap_u64] <;> omega
                have hx1 : ¬ (q : Int) < (m : Int) := by omega
                have hx2 : ¬ (18446744073709551615 : Int) < (q : Int) := by omega
                rw [← hq] at hp
                simp [h1, h8, h9, h10, h11, h12, h13, h99, h100, h101, hlt', ofBytes_at hlt, g1, g2, g3, dw, hbd', hcut', wd, wm, wq, hx1, hx2, hw]
                exact ⟨i + 1, by omega, by omega, q, by omega, hp, rfl, by simp⟩
        · rw [if_neg hd] at hp
          by_cases h48 : s[i].toNat < 48
          · have lw := low_lt h48
            rw [if_neg (by omega)] at hp
            have g1 : ¬ (48 : Int) ≤ (s[i].toNat : Int) := by omega
            have g3 : ¬ (s[i].toNat : Int) = 95 := by omega
            have f1 : ¬ (97 : Int) ≤ ((s[i] ||| 32).toNat : Int) := by omega
            generalize (s[i] ||| 32).toNat = lc at *
            simp only at hp
            simp [h1, h8, h9, h10, h11, h12, h13, h99, h100, h101, hlt', ofBytes_at hlt, g1, g3, hc, f1]
            exact ⟨by rw [hpu]; exact hp.symm, 0, rfl⟩
          · have g1 : (48 : Int) ≤ (s[i].toNat : Int) := by omega
            have g2 : ¬ (s[i].toNat : Int) ≤ 57 := by omega
            by_cases g95 : s[i].toNat = 95
            · have lw := low_95 g95
              rw [if_neg (by omega)] at hp
              have g3 : (s[i].toNat : Int) = 95 := by omega
              have f1 : (97 : Int) ≤ ((s[i] ||| 32).toNat : Int) := by omega
              have f2 : ¬ ((s[i] ||| 32).toNat : Int) ≤ 122 := by omega
              generalize (s[i] ||| 32).toNat = lc at *
              rw [g3] at hc
              simp only at hp
              simp [h1, h8, h9, h10, h11, h12, h13, h99, h100, h101, hlt', ofBytes_at hlt, g3, hc, f1, f2]
              exact ⟨by rw [hpu]; exact hp.symm, 0, rfl⟩
            · have g3 : ¬ (s[i].toNat : Int) = 95 := by omega
              have lw256 := (s[i] ||| 32).toNat_lt
              generalize (s[i] ||| 32).toNat = lc at *
              by_cases f : 97 ≤ lc ∧ lc ≤ 122
              · rw [if_pos f] at hp
                have f1 : (97 : Int) ≤ (lc : Int) := by omega
                have f2 : (lc : Int) ≤ 122 := by omega
                obtain ⟨d0, hd0⟩ : ∃ d, d = lc - 97 := ⟨_, rfl⟩
                obtain ⟨d, hdd⟩ : ∃ d, d = d0 + 10 := ⟨_, rfl⟩
                have dw1 : IntKind.u8.wrap ((lc : Int) - 97) = (d0 : Int) := by rw [wrap_u8] <;> omega
                have dw2 : IntKind.u8.wrap ((d0 : Int) + 10) = (d : Int) := by rw [wrap_u8] <;> omega
                rw [← hd0, ← hdd] at hp
                simp only at hp
                have hd16 : d < 36 := by omega
                have wd : IntKind.u64.wrap (d : Int) = (d : Int) := by rw [wrap_u64]; omega
                by_cases hbd : 16 ≤ d
                · have hbd' : (16 : Int) ≤ (d : Int) := by omega
                  rw [if_pos hbd] at hp
                  simp [h1, h8, h9, h10, h11, h12, h13, h99, h100, h101, hlt', ofBytes_at hlt, g1, g2, g3, hc, f1, f2, dw1, dw2, hbd']
                  exact ⟨by rw [hpu]; exact hp.symm, 0, rfl⟩
                · have hbd' : ¬ (16 : Int) ≤ (d : Int) := by omega
                  rw [if_neg hbd] at hp
                  by_cases hcut : 1152921504606846976 ≤ n
                  · have hcut' : (1152921504606846976 : Int) ≤ (n : Int) := by omega
                    rw [if_pos (by omega)] at hp
                    simp [h1, h8, h9, h10, h11, h12, h13, h99, h100, h101, hlt', ofBytes_at hlt, g1, g2, g3, hc, f1, f2, dw1, dw2, hbd', hcut']
                    exact ⟨by rw [hpu]; exact hp.symm, 18446744073709551615, rfl⟩
                  · have hcut' : ¬ (1152921504606846976 : Int) ≤ (n : Int) := by omega
                    obtain ⟨m, hm⟩ : ∃ m, m = n * 16 := ⟨_, rfl⟩
                    have hm64 : m < 18446744073709551616 := by omega
                    have wm : IntKind.u64.wrap ((n : Int) * 16) = (m : Int) := by rw [wrap_u64] <;> omega
                    rw [← hm] at hp
                    by_cases hov : 18446744073709551616 ≤ m + d
                    · rw [if_pos hov] at hp
                      have hx := wrap_over hm64 (by omega) hov
                      generalize hX : IntKind.u64.wrap ((m : Int) + (d : Int)) = X at hx
                      simp [h1, h8, h9, h10, h11, h12, h13, h99, h100, h101, hlt', ofBytes_at hlt, g1, g2, g3, hc, f1, f2, dw1, dw2, hbd', hcut', wd, wm, hX, hx]
                      exact ⟨by rw [hpu]; exact hp.symm, 18446744073709551615, rfl⟩
                    · rw [if_neg hov] at hp
                      obtain ⟨q, hq⟩ : ∃ q, q = m + d := ⟨_, rfl⟩
                      have wq : IntKind.u64.wrap ((m : Int) + (d : Int)) = (q : Int) := by rw [wrap_u64] <;> omega
                      have hx1 : ¬ (q : Int) < (m : Int) := by omega
                      have hx2 : ¬ (18446744073709551615 : Int) < (q : Int) := by omega
                      rw [← hq] at hp
                      simp [h1, h8, h9, h10, h11, h12, h13, h99, h100, h101, hlt', ofBytes_at hlt, g1, g2, g3, hc, f1, f2, dw1, dw2, hbd', hcut', wd, wm, wq, hx1, hx2, hw]
                      exact ⟨i + 1, by omega, by omega, q, by omega, hp, rfl, by simp⟩
              · rw [if_neg f] at hp
                by_cases f3 : 97 ≤ lc
                · have f1 : (97 : Int) ≤ (lc : Int) := by omega
                  have f2 : ¬ (lc : Int) ≤ 122 := by omega
                  simp only at hp
                  simp [h1, h8, h9, h10, h11, h12, h13, h99, h100, h101, hlt', ofBytes_at hlt, g1, g2, g3, hc, f1, f2]
                  exact ⟨by rw [hpu]; exact hp.symm, 0, rfl⟩
                · have f1 : ¬ (97 : Int) ≤ (lc : Int) := by omega
                  simp only at hp
                  simp [h1, h8, h9, h10, h11, h12, h13, h99, h100, h101, hlt', ofBytes_at hlt, g1, g2, g3, hc, f1]
                  exact ⟨by rw [hpu]; exact hp.symm, 0, rfl⟩
      · have hlt' : ¬ (i : Int) < (s.length : Int) := by omega
        rw [List.drop_eq_nil_of_le (by omega), puGo] at hp
        simp [h1, h8, h9, h10, h11, h12, h13, h99, h100, h101, hlt']
        exact ⟨n, by rw [hpu]; exact hp.symm, rfl⟩
end Go.Ev.S
/- Numbers that texts are: the errors. -/
namespace Go.Ev.S
open Go Go.Proofs Go.Ev
theorem clone_ev [MaxL] (s : List UInt8) (h : s.length ≤ 281474976710656) : call cx 68 [.str s] [] = some (.str s, []) := by
  refine call_con ?_
  rw [co68, conClone, if_pos h]
theorem syntax_ev [MaxL] (f s : List UInt8) (h : s.length ≤ 281474976710656) : ∃ d, call cx 53 [.str f, .str s] [] = some (.vptr d, []) := by
  have hc := clone_ev s h
  suffices hh : ∃ r, call cx 53 [.str f, .str s] [] = some r ∧ ∃ d, r = (.vptr d, []) by
    obtain ⟨r, h1, d, rfl⟩ := hh
    exact ⟨d, h1⟩
  refine call_runE (fun r => ∃ d, r = (D.vptr d, [])) Tryd.func53 rfl ⟨rfl, rfl⟩ ?_
  simp [Tryd.f53, hc]
theorem range_ev [MaxL] (f s : List UInt8) (h : s.length ≤ 281474976710656) : ∃ d, call cx 54 [.str f, .str s] [] = some (.vptr d, []) := by
  have hc := clone_ev s h
  suffices hh : ∃ r, call cx 54 [.str f, .str s] [] = some r ∧ ∃ d, r = (.vptr d, []) by
    obtain ⟨r, h1, d, rfl⟩ := hh
    exact ⟨d, h1⟩
  refine call_runE (fun r => ∃ d, r = (D.vptr d, [])) Tryd.func54 rfl ⟨rfl, rfl⟩ ?_
  simp [Tryd.f54, hc]
theorem toerr_ev [MaxL] (f s : List UInt8) (h : s.length ≤ 281474976710656) (b c : Int) (hc : c = 1 ∨ c = 2) : ∃ d, call cx 37 [.str f, .str s, .int .i64 b, .int .i64 64, .iface 81 (.int .i64 c)] [] = some (.iface 84 (.vptr d), []) := by
  obtain ⟨d1, h1⟩ := syntax_ev f s h
  obtain ⟨d2, h2⟩ := range_ev f s h
  suffices hh : ∃ r, call cx 37 [.str f, .str s, .int .i64 b, .int .i64 64, .iface 81 (.int .i64 c)] [] = some r ∧ ∃ d, r = (.iface 84 (.vptr d), []) by
    obtain ⟨r, h1, d, rfl⟩ := hh
    exact ⟨d, h1⟩
  refine call_runE (fun r => ∃ d, r = (D.iface 84 (.vptr d), [])) Tryd.func37 rfl ⟨rfl, rfl⟩ ?_
  rcases hc with rfl | rfl
  · simp [Tryd.f37, h2]
  · simp [Tryd.f37, h1]
/-- ParseUint: the number, or an error. -/
theorem pu_ev [MaxL] (b : Nat) (hb : b = 10 ∨ b = 16) (s : List UInt8) (hs : s.length ≤ 281474976710656) :
    (∃ n, pu b s = some n ∧ call cx 23 [.str s, .int .i64 b, .int .i64 64] [] = some (.tup [.int .u64 n, .nili], [])) ∨
    (pu b s = none ∧ ∃ (x : Nat) (d : List D), call cx 23 [.str s, .int .i64 b, .int .i64 64] [] = some (.tup [.int .u64 x, .iface 84 (.vptr d)], [])) := by
  rcases pui_ev b hb s (by omega) with ⟨n, h1, h2⟩ | ⟨h1, x, c, hc, h2⟩
  · refine .inl ⟨n, h1, ?_⟩
    refine call_run Tryd.func23 rfl ⟨rfl, rfl⟩ ?_
    simp [Tryd.f23, h2]
  · obtain ⟨d, hd⟩ := toerr_ev [80, 97, 114, 115, 101, 85, 105, 110, 116] s hs b c hc
    refine .inr ⟨h1, x, d, ?_⟩
    refine call_run Tryd.func23 rfl ⟨rfl, rfl⟩ ?_
    simp [Tryd.f23, h2, hd]
end Go.Ev.S
/- A name, a number as digits. -/
namespace Go.Ev.S
open Go Go.Proofs Go.Ev
theorem hexs_take {l : List UInt8} {k : Nat} (h : k < l.length) : hexs (l.take (k + 1)) = hexs (l.take k) ++ [hexc (l[k].toNat / 16), hexc (l[k].toNat % 16)] := by
  rw [List.take_succ_eq_append_getElem h, hexs_append]
  rfl
set_option maxHeartbeats 2000000 in
theorem hex_ev [MaxL] (l : List UInt8) (hl : l.length = 16) : call cx 8 [.agg (ofBytes l)] [] = some (.str (hexs l), []) := by
  refine call_run Tryd.func8 rfl ⟨rfl, rfl⟩ ?_
  have ht : List.take 16 (ofBytes l) = ofBytes l := List.take_of_length_le (by simp; omega)
  have hl2 : 16 ≤ l.length := by omega
  simp [Tryd.f8, ht, hl2]
  refine Run.loopThen (fun (k : Nat) e H' => k ≤ 16 ∧ look e 6 = some (.agg (ofBytes l)) ∧ look e 7 = some (.int .i64 k) ∧
      ((k = 0 ∧ look e 3 = some (.vsl true [] 0) ∧ H' = [some (ofBytes l)]) ∨
       (∃ w, look e 3 = some (.osl 1 (hexs (l.take k)).length 0 (hexs (l.take k)).length 1) ∧ H' = [w, some (ofBytes (hexs (l.take k)))]) ∨
       (∃ w, look e 3 = some (.osl 0 (hexs (l.take k)).length 0 (hexs (l.take k)).length 1) ∧ H' = [some (ofBytes (hexs (l.take k))), w]))) (fun k => 16 - k) 0 ?_ ?_
  · simp
  rintro k e H' ⟨hk, k6, k7, hH⟩
  by_cases hlt : k < 16
  · have hlt' : (k : Int) < 16 := by omega
    have hkl : k < l.length := by omega
    have hw : IntKind.i64.wrap ((k : Int) + 1) = ((k + 1 : Nat) : Int) := by rw [wrap_i64] <;> omega
    have hat := ofBytes_at hkl
    have hsn := hexs_take hkl
    have hb := l[k].toNat_lt
    have ha := and15_u8 l[k]
    have hp4 : (2 : Int) ^ min 4 IntKind.u8.bits = 16 := by decide
    have hf := fdiv16 l[k].toNat
    have d1 := digL_at (l[k].toNat / 16) (by omega)
    have d2 := digL_at (l[k].toNat % 16) (by omega)
    simp only [digL] at d1 d2
    have hget : (ofBytes l)[k]? = some (.int .u8 l[k].toNat) := by
      rw [List.getElem?_eq_getElem (by simpa using hkl), ofBytes_get]
    have hlen : (hexs (l.take k)).length = 2 * k := by rw [hexs_len, List.length_take]; omega
    generalize l[k] = b at *
    generalize hexc (b.toNat / 16) = c1 at *
    generalize hexc (b.toNat % 16) = c2 at *
    obtain ⟨m1, hm1⟩ : ∃ m, m = b.toNat / 16 := ⟨_, rfl⟩
    obtain ⟨m2, hm2⟩ : ∃ m, m = b.toNat % 16 := ⟨_, rfl⟩
    rw [← hm1] at hf d1
    rw [← hm2] at ha d2
    have hXl : (hexs (l.take (k + 1))).length = (hexs (l.take k)).length + 2 := by rw [hsn]; simp
    have hap : ofBytes (hexs (l.take k)) ++ [.int .u8 c1.toNat, .int .u8 c2.toNat] = ofBytes (hexs (l.take (k + 1))) := by rw [hsn]; simp [ofBytes]
    have hmx : (hexs (l.take k)).length + 2 ≤ maxBytes := Nat.le_trans (show _ ≤ 100 by omega) (by decide)
    rcases hH with ⟨rfl, k3, rfl⟩ | ⟨w, k3, rfl⟩ | ⟨w, k3, rfl⟩
    · simp at hap hXl
      have hm2 : 2 ≤ maxBytes := by decide
      simp [k3, k6, k7, hget, ha, hp4, hf, d1, d2, hm2]
      exact ⟨1, by omega, by omega, by simp, by rw [hXl]; simp [hexs], by rw [← hap]; simp [hexs, ofBytes]⟩
    · generalize hexs (l.take k) = X at *
      simp [k3, k6, k7, hlt', hw, hget, ha, hp4, hf, d1, d2, hap, hmx]
      exact ⟨k + 1, by omega, by omega, by simp, by rw [hXl], rfl⟩
    · generalize hexs (l.take k) = X at *
      simp [k3, k6, k7, hlt', hw, hget, ha, hp4, hf, d1, d2, hap, hmx]
      exact ⟨k + 1, by omega, by omega, by simp, by rw [hXl], rfl⟩
  · have hlt' : ¬ (k : Int) < 16 := by omega
    have hke : k = 16 := by omega
    subst hke
    have htk : l.take 16 = l := List.take_of_length_le (by omega)
    rw [htk] at hH
    rcases hH with ⟨h, _⟩ | ⟨w, k3, rfl⟩ | ⟨w, k3, rfl⟩
    · omega
    · simp [k3, k6, k7]
    · simp [k3, k6, k7]
theorem idxb_ev [MaxL] (s : List UInt8) (c : UInt8) : call cx 22 [.str s, .int .u8 c.toNat] [] = some (.int .i64 (idxB c s 0), []) := by
  have h0 : call cx 50 [.str s, .int .u8 c.toNat] [] = some (.int .i64 (idxB c s 0), []) := by
    rw [call_ext (X := cx) (f := 50) rfl Tryd.func50 rfl, ex50]
    simp [idxBExt]
  have h1 : call cx 35 [.str s, .int .u8 c.toNat] [] = some (.int .i64 (idxB c s 0), []) := by
    refine call_run Tryd.func35 rfl ⟨rfl, rfl⟩ ?_
    simp [Tryd.f35, h0]
  refine call_run Tryd.func22 rfl ⟨rfl, rfl⟩ ?_
  simp [Tryd.f22, h1]
theorem zero16_of : ofBytes zero16 = [.int .u8 0, .int .u8 0, .int .u8 0, .int .u8 0, .int .u8 0, .int .u8 0, .int .u8 0, .int .u8 0, .int .u8 0, .int .u8 0, .int .u8 0, .int .u8 0, .int .u8 0, .int .u8 0, .int .u8 0, .int .u8 0] := rfl
theorem set_bytes (st : List UInt8) (j : Nat) (c : UInt8) (h : j < st.length) : setRange (ofBytes st) j [.int .u8 c.toNat] = ofBytes (st.set j c) := by
  unfold setRange ofBytes
  rw [List.set_eq_take_append_cons_drop, if_pos h]
  simp
set_option maxHeartbeats 2000000 in
theorem id_ev [MaxL] (s : List UInt8) (_ : s.length < 1000000) : call cx 14 [.str s] [] = some (.tup [.agg (ofBytes ((idP s).getD zero16)), .bool (idP s).isSome], []) := by
  refine call_run Tryd.func14 rfl ⟨rfl, rfl⟩ ?_
  have z16 := zero16_of
  have z16l : zero16.length = 16 := rfl
  have z16d : List.drop 16 (ofBytes zero16) = [] := rfl
  by_cases h32 : s.length = 32
  · have h32' : (s.length : Int) = 32 := by omega
    have hP : idP s = idGo s 0 zero16 := by unfold idP; rw [if_pos h32]
    rw [hP]
    simp [Tryd.f14, h32']
    rw [← z16]
    refine Run.loopThen (fun (q : Nat × List UInt8) e H' => q.1 ≤ 32 ∧ q.2.length = 16 ∧ idGo (s.drop q.1) q.1 q.2 = idGo s 0 zero16 ∧ H' = [some (ofBytes zero16), some (ofBytes q.2)] ∧ look e 0 = some (.str s) ∧ look e 2 = some (.optr 0 16 0) ∧ look e 4 = some (.optr 1 16 0) ∧
        look e 12 = some (.int .i64 32) ∧ look e 13 = some (.int .i64 (q.1 : Nat))) (fun q => 32 - q.1) (0, zero16) ?_ ?_
    · simp [zero16]
    rintro ⟨k, st⟩ e H' ⟨hk, hst, hgo, rfl, k0, k2, k4, k12, k13⟩
    simp only at hk hst hgo k13
    by_cases hlt : k < 32
    · have hlt' : (k : Int) < 32 := by omega
      have hks : k < s.length := by omega
      rw [List.drop_eq_getElem_cons hks, idGo] at hgo
      have hsk : s[k]? = some s[k] := List.getElem?_eq_getElem hks
      have hix := idxb_ev digL s[k]
      have hir := idx_range s[k] digL 0
      generalize s[k] = c at *
      simp only [digL] at hix
      have hw : IntKind.i64.wrap ((k : Int) + 1) = ((k + 1 : Nat) : Int) := by rw [wrap_i64] <;> omega
      rcases hir with hn | ⟨m, hm1, hm2⟩
      · rw [hn, if_pos (by omega)] at hgo
        simp only [digL] at hn
        rw [hn] at hix
        rw [← hgo]
        simp [k0, k2, k4, k12, k13, hlt', hsk, hix, ← z16, z16l, z16d]
      · rw [Nat.zero_add] at hm2
        have hm16 : m < 16 := hm1
        rw [hm2, if_neg (by omega)] at hgo
        simp only [digL] at hm2
        rw [hm2] at hix
        have hmn : ¬ (m : Int) < 0 := by omega
        have hmt : ((m : Nat) : Int).toNat = m := by omega
        rw [hmt] at hgo
        have hq : (k : Int).tdiv 2 = ((k / 2 : Nat) : Int) := (Int.ofNat_tdiv k 2).symm
        have hq2 : IntKind.i64.wrap ((k : Int) / 2) = ((k / 2 : Nat) : Int) := by rw [wrap_i64] <;> omega
        obtain ⟨j, hj⟩ : ∃ j, j = k / 2 := ⟨_, rfl⟩
        rw [← hj] at hgo hq hq2
        have hj16 : j < st.length := by omega
        have hj16' : (j : Int) < 16 := by omega
        have hat := ofBytes_at hj16
        have hgd : st.getD j 0 = st[j] := by rw [List.getD, List.getElem?_eq_getElem hj16]; rfl
        rw [hgd] at hgo
        have hwm : IntKind.u8.wrap (m : Int) = (m : Int) := by rw [wrap_u8] <;> omega
        have hor := shl4_u8 st[j] m hm16
        have hset := set_bytes st j (st[j] <<< 4 ||| UInt8.ofNat m) hj16
        generalize st[j] = b at *
        generalize hx : b <<< 4 ||| UInt8.ofNat m = x at *
        have hj1 : j + 1 ≤ st.length := by omega
        have hj15 : j ≤ 15 := by omega
        have hp8 : (2 : Int) ^ min 4 IntKind.u8.bits = 16 := by decide
        have hsl : (st.set j x).length = 16 := by simpa using hst
        generalize st.set j x = st' at *
        simp [-setRange_eq, k0, k2, k4, k12, k13, hlt', hsk, hix, hmn, hq2, hj16', hat, hwm, hor, hp8, hset, hst, hj15, hw]
        exact ⟨k + 1, by omega, by omega, st', hsl, hgo, rfl, by simp⟩
    · have hlt' : ¬ (k : Int) < 32 := by omega
      rw [List.drop_eq_nil_of_le (by omega), idGo] at hgo
      rw [← hgo]
      have hl16 : 16 ≤ st.length := by omega
      have ht : List.take 16 (ofBytes st) = ofBytes st := List.take_of_length_le (by simp; omega)
      simp [k0, k2, k4, k12, k13, hlt', ht, hst, z16l, z16d]
  · have h32' : ¬ (s.length : Int) = 32 := by omega
    have hP : idP s = none := by unfold idP; rw [if_neg h32]
    rw [hP]
    simp [Tryd.f14, h32', ← z16, z16l, z16d]
theorem repeat_ev [MaxL] (n : Nat) (h : n ≤ 16) : call cx 17 [.str [48], .int .i64 n] [] = some (.str (List.replicate n 48), []) := by
  refine call_con ?_
  have e : ∀ n, Lib.repeatL [48] n = List.replicate n (48 : UInt8) := by
    intro n
    induction n with
    | zero => rfl
    | succ n ih => rw [Lib.repeatL, ih]; rfl
  have hn : ((n : Nat) : Int).toNat = n := by omega
  rw [co17, conRepeat, if_pos ⟨by omega, by omega, by rw [hn]; simp; omega⟩, hn, e]
theorem fixed_ev [MaxL] (v : Nat) (hv : v < 18446744073709551616) : call cx 9 [.int .u64 v] [] = some (.str (fixed v), []) := by
  have h1 := fu16_ev v hv
  have h2 := hx_len v
  have h3 := repeat_ev (16 - (hx v).length) (by omega)
  have hw : IntKind.i64.wrap (16 - ((hx v).length : Int)) = ((16 - (hx v).length : Nat) : Int) := by rw [wrap_i64] <;> omega
  have hz : (16 - (hx v).length) + (hx v).length ≤ 4611686018427387904 := by omega
  refine call_run Tryd.func9 rfl ⟨rfl, rfl⟩ ?_
  unfold fixed
  generalize hx v = x at *
  generalize 16 - x.length = n at *
  simp [Tryd.f9, h1, h3, hw, hz]
/-- The number that sixteen digits are. -/
def numF (s : List UInt8) : Option Nat := match pu 16 s with
  | none => none
  | some v => if fixed v = s then some v else none
theorem pu16_lt {s : List UInt8} {v : Nat} (h : pu 16 s = some v) : v < 18446744073709551616 := by
  unfold pu at h
  split at h
  · cases h
  · exact puGo_lt 16 _ _ _ (by decide) h
theorem number16_ev [MaxL] (s : List UInt8) (hs : s.length < 1000000) : call cx 15 [.str s] [] = some (.tup [.int .u64 ((numF s).getD 0 : Nat), .bool (numF s).isSome], []) := by
  refine call_run Tryd.func15 rfl ⟨rfl, rfl⟩ ?_
  unfold numF
  rcases pu_ev 16 (.inr rfl) s (by omega) with ⟨v, e1, e2⟩ | ⟨e1, x, d, e2⟩
  · replace e2 : call cx 23 [.str s, .int .i64 16, .int .i64 64] [] = some (.tup [.int .u64 v, .nili], []) := e2
    rw [e1]
    simp only
    have h := fixed_ev v (pu16_lt e1)
    by_cases he : fixed v = s
    · rw [if_pos he]
      rw [he] at h
      simp [Tryd.f15, e2, h]
    · rw [if_neg he]
      have he2 : (fixed v == s) = false := beq_eq_false_iff_ne.2 he
      generalize fixed v = w at *
      simp [Tryd.f15, e2, h, he2]
  · replace e2 : call cx 23 [.str s, .int .i64 16, .int .i64 64] [] = some (.tup [.int .u64 x, .iface 84 (.vptr d)], []) := e2
    rw [e1]
    simp [Tryd.f15, e2]
end Go.Ev.S
/- Requests, responses. -/
namespace Go.Ev
open Go Go.Proofs
structure Rq where
  path : List UInt8
  epoch : Int
  number : Int
  body : Sl UInt8
instance : Enc Rq := ⟨4, fun m => (.str m.path :: (.int .u64 m.epoch :: (.int .u64 m.number :: ((.vsl m.body.nil (ofBytes m.body.l) m.body.l.length) :: ([] : List D))))), fun m => by simp, fun m => by simp [idFree]⟩
theorem Rq.cells (m : Rq) : Enc.cells m = (.str m.path :: (.int .u64 m.epoch :: (.int .u64 m.number :: ((.vsl m.body.nil (ofBytes m.body.l) m.body.l.length) :: ([] : List D))))) := rfl
@[simp] theorem Rq.size : Enc.size Rq = 4 := rfl
@[simp] theorem Rq.cl (a : Rq) : (Enc.cells a).length = 4 := Enc.len a
@[simp] theorem Rq.ct (a : Rq) (r : List D) : (Enc.cells a ++ r).take 4 = Enc.cells a := cells_take rfl a r
@[simp] theorem Rq.ct' (a : Rq) : (Enc.cells a).take 4 = Enc.cells a := cells_take' rfl a
@[simp] theorem Rq.cd (a : Rq) (r : List D) : (Enc.cells a ++ r).drop 4 = r := cells_drop rfl a r
@[simp] theorem Rq.el (l : List Rq) : (encs l).length = l.length * 4 := encs_len' rfl l
@[simp] theorem Rq.ed (l : List Rq) (i : Nat) : (encs l).drop (i * 4) = encs (l.drop i) := encs_drop rfl l i
@[simp] theorem Rq.et (l : List Rq) (i : Nat) : (encs l).take (i * 4) = encs (l.take i) := encs_take rfl l i
@[simp high] theorem Rq.ea {l : List Rq} {i : Nat} (h : i < l.length) : (encs l).drop (i * 4) = Enc.cells l[i] ++ encs (l.drop (i + 1)) := encs_at rfl h
@[simp high] theorem Rq.es (m : Rq) {l : List Rq} {j : Nat} (h : j < l.length) : setRange (encs l) (j * 4) (Enc.cells m) = encs (l.set j m) := encs_set rfl m l h
@[simp] theorem Rq.g0 (m : Rq) (h) : (Enc.cells m)[0]'h = .str m.path := by simp [Rq.cells]
@[simp] theorem Rq.q0 (m : Rq) : (Enc.cells m)[0]? = some (.str m.path) := by simp [Rq.cells]
@[simp] theorem Rq.s0 (m : Rq) (x : List UInt8) : setRange (Enc.cells m) 0 [.str x] = Enc.cells { m with path := x } := by simp [Rq.cells]
@[simp] theorem Rq.d1 (m : Rq) : (Enc.cells m).drop 1 = (.int .u64 m.epoch :: (.int .u64 m.number :: ((.vsl m.body.nil (ofBytes m.body.l) m.body.l.length) :: ([] : List D)))) := by simp [Rq.cells]
@[simp] theorem Rq.d1' (m : Rq) (r : List D) : (Enc.cells m ++ r).drop 1 = (.int .u64 m.epoch :: (.int .u64 m.number :: ((.vsl m.body.nil (ofBytes m.body.l) m.body.l.length) :: ([] : List D)))) ++ r := by simp [Rq.cells]
@[simp] theorem Rq.g1 (m : Rq) (h) : (Enc.cells m)[1]'h = .int .u64 m.epoch := by simp [Rq.cells]
@[simp] theorem Rq.q1 (m : Rq) : (Enc.cells m)[1]? = some (.int .u64 m.epoch) := by simp [Rq.cells]
@[simp] theorem Rq.s1 (m : Rq) (x : Int) : setRange (Enc.cells m) 1 [.int .u64 x] = Enc.cells { m with epoch := x } := by simp [Rq.cells]
@[simp] theorem Rq.d2 (m : Rq) : (Enc.cells m).drop 2 = (.int .u64 m.number :: ((.vsl m.body.nil (ofBytes m.body.l) m.body.l.length) :: ([] : List D))) := by simp [Rq.cells]
@[simp] theorem Rq.d2' (m : Rq) (r : List D) : (Enc.cells m ++ r).drop 2 = (.int .u64 m.number :: ((.vsl m.body.nil (ofBytes m.body.l) m.body.l.length) :: ([] : List D))) ++ r := by simp [Rq.cells]
@[simp] theorem Rq.g2 (m : Rq) (h) : (Enc.cells m)[2]'h = .int .u64 m.number := by simp [Rq.cells]
@[simp] theorem Rq.q2 (m : Rq) : (Enc.cells m)[2]? = some (.int .u64 m.number) := by simp [Rq.cells]
@[simp] theorem Rq.s2 (m : Rq) (x : Int) : setRange (Enc.cells m) 2 [.int .u64 x] = Enc.cells { m with number := x } := by simp [Rq.cells]
@[simp] theorem Rq.d3 (m : Rq) : (Enc.cells m).drop 3 = ((.vsl m.body.nil (ofBytes m.body.l) m.body.l.length) :: ([] : List D)) := by simp [Rq.cells]
@[simp] theorem Rq.d3' (m : Rq) (r : List D) : (Enc.cells m ++ r).drop 3 = ((.vsl m.body.nil (ofBytes m.body.l) m.body.l.length) :: ([] : List D)) ++ r := by simp [Rq.cells]
@[simp] theorem Rq.g3 (m : Rq) (h) : (Enc.cells m)[3]'h = (.vsl m.body.nil (ofBytes m.body.l) m.body.l.length) := by simp [Rq.cells]
@[simp] theorem Rq.q3 (m : Rq) : (Enc.cells m)[3]? = some ((.vsl m.body.nil (ofBytes m.body.l) m.body.l.length)) := by simp [Rq.cells]
@[simp] theorem Rq.s3 (m : Rq) (x : Sl UInt8) : setRange (Enc.cells m) 3 [(.vsl x.nil (ofBytes x.l) x.l.length)] = Enc.cells { m with body := x } := by simp [Rq.cells]
structure Msg where
  kind : Int
  epoch : Int
  number : Int
  body : Sl UInt8
instance : Enc Msg := ⟨4, fun m => (.int .i64 m.kind :: (.int .u64 m.epoch :: (.int .u64 m.number :: ((.vsl m.body.nil (ofBytes m.body.l) m.body.l.length) :: ([] : List D))))), fun m => by simp, fun m => by simp [idFree]⟩
theorem Msg.cells (m : Msg) : Enc.cells m = (.int .i64 m.kind :: (.int .u64 m.epoch :: (.int .u64 m.number :: ((.vsl m.body.nil (ofBytes m.body.l) m.body.l.length) :: ([] : List D))))) := rfl
@[simp] theorem Msg.size : Enc.size Msg = 4 := rfl
@[simp] theorem Msg.cl (a : Msg) : (Enc.cells a).length = 4 := Enc.len a
@[simp] theorem Msg.ct (a : Msg) (r : List D) : (Enc.cells a ++ r).take 4 = Enc.cells a := cells_take rfl a r
@[simp] theorem Msg.ct' (a : Msg) : (Enc.cells a).take 4 = Enc.cells a := cells_take' rfl a
@[simp] theorem Msg.cd (a : Msg) (r : List D) : (Enc.cells a ++ r).drop 4 = r := cells_drop rfl a r
@[simp] theorem Msg.el (l : List Msg) : (encs l).length = l.length * 4 := encs_len' rfl l
@[simp] theorem Msg.ed (l : List Msg) (i : Nat) : (encs l).drop (i * 4) = encs (l.drop i) := encs_drop rfl l i
@[simp] theorem Msg.et (l : List Msg) (i : Nat) : (encs l).take (i * 4) = encs (l.take i) := encs_take rfl l i
@[simp high] theorem Msg.ea {l : List Msg} {i : Nat} (h : i < l.length) : (encs l).drop (i * 4) = Enc.cells l[i] ++ encs (l.drop (i + 1)) := encs_at rfl h
@[simp high] theorem Msg.es (m : Msg) {l : List Msg} {j : Nat} (h : j < l.length) : setRange (encs l) (j * 4) (Enc.cells m) = encs (l.set j m) := encs_set rfl m l h
@[simp] theorem Msg.g0 (m : Msg) (h) : (Enc.cells m)[0]'h = .int .i64 m.kind := by simp [Msg.cells]
@[simp] theorem Msg.q0 (m : Msg) : (Enc.cells m)[0]? = some (.int .i64 m.kind) := by simp [Msg.cells]
@[simp] theorem Msg.s0 (m : Msg) (x : Int) : setRange (Enc.cells m) 0 [.int .i64 x] = Enc.cells { m with kind := x } := by simp [Msg.cells]
@[simp] theorem Msg.d1 (m : Msg) : (Enc.cells m).drop 1 = (.int .u64 m.epoch :: (.int .u64 m.number :: ((.vsl m.body.nil (ofBytes m.body.l) m.body.l.length) :: ([] : List D)))) := by simp [Msg.cells]
@[simp] theorem Msg.d1' (m : Msg) (r : List D) : (Enc.cells m ++ r).drop 1 = (.int .u64 m.epoch :: (.int .u64 m.number :: ((.vsl m.body.nil (ofBytes m.body.l) m.body.l.length) :: ([] : List D)))) ++ r := by simp [Msg.cells]
@[simp] theorem Msg.g1 (m : Msg) (h) : (Enc.cells m)[1]'h = .int .u64 m.epoch := by simp [Msg.cells]
@[simp] theorem Msg.q1 (m : Msg) : (Enc.cells m)[1]? = some (.int .u64 m.epoch) := by simp [Msg.cells]
@[simp] theorem Msg.s1 (m : Msg) (x : Int) : setRange (Enc.cells m) 1 [.int .u64 x] = Enc.cells { m with epoch := x } := by simp [Msg.cells]
@[simp] theorem Msg.d2 (m : Msg) : (Enc.cells m).drop 2 = (.int .u64 m.number :: ((.vsl m.body.nil (ofBytes m.body.l) m.body.l.length) :: ([] : List D))) := by simp [Msg.cells]
@[simp] theorem Msg.d2' (m : Msg) (r : List D) : (Enc.cells m ++ r).drop 2 = (.int .u64 m.number :: ((.vsl m.body.nil (ofBytes m.body.l) m.body.l.length) :: ([] : List D))) ++ r := by simp [Msg.cells]
@[simp] theorem Msg.g2 (m : Msg) (h) : (Enc.cells m)[2]'h = .int .u64 m.number := by simp [Msg.cells]
@[simp] theorem Msg.q2 (m : Msg) : (Enc.cells m)[2]? = some (.int .u64 m.number) := by simp [Msg.cells]
@[simp] theorem Msg.s2 (m : Msg) (x : Int) : setRange (Enc.cells m) 2 [.int .u64 x] = Enc.cells { m with number := x } := by simp [Msg.cells]
@[simp] theorem Msg.d3 (m : Msg) : (Enc.cells m).drop 3 = ((.vsl m.body.nil (ofBytes m.body.l) m.body.l.length) :: ([] : List D)) := by simp [Msg.cells]
@[simp] theorem Msg.d3' (m : Msg) (r : List D) : (Enc.cells m ++ r).drop 3 = ((.vsl m.body.nil (ofBytes m.body.l) m.body.l.length) :: ([] : List D)) ++ r := by simp [Msg.cells]
@[simp] theorem Msg.g3 (m : Msg) (h) : (Enc.cells m)[3]'h = (.vsl m.body.nil (ofBytes m.body.l) m.body.l.length) := by simp [Msg.cells]
@[simp] theorem Msg.q3 (m : Msg) : (Enc.cells m)[3]? = some ((.vsl m.body.nil (ofBytes m.body.l) m.body.l.length)) := by simp [Msg.cells]
@[simp] theorem Msg.s3 (m : Msg) (x : Sl UInt8) : setRange (Enc.cells m) 3 [(.vsl x.nil (ofBytes x.l) x.l.length)] = Enc.cells { m with body := x } := by simp [Msg.cells]
structure Rs where
  status : Int
  epoch : Int
  number : Int
  body : Sl UInt8
instance : Enc Rs := ⟨4, fun m => (.int .i64 m.status :: (.int .u64 m.epoch :: (.int .u64 m.number :: ((.vsl m.body.nil (ofBytes m.body.l) m.body.l.length) :: ([] : List D))))), fun m => by simp, fun m => by simp [idFree]⟩
theorem Rs.cells (m : Rs) : Enc.cells m = (.int .i64 m.status :: (.int .u64 m.epoch :: (.int .u64 m.number :: ((.vsl m.body.nil (ofBytes m.body.l) m.body.l.length) :: ([] : List D))))) := rfl
@[simp] theorem Rs.size : Enc.size Rs = 4 := rfl
@[simp] theorem Rs.cl (a : Rs) : (Enc.cells a).length = 4 := Enc.len a
@[simp] theorem Rs.ct (a : Rs) (r : List D) : (Enc.cells a ++ r).take 4 = Enc.cells a := cells_take rfl a r
@[simp] theorem Rs.ct' (a : Rs) : (Enc.cells a).take 4 = Enc.cells a := cells_take' rfl a
@[simp] theorem Rs.cd (a : Rs) (r : List D) : (Enc.cells a ++ r).drop 4 = r := cells_drop rfl a r
@[simp] theorem Rs.el (l : List Rs) : (encs l).length = l.length * 4 := encs_len' rfl l
@[simp] theorem Rs.ed (l : List Rs) (i : Nat) : (encs l).drop (i * 4) = encs (l.drop i) := encs_drop rfl l i
@[simp] theorem Rs.et (l : List Rs) (i : Nat) : (encs l).take (i * 4) = encs (l.take i) := encs_take rfl l i
@[simp high] theorem Rs.ea {l : List Rs} {i : Nat} (h : i < l.length) : (encs l).drop (i * 4) = Enc.cells l[i] ++ encs (l.drop (i + 1)) := encs_at rfl h
@[simp high] theorem Rs.es (m : Rs) {l : List Rs} {j : Nat} (h : j < l.length) : setRange (encs l) (j * 4) (Enc.cells m) = encs (l.set j m) := encs_set rfl m l h
@[simp] theorem Rs.g0 (m : Rs) (h) : (Enc.cells m)[0]'h = .int .i64 m.status := by simp [Rs.cells]
@[simp] theorem Rs.q0 (m : Rs) : (Enc.cells m)[0]? = some (.int .i64 m.status) := by simp [Rs.cells]
@[simp] theorem Rs.s0 (m : Rs) (x : Int) : setRange (Enc.cells m) 0 [.int .i64 x] = Enc.cells { m with status := x } := by simp [Rs.cells]
@[simp] theorem Rs.d1 (m : Rs) : (Enc.cells m).drop 1 = (.int .u64 m.epoch :: (.int .u64 m.number :: ((.vsl m.body.nil (ofBytes m.body.l) m.body.l.length) :: ([] : List D)))) := by simp [Rs.cells]
@[simp] theorem Rs.d1' (m : Rs) (r : List D) : (Enc.cells m ++ r).drop 1 = (.int .u64 m.epoch :: (.int .u64 m.number :: ((.vsl m.body.nil (ofBytes m.body.l) m.body.l.length) :: ([] : List D)))) ++ r := by simp [Rs.cells]
@[simp] theorem Rs.g1 (m : Rs) (h) : (Enc.cells m)[1]'h = .int .u64 m.epoch := by simp [Rs.cells]
@[simp] theorem Rs.q1 (m : Rs) : (Enc.cells m)[1]? = some (.int .u64 m.epoch) := by simp [Rs.cells]
@[simp] theorem Rs.s1 (m : Rs) (x : Int) : setRange (Enc.cells m) 1 [.int .u64 x] = Enc.cells { m with epoch := x } := by simp [Rs.cells]
@[simp] theorem Rs.d2 (m : Rs) : (Enc.cells m).drop 2 = (.int .u64 m.number :: ((.vsl m.body.nil (ofBytes m.body.l) m.body.l.length) :: ([] : List D))) := by simp [Rs.cells]
@[simp] theorem Rs.d2' (m : Rs) (r : List D) : (Enc.cells m ++ r).drop 2 = (.int .u64 m.number :: ((.vsl m.body.nil (ofBytes m.body.l) m.body.l.length) :: ([] : List D))) ++ r := by simp [Rs.cells]
@[simp] theorem Rs.g2 (m : Rs) (h) : (Enc.cells m)[2]'h = .int .u64 m.number := by simp [Rs.cells]
@[simp] theorem Rs.q2 (m : Rs) : (Enc.cells m)[2]? = some (.int .u64 m.number) := by simp [Rs.cells]
@[simp] theorem Rs.s2 (m : Rs) (x : Int) : setRange (Enc.cells m) 2 [.int .u64 x] = Enc.cells { m with number := x } := by simp [Rs.cells]
@[simp] theorem Rs.d3 (m : Rs) : (Enc.cells m).drop 3 = ((.vsl m.body.nil (ofBytes m.body.l) m.body.l.length) :: ([] : List D)) := by simp [Rs.cells]
@[simp] theorem Rs.d3' (m : Rs) (r : List D) : (Enc.cells m ++ r).drop 3 = ((.vsl m.body.nil (ofBytes m.body.l) m.body.l.length) :: ([] : List D)) ++ r := by simp [Rs.cells]
@[simp] theorem Rs.g3 (m : Rs) (h) : (Enc.cells m)[3]'h = (.vsl m.body.nil (ofBytes m.body.l) m.body.l.length) := by simp [Rs.cells]
@[simp] theorem Rs.q3 (m : Rs) : (Enc.cells m)[3]? = some ((.vsl m.body.nil (ofBytes m.body.l) m.body.l.length)) := by simp [Rs.cells]
@[simp] theorem Rs.s3 (m : Rs) (x : Sl UInt8) : setRange (Enc.cells m) 3 [(.vsl x.nil (ofBytes x.l) x.l.length)] = Enc.cells { m with body := x } := by simp [Rs.cells]
@[simp] theorem ofBytes_nil : ofBytes [] = [] := rfl
def Msg.zero : Msg := ⟨0, 0, 0, .none⟩
def crlf : List UInt8 := [13, 10]
def epochL : List UInt8 := [88, 45, 69, 112, 111, 99, 104, 58, 32]
def numberL : List UInt8 := [88, 45, 78, 117, 109, 98, 101, 114, 58, 32]
def lengthL : List UInt8 := [67, 111, 110, 116, 101, 110, 116, 45, 76, 101, 110, 103, 116, 104, 58, 32]
def numsL (e n l : Nat) : List UInt8 := epochL ++ (dec e ++ (crlf ++ (numberL ++ (dec n ++ (crlf ++ (lengthL ++ (dec l ++ (crlf ++ crlf))))))))
theorem decF_len : ∀ (f v : Nat), (decF f v).length ≤ f
  | 0, _ => Nat.le_refl _
  | f + 1, v => by
    rw [decF]
    split
    · simp
    · have := decF_len f (v / 10)
      simp
      omega
theorem dec_len (v : Nat) : (dec v).length ≤ 20 := decF_len 20 v
theorem dec_pos (v : Nat) : 0 < (dec v).length := by
  unfold dec decF
  split <;> simp
theorem nums_len (e n l : Nat) : (numsL e n l).length ≤ 103 := by
  have h1 := dec_len e
  have h2 := dec_len n
  have h3 := dec_len l
  simp only [numsL, List.length_append, epochL, numberL, lengthL, crlf, List.length_cons, List.length_nil]
  omega
theorem cat_of {x y s : List UInt8} (e : s = x ++ y) (h : x.length + y.length ≤ 100000) : strD .add x y = some (.str s) := by
  simp only [strD, e]
  rw [if_pos (by omega)]
theorem strD_add {x y : List UInt8} (h : x.length + y.length ≤ 100000) : strD .add x y = some (.str (x ++ y)) := by
  simp only [strD]
  rw [if_pos (by omega)]
section
variable {H : Type} {enc : TypeId × Value → H} {P : Program} {W : World} {base n : Nat} {t e : TypeId} {v : Value} {d : DataW H} {ps : List MemPlace}
theorem arg_u64 (hu : P.underlying t = some (.int .u64)) (hp : PlainT P (n + 1) t = true) (hv : Value.okWide P W .any base t v) (h : DataW.Trod enc P W 0 (fun _ => true) true t v d ps) : ∃ b, Rep (· < W.heap.size) W iota0 [] (.int .u64 b) v ∧ isU64 b := by
  obtain ⟨ds, h1, h2⟩ := read_plain hp h
  obtain ⟨b, rfl, hb⟩ := has_u64 hu h1
  exact ⟨b, cor_val h2 (one_int hu hv), hb⟩
theorem arg_u8 (hu : P.underlying t = some (.int .u8)) (hp : PlainT P (n + 1) t = true) (hv : Value.okWide P W .any base t v) (h : DataW.Trod enc P W 0 (fun _ => true) true t v d ps) : ∃ b : UInt8, Rep (· < W.heap.size) W iota0 [] (.int .u8 b.toNat) v ∧ True := by
  obtain ⟨ds, h1, h2⟩ := read_plain hp h
  obtain ⟨b, rfl⟩ := has_u8 hu h1
  exact ⟨b, cor_val h2 (one_int hu hv), trivial⟩
end
end Go.Ev
/- A place as a text. -/
namespace Go.Ev
open Go Go.Proofs
def kS : List UInt8 := [115, 61]
def kI : List UInt8 := [59, 105, 61]
def kB : List UInt8 := [59, 98, 61]
def kM : List UInt8 := [59, 109, 61]
def kT : List UInt8 := [59, 116, 61]
def kX : List UInt8 := [59, 120, 61]
/-- A place as a text. -/
def showL (c : Cur) : List UInt8 := kS ++ (hexs c.seq.l ++ (kI ++ (hx c.n.toNat ++ (kB ++ (hexs c.boot.l ++ (kM ++ (hx c.mono.toNat ++ (kT ++ (hx c.real.toNat ++ (kX ++ hx c.xor.toNat))))))))))
theorem showL_len (c : Cur) : 80 ≤ (showL c).length ∧ (showL c).length ≤ 200 := by
  have h1 := hx_len c.n.toNat
  have h2 := hx_len c.mono.toNat
  have h3 := hx_len c.real.toNat
  have h4 := hx_len c.xor.toNat
  have g1 := hx_pos c.n.toNat
  have g2 := hx_pos c.mono.toNat
  have g3 := hx_pos c.real.toNat
  have g4 := hx_pos c.xor.toNat
  have i1 := hexs_len c.seq.l
  have i2 := hexs_len c.boot.l
  rw [c.seq.h] at i1
  rw [c.boot.h] at i2
  simp only [showL, List.length_append, kS, kI, kB, kM, kT, kX, List.length_cons, List.length_nil]
  omega
def Cur.zero : Cur := ⟨ID.zero, 0, ID.zero, 0, 0, 0⟩
/-- A text, parted at a byte, so many times at most. -/
def splitN (c : UInt8) : Nat → List UInt8 → List (List UInt8)
  | 0, s => [s]
  | n + 1, s => if idxN [c] s 0 = -1 then [s] else s.take (idxN [c] s 0).toNat :: splitN c n (s.drop ((idxN [c] s 0).toNat + 1))
def splitL (c : UInt8) (s : List UInt8) : List (List UInt8) := splitN c (s.count c) s
theorem splitN_pos (c : UInt8) : ∀ (n : Nat) (s : List UInt8), 0 < (splitN c n s).length
  | 0, _ => by simp [splitN]
  | n + 1, s => by
    rw [splitN]
    split <;> simp
def cutAt (c : UInt8) (s : List UInt8) : List UInt8 := if idxN [c] s 0 = -1 then [] else s.drop ((idxN [c] s 0).toNat + 1)
def idOf (s : List UInt8) : ID := ⟨(idP s).getD zero16, by
  cases h : idP s with
  | none => rfl
  | some r => exact idP_len h⟩
/-- Two places. -/
def curEq (a b : Cur) : Bool := a.seq == b.seq && (a.n == b.n && (a.boot == b.boot && (a.mono == b.mono && (a.real == b.real && a.xor == b.xor))))
theorem curEq_iff (a b : Cur) : curEq a b = true ↔ a = b := by
  obtain ⟨a1, a2, a3, a4, a5, a6⟩ := a
  obtain ⟨b1, b2, b3, b4, b5, b6⟩ := b
  simp [curEq]
@[simp] theorem Cur.eq36 (a b : Cur) : cellsEq [.i, .i, .i, .i, .i, .i, .i, .i, .i, .i, .i, .i, .i, .i, .i, .i, .i, .i, .i, .i, .i, .i, .i, .i, .i, .i, .i, .i, .i, .i, .i, .i, .i, .i, .i, .i] (Enc.cells a) (Enc.cells b) = some (curEq a b) := by
  have h1 := cellsEq16 a.seq b.seq
  have h2 := cellsEq16 a.boot b.boot
  rw [Cur.cells, Cur.cells]
  have e : ([.i, .i, .i, .i, .i, .i, .i, .i, .i, .i, .i, .i, .i, .i, .i, .i, .i, .i, .i, .i, .i, .i, .i, .i, .i, .i, .i, .i, .i, .i, .i, .i, .i, .i, .i, .i] : List CK) = [.i, .i, .i, .i, .i, .i, .i, .i, .i, .i, .i, .i, .i, .i, .i, .i] ++ (.i :: ([.i, .i, .i, .i, .i, .i, .i, .i, .i, .i, .i, .i, .i, .i, .i, .i] ++ [.i, .i, .i])) := rfl
  rw [e, cellsEq_app _ _ _ _ _ _ (by simp) (by simp), h1]
  simp only [cellsEq, cellEq, if_true]
  rw [cellsEq_app _ _ _ _ _ _ (by simp) (by simp), h2]
  simp only [cellsEq, cellEq, if_true, Bool.and_true]
  rfl
theorem idx_at (c : UInt8) : ∀ (A B : List UInt8) (n : Nat), (∀ x ∈ A, x ≠ c) → idxN [c] (A ++ c :: B) n = ((n + A.length : Nat) : Int)
  | [], B, n, _ => by simp [idxN, List.isPrefixOf]
  | x :: A, B, n, h => by
    have hx := h x (by simp)
    have hx2 : (c == x) = false := by simpa using Ne.symm hx
    rw [List.cons_append, idxN, if_neg (by simp [List.isPrefixOf, hx2]), idx_at c A B (n + 1) fun y hy => h y (by simp [hy])]
    simp
    omega
theorem idx_no (c : UInt8) : ∀ (A : List UInt8) (n : Nat), (∀ x ∈ A, x ≠ c) → idxN [c] A n = -1
  | [], n, _ => by simp [idxN]
  | x :: A, n, h => by
    have hx := h x (by simp)
    have hx2 : (c == x) = false := by simpa using Ne.symm hx
    rw [idxN, if_neg (by simp [List.isPrefixOf, hx2]), idx_no c A (n + 1) fun y hy => h y (by simp [hy])]
theorem split_at {c : UInt8} {A : List UInt8} (h : ∀ x ∈ A, x ≠ c) (B : List UInt8) : splitL c (A ++ c :: B) = A :: splitL c B := by
  have h0 : A.count c = 0 := List.count_eq_zero.2 fun hm => h c hm rfl
  have hc : (A ++ c :: B).count c = B.count c + 1 := by
    rw [List.count_append, h0, List.count_cons_self]
    omega
  unfold splitL
  rw [hc, splitN, idx_at c A B 0 h, Nat.zero_add, if_neg (by omega)]
  have e : ((A.length : Nat) : Int).toNat = A.length := by omega
  rw [e, List.take_left]
  congr 1
  rw [← List.drop_drop, List.drop_left]
  rfl
theorem split_no {c : UInt8} {A : List UInt8} (h : ∀ x ∈ A, x ≠ c) : splitL c A = [A] := by
  have h0 : A.count c = 0 := List.count_eq_zero.2 fun hm => h c hm rfl
  unfold splitL
  rw [h0, splitN]
theorem cut_at {c : UInt8} {A : List UInt8} (h : ∀ x ∈ A, x ≠ c) (B : List UInt8) : cutAt c (A ++ c :: B) = B := by
  unfold cutAt
  rw [idx_at c A B 0 h, Nat.zero_add, if_neg (by omega)]
  have e : ((A.length : Nat) : Int).toNat = A.length := by omega
  rw [e, ← List.drop_drop, List.drop_left]
  rfl
theorem ne59 {k : UInt8} {A : List UInt8} (hk : k ≠ 59) (h : ∀ x ∈ A, x ≠ 59 ∧ x ≠ 61 ∧ x ≠ 45) : ∀ x ∈ k :: 61 :: A, x ≠ 59 := by
  intro x hx
  simp only [List.mem_cons] at hx
  rcases hx with rfl | rfl | hx
  · exact hk
  · decide
  · exact (h x hx).1
theorem vals_show (c : Cur) : (splitL 59 (showL c)).map (cutAt 61) = [hexs c.seq.l, hx c.n.toNat, hexs c.boot.l, hx c.mono.toNat, hx c.real.toNat, hx c.xor.toNat] := by
  have e : showL c = (115 :: 61 :: hexs c.seq.l) ++ 59 :: ((105 :: 61 :: hx c.n.toNat) ++ 59 :: ((98 :: 61 :: hexs c.boot.l) ++ 59 :: ((109 :: 61 :: hx c.mono.toNat) ++ 59 :: ((116 :: 61 :: hx c.real.toNat) ++ 59 :: (120 :: 61 :: hx c.xor.toNat))))) := by
    simp [showL, kS, kI, kB, kM, kT, kX]
  have hc : ∀ (k : UInt8) (A : List UInt8), k ≠ 61 → cutAt 61 (k :: 61 :: A) = A := fun k A hk => cut_at (A := [k]) (by simpa using hk) A
  rw [e, split_at (ne59 (by decide) (hexs_ne _)), split_at (ne59 (by decide) (hx_ne _)), split_at (ne59 (by decide) (hexs_ne _)), split_at (ne59 (by decide) (hx_ne _)), split_at (ne59 (by decide) (hx_ne _)), split_no (ne59 (by decide) (hx_ne _))]
  simp only [List.map_cons, List.map_nil, hc 115 _ (by decide), hc 105 _ (by decide), hc 98 _ (by decide), hc 109 _ (by decide), hc 116 _ (by decide), hc 120 _ (by decide)]
theorem idOf_hexs (i : ID) : idOf (hexs i.l) = i := ID.ext' (by show (idP (hexs i.l)).getD zero16 = i.l; rw [idP_hexs i.h]; rfl)
end Go.Ev
/- Texts are cut. -/
namespace Go.Ev.S
open Go Go.Proofs Go.Ev
theorem idx_cases (sep : List UInt8) : ∀ (s : List UInt8) (n : Nat), (∃ i : Nat, idxN sep s n = ((n + i : Nat) : Int) ∧ i + sep.length ≤ s.length ∧ sep.isPrefixOf (s.drop i) = true) ∨ idxN sep s n = -1
  | [], n => by
    unfold idxN
    cases sep with
    | nil => exact .inl ⟨0, by simp⟩
    | cons a l => exact .inr (by simp)
  | b :: l, n => by
    unfold idxN
    by_cases h : sep.isPrefixOf (b :: l) = true
    · rw [if_pos h]
      refine .inl ⟨0, by simp, ?_, by simpa using h⟩
      have := List.IsPrefix.length_le (List.isPrefixOf_iff_prefix.1 h)
      simpa using this
    · rw [if_neg h]
      rcases idx_cases sep l (n + 1) with ⟨i, h1, h2, h3⟩ | h1
      · exact .inl ⟨i + 1, by rw [h1]; omega, by simp; omega, by simpa using h3⟩
      · exact .inr h1
theorem index_ev [MaxL] (s sep : List UInt8) (hs : s.length < 4294967281) : call cx 49 [.str s, .str sep] [] = some (.int .i64 (idxN sep s 0), []) := by
  refine call_con ?_
  rw [co49, conIdx, if_pos hs]
end Go.Ev.S
