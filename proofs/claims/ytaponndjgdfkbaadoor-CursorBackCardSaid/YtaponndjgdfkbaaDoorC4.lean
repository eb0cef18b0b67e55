import Derived.Test.YtaponndjgdfkbaaDoorC3
import Derived.Test.YtaponndjgdfkbaaDoorRows
import Derived.Shelf.LaysM
import Derived.Shelf.Strconv.Clone
import Derived.Shelf.Strings.Search2
import Derived.Shelf.Strings.Repeat
import Derived.Test.YtaponndjgdfkbaaDoorProg
/- What the evaluator needs of this program: printed by program. -/
namespace Go.Ev.S
open Go Go.Proofs Go.Ev
def kf10 : Nat → Option (List Nat × Nat)
  | 0 => some ([0, 1, 2], 0)
  | 1 => some ([1, 2, 3], 0)
  | 2 => some ([1, 2, 3, 7], 0)
  | 3 => some ([], 0)
  | 4 => some ([1, 2, 3, 7], 0)
  | 5 => some ([1, 2, 3, 7, 8], 0)
  | 6 => some ([], 0)
  | 7 => some ([1, 2, 3, 7, 8], 0)
  | 8 => some ([1, 2, 3, 7, 8, 9, 10], 0)
  | 9 => some ([2, 3, 7, 8, 9, 10, 11], 0)
  | 10 => some ([2, 3, 7, 8, 9, 10, 11, 12], 0)
  | 11 => some ([2, 3, 7, 8, 9, 10, 11, 12], 0)
  | 12 => some ([2, 3, 7, 8, 9, 10, 11, 12, 13, 14], 0)
  | 13 => some ([2, 3, 7, 8, 9, 10, 11, 12, 13, 14, 15, 16], 0)
  | 14 => some ([2, 3, 7, 9, 10, 12, 13, 14, 15, 16, 17, 18], 0)
  | 15 => some ([2, 3, 7, 9, 10, 12, 13, 14, 15, 16, 17, 18, 19, 20], 0)
  | 16 => some ([2, 3, 7, 9, 10, 12, 13, 14, 15, 16, 17, 18, 19, 20, 21, 22], 0)
  | _ => none
def kf11 : Nat → Option (List Nat × Nat)
  | 0 => some ([], 0)
  | 1 => some ([], 0)
  | 2 => some ([1], 0)
  | _ => none
def kf13 : Nat → Option (List Nat × Nat)
  | 0 => some ([0, 1], 0)
  | 1 => some ([0, 1], 0)
  | 2 => some ([], 0)
  | 3 => some ([0, 1], 0)
  | _ => none
def kf32 : Nat → Option (List Nat × Nat)
  | 0 => some ([0], 0)
  | 1 => some ([1], 0)
  | 2 => some ([1, 3], 0)
  | _ => none
def kf33 : Nat → Option (List Nat × Nat)
  | 0 => some ([0], 0)
  | 1 => some ([0, 2], 0)
  | 2 => some ([0, 2, 4], 0)
  | 3 => some ([0, 2, 4, 13, 14, 15], 5)
  | 4 => some ([0, 2, 4, 13, 14, 15], 0)
  | 5 => some ([0, 2, 4, 6, 13, 14, 15], 0)
  | 6 => some ([0, 2, 4, 8, 13, 14, 15], 0)
  | 7 => some ([0, 2, 4, 13, 14, 15], 0)
  | 8 => some ([0, 2, 4], 0)
  | 9 => some ([2], 0)
  | 10 => some ([0, 2, 4], 0)
  | 11 => some ([0, 2, 4, 10], 0)
  | 12 => some ([0, 2, 4, 11], 0)
  | 13 => some ([0, 2, 4, 11], 0)
  | 14 => some ([0, 2, 11], 0)
  | 15 => some ([2], 0)
  | 16 => some ([2, 11], 0)
  | _ => none
def kf34 : Nat → Option (List Nat × Nat)
  | 0 => some ([0], 0)
  | 1 => some ([0, 2], 0)
  | 2 => some ([0, 2, 4], 0)
  | 3 => some ([2], 0)
  | 4 => some ([0, 2, 4], 0)
  | 5 => some ([0, 2, 4, 12, 13], 0)
  | 6 => some ([0, 2, 4, 12, 13], 0)
  | 7 => some ([0, 2, 4, 5, 12, 13], 0)
  | 8 => some ([0, 2, 4, 5, 6, 12, 13], 0)
  | 9 => some ([2], 0)
  | 10 => some ([0, 2, 4, 5, 6, 12, 13], 0)
  | 11 => some ([0, 2, 4, 12, 13], 0)
  | 12 => some ([2, 4], 0)
  | _ => none
def kf35 : Nat → Option (List Nat × Nat)
  | 0 => some ([0], 0)
  | 1 => some ([1], 0)
  | 2 => some ([1, 3], 0)
  | 3 => some ([6, 7], 0)
  | 4 => some ([3, 6, 7], 0)
  | 5 => some ([3, 5, 6, 7], 0)
  | 6 => some ([3, 6, 7], 0)
  | 7 => some ([3], 0)
  | _ => none
def kf36 : Nat → Option (List Nat × Nat)
  | 0 => some ([0], 0)
  | 1 => some ([0], 0)
  | 2 => some ([0, 4, 5], 0)
  | 3 => some ([], 0)
  | 4 => some ([4], 0)
  | _ => none
def kf37 : Nat → Option (List Nat × Nat)
  | 0 => some ([0], 0)
  | 1 => some ([0], 0)
  | 2 => some ([3], 0)
  | _ => none
def kf53 : Nat → Option (List Nat × Nat)
  | 0 => some ([0], 0)
  | 1 => some ([0], 0)
  | _ => none
def kf54 : Nat → Option (List Nat × Nat)
  | 0 => some ([0, 1], 0)
  | 1 => some ([0, 1], 0)
  | _ => none
def kf55 : Nat → Option (List Nat × Nat)
  | 0 => some ([0, 1], 0)
  | 1 => some ([0, 1], 0)
  | _ => none
def kf56 : Nat → Option (List Nat × Nat)
  | 0 => some ([0, 1], 0)
  | 1 => some ([0, 1], 0)
  | _ => none
def kf57 : Nat → Option (List Nat × Nat)
  | 0 => some ([0, 1], 0)
  | 1 => some ([0, 1], 0)
  | 2 => some ([4, 5], 0)
  | 3 => some ([], 0)
  | 4 => some ([4], 0)
  | _ => none
def kf58 : Nat → Option (List Nat × Nat)
  | 0 => some ([0, 1, 2], 0)
  | 1 => some ([0, 1, 2], 0)
  | 2 => some ([0, 1, 2, 8, 9], 0)
  | 3 => some ([0, 1, 2, 8, 9], 0)
  | 4 => some ([8], 0)
  | _ => none
def kf59 : Nat → Option (List Nat × Nat)
  | 0 => some ([0, 1], 0)
  | 1 => some ([0, 1], 0)
  | _ => none
def kf69 : Nat → Option (List Nat × Nat)
  | 0 => some ([0, 1], 0)
  | 1 => some ([0, 1], 0)
  | 2 => some ([0], 0)
  | 3 => some ([0], 0)
  | 4 => some ([0], 0)
  | 5 => some ([0, 5], 0)
  | 6 => some ([0, 5, 6], 0)
  | 7 => some ([5, 6], 0)
  | 8 => some ([0, 1], 0)
  | 9 => some ([8], 0)
  | _ => none
def kf70 : Nat → Option (List Nat × Nat)
  | 0 => some ([0, 1, 2, 3], 0)
  | 1 => some ([0, 1, 2, 3], 0)
  | 2 => some ([], 0)
  | 3 => some ([0, 1, 2, 3], 0)
  | 4 => some ([0, 3], 0)
  | 5 => some ([0, 1, 2, 3], 0)
  | 6 => some ([0, 1, 2], 0)
  | 7 => some ([0, 1, 2, 3], 0)
  | 8 => some ([0, 1, 2, 3], 0)
  | 9 => some ([0, 1, 2, 3, 9], 0)
  | 10 => some ([0, 1, 2, 3, 9], 0)
  | 11 => some ([0, 1, 2, 3, 9, 10], 0)
  | 12 => some ([0, 1, 2, 3, 9, 10], 0)
  | 13 => some ([0, 1, 2, 3, 9, 10, 11], 0)
  | 14 => some ([0, 1, 2, 3, 9, 10, 11], 0)
  | 15 => some ([0, 1, 2, 3, 9, 10, 11], 0)
  | 16 => some ([0, 1, 2, 3, 9, 10], 0)
  | 17 => some ([0, 9, 10], 0)
  | 18 => some ([9, 10], 0)
  | _ => none
def kf71 : Nat → Option (List Nat × Nat)
  | 0 => some ([0, 1], 0)
  | 1 => some ([0, 1], 0)
  | 2 => some ([0, 1, 7], 0)
  | 3 => some ([0, 1, 7], 0)
  | 4 => some ([0], 0)
  | _ => none
def kf72 : Nat → Option (List Nat × Nat)
  | 0 => some ([0, 1, 2], 0)
  | 1 => some ([0, 1, 2], 0)
  | 2 => some ([], 0)
  | 3 => some ([0, 1, 2], 0)
  | 4 => some ([0, 1, 2, 8], 0)
  | 5 => some ([], 0)
  | 6 => some ([0, 1, 2, 8, 9], 0)
  | 7 => some ([0, 1, 2, 8, 9], 0)
  | 8 => some ([0, 2, 8, 9], 0)
  | 9 => some ([0, 1, 2, 8, 9], 0)
  | 10 => some ([0, 2, 8, 9], 0)
  | 11 => some ([0, 1, 2, 8, 9], 0)
  | 12 => some ([0, 2, 8, 9], 0)
  | 13 => some ([0, 2, 8, 9], 0)
  | 14 => some ([0, 1, 2, 8, 9], 0)
  | 15 => some ([0, 2, 8, 9], 0)
  | 16 => some ([0, 2, 8, 9], 0)
  | 17 => some ([0, 1, 2, 8, 9], 0)
  | 18 => some ([0, 2, 8, 9], 0)
  | 19 => some ([0, 2, 8, 9], 0)
  | 20 => some ([0, 1, 2, 8, 9], 0)
  | 21 => some ([0, 1, 2, 8, 9], 0)
  | 22 => some ([0, 1, 8, 9], 0)
  | 23 => some ([0, 1, 2, 8, 9], 0)
  | 24 => some ([], 0)
  | 25 => some ([0, 1, 2, 8, 9], 0)
  | 26 => some ([0, 1, 2, 8, 9], 0)
  | 27 => some ([0, 1, 2, 8, 9], 0)
  | 28 => some ([0, 1, 2, 8, 9, 85], 0)
  | 29 => some ([0, 1, 2, 8, 9], 0)
  | 30 => some ([0, 1, 2, 8, 9, 85], 0)
  | 31 => some ([0, 1, 2, 8, 9], 0)
  | 32 => some ([0, 1, 2, 8, 9, 10], 0)
  | 33 => some ([0, 1, 8, 9, 10, 11], 0)
  | 34 => some ([0, 1, 8, 9, 10, 11, 12], 0)
  | 35 => some ([0, 1, 8, 9, 10, 11, 12, 13], 0)
  | 36 => some ([1, 8, 9, 10, 11, 12, 13, 99, 100, 101], 0)
  | 37 => some ([1, 8, 9, 10, 11, 12, 13, 99, 100, 101], 0)
  | 38 => some ([1, 8, 9, 10, 11, 12, 13, 15, 99, 100, 101], 0)
  | 39 => some ([], 0)
  | 40 => some ([1, 8, 9, 10, 11, 12, 13, 15, 99, 100, 101], 0)
  | 41 => some ([1, 8, 9, 10, 11, 13, 99, 100, 101], 0)
  | 42 => some ([1, 8, 9, 10, 11, 12, 13, 15, 99, 100, 101], 0)
  | 43 => some ([1, 8, 9, 10, 11, 12, 13, 15, 99, 100, 101], 0)
  | 44 => some ([1, 8, 9, 10, 11, 12, 13, 15, 99, 100, 101], 0)
  | 45 => some ([1, 8, 9, 10, 11, 12, 13, 15, 99, 100, 101], 0)
  | 46 => some ([1, 8, 9, 10, 11, 12, 13, 16, 99, 100, 101], 0)
  | 47 => some ([], 0)
  | 48 => some ([1, 8, 9, 10, 11, 12, 13, 16, 99, 100, 101], 0)
  | 49 => some ([11], 0)
  | 50 => some ([1, 8, 9, 10, 11, 12, 13, 16, 99, 100, 101], 0)
  | 51 => some ([1, 8, 9, 10, 11, 12, 13, 16, 99, 100, 101], 0)
  | 52 => some ([1, 8, 9, 10, 11, 12, 13, 17, 99, 100, 101], 0)
  | 53 => some ([11], 0)
  | 54 => some ([1, 8, 9, 10, 11, 12, 17, 99, 100, 101], 0)
  | 55 => some ([1, 8, 9, 10, 11, 12, 13, 99, 100, 101], 0)
  | 56 => some ([9, 12, 13], 0)
  | 57 => some ([], 0)
  | 58 => some ([13], 0)
  | _ => none
def kf73 : Nat → Option (List Nat × Nat)
  | 0 => some ([0, 1, 2, 3, 4], 0)
  | 1 => some ([0, 1, 2, 3, 4], 0)
  | 2 => some ([0, 1, 2, 3, 4, 11], 0)
  | 3 => some ([0, 1], 0)
  | 4 => some ([0, 1, 2, 3, 4, 11], 0)
  | 5 => some ([0, 1], 0)
  | 6 => some ([0, 1, 2, 3, 4, 11], 0)
  | 7 => some ([0, 1, 2], 0)
  | 8 => some ([0, 1, 3, 4, 11], 0)
  | 9 => some ([0, 1, 3], 0)
  | 10 => some ([4], 0)
  | _ => none
def kf74 : Nat → Option (List Nat × Nat)
  | 0 => some ([0, 1], 0)
  | 1 => some ([0, 1], 0)
  | _ => none
def kf89 : Nat → Option (List Nat × Nat)
  | 0 => some ([0], 0)
  | 1 => some ([0], 0)
  | 2 => some ([0], 0)
  | 3 => some ([0], 0)
  | _ => none
def kf90 : Nat → Option (List Nat × Nat)
  | 0 => some ([0], 0)
  | 1 => some ([0], 0)
  | 2 => some ([0, 3], 0)
  | _ => none
def kf91 : Nat → Option (List Nat × Nat)
  | 0 => some ([0, 1], 0)
  | 1 => some ([0, 1, 4], 0)
  | 2 => some ([0, 1, 4], 0)
  | 3 => some ([0, 1, 4, 5], 0)
  | 4 => some ([0, 1, 4, 5], 0)
  | 5 => some ([0, 1, 4, 6, 7], 0)
  | 6 => some ([0, 1, 4, 6, 8, 9], 0)
  | 7 => some ([0, 1, 4, 8, 9, 10, 11], 0)
  | 8 => some ([0, 1, 4, 8, 10, 11], 0)
  | 9 => some ([0, 1, 4, 10, 11], 0)
  | 10 => some ([0, 1, 4, 10], 0)
  | 11 => some ([0, 1, 4], 0)
  | 12 => some ([0, 1, 4], 0)
  | 13 => some ([0, 4, 12], 0)
  | 14 => some ([0, 4, 12], 0)
  | 15 => some ([0, 4, 12, 13], 0)
  | 16 => some ([0, 4, 12, 13], 0)
  | 17 => some ([0, 4, 12, 14, 15], 0)
  | 18 => some ([0, 4, 12, 14], 0)
  | 19 => some ([0, 4, 12], 0)
  | 20 => some ([0, 4, 12], 0)
  | 21 => some ([0, 4, 12], 0)
  | 22 => some ([0, 4, 12, 16], 0)
  | 23 => some ([0, 4, 12, 16], 0)
  | 24 => some ([0, 4, 12], 0)
  | 25 => some ([0, 4, 12], 0)
  | 26 => some ([0, 12], 0)
  | _ => none
def kf92 : Nat → Option (List Nat × Nat)
  | 0 => some ([0, 1, 2, 3, 4], 0)
  | 1 => some ([0, 1, 2, 3, 4, 10, 11], 0)
  | 2 => some ([0, 1, 2, 3, 4, 10, 11], 0)
  | 3 => some ([0, 1, 2, 3, 4, 10, 11], 0)
  | 4 => some ([0, 1, 2, 3, 4, 10, 11, 12], 0)
  | 5 => some ([0, 1, 2, 3, 4, 10, 11, 12, 13], 0)
  | 6 => some ([0, 1, 2, 3, 4, 10, 11, 12, 13], 0)
  | 7 => some ([0, 1, 2, 3, 4, 10, 11, 12, 13], 0)
  | 8 => some ([0, 1, 2, 3, 4, 10, 11, 12, 13], 0)
  | 9 => some ([0, 1, 2, 3, 4, 10, 11, 12, 13, 14], 0)
  | 10 => some ([0, 1, 2, 3, 4, 10, 11, 12, 13, 14, 15], 0)
  | 11 => some ([0, 1, 3, 4, 10, 11, 12, 13, 14, 15, 16], 0)
  | 12 => some ([0, 1, 3, 4, 10, 11, 12, 13, 14, 15, 16], 0)
  | 13 => some ([0, 1, 3, 4, 10, 11, 12, 13, 14, 15, 16], 0)
  | 14 => some ([0, 1, 3, 4, 10, 11, 12, 13, 14, 15, 16], 0)
  | 15 => some ([0, 1, 3, 4, 10, 11, 12, 13], 0)
  | 16 => some ([0, 1, 3, 4, 10, 11, 12, 13], 0)
  | 17 => some ([0, 1, 2, 3, 4, 10, 11, 12, 13], 0)
  | 18 => some ([0, 1, 3, 4, 10, 11, 12, 13, 17], 0)
  | 19 => some ([0, 1, 3, 4, 10, 11, 12, 13, 17], 0)
  | 20 => some ([0, 1, 3, 4, 10, 11, 12, 13, 17], 0)
  | 21 => some ([0, 1, 3, 4, 10, 11, 12, 13, 17, 18], 0)
  | 22 => some ([0, 3, 4, 10, 11, 12, 13, 17, 18], 0)
  | 23 => some ([0, 1, 3, 4, 10, 11, 12, 13], 0)
  | 24 => some ([0, 1, 3, 4, 10, 11, 12, 13], 0)
  | 25 => some ([0, 3, 4, 10, 11, 12, 13], 0)
  | 26 => some ([0, 4, 10, 11, 12, 13], 0)
  | 27 => some ([0, 4, 10, 11, 12, 13], 0)
  | 28 => some ([0, 4, 10, 11, 12, 13], 0)
  | 29 => some ([0, 11, 12, 13], 0)
  | 30 => some ([10, 12, 13], 0)
  | _ => none
def kf93 : Nat → Option (List Nat × Nat)
  | 0 => some ([0, 1], 0)
  | 1 => some ([0, 1], 0)
  | 2 => some ([0, 1, 5], 0)
  | 3 => some ([0, 5], 0)
  | 4 => some ([0, 1], 0)
  | 5 => some ([0, 1, 6], 0)
  | 6 => some ([0, 1, 6, 7], 0)
  | 7 => some ([0, 1, 6, 7], 0)
  | 8 => some ([0, 1, 6, 7], 0)
  | 9 => some ([0, 1, 6, 7, 9], 0)
  | 10 => some ([0, 1, 6, 7, 9], 0)
  | 11 => some ([0, 1, 6], 0)
  | 12 => some ([0, 1, 6], 0)
  | 13 => some ([6], 0)
  | _ => none
def kf94 : Nat → Option (List Nat × Nat)
  | 0 => some ([0, 1], 0)
  | 1 => some ([0, 1], 0)
  | 2 => some ([0], 0)
  | 3 => some ([0, 1], 0)
  | 4 => some ([0, 1], 0)
  | 5 => some ([0, 1], 0)
  | 6 => some ([0, 1, 5], 0)
  | 7 => some ([0, 1, 5, 6], 0)
  | 8 => some ([5], 0)
  | 9 => some ([0, 1, 5, 6], 0)
  | 10 => some ([0, 1, 5, 6], 0)
  | _ => none
def kf95 : Nat → Option (List Nat × Nat)
  | 0 => some ([0, 1], 0)
  | 1 => some ([0, 1], 0)
  | _ => none
def kf97 : Nat → Option (List Nat × Nat)
  | 0 => some ([0], 0)
  | 1 => some ([0], 0)
  | _ => none
def kf98 : Nat → Option (List Nat × Nat)
  | 0 => some ([0], 0)
  | 1 => some ([0], 0)
  | 2 => some ([0, 3], 0)
  | 3 => some ([0, 3, 4], 0)
  | 4 => some ([0, 3, 4], 0)
  | 5 => some ([0, 3, 4], 0)
  | 6 => some ([0, 3, 4, 5], 0)
  | 7 => some ([0], 0)
  | 8 => some ([0, 4], 0)
  | 9 => some ([0, 3, 4], 0)
  | 10 => some ([0, 3, 4, 5], 0)
  | 11 => some ([0, 3, 4, 5], 0)
  | 12 => some ([0, 3, 4, 5], 0)
  | 13 => some ([0, 4, 5], 0)
  | 14 => some ([0, 3, 4, 5], 0)
  | 15 => some ([0, 3, 4, 5], 0)
  | 16 => some ([], 0)
  | 17 => some ([0, 4, 5], 0)
  | 18 => some ([0, 3, 4, 5], 0)
  | 19 => some ([], 0)
  | 20 => some ([0, 4, 5], 0)
  | 21 => some ([3], 0)
  | _ => none
def kf99 : Nat → Option (List Nat × Nat)
  | 0 => some ([0, 1], 0)
  | 1 => some ([0, 1], 0)
  | _ => none
def kf100 : Nat → Option (List Nat × Nat)
  | 0 => some ([0, 1], 0)
  | 1 => some ([0, 1], 0)
  | _ => none
def kf101 : Nat → Option (List Nat × Nat)
  | 0 => some ([0, 1, 2], 0)
  | 1 => some ([0, 1, 2], 0)
  | _ => none
def kf102 : Nat → Option (List Nat × Nat)
  | 0 => some ([0, 1, 2], 0)
  | 1 => some ([0, 1, 2], 0)
  | _ => none
def kf113 : Nat → Option (List Nat × Nat)
  | 0 => some ([0], 0)
  | 1 => some ([0], 0)
  | _ => none
def kf114 : Nat → Option (List Nat × Nat)
  | 0 => some ([0], 0)
  | 1 => some ([0, 2], 0)
  | 2 => some ([0], 0)
  | 3 => some ([0], 0)
  | 4 => some ([0, 2], 0)
  | 5 => some ([0, 2], 0)
  | 6 => some ([0, 2], 0)
  | 7 => some ([0, 2], 0)
  | 8 => some ([0, 2], 0)
  | 9 => some ([0, 2], 0)
  | 10 => some ([0, 2], 0)
  | _ => none
def kf115 : Nat → Option (List Nat × Nat)
  | 0 => some ([0], 0)
  | 1 => some ([0], 0)
  | 2 => some ([], 0)
  | 3 => some ([], 0)
  | _ => none
def kf116 : Nat → Option (List Nat × Nat)
  | 0 => some ([0], 0)
  | 1 => some ([0], 0)
  | _ => none
def kf117 : Nat → Option (List Nat × Nat)
  | 0 => some ([0], 0)
  | 1 => some ([0], 0)
  | 2 => some ([0], 0)
  | _ => none
def kf118 : Nat → Option (List Nat × Nat)
  | 0 => some ([0], 0)
  | 1 => some ([0, 2], 0)
  | 2 => some ([2, 4], 0)
  | 3 => some ([2, 4], 0)
  | 4 => some ([2], 0)
  | _ => none
def kf119 : Nat → Option (List Nat × Nat)
  | 0 => some ([0], 0)
  | 1 => some ([0], 0)
  | 2 => some ([0], 0)
  | 3 => some ([0], 0)
  | _ => none
def kf124 : Nat → Option (List Nat × Nat)
  | 0 => some ([0], 0)
  | 1 => some ([0], 0)
  | _ => none
def kf125 : Nat → Option (List Nat × Nat)
  | 0 => some ([0], 0)
  | 1 => some ([0], 0)
  | _ => none
def kf128 : Nat → Option (List Nat × Nat)
  | 0 => some ([0], 0)
  | 1 => some ([0], 0)
  | 2 => some ([], 0)
  | 3 => some ([0], 0)
  | _ => none
def kf129 : Nat → Option (List Nat × Nat)
  | 0 => some ([0], 0)
  | 1 => some ([0], 0)
  | 2 => some ([], 0)
  | 3 => some ([0], 0)
  | _ => none
def kf130 : Nat → Option (List Nat × Nat)
  | 0 => some ([0], 0)
  | 1 => some ([0], 0)
  | 2 => some ([0, 4], 0)
  | 3 => some ([], 0)
  | 4 => some ([0, 4], 0)
  | 5 => some ([0, 4, 5], 0)
  | 6 => some ([0, 4, 5, 6], 0)
  | 7 => some ([0, 6], 0)
  | 8 => some ([0, 7], 0)
  | 9 => some ([0, 4, 5, 6], 0)
  | 10 => some ([0, 4, 5, 6, 8], 0)
  | 11 => some ([0, 4, 5, 8, 9], 0)
  | 12 => some ([], 0)
  | 13 => some ([0, 5, 8, 9], 0)
  | 14 => some ([0, 5, 8, 9, 10], 0)
  | 15 => some ([], 0)
  | 16 => some ([0, 5, 8, 10], 0)
  | 17 => some ([5, 10], 0)
  | 18 => some ([0, 5, 8, 10], 0)
  | 19 => some ([0, 5, 8, 10, 11], 0)
  | 20 => some ([], 0)
  | 21 => some ([0, 5, 8, 10, 11], 0)
  | 22 => some ([5, 10, 11], 0)
  | 23 => some ([0, 5, 10, 11], 0)
  | 24 => some ([5, 10, 11, 12], 0)
  | 25 => some ([], 0)
  | 26 => some ([5, 10, 11, 12], 0)
  | _ => none
def kf132 : Nat → Option (List Nat × Nat)
  | 0 => some ([0], 0)
  | 1 => some ([0], 0)
  | _ => none
def kf133 : Nat → Option (List Nat × Nat)
  | 0 => some ([0, 1], 0)
  | 1 => some ([0, 1], 0)
  | 2 => some ([0], 0)
  | 3 => some ([0], 0)
  | 4 => some ([0], 0)
  | 5 => some ([0, 5], 0)
  | 6 => some ([0, 5, 6], 0)
  | 7 => some ([0, 5, 6], 0)
  | 8 => some ([0, 5, 6], 0)
  | 9 => some ([0, 5, 6, 7], 0)
  | 10 => some ([0, 5, 7], 0)
  | 11 => some ([5, 7], 0)
  | 12 => some ([5, 7], 0)
  | 13 => some ([5, 7], 0)
  | 14 => some ([0, 1], 0)
  | 15 => some ([9], 0)
  | _ => none
def keepT : Nat → Nat → Option (List Nat × Nat)
  | 10 => kf10
  | 11 => kf11
  | 13 => kf13
  | 32 => kf32
  | 33 => kf33
  | 34 => kf34
  | 35 => kf35
  | 36 => kf36
  | 37 => kf37
  | 53 => kf53
  | 54 => kf54
  | 55 => kf55
  | 56 => kf56
  | 57 => kf57
  | 58 => kf58
  | 59 => kf59
  | 69 => kf69
  | 70 => kf70
  | 71 => kf71
  | 72 => kf72
  | 73 => kf73
  | 74 => kf74
  | 89 => kf89
  | 90 => kf90
  | 91 => kf91
  | 92 => kf92
  | 93 => kf93
  | 94 => kf94
  | 95 => kf95
  | 97 => kf97
  | 98 => kf98
  | 99 => kf99
  | 100 => kf100
  | 101 => kf101
  | 102 => kf102
  | 113 => kf113
  | 114 => kf114
  | 115 => kf115
  | 116 => kf116
  | 117 => kf117
  | 118 => kf118
  | 119 => kf119
  | 124 => kf124
  | 125 => kf125
  | 128 => kf128
  | 129 => kf129
  | 130 => kf130
  | 132 => kf132
  | 133 => kf133
  | _ => fun _ => none
def frzT : Nat → Nat → List Nat
  | _, _ => []
def retT : Nat → Nat → List Nat
  | 35, 3 => [3]
  | _, _ => []
def permT : Nat → Bool
  | _ => false
def byRefT : Nat → Bool
  | 57 => true
  | _ => false
def badT : Nat → Bool
  | 2 => true
  | 3 => true
  | 4 => true
  | 5 => true
  | 6 => true
  | 7 => true
  | 8 => true
  | 9 => true
  | 12 => true
  | 14 => true
  | 15 => true
  | 16 => true
  | 17 => true
  | 18 => true
  | 19 => true
  | 20 => true
  | 21 => true
  | 22 => true
  | 23 => true
  | 24 => true
  | 25 => true
  | 26 => true
  | 27 => true
  | 28 => true
  | 29 => true
  | 30 => true
  | 31 => true
  | 38 => true
  | 39 => true
  | 40 => true
  | 41 => true
  | 42 => true
  | 43 => true
  | 44 => true
  | 45 => true
  | 46 => true
  | 47 => true
  | 48 => true
  | 49 => true
  | 50 => true
  | 51 => true
  | 52 => true
  | 60 => true
  | 61 => true
  | 63 => true
  | 64 => true
  | 65 => true
  | 66 => true
  | 67 => true
  | 68 => true
  | 75 => true
  | 76 => true
  | 77 => true
  | 78 => true
  | 79 => true
  | 80 => true
  | 81 => true
  | 82 => true
  | 83 => true
  | 85 => true
  | 86 => true
  | 87 => true
  | 88 => true
  | 96 => true
  | 104 => true
  | 105 => true
  | 106 => true
  | 107 => true
  | 108 => true
  | 110 => true
  | 111 => true
  | 112 => true
  | 122 => true
  | 123 => true
  | 131 => true
  | 163 => true
  | _ => false
def pureT : Nat → Bool
  | 13 => true
  | 32 => true
  | 33 => true
  | 34 => true
  | 35 => true
  | 36 => true
  | 37 => true
  | 53 => true
  | 54 => true
  | 56 => true
  | 58 => true
  | 59 => true
  | 60 => true
  | 69 => true
  | 71 => true
  | 74 => true
  | 92 => true
  | 94 => true
  | 95 => true
  | 97 => true
  | 116 => true
  | 117 => true
  | 123 => true
  | 129 => true
  | _ => false
def fzrT : Nat → Bool
  | 31 => false
  | 66 => false
  | _ => true
def extT : Nat → List D → Option D
  | 103 => idxBExt
  | 120 => cntExt
  | _ => fun _ => none
def conT : Nat → List D → Heap → Option (D × Heap)
  | 96 => conIdx
  | 123 => conClone
  | 60 => conRepeat
  | _ => fun _ _ => none
def gz1 : List Int := [1, 10, 100, 1000, 10000, 100000, 1000000, 10000000, 100000000, 1000000000, 10000000000, 100000000000, 1000000000000, 10000000000000, 100000000000000, 1000000000000000, 10000000000000000, 100000000000000000, 1000000000000000000, 10000000000000000000]
def gd1 : List D := gz1.map (D.int .u64)
def gs2 : List UInt8 := [105, 110, 118, 97, 108, 105, 100, 32, 115, 121, 110, 116, 97, 120]
def gs3 : List UInt8 := [118, 97, 108, 117, 101, 32, 111, 117, 116, 32, 111, 102, 32, 114, 97, 110, 103, 101]
def gz4 : List Int := [0, 1, 28, 2, 29, 14, 24, 3, 30, 22, 20, 15, 25, 17, 4, 8, 31, 27, 13, 23, 21, 19, 16, 7, 26, 12, 18, 6, 11, 5, 10, 9]
def gd4 : List D := gz4.map (D.int .u8)
def gz5 : List Int := [0, 1, 56, 2, 57, 49, 28, 3, 61, 58, 42, 50, 38, 29, 17, 4, 62, 47, 59, 36, 45, 43, 51, 22, 53, 39, 33, 30, 24, 18, 12, 5, 63, 55, 48, 27, 60, 41, 37, 16, 46, 35, 44, 21, 52, 32, 23, 11, 54, 26, 40, 15, 34, 20, 31, 10, 25, 14, 19, 9, 13, 8, 7, 6]
def gd5 : List D := gz5.map (D.int .u8)
def globT [MaxL] : Nat → Option (List D)
  | 1 => some gd1
  | 2 => some [.iface 163 (.vptr [.str gs2])]
  | 3 => some [.iface 163 (.vptr [.str gs3])]
  | 4 => some gd4
  | 5 => some gd5
  | 0 => some [.int .i64 MaxL.m]
  | _ => none
noncomputable def cx [MaxL] : Cx := { P := Tryd.prog, glob := globT, keep := keepT, byRef := byRefT, pureF := pureT, ext := extT, bad := badT, frz := frzT, ret := retT, fzr := fzrT, con := conT, perm := permT, dynV := true }
@[simp] theorem cxP [MaxL] : cx.P = Tryd.prog := rfl
@[simp] theorem cxD [MaxL] : cx.dynV = true := rfl
theorem cxF [MaxL] (f : Nat) : cx.P.funcs[f]? = Tryd.prog.funcs[f]? := rfl
@[simp] theorem gl1 [MaxL] : cx.glob 1 = some gd1 := rfl
@[simp] theorem gl2 [MaxL] : cx.glob 2 = some [.iface 163 (.vptr [.str gs2])] := rfl
@[simp] theorem gl3 [MaxL] : cx.glob 3 = some [.iface 163 (.vptr [.str gs3])] := rfl
@[simp] theorem gl4 [MaxL] : cx.glob 4 = some gd4 := rfl
@[simp] theorem gl5 [MaxL] : cx.glob 5 = some gd5 := rfl
@[simp] theorem br10 [MaxL] : cx.byRef 10 = false := rfl
@[simp] theorem pm10 [MaxL] : cx.perm 10 = false := rfl
@[simp] theorem pu10 [MaxL] : cx.pureF 10 = false := rfl
@[simp] theorem fz10 [MaxL] : cx.fzr 10 = true := rfl
@[simp] theorem br11 [MaxL] : cx.byRef 11 = false := rfl
@[simp] theorem pm11 [MaxL] : cx.perm 11 = false := rfl
@[simp] theorem pu11 [MaxL] : cx.pureF 11 = false := rfl
@[simp] theorem fz11 [MaxL] : cx.fzr 11 = true := rfl
@[simp] theorem br13 [MaxL] : cx.byRef 13 = false := rfl
@[simp] theorem pm13 [MaxL] : cx.perm 13 = false := rfl
@[simp] theorem pu13 [MaxL] : cx.pureF 13 = true := rfl
@[simp] theorem fz13 [MaxL] : cx.fzr 13 = true := rfl
@[simp] theorem br32 [MaxL] : cx.byRef 32 = false := rfl
@[simp] theorem pm32 [MaxL] : cx.perm 32 = false := rfl
@[simp] theorem pu32 [MaxL] : cx.pureF 32 = true := rfl
@[simp] theorem fz32 [MaxL] : cx.fzr 32 = true := rfl
@[simp] theorem br33 [MaxL] : cx.byRef 33 = false := rfl
@[simp] theorem pm33 [MaxL] : cx.perm 33 = false := rfl
@[simp] theorem pu33 [MaxL] : cx.pureF 33 = true := rfl
@[simp] theorem fz33 [MaxL] : cx.fzr 33 = true := rfl
@[simp] theorem br34 [MaxL] : cx.byRef 34 = false := rfl
@[simp] theorem pm34 [MaxL] : cx.perm 34 = false := rfl
@[simp] theorem pu34 [MaxL] : cx.pureF 34 = true := rfl
@[simp] theorem fz34 [MaxL] : cx.fzr 34 = true := rfl
@[simp] theorem br35 [MaxL] : cx.byRef 35 = false := rfl
@[simp] theorem pm35 [MaxL] : cx.perm 35 = false := rfl
@[simp] theorem pu35 [MaxL] : cx.pureF 35 = true := rfl
@[simp] theorem fz35 [MaxL] : cx.fzr 35 = true := rfl
@[simp] theorem br36 [MaxL] : cx.byRef 36 = false := rfl
@[simp] theorem pm36 [MaxL] : cx.perm 36 = false := rfl
@[simp] theorem pu36 [MaxL] : cx.pureF 36 = true := rfl
@[simp] theorem fz36 [MaxL] : cx.fzr 36 = true := rfl
@[simp] theorem br37 [MaxL] : cx.byRef 37 = false := rfl
@[simp] theorem pm37 [MaxL] : cx.perm 37 = false := rfl
@[simp] theorem pu37 [MaxL] : cx.pureF 37 = true := rfl
@[simp] theorem fz37 [MaxL] : cx.fzr 37 = true := rfl
@[simp] theorem br53 [MaxL] : cx.byRef 53 = false := rfl
@[simp] theorem pm53 [MaxL] : cx.perm 53 = false := rfl
@[simp] theorem pu53 [MaxL] : cx.pureF 53 = true := rfl
@[simp] theorem fz53 [MaxL] : cx.fzr 53 = true := rfl
@[simp] theorem br54 [MaxL] : cx.byRef 54 = false := rfl
@[simp] theorem pm54 [MaxL] : cx.perm 54 = false := rfl
@[simp] theorem pu54 [MaxL] : cx.pureF 54 = true := rfl
@[simp] theorem fz54 [MaxL] : cx.fzr 54 = true := rfl
@[simp] theorem br55 [MaxL] : cx.byRef 55 = false := rfl
@[simp] theorem pm55 [MaxL] : cx.perm 55 = false := rfl
@[simp] theorem pu55 [MaxL] : cx.pureF 55 = false := rfl
@[simp] theorem fz55 [MaxL] : cx.fzr 55 = true := rfl
@[simp] theorem br56 [MaxL] : cx.byRef 56 = false := rfl
@[simp] theorem pm56 [MaxL] : cx.perm 56 = false := rfl
@[simp] theorem pu56 [MaxL] : cx.pureF 56 = true := rfl
@[simp] theorem fz56 [MaxL] : cx.fzr 56 = true := rfl
@[simp] theorem br57 [MaxL] : cx.byRef 57 = true := rfl
@[simp] theorem pm57 [MaxL] : cx.perm 57 = false := rfl
@[simp] theorem pu57 [MaxL] : cx.pureF 57 = false := rfl
@[simp] theorem fz57 [MaxL] : cx.fzr 57 = true := rfl
@[simp] theorem br58 [MaxL] : cx.byRef 58 = false := rfl
@[simp] theorem pm58 [MaxL] : cx.perm 58 = false := rfl
@[simp] theorem pu58 [MaxL] : cx.pureF 58 = true := rfl
@[simp] theorem fz58 [MaxL] : cx.fzr 58 = true := rfl
@[simp] theorem br59 [MaxL] : cx.byRef 59 = false := rfl
@[simp] theorem pm59 [MaxL] : cx.perm 59 = false := rfl
@[simp] theorem pu59 [MaxL] : cx.pureF 59 = true := rfl
@[simp] theorem fz59 [MaxL] : cx.fzr 59 = true := rfl
@[simp] theorem br60 [MaxL] : cx.byRef 60 = false := rfl
@[simp] theorem pm60 [MaxL] : cx.perm 60 = false := rfl
@[simp] theorem pu60 [MaxL] : cx.pureF 60 = true := rfl
@[simp] theorem br69 [MaxL] : cx.byRef 69 = false := rfl
@[simp] theorem pm69 [MaxL] : cx.perm 69 = false := rfl
@[simp] theorem pu69 [MaxL] : cx.pureF 69 = true := rfl
@[simp] theorem fz69 [MaxL] : cx.fzr 69 = true := rfl
@[simp] theorem br70 [MaxL] : cx.byRef 70 = false := rfl
@[simp] theorem pm70 [MaxL] : cx.perm 70 = false := rfl
@[simp] theorem pu70 [MaxL] : cx.pureF 70 = false := rfl
@[simp] theorem fz70 [MaxL] : cx.fzr 70 = true := rfl
@[simp] theorem br71 [MaxL] : cx.byRef 71 = false := rfl
@[simp] theorem pm71 [MaxL] : cx.perm 71 = false := rfl
@[simp] theorem pu71 [MaxL] : cx.pureF 71 = true := rfl
@[simp] theorem fz71 [MaxL] : cx.fzr 71 = true := rfl
@[simp] theorem br72 [MaxL] : cx.byRef 72 = false := rfl
@[simp] theorem pm72 [MaxL] : cx.perm 72 = false := rfl
@[simp] theorem pu72 [MaxL] : cx.pureF 72 = false := rfl
@[simp] theorem fz72 [MaxL] : cx.fzr 72 = true := rfl
@[simp] theorem br73 [MaxL] : cx.byRef 73 = false := rfl
@[simp] theorem pm73 [MaxL] : cx.perm 73 = false := rfl
@[simp] theorem pu73 [MaxL] : cx.pureF 73 = false := rfl
@[simp] theorem fz73 [MaxL] : cx.fzr 73 = true := rfl
@[simp] theorem br74 [MaxL] : cx.byRef 74 = false := rfl
@[simp] theorem pm74 [MaxL] : cx.perm 74 = false := rfl
@[simp] theorem pu74 [MaxL] : cx.pureF 74 = true := rfl
@[simp] theorem fz74 [MaxL] : cx.fzr 74 = true := rfl
@[simp] theorem br89 [MaxL] : cx.byRef 89 = false := rfl
@[simp] theorem pm89 [MaxL] : cx.perm 89 = false := rfl
@[simp] theorem pu89 [MaxL] : cx.pureF 89 = false := rfl
@[simp] theorem fz89 [MaxL] : cx.fzr 89 = true := rfl
@[simp] theorem br90 [MaxL] : cx.byRef 90 = false := rfl
@[simp] theorem pm90 [MaxL] : cx.perm 90 = false := rfl
@[simp] theorem pu90 [MaxL] : cx.pureF 90 = false := rfl
@[simp] theorem fz90 [MaxL] : cx.fzr 90 = true := rfl
@[simp] theorem br91 [MaxL] : cx.byRef 91 = false := rfl
@[simp] theorem pm91 [MaxL] : cx.perm 91 = false := rfl
@[simp] theorem pu91 [MaxL] : cx.pureF 91 = false := rfl
@[simp] theorem fz91 [MaxL] : cx.fzr 91 = true := rfl
@[simp] theorem br92 [MaxL] : cx.byRef 92 = false := rfl
@[simp] theorem pm92 [MaxL] : cx.perm 92 = false := rfl
@[simp] theorem pu92 [MaxL] : cx.pureF 92 = true := rfl
@[simp] theorem fz92 [MaxL] : cx.fzr 92 = true := rfl
@[simp] theorem br93 [MaxL] : cx.byRef 93 = false := rfl
@[simp] theorem pm93 [MaxL] : cx.perm 93 = false := rfl
@[simp] theorem pu93 [MaxL] : cx.pureF 93 = false := rfl
@[simp] theorem fz93 [MaxL] : cx.fzr 93 = true := rfl
@[simp] theorem br94 [MaxL] : cx.byRef 94 = false := rfl
@[simp] theorem pm94 [MaxL] : cx.perm 94 = false := rfl
@[simp] theorem pu94 [MaxL] : cx.pureF 94 = true := rfl
@[simp] theorem fz94 [MaxL] : cx.fzr 94 = true := rfl
@[simp] theorem br95 [MaxL] : cx.byRef 95 = false := rfl
@[simp] theorem pm95 [MaxL] : cx.perm 95 = false := rfl
@[simp] theorem pu95 [MaxL] : cx.pureF 95 = true := rfl
@[simp] theorem fz95 [MaxL] : cx.fzr 95 = true := rfl
@[simp] theorem br96 [MaxL] : cx.byRef 96 = false := rfl
@[simp] theorem pm96 [MaxL] : cx.perm 96 = false := rfl
@[simp] theorem pu96 [MaxL] : cx.pureF 96 = false := rfl
@[simp] theorem br97 [MaxL] : cx.byRef 97 = false := rfl
@[simp] theorem pm97 [MaxL] : cx.perm 97 = false := rfl
@[simp] theorem pu97 [MaxL] : cx.pureF 97 = true := rfl
@[simp] theorem fz97 [MaxL] : cx.fzr 97 = true := rfl
@[simp] theorem br98 [MaxL] : cx.byRef 98 = false := rfl
@[simp] theorem pm98 [MaxL] : cx.perm 98 = false := rfl
@[simp] theorem pu98 [MaxL] : cx.pureF 98 = false := rfl
@[simp] theorem fz98 [MaxL] : cx.fzr 98 = true := rfl
@[simp] theorem br99 [MaxL] : cx.byRef 99 = false := rfl
@[simp] theorem pm99 [MaxL] : cx.perm 99 = false := rfl
@[simp] theorem pu99 [MaxL] : cx.pureF 99 = false := rfl
@[simp] theorem fz99 [MaxL] : cx.fzr 99 = true := rfl
@[simp] theorem br100 [MaxL] : cx.byRef 100 = false := rfl
@[simp] theorem pm100 [MaxL] : cx.perm 100 = false := rfl
@[simp] theorem pu100 [MaxL] : cx.pureF 100 = false := rfl
@[simp] theorem fz100 [MaxL] : cx.fzr 100 = true := rfl
@[simp] theorem br101 [MaxL] : cx.byRef 101 = false := rfl
@[simp] theorem pm101 [MaxL] : cx.perm 101 = false := rfl
@[simp] theorem pu101 [MaxL] : cx.pureF 101 = false := rfl
@[simp] theorem fz101 [MaxL] : cx.fzr 101 = true := rfl
@[simp] theorem br102 [MaxL] : cx.byRef 102 = false := rfl
@[simp] theorem pm102 [MaxL] : cx.perm 102 = false := rfl
@[simp] theorem pu102 [MaxL] : cx.pureF 102 = false := rfl
@[simp] theorem fz102 [MaxL] : cx.fzr 102 = true := rfl
@[simp] theorem br103 [MaxL] : cx.byRef 103 = false := rfl
@[simp] theorem pm103 [MaxL] : cx.perm 103 = false := rfl
@[simp] theorem pu103 [MaxL] : cx.pureF 103 = false := rfl
@[simp] theorem br113 [MaxL] : cx.byRef 113 = false := rfl
@[simp] theorem pm113 [MaxL] : cx.perm 113 = false := rfl
@[simp] theorem pu113 [MaxL] : cx.pureF 113 = false := rfl
@[simp] theorem fz113 [MaxL] : cx.fzr 113 = true := rfl
@[simp] theorem br114 [MaxL] : cx.byRef 114 = false := rfl
@[simp] theorem pm114 [MaxL] : cx.perm 114 = false := rfl
@[simp] theorem pu114 [MaxL] : cx.pureF 114 = false := rfl
@[simp] theorem fz114 [MaxL] : cx.fzr 114 = true := rfl
@[simp] theorem br115 [MaxL] : cx.byRef 115 = false := rfl
@[simp] theorem pm115 [MaxL] : cx.perm 115 = false := rfl
@[simp] theorem pu115 [MaxL] : cx.pureF 115 = false := rfl
@[simp] theorem fz115 [MaxL] : cx.fzr 115 = true := rfl
@[simp] theorem br116 [MaxL] : cx.byRef 116 = false := rfl
@[simp] theorem pm116 [MaxL] : cx.perm 116 = false := rfl
@[simp] theorem pu116 [MaxL] : cx.pureF 116 = true := rfl
@[simp] theorem fz116 [MaxL] : cx.fzr 116 = true := rfl
@[simp] theorem br117 [MaxL] : cx.byRef 117 = false := rfl
@[simp] theorem pm117 [MaxL] : cx.perm 117 = false := rfl
@[simp] theorem pu117 [MaxL] : cx.pureF 117 = true := rfl
@[simp] theorem fz117 [MaxL] : cx.fzr 117 = true := rfl
@[simp] theorem br118 [MaxL] : cx.byRef 118 = false := rfl
@[simp] theorem pm118 [MaxL] : cx.perm 118 = false := rfl
@[simp] theorem pu118 [MaxL] : cx.pureF 118 = false := rfl
@[simp] theorem fz118 [MaxL] : cx.fzr 118 = true := rfl
@[simp] theorem br119 [MaxL] : cx.byRef 119 = false := rfl
@[simp] theorem pm119 [MaxL] : cx.perm 119 = false := rfl
@[simp] theorem pu119 [MaxL] : cx.pureF 119 = false := rfl
@[simp] theorem fz119 [MaxL] : cx.fzr 119 = true := rfl
@[simp] theorem br120 [MaxL] : cx.byRef 120 = false := rfl
@[simp] theorem pm120 [MaxL] : cx.perm 120 = false := rfl
@[simp] theorem pu120 [MaxL] : cx.pureF 120 = false := rfl
@[simp] theorem br123 [MaxL] : cx.byRef 123 = false := rfl
@[simp] theorem pm123 [MaxL] : cx.perm 123 = false := rfl
@[simp] theorem pu123 [MaxL] : cx.pureF 123 = true := rfl
@[simp] theorem br124 [MaxL] : cx.byRef 124 = false := rfl
@[simp] theorem pm124 [MaxL] : cx.perm 124 = false := rfl
@[simp] theorem pu124 [MaxL] : cx.pureF 124 = false := rfl
@[simp] theorem fz124 [MaxL] : cx.fzr 124 = true := rfl
@[simp] theorem br125 [MaxL] : cx.byRef 125 = false := rfl
@[simp] theorem pm125 [MaxL] : cx.perm 125 = false := rfl
@[simp] theorem pu125 [MaxL] : cx.pureF 125 = false := rfl
@[simp] theorem fz125 [MaxL] : cx.fzr 125 = true := rfl
@[simp] theorem br128 [MaxL] : cx.byRef 128 = false := rfl
@[simp] theorem pm128 [MaxL] : cx.perm 128 = false := rfl
@[simp] theorem pu128 [MaxL] : cx.pureF 128 = false := rfl
@[simp] theorem fz128 [MaxL] : cx.fzr 128 = true := rfl
@[simp] theorem br129 [MaxL] : cx.byRef 129 = false := rfl
@[simp] theorem pm129 [MaxL] : cx.perm 129 = false := rfl
@[simp] theorem pu129 [MaxL] : cx.pureF 129 = true := rfl
@[simp] theorem fz129 [MaxL] : cx.fzr 129 = true := rfl
@[simp] theorem br130 [MaxL] : cx.byRef 130 = false := rfl
@[simp] theorem pm130 [MaxL] : cx.perm 130 = false := rfl
@[simp] theorem pu130 [MaxL] : cx.pureF 130 = false := rfl
@[simp] theorem fz130 [MaxL] : cx.fzr 130 = true := rfl
@[simp] theorem br132 [MaxL] : cx.byRef 132 = false := rfl
@[simp] theorem pm132 [MaxL] : cx.perm 132 = false := rfl
@[simp] theorem pu132 [MaxL] : cx.pureF 132 = false := rfl
@[simp] theorem fz132 [MaxL] : cx.fzr 132 = true := rfl
@[simp] theorem br133 [MaxL] : cx.byRef 133 = false := rfl
@[simp] theorem pm133 [MaxL] : cx.perm 133 = false := rfl
@[simp] theorem pu133 [MaxL] : cx.pureF 133 = false := rfl
@[simp] theorem fz133 [MaxL] : cx.fzr 133 = true := rfl
theorem ex103 [MaxL] (args : List D) : cx.ext 103 args = idxBExt args := rfl
theorem ex120 [MaxL] (args : List D) : cx.ext 120 args = cntExt args := rfl
theorem co96 [MaxL] (args : List D) (H : Heap) : cx.con 96 args H = conIdx args H := rfl
theorem co123 [MaxL] (args : List D) (H : Heap) : cx.con 123 args H = conClone args H := rfl
theorem co60 [MaxL] (args : List D) (H : Heap) : cx.con 60 args H = conRepeat args H := rfl
end Go.Ev.S
/- What the evaluator needs of this program: printed by program. -/
namespace Go.Ev.S
open Go Go.Proofs Go.Ev
@[simp] theorem en10_0 [MaxL] (n0 : Nat) (e : Env) (H : Heap) : enter cx 10 n0 0 e H = enterK [0, 1, 2] 0 n0 e H := rfl
@[simp] theorem en10_1 [MaxL] (n0 : Nat) (e : Env) (H : Heap) : enter cx 10 n0 1 e H = enterK [1, 2, 3] 0 n0 e H := rfl
@[simp] theorem en10_2 [MaxL] (n0 : Nat) (e : Env) (H : Heap) : enter cx 10 n0 2 e H = enterK [1, 2, 3, 7] 0 n0 e H := rfl
@[simp] theorem en10_3 [MaxL] (n0 : Nat) (e : Env) (H : Heap) : enter cx 10 n0 3 e H = enterK [] 0 n0 e H := rfl
@[simp] theorem en10_4 [MaxL] (n0 : Nat) (e : Env) (H : Heap) : enter cx 10 n0 4 e H = enterK [1, 2, 3, 7] 0 n0 e H := rfl
@[simp] theorem en10_5 [MaxL] (n0 : Nat) (e : Env) (H : Heap) : enter cx 10 n0 5 e H = enterK [1, 2, 3, 7, 8] 0 n0 e H := rfl
@[simp] theorem en10_6 [MaxL] (n0 : Nat) (e : Env) (H : Heap) : enter cx 10 n0 6 e H = enterK [] 0 n0 e H := rfl
@[simp] theorem en10_7 [MaxL] (n0 : Nat) (e : Env) (H : Heap) : enter cx 10 n0 7 e H = enterK [1, 2, 3, 7, 8] 0 n0 e H := rfl
@[simp] theorem en10_8 [MaxL] (n0 : Nat) (e : Env) (H : Heap) : enter cx 10 n0 8 e H = enterK [1, 2, 3, 7, 8, 9, 10] 0 n0 e H := rfl
@[simp] theorem en10_9 [MaxL] (n0 : Nat) (e : Env) (H : Heap) : enter cx 10 n0 9 e H = enterK [2, 3, 7, 8, 9, 10, 11] 0 n0 e H := rfl
@[simp] theorem en10_10 [MaxL] (n0 : Nat) (e : Env) (H : Heap) : enter cx 10 n0 10 e H = enterK [2, 3, 7, 8, 9, 10, 11, 12] 0 n0 e H := rfl
@[simp] theorem en10_11 [MaxL] (n0 : Nat) (e : Env) (H : Heap) : enter cx 10 n0 11 e H = enterK [2, 3, 7, 8, 9, 10, 11, 12] 0 n0 e H := rfl
@[simp] theorem en10_12 [MaxL] (n0 : Nat) (e : Env) (H : Heap) : enter cx 10 n0 12 e H = enterK [2, 3, 7, 8, 9, 10, 11, 12, 13, 14] 0 n0 e H := rfl
@[simp] theorem en10_13 [MaxL] (n0 : Nat) (e : Env) (H : Heap) : enter cx 10 n0 13 e H = enterK [2, 3, 7, 8, 9, 10, 11, 12, 13, 14, 15, 16] 0 n0 e H := rfl
@[simp] theorem en10_14 [MaxL] (n0 : Nat) (e : Env) (H : Heap) : enter cx 10 n0 14 e H = enterK [2, 3, 7, 9, 10, 12, 13, 14, 15, 16, 17, 18] 0 n0 e H := rfl
@[simp] theorem en10_15 [MaxL] (n0 : Nat) (e : Env) (H : Heap) : enter cx 10 n0 15 e H = enterK [2, 3, 7, 9, 10, 12, 13, 14, 15, 16, 17, 18, 19, 20] 0 n0 e H := rfl
@[simp] theorem en10_16 [MaxL] (n0 : Nat) (e : Env) (H : Heap) : enter cx 10 n0 16 e H = enterK [2, 3, 7, 9, 10, 12, 13, 14, 15, 16, 17, 18, 19, 20, 21, 22] 0 n0 e H := rfl
@[simp] theorem en11_0 [MaxL] (n0 : Nat) (e : Env) (H : Heap) : enter cx 11 n0 0 e H = enterK [] 0 n0 e H := rfl
@[simp] theorem en11_1 [MaxL] (n0 : Nat) (e : Env) (H : Heap) : enter cx 11 n0 1 e H = enterK [] 0 n0 e H := rfl
@[simp] theorem en11_2 [MaxL] (n0 : Nat) (e : Env) (H : Heap) : enter cx 11 n0 2 e H = enterK [1] 0 n0 e H := rfl
@[simp] theorem en13_0 [MaxL] (n0 : Nat) (e : Env) (H : Heap) : enter cx 13 n0 0 e H = enterK [0, 1] 0 n0 e H := rfl
@[simp] theorem en13_1 [MaxL] (n0 : Nat) (e : Env) (H : Heap) : enter cx 13 n0 1 e H = enterK [0, 1] 0 n0 e H := rfl
@[simp] theorem en13_2 [MaxL] (n0 : Nat) (e : Env) (H : Heap) : enter cx 13 n0 2 e H = enterK [] 0 n0 e H := rfl
@[simp] theorem en13_3 [MaxL] (n0 : Nat) (e : Env) (H : Heap) : enter cx 13 n0 3 e H = enterK [0, 1] 0 n0 e H := rfl
@[simp] theorem en32_0 [MaxL] (n0 : Nat) (e : Env) (H : Heap) : enter cx 32 n0 0 e H = enterK [0] 0 n0 e H := rfl
@[simp] theorem en32_1 [MaxL] (n0 : Nat) (e : Env) (H : Heap) : enter cx 32 n0 1 e H = enterK [1] 0 n0 e H := rfl
@[simp] theorem en32_2 [MaxL] (n0 : Nat) (e : Env) (H : Heap) : enter cx 32 n0 2 e H = enterK [1, 3] 0 n0 e H := rfl
@[simp] theorem en33_0 [MaxL] (n0 : Nat) (e : Env) (H : Heap) : enter cx 33 n0 0 e H = enterK [0] 0 n0 e H := rfl
@[simp] theorem en33_1 [MaxL] (n0 : Nat) (e : Env) (H : Heap) : enter cx 33 n0 1 e H = enterK [0, 2] 0 n0 e H := rfl
@[simp] theorem en33_2 [MaxL] (n0 : Nat) (e : Env) (H : Heap) : enter cx 33 n0 2 e H = enterK [0, 2, 4] 0 n0 e H := rfl
@[simp] theorem en33_3 [MaxL] (n0 : Nat) (e : Env) (H : Heap) : enter cx 33 n0 3 e H = enterK [0, 2, 4, 13, 14, 15] 5 n0 e H := rfl
@[simp] theorem en33_4 [MaxL] (n0 : Nat) (e : Env) (H : Heap) : enter cx 33 n0 4 e H = enterK [0, 2, 4, 13, 14, 15] 0 n0 e H := rfl
@[simp] theorem en33_5 [MaxL] (n0 : Nat) (e : Env) (H : Heap) : enter cx 33 n0 5 e H = enterK [0, 2, 4, 6, 13, 14, 15] 0 n0 e H := rfl
@[simp] theorem en33_6 [MaxL] (n0 : Nat) (e : Env) (H : Heap) : enter cx 33 n0 6 e H = enterK [0, 2, 4, 8, 13, 14, 15] 0 n0 e H := rfl
@[simp] theorem en33_7 [MaxL] (n0 : Nat) (e : Env) (H : Heap) : enter cx 33 n0 7 e H = enterK [0, 2, 4, 13, 14, 15] 0 n0 e H := rfl
@[simp] theorem en33_8 [MaxL] (n0 : Nat) (e : Env) (H : Heap) : enter cx 33 n0 8 e H = enterK [0, 2, 4] 0 n0 e H := rfl
@[simp] theorem en33_9 [MaxL] (n0 : Nat) (e : Env) (H : Heap) : enter cx 33 n0 9 e H = enterK [2] 0 n0 e H := rfl
@[simp] theorem en33_10 [MaxL] (n0 : Nat) (e : Env) (H : Heap) : enter cx 33 n0 10 e H = enterK [0, 2, 4] 0 n0 e H := rfl
@[simp] theorem en33_11 [MaxL] (n0 : Nat) (e : Env) (H : Heap) : enter cx 33 n0 11 e H = enterK [0, 2, 4, 10] 0 n0 e H := rfl
@[simp] theorem en33_12 [MaxL] (n0 : Nat) (e : Env) (H : Heap) : enter cx 33 n0 12 e H = enterK [0, 2, 4, 11] 0 n0 e H := rfl
@[simp] theorem en33_13 [MaxL] (n0 : Nat) (e : Env) (H : Heap) : enter cx 33 n0 13 e H = enterK [0, 2, 4, 11] 0 n0 e H := rfl
@[simp] theorem en33_14 [MaxL] (n0 : Nat) (e : Env) (H : Heap) : enter cx 33 n0 14 e H = enterK [0, 2, 11] 0 n0 e H := rfl
@[simp] theorem en33_15 [MaxL] (n0 : Nat) (e : Env) (H : Heap) : enter cx 33 n0 15 e H = enterK [2] 0 n0 e H := rfl
@[simp] theorem en33_16 [MaxL] (n0 : Nat) (e : Env) (H : Heap) : enter cx 33 n0 16 e H = enterK [2, 11] 0 n0 e H := rfl
@[simp] theorem en34_0 [MaxL] (n0 : Nat) (e : Env) (H : Heap) : enter cx 34 n0 0 e H = enterK [0] 0 n0 e H := rfl
@[simp] theorem en34_1 [MaxL] (n0 : Nat) (e : Env) (H : Heap) : enter cx 34 n0 1 e H = enterK [0, 2] 0 n0 e H := rfl
@[simp] theorem en34_2 [MaxL] (n0 : Nat) (e : Env) (H : Heap) : enter cx 34 n0 2 e H = enterK [0, 2, 4] 0 n0 e H := rfl
@[simp] theorem en34_3 [MaxL] (n0 : Nat) (e : Env) (H : Heap) : enter cx 34 n0 3 e H = enterK [2] 0 n0 e H := rfl
@[simp] theorem en34_4 [MaxL] (n0 : Nat) (e : Env) (H : Heap) : enter cx 34 n0 4 e H = enterK [0, 2, 4] 0 n0 e H := rfl
@[simp] theorem en34_5 [MaxL] (n0 : Nat) (e : Env) (H : Heap) : enter cx 34 n0 5 e H = enterK [0, 2, 4, 12, 13] 0 n0 e H := rfl
@[simp] theorem en34_6 [MaxL] (n0 : Nat) (e : Env) (H : Heap) : enter cx 34 n0 6 e H = enterK [0, 2, 4, 12, 13] 0 n0 e H := rfl
@[simp] theorem en34_7 [MaxL] (n0 : Nat) (e : Env) (H : Heap) : enter cx 34 n0 7 e H = enterK [0, 2, 4, 5, 12, 13] 0 n0 e H := rfl
@[simp] theorem en34_8 [MaxL] (n0 : Nat) (e : Env) (H : Heap) : enter cx 34 n0 8 e H = enterK [0, 2, 4, 5, 6, 12, 13] 0 n0 e H := rfl
@[simp] theorem en34_9 [MaxL] (n0 : Nat) (e : Env) (H : Heap) : enter cx 34 n0 9 e H = enterK [2] 0 n0 e H := rfl
@[simp] theorem en34_10 [MaxL] (n0 : Nat) (e : Env) (H : Heap) : enter cx 34 n0 10 e H = enterK [0, 2, 4, 5, 6, 12, 13] 0 n0 e H := rfl
@[simp] theorem en34_11 [MaxL] (n0 : Nat) (e : Env) (H : Heap) : enter cx 34 n0 11 e H = enterK [0, 2, 4, 12, 13] 0 n0 e H := rfl
@[simp] theorem en34_12 [MaxL] (n0 : Nat) (e : Env) (H : Heap) : enter cx 34 n0 12 e H = enterK [2, 4] 0 n0 e H := rfl
@[simp] theorem en35_0 [MaxL] (n0 : Nat) (e : Env) (H : Heap) : enter cx 35 n0 0 e H = enterK [0] 0 n0 e H := rfl
@[simp] theorem en35_1 [MaxL] (n0 : Nat) (e : Env) (H : Heap) : enter cx 35 n0 1 e H = enterK [1] 0 n0 e H := rfl
@[simp] theorem en35_2 [MaxL] (n0 : Nat) (e : Env) (H : Heap) : enter cx 35 n0 2 e H = enterK [1, 3] 0 n0 e H := rfl
@[simp] theorem en35_3 [MaxL] (n0 : Nat) (e : Env) (H : Heap) : enter cx 35 n0 3 e H = enterR [] [3] [6, 7] n0 e H := rfl
@[simp] theorem en35_4 [MaxL] (n0 : Nat) (e : Env) (H : Heap) : enter cx 35 n0 4 e H = enterK [3, 6, 7] 0 n0 e H := rfl
@[simp] theorem en35_5 [MaxL] (n0 : Nat) (e : Env) (H : Heap) : enter cx 35 n0 5 e H = enterK [3, 5, 6, 7] 0 n0 e H := rfl
@[simp] theorem en35_6 [MaxL] (n0 : Nat) (e : Env) (H : Heap) : enter cx 35 n0 6 e H = enterK [3, 6, 7] 0 n0 e H := rfl
@[simp] theorem en35_7 [MaxL] (n0 : Nat) (e : Env) (H : Heap) : enter cx 35 n0 7 e H = enterK [3] 0 n0 e H := rfl
@[simp] theorem en36_0 [MaxL] (n0 : Nat) (e : Env) (H : Heap) : enter cx 36 n0 0 e H = enterK [0] 0 n0 e H := rfl
@[simp] theorem en36_1 [MaxL] (n0 : Nat) (e : Env) (H : Heap) : enter cx 36 n0 1 e H = enterK [0] 0 n0 e H := rfl
@[simp] theorem en36_2 [MaxL] (n0 : Nat) (e : Env) (H : Heap) : enter cx 36 n0 2 e H = enterK [0, 4, 5] 0 n0 e H := rfl
@[simp] theorem en36_3 [MaxL] (n0 : Nat) (e : Env) (H : Heap) : enter cx 36 n0 3 e H = enterK [] 0 n0 e H := rfl
@[simp] theorem en36_4 [MaxL] (n0 : Nat) (e : Env) (H : Heap) : enter cx 36 n0 4 e H = enterK [4] 0 n0 e H := rfl
@[simp] theorem en37_0 [MaxL] (n0 : Nat) (e : Env) (H : Heap) : enter cx 37 n0 0 e H = enterK [0] 0 n0 e H := rfl
@[simp] theorem en37_1 [MaxL] (n0 : Nat) (e : Env) (H : Heap) : enter cx 37 n0 1 e H = enterK [0] 0 n0 e H := rfl
@[simp] theorem en37_2 [MaxL] (n0 : Nat) (e : Env) (H : Heap) : enter cx 37 n0 2 e H = enterK [3] 0 n0 e H := rfl
@[simp] theorem en53_0 [MaxL] (n0 : Nat) (e : Env) (H : Heap) : enter cx 53 n0 0 e H = enterK [0] 0 n0 e H := rfl
@[simp] theorem en53_1 [MaxL] (n0 : Nat) (e : Env) (H : Heap) : enter cx 53 n0 1 e H = enterK [0] 0 n0 e H := rfl
@[simp] theorem en54_0 [MaxL] (n0 : Nat) (e : Env) (H : Heap) : enter cx 54 n0 0 e H = enterK [0, 1] 0 n0 e H := rfl
@[simp] theorem en54_1 [MaxL] (n0 : Nat) (e : Env) (H : Heap) : enter cx 54 n0 1 e H = enterK [0, 1] 0 n0 e H := rfl
@[simp] theorem en55_0 [MaxL] (n0 : Nat) (e : Env) (H : Heap) : enter cx 55 n0 0 e H = enterK [0, 1] 0 n0 e H := rfl
@[simp] theorem en55_1 [MaxL] (n0 : Nat) (e : Env) (H : Heap) : enter cx 55 n0 1 e H = enterK [0, 1] 0 n0 e H := rfl
@[simp] theorem en56_0 [MaxL] (n0 : Nat) (e : Env) (H : Heap) : enter cx 56 n0 0 e H = enterK [0, 1] 0 n0 e H := rfl
@[simp] theorem en56_1 [MaxL] (n0 : Nat) (e : Env) (H : Heap) : enter cx 56 n0 1 e H = enterK [0, 1] 0 n0 e H := rfl
@[simp] theorem en57_0 [MaxL] (n0 : Nat) (e : Env) (H : Heap) : enter cx 57 n0 0 e H = enterK [0, 1] 0 n0 e H := rfl
@[simp] theorem en57_1 [MaxL] (n0 : Nat) (e : Env) (H : Heap) : enter cx 57 n0 1 e H = enterK [0, 1] 0 n0 e H := rfl
@[simp] theorem en57_2 [MaxL] (n0 : Nat) (e : Env) (H : Heap) : enter cx 57 n0 2 e H = enterK [4, 5] 0 n0 e H := rfl
@[simp] theorem en57_3 [MaxL] (n0 : Nat) (e : Env) (H : Heap) : enter cx 57 n0 3 e H = enterK [] 0 n0 e H := rfl
@[simp] theorem en57_4 [MaxL] (n0 : Nat) (e : Env) (H : Heap) : enter cx 57 n0 4 e H = enterK [4] 0 n0 e H := rfl
@[simp] theorem en58_0 [MaxL] (n0 : Nat) (e : Env) (H : Heap) : enter cx 58 n0 0 e H = enterK [0, 1, 2] 0 n0 e H := rfl
@[simp] theorem en58_1 [MaxL] (n0 : Nat) (e : Env) (H : Heap) : enter cx 58 n0 1 e H = enterK [0, 1, 2] 0 n0 e H := rfl
@[simp] theorem en58_2 [MaxL] (n0 : Nat) (e : Env) (H : Heap) : enter cx 58 n0 2 e H = enterK [0, 1, 2, 8, 9] 0 n0 e H := rfl
@[simp] theorem en58_3 [MaxL] (n0 : Nat) (e : Env) (H : Heap) : enter cx 58 n0 3 e H = enterK [0, 1, 2, 8, 9] 0 n0 e H := rfl
@[simp] theorem en58_4 [MaxL] (n0 : Nat) (e : Env) (H : Heap) : enter cx 58 n0 4 e H = enterK [8] 0 n0 e H := rfl
@[simp] theorem en59_0 [MaxL] (n0 : Nat) (e : Env) (H : Heap) : enter cx 59 n0 0 e H = enterK [0, 1] 0 n0 e H := rfl
@[simp] theorem en59_1 [MaxL] (n0 : Nat) (e : Env) (H : Heap) : enter cx 59 n0 1 e H = enterK [0, 1] 0 n0 e H := rfl
@[simp] theorem en69_0 [MaxL] (n0 : Nat) (e : Env) (H : Heap) : enter cx 69 n0 0 e H = enterK [0, 1] 0 n0 e H := rfl
@[simp] theorem en69_1 [MaxL] (n0 : Nat) (e : Env) (H : Heap) : enter cx 69 n0 1 e H = enterK [0, 1] 0 n0 e H := rfl
@[simp] theorem en69_2 [MaxL] (n0 : Nat) (e : Env) (H : Heap) : enter cx 69 n0 2 e H = enterK [0] 0 n0 e H := rfl
@[simp] theorem en69_3 [MaxL] (n0 : Nat) (e : Env) (H : Heap) : enter cx 69 n0 3 e H = enterK [0] 0 n0 e H := rfl
@[simp] theorem en69_4 [MaxL] (n0 : Nat) (e : Env) (H : Heap) : enter cx 69 n0 4 e H = enterK [0] 0 n0 e H := rfl
@[simp] theorem en69_5 [MaxL] (n0 : Nat) (e : Env) (H : Heap) : enter cx 69 n0 5 e H = enterK [0, 5] 0 n0 e H := rfl
@[simp] theorem en69_6 [MaxL] (n0 : Nat) (e : Env) (H : Heap) : enter cx 69 n0 6 e H = enterK [0, 5, 6] 0 n0 e H := rfl
@[simp] theorem en69_7 [MaxL] (n0 : Nat) (e : Env) (H : Heap) : enter cx 69 n0 7 e H = enterK [5, 6] 0 n0 e H := rfl
@[simp] theorem en69_8 [MaxL] (n0 : Nat) (e : Env) (H : Heap) : enter cx 69 n0 8 e H = enterK [0, 1] 0 n0 e H := rfl
@[simp] theorem en69_9 [MaxL] (n0 : Nat) (e : Env) (H : Heap) : enter cx 69 n0 9 e H = enterK [8] 0 n0 e H := rfl
@[simp] theorem en70_0 [MaxL] (n0 : Nat) (e : Env) (H : Heap) : enter cx 70 n0 0 e H = enterK [0, 1, 2, 3] 0 n0 e H := rfl
@[simp] theorem en70_1 [MaxL] (n0 : Nat) (e : Env) (H : Heap) : enter cx 70 n0 1 e H = enterK [0, 1, 2, 3] 0 n0 e H := rfl
@[simp] theorem en70_2 [MaxL] (n0 : Nat) (e : Env) (H : Heap) : enter cx 70 n0 2 e H = enterK [] 0 n0 e H := rfl
@[simp] theorem en70_3 [MaxL] (n0 : Nat) (e : Env) (H : Heap) : enter cx 70 n0 3 e H = enterK [0, 1, 2, 3] 0 n0 e H := rfl
@[simp] theorem en70_4 [MaxL] (n0 : Nat) (e : Env) (H : Heap) : enter cx 70 n0 4 e H = enterK [0, 3] 0 n0 e H := rfl
@[simp] theorem en70_5 [MaxL] (n0 : Nat) (e : Env) (H : Heap) : enter cx 70 n0 5 e H = enterK [0, 1, 2, 3] 0 n0 e H := rfl
@[simp] theorem en70_6 [MaxL] (n0 : Nat) (e : Env) (H : Heap) : enter cx 70 n0 6 e H = enterK [0, 1, 2] 0 n0 e H := rfl
@[simp] theorem en70_7 [MaxL] (n0 : Nat) (e : Env) (H : Heap) : enter cx 70 n0 7 e H = enterK [0, 1, 2, 3] 0 n0 e H := rfl
@[simp] theorem en70_8 [MaxL] (n0 : Nat) (e : Env) (H : Heap) : enter cx 70 n0 8 e H = enterK [0, 1, 2, 3] 0 n0 e H := rfl
@[simp] theorem en70_9 [MaxL] (n0 : Nat) (e : Env) (H : Heap) : enter cx 70 n0 9 e H = enterK [0, 1, 2, 3, 9] 0 n0 e H := rfl
@[simp] theorem en70_10 [MaxL] (n0 : Nat) (e : Env) (H : Heap) : enter cx 70 n0 10 e H = enterK [0, 1, 2, 3, 9] 0 n0 e H := rfl
@[simp] theorem en70_11 [MaxL] (n0 : Nat) (e : Env) (H : Heap) : enter cx 70 n0 11 e H = enterK [0, 1, 2, 3, 9, 10] 0 n0 e H := rfl
@[simp] theorem en70_12 [MaxL] (n0 : Nat) (e : Env) (H : Heap) : enter cx 70 n0 12 e H = enterK [0, 1, 2, 3, 9, 10] 0 n0 e H := rfl
@[simp] theorem en70_13 [MaxL] (n0 : Nat) (e : Env) (H : Heap) : enter cx 70 n0 13 e H = enterK [0, 1, 2, 3, 9, 10, 11] 0 n0 e H := rfl
@[simp] theorem en70_14 [MaxL] (n0 : Nat) (e : Env) (H : Heap) : enter cx 70 n0 14 e H = enterK [0, 1, 2, 3, 9, 10, 11] 0 n0 e H := rfl
@[simp] theorem en70_15 [MaxL] (n0 : Nat) (e : Env) (H : Heap) : enter cx 70 n0 15 e H = enterK [0, 1, 2, 3, 9, 10, 11] 0 n0 e H := rfl
@[simp] theorem en70_16 [MaxL] (n0 : Nat) (e : Env) (H : Heap) : enter cx 70 n0 16 e H = enterK [0, 1, 2, 3, 9, 10] 0 n0 e H := rfl
@[simp] theorem en70_17 [MaxL] (n0 : Nat) (e : Env) (H : Heap) : enter cx 70 n0 17 e H = enterK [0, 9, 10] 0 n0 e H := rfl
@[simp] theorem en70_18 [MaxL] (n0 : Nat) (e : Env) (H : Heap) : enter cx 70 n0 18 e H = enterK [9, 10] 0 n0 e H := rfl
@[simp] theorem en71_0 [MaxL] (n0 : Nat) (e : Env) (H : Heap) : enter cx 71 n0 0 e H = enterK [0, 1] 0 n0 e H := rfl
@[simp] theorem en71_1 [MaxL] (n0 : Nat) (e : Env) (H : Heap) : enter cx 71 n0 1 e H = enterK [0, 1] 0 n0 e H := rfl
@[simp] theorem en71_2 [MaxL] (n0 : Nat) (e : Env) (H : Heap) : enter cx 71 n0 2 e H = enterK [0, 1, 7] 0 n0 e H := rfl
@[simp] theorem en71_3 [MaxL] (n0 : Nat) (e : Env) (H : Heap) : enter cx 71 n0 3 e H = enterK [0, 1, 7] 0 n0 e H := rfl
@[simp] theorem en71_4 [MaxL] (n0 : Nat) (e : Env) (H : Heap) : enter cx 71 n0 4 e H = enterK [0] 0 n0 e H := rfl
@[simp] theorem en72_0 [MaxL] (n0 : Nat) (e : Env) (H : Heap) : enter cx 72 n0 0 e H = enterK [0, 1, 2] 0 n0 e H := rfl
@[simp] theorem en72_1 [MaxL] (n0 : Nat) (e : Env) (H : Heap) : enter cx 72 n0 1 e H = enterK [0, 1, 2] 0 n0 e H := rfl
@[simp] theorem en72_2 [MaxL] (n0 : Nat) (e : Env) (H : Heap) : enter cx 72 n0 2 e H = enterK [] 0 n0 e H := rfl
@[simp] theorem en72_3 [MaxL] (n0 : Nat) (e : Env) (H : Heap) : enter cx 72 n0 3 e H = enterK [0, 1, 2] 0 n0 e H := rfl
@[simp] theorem en72_4 [MaxL] (n0 : Nat) (e : Env) (H : Heap) : enter cx 72 n0 4 e H = enterK [0, 1, 2, 8] 0 n0 e H := rfl
@[simp] theorem en72_5 [MaxL] (n0 : Nat) (e : Env) (H : Heap) : enter cx 72 n0 5 e H = enterK [] 0 n0 e H := rfl
@[simp] theorem en72_6 [MaxL] (n0 : Nat) (e : Env) (H : Heap) : enter cx 72 n0 6 e H = enterK [0, 1, 2, 8, 9] 0 n0 e H := rfl
@[simp] theorem en72_7 [MaxL] (n0 : Nat) (e : Env) (H : Heap) : enter cx 72 n0 7 e H = enterK [0, 1, 2, 8, 9] 0 n0 e H := rfl
@[simp] theorem en72_8 [MaxL] (n0 : Nat) (e : Env) (H : Heap) : enter cx 72 n0 8 e H = enterK [0, 2, 8, 9] 0 n0 e H := rfl
@[simp] theorem en72_9 [MaxL] (n0 : Nat) (e : Env) (H : Heap) : enter cx 72 n0 9 e H = enterK [0, 1, 2, 8, 9] 0 n0 e H := rfl
@[simp] theorem en72_10 [MaxL] (n0 : Nat) (e : Env) (H : Heap) : enter cx 72 n0 10 e H = enterK [0, 2, 8, 9] 0 n0 e H := rfl
@[simp] theorem en72_11 [MaxL] (n0 : Nat) (e : Env) (H : Heap) : enter cx 72 n0 11 e H = enterK [0, 1, 2, 8, 9] 0 n0 e H := rfl
@[simp] theorem en72_12 [MaxL] (n0 : Nat) (e : Env) (H : Heap) : enter cx 72 n0 12 e H = enterK [0, 2, 8, 9] 0 n0 e H := rfl
@[simp] theorem en72_13 [MaxL] (n0 : Nat) (e : Env) (H : Heap) : enter cx 72 n0 13 e H = enterK [0, 2, 8, 9] 0 n0 e H := rfl
@[simp] theorem en72_14 [MaxL] (n0 : Nat) (e : Env) (H : Heap) : enter cx 72 n0 14 e H = enterK [0, 1, 2, 8, 9] 0 n0 e H := rfl
@[simp] theorem en72_15 [MaxL] (n0 : Nat) (e : Env) (H : Heap) : enter cx 72 n0 15 e H = enterK [0, 2, 8, 9] 0 n0 e H := rfl
@[simp] theorem en72_16 [MaxL] (n0 : Nat) (e : Env) (H : Heap) : enter cx 72 n0 16 e H = enterK [0, 2, 8, 9] 0 n0 e H := rfl
@[simp] theorem en72_17 [MaxL] (n0 : Nat) (e : Env) (H : Heap) : enter cx 72 n0 17 e H = enterK [0, 1, 2, 8, 9] 0 n0 e H := rfl
@[simp] theorem en72_18 [MaxL] (n0 : Nat) (e : Env) (H : Heap) : enter cx 72 n0 18 e H = enterK [0, 2, 8, 9] 0 n0 e H := rfl
@[simp] theorem en72_19 [MaxL] (n0 : Nat) (e : Env) (H : Heap) : enter cx 72 n0 19 e H = enterK [0, 2, 8, 9] 0 n0 e H := rfl
@[simp] theorem en72_20 [MaxL] (n0 : Nat) (e : Env) (H : Heap) : enter cx 72 n0 20 e H = enterK [0, 1, 2, 8, 9] 0 n0 e H := rfl
@[simp] theorem en72_21 [MaxL] (n0 : Nat) (e : Env) (H : Heap) : enter cx 72 n0 21 e H = enterK [0, 1, 2, 8, 9] 0 n0 e H := rfl
@[simp] theorem en72_22 [MaxL] (n0 : Nat) (e : Env) (H : Heap) : enter cx 72 n0 22 e H = enterK [0, 1, 8, 9] 0 n0 e H := rfl
@[simp] theorem en72_23 [MaxL] (n0 : Nat) (e : Env) (H : Heap) : enter cx 72 n0 23 e H = enterK [0, 1, 2, 8, 9] 0 n0 e H := rfl
@[simp] theorem en72_24 [MaxL] (n0 : Nat) (e : Env) (H : Heap) : enter cx 72 n0 24 e H = enterK [] 0 n0 e H := rfl
@[simp] theorem en72_25 [MaxL] (n0 : Nat) (e : Env) (H : Heap) : enter cx 72 n0 25 e H = enterK [0, 1, 2, 8, 9] 0 n0 e H := rfl
@[simp] theorem en72_26 [MaxL] (n0 : Nat) (e : Env) (H : Heap) : enter cx 72 n0 26 e H = enterK [0, 1, 2, 8, 9] 0 n0 e H := rfl
@[simp] theorem en72_27 [MaxL] (n0 : Nat) (e : Env) (H : Heap) : enter cx 72 n0 27 e H = enterK [0, 1, 2, 8, 9] 0 n0 e H := rfl
@[simp] theorem en72_28 [MaxL] (n0 : Nat) (e : Env) (H : Heap) : enter cx 72 n0 28 e H = enterK [0, 1, 2, 8, 9, 85] 0 n0 e H := rfl
@[simp] theorem en72_29 [MaxL] (n0 : Nat) (e : Env) (H : Heap) : enter cx 72 n0 29 e H = enterK [0, 1, 2, 8, 9] 0 n0 e H := rfl
@[simp] theorem en72_30 [MaxL] (n0 : Nat) (e : Env) (H : Heap) : enter cx 72 n0 30 e H = enterK [0, 1, 2, 8, 9, 85] 0 n0 e H := rfl
@[simp] theorem en72_31 [MaxL] (n0 : Nat) (e : Env) (H : Heap) : enter cx 72 n0 31 e H = enterK [0, 1, 2, 8, 9] 0 n0 e H := rfl
@[simp] theorem en72_32 [MaxL] (n0 : Nat) (e : Env) (H : Heap) : enter cx 72 n0 32 e H = enterK [0, 1, 2, 8, 9, 10] 0 n0 e H := rfl
@[simp] theorem en72_33 [MaxL] (n0 : Nat) (e : Env) (H : Heap) : enter cx 72 n0 33 e H = enterK [0, 1, 8, 9, 10, 11] 0 n0 e H := rfl
@[simp] theorem en72_34 [MaxL] (n0 : Nat) (e : Env) (H : Heap) : enter cx 72 n0 34 e H = enterK [0, 1, 8, 9, 10, 11, 12] 0 n0 e H := rfl
@[simp] theorem en72_35 [MaxL] (n0 : Nat) (e : Env) (H : Heap) : enter cx 72 n0 35 e H = enterK [0, 1, 8, 9, 10, 11, 12, 13] 0 n0 e H := rfl
@[simp] theorem en72_36 [MaxL] (n0 : Nat) (e : Env) (H : Heap) : enter cx 72 n0 36 e H = enterK [1, 8, 9, 10, 11, 12, 13, 99, 100, 101] 0 n0 e H := rfl
@[simp] theorem en72_37 [MaxL] (n0 : Nat) (e : Env) (H : Heap) : enter cx 72 n0 37 e H = enterK [1, 8, 9, 10, 11, 12, 13, 99, 100, 101] 0 n0 e H := rfl
@[simp] theorem en72_38 [MaxL] (n0 : Nat) (e : Env) (H : Heap) : enter cx 72 n0 38 e H = enterK [1, 8, 9, 10, 11, 12, 13, 15, 99, 100, 101] 0 n0 e H := rfl
@[simp] theorem en72_39 [MaxL] (n0 : Nat) (e : Env) (H : Heap) : enter cx 72 n0 39 e H = enterK [] 0 n0 e H := rfl
@[simp] theorem en72_40 [MaxL] (n0 : Nat) (e : Env) (H : Heap) : enter cx 72 n0 40 e H = enterK [1, 8, 9, 10, 11, 12, 13, 15, 99, 100, 101] 0 n0 e H := rfl
@[simp] theorem en72_41 [MaxL] (n0 : Nat) (e : Env) (H : Heap) : enter cx 72 n0 41 e H = enterK [1, 8, 9, 10, 11, 13, 99, 100, 101] 0 n0 e H := rfl
@[simp] theorem en72_42 [MaxL] (n0 : Nat) (e : Env) (H : Heap) : enter cx 72 n0 42 e H = enterK [1, 8, 9, 10, 11, 12, 13, 15, 99, 100, 101] 0 n0 e H := rfl
@[simp] theorem en72_43 [MaxL] (n0 : Nat) (e : Env) (H : Heap) : enter cx 72 n0 43 e H = enterK [1, 8, 9, 10, 11, 12, 13, 15, 99, 100, 101] 0 n0 e H := rfl
@[simp] theorem en72_44 [MaxL] (n0 : Nat) (e : Env) (H : Heap) : enter cx 72 n0 44 e H = enterK [1, 8, 9, 10, 11, 12, 13, 15, 99, 100, 101] 0 n0 e H := rfl
@[simp] theorem en72_45 [MaxL] (n0 : Nat) (e : Env) (H : Heap) : enter cx 72 n0 45 e H = enterK [1, 8, 9, 10, 11, 12, 13, 15, 99, 100, 101] 0 n0 e H := rfl
@[simp] theorem en72_46 [MaxL] (n0 : Nat) (e : Env) (H : Heap) : enter cx 72 n0 46 e H = enterK [1, 8, 9, 10, 11, 12, 13, 16, 99, 100, 101] 0 n0 e H := rfl
@[simp] theorem en72_47 [MaxL] (n0 : Nat) (e : Env) (H : Heap) : enter cx 72 n0 47 e H = enterK [] 0 n0 e H := rfl
@[simp] theorem en72_48 [MaxL] (n0 : Nat) (e : Env) (H : Heap) : enter cx 72 n0 48 e H = enterK [1, 8, 9, 10, 11, 12, 13, 16, 99, 100, 101] 0 n0 e H := rfl
@[simp] theorem en72_49 [MaxL] (n0 : Nat) (e : Env) (H : Heap) : enter cx 72 n0 49 e H = enterK [11] 0 n0 e H := rfl
@[simp] theorem en72_50 [MaxL] (n0 : Nat) (e : Env) (H : Heap) : enter cx 72 n0 50 e H = enterK [1, 8, 9, 10, 11, 12, 13, 16, 99, 100, 101] 0 n0 e H := rfl
@[simp] theorem en72_51 [MaxL] (n0 : Nat) (e : Env) (H : Heap) : enter cx 72 n0 51 e H = enterK [1, 8, 9, 10, 11, 12, 13, 16, 99, 100, 101] 0 n0 e H := rfl
@[simp] theorem en72_52 [MaxL] (n0 : Nat) (e : Env) (H : Heap) : enter cx 72 n0 52 e H = enterK [1, 8, 9, 10, 11, 12, 13, 17, 99, 100, 101] 0 n0 e H := rfl
@[simp] theorem en72_53 [MaxL] (n0 : Nat) (e : Env) (H : Heap) : enter cx 72 n0 53 e H = enterK [11] 0 n0 e H := rfl
@[simp] theorem en72_54 [MaxL] (n0 : Nat) (e : Env) (H : Heap) : enter cx 72 n0 54 e H = enterK [1, 8, 9, 10, 11, 12, 17, 99, 100, 101] 0 n0 e H := rfl
@[simp] theorem en72_55 [MaxL] (n0 : Nat) (e : Env) (H : Heap) : enter cx 72 n0 55 e H = enterK [1, 8, 9, 10, 11, 12, 13, 99, 100, 101] 0 n0 e H := rfl
@[simp] theorem en72_56 [MaxL] (n0 : Nat) (e : Env) (H : Heap) : enter cx 72 n0 56 e H = enterK [9, 12, 13] 0 n0 e H := rfl
@[simp] theorem en72_57 [MaxL] (n0 : Nat) (e : Env) (H : Heap) : enter cx 72 n0 57 e H = enterK [] 0 n0 e H := rfl
@[simp] theorem en72_58 [MaxL] (n0 : Nat) (e : Env) (H : Heap) : enter cx 72 n0 58 e H = enterK [13] 0 n0 e H := rfl
@[simp] theorem en73_0 [MaxL] (n0 : Nat) (e : Env) (H : Heap) : enter cx 73 n0 0 e H = enterK [0, 1, 2, 3, 4] 0 n0 e H := rfl
@[simp] theorem en73_1 [MaxL] (n0 : Nat) (e : Env) (H : Heap) : enter cx 73 n0 1 e H = enterK [0, 1, 2, 3, 4] 0 n0 e H := rfl
@[simp] theorem en73_2 [MaxL] (n0 : Nat) (e : Env) (H : Heap) : enter cx 73 n0 2 e H = enterK [0, 1, 2, 3, 4, 11] 0 n0 e H := rfl
@[simp] theorem en73_3 [MaxL] (n0 : Nat) (e : Env) (H : Heap) : enter cx 73 n0 3 e H = enterK [0, 1] 0 n0 e H := rfl
@[simp] theorem en73_4 [MaxL] (n0 : Nat) (e : Env) (H : Heap) : enter cx 73 n0 4 e H = enterK [0, 1, 2, 3, 4, 11] 0 n0 e H := rfl
@[simp] theorem en73_5 [MaxL] (n0 : Nat) (e : Env) (H : Heap) : enter cx 73 n0 5 e H = enterK [0, 1] 0 n0 e H := rfl
@[simp] theorem en73_6 [MaxL] (n0 : Nat) (e : Env) (H : Heap) : enter cx 73 n0 6 e H = enterK [0, 1, 2, 3, 4, 11] 0 n0 e H := rfl
@[simp] theorem en73_7 [MaxL] (n0 : Nat) (e : Env) (H : Heap) : enter cx 73 n0 7 e H = enterK [0, 1, 2] 0 n0 e H := rfl
@[simp] theorem en73_8 [MaxL] (n0 : Nat) (e : Env) (H : Heap) : enter cx 73 n0 8 e H = enterK [0, 1, 3, 4, 11] 0 n0 e H := rfl
@[simp] theorem en73_9 [MaxL] (n0 : Nat) (e : Env) (H : Heap) : enter cx 73 n0 9 e H = enterK [0, 1, 3] 0 n0 e H := rfl
@[simp] theorem en73_10 [MaxL] (n0 : Nat) (e : Env) (H : Heap) : enter cx 73 n0 10 e H = enterK [4] 0 n0 e H := rfl
@[simp] theorem en74_0 [MaxL] (n0 : Nat) (e : Env) (H : Heap) : enter cx 74 n0 0 e H = enterK [0, 1] 0 n0 e H := rfl
@[simp] theorem en74_1 [MaxL] (n0 : Nat) (e : Env) (H : Heap) : enter cx 74 n0 1 e H = enterK [0, 1] 0 n0 e H := rfl
@[simp] theorem en89_0 [MaxL] (n0 : Nat) (e : Env) (H : Heap) : enter cx 89 n0 0 e H = enterK [0] 0 n0 e H := rfl
@[simp] theorem en89_1 [MaxL] (n0 : Nat) (e : Env) (H : Heap) : enter cx 89 n0 1 e H = enterK [0] 0 n0 e H := rfl
@[simp] theorem en89_2 [MaxL] (n0 : Nat) (e : Env) (H : Heap) : enter cx 89 n0 2 e H = enterK [0] 0 n0 e H := rfl
@[simp] theorem en89_3 [MaxL] (n0 : Nat) (e : Env) (H : Heap) : enter cx 89 n0 3 e H = enterK [0] 0 n0 e H := rfl
@[simp] theorem en90_0 [MaxL] (n0 : Nat) (e : Env) (H : Heap) : enter cx 90 n0 0 e H = enterK [0] 0 n0 e H := rfl
@[simp] theorem en90_1 [MaxL] (n0 : Nat) (e : Env) (H : Heap) : enter cx 90 n0 1 e H = enterK [0] 0 n0 e H := rfl
@[simp] theorem en90_2 [MaxL] (n0 : Nat) (e : Env) (H : Heap) : enter cx 90 n0 2 e H = enterK [0, 3] 0 n0 e H := rfl
@[simp] theorem en91_0 [MaxL] (n0 : Nat) (e : Env) (H : Heap) : enter cx 91 n0 0 e H = enterK [0, 1] 0 n0 e H := rfl
@[simp] theorem en91_1 [MaxL] (n0 : Nat) (e : Env) (H : Heap) : enter cx 91 n0 1 e H = enterK [0, 1, 4] 0 n0 e H := rfl
@[simp] theorem en91_2 [MaxL] (n0 : Nat) (e : Env) (H : Heap) : enter cx 91 n0 2 e H = enterK [0, 1, 4] 0 n0 e H := rfl
@[simp] theorem en91_3 [MaxL] (n0 : Nat) (e : Env) (H : Heap) : enter cx 91 n0 3 e H = enterK [0, 1, 4, 5] 0 n0 e H := rfl
@[simp] theorem en91_4 [MaxL] (n0 : Nat) (e : Env) (H : Heap) : enter cx 91 n0 4 e H = enterK [0, 1, 4, 5] 0 n0 e H := rfl
@[simp] theorem en91_5 [MaxL] (n0 : Nat) (e : Env) (H : Heap) : enter cx 91 n0 5 e H = enterK [0, 1, 4, 6, 7] 0 n0 e H := rfl
@[simp] theorem en91_6 [MaxL] (n0 : Nat) (e : Env) (H : Heap) : enter cx 91 n0 6 e H = enterK [0, 1, 4, 6, 8, 9] 0 n0 e H := rfl
@[simp] theorem en91_7 [MaxL] (n0 : Nat) (e : Env) (H : Heap) : enter cx 91 n0 7 e H = enterK [0, 1, 4, 8, 9, 10, 11] 0 n0 e H := rfl
@[simp] theorem en91_8 [MaxL] (n0 : Nat) (e : Env) (H : Heap) : enter cx 91 n0 8 e H = enterK [0, 1, 4, 8, 10, 11] 0 n0 e H := rfl
@[simp] theorem en91_9 [MaxL] (n0 : Nat) (e : Env) (H : Heap) : enter cx 91 n0 9 e H = enterK [0, 1, 4, 10, 11] 0 n0 e H := rfl
@[simp] theorem en91_10 [MaxL] (n0 : Nat) (e : Env) (H : Heap) : enter cx 91 n0 10 e H = enterK [0, 1, 4, 10] 0 n0 e H := rfl
@[simp] theorem en91_11 [MaxL] (n0 : Nat) (e : Env) (H : Heap) : enter cx 91 n0 11 e H = enterK [0, 1, 4] 0 n0 e H := rfl
@[simp] theorem en91_12 [MaxL] (n0 : Nat) (e : Env) (H : Heap) : enter cx 91 n0 12 e H = enterK [0, 1, 4] 0 n0 e H := rfl
@[simp] theorem en91_13 [MaxL] (n0 : Nat) (e : Env) (H : Heap) : enter cx 91 n0 13 e H = enterK [0, 4, 12] 0 n0 e H := rfl
@[simp] theorem en91_14 [MaxL] (n0 : Nat) (e : Env) (H : Heap) : enter cx 91 n0 14 e H = enterK [0, 4, 12] 0 n0 e H := rfl
@[simp] theorem en91_15 [MaxL] (n0 : Nat) (e : Env) (H : Heap) : enter cx 91 n0 15 e H = enterK [0, 4, 12, 13] 0 n0 e H := rfl
@[simp] theorem en91_16 [MaxL] (n0 : Nat) (e : Env) (H : Heap) : enter cx 91 n0 16 e H = enterK [0, 4, 12, 13] 0 n0 e H := rfl
@[simp] theorem en91_17 [MaxL] (n0 : Nat) (e : Env) (H : Heap) : enter cx 91 n0 17 e H = enterK [0, 4, 12, 14, 15] 0 n0 e H := rfl
@[simp] theorem en91_18 [MaxL] (n0 : Nat) (e : Env) (H : Heap) : enter cx 91 n0 18 e H = enterK [0, 4, 12, 14] 0 n0 e H := rfl
@[simp] theorem en91_19 [MaxL] (n0 : Nat) (e : Env) (H : Heap) : enter cx 91 n0 19 e H = enterK [0, 4, 12] 0 n0 e H := rfl
@[simp] theorem en91_20 [MaxL] (n0 : Nat) (e : Env) (H : Heap) : enter cx 91 n0 20 e H = enterK [0, 4, 12] 0 n0 e H := rfl
@[simp] theorem en91_21 [MaxL] (n0 : Nat) (e : Env) (H : Heap) : enter cx 91 n0 21 e H = enterK [0, 4, 12] 0 n0 e H := rfl
@[simp] theorem en91_22 [MaxL] (n0 : Nat) (e : Env) (H : Heap) : enter cx 91 n0 22 e H = enterK [0, 4, 12, 16] 0 n0 e H := rfl
@[simp] theorem en91_23 [MaxL] (n0 : Nat) (e : Env) (H : Heap) : enter cx 91 n0 23 e H = enterK [0, 4, 12, 16] 0 n0 e H := rfl
@[simp] theorem en91_24 [MaxL] (n0 : Nat) (e : Env) (H : Heap) : enter cx 91 n0 24 e H = enterK [0, 4, 12] 0 n0 e H := rfl
@[simp] theorem en91_25 [MaxL] (n0 : Nat) (e : Env) (H : Heap) : enter cx 91 n0 25 e H = enterK [0, 4, 12] 0 n0 e H := rfl
@[simp] theorem en91_26 [MaxL] (n0 : Nat) (e : Env) (H : Heap) : enter cx 91 n0 26 e H = enterK [0, 12] 0 n0 e H := rfl
@[simp] theorem en92_0 [MaxL] (n0 : Nat) (e : Env) (H : Heap) : enter cx 92 n0 0 e H = enterK [0, 1, 2, 3, 4] 0 n0 e H := rfl
@[simp] theorem en92_1 [MaxL] (n0 : Nat) (e : Env) (H : Heap) : enter cx 92 n0 1 e H = enterK [0, 1, 2, 3, 4, 10, 11] 0 n0 e H := rfl
@[simp] theorem en92_2 [MaxL] (n0 : Nat) (e : Env) (H : Heap) : enter cx 92 n0 2 e H = enterK [0, 1, 2, 3, 4, 10, 11] 0 n0 e H := rfl
@[simp] theorem en92_3 [MaxL] (n0 : Nat) (e : Env) (H : Heap) : enter cx 92 n0 3 e H = enterK [0, 1, 2, 3, 4, 10, 11] 0 n0 e H := rfl
@[simp] theorem en92_4 [MaxL] (n0 : Nat) (e : Env) (H : Heap) : enter cx 92 n0 4 e H = enterK [0, 1, 2, 3, 4, 10, 11, 12] 0 n0 e H := rfl
@[simp] theorem en92_5 [MaxL] (n0 : Nat) (e : Env) (H : Heap) : enter cx 92 n0 5 e H = enterK [0, 1, 2, 3, 4, 10, 11, 12, 13] 0 n0 e H := rfl
@[simp] theorem en92_6 [MaxL] (n0 : Nat) (e : Env) (H : Heap) : enter cx 92 n0 6 e H = enterK [0, 1, 2, 3, 4, 10, 11, 12, 13] 0 n0 e H := rfl
@[simp] theorem en92_7 [MaxL] (n0 : Nat) (e : Env) (H : Heap) : enter cx 92 n0 7 e H = enterK [0, 1, 2, 3, 4, 10, 11, 12, 13] 0 n0 e H := rfl
@[simp] theorem en92_8 [MaxL] (n0 : Nat) (e : Env) (H : Heap) : enter cx 92 n0 8 e H = enterK [0, 1, 2, 3, 4, 10, 11, 12, 13] 0 n0 e H := rfl
@[simp] theorem en92_9 [MaxL] (n0 : Nat) (e : Env) (H : Heap) : enter cx 92 n0 9 e H = enterK [0, 1, 2, 3, 4, 10, 11, 12, 13, 14] 0 n0 e H := rfl
@[simp] theorem en92_10 [MaxL] (n0 : Nat) (e : Env) (H : Heap) : enter cx 92 n0 10 e H = enterK [0, 1, 2, 3, 4, 10, 11, 12, 13, 14, 15] 0 n0 e H := rfl
@[simp] theorem en92_11 [MaxL] (n0 : Nat) (e : Env) (H : Heap) : enter cx 92 n0 11 e H = enterK [0, 1, 3, 4, 10, 11, 12, 13, 14, 15, 16] 0 n0 e H := rfl
@[simp] theorem en92_12 [MaxL] (n0 : Nat) (e : Env) (H : Heap) : enter cx 92 n0 12 e H = enterK [0, 1, 3, 4, 10, 11, 12, 13, 14, 15, 16] 0 n0 e H := rfl
@[simp] theorem en92_13 [MaxL] (n0 : Nat) (e : Env) (H : Heap) : enter cx 92 n0 13 e H = enterK [0, 1, 3, 4, 10, 11, 12, 13, 14, 15, 16] 0 n0 e H := rfl
@[simp] theorem en92_14 [MaxL] (n0 : Nat) (e : Env) (H : Heap) : enter cx 92 n0 14 e H = enterK [0, 1, 3, 4, 10, 11, 12, 13, 14, 15, 16] 0 n0 e H := rfl
@[simp] theorem en92_15 [MaxL] (n0 : Nat) (e : Env) (H : Heap) : enter cx 92 n0 15 e H = enterK [0, 1, 3, 4, 10, 11, 12, 13] 0 n0 e H := rfl
@[simp] theorem en92_16 [MaxL] (n0 : Nat) (e : Env) (H : Heap) : enter cx 92 n0 16 e H = enterK [0, 1, 3, 4, 10, 11, 12, 13] 0 n0 e H := rfl
@[simp] theorem en92_17 [MaxL] (n0 : Nat) (e : Env) (H : Heap) : enter cx 92 n0 17 e H = enterK [0, 1, 2, 3, 4, 10, 11, 12, 13] 0 n0 e H := rfl
@[simp] theorem en92_18 [MaxL] (n0 : Nat) (e : Env) (H : Heap) : enter cx 92 n0 18 e H = enterK [0, 1, 3, 4, 10, 11, 12, 13, 17] 0 n0 e H := rfl
@[simp] theorem en92_19 [MaxL] (n0 : Nat) (e : Env) (H : Heap) : enter cx 92 n0 19 e H = enterK [0, 1, 3, 4, 10, 11, 12, 13, 17] 0 n0 e H := rfl
@[simp] theorem en92_20 [MaxL] (n0 : Nat) (e : Env) (H : Heap) : enter cx 92 n0 20 e H = enterK [0, 1, 3, 4, 10, 11, 12, 13, 17] 0 n0 e H := rfl
@[simp] theorem en92_21 [MaxL] (n0 : Nat) (e : Env) (H : Heap) : enter cx 92 n0 21 e H = enterK [0, 1, 3, 4, 10, 11, 12, 13, 17, 18] 0 n0 e H := rfl
@[simp] theorem en92_22 [MaxL] (n0 : Nat) (e : Env) (H : Heap) : enter cx 92 n0 22 e H = enterK [0, 3, 4, 10, 11, 12, 13, 17, 18] 0 n0 e H := rfl
@[simp] theorem en92_23 [MaxL] (n0 : Nat) (e : Env) (H : Heap) : enter cx 92 n0 23 e H = enterK [0, 1, 3, 4, 10, 11, 12, 13] 0 n0 e H := rfl
@[simp] theorem en92_24 [MaxL] (n0 : Nat) (e : Env) (H : Heap) : enter cx 92 n0 24 e H = enterK [0, 1, 3, 4, 10, 11, 12, 13] 0 n0 e H := rfl
@[simp] theorem en92_25 [MaxL] (n0 : Nat) (e : Env) (H : Heap) : enter cx 92 n0 25 e H = enterK [0, 3, 4, 10, 11, 12, 13] 0 n0 e H := rfl
@[simp] theorem en92_26 [MaxL] (n0 : Nat) (e : Env) (H : Heap) : enter cx 92 n0 26 e H = enterK [0, 4, 10, 11, 12, 13] 0 n0 e H := rfl
@[simp] theorem en92_27 [MaxL] (n0 : Nat) (e : Env) (H : Heap) : enter cx 92 n0 27 e H = enterK [0, 4, 10, 11, 12, 13] 0 n0 e H := rfl
@[simp] theorem en92_28 [MaxL] (n0 : Nat) (e : Env) (H : Heap) : enter cx 92 n0 28 e H = enterK [0, 4, 10, 11, 12, 13] 0 n0 e H := rfl
@[simp] theorem en92_29 [MaxL] (n0 : Nat) (e : Env) (H : Heap) : enter cx 92 n0 29 e H = enterK [0, 11, 12, 13] 0 n0 e H := rfl
@[simp] theorem en92_30 [MaxL] (n0 : Nat) (e : Env) (H : Heap) : enter cx 92 n0 30 e H = enterK [10, 12, 13] 0 n0 e H := rfl
@[simp] theorem en93_0 [MaxL] (n0 : Nat) (e : Env) (H : Heap) : enter cx 93 n0 0 e H = enterK [0, 1] 0 n0 e H := rfl
@[simp] theorem en93_1 [MaxL] (n0 : Nat) (e : Env) (H : Heap) : enter cx 93 n0 1 e H = enterK [0, 1] 0 n0 e H := rfl
@[simp] theorem en93_2 [MaxL] (n0 : Nat) (e : Env) (H : Heap) : enter cx 93 n0 2 e H = enterK [0, 1, 5] 0 n0 e H := rfl
@[simp] theorem en93_3 [MaxL] (n0 : Nat) (e : Env) (H : Heap) : enter cx 93 n0 3 e H = enterK [0, 5] 0 n0 e H := rfl
@[simp] theorem en93_4 [MaxL] (n0 : Nat) (e : Env) (H : Heap) : enter cx 93 n0 4 e H = enterK [0, 1] 0 n0 e H := rfl
@[simp] theorem en93_5 [MaxL] (n0 : Nat) (e : Env) (H : Heap) : enter cx 93 n0 5 e H = enterK [0, 1, 6] 0 n0 e H := rfl
@[simp] theorem en93_6 [MaxL] (n0 : Nat) (e : Env) (H : Heap) : enter cx 93 n0 6 e H = enterK [0, 1, 6, 7] 0 n0 e H := rfl
@[simp] theorem en93_7 [MaxL] (n0 : Nat) (e : Env) (H : Heap) : enter cx 93 n0 7 e H = enterK [0, 1, 6, 7] 0 n0 e H := rfl
@[simp] theorem en93_8 [MaxL] (n0 : Nat) (e : Env) (H : Heap) : enter cx 93 n0 8 e H = enterK [0, 1, 6, 7] 0 n0 e H := rfl
@[simp] theorem en93_9 [MaxL] (n0 : Nat) (e : Env) (H : Heap) : enter cx 93 n0 9 e H = enterK [0, 1, 6, 7, 9] 0 n0 e H := rfl
@[simp] theorem en93_10 [MaxL] (n0 : Nat) (e : Env) (H : Heap) : enter cx 93 n0 10 e H = enterK [0, 1, 6, 7, 9] 0 n0 e H := rfl
@[simp] theorem en93_11 [MaxL] (n0 : Nat) (e : Env) (H : Heap) : enter cx 93 n0 11 e H = enterK [0, 1, 6] 0 n0 e H := rfl
@[simp] theorem en93_12 [MaxL] (n0 : Nat) (e : Env) (H : Heap) : enter cx 93 n0 12 e H = enterK [0, 1, 6] 0 n0 e H := rfl
@[simp] theorem en93_13 [MaxL] (n0 : Nat) (e : Env) (H : Heap) : enter cx 93 n0 13 e H = enterK [6] 0 n0 e H := rfl
@[simp] theorem en94_0 [MaxL] (n0 : Nat) (e : Env) (H : Heap) : enter cx 94 n0 0 e H = enterK [0, 1] 0 n0 e H := rfl
@[simp] theorem en94_1 [MaxL] (n0 : Nat) (e : Env) (H : Heap) : enter cx 94 n0 1 e H = enterK [0, 1] 0 n0 e H := rfl
@[simp] theorem en94_2 [MaxL] (n0 : Nat) (e : Env) (H : Heap) : enter cx 94 n0 2 e H = enterK [0] 0 n0 e H := rfl
@[simp] theorem en94_3 [MaxL] (n0 : Nat) (e : Env) (H : Heap) : enter cx 94 n0 3 e H = enterK [0, 1] 0 n0 e H := rfl
@[simp] theorem en94_4 [MaxL] (n0 : Nat) (e : Env) (H : Heap) : enter cx 94 n0 4 e H = enterK [0, 1] 0 n0 e H := rfl
@[simp] theorem en94_5 [MaxL] (n0 : Nat) (e : Env) (H : Heap) : enter cx 94 n0 5 e H = enterK [0, 1] 0 n0 e H := rfl
@[simp] theorem en94_6 [MaxL] (n0 : Nat) (e : Env) (H : Heap) : enter cx 94 n0 6 e H = enterK [0, 1, 5] 0 n0 e H := rfl
@[simp] theorem en94_7 [MaxL] (n0 : Nat) (e : Env) (H : Heap) : enter cx 94 n0 7 e H = enterK [0, 1, 5, 6] 0 n0 e H := rfl
@[simp] theorem en94_8 [MaxL] (n0 : Nat) (e : Env) (H : Heap) : enter cx 94 n0 8 e H = enterK [5] 0 n0 e H := rfl
@[simp] theorem en94_9 [MaxL] (n0 : Nat) (e : Env) (H : Heap) : enter cx 94 n0 9 e H = enterK [0, 1, 5, 6] 0 n0 e H := rfl
@[simp] theorem en94_10 [MaxL] (n0 : Nat) (e : Env) (H : Heap) : enter cx 94 n0 10 e H = enterK [0, 1, 5, 6] 0 n0 e H := rfl
@[simp] theorem en95_0 [MaxL] (n0 : Nat) (e : Env) (H : Heap) : enter cx 95 n0 0 e H = enterK [0, 1] 0 n0 e H := rfl
@[simp] theorem en95_1 [MaxL] (n0 : Nat) (e : Env) (H : Heap) : enter cx 95 n0 1 e H = enterK [0, 1] 0 n0 e H := rfl
@[simp] theorem en97_0 [MaxL] (n0 : Nat) (e : Env) (H : Heap) : enter cx 97 n0 0 e H = enterK [0] 0 n0 e H := rfl
@[simp] theorem en97_1 [MaxL] (n0 : Nat) (e : Env) (H : Heap) : enter cx 97 n0 1 e H = enterK [0] 0 n0 e H := rfl
@[simp] theorem en98_0 [MaxL] (n0 : Nat) (e : Env) (H : Heap) : enter cx 98 n0 0 e H = enterK [0] 0 n0 e H := rfl
@[simp] theorem en98_1 [MaxL] (n0 : Nat) (e : Env) (H : Heap) : enter cx 98 n0 1 e H = enterK [0] 0 n0 e H := rfl
@[simp] theorem en98_2 [MaxL] (n0 : Nat) (e : Env) (H : Heap) : enter cx 98 n0 2 e H = enterK [0, 3] 0 n0 e H := rfl
@[simp] theorem en98_3 [MaxL] (n0 : Nat) (e : Env) (H : Heap) : enter cx 98 n0 3 e H = enterK [0, 3, 4] 0 n0 e H := rfl
@[simp] theorem en98_4 [MaxL] (n0 : Nat) (e : Env) (H : Heap) : enter cx 98 n0 4 e H = enterK [0, 3, 4] 0 n0 e H := rfl
@[simp] theorem en98_5 [MaxL] (n0 : Nat) (e : Env) (H : Heap) : enter cx 98 n0 5 e H = enterK [0, 3, 4] 0 n0 e H := rfl
@[simp] theorem en98_6 [MaxL] (n0 : Nat) (e : Env) (H : Heap) : enter cx 98 n0 6 e H = enterK [0, 3, 4, 5] 0 n0 e H := rfl
@[simp] theorem en98_7 [MaxL] (n0 : Nat) (e : Env) (H : Heap) : enter cx 98 n0 7 e H = enterK [0] 0 n0 e H := rfl
@[simp] theorem en98_8 [MaxL] (n0 : Nat) (e : Env) (H : Heap) : enter cx 98 n0 8 e H = enterK [0, 4] 0 n0 e H := rfl
@[simp] theorem en98_9 [MaxL] (n0 : Nat) (e : Env) (H : Heap) : enter cx 98 n0 9 e H = enterK [0, 3, 4] 0 n0 e H := rfl
@[simp] theorem en98_10 [MaxL] (n0 : Nat) (e : Env) (H : Heap) : enter cx 98 n0 10 e H = enterK [0, 3, 4, 5] 0 n0 e H := rfl
@[simp] theorem en98_11 [MaxL] (n0 : Nat) (e : Env) (H : Heap) : enter cx 98 n0 11 e H = enterK [0, 3, 4, 5] 0 n0 e H := rfl
@[simp] theorem en98_12 [MaxL] (n0 : Nat) (e : Env) (H : Heap) : enter cx 98 n0 12 e H = enterK [0, 3, 4, 5] 0 n0 e H := rfl
@[simp] theorem en98_13 [MaxL] (n0 : Nat) (e : Env) (H : Heap) : enter cx 98 n0 13 e H = enterK [0, 4, 5] 0 n0 e H := rfl
@[simp] theorem en98_14 [MaxL] (n0 : Nat) (e : Env) (H : Heap) : enter cx 98 n0 14 e H = enterK [0, 3, 4, 5] 0 n0 e H := rfl
@[simp] theorem en98_15 [MaxL] (n0 : Nat) (e : Env) (H : Heap) : enter cx 98 n0 15 e H = enterK [0, 3, 4, 5] 0 n0 e H := rfl
@[simp] theorem en98_16 [MaxL] (n0 : Nat) (e : Env) (H : Heap) : enter cx 98 n0 16 e H = enterK [] 0 n0 e H := rfl
@[simp] theorem en98_17 [MaxL] (n0 : Nat) (e : Env) (H : Heap) : enter cx 98 n0 17 e H = enterK [0, 4, 5] 0 n0 e H := rfl
@[simp] theorem en98_18 [MaxL] (n0 : Nat) (e : Env) (H : Heap) : enter cx 98 n0 18 e H = enterK [0, 3, 4, 5] 0 n0 e H := rfl
@[simp] theorem en98_19 [MaxL] (n0 : Nat) (e : Env) (H : Heap) : enter cx 98 n0 19 e H = enterK [] 0 n0 e H := rfl
@[simp] theorem en98_20 [MaxL] (n0 : Nat) (e : Env) (H : Heap) : enter cx 98 n0 20 e H = enterK [0, 4, 5] 0 n0 e H := rfl
@[simp] theorem en98_21 [MaxL] (n0 : Nat) (e : Env) (H : Heap) : enter cx 98 n0 21 e H = enterK [3] 0 n0 e H := rfl
@[simp] theorem en99_0 [MaxL] (n0 : Nat) (e : Env) (H : Heap) : enter cx 99 n0 0 e H = enterK [0, 1] 0 n0 e H := rfl
@[simp] theorem en99_1 [MaxL] (n0 : Nat) (e : Env) (H : Heap) : enter cx 99 n0 1 e H = enterK [0, 1] 0 n0 e H := rfl
@[simp] theorem en100_0 [MaxL] (n0 : Nat) (e : Env) (H : Heap) : enter cx 100 n0 0 e H = enterK [0, 1] 0 n0 e H := rfl
@[simp] theorem en100_1 [MaxL] (n0 : Nat) (e : Env) (H : Heap) : enter cx 100 n0 1 e H = enterK [0, 1] 0 n0 e H := rfl
@[simp] theorem en101_0 [MaxL] (n0 : Nat) (e : Env) (H : Heap) : enter cx 101 n0 0 e H = enterK [0, 1, 2] 0 n0 e H := rfl
@[simp] theorem en101_1 [MaxL] (n0 : Nat) (e : Env) (H : Heap) : enter cx 101 n0 1 e H = enterK [0, 1, 2] 0 n0 e H := rfl
@[simp] theorem en102_0 [MaxL] (n0 : Nat) (e : Env) (H : Heap) : enter cx 102 n0 0 e H = enterK [0, 1, 2] 0 n0 e H := rfl
@[simp] theorem en102_1 [MaxL] (n0 : Nat) (e : Env) (H : Heap) : enter cx 102 n0 1 e H = enterK [0, 1, 2] 0 n0 e H := rfl
@[simp] theorem en113_0 [MaxL] (n0 : Nat) (e : Env) (H : Heap) : enter cx 113 n0 0 e H = enterK [0] 0 n0 e H := rfl
@[simp] theorem en113_1 [MaxL] (n0 : Nat) (e : Env) (H : Heap) : enter cx 113 n0 1 e H = enterK [0] 0 n0 e H := rfl
@[simp] theorem en114_0 [MaxL] (n0 : Nat) (e : Env) (H : Heap) : enter cx 114 n0 0 e H = enterK [0] 0 n0 e H := rfl
@[simp] theorem en114_1 [MaxL] (n0 : Nat) (e : Env) (H : Heap) : enter cx 114 n0 1 e H = enterK [0, 2] 0 n0 e H := rfl
@[simp] theorem en114_2 [MaxL] (n0 : Nat) (e : Env) (H : Heap) : enter cx 114 n0 2 e H = enterK [0] 0 n0 e H := rfl
@[simp] theorem en114_3 [MaxL] (n0 : Nat) (e : Env) (H : Heap) : enter cx 114 n0 3 e H = enterK [0] 0 n0 e H := rfl
@[simp] theorem en114_4 [MaxL] (n0 : Nat) (e : Env) (H : Heap) : enter cx 114 n0 4 e H = enterK [0, 2] 0 n0 e H := rfl
@[simp] theorem en114_5 [MaxL] (n0 : Nat) (e : Env) (H : Heap) : enter cx 114 n0 5 e H = enterK [0, 2] 0 n0 e H := rfl
@[simp] theorem en114_6 [MaxL] (n0 : Nat) (e : Env) (H : Heap) : enter cx 114 n0 6 e H = enterK [0, 2] 0 n0 e H := rfl
@[simp] theorem en114_7 [MaxL] (n0 : Nat) (e : Env) (H : Heap) : enter cx 114 n0 7 e H = enterK [0, 2] 0 n0 e H := rfl
@[simp] theorem en114_8 [MaxL] (n0 : Nat) (e : Env) (H : Heap) : enter cx 114 n0 8 e H = enterK [0, 2] 0 n0 e H := rfl
@[simp] theorem en114_9 [MaxL] (n0 : Nat) (e : Env) (H : Heap) : enter cx 114 n0 9 e H = enterK [0, 2] 0 n0 e H := rfl
@[simp] theorem en114_10 [MaxL] (n0 : Nat) (e : Env) (H : Heap) : enter cx 114 n0 10 e H = enterK [0, 2] 0 n0 e H := rfl
@[simp] theorem en115_0 [MaxL] (n0 : Nat) (e : Env) (H : Heap) : enter cx 115 n0 0 e H = enterK [0] 0 n0 e H := rfl
@[simp] theorem en115_1 [MaxL] (n0 : Nat) (e : Env) (H : Heap) : enter cx 115 n0 1 e H = enterK [0] 0 n0 e H := rfl
@[simp] theorem en115_2 [MaxL] (n0 : Nat) (e : Env) (H : Heap) : enter cx 115 n0 2 e H = enterK [] 0 n0 e H := rfl
@[simp] theorem en115_3 [MaxL] (n0 : Nat) (e : Env) (H : Heap) : enter cx 115 n0 3 e H = enterK [] 0 n0 e H := rfl
@[simp] theorem en116_0 [MaxL] (n0 : Nat) (e : Env) (H : Heap) : enter cx 116 n0 0 e H = enterK [0] 0 n0 e H := rfl
@[simp] theorem en116_1 [MaxL] (n0 : Nat) (e : Env) (H : Heap) : enter cx 116 n0 1 e H = enterK [0] 0 n0 e H := rfl
@[simp] theorem en117_0 [MaxL] (n0 : Nat) (e : Env) (H : Heap) : enter cx 117 n0 0 e H = enterK [0] 0 n0 e H := rfl
@[simp] theorem en117_1 [MaxL] (n0 : Nat) (e : Env) (H : Heap) : enter cx 117 n0 1 e H = enterK [0] 0 n0 e H := rfl
@[simp] theorem en117_2 [MaxL] (n0 : Nat) (e : Env) (H : Heap) : enter cx 117 n0 2 e H = enterK [0] 0 n0 e H := rfl
@[simp] theorem en118_0 [MaxL] (n0 : Nat) (e : Env) (H : Heap) : enter cx 118 n0 0 e H = enterK [0] 0 n0 e H := rfl
@[simp] theorem en118_1 [MaxL] (n0 : Nat) (e : Env) (H : Heap) : enter cx 118 n0 1 e H = enterK [0, 2] 0 n0 e H := rfl
@[simp] theorem en118_2 [MaxL] (n0 : Nat) (e : Env) (H : Heap) : enter cx 118 n0 2 e H = enterK [2, 4] 0 n0 e H := rfl
@[simp] theorem en118_3 [MaxL] (n0 : Nat) (e : Env) (H : Heap) : enter cx 118 n0 3 e H = enterK [2, 4] 0 n0 e H := rfl
@[simp] theorem en118_4 [MaxL] (n0 : Nat) (e : Env) (H : Heap) : enter cx 118 n0 4 e H = enterK [2] 0 n0 e H := rfl
@[simp] theorem en119_0 [MaxL] (n0 : Nat) (e : Env) (H : Heap) : enter cx 119 n0 0 e H = enterK [0] 0 n0 e H := rfl
@[simp] theorem en119_1 [MaxL] (n0 : Nat) (e : Env) (H : Heap) : enter cx 119 n0 1 e H = enterK [0] 0 n0 e H := rfl
@[simp] theorem en119_2 [MaxL] (n0 : Nat) (e : Env) (H : Heap) : enter cx 119 n0 2 e H = enterK [0] 0 n0 e H := rfl
@[simp] theorem en119_3 [MaxL] (n0 : Nat) (e : Env) (H : Heap) : enter cx 119 n0 3 e H = enterK [0] 0 n0 e H := rfl
@[simp] theorem en124_0 [MaxL] (n0 : Nat) (e : Env) (H : Heap) : enter cx 124 n0 0 e H = enterK [0] 0 n0 e H := rfl
@[simp] theorem en124_1 [MaxL] (n0 : Nat) (e : Env) (H : Heap) : enter cx 124 n0 1 e H = enterK [0] 0 n0 e H := rfl
@[simp] theorem en125_0 [MaxL] (n0 : Nat) (e : Env) (H : Heap) : enter cx 125 n0 0 e H = enterK [0] 0 n0 e H := rfl
@[simp] theorem en125_1 [MaxL] (n0 : Nat) (e : Env) (H : Heap) : enter cx 125 n0 1 e H = enterK [0] 0 n0 e H := rfl
@[simp] theorem en128_0 [MaxL] (n0 : Nat) (e : Env) (H : Heap) : enter cx 128 n0 0 e H = enterK [0] 0 n0 e H := rfl
@[simp] theorem en128_1 [MaxL] (n0 : Nat) (e : Env) (H : Heap) : enter cx 128 n0 1 e H = enterK [0] 0 n0 e H := rfl
@[simp] theorem en128_2 [MaxL] (n0 : Nat) (e : Env) (H : Heap) : enter cx 128 n0 2 e H = enterK [] 0 n0 e H := rfl
@[simp] theorem en128_3 [MaxL] (n0 : Nat) (e : Env) (H : Heap) : enter cx 128 n0 3 e H = enterK [0] 0 n0 e H := rfl
@[simp] theorem en129_0 [MaxL] (n0 : Nat) (e : Env) (H : Heap) : enter cx 129 n0 0 e H = enterK [0] 0 n0 e H := rfl
@[simp] theorem en129_1 [MaxL] (n0 : Nat) (e : Env) (H : Heap) : enter cx 129 n0 1 e H = enterK [0] 0 n0 e H := rfl
@[simp] theorem en129_2 [MaxL] (n0 : Nat) (e : Env) (H : Heap) : enter cx 129 n0 2 e H = enterK [] 0 n0 e H := rfl
@[simp] theorem en129_3 [MaxL] (n0 : Nat) (e : Env) (H : Heap) : enter cx 129 n0 3 e H = enterK [0] 0 n0 e H := rfl
@[simp] theorem en130_0 [MaxL] (n0 : Nat) (e : Env) (H : Heap) : enter cx 130 n0 0 e H = enterK [0] 0 n0 e H := rfl
@[simp] theorem en130_1 [MaxL] (n0 : Nat) (e : Env) (H : Heap) : enter cx 130 n0 1 e H = enterK [0] 0 n0 e H := rfl
@[simp] theorem en130_2 [MaxL] (n0 : Nat) (e : Env) (H : Heap) : enter cx 130 n0 2 e H = enterK [0, 4] 0 n0 e H := rfl
@[simp] theorem en130_3 [MaxL] (n0 : Nat) (e : Env) (H : Heap) : enter cx 130 n0 3 e H = enterK [] 0 n0 e H := rfl
@[simp] theorem en130_4 [MaxL] (n0 : Nat) (e : Env) (H : Heap) : enter cx 130 n0 4 e H = enterK [0, 4] 0 n0 e H := rfl
@[simp] theorem en130_5 [MaxL] (n0 : Nat) (e : Env) (H : Heap) : enter cx 130 n0 5 e H = enterK [0, 4, 5] 0 n0 e H := rfl
@[simp] theorem en130_6 [MaxL] (n0 : Nat) (e : Env) (H : Heap) : enter cx 130 n0 6 e H = enterK [0, 4, 5, 6] 0 n0 e H := rfl
@[simp] theorem en130_7 [MaxL] (n0 : Nat) (e : Env) (H : Heap) : enter cx 130 n0 7 e H = enterK [0, 6] 0 n0 e H := rfl
@[simp] theorem en130_8 [MaxL] (n0 : Nat) (e : Env) (H : Heap) : enter cx 130 n0 8 e H = enterK [0, 7] 0 n0 e H := rfl
@[simp] theorem en130_9 [MaxL] (n0 : Nat) (e : Env) (H : Heap) : enter cx 130 n0 9 e H = enterK [0, 4, 5, 6] 0 n0 e H := rfl
@[simp] theorem en130_10 [MaxL] (n0 : Nat) (e : Env) (H : Heap) : enter cx 130 n0 10 e H = enterK [0, 4, 5, 6, 8] 0 n0 e H := rfl
@[simp] theorem en130_11 [MaxL] (n0 : Nat) (e : Env) (H : Heap) : enter cx 130 n0 11 e H = enterK [0, 4, 5, 8, 9] 0 n0 e H := rfl
@[simp] theorem en130_12 [MaxL] (n0 : Nat) (e : Env) (H : Heap) : enter cx 130 n0 12 e H = enterK [] 0 n0 e H := rfl
@[simp] theorem en130_13 [MaxL] (n0 : Nat) (e : Env) (H : Heap) : enter cx 130 n0 13 e H = enterK [0, 5, 8, 9] 0 n0 e H := rfl
@[simp] theorem en130_14 [MaxL] (n0 : Nat) (e : Env) (H : Heap) : enter cx 130 n0 14 e H = enterK [0, 5, 8, 9, 10] 0 n0 e H := rfl
@[simp] theorem en130_15 [MaxL] (n0 : Nat) (e : Env) (H : Heap) : enter cx 130 n0 15 e H = enterK [] 0 n0 e H := rfl
@[simp] theorem en130_16 [MaxL] (n0 : Nat) (e : Env) (H : Heap) : enter cx 130 n0 16 e H = enterK [0, 5, 8, 10] 0 n0 e H := rfl
@[simp] theorem en130_17 [MaxL] (n0 : Nat) (e : Env) (H : Heap) : enter cx 130 n0 17 e H = enterK [5, 10] 0 n0 e H := rfl
@[simp] theorem en130_18 [MaxL] (n0 : Nat) (e : Env) (H : Heap) : enter cx 130 n0 18 e H = enterK [0, 5, 8, 10] 0 n0 e H := rfl
@[simp] theorem en130_19 [MaxL] (n0 : Nat) (e : Env) (H : Heap) : enter cx 130 n0 19 e H = enterK [0, 5, 8, 10, 11] 0 n0 e H := rfl
@[simp] theorem en130_20 [MaxL] (n0 : Nat) (e : Env) (H : Heap) : enter cx 130 n0 20 e H = enterK [] 0 n0 e H := rfl
@[simp] theorem en130_21 [MaxL] (n0 : Nat) (e : Env) (H : Heap) : enter cx 130 n0 21 e H = enterK [0, 5, 8, 10, 11] 0 n0 e H := rfl
@[simp] theorem en130_22 [MaxL] (n0 : Nat) (e : Env) (H : Heap) : enter cx 130 n0 22 e H = enterK [5, 10, 11] 0 n0 e H := rfl
@[simp] theorem en130_23 [MaxL] (n0 : Nat) (e : Env) (H : Heap) : enter cx 130 n0 23 e H = enterK [0, 5, 10, 11] 0 n0 e H := rfl
@[simp] theorem en130_24 [MaxL] (n0 : Nat) (e : Env) (H : Heap) : enter cx 130 n0 24 e H = enterK [5, 10, 11, 12] 0 n0 e H := rfl
@[simp] theorem en130_25 [MaxL] (n0 : Nat) (e : Env) (H : Heap) : enter cx 130 n0 25 e H = enterK [] 0 n0 e H := rfl
@[simp] theorem en130_26 [MaxL] (n0 : Nat) (e : Env) (H : Heap) : enter cx 130 n0 26 e H = enterK [5, 10, 11, 12] 0 n0 e H := rfl
@[simp] theorem en132_0 [MaxL] (n0 : Nat) (e : Env) (H : Heap) : enter cx 132 n0 0 e H = enterK [0] 0 n0 e H := rfl
@[simp] theorem en132_1 [MaxL] (n0 : Nat) (e : Env) (H : Heap) : enter cx 132 n0 1 e H = enterK [0] 0 n0 e H := rfl
@[simp] theorem en133_0 [MaxL] (n0 : Nat) (e : Env) (H : Heap) : enter cx 133 n0 0 e H = enterK [0, 1] 0 n0 e H := rfl
@[simp] theorem en133_1 [MaxL] (n0 : Nat) (e : Env) (H : Heap) : enter cx 133 n0 1 e H = enterK [0, 1] 0 n0 e H := rfl
@[simp] theorem en133_2 [MaxL] (n0 : Nat) (e : Env) (H : Heap) : enter cx 133 n0 2 e H = enterK [0] 0 n0 e H := rfl
@[simp] theorem en133_3 [MaxL] (n0 : Nat) (e : Env) (H : Heap) : enter cx 133 n0 3 e H = enterK [0] 0 n0 e H := rfl
@[simp] theorem en133_4 [MaxL] (n0 : Nat) (e : Env) (H : Heap) : enter cx 133 n0 4 e H = enterK [0] 0 n0 e H := rfl
@[simp] theorem en133_5 [MaxL] (n0 : Nat) (e : Env) (H : Heap) : enter cx 133 n0 5 e H = enterK [0, 5] 0 n0 e H := rfl
@[simp] theorem en133_6 [MaxL] (n0 : Nat) (e : Env) (H : Heap) : enter cx 133 n0 6 e H = enterK [0, 5, 6] 0 n0 e H := rfl
@[simp] theorem en133_7 [MaxL] (n0 : Nat) (e : Env) (H : Heap) : enter cx 133 n0 7 e H = enterK [0, 5, 6] 0 n0 e H := rfl
@[simp] theorem en133_8 [MaxL] (n0 : Nat) (e : Env) (H : Heap) : enter cx 133 n0 8 e H = enterK [0, 5, 6] 0 n0 e H := rfl
@[simp] theorem en133_9 [MaxL] (n0 : Nat) (e : Env) (H : Heap) : enter cx 133 n0 9 e H = enterK [0, 5, 6, 7] 0 n0 e H := rfl
@[simp] theorem en133_10 [MaxL] (n0 : Nat) (e : Env) (H : Heap) : enter cx 133 n0 10 e H = enterK [0, 5, 7] 0 n0 e H := rfl
@[simp] theorem en133_11 [MaxL] (n0 : Nat) (e : Env) (H : Heap) : enter cx 133 n0 11 e H = enterK [5, 7] 0 n0 e H := rfl
@[simp] theorem en133_12 [MaxL] (n0 : Nat) (e : Env) (H : Heap) : enter cx 133 n0 12 e H = enterK [5, 7] 0 n0 e H := rfl
@[simp] theorem en133_13 [MaxL] (n0 : Nat) (e : Env) (H : Heap) : enter cx 133 n0 13 e H = enterK [5, 7] 0 n0 e H := rfl
@[simp] theorem en133_14 [MaxL] (n0 : Nat) (e : Env) (H : Heap) : enter cx 133 n0 14 e H = enterK [0, 1] 0 n0 e H := rfl
@[simp] theorem en133_15 [MaxL] (n0 : Nat) (e : Env) (H : Heap) : enter cx 133 n0 15 e H = enterK [9] 0 n0 e H := rfl
end Go.Ev.S
/- What the evaluator needs of this program: printed by program. -/
namespace Go.Ev.S
open Go Go.Proofs Go.Ev
@[simp] theorem sz2 : szOf Tryd.prog 2 = 1 := by kernel_rfl
@[simp] theorem ag2 : aggQ Tryd.prog 2 = some false := by kernel_rfl
@[simp] theorem by2 : bytesOf Tryd.prog 2 = 8 := by kernel_rfl
@[simp] theorem zo2 : zeroOf Tryd.prog 2 = some (.int .i64 0) := by kernel_rfl
@[simp] theorem cq2 : cmpQ Tryd.prog 2 = true := by kernel_rfl
@[simp] theorem un2 : Tryd.prog.underlying 2 = some (.int .i64) := by kernel_rfl
@[simp] theorem sz3 : szOf Tryd.prog 3 = 1 := by kernel_rfl
@[simp] theorem ag3 : aggQ Tryd.prog 3 = some false := by kernel_rfl
@[simp] theorem by3 : bytesOf Tryd.prog 3 = 8 := by kernel_rfl
@[simp] theorem zo3 : zeroOf Tryd.prog 3 = some (.int .i64 0) := by kernel_rfl
@[simp] theorem cq3 : cmpQ Tryd.prog 3 = true := by kernel_rfl
@[simp] theorem un3 : Tryd.prog.underlying 3 = some (.int .i64) := by kernel_rfl
@[simp] theorem sz4 : szOf Tryd.prog 4 = 1 := by kernel_rfl
@[simp] theorem ag4 : aggQ Tryd.prog 4 = some false := by kernel_rfl
@[simp] theorem by4 : bytesOf Tryd.prog 4 = 1 := by kernel_rfl
@[simp] theorem zo4 : zeroOf Tryd.prog 4 = some (.bool false) := by kernel_rfl
@[simp] theorem un4 : Tryd.prog.underlying 4 = some .bool := by kernel_rfl
@[simp] theorem sz5 : szOf Tryd.prog 5 = 1 := by kernel_rfl
@[simp] theorem ag5 : aggQ Tryd.prog 5 = some false := by kernel_rfl
@[simp] theorem by5 : bytesOf Tryd.prog 5 = 1 := by kernel_rfl
@[simp] theorem zo5 : zeroOf Tryd.prog 5 = some (.int .u8 0) := by kernel_rfl
@[simp] theorem cq5 : cmpQ Tryd.prog 5 = true := by kernel_rfl
@[simp] theorem un5 : Tryd.prog.underlying 5 = some (.int .u8) := by kernel_rfl
@[simp] theorem sz9 : szOf Tryd.prog 9 = 1 := by kernel_rfl
@[simp] theorem ag9 : aggQ Tryd.prog 9 = some false := by kernel_rfl
@[simp] theorem by9 : bytesOf Tryd.prog 9 = 16 := by kernel_rfl
@[simp] theorem zo9 : zeroOf Tryd.prog 9 = some (.str []) := by kernel_rfl
@[simp] theorem un9 : Tryd.prog.underlying 9 = some .string := by kernel_rfl
@[simp] theorem sz21 : szOf Tryd.prog 21 = 1 := by kernel_rfl
@[simp] theorem ag21 : aggQ Tryd.prog 21 = some false := by kernel_rfl
@[simp] theorem by21 : bytesOf Tryd.prog 21 = 4 := by kernel_rfl
@[simp] theorem zo21 : zeroOf Tryd.prog 21 = some (.int .i32 0) := by kernel_rfl
@[simp] theorem cq21 : cmpQ Tryd.prog 21 = true := by kernel_rfl
@[simp] theorem un21 : Tryd.prog.underlying 21 = some (.int .i32) := by kernel_rfl
@[simp] theorem sz22 : szOf Tryd.prog 22 = 16 := by kernel_rfl
@[simp] theorem ag22 : aggQ Tryd.prog 22 = some true := by kernel_rfl
@[simp] theorem by22 : bytesOf Tryd.prog 22 = 16 := by kernel_rfl
@[simp] theorem zo22 : zeroOf Tryd.prog 22 = some (.agg [.int .u8 0, .int .u8 0, .int .u8 0, .int .u8 0, .int .u8 0, .int .u8 0, .int .u8 0, .int .u8 0, .int .u8 0, .int .u8 0, .int .u8 0, .int .u8 0, .int .u8 0, .int .u8 0, .int .u8 0, .int .u8 0]) := by kernel_rfl
@[simp] theorem un22 : Tryd.prog.underlying 22 = some (.array 16 5) := by kernel_rfl
@[simp] theorem sz23 : szOf Tryd.prog 23 = 16 := by kernel_rfl
@[simp] theorem ag23 : aggQ Tryd.prog 23 = some true := by kernel_rfl
@[simp] theorem by23 : bytesOf Tryd.prog 23 = 16 := by kernel_rfl
@[simp] theorem zo23 : zeroOf Tryd.prog 23 = some (.agg [.int .u8 0, .int .u8 0, .int .u8 0, .int .u8 0, .int .u8 0, .int .u8 0, .int .u8 0, .int .u8 0, .int .u8 0, .int .u8 0, .int .u8 0, .int .u8 0, .int .u8 0, .int .u8 0, .int .u8 0, .int .u8 0]) := by kernel_rfl
@[simp] theorem un23 : Tryd.prog.underlying 23 = some (.array 16 5) := by kernel_rfl
@[simp] theorem sz24 : szOf Tryd.prog 24 = 1 := by kernel_rfl
@[simp] theorem ag24 : aggQ Tryd.prog 24 = some false := by kernel_rfl
@[simp] theorem by24 : bytesOf Tryd.prog 24 = 8 := by kernel_rfl
@[simp] theorem zo24 : zeroOf Tryd.prog 24 = some (.int .u64 0) := by kernel_rfl
@[simp] theorem cq24 : cmpQ Tryd.prog 24 = true := by kernel_rfl
@[simp] theorem un24 : Tryd.prog.underlying 24 = some (.int .u64) := by kernel_rfl
@[simp] theorem sz25 : szOf Tryd.prog 25 = 36 := by kernel_rfl
@[simp] theorem ag25 : aggQ Tryd.prog 25 = some true := by kernel_rfl
@[simp] theorem by25 : bytesOf Tryd.prog 25 = 64 := by kernel_rfl
@[simp] theorem zo25 : zeroOf Tryd.prog 25 = some (.agg [.int .u8 0, .int .u8 0, .int .u8 0, .int .u8 0, .int .u8 0, .int .u8 0, .int .u8 0, .int .u8 0, .int .u8 0, .int .u8 0, .int .u8 0, .int .u8 0, .int .u8 0, .int .u8 0, .int .u8 0, .int .u8 0, .int .u64 0, .int .u8 0, .int .u8 0, .int .u8 0, .int .u8 0, .int .u8 0, .int .u8 0, .int .u8 0, .int .u8 0, .int .u8 0, .int .u8 0, .int .u8 0, .int .u8 0, .int .u8 0, .int .u8 0, .int .u8 0, .int .u8 0, .int .u64 0, .int .u64 0, .int .u64 0]) := by kernel_rfl
attribute [simp] Tryd.underlying25
@[simp] theorem sz26 : szOf Tryd.prog 26 = 36 := by kernel_rfl
@[simp] theorem ag26 : aggQ Tryd.prog 26 = some true := by kernel_rfl
@[simp] theorem by26 : bytesOf Tryd.prog 26 = 64 := by kernel_rfl
@[simp] theorem zo26 : zeroOf Tryd.prog 26 = some (.agg [.int .u8 0, .int .u8 0, .int .u8 0, .int .u8 0, .int .u8 0, .int .u8 0, .int .u8 0, .int .u8 0, .int .u8 0, .int .u8 0, .int .u8 0, .int .u8 0, .int .u8 0, .int .u8 0, .int .u8 0, .int .u8 0, .int .u64 0, .int .u8 0, .int .u8 0, .int .u8 0, .int .u8 0, .int .u8 0, .int .u8 0, .int .u8 0, .int .u8 0, .int .u8 0, .int .u8 0, .int .u8 0, .int .u8 0, .int .u8 0, .int .u8 0, .int .u8 0, .int .u8 0, .int .u64 0, .int .u64 0, .int .u64 0]) := by kernel_rfl
attribute [simp] Tryd.underlying26
@[simp] theorem sz32 : szOf Tryd.prog 32 = 1 := by kernel_rfl
@[simp] theorem ag32 : aggQ Tryd.prog 32 = some false := by kernel_rfl
@[simp] theorem by32 : bytesOf Tryd.prog 32 = 24 := by kernel_rfl
@[simp] theorem zo32 : zeroOf Tryd.prog 32 = some (.vsl true [] 0) := by kernel_rfl
@[simp] theorem un32 : Tryd.prog.underlying 32 = some (.slice 5) := by kernel_rfl
@[simp] theorem sz83 : szOf Tryd.prog 83 = 1 := by kernel_rfl
@[simp] theorem ag83 : aggQ Tryd.prog 83 = some false := by kernel_rfl
@[simp] theorem by83 : bytesOf Tryd.prog 83 = 24 := by kernel_rfl
@[simp] theorem zo83 : zeroOf Tryd.prog 83 = some (.vsl true [] 0) := by kernel_rfl
@[simp] theorem un83 : Tryd.prog.underlying 83 = some (.slice 9) := by kernel_rfl
@[simp] theorem sz102 : szOf Tryd.prog 102 = 1 := by kernel_rfl
@[simp] theorem ag102 : aggQ Tryd.prog 102 = some false := by kernel_rfl
@[simp] theorem by102 : bytesOf Tryd.prog 102 = 16 := by kernel_rfl
@[simp] theorem zo102 : zeroOf Tryd.prog 102 = some (.nili) := by kernel_rfl
attribute [simp] Tryd.underlying102
@[simp] theorem sz103 : szOf Tryd.prog 103 = 1 := by kernel_rfl
@[simp] theorem ag103 : aggQ Tryd.prog 103 = some false := by kernel_rfl
@[simp] theorem by103 : bytesOf Tryd.prog 103 = 16 := by kernel_rfl
@[simp] theorem zo103 : zeroOf Tryd.prog 103 = some (.nili) := by kernel_rfl
attribute [simp] Tryd.underlying103
@[simp] theorem sz108 : szOf Tryd.prog 108 = 1 := by kernel_rfl
@[simp] theorem ag108 : aggQ Tryd.prog 108 = some false := by kernel_rfl
@[simp] theorem by108 : bytesOf Tryd.prog 108 = 8 := by kernel_rfl
@[simp] theorem zo108 : zeroOf Tryd.prog 108 = some (.int .u64 0) := by kernel_rfl
@[simp] theorem cq108 : cmpQ Tryd.prog 108 = true := by kernel_rfl
@[simp] theorem un108 : Tryd.prog.underlying 108 = some (.int .u64) := by kernel_rfl
@[simp] theorem sz128 : szOf Tryd.prog 128 = 24 := by kernel_rfl
@[simp] theorem ag128 : aggQ Tryd.prog 128 = some true := by kernel_rfl
@[simp] theorem by128 : bytesOf Tryd.prog 128 = 24 := by kernel_rfl
@[simp] theorem zo128 : zeroOf Tryd.prog 128 = some (.agg [.int .u8 0, .int .u8 0, .int .u8 0, .int .u8 0, .int .u8 0, .int .u8 0, .int .u8 0, .int .u8 0, .int .u8 0, .int .u8 0, .int .u8 0, .int .u8 0, .int .u8 0, .int .u8 0, .int .u8 0, .int .u8 0, .int .u8 0, .int .u8 0, .int .u8 0, .int .u8 0, .int .u8 0, .int .u8 0, .int .u8 0, .int .u8 0]) := by kernel_rfl
@[simp] theorem un128 : Tryd.prog.underlying 128 = some (.array 24 5) := by kernel_rfl
@[simp] theorem sz135 : szOf Tryd.prog 135 = 1 := by kernel_rfl
@[simp] theorem ag135 : aggQ Tryd.prog 135 = some false := by kernel_rfl
@[simp] theorem by135 : bytesOf Tryd.prog 135 = 8 := by kernel_rfl
@[simp] theorem zo135 : zeroOf Tryd.prog 135 = some (.int .i64 0) := by kernel_rfl
@[simp] theorem cq135 : cmpQ Tryd.prog 135 = true := by kernel_rfl
@[simp] theorem un135 : Tryd.prog.underlying 135 = some (.int .i64) := by kernel_rfl
@[simp] theorem sz137 : szOf Tryd.prog 137 = 1 := by kernel_rfl
@[simp] theorem ag137 : aggQ Tryd.prog 137 = some false := by kernel_rfl
@[simp] theorem by137 : bytesOf Tryd.prog 137 = 8 := by kernel_rfl
@[simp] theorem zo137 : zeroOf Tryd.prog 137 = some (.nilp) := by kernel_rfl
@[simp] theorem un137 : Tryd.prog.underlying 137 = some (.pointer 156) := by kernel_rfl
@[simp] theorem sz140 : szOf Tryd.prog 140 = 1 := by kernel_rfl
@[simp] theorem ag140 : aggQ Tryd.prog 140 = some false := by kernel_rfl
@[simp] theorem by140 : bytesOf Tryd.prog 140 = 4 := by kernel_rfl
@[simp] theorem zo140 : zeroOf Tryd.prog 140 = some (.int .u32 0) := by kernel_rfl
@[simp] theorem cq140 : cmpQ Tryd.prog 140 = true := by kernel_rfl
@[simp] theorem un140 : Tryd.prog.underlying 140 = some (.int .u32) := by kernel_rfl
@[simp] theorem sz148 : szOf Tryd.prog 148 = 20 := by kernel_rfl
@[simp] theorem ag148 : aggQ Tryd.prog 148 = some true := by kernel_rfl
@[simp] theorem by148 : bytesOf Tryd.prog 148 = 160 := by kernel_rfl
@[simp] theorem zo148 : zeroOf Tryd.prog 148 = some (.agg [.int .u64 0, .int .u64 0, .int .u64 0, .int .u64 0, .int .u64 0, .int .u64 0, .int .u64 0, .int .u64 0, .int .u64 0, .int .u64 0, .int .u64 0, .int .u64 0, .int .u64 0, .int .u64 0, .int .u64 0, .int .u64 0, .int .u64 0, .int .u64 0, .int .u64 0, .int .u64 0]) := by kernel_rfl
@[simp] theorem un148 : Tryd.prog.underlying 148 = some (.array 20 24) := by kernel_rfl
@[simp] theorem sz149 : szOf Tryd.prog 149 = 65 := by kernel_rfl
@[simp] theorem ag149 : aggQ Tryd.prog 149 = some true := by kernel_rfl
@[simp] theorem by149 : bytesOf Tryd.prog 149 = 65 := by kernel_rfl
@[simp] theorem zo149 : zeroOf Tryd.prog 149 = some (.agg (List.replicate 65 (.int .u8 0))) := by kernel_rfl
@[simp] theorem un149 : Tryd.prog.underlying 149 = some (.array 65 5) := by kernel_rfl
@[simp] theorem sz155 : szOf Tryd.prog 155 = 3 := by kernel_rfl
@[simp] theorem ag155 : aggQ Tryd.prog 155 = some true := by kernel_rfl
@[simp] theorem by155 : bytesOf Tryd.prog 155 = 48 := by kernel_rfl
@[simp] theorem zo155 : zeroOf Tryd.prog 155 = some (.agg [.str [], .str [], .nili]) := by kernel_rfl
attribute [simp] Tryd.underlying155
@[simp] theorem sz156 : szOf Tryd.prog 156 = 3 := by kernel_rfl
@[simp] theorem ag156 : aggQ Tryd.prog 156 = some true := by kernel_rfl
@[simp] theorem by156 : bytesOf Tryd.prog 156 = 48 := by kernel_rfl
@[simp] theorem zo156 : zeroOf Tryd.prog 156 = some (.agg [.str [], .str [], .nili]) := by kernel_rfl
attribute [simp] Tryd.underlying156
@[simp] theorem sz163 : szOf Tryd.prog 163 = 1 := by kernel_rfl
@[simp] theorem ag163 : aggQ Tryd.prog 163 = some false := by kernel_rfl
@[simp] theorem by163 : bytesOf Tryd.prog 163 = 8 := by kernel_rfl
@[simp] theorem zo163 : zeroOf Tryd.prog 163 = some (.nilp) := by kernel_rfl
@[simp] theorem un163 : Tryd.prog.underlying 163 = some (.pointer 165) := by kernel_rfl
@[simp] theorem sz164 : szOf Tryd.prog 164 = 1 := by kernel_rfl
@[simp] theorem ag164 : aggQ Tryd.prog 164 = some true := by kernel_rfl
@[simp] theorem by164 : bytesOf Tryd.prog 164 = 16 := by kernel_rfl
@[simp] theorem zo164 : zeroOf Tryd.prog 164 = some (.agg [.str []]) := by kernel_rfl
attribute [simp] Tryd.underlying164
@[simp] theorem sz165 : szOf Tryd.prog 165 = 1 := by kernel_rfl
@[simp] theorem ag165 : aggQ Tryd.prog 165 = some true := by kernel_rfl
@[simp] theorem by165 : bytesOf Tryd.prog 165 = 16 := by kernel_rfl
@[simp] theorem zo165 : zeroOf Tryd.prog 165 = some (.agg [.str []]) := by kernel_rfl
attribute [simp] Tryd.underlying165
@[simp] theorem sz166 : szOf Tryd.prog 166 = 32 := by kernel_rfl
@[simp] theorem ag166 : aggQ Tryd.prog 166 = some true := by kernel_rfl
@[simp] theorem by166 : bytesOf Tryd.prog 166 = 32 := by kernel_rfl
@[simp] theorem zo166 : zeroOf Tryd.prog 166 = some (.agg (List.replicate 32 (.int .u8 0))) := by kernel_rfl
@[simp] theorem un166 : Tryd.prog.underlying 166 = some (.array 32 5) := by kernel_rfl
@[simp] theorem sz167 : szOf Tryd.prog 167 = 64 := by kernel_rfl
@[simp] theorem ag167 : aggQ Tryd.prog 167 = some true := by kernel_rfl
@[simp] theorem by167 : bytesOf Tryd.prog 167 = 64 := by kernel_rfl
@[simp] theorem zo167 : zeroOf Tryd.prog 167 = some (.agg (List.replicate 64 (.int .u8 0))) := by kernel_rfl
@[simp] theorem un167 : Tryd.prog.underlying 167 = some (.array 64 5) := by kernel_rfl
@[simp] theorem sz168 : szOf Tryd.prog 168 = 256 := by kernel_rfl
@[simp] theorem ag168 : aggQ Tryd.prog 168 = some true := by kernel_rfl
@[simp] theorem by168 : bytesOf Tryd.prog 168 = 256 := by kernel_rfl
@[simp] theorem zo168 : zeroOf Tryd.prog 168 = some (.agg (List.replicate 256 (.int .u8 0))) := by kernel_rfl
@[simp] theorem un168 : Tryd.prog.underlying 168 = some (.array 256 5) := by kernel_rfl
@[simp] theorem sz169 : szOf Tryd.prog 169 = 2 := by kernel_rfl
@[simp] theorem ag169 : aggQ Tryd.prog 169 = some true := by kernel_rfl
@[simp] theorem by169 : bytesOf Tryd.prog 169 = 2 := by kernel_rfl
@[simp] theorem zo169 : zeroOf Tryd.prog 169 = some (.agg [.int .u8 0, .int .u8 0]) := by kernel_rfl
attribute [simp] Tryd.underlying169
@[simp] theorem sz170 : szOf Tryd.prog 170 = 2 := by kernel_rfl
@[simp] theorem ag170 : aggQ Tryd.prog 170 = some true := by kernel_rfl
@[simp] theorem by170 : bytesOf Tryd.prog 170 = 2 := by kernel_rfl
@[simp] theorem zo170 : zeroOf Tryd.prog 170 = some (.agg [.int .u8 0, .int .u8 0]) := by kernel_rfl
attribute [simp] Tryd.underlying170
@[simp] theorem sz171 : szOf Tryd.prog 171 = 32 := by kernel_rfl
@[simp] theorem ag171 : aggQ Tryd.prog 171 = some true := by kernel_rfl
@[simp] theorem by171 : bytesOf Tryd.prog 171 = 32 := by kernel_rfl
@[simp] theorem zo171 : zeroOf Tryd.prog 171 = some (.agg (List.replicate 32 (.int .u8 0))) := by kernel_rfl
@[simp] theorem un171 : Tryd.prog.underlying 171 = some (.array 16 170) := by kernel_rfl
@[simp] theorem pl3 : plainTy Tryd.prog 50 3 = some ([.i]) := by kernel_rfl
@[simp] theorem eg3 : Tryd.prog.eqGuardType Tryd.prog.depth 3 = false := by kernel_rfl
@[simp] theorem pl4 : plainTy Tryd.prog 50 4 = some ([.b]) := by kernel_rfl
@[simp] theorem eg4 : Tryd.prog.eqGuardType Tryd.prog.depth 4 = false := by kernel_rfl
@[simp] theorem pl5 : plainTy Tryd.prog 50 5 = some ([.i]) := by kernel_rfl
@[simp] theorem eg5 : Tryd.prog.eqGuardType Tryd.prog.depth 5 = false := by kernel_rfl
@[simp] theorem pl9 : plainTy Tryd.prog 50 9 = some ([.s]) := by kernel_rfl
@[simp] theorem eg9 : Tryd.prog.eqGuardType Tryd.prog.depth 9 = false := by kernel_rfl
@[simp] theorem pl21 : plainTy Tryd.prog 50 21 = some ([.i]) := by kernel_rfl
@[simp] theorem eg21 : Tryd.prog.eqGuardType Tryd.prog.depth 21 = false := by kernel_rfl
@[simp] theorem pl23 : plainTy Tryd.prog 50 23 = some ([.i, .i, .i, .i, .i, .i, .i, .i, .i, .i, .i, .i, .i, .i, .i, .i]) := by kernel_rfl
@[simp] theorem eg23 : Tryd.prog.eqGuardType Tryd.prog.depth 23 = false := by kernel_rfl
@[simp] theorem pl24 : plainTy Tryd.prog 50 24 = some ([.i]) := by kernel_rfl
@[simp] theorem eg24 : Tryd.prog.eqGuardType Tryd.prog.depth 24 = false := by kernel_rfl
@[simp] theorem pl26 : plainTy Tryd.prog 50 26 = some (List.replicate 36 .i) := by kernel_rfl
@[simp] theorem eg26 : Tryd.prog.eqGuardType Tryd.prog.depth 26 = false := by kernel_rfl
@[simp] theorem pl140 : plainTy Tryd.prog 50 140 = some ([.i]) := by kernel_rfl
@[simp] theorem eg140 : Tryd.prog.eqGuardType Tryd.prog.depth 140 = false := by kernel_rfl
end Go.Ev.S
/- The library as it lies in this program: the shelf's layings, printed by its tool. -/
namespace Go.Proofs
open Go.Shelf
def Tryd.laysM316_ren : Go.Shelf.Ren := ⟨fun | 316 => 123 | n => n, fun | 9 => 9 | 3 => 3 | 4 => 4 | 37 => 32 | 0 => 0 | 127 => 145 | 5 => 5 | n => n, fun | n => n⟩
theorem Tryd.laysM316 : Go.Proofs.LaysM.n316 Tryd.prog Tryd.laysM316_ren := {
  mixed := by kernel_rfl
  f316 := Tryd.func123.trans (congrArg some (by kernel_rfl))
  t0 := Tryd.underlying0
  a0 := Tryd.isAgg0
  z0 := Tryd.sizeOf0
  v0 := Tryd.zeroValue0
  t3 := Tryd.underlying3
  a3 := Tryd.isAgg3
  z3 := Tryd.sizeOf3
  v3 := Tryd.zeroValue3
  t4 := Tryd.underlying4
  a4 := Tryd.isAgg4
  z4 := Tryd.sizeOf4
  v4 := Tryd.zeroValue4
  t9 := Tryd.underlying9
  a9 := Tryd.isAgg9
  z9 := Tryd.sizeOf9
  v9 := Tryd.zeroValue9
  t37 := Tryd.underlying32
  a37 := Tryd.isAgg32
  z37 := Tryd.sizeOf32
  v37 := Tryd.zeroValue32
  t127 := Tryd.underlying145
  a127 := Tryd.isAgg145
  z127 := Tryd.sizeOf145
  v127 := Tryd.zeroValue145
  t5 := Tryd.underlying5
  a5 := Tryd.isAgg5
  z5 := Tryd.sizeOf5
  v5 := Tryd.zeroValue5
  i0 := by kernel_rfl
  i3 := by kernel_rfl
  i4 := by kernel_rfl
  i5 := by kernel_rfl
  i9 := by kernel_rfl
  i37 := by kernel_rfl
  i127 := by kernel_rfl }
def Tryd.lays219_ren : Go.Shelf.Ren := ⟨fun | 219 => 96 | 217 => 74 | 225 => 121 | 224 => 85 | 267 => 122 | 266 => 103 | 314 => 131 | n => n, fun | 9 => 9 | 3 => 3 | 4 => 4 | 5 => 5 | 46 => 108 | 146 => 141 | 51 => 140 | n => n, fun | 1 => 0 | n => n⟩
theorem Tryd.lays219 : Go.Proofs.Lays.n219 Tryd.prog Tryd.lays219_ren := {
  mixed := by kernel_rfl
  f217 := Tryd.func74.trans (congrArg some (by kernel_rfl))
  f219 := Tryd.func96.trans (congrArg some (by kernel_rfl))
  f224 := Tryd.func85.trans (congrArg some (by kernel_rfl))
  f225 := Tryd.func121.trans (congrArg some (by kernel_rfl))
  f266 := Tryd.func103.trans (congrArg some (by kernel_rfl))
  f267 := Tryd.func122.trans (congrArg some (by kernel_rfl))
  f314 := Tryd.func131.trans (congrArg some (by kernel_rfl))
  t3 := Tryd.underlying3
  a3 := Tryd.isAgg3
  z3 := Tryd.sizeOf3
  v3 := Tryd.zeroValue3
  t4 := Tryd.underlying4
  a4 := Tryd.isAgg4
  z4 := Tryd.sizeOf4
  v4 := Tryd.zeroValue4
  t5 := Tryd.underlying5
  a5 := Tryd.isAgg5
  z5 := Tryd.sizeOf5
  v5 := Tryd.zeroValue5
  t9 := Tryd.underlying9
  a9 := Tryd.isAgg9
  z9 := Tryd.sizeOf9
  v9 := Tryd.zeroValue9
  t46 := Tryd.underlying108
  a46 := Tryd.isAgg108
  z46 := Tryd.sizeOf108
  v46 := Tryd.zeroValue108
  t51 := Tryd.underlying140
  a51 := Tryd.isAgg140
  z51 := Tryd.sizeOf140
  v51 := Tryd.zeroValue140
  t146 := Tryd.underlying141
  a146 := Tryd.isAgg141
  z146 := Tryd.sizeOf141
  v146 := Tryd.zeroValue141
  g1 := by kernel_rfl }
def Tryd.lays105_ren : Go.Shelf.Ren := ⟨fun | 105 => 60 | 212 => 75 | 99 => 76 | 165 => 77 | 166 => 78 | 170 => 79 | 169 => 80 | 263 => 104 | 264 => 105 | 206 => 106 | 240 => 107 | 241 => 108 | 276 => 126 | 277 => 127 | n => n, fun | 9 => 9 | 3 => 3 | 4 => 4 | 20 => 20 | 0 => 0 | 46 => 108 | 109 => 115 | 5 => 5 | 72 => 120 | 76 => 122 | 51 => 140 | 146 => 141 | 53 => 24 | 148 => 143 | 70 => 118 | 37 => 32 | 75 => 103 | 127 => 145 | 164 => 158 | 80 => 125 | n => n, fun | n => n⟩
theorem Tryd.lays105 : Go.Proofs.Lays.n105 Tryd.prog Tryd.lays105_ren := {
  mixed := by kernel_rfl
  f99 := Tryd.func76.trans (congrArg some (by kernel_rfl))
  f105 := Tryd.func60.trans (congrArg some (by kernel_rfl))
  f165 := Tryd.func77.trans (congrArg some (by kernel_rfl))
  f166 := Tryd.func78.trans (congrArg some (by kernel_rfl))
  f169 := Tryd.func80.trans (congrArg some (by kernel_rfl))
  f170 := Tryd.func79.trans (congrArg some (by kernel_rfl))
  f206 := Tryd.func106.trans (congrArg some (by kernel_rfl))
  f212 := Tryd.func75.trans (congrArg some (by kernel_rfl))
  f240 := Tryd.func107.trans (congrArg some (by kernel_rfl))
  f241 := Tryd.func108.trans (congrArg some (by kernel_rfl))
  f263 := Tryd.func104.trans (congrArg some (by kernel_rfl))
  f264 := Tryd.func105.trans (congrArg some (by kernel_rfl))
  f276 := Tryd.func126.trans (congrArg some (by kernel_rfl))
  f277 := Tryd.func127.trans (congrArg some (by kernel_rfl))
  t0 := Tryd.underlying0
  a0 := Tryd.isAgg0
  z0 := Tryd.sizeOf0
  v0 := Tryd.zeroValue0
  t3 := Tryd.underlying3
  a3 := Tryd.isAgg3
  z3 := Tryd.sizeOf3
  v3 := Tryd.zeroValue3
  t4 := Tryd.underlying4
  a4 := Tryd.isAgg4
  z4 := Tryd.sizeOf4
  v4 := Tryd.zeroValue4
  t5 := Tryd.underlying5
  a5 := Tryd.isAgg5
  z5 := Tryd.sizeOf5
  v5 := Tryd.zeroValue5
  t9 := Tryd.underlying9
  a9 := Tryd.isAgg9
  z9 := Tryd.sizeOf9
  v9 := Tryd.zeroValue9
  t20 := Tryd.underlying20
  a20 := Tryd.isAgg20
  z20 := Tryd.sizeOf20
  v20 := Tryd.zeroValue20
  t37 := Tryd.underlying32
  a37 := Tryd.isAgg32
  z37 := Tryd.sizeOf32
  v37 := Tryd.zeroValue32
  t46 := Tryd.underlying108
  a46 := Tryd.isAgg108
  z46 := Tryd.sizeOf108
  v46 := Tryd.zeroValue108
  t51 := Tryd.underlying140
  a51 := Tryd.isAgg140
  z51 := Tryd.sizeOf140
  v51 := Tryd.zeroValue140
  t53 := Tryd.underlying24
  a53 := Tryd.isAgg24
  z53 := Tryd.sizeOf24
  v53 := Tryd.zeroValue24
  t70 := Tryd.underlying118
  a70 := Tryd.isAgg118
  z70 := Tryd.sizeOf118
  v70 := Tryd.zeroValue118
  t72 := Tryd.underlying120
  a72 := Tryd.isAgg120
  z72 := Tryd.sizeOf120
  v72 := Tryd.zeroValue120
  t75 := Tryd.underlying103
  a75 := Tryd.isAgg103
  z75 := Tryd.sizeOf103
  v75 := Tryd.zeroValue103
  t76 := Tryd.underlying122
  a76 := Tryd.isAgg122
  z76 := Tryd.sizeOf122
  v76 := Tryd.zeroValue122
  t109 := Tryd.underlying115
  a109 := Tryd.isAgg115
  z109 := Tryd.sizeOf115
  v109 := Tryd.zeroValue115
  t127 := Tryd.underlying145
  a127 := Tryd.isAgg145
  z127 := Tryd.sizeOf145
  v127 := Tryd.zeroValue145
  t146 := Tryd.underlying141
  a146 := Tryd.isAgg141
  z146 := Tryd.sizeOf141
  v146 := Tryd.zeroValue141
  t148 := Tryd.underlying143
  a148 := Tryd.isAgg143
  z148 := Tryd.sizeOf143
  v148 := Tryd.zeroValue143
  t164 := Tryd.underlying158
  a164 := Tryd.isAgg158
  z164 := Tryd.sizeOf158
  v164 := Tryd.zeroValue158 }
theorem Tryd.Builder_Extra_105 : Builder.Extra Tryd.prog Tryd.lays105_ren := {
  sizeBuilder := by kernel_rfl
  liesBuilder := by kernel_rfl
  t5 := Tryd.underlying5
  a5 := Tryd.isAgg5
  z5 := Tryd.sizeOf5
  v5 := Tryd.zeroValue5
  infoByte := by kernel_rfl
  cellsByte := by kernel_rfl
  sizeByte := by kernel_rfl
  neB5 := by decide }
end Go.Proofs
namespace Go.Ev.S
open Go Go.Proofs Go.Ev
theorem ok_0 [MaxL] : okRange cx 0 40 = true := by kernel_rfl
theorem ok_40 [MaxL] : okRange cx 40 40 = true := by kernel_rfl
theorem ok_80 [MaxL] : okRange cx 80 40 = true := by kernel_rfl
theorem ok_120 [MaxL] : okRange cx 120 40 = true := by kernel_rfl
theorem ok_160 [MaxL] : okRange cx 160 4 = true := by kernel_rfl
theorem fsize : Tryd.prog.funcs.size = 164 := by kernel_rfl
theorem all_ok [MaxL] (f : Nat) (h : f < 164) : okOne cx f = true := by
  rcases Nat.lt_or_ge f 40 with h0 | h0
  · exact okRange_get ok_0 (by omega) (by omega)
  rcases Nat.lt_or_ge f 80 with h1 | h1
  · exact okRange_get ok_40 (by omega) (by omega)
  rcases Nat.lt_or_ge f 120 with h2 | h2
  · exact okRange_get ok_80 (by omega) (by omega)
  rcases Nat.lt_or_ge f 160 with h3 | h3
  · exact okRange_get ok_120 (by omega) (by omega)
  exact okRange_get ok_160 (by omega) (by omega)
set_option maxRecDepth 100000 in
theorem good [MaxL] : Good cx where
  mixed := by kernel_rfl
  okc f fn c hf hc hb := (okOne_get (all_ok f (by rw [← fsize]; exact (Array.getElem?_eq_some_iff.1 hf).1)) hf).2 c hc hb
  ng f fn hf := (okOne_get (all_ok f (by rw [← fsize]; exact (Array.getElem?_eq_some_iff.1 hf).1)) hf).1
  ext f fn args d hf hn h ok w ι H vs hs hv := by
    by_cases h103 : f = 103
    · subst h103
      rw [ex103] at h
      have hff := Tryd.func103
      rw [show cx.P.funcs[103]? = Tryd.prog.funcs[103]? from rfl, hff] at hf
      injection hf with hf
      subst hf
      exact idxBExt_run (P := cx.P) hff rfl (by kernel_rfl) (by kernel_rfl) (by kernel_rfl) h hv
    by_cases h120 : f = 120
    · subst h120
      rw [ex120] at h
      have hff := Tryd.func120
      rw [show cx.P.funcs[120]? = Tryd.prog.funcs[120]? from rfl, hff] at hf
      injection hf with hf
      subst hf
      exact cntExt_run (P := cx.P) hff rfl (by kernel_rfl) (by kernel_rfl) (by kernel_rfl) h hv
    · have : cx.ext f args = none := by
        show extT f args = none
        unfold extT
        split
        · exact absurd rfl h103
        · exact absurd rfl h120
        · rfl
      rw [this] at h
      cases h
  con f args H r H' h ok w ι vs hs hv := by
    by_cases h96 : f = 96
    · subst h96
      rw [co96] at h
      exact conIdx_run (X := cx) (m := MaxL.m) Tryd.lays219 rfl h hs hv
    by_cases h123 : f = 123
    · subst h123
      rw [co123] at h
      exact conClone_run (X := cx) Tryd.laysM316 h hs hv
    by_cases h60 : f = 60
    · subst h60
      rw [co60] at h
      exact conRepeat_run (X := cx) Tryd.lays105 Tryd.Builder_Extra_105 h hs hv
    · have : cx.con f args H = none := by
        show conT f args H = none
        unfold conT
        split
        · exact absurd rfl h96
        · exact absurd rfl h123
        · exact absurd rfl h60
        · rfl
      rw [this] at h
      cases h
end Go.Ev.S
namespace Go.Ev.S
open Go Go.Proofs Go.Ev
theorem globs [MaxL] {W : World} (h : laidMet Tryd.prog YtaponndjgdfkbaaDoor.Rows.cursorBackRow.laid W) (hm0 : W.cell? ⟨0, 0, none⟩ = some (.int .i64 MaxL.m)) : ∀ g cs, cx.glob g = some cs → Rep (· < W.heap.size) W iota0 [] (.vptr cs) (.pointer (some ⟨g, 0, none⟩)) := by
  unfold YtaponndjgdfkbaaDoor.Rows.cursorBackRow at h
  have t4 := rep_tab (g := 4) (zs := gz4) (Lib.tabIs_of_head (g := 4) (t := 166) (e := 5) (n := 32) (k := .u8) (by kernel_rfl) (by kernel_rfl) (by kernel_rfl) (by kernel_rfl) (by kernel_rfl) (by kernel_rfl) h) (by kernel_rfl)
  replace h := h.tail
  have t5 := rep_tab (g := 5) (zs := gz5) (Lib.tabIs_of_head (g := 5) (t := 167) (e := 5) (n := 64) (k := .u8) (by kernel_rfl) (by kernel_rfl) (by kernel_rfl) (by kernel_rfl) (by kernel_rfl) (by kernel_rfl) h) (by kernel_rfl)
  replace h := h.tail
  have t1 := rep_tab (g := 1) (zs := gz1) (Lib.tabIs_of_head (g := 1) (t := 148) (e := 24) (n := 20) (k := .u64) (by kernel_rfl) (by kernel_rfl) (by kernel_rfl) (by kernel_rfl) (by kernel_rfl) (by kernel_rfl) h) (by kernel_rfl)
  replace h := h.tail
  replace h := h.tail
  have t3 := rep_err (g := 3) (text := gs3) (by kernel_rfl) (laid_sentinel (g := 3) (ti := 103) (tp := 163) (te := 165) (ts := 9) h (by kernel_rfl) (by kernel_rfl) Tryd.underlying103 (err_row (base := "errors.errorString") (by decide) (by kernel_rfl) (by kernel_rfl) (by decide)) Tryd.underlying163 Tryd.underlying165 rfl rfl (by kernel_rfl) (by kernel_rfl) (by kernel_rfl))
  replace h := h.tail
  have t2 := rep_err (g := 2) (text := gs2) (by kernel_rfl) (laid_sentinel (g := 2) (ti := 103) (tp := 163) (te := 165) (ts := 9) h (by kernel_rfl) (by kernel_rfl) Tryd.underlying103 (err_row (base := "errors.errorString") (by decide) (by kernel_rfl) (by kernel_rfl) (by decide)) Tryd.underlying163 Tryd.underlying165 rfl rfl (by kernel_rfl) (by kernel_rfl) (by kernel_rfl))
  replace h := h.tail
  intro g cs hg
  have hgl : globT g = some cs := hg
  unfold globT at hgl
  split at hgl
  · cases hgl; exact t1
  · cases hgl; exact t2
  · cases hgl; exact t3
  · cases hgl; exact t4
  · cases hgl; exact t5
  · cases hgl; exact rep_one hm0
  · cases hgl
end Go.Ev.S
/- Names, marks. -/
namespace Go.Ev
open Go Go.Proofs
/-- A name of sixteen bytes. -/
structure ID where
  l : List UInt8
  h : l.length = 16
  deriving DecidableEq
@[simp] theorem ID.len (i : ID) : i.l.length = 16 := i.h
theorem ID.ext' {a b : ID} (h : a.l = b.l) : a = b := by cases a; cases b; simp at h; subst h; rfl
instance : Enc ID := ⟨16, fun i => ofBytes i.l, fun i => by simp, fun i => by simp⟩
theorem ID.cells (i : ID) : Enc.cells i = ofBytes i.l := rfl
def ID.zero : ID := ⟨List.replicate 16 0, by simp⟩
theorem cellsEq_bytes : ∀ (x y : List UInt8), x.length = y.length → cellsEq (List.replicate x.length .i) (ofBytes x) (ofBytes y) = some (x == y)
  | [], [], _ => rfl
  | a :: x, b :: y, h => by
    have ih := cellsEq_bytes x y (by simpa using h)
    simp only [List.length_cons, List.replicate_succ, ofBytes, List.map_cons, cellsEq, cellEq]
    simp only [ofBytes] at ih
    rw [ih]
    have : ((a.toNat : Int) == (b.toNat : Int)) = (a == b) := by
      rw [Bool.eq_iff_iff]
      simp only [beq_iff_eq, Int.natCast_inj]
      exact ⟨fun h => UInt8.toNat_inj.1 h, fun h => by rw [h]⟩
    simp [this]
  | [], _ :: _, h => by simp at h
  | _ :: _, [], h => by simp at h
theorem cellsEq_app : ∀ (k1 k2 : List CK) (a1 a2 b1 b2 : List D), k1.length = a1.length → k1.length = b1.length → cellsEq (k1 ++ k2) (a1 ++ a2) (b1 ++ b2) = match cellsEq k1 a1 b1, cellsEq k2 a2 b2 with
    | some x, some y => some (x && y)
    | _, _ => none
  | [], k2, [], a2, [], b2, _, _ => by
    simp only [List.nil_append, cellsEq]
    cases cellsEq k2 a2 b2 <;> simp
  | k :: k1, k2, a :: a1, a2, b :: b1, b2, h1, h2 => by
    simp only [List.cons_append, cellsEq, cellsEq_app k1 k2 a1 a2 b1 b2 (by simpa using h1) (by simpa using h2)]
    cases cellEq k a b <;> cases cellsEq k1 a1 b1 <;> cases cellsEq k2 a2 b2 <;> simp [Bool.and_assoc]
  | [], _, _ :: _, _, _, _, h, _ => by simp at h
  | [], _, [], _, _ :: _, _, _, h => by simp at h
  | _ :: _, _, [], _, _, _, h, _ => by simp at h
  | _ :: _, _, _ :: _, _, [], _, _, h => by simp at h
@[simp] theorem cellsEq16 (x y : ID) : cellsEq [.i, .i, .i, .i, .i, .i, .i, .i, .i, .i, .i, .i, .i, .i, .i, .i] (ofBytes x.l) (ofBytes y.l) = some (x == y) := by
  have := cellsEq_bytes x.l y.l (by simp)
  rw [x.h] at this
  have e : (x.l == y.l) = (x == y) := by
    rw [Bool.eq_iff_iff]
    simp only [beq_iff_eq]
    exact ⟨ID.ext', fun h => by rw [h]⟩
  rw [e] at this
  exact this
/-- A mark. -/
structure Mk where
  id : ID
  seq : Int
  lost : Int
  over : Int
  deriving DecidableEq
def isU64 (n : Int) : Prop := 0 ≤ n ∧ n < 18446744073709551616
structure Mk.Ok (m : Mk) : Prop where
  seq : isU64 m.seq
  lost : isU64 m.lost
  over : isU64 m.over
def Mk.tl (m : Mk) : List D := [.int .u64 m.seq, .int .u64 m.lost, .int .u64 m.over]
instance : Enc Mk := ⟨19, fun m => ofBytes m.id.l ++ m.tl, fun m => by simp [Mk.tl], fun m => by simp [Mk.tl, idFree]⟩
theorem Mk.cells (m : Mk) : Enc.cells m = ofBytes m.id.l ++ [.int .u64 m.seq, .int .u64 m.lost, .int .u64 m.over] := rfl
@[simp] theorem Mk.size : Enc.size Mk = 19 := rfl
@[simp] theorem ID.size : Enc.size ID = 16 := rfl
@[simp] theorem Mk.cl (a : Mk) : (Enc.cells a).length = 19 := Enc.len a
@[simp] theorem Mk.ct (a : Mk) (r : List D) : (Enc.cells a ++ r).take 19 = Enc.cells a := cells_take rfl a r
@[simp] theorem Mk.ct' (a : Mk) : (Enc.cells a).take 19 = Enc.cells a := cells_take' rfl a
@[simp] theorem Mk.cd (a : Mk) (r : List D) : (Enc.cells a ++ r).drop 19 = r := cells_drop rfl a r
@[simp] theorem Mk.el (l : List Mk) : (encs l).length = l.length * 19 := encs_len' rfl l
@[simp] theorem Mk.ed (l : List Mk) (i : Nat) : (encs l).drop (i * 19) = encs (l.drop i) := encs_drop rfl l i
@[simp] theorem Mk.et (l : List Mk) (i : Nat) : (encs l).take (i * 19) = encs (l.take i) := encs_take rfl l i
@[simp high] theorem Mk.ea {l : List Mk} {i : Nat} (h : i < l.length) : (encs l).drop (i * 19) = Enc.cells l[i] ++ encs (l.drop (i + 1)) := encs_at rfl h
@[simp high] theorem Mk.es (m : Mk) {l : List Mk} {j : Nat} (h : j < l.length) : setRange (encs l) (j * 19) (Enc.cells m) = encs (l.set j m) := encs_set rfl m l h
theorem drop_bytes {s : List UInt8} {n : Nat} (h : s.length ≤ n) : (ofBytes s).drop n = [] := List.drop_eq_nil_of_le (by simpa using h)
@[simp] theorem Mk.t16 (m : Mk) : (Enc.cells m).take 16 = ofBytes m.id.l := by simp [Mk.cells]
@[simp] theorem Mk.t16' (m : Mk) (r : List D) : (Enc.cells m ++ r).take 16 = ofBytes m.id.l := by simp [Mk.cells]
@[simp] theorem Mk.d16 (m : Mk) : (Enc.cells m).drop 16 = [.int .u64 m.seq, .int .u64 m.lost, .int .u64 m.over] := by simp [Mk.cells]
@[simp] theorem Mk.d17 (m : Mk) : (Enc.cells m).drop 17 = [.int .u64 m.lost, .int .u64 m.over] := by simp [Mk.cells, List.drop_append, drop_bytes]
@[simp] theorem Mk.d18 (m : Mk) : (Enc.cells m).drop 18 = [.int .u64 m.over] := by simp [Mk.cells, List.drop_append, drop_bytes]
@[simp] theorem Mk.d16' (m : Mk) (r : List D) : (Enc.cells m ++ r).drop 16 = [.int .u64 m.seq, .int .u64 m.lost, .int .u64 m.over] ++ r := by simp [Mk.cells]
@[simp] theorem Mk.d17' (m : Mk) (r : List D) : (Enc.cells m ++ r).drop 17 = [.int .u64 m.lost, .int .u64 m.over] ++ r := by simp [Mk.cells, List.drop_append, drop_bytes]
@[simp] theorem Mk.d18' (m : Mk) (r : List D) : (Enc.cells m ++ r).drop 18 = [.int .u64 m.over] ++ r := by simp [Mk.cells, List.drop_append, drop_bytes]
@[simp] theorem Mk.g16 (m : Mk) (h) : (Enc.cells m)[16]'h = .int .u64 m.seq := by simp [Mk.cells]
@[simp] theorem Mk.g17 (m : Mk) (h) : (Enc.cells m)[17]'h = .int .u64 m.lost := by simp [Mk.cells]
@[simp] theorem Mk.g18 (m : Mk) (h) : (Enc.cells m)[18]'h = .int .u64 m.over := by simp [Mk.cells]
@[simp] theorem Mk.s16 (m : Mk) (x : Int) : setRange (Enc.cells m) 16 [.int .u64 x] = Enc.cells { m with seq := x } := by simp [Mk.cells, List.drop_append, drop_bytes]
@[simp] theorem Mk.s17 (m : Mk) (x : Int) : setRange (Enc.cells m) 17 [.int .u64 x] = Enc.cells { m with lost := x } := by simp [Mk.cells, List.take_append, List.drop_append, drop_bytes, List.take_of_length_le]
@[simp] theorem Mk.s18 (m : Mk) (x : Int) : setRange (Enc.cells m) 18 [.int .u64 x] = Enc.cells { m with over := x } := by simp [Mk.cells, List.take_append, List.drop_append, drop_bytes, List.take_of_length_le]
theorem cellsEqMk (x y : Mk) : cellsEq [.i, .i, .i, .i, .i, .i, .i, .i, .i, .i, .i, .i, .i, .i, .i, .i, .i, .i, .i] (Enc.cells x) (Enc.cells y) = some (x == y) := by
  have h := cellsEq_app [.i, .i, .i, .i, .i, .i, .i, .i, .i, .i, .i, .i, .i, .i, .i, .i] [.i, .i, .i] (ofBytes x.id.l) x.tl (ofBytes y.id.l) y.tl (by simp) (by simp)
  rw [cellsEq16] at h
  have e : cellsEq [.i, .i, .i] x.tl y.tl = some (x.seq == y.seq && (x.lost == y.lost && x.over == y.over)) := by simp [Mk.tl, cellsEq]
  rw [e] at h
  have e2 : (x == y) = (x.id == y.id && (x.seq == y.seq && (x.lost == y.lost && x.over == y.over))) := by
    rw [Bool.eq_iff_iff]
    cases x; cases y
    simp [Mk.mk.injEq, beq_iff_eq]
  rw [e2]
  exact h
end Go.Ev
/- Fields, records, items. -/
namespace Go.Ev
open Go Go.Proofs
/-- A field. -/
structure Pr where
  name : List UInt8
  value : List UInt8
  deriving DecidableEq
instance : Enc Pr := ⟨2, fun p => [.str p.name, .str p.value], fun _ => rfl, fun _ => rfl⟩
theorem Pr.cells (p : Pr) : Enc.cells p = [.str p.name, .str p.value] := rfl
@[simp] theorem Pr.size : Enc.size Pr = 2 := rfl
@[simp] theorem Pr.cl (a : Pr) : (Enc.cells a).length = 2 := Enc.len a
@[simp] theorem Pr.ct (a : Pr) (r : List D) : (Enc.cells a ++ r).take 2 = Enc.cells a := cells_take rfl a r
@[simp] theorem Pr.ct' (a : Pr) : (Enc.cells a).take 2 = Enc.cells a := cells_take' rfl a
@[simp] theorem Pr.cd (a : Pr) (r : List D) : (Enc.cells a ++ r).drop 2 = r := cells_drop rfl a r
@[simp] theorem Pr.el (l : List Pr) : (encs l).length = l.length * 2 := encs_len' rfl l
@[simp] theorem Pr.ed (l : List Pr) (i : Nat) : (encs l).drop (i * 2) = encs (l.drop i) := encs_drop rfl l i
@[simp] theorem Pr.et (l : List Pr) (i : Nat) : (encs l).take (i * 2) = encs (l.take i) := encs_take rfl l i
@[simp high] theorem Pr.ea {l : List Pr} {i : Nat} (h : i < l.length) : (encs l).drop (i * 2) = Enc.cells l[i] ++ encs (l.drop (i + 1)) := encs_at rfl h
@[simp high] theorem Pr.es (m : Pr) {l : List Pr} {j : Nat} (h : j < l.length) : setRange (encs l) (j * 2) (Enc.cells m) = encs (l.set j m) := encs_set rfl m l h
/-- A record. -/
structure Rec where
  seq : Int
  real : Int
  mono : Int
  boot : ID
  fields : Sl Pr
instance : Enc Rec := ⟨20, fun r => [.int .u64 r.seq, .int .u64 r.real, .int .u64 r.mono] ++ (ofBytes r.boot.l ++ [(.vsl r.fields.nil (encs r.fields.l) r.fields.l.length)]), fun r => by simp, fun r => by simp [idFree]⟩
theorem Rec.cells (r : Rec) : Enc.cells r = [.int .u64 r.seq, .int .u64 r.real, .int .u64 r.mono] ++ (ofBytes r.boot.l ++ [(.vsl r.fields.nil (encs r.fields.l) r.fields.l.length)]) := rfl
@[simp] theorem Rec.size : Enc.size Rec = 20 := rfl
structure Rec.Ok (r : Rec) : Prop where
  seq : isU64 r.seq
  real : isU64 r.real
  mono : isU64 r.mono
@[simp] theorem Rec.cl (a : Rec) : (Enc.cells a).length = 20 := Enc.len a
@[simp] theorem Rec.ct (a : Rec) (r : List D) : (Enc.cells a ++ r).take 20 = Enc.cells a := cells_take rfl a r
@[simp] theorem Rec.ct' (a : Rec) : (Enc.cells a).take 20 = Enc.cells a := cells_take' rfl a
@[simp] theorem Rec.cd (a : Rec) (r : List D) : (Enc.cells a ++ r).drop 20 = r := cells_drop rfl a r
@[simp] theorem Rec.el (l : List Rec) : (encs l).length = l.length * 20 := encs_len' rfl l
@[simp] theorem Rec.ed (l : List Rec) (i : Nat) : (encs l).drop (i * 20) = encs (l.drop i) := encs_drop rfl l i
@[simp] theorem Rec.et (l : List Rec) (i : Nat) : (encs l).take (i * 20) = encs (l.take i) := encs_take rfl l i
@[simp high] theorem Rec.ea {l : List Rec} {i : Nat} (h : i < l.length) : (encs l).drop (i * 20) = Enc.cells l[i] ++ encs (l.drop (i + 1)) := encs_at rfl h
@[simp high] theorem Rec.es (m : Rec) {l : List Rec} {j : Nat} (h : j < l.length) : setRange (encs l) (j * 20) (Enc.cells m) = encs (l.set j m) := encs_set rfl m l h
/-- An item: an entry of a sequence, or numbers of it that are lost. -/
structure It where
  id : ID
  gap : Bool
  fr : Int
  til : Int
  rc : Rec
instance : Enc It := ⟨39, fun i => ofBytes i.id.l ++ ([.bool i.gap, .int .u64 i.fr, .int .u64 i.til] ++ Enc.cells i.rc), fun i => by simp, fun i => by simp [idFree]⟩
theorem It.cells (i : It) : Enc.cells i = ofBytes i.id.l ++ ([.bool i.gap, .int .u64 i.fr, .int .u64 i.til] ++ ([.int .u64 i.rc.seq, .int .u64 i.rc.real, .int .u64 i.rc.mono] ++ (ofBytes i.rc.boot.l ++ [(.vsl i.rc.fields.nil (encs i.rc.fields.l) i.rc.fields.l.length)]))) := rfl
@[simp] theorem It.size : Enc.size It = 39 := rfl
structure It.Ok (i : It) : Prop where
  fr : isU64 i.fr
  til : isU64 i.til
  rc : i.rc.Ok
@[simp] theorem It.cl (a : It) : (Enc.cells a).length = 39 := Enc.len a
@[simp] theorem It.ct (a : It) (r : List D) : (Enc.cells a ++ r).take 39 = Enc.cells a := cells_take rfl a r
@[simp] theorem It.ct' (a : It) : (Enc.cells a).take 39 = Enc.cells a := cells_take' rfl a
@[simp] theorem It.cd (a : It) (r : List D) : (Enc.cells a ++ r).drop 39 = r := cells_drop rfl a r
@[simp] theorem It.el (l : List It) : (encs l).length = l.length * 39 := encs_len' rfl l
@[simp] theorem It.ed (l : List It) (i : Nat) : (encs l).drop (i * 39) = encs (l.drop i) := encs_drop rfl l i
@[simp] theorem It.et (l : List It) (i : Nat) : (encs l).take (i * 39) = encs (l.take i) := encs_take rfl l i
@[simp high] theorem It.ea {l : List It} {i : Nat} (h : i < l.length) : (encs l).drop (i * 39) = Enc.cells l[i] ++ encs (l.drop (i + 1)) := encs_at rfl h
@[simp high] theorem It.es (m : It) {l : List It} {j : Nat} (h : j < l.length) : setRange (encs l) (j * 39) (Enc.cells m) = encs (l.set j m) := encs_set rfl m l h
@[simp] theorem It.t16 (i : It) : (Enc.cells i).take 16 = ofBytes i.id.l := by simp [It.cells]
@[simp] theorem It.t16' (i : It) (r : List D) : (Enc.cells i ++ r).take 16 = ofBytes i.id.l := by simp [It.cells]
@[simp] theorem It.d16 (i : It) : (Enc.cells i).drop 16 = .bool i.gap :: .int .u64 i.fr :: .int .u64 i.til :: .int .u64 i.rc.seq :: .int .u64 i.rc.real :: .int .u64 i.rc.mono :: (ofBytes i.rc.boot.l ++ [(.vsl i.rc.fields.nil (encs i.rc.fields.l) i.rc.fields.l.length)]) := by simp [It.cells]
@[simp] theorem It.d17 (i : It) : (Enc.cells i).drop 17 = .int .u64 i.fr :: .int .u64 i.til :: .int .u64 i.rc.seq :: .int .u64 i.rc.real :: .int .u64 i.rc.mono :: (ofBytes i.rc.boot.l ++ [(.vsl i.rc.fields.nil (encs i.rc.fields.l) i.rc.fields.l.length)]) := by simp [It.cells, List.drop_append, drop_bytes]
@[simp] theorem It.d18 (i : It) : (Enc.cells i).drop 18 = .int .u64 i.til :: .int .u64 i.rc.seq :: .int .u64 i.rc.real :: .int .u64 i.rc.mono :: (ofBytes i.rc.boot.l ++ [(.vsl i.rc.fields.nil (encs i.rc.fields.l) i.rc.fields.l.length)]) := by simp [It.cells, List.drop_append, drop_bytes]
@[simp] theorem It.d19 (i : It) : (Enc.cells i).drop 19 = .int .u64 i.rc.seq :: .int .u64 i.rc.real :: .int .u64 i.rc.mono :: (ofBytes i.rc.boot.l ++ [(.vsl i.rc.fields.nil (encs i.rc.fields.l) i.rc.fields.l.length)]) := by simp [It.cells, List.drop_append, drop_bytes]
@[simp] theorem It.d20 (i : It) : (Enc.cells i).drop 20 = .int .u64 i.rc.real :: .int .u64 i.rc.mono :: (ofBytes i.rc.boot.l ++ [(.vsl i.rc.fields.nil (encs i.rc.fields.l) i.rc.fields.l.length)]) := by simp [It.cells, List.drop_append, drop_bytes]
@[simp] theorem It.d21 (i : It) : (Enc.cells i).drop 21 = .int .u64 i.rc.mono :: (ofBytes i.rc.boot.l ++ [(.vsl i.rc.fields.nil (encs i.rc.fields.l) i.rc.fields.l.length)]) := by simp [It.cells, List.drop_append, drop_bytes]
@[simp] theorem It.d22 (i : It) : (Enc.cells i).drop 22 = ofBytes i.rc.boot.l ++ [(.vsl i.rc.fields.nil (encs i.rc.fields.l) i.rc.fields.l.length)] := by simp [It.cells, List.drop_append, drop_bytes]
@[simp] theorem It.d38 (i : It) : (Enc.cells i).drop 38 = [(.vsl i.rc.fields.nil (encs i.rc.fields.l) i.rc.fields.l.length)] := by simp [It.cells, List.drop_append, drop_bytes]
end Go.Ev
/- Numbers in bytes, the lowest first. -/
namespace Go.Ev
open Go Go.Proofs
/-- The number that bytes are. -/
def leN : List UInt8 → Nat
  | [] => 0
  | b :: l => b.toNat + 256 * leN l
/-- The lowest n bytes of a number. -/
def leB : Nat → Nat → List UInt8
  | 0, _ => []
  | n + 1, v => UInt8.ofNat (v % 256) :: leB n (v / 256)
@[simp] theorem leB_len : ∀ (n v : Nat), (leB n v).length = n
  | 0, _ => rfl
  | n + 1, v => by simp [leB, leB_len n]
theorem leN_lt : ∀ (l : List UInt8), leN l < 256 ^ l.length
  | [] => by simp [leN]
  | b :: l => by
    have h1 := leN_lt l
    have h2 := b.toNat_lt
    simp only [leN, List.length_cons, Nat.pow_succ]
    omega
theorem leN_leB : ∀ (n v : Nat), leN (leB n v) = v % 256 ^ n
  | 0, v => by simp [leB, leN, Nat.mod_one]
  | n + 1, v => by
    simp only [leB, leN, leN_leB n]
    rw [UInt8.toNat_ofNat_of_lt' (Nat.mod_lt _ (by decide)), Nat.pow_succ, Nat.mul_comm (256 ^ n) 256, Nat.mod_mul]
theorem leB_leN : ∀ (l : List UInt8), leB l.length (leN l) = l
  | [] => rfl
  | b :: l => by
    have h2 := b.toNat_lt
    have e1 : (b.toNat + 256 * leN l) % 256 = b.toNat := by omega
    have e2 : (b.toNat + 256 * leN l) / 256 = leN l := by omega
    simp only [List.length_cons, leN, leB, e1, e2, leB_leN l]
    simp
theorem leB_snoc : ∀ (n v : Nat), leB (n + 1) v = leB n v ++ [UInt8.ofNat (v / 256 ^ n % 256)]
  | 0, v => by simp [leB]
  | n + 1, v => by
    rw [leB, leB_snoc n (v / 256), leB, List.cons_append, Nat.div_div_eq_div_mul, Nat.pow_succ, Nat.mul_comm 256]
theorem leN_append : ∀ (a b : List UInt8), leN (a ++ b) = leN a + 256 ^ a.length * leN b
  | [], b => by simp [leN]
  | x :: a, b => by
    simp only [List.cons_append, leN, leN_append a b, List.length_cons, Nat.pow_succ]
    rw [Nat.mul_add, ← Nat.mul_assoc, Nat.mul_comm 256 (256 ^ a.length), Nat.add_assoc]
theorem ofBytes_append (a b : List UInt8) : ofBytes (a ++ b) = ofBytes a ++ ofBytes b := by simp [ofBytes]
theorem ofBytes_cons (a : UInt8) (b : List UInt8) : ofBytes (a :: b) = .int .u8 (a.toNat : Int) :: ofBytes b := rfl
theorem ofBytes_drop (l : List UInt8) (i : Nat) : (ofBytes l).drop i = ofBytes (l.drop i) := by simp [ofBytes]
theorem ofBytes_take (l : List UInt8) (i : Nat) : (ofBytes l).take i = ofBytes (l.take i) := by simp [ofBytes]
theorem ofBytes_at {l : List UInt8} {i : Nat} (h : i < l.length) : (ofBytes l).drop i = .int .u8 (l[i].toNat : Int) :: ofBytes (l.drop (i + 1)) := by
  rw [ofBytes_drop, List.drop_eq_getElem_cons h, ofBytes_cons]
theorem ofBytes_get {l : List UInt8} {i : Nat} (h : i < (ofBytes l).length) : (ofBytes l)[i] = .int .u8 ((l[i]'(by simpa using h)).toNat : Int) := by simp [ofBytes]
@[simp] theorem bytesD_of (s : List UInt8) : bytesD (ofBytes s) = some s := by
  induction s with
  | nil => rfl
  | cons a s ih =>
    have : bytesD (ofBytes (a :: s)) = (bytesD (ofBytes s)).map fun r => UInt8.ofNat ((a.toNat : Int)).toNat :: r := rfl
    rw [this, ih]
    simp
theorem or_shl (x y : Nat) (h : y < 256) : (x * 256) ||| y = x * 256 + y := by
  have := Nat.shiftLeft_add_eq_or_of_lt (b := y) (i := 8) (by simpa using h) x
  rw [Nat.shiftLeft_eq] at this
  simpa using this.symm
/-- A slice of one's own that grows, none at first. -/
def BufE {α : Type} [Enc α] (n : Nat) (d : D) (H : Heap) (l : List α) : Prop := (d = .vsl true [] 0 ∧ l = [] ∧ H = []) ∨ (d = .osl 0 (l.length * n) 0 l.length n ∧ H = [some (encs l)] ∧ l ≠ [])
theorem BufE.snoc {α : Type} [Enc α] {n : Nat} (l : List α) (a : α) : BufE n (.osl 0 (l.length * n + n) 0 (l.length + 1) n) [some (encs l ++ Enc.cells a)] (l ++ [a]) :=
  .inr ⟨by simp [Nat.add_mul], by simp [encs_snoc], by simp⟩
theorem BufE.one {α : Type} [Enc α] {n : Nat} (a : α) : BufE n (.osl 0 n 0 1 n) [some (Enc.cells a)] ([] ++ [a]) :=
  .inr ⟨by simp, by simp [encs_one], by simp⟩
/-- A list as a slice: none where it is empty. -/
def Sl.grown {α : Type} (l : List α) : Sl α := ⟨l.isEmpty, l, by simp⟩
@[simp] theorem Sl.grown_l {α : Type} (l : List α) : (Sl.grown l).l = l := rfl
def ID.mk' (l : List UInt8) : ID := if h : l.length = 16 then ⟨l, h⟩ else ID.zero
theorem ID.mk'_l {l : List UInt8} (h : l.length = 16) : (ID.mk' l).l = l := by unfold ID.mk'; rw [dif_pos h]
/-- The mark that bytes are. -/
def mkOf (r : List UInt8) : Mk := ⟨ID.mk' (r.take 16), leN ((r.drop 16).take 8), leN ((r.drop 24).take 8), leN ((r.drop 32).take 8)⟩
def lastGe (out : List Mk) (id : List UInt8) : Bool := match out.getLast? with
  | some m => decide (0 ≤ cmpB m.id.l id)
  | none => false
/-- Marks that are read one behind the other: what is read, the code. -/
def readGo : Nat → List UInt8 → List Mk → List Mk × Int
  | 0, _, out => (out, 0)
  | k + 1, r, out => if r.length < 16 then ([], 22) else if lastGe out (r.take 16) then ([], 13) else if r.length < 40 then ([], 22) else readGo k (r.drop 40) (out ++ [mkOf r])
def readM : List UInt8 → List Mk × Int
  | [] => ([], 22)
  | c :: r => if 4 < c.toNat then ([], 21) else readGo c.toNat r []
def readN (x : List Mk × Int) : Int := if x.2 = 0 then 1 + 40 * (x.1.length : Int) else 0
end Go.Ev
/- What arguments of plain data are, as data of one's own. -/
namespace Go.Ev
open Go Go.Proofs
section
variable {P : Program} {n : Nat} {t e : TypeId} {cs : List D}
theorem has_bool (hu : P.underlying t = some .bool) (h : HasT P (n + 1) t cs) : ∃ b, cs = [.bool b] := by
  unfold HasT at h; rw [hu] at h; exact h
theorem has_int {k : IntKind} (hu : P.underlying t = some (.int k)) (h : HasT P (n + 1) t cs) : ∃ x, cs = [.int k x] ∧ (Lit.int k x).wf = true := by
  unfold HasT at h; rw [hu] at h; exact h
theorem has_u64 (hu : P.underlying t = some (.int .u64)) (h : HasT P (n + 1) t cs) : ∃ x, cs = [.int .u64 x] ∧ isU64 x := by
  obtain ⟨x, h1, h2⟩ := has_int hu h
  refine ⟨x, h1, ?_⟩
  simp [Lit.wf, IntKind.min, IntKind.max, IntKind.signed, IntKind.bits] at h2
  unfold isU64
  omega
def isI64 (n : Int) : Prop := -9223372036854775808 ≤ n ∧ n < 9223372036854775808
theorem has_i64 (hu : P.underlying t = some (.int .i64)) (h : HasT P (n + 1) t cs) : ∃ x, cs = [.int .i64 x] ∧ isI64 x := by
  obtain ⟨x, h1, h2⟩ := has_int hu h
  refine ⟨x, h1, ?_⟩
  simp [Lit.wf, IntKind.min, IntKind.max, IntKind.signed, IntKind.bits] at h2
  unfold isI64
  omega
theorem has_u8 (hu : P.underlying t = some (.int .u8)) (h : HasT P (n + 1) t cs) : ∃ x : UInt8, cs = [.int .u8 x.toNat] := by
  obtain ⟨x, h1, h2⟩ := has_int hu h
  simp [Lit.wf, IntKind.min, IntKind.max, IntKind.signed, IntKind.bits] at h2
  refine ⟨UInt8.ofNat x.toNat, ?_⟩
  rw [h1, UInt8.toNat_ofNat_of_lt' (by simp; omega)]
  congr 2
  omega
theorem has_str (hu : P.underlying t = some .string) (h : HasT P (n + 1) t cs) : ∃ s, cs = [.str s] ∧ s.length ≤ maxLen := by
  unfold HasT at h; rw [hu] at h; exact h
theorem rows_bytes {e : TypeId} (hu : P.underlying e = some (.int .u8)) : ∀ (ls : List (List D)), (∀ l, l ∈ ls → l.length = P.cellsOf e ∧ HasT P (n + 1) e l) → ∃ s : List UInt8, ls.flatten = ofBytes s ∧ s.length = ls.length
  | [], _ => ⟨[], rfl, rfl⟩
  | l :: ls, h => by
    obtain ⟨x, hx⟩ := has_u8 hu (h l (List.mem_cons_self ..)).2
    obtain ⟨s, h1, h2⟩ := rows_bytes hu ls fun l' hl => h l' (List.mem_cons_of_mem _ hl)
    exact ⟨x :: s, by rw [List.flatten_cons, hx, h1]; rfl, by simp [h2]⟩
theorem has_id (hu : P.underlying t = some (.array 16 e)) (he : P.underlying e = some (.int .u8)) (h : HasT P (n + 2) t cs) : ∃ i : ID, cs = ofBytes i.l := by
  unfold HasT at h
  rw [hu] at h
  obtain ⟨ls, h1, h2, h3⟩ := h
  obtain ⟨s, s1, s2⟩ := rows_bytes he ls h3
  exact ⟨⟨s, by omega⟩, by rw [h1, s1]⟩
theorem has_bytes (hu : P.underlying t = some (.slice e)) (he : P.underlying e = some (.int .u8)) (h : HasT P (n + 2) t cs) : ∃ s : Sl UInt8, cs = [(.vsl s.nil (ofBytes s.l) s.l.length)] ∧ s.l.length ≤ maxLen := by
  unfold HasT at h
  rw [hu] at h
  rcases h with rfl | ⟨ls, h1, h2, h3⟩
  · exact ⟨.none, rfl, by simp⟩
  · obtain ⟨s, s1, s2⟩ := rows_bytes he ls h3
    exact ⟨.of s, by rw [h1, s1, ← s2]; rfl, by simp only [Sl.of_l]; omega⟩
theorem rows_enc {α : Type} [Enc α] {R : α → Prop} {Q : List D → Prop} (hel : ∀ l, Q l → ∃ a : α, l = Enc.cells a ∧ R a) : ∀ (ls : List (List D)), (∀ l, l ∈ ls → Q l) → ∃ s : List α, ls.flatten = encs s ∧ s.length = ls.length ∧ ∀ a, a ∈ s → R a
  | [], _ => ⟨[], rfl, rfl, by simp⟩
  | l :: ls, h => by
    obtain ⟨x, hx, hr⟩ := hel l (h l (List.mem_cons_self ..))
    obtain ⟨s, h1, h2, h3⟩ := rows_enc hel ls fun l' hl => h l' (List.mem_cons_of_mem _ hl)
    refine ⟨x :: s, by rw [List.flatten_cons, hx, h1, encs_cons], by simp [h2], fun a ha => ?_⟩
    rcases List.mem_cons.1 ha with rfl | ha
    · exact hr
    · exact h3 a ha
theorem has_slice {α : Type} [Enc α] {R : α → Prop} (hu : P.underlying t = some (.slice e)) (hel : ∀ l, HasT P n e l → ∃ a : α, l = Enc.cells a ∧ R a) (h : HasT P (n + 1) t cs) : ∃ s : Sl α, cs = [(.vsl s.nil (encs s.l) s.l.length)] ∧ s.l.length ≤ maxLen ∧ ∀ a, a ∈ s.l → R a := by
  unfold HasT at h
  rw [hu] at h
  rcases h with rfl | ⟨ls, h1, h2, h3⟩
  · exact ⟨.none, rfl, by simp, by simp⟩
  · obtain ⟨s, s1, s2, s3⟩ := rows_enc hel ls fun l hl => (h3 l hl).2
    exact ⟨.of s, by rw [h1, s1, ← s2]; rfl, by simp only [Sl.of_l]; omega, s3⟩
theorem has_struct {fs : Array Field} (hu : P.underlying t = some (.struct fs)) (h : HasT P (n + 1) t cs) : HasFs P (HasT P n) fs.toList cs := by
  unfold HasT at h; rw [hu] at h; exact h
end
/-- Cells back to a value. -/
theorem cor_val {W : World} {d : D} {v : Value} (h : Cor W [d] v.cells.toList) (ho : v.oneCell' = true) : Rep (· < W.heap.size) W iota0 [] d v := by
  have hv : v.cells.toList = [v] := by
    cases v <;> first | rfl | simp [Value.oneCell'] at ho
  rw [hv] at h
  exact h.2.2 0 d rfl
theorem cor_agg {W : World} {ds : List D} {vs : Array Value} (h : Cor W ds vs.toList) : Rep (· < W.heap.size) W iota0 [] (.agg ds) (.agg vs) := by
  refine .agg (by simpa using h.1.symm) h.2.1 fun j d hj => ?_
  have := h.2.2 j d hj
  simpa [List.getD_eq_getElem?_getD, Array.getD_eq_getD_getElem?] using this
end Go.Ev
namespace Go.Ev
open Go Go.Proofs
theorem one_slice {P : Program} {W : World} {base : Nat} {t e : TypeId} {v : Value} (hu : P.underlying t = some (.slice e)) (h : Value.okWide P W .any base t v) : v.oneCell' = true := by
  simp only [Value.okWide, hu, Cell.okWide] at h
  cases v <;> first | rfl | simp [Cell.ok, hu] at h
theorem one_bool {P : Program} {W : World} {base : Nat} {t : TypeId} {v : Value} (hu : P.underlying t = some .bool) (h : Value.okWide P W .any base t v) : v.oneCell' = true := by
  simp only [Value.okWide, hu, Cell.okWide] at h
  cases v <;> first | rfl | simp [Cell.ok, hu] at h
theorem one_int {P : Program} {W : World} {base : Nat} {t : TypeId} {k : IntKind} {v : Value} (hu : P.underlying t = some (.int k)) (h : Value.okWide P W .any base t v) : v.oneCell' = true := by
  simp only [Value.okWide, hu, Cell.okWide] at h
  cases v <;> first | rfl | simp [Cell.ok, hu] at h
theorem one_str {P : Program} {W : World} {base : Nat} {t : TypeId} {v : Value} (hu : P.underlying t = some .string) (h : Value.okWide P W .any base t v) : v.oneCell' = true := by
  simp only [Value.okWide, hu, Cell.okWide] at h
  cases v <;> first | rfl | simp [Cell.ok, hu] at h
theorem agg_struct {P : Program} {W : World} {base : Nat} {t : TypeId} {fs : Array Field} {v : Value} (hu : P.underlying t = some (.struct fs)) (h : Value.okWide P W .any base t v) : ∃ vs, v = .agg vs := by
  simp only [Value.okWide, hu] at h
  obtain ⟨cs, h, _⟩ := h
  exact ⟨cs, h⟩
theorem agg_array {P : Program} {W : World} {base : Nat} {t e : TypeId} {n : Nat} {v : Value} (hu : P.underlying t = some (.array n e)) (h : Value.okWide P W .any base t v) : ∃ vs, v = .agg vs := by
  simp only [Value.okWide, hu] at h
  obtain ⟨cs, h, _⟩ := h
  exact ⟨cs, h⟩
section
variable {H : Type} {enc : TypeId × Value → H} {P : Program} {W : World} {base n : Nat} {t e : TypeId} {v : Value} {d : DataW H} {ps : List MemPlace}
theorem arg_bytes (hu : P.underlying t = some (.slice e)) (he : P.underlying e = some (.int .u8)) (hp : PlainT P (n + 2) t = true) (hv : Value.okWide P W .any base t v) (h : DataW.Trod enc P W 0 (fun _ => true) true t v d ps) :
    ∃ s : Sl UInt8, Rep (· < W.heap.size) W iota0 [] (.vsl s.nil (ofBytes s.l) s.l.length) v ∧ s.l.length ≤ maxLen := by
  obtain ⟨ds, h1, h2⟩ := read_plain hp h
  obtain ⟨s, rfl, hl⟩ := has_bytes hu he h1
  exact ⟨s, cor_val h2 (one_slice hu hv), hl⟩
theorem arg_slice {α : Type} [Enc α] {R : α → Prop} (hu : P.underlying t = some (.slice e)) (hel : ∀ l, HasT P n e l → ∃ a : α, l = Enc.cells a ∧ R a) (hp : PlainT P (n + 1) t = true) (hv : Value.okWide P W .any base t v) (h : DataW.Trod enc P W 0 (fun _ => true) true t v d ps) :
    ∃ s : Sl α, Rep (· < W.heap.size) W iota0 [] (.vsl s.nil (encs s.l) s.l.length) v ∧ s.l.length ≤ maxLen ∧ ∀ a, a ∈ s.l → R a := by
  obtain ⟨ds, h1, h2⟩ := read_plain hp h
  obtain ⟨s, rfl, hl, hr⟩ := has_slice hu hel h1
  exact ⟨s, cor_val h2 (one_slice hu hv), hl, hr⟩
theorem arg_struct {α : Type} [Enc α] {R : α → Prop} {fs : Array Field} (hu : P.underlying t = some (.struct fs)) (hel : ∀ l, HasT P n t l → ∃ a : α, l = Enc.cells a ∧ R a) (hp : PlainT P n t = true) (hv : Value.okWide P W .any base t v) (h : DataW.Trod enc P W 0 (fun _ => true) true t v d ps) :
    ∃ a : α, Rep (· < W.heap.size) W iota0 [] (.agg (Enc.cells a)) v ∧ R a := by
  obtain ⟨ds, h1, h2⟩ := read_plain hp h
  obtain ⟨a, rfl, hr⟩ := hel ds h1
  obtain ⟨vs, rfl⟩ := agg_struct hu hv
  exact ⟨a, cor_agg h2, hr⟩
theorem arg_bool (hu : P.underlying t = some .bool) (hp : PlainT P (n + 1) t = true) (hv : Value.okWide P W .any base t v) (h : DataW.Trod enc P W 0 (fun _ => true) true t v d ps) : ∃ b, Rep (· < W.heap.size) W iota0 [] (.bool b) v := by
  obtain ⟨ds, h1, h2⟩ := read_plain hp h
  obtain ⟨b, rfl⟩ := has_bool hu h1
  exact ⟨b, cor_val h2 (one_bool hu hv)⟩
theorem arg_i64 (hu : P.underlying t = some (.int .i64)) (hp : PlainT P (n + 1) t = true) (hv : Value.okWide P W .any base t v) (h : DataW.Trod enc P W 0 (fun _ => true) true t v d ps) : ∃ b, Rep (· < W.heap.size) W iota0 [] (.int .i64 b) v ∧ isI64 b := by
  obtain ⟨ds, h1, h2⟩ := read_plain hp h
  obtain ⟨b, rfl, hb⟩ := has_i64 hu h1
  exact ⟨b, cor_val h2 (one_int hu hv), hb⟩
theorem arg_str (hu : P.underlying t = some .string) (hp : PlainT P (n + 1) t = true) (hv : Value.okWide P W .any base t v) (h : DataW.Trod enc P W 0 (fun _ => true) true t v d ps) : ∃ s, Rep (· < W.heap.size) W iota0 [] (.str s) v ∧ s.length ≤ maxLen := by
  obtain ⟨ds, h1, h2⟩ := read_plain hp h
  obtain ⟨b, rfl, hb⟩ := has_str hu h1
  exact ⟨b, cor_val h2 (one_str hu hv), hb⟩
end
theorem repL_nil' {ok : Nat → Prop} {w : World} {ι : Iota} {H : Heap} : RepL ok w ι H [] [] := ⟨rfl, by simp⟩
theorem repL_cons' {ok : Nat → Prop} {w : World} {ι : Iota} {H : Heap} {d : D} {v : Value} {ds : List D} {vs : List Value} (h : Rep ok w ι H d v) (hs : RepL ok w ι H ds vs) : RepL ok w ι H (d :: ds) (v :: vs) := by
  refine ⟨by simp [hs.1], fun j x hj => ?_⟩
  cases j with
  | zero => simp at hj; subst hj; exact h
  | succ j => exact hs.2 j x (by simpa using hj)
/-- Fields as they may come in. -/
def Rec.Fit (r : Rec) : Prop := r.fields.l.length ≤ maxLen ∧ ∀ p, p ∈ r.fields.l → p.name.length ≤ maxLen ∧ p.value.length ≤ maxLen
end Go.Ev
/- Cursors. -/
namespace Go.Ev
open Go Go.Proofs
@[simp] theorem ID.ta (i : ID) (r : List D) : (ofBytes i.l ++ r).take 16 = ofBytes i.l := by simp
@[simp] theorem ID.da (i : ID) (r : List D) : (ofBytes i.l ++ r).drop 16 = r := by simp
structure Cur where
  seq : ID
  n : Int
  boot : ID
  mono : Int
  real : Int
  xor : Int
  deriving DecidableEq
instance : Enc Cur := ⟨36, fun m => (ofBytes m.seq.l ++ (.int .u64 m.n :: (ofBytes m.boot.l ++ (.int .u64 m.mono :: (.int .u64 m.real :: (.int .u64 m.xor :: ([] : List D))))))), fun m => by simp, fun m => by simp [idFree]⟩
theorem Cur.cells (m : Cur) : Enc.cells m = (ofBytes m.seq.l ++ (.int .u64 m.n :: (ofBytes m.boot.l ++ (.int .u64 m.mono :: (.int .u64 m.real :: (.int .u64 m.xor :: ([] : List D))))))) := rfl
@[simp] theorem Cur.size : Enc.size Cur = 36 := rfl
@[simp] theorem Cur.cl (a : Cur) : (Enc.cells a).length = 36 := Enc.len a
@[simp] theorem Cur.ct (a : Cur) (r : List D) : (Enc.cells a ++ r).take 36 = Enc.cells a := cells_take rfl a r
@[simp] theorem Cur.ct' (a : Cur) : (Enc.cells a).take 36 = Enc.cells a := cells_take' rfl a
@[simp] theorem Cur.cd (a : Cur) (r : List D) : (Enc.cells a ++ r).drop 36 = r := cells_drop rfl a r
@[simp] theorem Cur.el (l : List Cur) : (encs l).length = l.length * 36 := encs_len' rfl l
@[simp] theorem Cur.ed (l : List Cur) (i : Nat) : (encs l).drop (i * 36) = encs (l.drop i) := encs_drop rfl l i
@[simp] theorem Cur.et (l : List Cur) (i : Nat) : (encs l).take (i * 36) = encs (l.take i) := encs_take rfl l i
@[simp high] theorem Cur.ea {l : List Cur} {i : Nat} (h : i < l.length) : (encs l).drop (i * 36) = Enc.cells l[i] ++ encs (l.drop (i + 1)) := encs_at rfl h
@[simp high] theorem Cur.es (m : Cur) {l : List Cur} {j : Nat} (h : j < l.length) : setRange (encs l) (j * 36) (Enc.cells m) = encs (l.set j m) := encs_set rfl m l h
@[simp] theorem Cur.t0 (m : Cur) : (Enc.cells m).take 16 = ofBytes m.seq.l := by simp [Cur.cells]
@[simp] theorem Cur.t0' (m : Cur) (r : List D) : (Enc.cells m ++ r).take 16 = ofBytes m.seq.l := by simp [Cur.cells]
@[simp] theorem Cur.s0 (m : Cur) (x : ID) : setRange (Enc.cells m) 0 (ofBytes x.l) = Enc.cells { m with seq := x } := by simp [List.take_append, Cur.cells]
@[simp] theorem Cur.d16 (m : Cur) : (Enc.cells m).drop 16 = (.int .u64 m.n :: (ofBytes m.boot.l ++ (.int .u64 m.mono :: (.int .u64 m.real :: (.int .u64 m.xor :: ([] : List D)))))) := by simp [Cur.cells]
@[simp] theorem Cur.d16' (m : Cur) (r : List D) : (Enc.cells m ++ r).drop 16 = (.int .u64 m.n :: (ofBytes m.boot.l ++ (.int .u64 m.mono :: (.int .u64 m.real :: (.int .u64 m.xor :: ([] : List D)))))) ++ r := by simp [Cur.cells]
@[simp] theorem Cur.g16 (m : Cur) (h) : (Enc.cells m)[16]'h = .int .u64 m.n := by simp [Cur.cells]
@[simp] theorem Cur.q16 (m : Cur) : (Enc.cells m)[16]? = some (.int .u64 m.n) := by simp [Cur.cells]
@[simp] theorem Cur.s16 (m : Cur) (x : Int) : setRange (Enc.cells m) 16 [.int .u64 x] = Enc.cells { m with n := x } := by simp [List.drop_append, drop_bytes, Cur.cells]
@[simp] theorem Cur.d17 (m : Cur) : (Enc.cells m).drop 17 = (ofBytes m.boot.l ++ (.int .u64 m.mono :: (.int .u64 m.real :: (.int .u64 m.xor :: ([] : List D))))) := by simp [List.drop_append, drop_bytes, Cur.cells]
@[simp] theorem Cur.d17' (m : Cur) (r : List D) : (Enc.cells m ++ r).drop 17 = (ofBytes m.boot.l ++ (.int .u64 m.mono :: (.int .u64 m.real :: (.int .u64 m.xor :: ([] : List D))))) ++ r := by simp [List.drop_append, drop_bytes, Cur.cells]
@[simp] theorem Cur.s17 (m : Cur) (x : ID) : setRange (Enc.cells m) 17 (ofBytes x.l) = Enc.cells { m with boot := x } := by simp [List.take_append, List.drop_append, drop_bytes, List.take_of_length_le, Cur.cells]
@[simp] theorem Cur.d33 (m : Cur) : (Enc.cells m).drop 33 = (.int .u64 m.mono :: (.int .u64 m.real :: (.int .u64 m.xor :: ([] : List D)))) := by simp [List.drop_append, drop_bytes, Cur.cells]
@[simp] theorem Cur.d33' (m : Cur) (r : List D) : (Enc.cells m ++ r).drop 33 = (.int .u64 m.mono :: (.int .u64 m.real :: (.int .u64 m.xor :: ([] : List D)))) ++ r := by simp [List.drop_append, drop_bytes, Cur.cells]
@[simp] theorem Cur.g33 (m : Cur) (h) : (Enc.cells m)[33]'h = .int .u64 m.mono := by simp [Cur.cells]
@[simp] theorem Cur.q33 (m : Cur) : (Enc.cells m)[33]? = some (.int .u64 m.mono) := by simp [Cur.cells]
@[simp] theorem Cur.s33 (m : Cur) (x : Int) : setRange (Enc.cells m) 33 [.int .u64 x] = Enc.cells { m with mono := x } := by simp [List.take_append, List.drop_append, drop_bytes, List.take_of_length_le, Cur.cells]
@[simp] theorem Cur.d34 (m : Cur) : (Enc.cells m).drop 34 = (.int .u64 m.real :: (.int .u64 m.xor :: ([] : List D))) := by simp [List.drop_append, drop_bytes, Cur.cells]
@[simp] theorem Cur.d34' (m : Cur) (r : List D) : (Enc.cells m ++ r).drop 34 = (.int .u64 m.real :: (.int .u64 m.xor :: ([] : List D))) ++ r := by simp [List.drop_append, drop_bytes, Cur.cells]
@[simp] theorem Cur.g34 (m : Cur) (h) : (Enc.cells m)[34]'h = .int .u64 m.real := by simp [Cur.cells]
@[simp] theorem Cur.q34 (m : Cur) : (Enc.cells m)[34]? = some (.int .u64 m.real) := by simp [Cur.cells]
@[simp] theorem Cur.s34 (m : Cur) (x : Int) : setRange (Enc.cells m) 34 [.int .u64 x] = Enc.cells { m with real := x } := by simp [List.take_append, List.drop_append, drop_bytes, List.take_of_length_le, Cur.cells]
@[simp] theorem Cur.d35 (m : Cur) : (Enc.cells m).drop 35 = (.int .u64 m.xor :: ([] : List D)) := by simp [List.drop_append, drop_bytes, Cur.cells]
@[simp] theorem Cur.d35' (m : Cur) (r : List D) : (Enc.cells m ++ r).drop 35 = (.int .u64 m.xor :: ([] : List D)) ++ r := by simp [List.drop_append, drop_bytes, Cur.cells]
@[simp] theorem Cur.g35 (m : Cur) (h) : (Enc.cells m)[35]'h = .int .u64 m.xor := by simp [Cur.cells]
@[simp] theorem Cur.q35 (m : Cur) : (Enc.cells m)[35]? = some (.int .u64 m.xor) := by simp [Cur.cells]
@[simp] theorem Cur.s35 (m : Cur) (x : Int) : setRange (Enc.cells m) 35 [.int .u64 x] = Enc.cells { m with xor := x } := by simp [List.take_append, List.drop_append, drop_bytes, List.take_of_length_le, Cur.cells]
end Go.Ev
/- The order of bytes. -/
namespace Go.Ev
open Go Go.Proofs
theorem cmpB_self : ∀ (x : List UInt8), cmpB x x = 0
  | [] => rfl
  | a :: x => by simp [cmpB, cmpB_self x]
theorem cmpB_swap : ∀ (x y : List UInt8), cmpB y x = - cmpB x y
  | [], [] => rfl
  | [], _ :: _ => rfl
  | _ :: _, [] => rfl
  | a :: x, b :: y => by
    simp only [cmpB]
    by_cases h : a = b
    · subst h; simp [cmpB_swap x y]
    · have h' : ¬ b = a := fun e => h e.symm
      rw [if_neg h, if_neg h']
      by_cases hl : a < b
      · have : ¬ b < a := UInt8.not_lt.2 (UInt8.le_of_lt hl)
        rw [if_pos hl, if_neg this]; rfl
      · have : b < a := UInt8.lt_of_le_of_ne (UInt8.not_lt.1 hl) h'
        rw [if_neg hl, if_pos this]
theorem cmpB_eq : ∀ {x y : List UInt8}, cmpB x y = 0 → x = y
  | [], [], _ => rfl
  | [], _ :: _, h => by simp [cmpB] at h
  | _ :: _, [], h => by simp [cmpB] at h
  | a :: x, b :: y, h => by
    simp only [cmpB] at h
    by_cases e : a = b
    · rw [if_pos e] at h
      rw [e, cmpB_eq h]
    · rw [if_neg e] at h
      split at h <;> simp at h
theorem cmpB_rng : ∀ (x y : List UInt8), cmpB x y = -1 ∨ cmpB x y = 0 ∨ cmpB x y = 1
  | [], [] => by simp [cmpB]
  | [], _ :: _ => by simp [cmpB]
  | _ :: _, [] => by simp [cmpB]
  | a :: x, b :: y => by
    simp only [cmpB]
    split
    · exact cmpB_rng x y
    · split <;> simp
theorem cmpB_trans : ∀ {x y z : List UInt8}, cmpB x y < 0 → cmpB y z < 0 → cmpB x z < 0
  | [], [], _, h, _ => by simp [cmpB] at h
  | [], _ :: _, [], _, h => by simp [cmpB] at h
  | [], _ :: _, _ :: _, _, _ => by simp [cmpB]
  | _ :: _, [], _, h, _ => by simp [cmpB] at h
  | _ :: _, _ :: _, [], _, h => by simp [cmpB] at h
  | a :: x, b :: y, c :: z, h1, h2 => by
    simp only [cmpB] at h1 h2 ⊢
    by_cases e1 : a = b
    · subst e1
      rw [if_pos rfl] at h1
      by_cases e2 : a = c
      · subst e2
        rw [if_pos rfl] at h2 ⊢
        exact cmpB_trans h1 h2
      · rw [if_neg e2] at h2 ⊢
        exact h2
    · rw [if_neg e1] at h1
      have l1 : a < b := by
        by_cases l : a < b
        · exact l
        · rw [if_neg l] at h1; simp at h1
      by_cases e2 : b = c
      · subst e2
        rw [if_neg e1, if_pos l1]
        decide
      · rw [if_neg e2] at h2
        have l2 : b < c := by
          by_cases l : b < c
          · exact l
          · rw [if_neg l] at h2; simp at h2
        have l3 : a < c := UInt8.lt_trans l1 l2
        rw [if_neg (UInt8.ne_of_lt l3), if_pos l3]
        decide
theorem id_of_cmp {a b : ID} (h : cmpB a.l b.l = 0) : a = b := ID.ext' (cmpB_eq h)
end Go.Ev
/- Hexadecimal digits. -/
namespace Go.Ev
open Go Go.Proofs
def hexc (k : Nat) : UInt8 := if k < 10 then UInt8.ofNat (48 + k) else UInt8.ofNat (87 + k)
def hexF : Nat → Nat → List UInt8
  | 0, _ => []
  | f + 1, v => if v < 16 then [hexc v] else hexF f (v / 16) ++ [hexc (v % 16)]
/-- A number's digits, as few as can be. -/
def hx (v : Nat) : List UInt8 := hexF 16 v
def digL : List UInt8 := [48, 49, 50, 51, 52, 53, 54, 55, 56, 57, 97, 98, 99, 100, 101, 102]
def dig36 : List UInt8 := [48, 49, 50, 51, 52, 53, 54, 55, 56, 57, 97, 98, 99, 100, 101, 102, 103, 104, 105, 106, 107, 108, 109, 110, 111, 112, 113, 114, 115, 116, 117, 118, 119, 120, 121, 122]
theorem dig36_at : ∀ k, k < 16 → dig36[k]? = some (hexc k) := by decide
theorem digL_at : ∀ k, k < 16 → digL[k]? = some (hexc k) := by decide
theorem digL_idx : ∀ k, k < 16 → idxB (hexc k) digL 0 = (k : Int) := by decide
theorem hexF_len : ∀ (f v : Nat), (hexF f v).length ≤ f
  | 0, _ => Nat.le_refl _
  | f + 1, v => by
    rw [hexF]
    split
    · simp
    · have := hexF_len f (v / 16)
      simp
      omega
theorem hx_len (v : Nat) : (hx v).length ≤ 16 := hexF_len 16 v
theorem hx_pos (v : Nat) : 0 < (hx v).length := by
  unfold hx hexF
  split <;> simp
theorem hexc_ne : ∀ k, k < 16 → hexc k ≠ 59 ∧ hexc k ≠ 61 ∧ hexc k ≠ 45 := by decide
theorem hexF_ne : ∀ (f v : Nat), ∀ x ∈ hexF f v, x ≠ 59 ∧ x ≠ 61 ∧ x ≠ 45
  | 0, _ => by simp [hexF]
  | f + 1, v => by
    rw [hexF]
    split
    · intro x hx
      rw [List.mem_singleton.1 hx]
      exact hexc_ne v (by assumption)
    · intro x hx
      rcases List.mem_append.1 hx with h | h
      · exact hexF_ne f _ x h
      · rw [List.mem_singleton.1 h]
        exact hexc_ne _ (Nat.mod_lt _ (by decide))
theorem hx_ne (v : Nat) : ∀ x ∈ hx v, x ≠ 59 ∧ x ≠ 61 ∧ x ≠ 45 := hexF_ne 16 v
/-- A name's digits. -/
def hexs : List UInt8 → List UInt8
  | [] => []
  | b :: l => hexc (b.toNat / 16) :: hexc (b.toNat % 16) :: hexs l
theorem hexs_len : ∀ (l : List UInt8), (hexs l).length = 2 * l.length
  | [] => rfl
  | b :: l => by simp [hexs, hexs_len l]; omega
theorem hexs_append : ∀ (a b : List UInt8), hexs (a ++ b) = hexs a ++ hexs b
  | [], _ => rfl
  | x :: a, b => by simp [hexs, hexs_append a b]
theorem hexs_ne : ∀ (l : List UInt8), ∀ x ∈ hexs l, x ≠ 59 ∧ x ≠ 61 ∧ x ≠ 45
  | [] => by simp [hexs]
  | b :: l => by
    intro x hx
    simp only [hexs, List.mem_cons] at hx
    have hb := b.toNat_lt
    rcases hx with rfl | rfl | hx
    · exact hexc_ne _ (by omega)
    · exact hexc_ne _ (by omega)
    · exact hexs_ne l x hx
/-- A number in sixteen digits. -/
def fixed (v : Nat) : List UInt8 := List.replicate (16 - (hx v).length) 48 ++ hx v
theorem fixed_len (v : Nat) : (fixed v).length = 16 := by
  have := hx_len v
  simp [fixed]
  omega
/-- The name that digits are, one digit behind the other. -/
def idGo : List UInt8 → Nat → List UInt8 → Option (List UInt8)
  | [], _, st => some st
  | c :: l, i, st => if idxB c digL 0 < 0 then none else idGo l (i + 1) (st.set (i / 2) ((st.getD (i / 2) 0 <<< 4) ||| UInt8.ofNat (idxB c digL 0).toNat))
def zero16 : List UInt8 := List.replicate 16 0
def idP (s : List UInt8) : Option (List UInt8) := if s.length = 32 then idGo s 0 zero16 else none
theorem idGo_len : ∀ (s : List UInt8) (i : Nat) (st r : List UInt8), idGo s i st = some r → r.length = st.length
  | [], _, st, r, h => by simp only [idGo, Option.some.injEq] at h; rw [h]
  | c :: l, i, st, r, h => by
    simp only [idGo] at h
    split at h
    · cases h
    · have := idGo_len l _ _ r h
      simpa using this
theorem idP_len {s r : List UInt8} (h : idP s = some r) : r.length = 16 := by
  unfold idP at h
  split at h
  · have := idGo_len _ _ _ _ h
    simpa [zero16] using this
  · cases h
theorem idx_range (c : UInt8) : ∀ (l : List UInt8) (n : Nat), idxB c l n = -1 ∨ ∃ k, k < l.length ∧ idxB c l n = ((n + k : Nat) : Int)
  | [], _ => .inl rfl
  | b :: l, n => by
    unfold idxB
    split
    · exact .inr ⟨0, by simp, by simp⟩
    · rcases idx_range c l (n + 1) with h | ⟨k, h1, h2⟩
      · exact .inl h
      · exact .inr ⟨k + 1, by simp; omega, by rw [h2]; omega⟩
theorem nib_orN : ∀ n, n < 256 → (((0 : UInt8) <<< 4 ||| UInt8.ofNat (n / 16)) <<< 4) ||| UInt8.ofNat (n % 16) = UInt8.ofNat n := by decide +kernel
theorem nib_or (b : UInt8) : (((0 : UInt8) <<< 4 ||| UInt8.ofNat (b.toNat / 16)) <<< 4) ||| UInt8.ofNat (b.toNat % 16) = b := by
  rw [nib_orN b.toNat b.toNat_lt, UInt8.ofNat_toNat]
theorem idGo_hexs : ∀ (l done : List UInt8), idGo (hexs l) (2 * done.length) (done ++ List.replicate l.length 0) = some (done ++ l)
  | [], done => by simp [hexs, idGo]
  | b :: l, done => by
    have hb := b.toNat_lt
    have h1 := digL_idx (b.toNat / 16) (by omega)
    have h2 := digL_idx (b.toNat % 16) (by omega)
    simp only [hexs, idGo, h1, h2]
    rw [if_neg (by omega), if_neg (by omega)]
    have e1 : 2 * done.length / 2 = done.length := by omega
    have e2 : (2 * done.length + 1) / 2 = done.length := by omega
    have e3 : 2 * done.length + 1 + 1 = 2 * (done ++ [b]).length := by simp; omega
    have g1 : (done ++ List.replicate (b :: l).length 0).getD done.length 0 = (0 : UInt8) := by
      simp [List.getD, List.replicate_succ]
    rw [e1, e2, e3, g1]
    have s1 : ∀ x : UInt8, (done ++ List.replicate (b :: l).length (0 : UInt8)).set done.length x = done ++ x :: List.replicate l.length 0 := by
      intro x
      simp [List.replicate_succ]
    rw [s1]
    have g2 : ∀ x : UInt8, (done ++ x :: List.replicate l.length (0 : UInt8)).getD done.length 0 = x := by
      intro x
      simp [List.getD]
    rw [g2]
    have s2 : ∀ x y : UInt8, (done ++ x :: List.replicate l.length (0 : UInt8)).set done.length y = (done ++ [y]) ++ List.replicate l.length 0 := by
      intro x y
      simp
    have e4 : ((((b.toNat / 16 : Nat) : Int)).toNat) = b.toNat / 16 := by omega
    have e5 : ((((b.toNat % 16 : Nat) : Int)).toNat) = b.toNat % 16 := by omega
    rw [s2, e4, e5, nib_or b, idGo_hexs l (done ++ [b])]
    simp
theorem idP_hexs {l : List UInt8} (h : l.length = 16) : idP (hexs l) = some l := by
  unfold idP
  rw [if_pos (by rw [hexs_len, h])]
  have := idGo_hexs l []
  simpa [zero16, h] using this
theorem shl4_N : ∀ n : Nat, n < 256 → ∀ k : Nat, k < 16 → orI .u8 (IntKind.u8.wrap ((n : Int) * 16)) (k : Int) = ((UInt8.ofNat n <<< 4 ||| UInt8.ofNat k).toNat : Int) := by decide +kernel
theorem shl4_u8 (a : UInt8) (k : Nat) (hk : k < 16) : orI .u8 (IntKind.u8.wrap ((a.toNat : Int) * 16)) (k : Int) = ((a <<< 4 ||| UInt8.ofNat k).toNat : Int) := by
  rw [shl4_N a.toNat a.toNat_lt k hk, UInt8.ofNat_toNat]
theorem and15_u64 {n : Nat} (h : n < 18446744073709551616) : andI .u64 (n : Int) 15 = ((n % 16 : Nat) : Int) := by
  unfold andI
  have e : (BitVec.ofInt IntKind.u64.bits (n : Int) &&& BitVec.ofInt IntKind.u64.bits 15).toNat = n % 16 := by
    show (BitVec.ofInt 64 (n : Int) &&& BitVec.ofInt 64 ((15 : Nat) : Int)).toNat = n % 16
    rw [BitVec.ofInt_natCast, BitVec.ofInt_natCast, BitVec.toNat_and, BitVec.toNat_ofNat, BitVec.toNat_ofNat, Nat.mod_eq_of_lt (show n < 2 ^ 64 by omega)]
    exact Nat.and_two_pow_sub_one_eq_mod n 4
  rw [e, wrap_u64]
  omega
theorem and15_u8N : ∀ n : Nat, n < 256 → andI .u8 (n : Int) 15 = ((n % 16 : Nat) : Int) := by decide +kernel
theorem and15_u8 (b : UInt8) : andI .u8 (b.toNat : Int) 15 = ((b.toNat % 16 : Nat) : Int) := and15_u8N b.toNat b.toNat_lt
theorem fdiv16 (n : Nat) : Int.fdiv (n : Int) 16 = ((n / 16 : Nat) : Int) := by
  rw [Int.fdiv_eq_ediv_of_nonneg _ (by omega)]
  omega
/-- A row of zeros, filled from behind. -/
theorem fill_behind (i : Nat) (s : List UInt8) (c : UInt8) : setRange (List.replicate (i + 1) (D.int .u8 0) ++ ofBytes s) i [.int .u8 c.toNat] = List.replicate i (.int .u8 0) ++ ofBytes (c :: s) := by
  unfold setRange
  have h : (List.replicate (i + 1) (D.int .u8 0) ++ ofBytes s).drop (i + 1) = ofBytes s := List.drop_left' (by simp)
  have h2 : (List.replicate (i + 1) (D.int .u8 0) ++ ofBytes s).take i = List.replicate i (D.int .u8 0) := by
    rw [List.take_append_of_le_length (by simp), List.take_replicate]
    congr 1
    omega
  rw [h2, List.length_singleton, h]
  simp [ofBytes]
end Go.Ev
/- Numbers in hexadecimal digits. -/
namespace Go.Ev.S
open Go Go.Proofs Go.Ev
theorem pow2_ev [MaxL] : call cx 116 [.int .i64 16] [] = some (.bool true, []) := call_some.2 ⟨60, by kernel_rfl⟩
theorem tz_ev [MaxL] : call cx 117 [.int .u64 16] [] = some (.int .i64 4, []) := call_some.2 ⟨100, by kernel_rfl⟩
/-- What stands in the row so far. -/
def HexI (v i u : Nat) (s : List UInt8) : Prop := ∃ g, 1 ≤ g ∧ g ≤ 16 ∧ i = 49 + g ∧ s.length + g = 16 ∧ u < 16 ^ g ∧ hexF g u ++ s = hx v
theorem hexI_step {v i u : Nat} {s : List UInt8} (h : HexI v i u s) (hu : 16 ≤ u) : 51 ≤ i ∧ HexI v (i - 1) (u / 16) (hexc (u % 16) :: s) := by
  obtain ⟨g, h1, h2, rfl, h4, h5, h6⟩ := h
  obtain ⟨f, rfl⟩ : ∃ f, g = f + 1 := ⟨g - 1, by omega⟩
  have hf : 1 ≤ f := by
    rcases f with _ | f
    · simp at h5; omega
    · omega
  refine ⟨by omega, f, hf, by omega, by omega, by simp; omega, by rw [Nat.pow_succ] at h5; omega, ?_⟩
  rw [hexF, if_neg (by omega)] at h6
  simpa using h6
theorem hexI_end {v i u : Nat} {s : List UInt8} (h : HexI v i u s) (hu : u < 16) : hexc u :: s = hx v ∧ 50 ≤ i ∧ i ≤ 65 ∧ i + s.length = 65 := by
  obtain ⟨g, h1, h2, rfl, h4, h5, h6⟩ := h
  obtain ⟨f, rfl⟩ : ∃ f, g = f + 1 := ⟨g - 1, by omega⟩
  rw [hexF, if_pos hu] at h6
  exact ⟨by simpa using h6, by omega, by omega, by omega⟩
theorem hexI_len {v i u : Nat} {s : List UInt8} (h : HexI v i u s) : i + s.length = 65 ∧ 50 ≤ i := by
  obtain ⟨g, h1, h2, rfl, h4, h5, h6⟩ := h
  omega
theorem fill_of {i j : Nat} (hi : i = j + 1) (s : List UInt8) (c : UInt8) : setRange (List.replicate i (D.int .u8 0) ++ ofBytes s) j [.int .u8 c.toNat] = List.replicate j (.int .u8 0) ++ ofBytes (c :: s) := by
  rw [hi]; exact fill_behind j s c
set_option maxHeartbeats 2000000 in
theorem fb16_ev [MaxL] (v : Nat) (hv : v < 18446744073709551616) : call cx 92 [.vsl true [] 0, .int .u64 v, .int .i64 16, .bool false, .bool false] [] = some (.tup [.vsl true [] 0, .str (hx v)], []) := by
  have h1 := pow2_ev
  have h2 := tz_ev
  have w16 : IntKind.u64.wrap 16 = 16 := by decide
  have w15 : IntKind.u64.wrap 15 = 15 := by decide
  have w4 : IntKind.u64.wrap 4 = 4 := by decide
  refine call_run Tryd.func92 rfl ⟨rfl, rfl⟩ ?_
  simp [-List.reduceReplicate, Tryd.f92, h1, h2, w16, w15, w4]
  refine Run.loopThen (fun (q : Nat × Nat × List UInt8) e H' => HexI v q.1 q.2.1 q.2.2 ∧ q.2.1 < 18446744073709551616 ∧ H' = [some (List.replicate q.1 (.int .u8 0) ++ ofBytes q.2.2)] ∧
      look e 0 = some (.vsl true [] 0) ∧ look e 1 = some (.int .u64 (q.2.1 : Nat)) ∧ look e 3 = some (.bool false) ∧ look e 4 = some (.bool false) ∧ look e 10 = some (.vsl true [] 0) ∧ look e 11 = some (.str []) ∧ look e 12 = some (.optr 0 65 0) ∧
      look e 13 = some (.int .i64 (q.1 : Nat)) ∧ look e 14 = some (.int .u64 4) ∧ look e 15 = some (.int .u64 16) ∧ look e 16 = some (.int .u64 15)) (fun q => q.2.1) (65, v, []) ?_ ?_
  · refine ⟨⟨16, by omega, by omega, by omega, by simp, by omega, by simp [hx]⟩, hv, ?_, ?_⟩
    · show [some (List.replicate 65 (D.int .u8 0))] = [some (List.replicate 65 (D.int .u8 0) ++ [])]
      rw [List.append_nil]
    · simp
  rintro ⟨i, u, s⟩ e H' ⟨hI, hu, rfl, k0, k1, k3, k4, k10, k11, k12, k13, k14, k15, k16⟩
  simp only at hI hu k1 k13
  obtain ⟨hl, h50⟩ := hexI_len hI
  obtain ⟨j, hj⟩ : ∃ j, i = j + 1 := ⟨i - 1, by omega⟩
  have hw : IntKind.i64.wrap ((i : Int) - 1) = (j : Int) := by rw [wrap_i64] <;> omega
  have hj65 : (j : Int) < 65 := by omega
  have hj1 : j + 1 ≤ i + s.length := by omega
  have hj64 : j ≤ 64 := by omega
  by_cases h16 : 16 ≤ u
  · have h16' : (16 : Int) ≤ (u : Int) := by omega
    obtain ⟨h51, hS⟩ := hexI_step hI h16
    have ha := and15_u64 hu
    have hd := dig36_at (u % 16) (Nat.mod_lt _ (by decide))
    simp only [dig36] at hd
    have hf := fdiv16 u
    have hst := fill_of hj s (hexc (u % 16))
    have e1 : i - 1 = j := by omega
    rw [e1] at hS
    have hu2 : u / 16 < u := by omega
    have hu3 : u / 16 < 18446744073709551616 := by omega
    generalize u / 16 = u2 at *
    generalize hexc (u % 16) = c at *
    obtain ⟨m, hm⟩ : ∃ m, m = u % 16 := ⟨_, rfl⟩
    rw [← hm] at ha hd
    simp [-setRange_eq, k0, k1, k3, k4, k10, k11, k12, k13, k14, k15, k16, h16', hw, hj65, hj64, hl, ha, hd, hst]
    have hp4 : (2 : Int) ^ min 4 IntKind.u64.bits = 16 := by decide
    exact ⟨j, u2, hu2, c :: s, hS, hu3, by simp [hp4, hf]⟩
  · have h16' : ¬ (16 : Int) ≤ (u : Int) := by omega
    obtain ⟨hE, _, _, _⟩ := hexI_end hI (by omega)
    have hd := dig36_at u (by omega)
    simp only [dig36] at hd
    have hst := fill_of hj s (hexc u)
    have hdr : List.take (65 - j) (List.drop j (List.replicate j (D.int .u8 0) ++ ofBytes (hexc u :: s))) = ofBytes (hx v) := by
      rw [List.drop_left' (by simp), hE]
      refine List.take_of_length_le ?_
      rw [← hE]
      simp
      omega
    have hj2 : (j : Int) ≤ 65 := by omega
    have hj3 : j ≤ 65 := by omega
    have hj4 : j < 65 := by omega
    have hl3 : j + (65 - j) = 65 := by omega
    have hl4 : j + (hx v).length = 65 := by rw [← hE]; simp; omega
    have hlh : (hx v).length = 65 - j := by rw [← hE]; simp; omega
    have hl2 : j + (ofBytes (hexc u :: s)).length = 65 := by simp; omega
    simp only [hE] at hst hdr hl2
    generalize hexc u = c at *
    simp [-setRange_eq, k0, k1, k3, k4, k10, k11, k12, k13, k14, k15, k16, h16', hw, hj65, hj64, hl, hd, hst, hj2, hj4, hl3, hlh]
theorem fui16_ev [MaxL] (v : Nat) (hv : v < 18446744073709551616) : call cx 69 [.int .u64 v, .int .i64 16] [] = some (.str (hx v), []) := by
  have h := fb16_ev v hv
  refine call_run Tryd.func69 rfl ⟨rfl, rfl⟩ ?_
  simp [Tryd.f69, h]
theorem fu16_ev [MaxL] (v : Nat) (hv : v < 18446744073709551616) : call cx 54 [.int .u64 v, .int .i64 16] [] = some (.str (hx v), []) := by
  have h := fui16_ev v hv
  refine call_run Tryd.func54 rfl ⟨rfl, rfl⟩ ?_
  simp [Tryd.f54, h]
end Go.Ev.S
/- Numbers that texts are. -/
namespace Go.Ev.S
open Go Go.Proofs Go.Ev
theorem orI_u8 (a b : UInt8) : orI .u8 (a.toNat : Int) (b.toNat : Int) = ((a ||| b).toNat : Int) := by
  unfold orI
  have h := (a ||| b).toNat_lt
  have e : (BitVec.ofInt IntKind.u8.bits (a.toNat : Int) ||| BitVec.ofInt IntKind.u8.bits (b.toNat : Int)).toNat = (a ||| b).toNat := by
    simp [IntKind.bits]
    rfl
  rw [e, wrap_u8]
  omega
theorem lower_ev [MaxL] (c : UInt8) : call cx 97 [.int .u8 c.toNat] [] = some (.int .u8 ((c ||| 32).toNat : Int), []) := by
  have h := orI_u8 c 32
  have h' : orI .u8 (c.toNat : Int) 32 = ((c ||| 32).toNat : Int) := h
  refine call_run Tryd.func97 rfl ⟨rfl, rfl⟩ ?_
  simp [Tryd.f97, h']
theorem all_u8 {p : UInt8 → Bool} (h : ((List.range 256).all fun k => p (UInt8.ofNat k)) = true) (c : UInt8) : p c = true := by
  have := List.all_eq_true.1 h c.toNat (List.mem_range.2 c.toNat_lt)
  rw [UInt8.ofNat_toNat] at this
  exact this
theorem low_lt {c : UInt8} (h : c.toNat < 48) : (c ||| 32).toNat < 97 := by
  have := all_u8 (p := fun c => decide (c.toNat < 48) == false || decide ((c ||| 32).toNat < 97)) (by decide +kernel) c
  simpa [h] using this
theorem low_95 {c : UInt8} (h : c.toNat = 95) : 122 < (c ||| 32).toNat := by
  simp [h]
/-- What a sign counts; none: it is no digit. -/
def dval (c : UInt8) : Option Nat := if 48 ≤ c.toNat ∧ c.toNat ≤ 57 then some (c.toNat - 48) else if 97 ≤ (c ||| 32).toNat ∧ (c ||| 32).toNat ≤ 122 then some ((c ||| 32).toNat - 97 + 10) else none
def puGo (b : Nat) : List UInt8 → Nat → Option Nat
  | [], n => some n
  | c :: l, n => match dval c with
    | none => none
    | some d => if b ≤ d then none else if 18446744073709551616 ≤ n * b + d then none else puGo b l (n * b + d)
def pu (b : Nat) (s : List UInt8) : Option Nat := if s = [] then none else puGo b s 0
def cutoff (b : Nat) : Nat := if b = 10 then 1844674407370955162 else 1152921504606846976
theorem cut_of {b n d : Nat} (hb : b = 10 ∨ b = 16) (h : cutoff b ≤ n) : 18446744073709551616 ≤ n * b + d := by
  unfold cutoff at h
  rcases hb with rfl | rfl
  · simp at h; omega
  · simp at h; omega
theorem cut_ok {b n : Nat} (hb : b = 10 ∨ b = 16) (h : n < cutoff b) : n * b < 18446744073709551616 := by
  unfold cutoff at h
  rcases hb with rfl | rfl
  · simp at h; omega
  · simp at h; omega
theorem wrap_over {x d : Nat} (hx : x < 18446744073709551616) (hd : d < 16) (h : 18446744073709551616 ≤ x + d) : IntKind.u64.wrap ((x : Int) + (d : Int)) < (x : Int) := by
  simp only [IntKind.wrap, IntKind.signed, IntKind.bits]
  simp
  omega
theorem puGo_lt (b : Nat) : ∀ (l : List UInt8) (n v : Nat), n < 18446744073709551616 → puGo b l n = some v → v < 18446744073709551616
  | [], n, v, hn, h => by simp [puGo] at h; omega
  | c :: l, n, v, hn, h => by
    unfold puGo at h
    split at h
    · cases h
    · split at h
      · cases h
      · split at h
        · cases h
        · exact puGo_lt b l _ v (by omega) h
set_option maxHeartbeats 2000000 in
set_option maxRecDepth 4000 in
theorem pui_ev [MaxL] (b : Nat) (hb : b = 10 ∨ b = 16) (s : List UInt8) (hs : s.length < 4611686018427387904) :
    (∃ n, pu b s = some n ∧ call cx 72 [.str s, .int .i64 b, .int .i64 64] [] = some (.tup [.int .u64 n, .nili], [])) ∨
    (pu b s = none ∧ ∃ (x : Nat) (c : Int), (c = 1 ∨ c = 2) ∧ call cx 72 [.str s, .int .i64 b, .int .i64 64] [] = some (.tup [.int .u64 x, .iface 135 (.int .i64 c)], [])) := by
  suffices h : ∃ r, call cx 72 [.str s, .int .i64 b, .int .i64 64] [] = some r ∧ ((∃ n, pu b s = some n ∧ r = (.tup [.int .u64 n, .nili], [])) ∨ (pu b s = none ∧ ∃ (x : Nat) (c : Int), (c = 1 ∨ c = 2) ∧ r = (.tup [.int .u64 x, .iface 135 (.int .i64 c)], []))) by
    obtain ⟨r, h1, ⟨n, h2, rfl⟩ | ⟨h2, x, c, h3, rfl⟩⟩ := h
    · exact .inl ⟨n, h2, h1⟩
    · exact .inr ⟨h2, x, c, h3, h1⟩
  refine call_runE (fun r => (∃ n : Nat, pu b s = some n ∧ r = (D.tup [.int .u64 n, .nili], [])) ∨ (pu b s = none ∧ ∃ (x : Nat) (c : Int), (c = 1 ∨ c = 2) ∧ r = (D.tup [.int .u64 x, .iface 135 (.int .i64 c)], []))) Tryd.func72 rfl ⟨rfl, rfl⟩ ?_
  by_cases h0 : s = []
  · subst h0
    simp [Tryd.f72, pu]
    exact ⟨0, rfl⟩
  · have hpos : s.length ≠ 0 := by simpa using h0
    have hc2 : (2 : Int) ≤ (b : Int) := by omega
    have hc36 : (b : Int) ≤ 36 := by omega
    have hbz : ¬ (b : Int) = 0 := by omega
    have hmx : IntKind.u64.wrap (IntKind.u64.wrap (2 ^ min 64 IntKind.u64.bits) - 1) = 18446744073709551615 := by decide
    have hpu : pu b s = puGo b s 0 := by rw [pu, if_neg h0]
    rcases hb with rfl | rfl
    · simp [Tryd.f72, h0, hmx]
      refine Run.loopThen (fun (z : Nat × Nat) e H' => z.1 ≤ s.length ∧ z.2 < 18446744073709551616 ∧ puGo 10 (s.drop z.1) z.2 = puGo 10 s 0 ∧ H' = [some (ofBytes s)] ∧ look e 1 = some (.int .i64 10) ∧ look e 8 = some (.bool false) ∧ look e 9 = some (.str s) ∧ look e 10 = some (.int .u64 1844674407370955162) ∧ look e 11 = some (.int .u64 18446744073709551615) ∧ look e 12 = some (.bool false) ∧ look e 13 = some (.int .u64 (z.2 : Nat)) ∧ look e 99 = some (.osl 0 s.length 0 s.length 1) ∧ look e 100 = some (.int .i64 s.length) ∧ look e 101 = some (.int .i64 (z.1 : Nat))) (fun z => s.length - z.1) (0, 0) (by simp) ?_
      rintro ⟨i, n⟩ e H' ⟨hi, hn, hp, rfl, h1, h8, h9, h10, h11, h12, h13, h99, h100, h101⟩
      simp only at hi hn hp h13 h101
      by_cases hlt : i < s.length
      · have hlt' : (i : Int) < (s.length : Int) := by omega
        have hw : IntKind.i64.wrap ((i : Int) + 1) = ((i + 1 : Nat) : Int) := by rw [wrap_i64] <;> omega
        have hc := lower_ev s[i]
        have hclt := s[i].toNat_lt
        rw [List.drop_eq_getElem_cons hlt, puGo] at hp
        unfold dval at hp
        by_cases hd : 48 ≤ s[i].toNat ∧ s[i].toNat ≤ 57
        · rw [if_pos hd] at hp
          have g1 : (48 : Int) ≤ (s[i].toNat : Int) := by omega
          have g2 : (s[i].toNat : Int) ≤ 57 := by omega
          have g3 : ¬ (s[i].toNat : Int) = 95 := by omega
          obtain ⟨d, hdd⟩ : ∃ d, d = s[i].toNat - 48 := ⟨_, rfl⟩
          have dw : IntKind.u8.wrap ((s[i].toNat : Int) - 48) = (d : Int) := by rw [wrap_u8] <;> omega
          rw [← hdd] at hp
          simp only at hp
          have hd16 : d < 16 := by omega
          have wd : IntKind.u64.wrap (d : Int) = (d : Int) := by rw [wrap_u64]; omega
          by_cases hbd : 10 ≤ d
          · have hbd' : (10 : Int) ≤ (d : Int) := by omega
            rw [if_pos hbd] at hp
            simp [h1, h8, h9, h10, h11, h12, h13, h99, h100, h101, hlt', ofBytes_at hlt, g1, g2, g3, dw, hbd']
            exact ⟨by rw [hpu]; exact hp.symm, 0, rfl⟩
          · have hbd' : ¬ (10 : Int) ≤ (d : Int) := by omega
            rw [if_neg hbd] at hp
            by_cases hcut : 1844674407370955162 ≤ n
            · have hcut' : (1844674407370955162 : Int) ≤ (n : Int) := by omega
              rw [if_pos (by omega)] at hp
              simp [h1, h8, h9, h10, h11, h12, h13, h99, h100, h101, hlt', ofBytes_at hlt, g1, g2, g3, dw, hbd', hcut']
              exact ⟨by rw [hpu]; exact hp.symm, 18446744073709551615, rfl⟩
            · have hcut' : ¬ (1844674407370955162 : Int) ≤ (n : Int) := by omega
              obtain ⟨m, hm⟩ : ∃ m, m = n * 10 := ⟨_, rfl⟩
              have hm64 : m < 18446744073709551616 := by omega
              have wm : IntKind.u64.wrap ((n : Int) * 10) = (m : Int) := by rw [wrap_u64] <;> omega
              rw [← hm] at hp
              by_cases hov : 18446744073709551616 ≤ m + d
              · rw [if_pos hov] at hp
                have hx := wrap_over hm64 (by omega) hov
                generalize hX : IntKind.u64.wrap ((m : Int) + (d : Int)) = X at hx
                simp [h1, h8, h9, h10, h11, h12, h13, h99, h100, h101, hlt', ofBytes_at hlt, g1, g2, g3, dw, hbd', hcut', wd, wm, hX, hx]
                exact ⟨by rw [hpu]; exact hp.symm, 18446744073709551615, rfl⟩
              · rw [if_neg hov] at hp
                obtain ⟨q, hq⟩ : ∃ q, q = m + d := ⟨_, rfl⟩
                have wq : IntKind.u64.wrap ((m : Int) + (d : Int)) = (q : Int) := by rw [wrap_u64] <;> omega
                have hx1 : ¬ (q : Int) < (m : Int) := by omega
                have hx2 : ¬ (18446744073709551615 : Int) < (q : Int) := by omega
                rw [← hq] at hp
                simp [h1, h8, h9, h10, h11, h12, h13, h99, h100, h101, hlt', ofBytes_at hlt, g1, g2, g3, dw, hbd', hcut', wd, wm, wq, hx1, hx2, hw]
                exact ⟨i + 1, by omega, by omega, q, by omega, hp, rfl, by simp⟩
        · rw [if_neg hd] at hp
          by_cases h48 : s[i].toNat < 48
          · have lw := low_lt h48
            rw [if_neg (by omega)] at hp
            have g1 : ¬ (48 : Int) ≤ (s[i].toNat : Int) := by omega
            have g3 : ¬ (s[i].toNat : Int) = 95 := by omega
            have f1 : ¬ (97 : Int) ≤ ((s[i] ||| 32).toNat : Int) := by omega
            generalize (s[i] ||| 32).toNat = lc at *
            simp only at hp
            simp [h1, h8, h9, h10, h11, h12, h13, h99, h100, h101, hlt', ofBytes_at hlt, g1, g3, hc, f1]
            exact ⟨by rw [hpu]; exact hp.symm, 0, rfl⟩
          · have g1 : (48 : Int) ≤ (s[i].toNat : Int) := by omega
            have g2 : ¬ (s[i].toNat : Int) ≤ 57 := by omega
            by_cases g95 : s[i].toNat = 95
            · have lw := low_95 g95
              rw [if_neg (by omega)] at hp
              have g3 : (s[i].toNat : Int) = 95 := by omega
              have f1 : (97 : Int) ≤ ((s[i] ||| 32).toNat : Int) := by omega
              have f2 : ¬ ((s[i] ||| 32).toNat : Int) ≤ 122 := by omega
              generalize (s[i] ||| 32).toNat = lc at *
              rw [g3] at hc
              simp only at hp
              simp [h1, h8, h9, h10, h11, h12, h13, h99, h100, h101, hlt', ofBytes_at hlt, g3, hc, f1, f2]
              exact ⟨by rw [hpu]; exact hp.symm, 0, rfl⟩
            · have g3 : ¬ (s[i].toNat : Int) = 95 := by omega
              have lw256 := (s[i] ||| 32).toNat_lt
              generalize (s[i] ||| 32).toNat = lc at *
              by_cases f : 97 ≤ lc ∧ lc ≤ 122
              · rw [if_pos f] at hp
                have f1 : (97 : Int) ≤ (lc : Int) := by omega
                have f2 : (lc : Int) ≤ 122 := by omega
                obtain ⟨d0, hd0⟩ : ∃ d, d = lc - 97 := ⟨_, rfl⟩
                obtain ⟨d, hdd⟩ : ∃ d, d = d0 + 10 := ⟨_, rfl⟩
                have dw1 : IntKind.u8.wrap ((lc : Int) - 97) = (d0 : Int) := by rw [wrap_u8] <;> omega
                have dw2 : IntKind.u8.wrap ((d0 : Int) + 10) = (d : Int) := by rw [wrap_u8] <;> omega
                rw [← hd0, ← hdd] at hp
                simp only at hp
                have hd16 : d < 36 := by omega
                have wd : IntKind.u64.wrap (d : Int) = (d : Int) := by rw [wrap_u64]; omega
                by_cases hbd : 10 ≤ d
                · have hbd' : (10 : Int) ≤ (d : Int) := by omega
                  rw [if_pos hbd] at hp
                  simp [h1, h8, h9, h10, h11, h12, h13, h99, h100, h101, hlt', ofBytes_at hlt, g1, g2, g3, hc, f1, f2, dw1, dw2, hbd']
                  exact ⟨by rw [hpu]; exact hp.symm, 0, rfl⟩
                · have hbd' : ¬ (10 : Int) ≤ (d : Int) := by omega
                  rw [if_neg hbd] at hp
                  by_cases hcut : 1844674407370955162 ≤ n
                  · have hcut' : (1844674407370955162 : Int) ≤ (n : Int) := by omega
                    rw [if_pos (by omega)] at hp
                    simp [h1, h8, h9, h10, h11, h12, h13, h99, h100, h101, hlt', ofBytes_at hlt, g1, g2, g3, hc, f1, f2, dw1, dw2, hbd', hcut']
                    exact ⟨by rw [hpu]; exact hp.symm, 18446744073709551615, rfl⟩
                  · have hcut' : ¬ (1844674407370955162 : Int) ≤ (n : Int) := by omega
                    obtain ⟨m, hm⟩ : ∃ m, m = n * 10 := ⟨_, rfl⟩
                    have hm64 : m < 18446744073709551616 := by omega
                    have wm : IntKind.u64.wrap ((n : Int) * 10) = (m : Int) := by rw [wrap_u64] <;> omega
                    rw [← hm] at hp
                    by_cases hov : 18446744073709551616 ≤ m + d
                    · rw [if_pos hov] at hp
                      have hx := wrap_over hm64 (by omega) hov
                      generalize hX : IntKind.u64.wrap ((m : Int) + (d : Int)) = X at hx
                      simp [h1, h8, h9, h10, h11, h12, h13, h99, h100, h101, hlt', ofBytes_at hlt, g1, g2, g3, hc, f1, f2, dw1, dw2, hbd', hcut', wd, wm, hX, hx]
                      exact ⟨by rw [hpu]; exact hp.symm, 18446744073709551615, rfl⟩
                    · rw [if_neg hov] at hp
                      obtain ⟨q, hq⟩ : ∃ q, q = m + d := ⟨_, rfl⟩
                      have wq : IntKind.u64.wrap ((m : Int) + (d : Int)) = (q : Int) := by rw [wrap_u64] <;> omega
                      have hx1 : ¬ (q : Int) < (m : Int) := by omega
                      have hx2 : ¬ (18446744073709551615 : Int) < (q : Int) := by omega
                      rw [← hq] at hp
                      simp [h1, h8, h9, h10, h11, h12, h13, h99, h100, h101, hlt', ofBytes_at hlt, g1, g2, g3, hc, f1, f2, dw1, dw2, hbd', hcut', wd, wm, wq, hx1, hx2, hw]
                      exact ⟨i + 1, by omega, by omega, q, by omega, hp, rfl, by simp⟩
              · rw [if_neg f] at hp
                by_cases f3 : 97 ≤ lc
                · have f1 : (97 : Int) ≤ (lc : Int) := by omega
                  have f2 : ¬ (lc : Int) ≤ 122 := by omega
                  simp only at hp
                  simp [h1, h8, h9, h10, h11, h12, h13, h99, h100, h101, hlt', ofBytes_at hlt, g1, g2, g3, hc, f1, f2]
                  exact ⟨by rw [hpu]; exact hp.symm, 0, rfl⟩
                · have f1 : ¬ (97 : Int) ≤ (lc : Int) := by omega
                  simp only at hp
                  simp [h1, h8, h9, h10, h11, h12, h13, h99, h100, h101, hlt', ofBytes_at hlt, g1, g2, g3, hc, f1]
                  exact ⟨by rw [hpu]; exact hp.symm, 0, rfl⟩
      · have hlt' : ¬ (i : Int) < (s.length : Int) := by omega
        rw [List.drop_eq_nil_of_le (by omega), puGo] at hp
        simp [h1, h8, h9, h10, h11, h12, h13, h99, h100, h101, hlt']
        exact ⟨n, by rw [hpu]; exact hp.symm, rfl⟩
    · simp [Tryd.f72, h0, hmx]
      refine Run.loopThen (fun (z : Nat × Nat) e H' => z.1 ≤ s.length ∧ z.2 < 18446744073709551616 ∧ puGo 16 (s.drop z.1) z.2 = puGo 16 s 0 ∧ H' = [some (ofBytes s)] ∧ look e 1 = some (.int .i64 16) ∧ look e 8 = some (.bool false) ∧ look e 9 = some (.str s) ∧ look e 10 = some (.int .u64 1152921504606846976) ∧ look e 11 = some (.int .u64 18446744073709551615) ∧ look e 12 = some (.bool false) ∧ look e 13 = some (.int .u64 (z.2 : Nat)) ∧ look e 99 = some (.osl 0 s.length 0 s.length 1) ∧ look e 100 = some (.int .i64 s.length) ∧ look e 101 = some (.int .i64 (z.1 : Nat))) (fun z => s.length - z.1) (0, 0) (by simp) ?_
      rintro ⟨i, n⟩ e H' ⟨hi, hn, hp, rfl, h1, h8, h9, h10, h11, h12, h13, h99, h100, h101⟩
      simp only at hi hn hp h13 h101
      by_cases hlt : i < s.length
      · have hlt' : (i : Int) < (s.length : Int) := by omega
        have hw : IntKind.i64.wrap ((i : Int) + 1) = ((i + 1 : Nat) : Int) := by rw [wrap_i64] <;> omega
        have hc := lower_ev s[i]
        have hclt := s[i].toNat_lt
        rw [List.drop_eq_getElem_cons hlt, puGo] at hp
        unfold dval at hp
        by_cases hd : 48 ≤ s[i].toNat ∧ s[i].toNat ≤ 57
        · rw [if_pos hd] at hp
          have g1 : (48 : Int) ≤ (s[i].toNat : Int) := by omega
          have g2 : (s[i].toNat : Int) ≤ 57 := by omega
          have g3 : ¬ (s[i].toNat : Int) = 95 := by omega
          obtain ⟨d, hdd⟩ : ∃ d, d = s[i].toNat - 48 := ⟨_, rfl⟩
          have dw : IntKind.u8.wrap ((s[i].toNat : Int) - 48) = (d : Int) := by rw [wrap_u8] <;> omega
          rw [← hdd] at hp
          simp only at hp
          have hd16 : d < 16 := by omega
          have wd : IntKind.u64.wrap (d : Int) = (d : Int) := by rw [wrap_u64]; omega
          by_cases hbd : 16 ≤ d
          · have hbd' : (16 : Int) ≤ (d : Int) := by omega
            rw [if_pos hbd] at hp
            simp [h1, h8, h9, h10, h11, h12, h13, h99, h100, h101, hlt', ofBytes_at hlt, g1, g2, g3, dw, hbd']
            exact ⟨by rw [hpu]; exact hp.symm, 0, rfl⟩
          · have hbd' : ¬ (16 : Int) ≤ (d : Int) := by omega
            rw [if_neg hbd] at hp
            by_cases hcut : 1152921504606846976 ≤ n
            · have hcut' : (1152921504606846976 : Int) ≤ (n : Int) := by omega
              rw [if_pos (by omega)] at hp
              simp [h1, h8, h9, h10, h11, h12, h13, h99, h100, h101, hlt', ofBytes_at hlt, g1, g2, g3, dw, hbd', hcut']
              exact ⟨by rw [hpu]; exact hp.symm, 18446744073709551615, rfl⟩
            · have hcut' : ¬ (1152921504606846976 : Int) ≤ (n : Int) := by omega
              obtain ⟨m, hm⟩ : ∃ m, m = n * 16 := ⟨_, rfl⟩
              have hm64 : m < 18446744073709551616 := by omega
              have wm : IntKind.u64.wrap ((n : Int) * 16) = (m : Int) := by rw [wrap_u64] <;> omega
              rw [← hm] at hp
              by_cases hov : 18446744073709551616 ≤ m + d
              · rw [if_pos hov] at hp
                have hx := wrap_over hm64 (by omega) hov
                generalize hX : IntKind.u64.wrap ((m : Int) + (d : Int)) = X at hx
                simp [h1, h8, h9, h10, h11, h12, h13, h99, h100, h101, hlt', ofBytes_at hlt, g1, g2, g3, dw, hbd', hcut', wd, wm, hX, hx]
                exact ⟨by rw [hpu]; exact hp.symm, 18446744073709551615, rfl⟩
              · rw [if_neg hov] at hp
                obtain ⟨q, hq⟩ : ∃ q, q = m + d := ⟨_, rfl⟩
                have wq : IntKind.u64.wrap ((m : Int) + (d : Int)) = (q : Int) := by rw [wrap_u64] <;> omega
                have hx1 : ¬ (q : Int) < (m : Int) := by omega
                have hx2 : ¬ (18446744073709551615 : Int) < (q : Int) := by omega
                rw [← hq] at hp
                simp [h1, h8, h9, h10, h11, h12, h13, h99, h100, h101, hlt', ofBytes_at hlt, g1, g2, g3, dw, hbd', hcut', wd, wm, wq, hx1, hx2, hw]
                exact ⟨i + 1, by omega, by omega, q, by omega, hp, rfl, by simp⟩
        · rw [if_neg hd] at hp
          by_cases h48 : s[i].toNat < 48
          · have lw := low_lt h48
            rw [if_neg (by omega)] at hp
            have g1 : ¬ (48 : Int) ≤ (s[i].toNat : Int) := by omega
            have g3 : ¬ (s[i].toNat : Int) = 95 := by omega
            have f1 : ¬ (97 : Int) ≤ ((s[i] ||| 32).toNat : Int) := by omega
            generalize (s[i] ||| 32).toNat = lc at *
            simp only at hp
            simp [h1, h8, h9, h10, h11, h12, h13, h99, h100, h101, hlt', ofBytes_at hlt, g1, g3, hc, f1]
            exact ⟨by rw [hpu]; exact hp.symm, 0, rfl⟩
          · have g1 : (48 : Int) ≤ (s[i].toNat : Int) := by omega
            have g2 : ¬ (s[i].toNat : Int) ≤ 57 := by omega
            by_cases g95 : s[i].toNat = 95
            · have lw := low_95 g95
              rw [if_neg (by omega)] at hp
              have g3 : (s[i].toNat : Int) = 95 := by omega
              have f1 : (97 : Int) ≤ ((s[i] ||| 32).toNat : Int) := by omega
              have f2 : ¬ ((s[i] ||| 32).toNat : Int) ≤ 122 := by omega
              generalize (s[i] ||| 32).toNat = lc at *
              rw [g3] at hc
              simp only at hp
              simp [h1, h8, h9, h10, h11, h12, h13, h99, h100, h101, hlt', ofBytes_at hlt, g3, hc, f1, f2]
              exact ⟨by rw [hpu]; exact hp.symm, 0, rfl⟩
            · have g3 : ¬ (s[i].toNat : Int) = 95 := by omega
              have lw256 := (s[i] ||| 32).toNat_lt
              generalize (s[i] ||| 32).toNat = lc at *
              by_cases f : 97 ≤ lc ∧ lc ≤ 122
              · rw [if_pos f] at hp
                have f1 : (97 : Int) ≤ (lc : Int) := by omega
                have f2 : (lc : Int) ≤ 122 := by omega
                obtain ⟨d0, hd0⟩ : ∃ d, d = lc - 97 := ⟨_, rfl⟩
                obtain ⟨d, hdd⟩ : ∃ d, d = d0 + 10 := ⟨_, rfl⟩
                have dw1 : IntKind.u8.wrap ((lc : Int) - 97) = (d0 : Int) := by rw [wrap_u8] <;> omega
                have dw2 : IntKind.u8.wrap ((d0 : Int) + 10) = (d : Int) := by rw [wrap_u8] <;> omega
                rw [← hd0, ← hdd] at hp
                simp only at hp
                have hd16 : d < 36 := by omega
                have wd : IntKind.u64.wrap (d : Int) = (d : Int) := by rw [wrap_u64]; omega
                by_cases hbd : 16 ≤ d
                · have hbd' : (16 : Int) ≤ (d : Int) := by omega
                  rw [if_pos hbd] at hp
                  simp [h1, h8, h9, h10, h11, h12, h13, h99, h100, h101, hlt', ofBytes_at hlt, g1, g2, g3, hc, f1, f2, dw1, dw2, hbd']
                  exact ⟨by rw [hpu]; exact hp.symm, 0, rfl⟩
                · have hbd' : ¬ (16 : Int) ≤ (d : Int) := by omega
                  rw [if_neg hbd] at hp
                  by_cases hcut : 1152921504606846976 ≤ n
                  · have hcut' : (1152921504606846976 : Int) ≤ (n : Int) := by omega
                    rw [if_pos (by omega)] at hp
                    simp [h1, h8, h9, h10, h11, h12, h13, h99, h100, h101, hlt', ofBytes_at hlt, g1, g2, g3, hc, f1, f2, dw1, dw2, hbd', hcut']
                    exact ⟨by rw [hpu]; exact hp.symm, 18446744073709551615, rfl⟩
                  · have hcut' : ¬ (1152921504606846976 : Int) ≤ (n : Int) := by omega
                    obtain ⟨m, hm⟩ : ∃ m, m = n * 16 := ⟨_, rfl⟩
                    have hm64 : m < 18446744073709551616 := by omega
                    have wm : IntKind.u64.wrap ((n : Int) * 16) = (m : Int) := by rw [wrap_u64] <;> omega
                    rw [← hm] at hp
                    by_cases hov : 18446744073709551616 ≤ m + d
                    · rw [if_pos hov] at hp
                      have hx := wrap_over hm64 (by omega) hov
                      generalize hX : IntKind.u64.wrap ((m : Int) + (d : Int)) = X at hx
                      simp [h1, h8, h9, h10, h11, h12, h13, h99, h100, h101, hlt', ofBytes_at hlt, g1, g2, g3, hc, f1, f2, dw1, dw2, hbd', hcut', wd, wm, hX, hx]
                      exact ⟨by rw [hpu]; exact hp.symm, 18446744073709551615, rfl⟩
                    · rw [if_neg hov] at hp
                      obtain ⟨q, hq⟩ : ∃ q, q = m + d := ⟨_, rfl⟩
                      have wq : IntKind.u64.wrap ((m : Int) + (d : Int)) = (q : Int) := by rw [wrap_u64] <;> omega
                      have hx1 : ¬ (q : Int) < (m : Int) := by omega
                      have hx2 : ¬ (18446744073709551615 : Int) < (q : Int) := by omega
                      rw [← hq] at hp
                      simp [h1, h8, h9, h10, h11, h12, h13, h99, h100, h101, hlt', ofBytes_at hlt, g1, g2, g3, hc, f1, f2, dw1, dw2, hbd', hcut', wd, wm, wq, hx1, hx2, hw]
                      exact ⟨i + 1, by omega, by omega, q, by omega, hp, rfl, by simp⟩
              · rw [if_neg f] at hp
                by_cases f3 : 97 ≤ lc
                · have f1 : (97 : Int) ≤ (lc : Int) := by omega
                  have f2 : ¬ (lc : Int) ≤ 122 := by omega
                  simp only at hp
                  simp [h1, h8, h9, h10, h11, h12, h13, h99, h100, h101, hlt', ofBytes_at hlt, g1, g2, g3, hc, f1, f2]
                  exact ⟨by rw [hpu]; exact hp.symm, 0, rfl⟩
                · have f1 : ¬ (97 : Int) ≤ (lc : Int) := by omega
                  simp only at hp
                  simp [h1, h8, h9, h10, h11, h12, h13, h99, h100, h101, hlt', ofBytes_at hlt, g1, g2, g3, hc, f1]
                  exact ⟨by rw [hpu]; exact hp.symm, 0, rfl⟩
      · have hlt' : ¬ (i : Int) < (s.length : Int) := by omega
        rw [List.drop_eq_nil_of_le (by omega), puGo] at hp
        simp [h1, h8, h9, h10, h11, h12, h13, h99, h100, h101, hlt']
        exact ⟨n, by rw [hpu]; exact hp.symm, rfl⟩
end Go.Ev.S
/- Numbers that texts are: the errors. -/
namespace Go.Ev.S
open Go Go.Proofs Go.Ev
theorem clone_ev [MaxL] (s : List UInt8) (h : s.length ≤ 281474976710656) : call cx 123 [.str s] [] = some (.str s, []) := by
  refine call_con ?_
  rw [co123, conClone, if_pos h]
theorem syntax_ev [MaxL] (f s : List UInt8) (h : s.length ≤ 281474976710656) : ∃ d, call cx 99 [.str f, .str s] [] = some (.vptr d, []) := by
  have hc := clone_ev s h
  suffices hh : ∃ r, call cx 99 [.str f, .str s] [] = some r ∧ ∃ d, r = (.vptr d, []) by
    obtain ⟨r, h1, d, rfl⟩ := hh
    exact ⟨d, h1⟩
  refine call_runE (fun r => ∃ d, r = (D.vptr d, [])) Tryd.func99 rfl ⟨rfl, rfl⟩ ?_
  simp [Tryd.f99, hc]
theorem range_ev [MaxL] (f s : List UInt8) (h : s.length ≤ 281474976710656) : ∃ d, call cx 100 [.str f, .str s] [] = some (.vptr d, []) := by
  have hc := clone_ev s h
  suffices hh : ∃ r, call cx 100 [.str f, .str s] [] = some r ∧ ∃ d, r = (.vptr d, []) by
    obtain ⟨r, h1, d, rfl⟩ := hh
    exact ⟨d, h1⟩
  refine call_runE (fun r => ∃ d, r = (D.vptr d, [])) Tryd.func100 rfl ⟨rfl, rfl⟩ ?_
  simp [Tryd.f100, hc]
theorem toerr_ev [MaxL] (f s : List UInt8) (h : s.length ≤ 281474976710656) (b c : Int) (hc : c = 1 ∨ c = 2) : ∃ d, call cx 73 [.str f, .str s, .int .i64 b, .int .i64 64, .iface 135 (.int .i64 c)] [] = some (.iface 137 (.vptr d), []) := by
  obtain ⟨d1, h1⟩ := syntax_ev f s h
  obtain ⟨d2, h2⟩ := range_ev f s h
  suffices hh : ∃ r, call cx 73 [.str f, .str s, .int .i64 b, .int .i64 64, .iface 135 (.int .i64 c)] [] = some r ∧ ∃ d, r = (.iface 137 (.vptr d), []) by
    obtain ⟨r, h1, d, rfl⟩ := hh
    exact ⟨d, h1⟩
  refine call_runE (fun r => ∃ d, r = (D.iface 137 (.vptr d), [])) Tryd.func73 rfl ⟨rfl, rfl⟩ ?_
  rcases hc with rfl | rfl
  · simp [Tryd.f73, h2]
  · simp [Tryd.f73, h1]
/-- ParseUint: the number, or an error. -/
theorem pu_ev [MaxL] (b : Nat) (hb : b = 10 ∨ b = 16) (s : List UInt8) (hs : s.length ≤ 281474976710656) :
    (∃ n, pu b s = some n ∧ call cx 58 [.str s, .int .i64 b, .int .i64 64] [] = some (.tup [.int .u64 n, .nili], [])) ∨
    (pu b s = none ∧ ∃ (x : Nat) (d : List D), call cx 58 [.str s, .int .i64 b, .int .i64 64] [] = some (.tup [.int .u64 x, .iface 137 (.vptr d)], [])) := by
  rcases pui_ev b hb s (by omega) with ⟨n, h1, h2⟩ | ⟨h1, x, c, hc, h2⟩
  · refine .inl ⟨n, h1, ?_⟩
    refine call_run Tryd.func58 rfl ⟨rfl, rfl⟩ ?_
    simp [Tryd.f58, h2]
  · obtain ⟨d, hd⟩ := toerr_ev [80, 97, 114, 115, 101, 85, 105, 110, 116] s hs b c hc
    refine .inr ⟨h1, x, d, ?_⟩
    refine call_run Tryd.func58 rfl ⟨rfl, rfl⟩ ?_
    simp [Tryd.f58, h2, hd]
end Go.Ev.S
/- A name, a number as digits. -/
namespace Go.Ev.S
open Go Go.Proofs Go.Ev
theorem hexs_take {l : List UInt8} {k : Nat} (h : k < l.length) : hexs (l.take (k + 1)) = hexs (l.take k) ++ [hexc (l[k].toNat / 16), hexc (l[k].toNat % 16)] := by
  rw [List.take_succ_eq_append_getElem h, hexs_append]
  rfl
set_option maxHeartbeats 2000000 in
theorem hex_ev [MaxL] (l : List UInt8) (hl : l.length = 16) : call cx 35 [.agg (ofBytes l)] [] = some (.str (hexs l), []) := by
  refine call_run Tryd.func35 rfl ⟨rfl, rfl⟩ ?_
  have ht : List.take 16 (ofBytes l) = ofBytes l := List.take_of_length_le (by simp; omega)
  have hl2 : 16 ≤ l.length := by omega
  simp [Tryd.f35, ht, hl2]
  refine Run.loopThen (fun (k : Nat) e H' => k ≤ 16 ∧ look e 6 = some (.agg (ofBytes l)) ∧ look e 7 = some (.int .i64 k) ∧
      ((k = 0 ∧ look e 3 = some (.vsl true [] 0) ∧ H' = [some (ofBytes l)]) ∨
       (∃ w, look e 3 = some (.osl 1 (hexs (l.take k)).length 0 (hexs (l.take k)).length 1) ∧ H' = [w, some (ofBytes (hexs (l.take k)))]) ∨
       (∃ w, look e 3 = some (.osl 0 (hexs (l.take k)).length 0 (hexs (l.take k)).length 1) ∧ H' = [some (ofBytes (hexs (l.take k))), w]))) (fun k => 16 - k) 0 ?_ ?_
  · simp
  rintro k e H' ⟨hk, k6, k7, hH⟩
  by_cases hlt : k < 16
  · have hlt' : (k : Int) < 16 := by omega
    have hkl : k < l.length := by omega
    have hw : IntKind.i64.wrap ((k : Int) + 1) = ((k + 1 : Nat) : Int) := by rw [wrap_i64] <;> omega
    have hat := ofBytes_at hkl
    have hsn := hexs_take hkl
    have hb := l[k].toNat_lt
    have ha := and15_u8 l[k]
    have hp4 : (2 : Int) ^ min 4 IntKind.u8.bits = 16 := by decide
    have hf := fdiv16 l[k].toNat
    have d1 := digL_at (l[k].toNat / 16) (by omega)
    have d2 := digL_at (l[k].toNat % 16) (by omega)
    simp only [digL] at d1 d2
    have hget : (ofBytes l)[k]? = some (.int .u8 l[k].toNat) := by
      rw [List.getElem?_eq_getElem (by simpa using hkl), ofBytes_get]
    have hlen : (hexs (l.take k)).length = 2 * k := by rw [hexs_len, List.length_take]; omega
    generalize l[k] = b at *
    generalize hexc (b.toNat / 16) = c1 at *
    generalize hexc (b.toNat % 16) = c2 at *
    obtain ⟨m1, hm1⟩ : ∃ m, m = b.toNat / 16 := ⟨_, rfl⟩
    obtain ⟨m2, hm2⟩ : ∃ m, m = b.toNat % 16 := ⟨_, rfl⟩
    rw [← hm1] at hf d1
    rw [← hm2] at ha d2
    have hXl : (hexs (l.take (k + 1))).length = (hexs (l.take k)).length + 2 := by rw [hsn]; simp
    have hap : ofBytes (hexs (l.take k)) ++ [.int .u8 c1.toNat, .int .u8 c2.toNat] = ofBytes (hexs (l.take (k + 1))) := by rw [hsn]; simp [ofBytes]
    have hmx : (hexs (l.take k)).length + 2 ≤ maxBytes := Nat.le_trans (show _ ≤ 100 by omega) (by decide)
    rcases hH with ⟨rfl, k3, rfl⟩ | ⟨w, k3, rfl⟩ | ⟨w, k3, rfl⟩
    · simp at hap hXl
      have hm2 : 2 ≤ maxBytes := by decide
      simp [k3, k6, k7, hget, ha, hp4, hf, d1, d2, hm2]
      exact ⟨1, by omega, by omega, by simp, by rw [hXl]; simp [hexs], by rw [← hap]; simp [hexs, ofBytes]⟩
    · generalize hexs (l.take k) = X at *
      simp [k3, k6, k7, hlt', hw, hget, ha, hp4, hf, d1, d2, hap, hmx]
      exact ⟨k + 1, by omega, by omega, by simp, by rw [hXl], rfl⟩
    · generalize hexs (l.take k) = X at *
      simp [k3, k6, k7, hlt', hw, hget, ha, hp4, hf, d1, d2, hap, hmx]
      exact ⟨k + 1, by omega, by omega, by simp, by rw [hXl], rfl⟩
  · have hlt' : ¬ (k : Int) < 16 := by omega
    have hke : k = 16 := by omega
    subst hke
    have htk : l.take 16 = l := List.take_of_length_le (by omega)
    rw [htk] at hH
    rcases hH with ⟨h, _⟩ | ⟨w, k3, rfl⟩ | ⟨w, k3, rfl⟩
    · omega
    · simp [k3, k6, k7]
    · simp [k3, k6, k7]
theorem idxb_ev [MaxL] (s : List UInt8) (c : UInt8) : call cx 59 [.str s, .int .u8 c.toNat] [] = some (.int .i64 (idxB c s 0), []) := by
  have h0 : call cx 103 [.str s, .int .u8 c.toNat] [] = some (.int .i64 (idxB c s 0), []) := by
    rw [call_ext (X := cx) (f := 103) rfl Tryd.func103 rfl, ex103]
    simp [idxBExt]
  have h1 : call cx 74 [.str s, .int .u8 c.toNat] [] = some (.int .i64 (idxB c s 0), []) := by
    refine call_run Tryd.func74 rfl ⟨rfl, rfl⟩ ?_
    simp [Tryd.f74, h0]
  refine call_run Tryd.func59 rfl ⟨rfl, rfl⟩ ?_
  simp [Tryd.f59, h1]
theorem zero16_of : ofBytes zero16 = [.int .u8 0, .int .u8 0, .int .u8 0, .int .u8 0, .int .u8 0, .int .u8 0, .int .u8 0, .int .u8 0, .int .u8 0, .int .u8 0, .int .u8 0, .int .u8 0, .int .u8 0, .int .u8 0, .int .u8 0, .int .u8 0] := rfl
theorem set_bytes (st : List UInt8) (j : Nat) (c : UInt8) (h : j < st.length) : setRange (ofBytes st) j [.int .u8 c.toNat] = ofBytes (st.set j c) := by
  unfold setRange ofBytes
  rw [List.set_eq_take_append_cons_drop, if_pos h]
  simp
set_option maxHeartbeats 2000000 in
theorem id_ev [MaxL] (s : List UInt8) (_ : s.length < 1000000) : call cx 34 [.str s] [] = some (.tup [.agg (ofBytes ((idP s).getD zero16)), .bool (idP s).isSome], []) := by
  refine call_run Tryd.func34 rfl ⟨rfl, rfl⟩ ?_
  have z16 := zero16_of
  have z16l : zero16.length = 16 := rfl
  have z16d : List.drop 16 (ofBytes zero16) = [] := rfl
  by_cases h32 : s.length = 32
  · have h32' : (s.length : Int) = 32 := by omega
    have hP : idP s = idGo s 0 zero16 := by unfold idP; rw [if_pos h32]
    rw [hP]
    simp [Tryd.f34, h32']
    rw [← z16]
    refine Run.loopThen (fun (q : Nat × List UInt8) e H' => q.1 ≤ 32 ∧ q.2.length = 16 ∧ idGo (s.drop q.1) q.1 q.2 = idGo s 0 zero16 ∧ H' = [some (ofBytes zero16), some (ofBytes q.2)] ∧ look e 0 = some (.str s) ∧ look e 2 = some (.optr 0 16 0) ∧ look e 4 = some (.optr 1 16 0) ∧
        look e 12 = some (.int .i64 32) ∧ look e 13 = some (.int .i64 (q.1 : Nat))) (fun q => 32 - q.1) (0, zero16) ?_ ?_
    · simp [zero16]
    rintro ⟨k, st⟩ e H' ⟨hk, hst, hgo, rfl, k0, k2, k4, k12, k13⟩
    simp only at hk hst hgo k13
    by_cases hlt : k < 32
    · have hlt' : (k : Int) < 32 := by omega
      have hks : k < s.length := by omega
      rw [List.drop_eq_getElem_cons hks, idGo] at hgo
      have hsk : s[k]? = some s[k] := List.getElem?_eq_getElem hks
      have hix := idxb_ev digL s[k]
      have hir := idx_range s[k] digL 0
      generalize s[k] = c at *
      simp only [digL] at hix
      have hw : IntKind.i64.wrap ((k : Int) + 1) = ((k + 1 : Nat) : Int) := by rw [wrap_i64] <;> omega
      rcases hir with hn | ⟨m, hm1, hm2⟩
      · rw [hn, if_pos (by omega)] at hgo
        simp only [digL] at hn
        rw [hn] at hix
        rw [← hgo]
        simp [k0, k2, k4, k12, k13, hlt', hsk, hix, ← z16, z16l, z16d]
      · rw [Nat.zero_add] at hm2
        have hm16 : m < 16 := hm1
        rw [hm2, if_neg (by omega)] at hgo
        simp only [digL] at hm2
        rw [hm2] at hix
        have hmn : ¬ (m : Int) < 0 := by omega
        have hmt : ((m : Nat) : Int).toNat = m := by omega
        rw [hmt] at hgo
        have hq : (k : Int).tdiv 2 = ((k / 2 : Nat) : Int) := (Int.ofNat_tdiv k 2).symm
        have hq2 : IntKind.i64.wrap ((k : Int) / 2) = ((k / 2 : Nat) : Int) := by rw [wrap_i64] <;> omega
        obtain ⟨j, hj⟩ : ∃ j, j = k / 2 := ⟨_, rfl⟩
        rw [← hj] at hgo hq hq2
        have hj16 : j < st.length := by omega
        have hj16' : (j : Int) < 16 := by omega
        have hat := ofBytes_at hj16
        have hgd : st.getD j 0 = st[j] := by rw [List.getD, List.getElem?_eq_getElem hj16]; rfl
        rw [hgd] at hgo
        have hwm : IntKind.u8.wrap (m : Int) = (m : Int) := by rw [wrap_u8] <;> omega
        have hor := shl4_u8 st[j] m hm16
        have hset := set_bytes st j (st[j] <<< 4 ||| UInt8.ofNat m) hj16
        generalize st[j] = b at *
        generalize hx : b <<< 4 ||| UInt8.ofNat m = x at *
        have hj1 : j + 1 ≤ st.length := by omega
        have hj15 : j ≤ 15 := by omega
        have hp8 : (2 : Int) ^ min 4 IntKind.u8.bits = 16 := by decide
        have hsl : (st.set j x).length = 16 := by simpa using hst
        generalize st.set j x = st' at *
        simp [-setRange_eq, k0, k2, k4, k12, k13, hlt', hsk, hix, hmn, hq2, hj16', hat, hwm, hor, hp8, hset, hst, hj15, hw]
        exact ⟨k + 1, by omega, by omega, st', hsl, hgo, rfl, by simp⟩
    · have hlt' : ¬ (k : Int) < 32 := by omega
      rw [List.drop_eq_nil_of_le (by omega), idGo] at hgo
      rw [← hgo]
      have hl16 : 16 ≤ st.length := by omega
      have ht : List.take 16 (ofBytes st) = ofBytes st := List.take_of_length_le (by simp; omega)
      simp [k0, k2, k4, k12, k13, hlt', ht, hst, z16l, z16d]
  · have h32' : ¬ (s.length : Int) = 32 := by omega
    have hP : idP s = none := by unfold idP; rw [if_neg h32]
    rw [hP]
    simp [Tryd.f34, h32', ← z16, z16l, z16d]
theorem repeat_ev [MaxL] (n : Nat) (h : n ≤ 16) : call cx 60 [.str [48], .int .i64 n] [] = some (.str (List.replicate n 48), []) := by
  refine call_con ?_
  have e : ∀ n, Lib.repeatL [48] n = List.replicate n (48 : UInt8) := by
    intro n
    induction n with
    | zero => rfl
    | succ n ih => rw [Lib.repeatL, ih]; rfl
  have hn : ((n : Nat) : Int).toNat = n := by omega
  rw [co60, conRepeat, if_pos ⟨by omega, by omega, by rw [hn]; simp; omega⟩, hn, e]
theorem fixed_ev [MaxL] (v : Nat) (hv : v < 18446744073709551616) : call cx 37 [.int .u64 v] [] = some (.str (fixed v), []) := by
  have h1 := fu16_ev v hv
  have h2 := hx_len v
  have h3 := repeat_ev (16 - (hx v).length) (by omega)
  have hw : IntKind.i64.wrap (16 - ((hx v).length : Int)) = ((16 - (hx v).length : Nat) : Int) := by rw [wrap_i64] <;> omega
  have hz : (16 - (hx v).length) + (hx v).length ≤ 4611686018427387904 := by omega
  refine call_run Tryd.func37 rfl ⟨rfl, rfl⟩ ?_
  unfold fixed
  generalize hx v = x at *
  generalize 16 - x.length = n at *
  simp [Tryd.f37, h1, h3, hw, hz]
/-- The number that sixteen digits are. -/
def numF (s : List UInt8) : Option Nat := match pu 16 s with
  | none => none
  | some v => if fixed v = s then some v else none
theorem pu16_lt {s : List UInt8} {v : Nat} (h : pu 16 s = some v) : v < 18446744073709551616 := by
  unfold pu at h
  split at h
  · cases h
  · exact puGo_lt 16 _ _ _ (by decide) h
theorem number16_ev [MaxL] (s : List UInt8) (hs : s.length < 1000000) : call cx 36 [.str s] [] = some (.tup [.int .u64 ((numF s).getD 0 : Nat), .bool (numF s).isSome], []) := by
  refine call_run Tryd.func36 rfl ⟨rfl, rfl⟩ ?_
  unfold numF
  rcases pu_ev 16 (.inr rfl) s (by omega) with ⟨v, e1, e2⟩ | ⟨e1, x, d, e2⟩
  · replace e2 : call cx 58 [.str s, .int .i64 16, .int .i64 64] [] = some (.tup [.int .u64 v, .nili], []) := e2
    rw [e1]
    simp only
    have h := fixed_ev v (pu16_lt e1)
    by_cases he : fixed v = s
    · rw [if_pos he]
      rw [he] at h
      simp [Tryd.f36, e2, h]
    · rw [if_neg he]
      have he2 : (fixed v == s) = false := beq_eq_false_iff_ne.2 he
      generalize fixed v = w at *
      simp [Tryd.f36, e2, h, he2]
  · replace e2 : call cx 58 [.str s, .int .i64 16, .int .i64 64] [] = some (.tup [.int .u64 x, .iface 137 (.vptr d)], []) := e2
    rw [e1]
    simp [Tryd.f36, e2]
end Go.Ev.S
/- Requests, responses. -/
namespace Go.Ev
open Go Go.Proofs
structure Rq where
  path : List UInt8
  epoch : Int
  number : Int
  body : Sl UInt8
instance : Enc Rq := ⟨4, fun m => (.str m.path :: (.int .u64 m.epoch :: (.int .u64 m.number :: ((.vsl m.body.nil (ofBytes m.body.l) m.body.l.length) :: ([] : List D))))), fun m => by simp, fun m => by simp [idFree]⟩
theorem Rq.cells (m : Rq) : Enc.cells m = (.str m.path :: (.int .u64 m.epoch :: (.int .u64 m.number :: ((.vsl m.body.nil (ofBytes m.body.l) m.body.l.length) :: ([] : List D))))) := rfl
@[simp] theorem Rq.size : Enc.size Rq = 4 := rfl
@[simp] theorem Rq.cl (a : Rq) : (Enc.cells a).length = 4 := Enc.len a
@[simp] theorem Rq.ct (a : Rq) (r : List D) : (Enc.cells a ++ r).take 4 = Enc.cells a := cells_take rfl a r
@[simp] theorem Rq.ct' (a : Rq) : (Enc.cells a).take 4 = Enc.cells a := cells_take' rfl a
@[simp] theorem Rq.cd (a : Rq) (r : List D) : (Enc.cells a ++ r).drop 4 = r := cells_drop rfl a r
@[simp] theorem Rq.el (l : List Rq) : (encs l).length = l.length * 4 := encs_len' rfl l
@[simp] theorem Rq.ed (l : List Rq) (i : Nat) : (encs l).drop (i * 4) = encs (l.drop i) := encs_drop rfl l i
@[simp] theorem Rq.et (l : List Rq) (i : Nat) : (encs l).take (i * 4) = encs (l.take i) := encs_take rfl l i
@[simp high] theorem Rq.ea {l : List Rq} {i : Nat} (h : i < l.length) : (encs l).drop (i * 4) = Enc.cells l[i] ++ encs (l.drop (i + 1)) := encs_at rfl h
@[simp high] theorem Rq.es (m : Rq) {l : List Rq} {j : Nat} (h : j < l.length) : setRange (encs l) (j * 4) (Enc.cells m) = encs (l.set j m) := encs_set rfl m l h
@[simp] theorem Rq.g0 (m : Rq) (h) : (Enc.cells m)[0]'h = .str m.path := by simp [Rq.cells]
@[simp] theorem Rq.q0 (m : Rq) : (Enc.cells m)[0]? = some (.str m.path) := by simp [Rq.cells]
@[simp] theorem Rq.s0 (m : Rq) (x : List UInt8) : setRange (Enc.cells m) 0 [.str x] = Enc.cells { m with path := x } := by simp [Rq.cells]
@[simp] theorem Rq.d1 (m : Rq) : (Enc.cells m).drop 1 = (.int .u64 m.epoch :: (.int .u64 m.number :: ((.vsl m.body.nil (ofBytes m.body.l) m.body.l.length) :: ([] : List D)))) := by simp [Rq.cells]
@[simp] theorem Rq.d1' (m : Rq) (r : List D) : (Enc.cells m ++ r).drop 1 = (.int .u64 m.epoch :: (.int .u64 m.number :: ((.vsl m.body.nil (ofBytes m.body.l) m.body.l.length) :: ([] : List D)))) ++ r := by simp [Rq.cells]
@[simp] theorem Rq.g1 (m : Rq) (h) : (Enc.cells m)[1]'h = .int .u64 m.epoch := by simp [Rq.cells]
@[simp] theorem Rq.q1 (m : Rq) : (Enc.cells m)[1]? = some (.int .u64 m.epoch) := by simp [Rq.cells]
@[simp] theorem Rq.s1 (m : Rq) (x : Int) : setRange (Enc.cells m) 1 [.int .u64 x] = Enc.cells { m with epoch := x } := by simp [Rq.cells]
@[simp] theorem Rq.d2 (m : Rq) : (Enc.cells m).drop 2 = (.int .u64 m.number :: ((.vsl m.body.nil (ofBytes m.body.l) m.body.l.length) :: ([] : List D))) := by simp [Rq.cells]
@[simp] theorem Rq.d2' (m : Rq) (r : List D) : (Enc.cells m ++ r).drop 2 = (.int .u64 m.number :: ((.vsl m.body.nil (ofBytes m.body.l) m.body.l.length) :: ([] : List D))) ++ r := by simp [Rq.cells]
@[simp] theorem Rq.g2 (m : Rq) (h) : (Enc.cells m)[2]'h = .int .u64 m.number := by simp [Rq.cells]
@[simp] theorem Rq.q2 (m : Rq) : (Enc.cells m)[2]? = some (.int .u64 m.number) := by simp [Rq.cells]
@[simp] theorem Rq.s2 (m : Rq) (x : Int) : setRange (Enc.cells m) 2 [.int .u64 x] = Enc.cells { m with number := x } := by simp [Rq.cells]
@[simp] theorem Rq.d3 (m : Rq) : (Enc.cells m).drop 3 = ((.vsl m.body.nil (ofBytes m.body.l) m.body.l.length) :: ([] : List D)) := by simp [Rq.cells]
@[simp] theorem Rq.d3' (m : Rq) (r : List D) : (Enc.cells m ++ r).drop 3 = ((.vsl m.body.nil (ofBytes m.body.l) m.body.l.length) :: ([] : List D)) ++ r := by simp [Rq.cells]
@[simp] theorem Rq.g3 (m : Rq) (h) : (Enc.cells m)[3]'h = (.vsl m.body.nil (ofBytes m.body.l) m.body.l.length) := by simp [Rq.cells]
@[simp] theorem Rq.q3 (m : Rq) : (Enc.cells m)[3]? = some ((.vsl m.body.nil (ofBytes m.body.l) m.body.l.length)) := by simp [Rq.cells]
@[simp] theorem Rq.s3 (m : Rq) (x : Sl UInt8) : setRange (Enc.cells m) 3 [(.vsl x.nil (ofBytes x.l) x.l.length)] = Enc.cells { m with body := x } := by simp [Rq.cells]
structure Msg where
  kind : Int
  epoch : Int
  number : Int
  body : Sl UInt8
instance : Enc Msg := ⟨4, fun m => (.int .i64 m.kind :: (.int .u64 m.epoch :: (.int .u64 m.number :: ((.vsl m.body.nil (ofBytes m.body.l) m.body.l.length) :: ([] : List D))))), fun m => by simp, fun m => by simp [idFree]⟩
theorem Msg.cells (m : Msg) : Enc.cells m = (.int .i64 m.kind :: (.int .u64 m.epoch :: (.int .u64 m.number :: ((.vsl m.body.nil (ofBytes m.body.l) m.body.l.length) :: ([] : List D))))) := rfl
@[simp] theorem Msg.size : Enc.size Msg = 4 := rfl
@[simp] theorem Msg.cl (a : Msg) : (Enc.cells a).length = 4 := Enc.len a
@[simp] theorem Msg.ct (a : Msg) (r : List D) : (Enc.cells a ++ r).take 4 = Enc.cells a := cells_take rfl a r
@[simp] theorem Msg.ct' (a : Msg) : (Enc.cells a).take 4 = Enc.cells a := cells_take' rfl a
@[simp] theorem Msg.cd (a : Msg) (r : List D) : (Enc.cells a ++ r).drop 4 = r := cells_drop rfl a r
@[simp] theorem Msg.el (l : List Msg) : (encs l).length = l.length * 4 := encs_len' rfl l
@[simp] theorem Msg.ed (l : List Msg) (i : Nat) : (encs l).drop (i * 4) = encs (l.drop i) := encs_drop rfl l i
@[simp] theorem Msg.et (l : List Msg) (i : Nat) : (encs l).take (i * 4) = encs (l.take i) := encs_take rfl l i
@[simp high] theorem Msg.ea {l : List Msg} {i : Nat} (h : i < l.length) : (encs l).drop (i * 4) = Enc.cells l[i] ++ encs (l.drop (i + 1)) := encs_at rfl h
@[simp high] theorem Msg.es (m : Msg) {l : List Msg} {j : Nat} (h : j < l.length) : setRange (encs l) (j * 4) (Enc.cells m) = encs (l.set j m) := encs_set rfl m l h
@[simp] theorem Msg.g0 (m : Msg) (h) : (Enc.cells m)[0]'h = .int .i64 m.kind := by simp [Msg.cells]
@[simp] theorem Msg.q0 (m : Msg) : (Enc.cells m)[0]? = some (.int .i64 m.kind) := by simp [Msg.cells]
@[simp] theorem Msg.s0 (m : Msg) (x : Int) : setRange (Enc.cells m) 0 [.int .i64 x] = Enc.cells { m with kind := x } := by simp [Msg.cells]
@[simp] theorem Msg.d1 (m : Msg) : (Enc.cells m).drop 1 = (.int .u64 m.epoch :: (.int .u64 m.number :: ((.vsl m.body.nil (ofBytes m.body.l) m.body.l.length) :: ([] : List D)))) := by simp [Msg.cells]
@[simp] theorem Msg.d1' (m : Msg) (r : List D) : (Enc.cells m ++ r).drop 1 = (.int .u64 m.epoch :: (.int .u64 m.number :: ((.vsl m.body.nil (ofBytes m.body.l) m.body.l.length) :: ([] : List D)))) ++ r := by simp [Msg.cells]
@[simp] theorem Msg.g1 (m : Msg) (h) : (Enc.cells m)[1]'h = .int .u64 m.epoch := by simp [Msg.cells]
@[simp] theorem Msg.q1 (m : Msg) : (Enc.cells m)[1]? = some (.int .u64 m.epoch) := by simp [Msg.cells]
@[simp] theorem Msg.s1 (m : Msg) (x : Int) : setRange (Enc.cells m) 1 [.int .u64 x] = Enc.cells { m with epoch := x } := by simp [Msg.cells]
@[simp] theorem Msg.d2 (m : Msg) : (Enc.cells m).drop 2 = (.int .u64 m.number :: ((.vsl m.body.nil (ofBytes m.body.l) m.body.l.length) :: ([] : List D))) := by simp [Msg.cells]
@[simp] theorem Msg.d2' (m : Msg) (r : List D) : (Enc.cells m ++ r).drop 2 = (.int .u64 m.number :: ((.vsl m.body.nil (ofBytes m.body.l) m.body.l.length) :: ([] : List D))) ++ r := by simp [Msg.cells]
@[simp] theorem Msg.g2 (m : Msg) (h) : (Enc.cells m)[2]'h = .int .u64 m.number := by simp [Msg.cells]
@[simp] theorem Msg.q2 (m : Msg) : (Enc.cells m)[2]? = some (.int .u64 m.number) := by simp [Msg.cells]
@[simp] theorem Msg.s2 (m : Msg) (x : Int) : setRange (Enc.cells m) 2 [.int .u64 x] = Enc.cells { m with number := x } := by simp [Msg.cells]
@[simp] theorem Msg.d3 (m : Msg) : (Enc.cells m).drop 3 = ((.vsl m.body.nil (ofBytes m.body.l) m.body.l.length) :: ([] : List D)) := by simp [Msg.cells]
@[simp] theorem Msg.d3' (m : Msg) (r : List D) : (Enc.cells m ++ r).drop 3 = ((.vsl m.body.nil (ofBytes m.body.l) m.body.l.length) :: ([] : List D)) ++ r := by simp [Msg.cells]
@[simp] theorem Msg.g3 (m : Msg) (h) : (Enc.cells m)[3]'h = (.vsl m.body.nil (ofBytes m.body.l) m.body.l.length) := by simp [Msg.cells]
@[simp] theorem Msg.q3 (m : Msg) : (Enc.cells m)[3]? = some ((.vsl m.body.nil (ofBytes m.body.l) m.body.l.length)) := by simp [Msg.cells]
@[simp] theorem Msg.s3 (m : Msg) (x : Sl UInt8) : setRange (Enc.cells m) 3 [(.vsl x.nil (ofBytes x.l) x.l.length)] = Enc.cells { m with body := x } := by simp [Msg.cells]
structure Rs where
  status : Int
  epoch : Int
  number : Int
  body : Sl UInt8
instance : Enc Rs := ⟨4, fun m => (.int .i64 m.status :: (.int .u64 m.epoch :: (.int .u64 m.number :: ((.vsl m.body.nil (ofBytes m.body.l) m.body.l.length) :: ([] : List D))))), fun m => by simp, fun m => by simp [idFree]⟩
theorem Rs.cells (m : Rs) : Enc.cells m = (.int .i64 m.status :: (.int .u64 m.epoch :: (.int .u64 m.number :: ((.vsl m.body.nil (ofBytes m.body.l) m.body.l.length) :: ([] : List D))))) := rfl
@[simp] theorem Rs.size : Enc.size Rs = 4 := rfl
@[simp] theorem Rs.cl (a : Rs) : (Enc.cells a).length = 4 := Enc.len a
@[simp] theorem Rs.ct (a : Rs) (r : List D) : (Enc.cells a ++ r).take 4 = Enc.cells a := cells_take rfl a r
@[simp] theorem Rs.ct' (a : Rs) : (Enc.cells a).take 4 = Enc.cells a := cells_take' rfl a
@[simp] theorem Rs.cd (a : Rs) (r : List D) : (Enc.cells a ++ r).drop 4 = r := cells_drop rfl a r
@[simp] theorem Rs.el (l : List Rs) : (encs l).length = l.length * 4 := encs_len' rfl l
@[simp] theorem Rs.ed (l : List Rs) (i : Nat) : (encs l).drop (i * 4) = encs (l.drop i) := encs_drop rfl l i
@[simp] theorem Rs.et (l : List Rs) (i : Nat) : (encs l).take (i * 4) = encs (l.take i) := encs_take rfl l i
@[simp high] theorem Rs.ea {l : List Rs} {i : Nat} (h : i < l.length) : (encs l).drop (i * 4) = Enc.cells l[i] ++ encs (l.drop (i + 1)) := encs_at rfl h
@[simp high] theorem Rs.es (m : Rs) {l : List Rs} {j : Nat} (h : j < l.length) : setRange (encs l) (j * 4) (Enc.cells m) = encs (l.set j m) := encs_set rfl m l h
@[simp] theorem Rs.g0 (m : Rs) (h) : (Enc.cells m)[0]'h = .int .i64 m.status := by simp [Rs.cells]
@[simp] theorem Rs.q0 (m : Rs) : (Enc.cells m)[0]? = some (.int .i64 m.status) := by simp [Rs.cells]
@[simp] theorem Rs.s0 (m : Rs) (x : Int) : setRange (Enc.cells m) 0 [.int .i64 x] = Enc.cells { m with status := x } := by simp [Rs.cells]
@[simp] theorem Rs.d1 (m : Rs) : (Enc.cells m).drop 1 = (.int .u64 m.epoch :: (.int .u64 m.number :: ((.vsl m.body.nil (ofBytes m.body.l) m.body.l.length) :: ([] : List D)))) := by simp [Rs.cells]
@[simp] theorem Rs.d1' (m : Rs) (r : List D) : (Enc.cells m ++ r).drop 1 = (.int .u64 m.epoch :: (.int .u64 m.number :: ((.vsl m.body.nil (ofBytes m.body.l) m.body.l.length) :: ([] : List D)))) ++ r := by simp [Rs.cells]
@[simp] theorem Rs.g1 (m : Rs) (h) : (Enc.cells m)[1]'h = .int .u64 m.epoch := by simp [Rs.cells]
@[simp] theorem Rs.q1 (m : Rs) : (Enc.cells m)[1]? = some (.int .u64 m.epoch) := by simp [Rs.cells]
@[simp] theorem Rs.s1 (m : Rs) (x : Int) : setRange (Enc.cells m) 1 [.int .u64 x] = Enc.cells { m with epoch := x } := by simp [Rs.cells]
@[simp] theorem Rs.d2 (m : Rs) : (Enc.cells m).drop 2 = (.int .u64 m.number :: ((.vsl m.body.nil (ofBytes m.body.l) m.body.l.length) :: ([] : List D))) := by simp [Rs.cells]
@[simp] theorem Rs.d2' (m : Rs) (r : List D) : (Enc.cells m ++ r).drop 2 = (.int .u64 m.number :: ((.vsl m.body.nil (ofBytes m.body.l) m.body.l.length) :: ([] : List D))) ++ r := by simp [Rs.cells]
@[simp] theorem Rs.g2 (m : Rs) (h) : (Enc.cells m)[2]'h = .int .u64 m.number := by simp [Rs.cells]
@[simp] theorem Rs.q2 (m : Rs) : (Enc.cells m)[2]? = some (.int .u64 m.number) := by simp [Rs.cells]
@[simp] theorem Rs.s2 (m : Rs) (x : Int) : setRange (Enc.cells m) 2 [.int .u64 x] = Enc.cells { m with number := x } := by simp [Rs.cells]
@[simp] theorem Rs.d3 (m : Rs) : (Enc.cells m).drop 3 = ((.vsl m.body.nil (ofBytes m.body.l) m.body.l.length) :: ([] : List D)) := by simp [Rs.cells]
@[simp] theorem Rs.d3' (m : Rs) (r : List D) : (Enc.cells m ++ r).drop 3 = ((.vsl m.body.nil (ofBytes m.body.l) m.body.l.length) :: ([] : List D)) ++ r := by simp [Rs.cells]
@[simp] theorem Rs.g3 (m : Rs) (h) : (Enc.cells m)[3]'h = (.vsl m.body.nil (ofBytes m.body.l) m.body.l.length) := by simp [Rs.cells]
@[simp] theorem Rs.q3 (m : Rs) : (Enc.cells m)[3]? = some ((.vsl m.body.nil (ofBytes m.body.l) m.body.l.length)) := by simp [Rs.cells]
@[simp] theorem Rs.s3 (m : Rs) (x : Sl UInt8) : setRange (Enc.cells m) 3 [(.vsl x.nil (ofBytes x.l) x.l.length)] = Enc.cells { m with body := x } := by simp [Rs.cells]
@[simp] theorem ofBytes_nil : ofBytes [] = [] := rfl
def Msg.zero : Msg := ⟨0, 0, 0, .none⟩
def crlf : List UInt8 := [13, 10]
def epochL : List UInt8 := [88, 45, 69, 112, 111, 99, 104, 58, 32]
def numberL : List UInt8 := [88, 45, 78, 117, 109, 98, 101, 114, 58, 32]
def lengthL : List UInt8 := [67, 111, 110, 116, 101, 110, 116, 45, 76, 101, 110, 103, 116, 104, 58, 32]
def numsL (e n l : Nat) : List UInt8 := epochL ++ (dec e ++ (crlf ++ (numberL ++ (dec n ++ (crlf ++ (lengthL ++ (dec l ++ (crlf ++ crlf))))))))
theorem decF_len : ∀ (f v : Nat), (decF f v).length ≤ f
  | 0, _ => Nat.le_refl _
  | f + 1, v => by
    rw [decF]
    split
    · simp
    · have := decF_len f (v / 10)
      simp
      omega
theorem dec_len (v : Nat) : (dec v).length ≤ 20 := decF_len 20 v
theorem dec_pos (v : Nat) : 0 < (dec v).length := by
  unfold dec decF
  split <;> simp
theorem nums_len (e n l : Nat) : (numsL e n l).length ≤ 103 := by
  have h1 := dec_len e
  have h2 := dec_len n
  have h3 := dec_len l
  simp only [numsL, List.length_append, epochL, numberL, lengthL, crlf, List.length_cons, List.length_nil]
  omega
theorem cat_of {x y s : List UInt8} (e : s = x ++ y) (h : x.length + y.length ≤ 100000) : strD .add x y = some (.str s) := by
  simp only [strD, e]
  rw [if_pos (by omega)]
theorem strD_add {x y : List UInt8} (h : x.length + y.length ≤ 100000) : strD .add x y = some (.str (x ++ y)) := by
  simp only [strD]
  rw [if_pos (by omega)]
section
variable {H : Type} {enc : TypeId × Value → H} {P : Program} {W : World} {base n : Nat} {t e : TypeId} {v : Value} {d : DataW H} {ps : List MemPlace}
theorem arg_u64 (hu : P.underlying t = some (.int .u64)) (hp : PlainT P (n + 1) t = true) (hv : Value.okWide P W .any base t v) (h : DataW.Trod enc P W 0 (fun _ => true) true t v d ps) : ∃ b, Rep (· < W.heap.size) W iota0 [] (.int .u64 b) v ∧ isU64 b := by
  obtain ⟨ds, h1, h2⟩ := read_plain hp h
  obtain ⟨b, rfl, hb⟩ := has_u64 hu h1
  exact ⟨b, cor_val h2 (one_int hu hv), hb⟩
theorem arg_u8 (hu : P.underlying t = some (.int .u8)) (hp : PlainT P (n + 1) t = true) (hv : Value.okWide P W .any base t v) (h : DataW.Trod enc P W 0 (fun _ => true) true t v d ps) : ∃ b : UInt8, Rep (· < W.heap.size) W iota0 [] (.int .u8 b.toNat) v ∧ True := by
  obtain ⟨ds, h1, h2⟩ := read_plain hp h
  obtain ⟨b, rfl⟩ := has_u8 hu h1
  exact ⟨b, cor_val h2 (one_int hu hv), trivial⟩
end
end Go.Ev
/- A place as a text. -/
namespace Go.Ev
open Go Go.Proofs
def kS : List UInt8 := [115, 61]
def kI : List UInt8 := [59, 105, 61]
def kB : List UInt8 := [59, 98, 61]
def kM : List UInt8 := [59, 109, 61]
def kT : List UInt8 := [59, 116, 61]
def kX : List UInt8 := [59, 120, 61]
/-- A place as a text. -/
def showL (c : Cur) : List UInt8 := kS ++ (hexs c.seq.l ++ (kI ++ (hx c.n.toNat ++ (kB ++ (hexs c.boot.l ++ (kM ++ (hx c.mono.toNat ++ (kT ++ (hx c.real.toNat ++ (kX ++ hx c.xor.toNat))))))))))
theorem showL_len (c : Cur) : 80 ≤ (showL c).length ∧ (showL c).length ≤ 200 := by
  have h1 := hx_len c.n.toNat
  have h2 := hx_len c.mono.toNat
  have h3 := hx_len c.real.toNat
  have h4 := hx_len c.xor.toNat
  have g1 := hx_pos c.n.toNat
  have g2 := hx_pos c.mono.toNat
  have g3 := hx_pos c.real.toNat
  have g4 := hx_pos c.xor.toNat
  have i1 := hexs_len c.seq.l
  have i2 := hexs_len c.boot.l
  rw [c.seq.h] at i1
  rw [c.boot.h] at i2
  simp only [showL, List.length_append, kS, kI, kB, kM, kT, kX, List.length_cons, List.length_nil]
  omega
def Cur.zero : Cur := ⟨ID.zero, 0, ID.zero, 0, 0, 0⟩
/-- A text, parted at a byte, so many times at most. -/
def splitN (c : UInt8) : Nat → List UInt8 → List (List UInt8)
  | 0, s => [s]
  | n + 1, s => if idxN [c] s 0 = -1 then [s] else s.take (idxN [c] s 0).toNat :: splitN c n (s.drop ((idxN [c] s 0).toNat + 1))
def splitL (c : UInt8) (s : List UInt8) : List (List UInt8) := splitN c (s.count c) s
theorem splitN_pos (c : UInt8) : ∀ (n : Nat) (s : List UInt8), 0 < (splitN c n s).length
  | 0, _ => by simp [splitN]
  | n + 1, s => by
    rw [splitN]
    split <;> simp
def cutAt (c : UInt8) (s : List UInt8) : List UInt8 := if idxN [c] s 0 = -1 then [] else s.drop ((idxN [c] s 0).toNat + 1)
def idOf (s : List UInt8) : ID := ⟨(idP s).getD zero16, by
  cases h : idP s with
  | none => rfl
  | some r => exact idP_len h⟩
/-- Two places. -/
def curEq (a b : Cur) : Bool := a.seq == b.seq && (a.n == b.n && (a.boot == b.boot && (a.mono == b.mono && (a.real == b.real && a.xor == b.xor))))
theorem curEq_iff (a b : Cur) : curEq a b = true ↔ a = b := by
  obtain ⟨a1, a2, a3, a4, a5, a6⟩ := a
  obtain ⟨b1, b2, b3, b4, b5, b6⟩ := b
  simp [curEq]
@[simp] theorem Cur.eq36 (a b : Cur) : cellsEq [.i, .i, .i, .i, .i, .i, .i, .i, .i, .i, .i, .i, .i, .i, .i, .i, .i, .i, .i, .i, .i, .i, .i, .i, .i, .i, .i, .i, .i, .i, .i, .i, .i, .i, .i, .i] (Enc.cells a) (Enc.cells b) = some (curEq a b) := by
  have h1 := cellsEq16 a.seq b.seq
  have h2 := cellsEq16 a.boot b.boot
  rw [Cur.cells, Cur.cells]
  have e : ([.i, .i, .i, .i, .i, .i, .i, .i, .i, .i, .i, .i, .i, .i, .i, .i, .i, .i, .i, .i, .i, .i, .i, .i, .i, .i, .i, .i, .i, .i, .i, .i, .i, .i, .i, .i] : List CK) = [.i, .i, .i, .i, .i, .i, .i, .i, .i, .i, .i, .i, .i, .i, .i, .i] ++ (.i :: ([.i, .i, .i, .i, .i, .i, .i, .i, .i, .i, .i, .i, .i, .i, .i, .i] ++ [.i, .i, .i])) := rfl
  rw [e, cellsEq_app _ _ _ _ _ _ (by simp) (by simp), h1]
  simp only [cellsEq, cellEq, if_true]
  rw [cellsEq_app _ _ _ _ _ _ (by simp) (by simp), h2]
  simp only [cellsEq, cellEq, if_true, Bool.and_true]
  rfl
theorem idx_at (c : UInt8) : ∀ (A B : List UInt8) (n : Nat), (∀ x ∈ A, x ≠ c) → idxN [c] (A ++ c :: B) n = ((n + A.length : Nat) : Int)
  | [], B, n, _ => by simp [idxN, List.isPrefixOf]
  | x :: A, B, n, h => by
    have hx := h x (by simp)
    have hx2 : (c == x) = false := by simpa using Ne.symm hx
    rw [List.cons_append, idxN, if_neg (by simp [List.isPrefixOf, hx2]), idx_at c A B (n + 1) fun y hy => h y (by simp [hy])]
    simp
    omega
theorem idx_no (c : UInt8) : ∀ (A : List UInt8) (n : Nat), (∀ x ∈ A, x ≠ c) → idxN [c] A n = -1
  | [], n, _ => by simp [idxN]
  | x :: A, n, h => by
    have hx := h x (by simp)
    have hx2 : (c == x) = false := by simpa using Ne.symm hx
    rw [idxN, if_neg (by simp [List.isPrefixOf, hx2]), idx_no c A (n + 1) fun y hy => h y (by simp [hy])]
theorem split_at {c : UInt8} {A : List UInt8} (h : ∀ x ∈ A, x ≠ c) (B : List UInt8) : splitL c (A ++ c :: B) = A :: splitL c B := by
  have h0 : A.count c = 0 := List.count_eq_zero.2 fun hm => h c hm rfl
  have hc : (A ++ c :: B).count c = B.count c + 1 := by
    rw [List.count_append, h0, List.count_cons_self]
    omega
  unfold splitL
  rw [hc, splitN, idx_at c A B 0 h, Nat.zero_add, if_neg (by omega)]
  have e : ((A.length : Nat) : Int).toNat = A.length := by omega
  rw [e, List.take_left]
  congr 1
  rw [← List.drop_drop, List.drop_left]
  rfl
theorem split_no {c : UInt8} {A : List UInt8} (h : ∀ x ∈ A, x ≠ c) : splitL c A = [A] := by
  have h0 : A.count c = 0 := List.count_eq_zero.2 fun hm => h c hm rfl
  unfold splitL
  rw [h0, splitN]
theorem cut_at {c : UInt8} {A : List UInt8} (h : ∀ x ∈ A, x ≠ c) (B : List UInt8) : cutAt c (A ++ c :: B) = B := by
  unfold cutAt
  rw [idx_at c A B 0 h, Nat.zero_add, if_neg (by omega)]
  have e : ((A.length : Nat) : Int).toNat = A.length := by omega
  rw [e, ← List.drop_drop, List.drop_left]
  rfl
theorem ne59 {k : UInt8} {A : List UInt8} (hk : k ≠ 59) (h : ∀ x ∈ A, x ≠ 59 ∧ x ≠ 61 ∧ x ≠ 45) : ∀ x ∈ k :: 61 :: A, x ≠ 59 := by
  intro x hx
  simp only [List.mem_cons] at hx
  rcases hx with rfl | rfl | hx
  · exact hk
  · decide
  · exact (h x hx).1
theorem vals_show (c : Cur) : (splitL 59 (showL c)).map (cutAt 61) = [hexs c.seq.l, hx c.n.toNat, hexs c.boot.l, hx c.mono.toNat, hx c.real.toNat, hx c.xor.toNat] := by
  have e : showL c = (115 :: 61 :: hexs c.seq.l) ++ 59 :: ((105 :: 61 :: hx c.n.toNat) ++ 59 :: ((98 :: 61 :: hexs c.boot.l) ++ 59 :: ((109 :: 61 :: hx c.mono.toNat) ++ 59 :: ((116 :: 61 :: hx c.real.toNat) ++ 59 :: (120 :: 61 :: hx c.xor.toNat))))) := by
    simp [showL, kS, kI, kB, kM, kT, kX]
  have hc : ∀ (k : UInt8) (A : List UInt8), k ≠ 61 → cutAt 61 (k :: 61 :: A) = A := fun k A hk => cut_at (A := [k]) (by simpa using hk) A
  rw [e, split_at (ne59 (by decide) (hexs_ne _)), split_at (ne59 (by decide) (hx_ne _)), split_at (ne59 (by decide) (hexs_ne _)), split_at (ne59 (by decide) (hx_ne _)), split_at (ne59 (by decide) (hx_ne _)), split_no (ne59 (by decide) (hx_ne _))]
  simp only [List.map_cons, List.map_nil, hc 115 _ (by decide), hc 105 _ (by decide), hc 98 _ (by decide), hc 109 _ (by decide), hc 116 _ (by decide), hc 120 _ (by decide)]
theorem idOf_hexs (i : ID) : idOf (hexs i.l) = i := ID.ext' (by show (idP (hexs i.l)).getD zero16 = i.l; rw [idP_hexs i.h]; rfl)
end Go.Ev
/- What arguments of this program's types are. -/
namespace Go.Ev.S
open Go Go.Proofs Go.Ev
theorem has_ID {n : Nat} {cs : List D} (h : HasT Tryd.prog (n + 2) 23 cs) : ∃ i : ID, cs = ofBytes i.l := has_id un23 un5 h
structure CurOk (c : Cur) : Prop where
  n : isU64 c.n
  mono : isU64 c.mono
  real : isU64 c.real
  xor : isU64 c.xor
theorem has_Cur {n : Nat} {cs : List D} (h : HasT Tryd.prog (n + 2 + 1) 26 cs) : ∃ m : Cur, cs = Enc.cells m ∧ CurOk m := by
  have h := has_struct (P := Tryd.prog) (n := n + 2) (t := 26) Tryd.underlying26 h
  simp only [HasFs] at h
  obtain ⟨a, b, rfl, -, ha, c, d, rfl, -, hc, e, f, rfl, -, he, g, k, rfl, -, hg, a2, b2, rfl, -, h2, a3, b3, rfl, -, h3, rfl⟩ := h
  obtain ⟨id, rfl⟩ := has_ID ha
  obtain ⟨x1, rfl, w1⟩ := has_u64 un24 hc
  obtain ⟨id2, rfl⟩ := has_ID he
  obtain ⟨x2, rfl, w2⟩ := has_u64 un24 hg
  obtain ⟨x3, rfl, w3⟩ := has_u64 un24 h2
  obtain ⟨x4, rfl, w4⟩ := has_u64 un24 h3
  exact ⟨⟨id, x1, id2, x2, x3, x4⟩, by simp [Cur.cells], ⟨w1, w2, w3, w4⟩⟩
end Go.Ev.S
/- Texts are cut. -/
namespace Go.Ev.S
open Go Go.Proofs Go.Ev
theorem idx_cases (sep : List UInt8) : ∀ (s : List UInt8) (n : Nat), (∃ i : Nat, idxN sep s n = ((n + i : Nat) : Int) ∧ i + sep.length ≤ s.length ∧ sep.isPrefixOf (s.drop i) = true) ∨ idxN sep s n = -1
  | [], n => by
    unfold idxN
    cases sep with
    | nil => exact .inl ⟨0, by simp⟩
    | cons a l => exact .inr (by simp)
  | b :: l, n => by
    unfold idxN
    by_cases h : sep.isPrefixOf (b :: l) = true
    · rw [if_pos h]
      refine .inl ⟨0, by simp, ?_, by simpa using h⟩
      have := List.IsPrefix.length_le (List.isPrefixOf_iff_prefix.1 h)
      simpa using this
    · rw [if_neg h]
      rcases idx_cases sep l (n + 1) with ⟨i, h1, h2, h3⟩ | h1
      · exact .inl ⟨i + 1, by rw [h1]; omega, by simp; omega, by simpa using h3⟩
      · exact .inr h1
theorem index_ev [MaxL] (s sep : List UInt8) (hs : s.length < 4294967281) : call cx 96 [.str s, .str sep] [] = some (.int .i64 (idxN sep s 0), []) := by
  refine call_con ?_
  rw [co96, conIdx, if_pos hs]
/-- A text up to where another one stands in it, and what stands behind. -/
def cutL (sep s : List UInt8) : List UInt8 × List UInt8 × Bool := if idxN sep s 0 = -1 then (s, [], false) else (s.take (idxN sep s 0).toNat, s.drop ((idxN sep s 0).toNat + sep.length), true)
theorem cutlite_ev [MaxL] (s sep : List UInt8) (hs : s.length < 1000000) (hl : sep.length < 1000000) : call cx 71 [.str s, .str sep] [] = some (.tup [.str (cutL sep s).1, .str (cutL sep s).2.1, .bool (cutL sep s).2.2], []) := by
  have h := index_ev s sep (by omega)
  unfold cutL
  refine call_run Tryd.func71 rfl ⟨rfl, rfl⟩ ?_
  rcases idx_cases sep s 0 with ⟨i, h1, h2, -⟩ | h1
  · rw [h1] at h
    rw [h1]
    obtain ⟨j, hj⟩ : ∃ j, j = i + sep.length := ⟨_, rfl⟩
    have hw : IntKind.i64.wrap ((i : Int) + (sep.length : Int)) = (j : Int) := by rw [wrap_i64] <;> omega
    have hn : ¬ ((0 + i : Nat) : Int) = -1 := by omega
    have g1 : (i : Int) ≤ (s.length : Int) := by omega
    have g2 : (j : Int) ≤ (s.length : Int) := by omega
    have g3 : j ≤ s.length := by omega
    have g4 : i ≤ s.length := by omega
    rw [Nat.zero_add] at h hn
    simp [Tryd.f71, h, hw, g1, g2, ← hj]
    exact List.take_of_length_le (by simp)
  · rw [h1] at h
    simp [Tryd.f71, h, h1]
theorem cut_ev [MaxL] (s sep : List UInt8) (hs : s.length < 1000000) (hl : sep.length < 1000000) : call cx 56 [.str s, .str sep] [] = some (.tup [.str (cutL sep s).1, .str (cutL sep s).2.1, .bool (cutL sep s).2.2], []) := by
  have h := cutlite_ev s sep hs hl
  refine call_run Tryd.func56 rfl ⟨rfl, rfl⟩ ?_
  simp [Tryd.f56, h]
end Go.Ev.S
