import Derived.Test.YtaponndjgdfkbaaDoorC3
import Derived.Test.YtaponndjgdfkbaaDoorRows
import Derived.Shelf.Strconv.Itoa0
import Derived.Shelf.Strconv.Itoa1
import Derived.Shelf.LaysM
import Derived.Shelf.Strconv.Clone
import Derived.Shelf.Strings.Search2
import Derived.Shelf.Bytes.SlIndexWhole
import Derived.Test.YtaponndjgdfkbaaDoorProg
import Derived.Lib.ItoaMem
/- What the evaluator needs of this program: printed by program. -/
namespace Go.Ev.S
open Go Go.Proofs Go.Ev
def kf4 : Nat → Option (List Nat × Nat)
  | 0 => some ([0, 1, 2], 0)
  | 1 => some ([0, 1, 2], 0)
  | 2 => some ([0, 1, 2, 7], 0)
  | 3 => some ([], 0)
  | 4 => some ([0, 1, 2, 7], 0)
  | 5 => some ([7], 0)
  | 6 => some ([0, 1, 2, 7], 0)
  | 7 => some ([2, 7, 8], 0)
  | 8 => some ([], 0)
  | 9 => some ([2, 7, 8], 0)
  | 10 => some ([2, 7, 8, 9], 0)
  | 11 => some ([2, 7, 8, 9, 10], 0)
  | 12 => some ([2, 7, 8, 9, 10], 0)
  | 13 => some ([2, 7, 8, 9, 10], 0)
  | 14 => some ([2, 7, 8, 9, 10, 11], 0)
  | 15 => some ([7, 8, 9], 0)
  | 16 => some ([7, 8, 9, 13], 0)
  | 17 => some ([7, 8, 13, 15], 0)
  | 18 => some ([7, 13, 15, 17], 0)
  | _ => none
def kf5 : Nat → Option (List Nat × Nat)
  | 0 => some ([0, 1, 2], 0)
  | 1 => some ([0, 1, 2], 0)
  | 2 => some ([0, 1, 2, 7], 0)
  | 3 => some ([], 0)
  | 4 => some ([0, 1, 2, 7], 0)
  | 5 => some ([7], 0)
  | 6 => some ([0, 1, 2, 7], 0)
  | 7 => some ([0, 1, 2, 7, 8], 0)
  | 8 => some ([0, 1, 2, 7, 8, 9], 0)
  | 9 => some ([0, 1, 2, 7, 8, 9, 10], 0)
  | 10 => some ([0, 1, 2, 7, 8, 9, 10], 0)
  | 11 => some ([0, 1, 2, 7, 8, 9, 10, 11], 0)
  | 12 => some ([0, 1, 2, 7, 8, 9, 11, 12], 0)
  | _ => none
def kf6 : Nat → Option (List Nat × Nat)
  | 0 => some ([0, 1, 2, 3, 4, 5], 0)
  | 1 => some ([2, 3, 4, 5, 6, 7], 0)
  | 2 => some ([2, 3, 4, 5, 6, 7, 13], 0)
  | 3 => some ([], 0)
  | 4 => some ([2, 3, 4, 5, 6, 7, 13], 0)
  | 5 => some ([13], 0)
  | 6 => some ([2, 3, 4, 5, 6, 7, 13], 0)
  | 7 => some ([2, 3, 4, 5, 6, 7, 13, 14], 0)
  | 8 => some ([2, 4, 5, 6, 7, 13, 14, 15], 0)
  | 9 => some ([6, 7, 13, 16], 0)
  | 10 => some ([6, 7, 13, 16, 17], 3)
  | 11 => some ([6, 7, 13, 16, 17], 0)
  | 12 => some ([6, 7, 13, 16, 17], 0)
  | 13 => some ([6, 7, 13, 16, 17, 18, 19], 0)
  | 14 => some ([6, 7, 13, 16, 17, 18, 19, 20, 21], 0)
  | 15 => some ([6, 7, 13, 16, 17, 18, 19, 20, 21, 22, 23], 0)
  | 16 => some ([6, 7, 13, 16, 17, 18, 19, 20, 21, 22, 23, 24, 25], 0)
  | 17 => some ([], 0)
  | 18 => some ([6, 7, 13], 0)
  | _ => none
def kf7 : Nat → Option (List Nat × Nat)
  | 0 => some ([0, 1, 2, 3], 0)
  | 1 => some ([0, 1, 2, 3], 0)
  | 2 => some ([0, 1, 2, 3, 9], 0)
  | 3 => some ([], 0)
  | 4 => some ([0, 1, 2, 3, 9], 0)
  | 5 => some ([9], 0)
  | 6 => some ([0, 1, 2, 3, 9], 0)
  | 7 => some ([0, 1, 2, 3, 9, 10], 0)
  | 8 => some ([9, 10, 11], 0)
  | 9 => some ([9, 10, 11, 12, 13], 0)
  | 10 => some ([9, 10, 11, 12, 13, 14, 15], 0)
  | 11 => some ([9, 10, 11, 12, 13, 14, 15, 16, 17], 0)
  | 12 => some ([9, 10, 11, 12, 14, 15, 16, 17, 19], 0)
  | 13 => some ([9, 10, 11, 14, 15, 16, 17, 19, 21], 0)
  | _ => none
def kf8 : Nat → Option (List Nat × Nat)
  | 0 => some ([0, 1, 2, 3, 4, 5], 0)
  | 1 => some ([0, 1, 2, 3, 4, 5], 0)
  | 2 => some ([0, 1, 2, 3, 4, 5, 13], 0)
  | 3 => some ([], 0)
  | 4 => some ([0, 1, 2, 3, 4, 5, 13], 0)
  | 5 => some ([13], 0)
  | 6 => some ([0, 1, 2, 3, 4, 5, 13], 0)
  | 7 => some ([0, 1, 2, 3, 4, 5, 13, 14], 0)
  | 8 => some ([4, 5, 13, 14, 15], 0)
  | 9 => some ([], 0)
  | 10 => some ([4, 5, 13, 14, 15], 0)
  | 11 => some ([4, 5, 13, 14, 15, 16, 17], 0)
  | 12 => some ([4, 13, 14, 15, 16, 17, 18, 19], 0)
  | 13 => some ([4, 13, 15, 16, 17, 18, 19, 21], 0)
  | 14 => some ([13, 16, 17, 18, 19, 21, 23], 0)
  | _ => none
def kf9 : Nat → Option (List Nat × Nat)
  | 0 => some ([0, 1, 2, 3, 4, 5], 0)
  | 1 => some ([0, 1, 2, 3, 4, 5], 0)
  | 2 => some ([0, 1, 2, 3, 4, 5, 13], 0)
  | 3 => some ([], 0)
  | 4 => some ([0, 1, 2, 3, 4, 5, 13], 0)
  | 5 => some ([13], 0)
  | 6 => some ([0, 1, 2, 3, 4, 5, 13], 0)
  | 7 => some ([0, 1, 2, 3, 4, 5, 13, 14], 0)
  | 8 => some ([4, 5, 13, 14, 15], 0)
  | 9 => some ([4, 5, 13, 14, 15, 16, 17], 0)
  | 10 => some ([4, 5, 13, 14, 15, 16, 17, 18, 19], 0)
  | 11 => some ([], 0)
  | 12 => some ([4, 5, 13, 17, 19], 0)
  | _ => none
def kf13 : Nat → Option (List Nat × Nat)
  | 0 => some ([0, 1], 0)
  | 1 => some ([0, 1], 0)
  | 2 => some ([], 0)
  | 3 => some ([0, 1], 0)
  | _ => none
def kf14 : Nat → Option (List Nat × Nat)
  | 0 => some ([], 0)
  | 1 => some ([], 0)
  | 2 => some ([2], 0)
  | _ => none
def kf15 : Nat → Option (List Nat × Nat)
  | 0 => some ([0], 0)
  | 1 => some ([1], 0)
  | 2 => some ([], 0)
  | 3 => some ([1], 0)
  | _ => none
def kf16 : Nat → Option (List Nat × Nat)
  | 0 => some ([0], 0)
  | 1 => some ([0], 0)
  | _ => none
def kf17 : Nat → Option (List Nat × Nat)
  | 0 => some ([0], 0)
  | 1 => some ([0, 2], 0)
  | 2 => some ([0, 2, 4], 0)
  | 3 => some ([2, 4, 5, 6], 0)
  | 4 => some ([2, 6], 0)
  | 5 => some ([2, 4, 5], 0)
  | _ => none
def kf18 : Nat → Option (List Nat × Nat)
  | 0 => some ([0], 0)
  | 1 => some ([1], 0)
  | 2 => some ([], 0)
  | 3 => some ([1], 0)
  | _ => none
def kf19 : Nat → Option (List Nat × Nat)
  | 0 => some ([0], 0)
  | 1 => some ([0], 0)
  | _ => none
def kf20 : Nat → Option (List Nat × Nat)
  | 0 => some ([0, 1, 2], 0)
  | 1 => some ([0, 1, 2], 0)
  | 2 => some ([1, 2, 7], 0)
  | 3 => some ([1, 2, 7, 8], 0)
  | 4 => some ([1, 2, 7, 8], 0)
  | 5 => some ([1, 2, 7, 8], 0)
  | 6 => some ([1, 2, 7, 8, 9], 0)
  | 7 => some ([7], 0)
  | _ => none
def kf21 : Nat → Option (List Nat × Nat)
  | 0 => some ([0], 0)
  | 1 => some ([1], 0)
  | 2 => some ([], 0)
  | 3 => some ([1], 0)
  | _ => none
def kf22 : Nat → Option (List Nat × Nat)
  | 0 => some ([0], 0)
  | 1 => some ([1], 0)
  | 2 => some ([], 0)
  | 3 => some ([1], 0)
  | _ => none
def kf23 : Nat → Option (List Nat × Nat)
  | 0 => some ([0], 0)
  | 1 => some ([0, 2], 0)
  | 2 => some ([0, 2, 4, 5], 0)
  | 3 => some ([2], 0)
  | 4 => some ([0, 2, 4], 0)
  | 5 => some ([0, 2, 4, 6], 0)
  | 6 => some ([0, 2, 4, 6, 7], 0)
  | 7 => some ([0, 2, 4, 6, 7], 0)
  | 8 => some ([0, 2, 4, 6, 7], 0)
  | 9 => some ([0, 2, 4, 6, 7, 8, 9], 0)
  | 10 => some ([0, 2, 4, 6, 7, 8], 0)
  | 11 => some ([0, 2, 4, 6, 7, 10, 11], 0)
  | 12 => some ([0, 2, 4, 6, 7, 10], 0)
  | 13 => some ([2, 6, 7, 10, 12, 13], 0)
  | 14 => some ([2, 13], 0)
  | 15 => some ([2, 6, 7, 10, 12], 0)
  | 16 => some ([2], 0)
  | _ => none
def kf24 : Nat → Option (List Nat × Nat)
  | 0 => some ([0], 0)
  | 1 => some ([0, 2], 0)
  | 2 => some ([0, 2, 4], 0)
  | 3 => some ([2, 4, 5, 6], 0)
  | 4 => some ([2, 6], 0)
  | 5 => some ([2, 4, 5], 0)
  | _ => none
def kf25 : Nat → Option (List Nat × Nat)
  | 0 => some ([0], 0)
  | 1 => some ([0, 2], 0)
  | 2 => some ([0, 2, 4, 5], 0)
  | 3 => some ([2], 0)
  | 4 => some ([0, 2, 4], 0)
  | 5 => some ([0, 2, 4, 6], 0)
  | 6 => some ([0, 2, 4, 6, 7], 0)
  | 7 => some ([0, 2, 4, 6, 7], 0)
  | 8 => some ([0, 2, 4, 6, 7], 0)
  | 9 => some ([0, 2, 4, 6, 7, 8, 9], 0)
  | 10 => some ([0, 2, 4, 6, 7, 8], 0)
  | 11 => some ([0, 2, 4, 6, 7, 10, 11], 0)
  | 12 => some ([0, 2, 4, 6, 7, 10], 0)
  | 13 => some ([2, 6, 7, 10, 12, 13], 0)
  | 14 => some ([2, 13], 0)
  | 15 => some ([2, 6, 7, 10, 12], 0)
  | 16 => some ([2], 0)
  | _ => none
def kf26 : Nat → Option (List Nat × Nat)
  | 0 => some ([0, 1], 0)
  | 1 => some ([2, 3], 0)
  | _ => none
def kf27 : Nat → Option (List Nat × Nat)
  | 0 => some ([0], 0)
  | 1 => some ([1, 2], 0)
  | _ => none
def kf28 : Nat → Option (List Nat × Nat)
  | 0 => some ([0, 1], 0)
  | 1 => some ([2, 3], 0)
  | _ => none
def kf29 : Nat → Option (List Nat × Nat)
  | 0 => some ([0], 0)
  | 1 => some ([1, 2], 0)
  | _ => none
def kf30 : Nat → Option (List Nat × Nat)
  | 0 => some ([0, 1], 0)
  | 1 => some ([0, 1], 0)
  | _ => none
def kf31 : Nat → Option (List Nat × Nat)
  | 0 => some ([0], 0)
  | 1 => some ([0], 0)
  | _ => none
def kf41 : Nat → Option (List Nat × Nat)
  | 0 => some ([0], 0)
  | 1 => some ([0], 0)
  | _ => none
def kf42 : Nat → Option (List Nat × Nat)
  | 0 => some ([0, 1, 2, 3], 0)
  | 1 => some ([0, 1, 2, 3], 0)
  | 2 => some ([], 0)
  | 3 => some ([0, 1, 2, 3], 0)
  | _ => none
def kf43 : Nat → Option (List Nat × Nat)
  | 0 => some ([0], 0)
  | 1 => some ([0], 0)
  | _ => none
def kf44 : Nat → Option (List Nat × Nat)
  | 0 => some ([0, 1], 0)
  | 1 => some ([0, 1, 4], 0)
  | 2 => some ([0, 1, 4, 6], 0)
  | 3 => some ([0, 1, 4, 6, 7], 0)
  | 4 => some ([4], 0)
  | 5 => some ([0, 1, 4, 6, 7], 0)
  | 6 => some ([1, 4, 8, 9], 0)
  | 7 => some ([4, 8, 9, 35, 36, 37], 3)
  | 8 => some ([4, 8, 9, 35, 36, 37], 0)
  | 9 => some ([4, 8, 9, 10, 11, 35, 36, 37], 0)
  | 10 => some ([4, 9, 10, 12], 0)
  | 11 => some ([4, 8, 9, 10, 12, 13, 35, 36, 37], 0)
  | 12 => some ([4, 9, 10, 12], 0)
  | 13 => some ([4], 0)
  | 14 => some ([4, 9, 10, 12], 0)
  | 15 => some ([4], 0)
  | 16 => some ([4, 9, 10, 12], 0)
  | 17 => some ([4], 0)
  | 18 => some ([4, 8, 9, 35, 36, 37], 0)
  | 19 => some ([4], 0)
  | _ => none
def kf45 : Nat → Option (List Nat × Nat)
  | 0 => some ([0], 0)
  | 1 => some ([0], 0)
  | 2 => some ([0, 3], 0)
  | 3 => some ([3, 4], 0)
  | 4 => some ([], 0)
  | 5 => some ([3, 4], 0)
  | 6 => some ([], 0)
  | 7 => some ([3], 0)
  | _ => none
def kf46 : Nat → Option (List Nat × Nat)
  | 0 => some ([0], 0)
  | 1 => some ([0], 0)
  | _ => none
def kf47 : Nat → Option (List Nat × Nat)
  | 0 => some ([0, 1, 2], 0)
  | 1 => some ([0, 1, 2], 0)
  | _ => none
def kf48 : Nat → Option (List Nat × Nat)
  | 0 => some ([0], 0)
  | 1 => some ([0], 0)
  | 2 => some ([3], 0)
  | 3 => some ([], 0)
  | 4 => some ([3], 0)
  | 5 => some ([], 0)
  | 6 => some ([3], 0)
  | 7 => some ([], 0)
  | 8 => some ([], 0)
  | _ => none
def kf49 : Nat → Option (List Nat × Nat)
  | 0 => some ([0], 0)
  | 1 => some ([0], 0)
  | 2 => some ([0, 4], 0)
  | 3 => some ([0, 4], 0)
  | 4 => some ([0, 4], 0)
  | 5 => some ([4], 0)
  | 6 => some ([], 0)
  | _ => none
def kf50 : Nat → Option (List Nat × Nat)
  | 0 => some ([0, 1], 0)
  | 1 => some ([0, 1], 0)
  | 2 => some ([], 0)
  | 3 => some ([0, 1], 0)
  | _ => none
def kf51 : Nat → Option (List Nat × Nat)
  | 0 => some ([0], 0)
  | 1 => some ([0, 2], 0)
  | 2 => some ([0, 2, 4], 0)
  | 3 => some ([0, 2, 4, 5], 0)
  | 4 => some ([2, 4, 5, 6], 0)
  | 5 => some ([2, 4, 5, 6, 7], 0)
  | 6 => some ([2, 4, 5, 6, 7], 0)
  | 7 => some ([2, 4, 5, 6, 7], 0)
  | 8 => some ([2, 4, 5, 7, 8, 9], 0)
  | 9 => some ([2, 4], 0)
  | 10 => some ([2, 4, 5, 7, 8], 0)
  | 11 => some ([2, 4, 5, 7, 8, 10], 0)
  | 12 => some ([2, 4, 5, 7, 8, 10], 0)
  | 13 => some ([2, 4, 5, 7, 8, 10], 0)
  | 14 => some ([2, 4, 5, 7, 8, 10, 11, 12], 0)
  | 15 => some ([2, 4], 0)
  | 16 => some ([2, 4, 5, 7, 8, 10, 11], 0)
  | 17 => some ([2, 4, 5, 7, 8, 10], 0)
  | 18 => some ([2, 4, 6], 0)
  | _ => none
def kf52 : Nat → Option (List Nat × Nat)
  | 0 => some ([0, 1, 2], 0)
  | 1 => some ([0, 1, 2], 0)
  | 2 => some ([], 0)
  | 3 => some ([0, 1, 2], 0)
  | 4 => some ([], 0)
  | 5 => some ([0, 1, 2], 0)
  | 6 => some ([], 0)
  | 7 => some ([0, 1], 0)
  | _ => none
def kf54 : Nat → Option (List Nat × Nat)
  | 0 => some ([0, 1], 0)
  | 1 => some ([0, 1], 0)
  | _ => none
def kf56 : Nat → Option (List Nat × Nat)
  | 0 => some ([0, 1], 0)
  | 1 => some ([0, 1], 0)
  | _ => none
def kf58 : Nat → Option (List Nat × Nat)
  | 0 => some ([0, 1, 2], 0)
  | 1 => some ([0, 1, 2], 0)
  | 2 => some ([0, 1, 2, 8, 9], 0)
  | 3 => some ([0, 1, 2, 8, 9], 0)
  | 4 => some ([8], 0)
  | _ => none
def kf63 : Nat → Option (List Nat × Nat)
  | 0 => some ([0, 1, 2, 3], 0)
  | 1 => some ([0, 1, 2, 3], 0)
  | 2 => some ([0, 1, 2, 3, 9], 0)
  | _ => none
def kf65 : Nat → Option (List Nat × Nat)
  | 0 => some ([0, 1], 0)
  | 1 => some ([0, 1, 4], 0)
  | 2 => some ([0, 1, 4, 6], 0)
  | 3 => some ([0, 1, 4, 6, 7, 8], 0)
  | 4 => some ([4, 6], 0)
  | 5 => some ([0, 1, 4, 6, 7], 0)
  | 6 => some ([0, 1, 4, 6, 7, 25, 26, 27], 0)
  | 7 => some ([0, 1, 4, 6, 7, 25, 26, 27], 0)
  | 8 => some ([0, 1, 4, 6, 7, 9, 10, 25, 26, 27], 0)
  | 9 => some ([0, 1, 4, 6, 9, 10, 11, 12, 25, 26, 27], 0)
  | 10 => some ([0, 1, 4, 6, 9, 12, 14, 15, 25, 26, 27], 0)
  | 11 => some ([4, 6], 0)
  | 12 => some ([0, 1, 4, 6, 9, 12, 14, 25, 26, 27], 0)
  | 13 => some ([0, 1, 4, 6, 7, 25, 26, 27], 0)
  | 14 => some ([0, 1, 4, 6], 0)
  | _ => none
def kf66 : Nat → Option (List Nat × Nat)
  | 0 => some ([0], 0)
  | 1 => some ([0], 0)
  | 2 => some ([], 0)
  | 3 => some ([0], 0)
  | _ => none
def kf67 : Nat → Option (List Nat × Nat)
  | 0 => some ([0], 0)
  | 1 => some ([0], 0)
  | _ => none
def kf68 : Nat → Option (List Nat × Nat)
  | 0 => some ([0], 0)
  | 1 => some ([0], 0)
  | 2 => some ([], 0)
  | 3 => some ([0], 0)
  | 4 => some ([0, 4], 0)
  | 5 => some ([0, 4, 5], 0)
  | 6 => some ([0, 4, 5], 0)
  | 7 => some ([0, 4, 5], 0)
  | 8 => some ([], 0)
  | 9 => some ([0, 4, 5], 0)
  | 10 => some ([0, 4, 5, 6], 0)
  | 11 => some ([], 0)
  | 12 => some ([0, 4, 5, 6], 0)
  | 13 => some ([4], 0)
  | _ => none
def kf69 : Nat → Option (List Nat × Nat)
  | 0 => some ([0, 1], 0)
  | 1 => some ([0, 1], 0)
  | 2 => some ([0], 0)
  | 3 => some ([0], 0)
  | 4 => some ([0], 0)
  | 5 => some ([0, 5], 0)
  | 6 => some ([0, 5, 6], 0)
  | 7 => some ([5, 6], 0)
  | 8 => some ([0, 1], 0)
  | 9 => some ([8], 0)
  | _ => none
def kf71 : Nat → Option (List Nat × Nat)
  | 0 => some ([0, 1], 0)
  | 1 => some ([0, 1], 0)
  | 2 => some ([0, 1, 7], 0)
  | 3 => some ([0, 1, 7], 0)
  | 4 => some ([0], 0)
  | _ => none
def kf72 : Nat → Option (List Nat × Nat)
  | 0 => some ([0, 1, 2], 0)
  | 1 => some ([0, 1, 2], 0)
  | 2 => some ([], 0)
  | 3 => some ([0, 1, 2], 0)
  | 4 => some ([0, 1, 2, 8], 0)
  | 5 => some ([], 0)
  | 6 => some ([0, 1, 2, 8, 9], 0)
  | 7 => some ([0, 1, 2, 8, 9], 0)
  | 8 => some ([0, 2, 8, 9], 0)
  | 9 => some ([0, 1, 2, 8, 9], 0)
  | 10 => some ([0, 2, 8, 9], 0)
  | 11 => some ([0, 1, 2, 8, 9], 0)
  | 12 => some ([0, 2, 8, 9], 0)
  | 13 => some ([0, 2, 8, 9], 0)
  | 14 => some ([0, 1, 2, 8, 9], 0)
  | 15 => some ([0, 2, 8, 9], 0)
  | 16 => some ([0, 2, 8, 9], 0)
  | 17 => some ([0, 1, 2, 8, 9], 0)
  | 18 => some ([0, 2, 8, 9], 0)
  | 19 => some ([0, 2, 8, 9], 0)
  | 20 => some ([0, 1, 2, 8, 9], 0)
  | 21 => some ([0, 1, 2, 8, 9], 0)
  | 22 => some ([0, 1, 8, 9], 0)
  | 23 => some ([0, 1, 2, 8, 9], 0)
  | 24 => some ([], 0)
  | 25 => some ([0, 1, 2, 8, 9], 0)
  | 26 => some ([0, 1, 2, 8, 9], 0)
  | 27 => some ([0, 1, 2, 8, 9], 0)
  | 28 => some ([0, 1, 2, 8, 9, 85], 0)
  | 29 => some ([0, 1, 2, 8, 9], 0)
  | 30 => some ([0, 1, 2, 8, 9, 85], 0)
  | 31 => some ([0, 1, 2, 8, 9], 0)
  | 32 => some ([0, 1, 2, 8, 9, 10], 0)
  | 33 => some ([0, 1, 8, 9, 10, 11], 0)
  | 34 => some ([0, 1, 8, 9, 10, 11, 12], 0)
  | 35 => some ([0, 1, 8, 9, 10, 11, 12, 13], 0)
  | 36 => some ([1, 8, 9, 10, 11, 12, 13, 99, 100, 101], 0)
  | 37 => some ([1, 8, 9, 10, 11, 12, 13, 99, 100, 101], 0)
  | 38 => some ([1, 8, 9, 10, 11, 12, 13, 15, 99, 100, 101], 0)
  | 39 => some ([], 0)
  | 40 => some ([1, 8, 9, 10, 11, 12, 13, 15, 99, 100, 101], 0)
  | 41 => some ([1, 8, 9, 10, 11, 13, 99, 100, 101], 0)
  | 42 => some ([1, 8, 9, 10, 11, 12, 13, 15, 99, 100, 101], 0)
  | 43 => some ([1, 8, 9, 10, 11, 12, 13, 15, 99, 100, 101], 0)
  | 44 => some ([1, 8, 9, 10, 11, 12, 13, 15, 99, 100, 101], 0)
  | 45 => some ([1, 8, 9, 10, 11, 12, 13, 15, 99, 100, 101], 0)
  | 46 => some ([1, 8, 9, 10, 11, 12, 13, 16, 99, 100, 101], 0)
  | 47 => some ([], 0)
  | 48 => some ([1, 8, 9, 10, 11, 12, 13, 16, 99, 100, 101], 0)
  | 49 => some ([11], 0)
  | 50 => some ([1, 8, 9, 10, 11, 12, 13, 16, 99, 100, 101], 0)
  | 51 => some ([1, 8, 9, 10, 11, 12, 13, 16, 99, 100, 101], 0)
  | 52 => some ([1, 8, 9, 10, 11, 12, 13, 17, 99, 100, 101], 0)
  | 53 => some ([11], 0)
  | 54 => some ([1, 8, 9, 10, 11, 12, 17, 99, 100, 101], 0)
  | 55 => some ([1, 8, 9, 10, 11, 12, 13, 99, 100, 101], 0)
  | 56 => some ([9, 12, 13], 0)
  | 57 => some ([], 0)
  | 58 => some ([13], 0)
  | _ => none
def kf73 : Nat → Option (List Nat × Nat)
  | 0 => some ([0, 1, 2, 3, 4], 0)
  | 1 => some ([0, 1, 2, 3, 4], 0)
  | 2 => some ([0, 1, 2, 3, 4, 11], 0)
  | 3 => some ([0, 1], 0)
  | 4 => some ([0, 1, 2, 3, 4, 11], 0)
  | 5 => some ([0, 1], 0)
  | 6 => some ([0, 1, 2, 3, 4, 11], 0)
  | 7 => some ([0, 1, 2], 0)
  | 8 => some ([0, 1, 3, 4, 11], 0)
  | 9 => some ([0, 1, 3], 0)
  | 10 => some ([4], 0)
  | _ => none
def kf81 : Nat → Option (List Nat × Nat)
  | 0 => some ([0], 0)
  | 1 => some ([0], 0)
  | _ => none
def kf87 : Nat → Option (List Nat × Nat)
  | 0 => some ([0, 1], 0)
  | 1 => some ([0, 1], 0)
  | _ => none
def kf88 : Nat → Option (List Nat × Nat)
  | 0 => some ([0, 1], 0)
  | 1 => some ([0, 1], 0)
  | _ => none
def kf90 : Nat → Option (List Nat × Nat)
  | 0 => some ([0], 0)
  | 1 => some ([0], 0)
  | 2 => some ([0, 3], 0)
  | _ => none
def kf91 : Nat → Option (List Nat × Nat)
  | 0 => some ([0, 1], 0)
  | 1 => some ([0, 1, 4], 0)
  | 2 => some ([0, 1, 4], 0)
  | 3 => some ([0, 1, 4, 5], 0)
  | 4 => some ([0, 1, 4, 5], 0)
  | 5 => some ([0, 1, 4, 6, 7], 0)
  | 6 => some ([0, 1, 4, 6, 8, 9], 0)
  | 7 => some ([0, 1, 4, 8, 9, 10, 11], 0)
  | 8 => some ([0, 1, 4, 8, 10, 11], 0)
  | 9 => some ([0, 1, 4, 10, 11], 0)
  | 10 => some ([0, 1, 4, 10], 0)
  | 11 => some ([0, 1, 4], 0)
  | 12 => some ([0, 1, 4], 0)
  | 13 => some ([0, 4, 12], 0)
  | 14 => some ([0, 4, 12], 0)
  | 15 => some ([0, 4, 12, 13], 0)
  | 16 => some ([0, 4, 12, 13], 0)
  | 17 => some ([0, 4, 12, 14, 15], 0)
  | 18 => some ([0, 4, 12, 14], 0)
  | 19 => some ([0, 4, 12], 0)
  | 20 => some ([0, 4, 12], 0)
  | 21 => some ([0, 4, 12], 0)
  | 22 => some ([0, 4, 12, 16], 0)
  | 23 => some ([0, 4, 12, 16], 0)
  | 24 => some ([0, 4, 12], 0)
  | 25 => some ([0, 4, 12], 0)
  | 26 => some ([0, 12], 0)
  | _ => none
def kf92 : Nat → Option (List Nat × Nat)
  | 0 => some ([0, 1, 2, 3, 4], 0)
  | 1 => some ([0, 1, 2, 3, 4, 10, 11], 0)
  | 2 => some ([0, 1, 2, 3, 4, 10, 11], 0)
  | 3 => some ([0, 1, 2, 3, 4, 10, 11], 0)
  | 4 => some ([0, 1, 2, 3, 4, 10, 11, 12], 0)
  | 5 => some ([0, 1, 2, 3, 4, 10, 11, 12, 13], 0)
  | 6 => some ([0, 1, 2, 3, 4, 10, 11, 12, 13], 0)
  | 7 => some ([0, 1, 2, 3, 4, 10, 11, 12, 13], 0)
  | 8 => some ([0, 1, 2, 3, 4, 10, 11, 12, 13], 0)
  | 9 => some ([0, 1, 2, 3, 4, 10, 11, 12, 13, 14], 0)
  | 10 => some ([0, 1, 2, 3, 4, 10, 11, 12, 13, 14, 15], 0)
  | 11 => some ([0, 1, 3, 4, 10, 11, 12, 13, 14, 15, 16], 0)
  | 12 => some ([0, 1, 3, 4, 10, 11, 12, 13, 14, 15, 16], 0)
  | 13 => some ([0, 1, 3, 4, 10, 11, 12, 13, 14, 15, 16], 0)
  | 14 => some ([0, 1, 3, 4, 10, 11, 12, 13, 14, 15, 16], 0)
  | 15 => some ([0, 1, 3, 4, 10, 11, 12, 13], 0)
  | 16 => some ([0, 1, 3, 4, 10, 11, 12, 13], 0)
  | 17 => some ([0, 1, 2, 3, 4, 10, 11, 12, 13], 0)
  | 18 => some ([0, 1, 3, 4, 10, 11, 12, 13, 17], 0)
  | 19 => some ([0, 1, 3, 4, 10, 11, 12, 13, 17], 0)
  | 20 => some ([0, 1, 3, 4, 10, 11, 12, 13, 17], 0)
  | 21 => some ([0, 1, 3, 4, 10, 11, 12, 13, 17, 18], 0)
  | 22 => some ([0, 3, 4, 10, 11, 12, 13, 17, 18], 0)
  | 23 => some ([0, 1, 3, 4, 10, 11, 12, 13], 0)
  | 24 => some ([0, 1, 3, 4, 10, 11, 12, 13], 0)
  | 25 => some ([0, 3, 4, 10, 11, 12, 13], 0)
  | 26 => some ([0, 4, 10, 11, 12, 13], 0)
  | 27 => some ([0, 4, 10, 11, 12, 13], 0)
  | 28 => some ([0, 4, 10, 11, 12, 13], 0)
  | 29 => some ([0, 11, 12, 13], 0)
  | 30 => some ([10, 12, 13], 0)
  | _ => none
def kf97 : Nat → Option (List Nat × Nat)
  | 0 => some ([0], 0)
  | 1 => some ([0], 0)
  | _ => none
def kf98 : Nat → Option (List Nat × Nat)
  | 0 => some ([0], 0)
  | 1 => some ([0], 0)
  | 2 => some ([0, 3], 0)
  | 3 => some ([0, 3, 4], 0)
  | 4 => some ([0, 3, 4], 0)
  | 5 => some ([0, 3, 4], 0)
  | 6 => some ([0, 3, 4, 5], 0)
  | 7 => some ([0], 0)
  | 8 => some ([0, 4], 0)
  | 9 => some ([0, 3, 4], 0)
  | 10 => some ([0, 3, 4, 5], 0)
  | 11 => some ([0, 3, 4, 5], 0)
  | 12 => some ([0, 3, 4, 5], 0)
  | 13 => some ([0, 4, 5], 0)
  | 14 => some ([0, 3, 4, 5], 0)
  | 15 => some ([0, 3, 4, 5], 0)
  | 16 => some ([], 0)
  | 17 => some ([0, 4, 5], 0)
  | 18 => some ([0, 3, 4, 5], 0)
  | 19 => some ([], 0)
  | 20 => some ([0, 4, 5], 0)
  | 21 => some ([3], 0)
  | _ => none
def kf99 : Nat → Option (List Nat × Nat)
  | 0 => some ([0, 1], 0)
  | 1 => some ([0, 1], 0)
  | _ => none
def kf100 : Nat → Option (List Nat × Nat)
  | 0 => some ([0, 1], 0)
  | 1 => some ([0, 1], 0)
  | _ => none
def kf101 : Nat → Option (List Nat × Nat)
  | 0 => some ([0, 1, 2], 0)
  | 1 => some ([0, 1, 2], 0)
  | _ => none
def kf102 : Nat → Option (List Nat × Nat)
  | 0 => some ([0, 1, 2], 0)
  | 1 => some ([0, 1, 2], 0)
  | _ => none
def kf106 : Nat → Option (List Nat × Nat)
  | 0 => some ([0, 1], 0)
  | 1 => some ([0, 1], 0)
  | _ => none
def kf111 : Nat → Option (List Nat × Nat)
  | 0 => some ([0, 1], 0)
  | 1 => some ([0, 1], 0)
  | 2 => some ([0], 0)
  | 3 => some ([0, 1], 0)
  | _ => none
def kf112 : Nat → Option (List Nat × Nat)
  | 0 => some ([0, 1], 0)
  | 1 => some ([0, 1], 0)
  | 2 => some ([0, 1], 0)
  | 3 => some ([0], 0)
  | _ => none
def kf113 : Nat → Option (List Nat × Nat)
  | 0 => some ([0], 0)
  | 1 => some ([0], 0)
  | _ => none
def kf115 : Nat → Option (List Nat × Nat)
  | 0 => some ([0], 0)
  | 1 => some ([0], 0)
  | 2 => some ([], 0)
  | 3 => some ([], 0)
  | _ => none
def kf116 : Nat → Option (List Nat × Nat)
  | 0 => some ([0], 0)
  | 1 => some ([0], 0)
  | _ => none
def kf117 : Nat → Option (List Nat × Nat)
  | 0 => some ([0], 0)
  | 1 => some ([0], 0)
  | 2 => some ([0], 0)
  | _ => none
def kf124 : Nat → Option (List Nat × Nat)
  | 0 => some ([0], 0)
  | 1 => some ([0], 0)
  | _ => none
def kf125 : Nat → Option (List Nat × Nat)
  | 0 => some ([0], 0)
  | 1 => some ([0], 0)
  | _ => none
def kf128 : Nat → Option (List Nat × Nat)
  | 0 => some ([0], 0)
  | 1 => some ([0], 0)
  | 2 => some ([], 0)
  | 3 => some ([0], 0)
  | _ => none
def kf129 : Nat → Option (List Nat × Nat)
  | 0 => some ([0], 0)
  | 1 => some ([0], 0)
  | 2 => some ([], 0)
  | 3 => some ([0], 0)
  | _ => none
def kf132 : Nat → Option (List Nat × Nat)
  | 0 => some ([0], 0)
  | 1 => some ([0], 0)
  | _ => none
def kf133 : Nat → Option (List Nat × Nat)
  | 0 => some ([0, 1], 0)
  | 1 => some ([0, 1], 0)
  | 2 => some ([0], 0)
  | 3 => some ([0], 0)
  | 4 => some ([0], 0)
  | 5 => some ([0, 5], 0)
  | 6 => some ([0, 5, 6], 0)
  | 7 => some ([0, 5, 6], 0)
  | 8 => some ([0, 5, 6], 0)
  | 9 => some ([0, 5, 6, 7], 0)
  | 10 => some ([0, 5, 7], 0)
  | 11 => some ([5, 7], 0)
  | 12 => some ([5, 7], 0)
  | 13 => some ([5, 7], 0)
  | 14 => some ([0, 1], 0)
  | 15 => some ([9], 0)
  | _ => none
def keepT : Nat → Nat → Option (List Nat × Nat)
  | 4 => kf4
  | 5 => kf5
  | 6 => kf6
  | 7 => kf7
  | 8 => kf8
  | 9 => kf9
  | 13 => kf13
  | 14 => kf14
  | 15 => kf15
  | 16 => kf16
  | 17 => kf17
  | 18 => kf18
  | 19 => kf19
  | 20 => kf20
  | 21 => kf21
  | 22 => kf22
  | 23 => kf23
  | 24 => kf24
  | 25 => kf25
  | 26 => kf26
  | 27 => kf27
  | 28 => kf28
  | 29 => kf29
  | 30 => kf30
  | 31 => kf31
  | 41 => kf41
  | 42 => kf42
  | 43 => kf43
  | 44 => kf44
  | 45 => kf45
  | 46 => kf46
  | 47 => kf47
  | 48 => kf48
  | 49 => kf49
  | 50 => kf50
  | 51 => kf51
  | 52 => kf52
  | 54 => kf54
  | 56 => kf56
  | 58 => kf58
  | 63 => kf63
  | 65 => kf65
  | 66 => kf66
  | 67 => kf67
  | 68 => kf68
  | 69 => kf69
  | 71 => kf71
  | 72 => kf72
  | 73 => kf73
  | 81 => kf81
  | 87 => kf87
  | 88 => kf88
  | 90 => kf90
  | 91 => kf91
  | 92 => kf92
  | 97 => kf97
  | 98 => kf98
  | 99 => kf99
  | 100 => kf100
  | 101 => kf101
  | 102 => kf102
  | 106 => kf106
  | 111 => kf111
  | 112 => kf112
  | 113 => kf113
  | 115 => kf115
  | 116 => kf116
  | 117 => kf117
  | 124 => kf124
  | 125 => kf125
  | 128 => kf128
  | 129 => kf129
  | 132 => kf132
  | 133 => kf133
  | _ => fun _ => none
def frzT : Nat → Nat → List Nat
  | 5, 10 => [10]
  | _, _ => []
def retT : Nat → Nat → List Nat
  | _, _ => []
def permT : Nat → Bool
  | 17 => true
  | 24 => true
  | _ => false
def byRefT : Nat → Bool
  | 91 => true
  | _ => false
def badT : Nat → Bool
  | 2 => true
  | 3 => true
  | 10 => true
  | 11 => true
  | 12 => true
  | 32 => true
  | 33 => true
  | 34 => true
  | 35 => true
  | 36 => true
  | 37 => true
  | 38 => true
  | 39 => true
  | 40 => true
  | 53 => true
  | 55 => true
  | 57 => true
  | 59 => true
  | 60 => true
  | 61 => true
  | 64 => true
  | 70 => true
  | 74 => true
  | 75 => true
  | 76 => true
  | 77 => true
  | 78 => true
  | 79 => true
  | 80 => true
  | 82 => true
  | 83 => true
  | 85 => true
  | 86 => true
  | 89 => true
  | 93 => true
  | 94 => true
  | 95 => true
  | 96 => true
  | 104 => true
  | 105 => true
  | 107 => true
  | 108 => true
  | 110 => true
  | 114 => true
  | 118 => true
  | 119 => true
  | 122 => true
  | 123 => true
  | 130 => true
  | 131 => true
  | 163 => true
  | _ => false
def pureT : Nat → Bool
  | 13 => true
  | 15 => true
  | 16 => true
  | 17 => true
  | 18 => true
  | 19 => true
  | 20 => true
  | 21 => true
  | 22 => true
  | 23 => true
  | 24 => true
  | 25 => true
  | 26 => true
  | 27 => true
  | 28 => true
  | 29 => true
  | 30 => true
  | 43 => true
  | 44 => true
  | 45 => true
  | 46 => true
  | 47 => true
  | 48 => true
  | 54 => true
  | 63 => true
  | 65 => true
  | 66 => true
  | 67 => true
  | 81 => true
  | 89 => true
  | 90 => true
  | 97 => true
  | 113 => true
  | 114 => true
  | 115 => true
  | 123 => true
  | _ => false
def fzrT : Nat → Bool
  | 31 => false
  | _ => true
def extT : Nat → List D → Option D
  | _ => fun _ => none
def conT : Nat → List D → Heap → Option (D × Heap)
  | 96 => conIdx
  | 64 => conBIdx
  | 123 => conClone
  | 114 => conLen64
  | 89 => conSmall
  | _ => fun _ _ => none
def gz1 : List Int := [1, 10, 100, 1000, 10000, 100000, 1000000, 10000000, 100000000, 1000000000, 10000000000, 100000000000, 1000000000000, 10000000000000, 100000000000000, 1000000000000000, 10000000000000000, 100000000000000000, 1000000000000000000, 10000000000000000000]
def gd1 : List D := gz1.map (D.int .u64)
def gs2 : List UInt8 := [105, 110, 118, 97, 108, 105, 100, 32, 115, 121, 110, 116, 97, 120]
def gs3 : List UInt8 := [118, 97, 108, 117, 101, 32, 111, 117, 116, 32, 111, 102, 32, 114, 97, 110, 103, 101]
def gz4 : List Int := [0, 1, 28, 2, 29, 14, 24, 3, 30, 22, 20, 15, 25, 17, 4, 8, 31, 27, 13, 23, 21, 19, 16, 7, 26, 12, 18, 6, 11, 5, 10, 9]
def gd4 : List D := gz4.map (D.int .u8)
def gz5 : List Int := [0, 1, 56, 2, 57, 49, 28, 3, 61, 58, 42, 50, 38, 29, 17, 4, 62, 47, 59, 36, 45, 43, 51, 22, 53, 39, 33, 30, 24, 18, 12, 5, 63, 55, 48, 27, 60, 41, 37, 16, 46, 35, 44, 21, 52, 32, 23, 11, 54, 26, 40, 15, 34, 20, 31, 10, 25, 14, 19, 9, 13, 8, 7, 6]
def gd5 : List D := gz5.map (D.int .u8)
def globT [MaxL] : Nat → Option (List D)
  | 1 => some gd1
  | 2 => some [.iface 163 (.vptr [.str gs2])]
  | 3 => some [.iface 163 (.vptr [.str gs3])]
  | 4 => some gd4
  | 5 => some gd5
  | 0 => some [.int .i64 MaxL.m]
  | _ => none
noncomputable def cx [MaxL] : Cx := { P := Tryd.prog, glob := globT, keep := keepT, byRef := byRefT, pureF := pureT, ext := extT, bad := badT, frz := frzT, ret := retT, fzr := fzrT, con := conT, perm := permT, dynV := true }
@[simp] theorem cxP [MaxL] : cx.P = Tryd.prog := rfl
@[simp] theorem cxD [MaxL] : cx.dynV = true := rfl
theorem cxF [MaxL] (f : Nat) : cx.P.funcs[f]? = Tryd.prog.funcs[f]? := rfl
@[simp] theorem gl1 [MaxL] : cx.glob 1 = some gd1 := rfl
@[simp] theorem gl2 [MaxL] : cx.glob 2 = some [.iface 163 (.vptr [.str gs2])] := rfl
@[simp] theorem gl3 [MaxL] : cx.glob 3 = some [.iface 163 (.vptr [.str gs3])] := rfl
@[simp] theorem gl4 [MaxL] : cx.glob 4 = some gd4 := rfl
@[simp] theorem gl5 [MaxL] : cx.glob 5 = some gd5 := rfl
@[simp] theorem br4 [MaxL] : cx.byRef 4 = false := rfl
@[simp] theorem pm4 [MaxL] : cx.perm 4 = false := rfl
@[simp] theorem pu4 [MaxL] : cx.pureF 4 = false := rfl
@[simp] theorem fz4 [MaxL] : cx.fzr 4 = true := rfl
@[simp] theorem br5 [MaxL] : cx.byRef 5 = false := rfl
@[simp] theorem pm5 [MaxL] : cx.perm 5 = false := rfl
@[simp] theorem pu5 [MaxL] : cx.pureF 5 = false := rfl
@[simp] theorem fz5 [MaxL] : cx.fzr 5 = true := rfl
@[simp] theorem br6 [MaxL] : cx.byRef 6 = false := rfl
@[simp] theorem pm6 [MaxL] : cx.perm 6 = false := rfl
@[simp] theorem pu6 [MaxL] : cx.pureF 6 = false := rfl
@[simp] theorem fz6 [MaxL] : cx.fzr 6 = true := rfl
@[simp] theorem br7 [MaxL] : cx.byRef 7 = false := rfl
@[simp] theorem pm7 [MaxL] : cx.perm 7 = false := rfl
@[simp] theorem pu7 [MaxL] : cx.pureF 7 = false := rfl
@[simp] theorem fz7 [MaxL] : cx.fzr 7 = true := rfl
@[simp] theorem br8 [MaxL] : cx.byRef 8 = false := rfl
@[simp] theorem pm8 [MaxL] : cx.perm 8 = false := rfl
@[simp] theorem pu8 [MaxL] : cx.pureF 8 = false := rfl
@[simp] theorem fz8 [MaxL] : cx.fzr 8 = true := rfl
@[simp] theorem br9 [MaxL] : cx.byRef 9 = false := rfl
@[simp] theorem pm9 [MaxL] : cx.perm 9 = false := rfl
@[simp] theorem pu9 [MaxL] : cx.pureF 9 = false := rfl
@[simp] theorem fz9 [MaxL] : cx.fzr 9 = true := rfl
@[simp] theorem br13 [MaxL] : cx.byRef 13 = false := rfl
@[simp] theorem pm13 [MaxL] : cx.perm 13 = false := rfl
@[simp] theorem pu13 [MaxL] : cx.pureF 13 = true := rfl
@[simp] theorem fz13 [MaxL] : cx.fzr 13 = true := rfl
@[simp] theorem br14 [MaxL] : cx.byRef 14 = false := rfl
@[simp] theorem pm14 [MaxL] : cx.perm 14 = false := rfl
@[simp] theorem pu14 [MaxL] : cx.pureF 14 = false := rfl
@[simp] theorem fz14 [MaxL] : cx.fzr 14 = true := rfl
@[simp] theorem br15 [MaxL] : cx.byRef 15 = false := rfl
@[simp] theorem pm15 [MaxL] : cx.perm 15 = false := rfl
@[simp] theorem pu15 [MaxL] : cx.pureF 15 = true := rfl
@[simp] theorem fz15 [MaxL] : cx.fzr 15 = true := rfl
@[simp] theorem br16 [MaxL] : cx.byRef 16 = false := rfl
@[simp] theorem pm16 [MaxL] : cx.perm 16 = false := rfl
@[simp] theorem pu16 [MaxL] : cx.pureF 16 = true := rfl
@[simp] theorem fz16 [MaxL] : cx.fzr 16 = true := rfl
@[simp] theorem br17 [MaxL] : cx.byRef 17 = false := rfl
@[simp] theorem pm17 [MaxL] : cx.perm 17 = true := rfl
@[simp] theorem pu17 [MaxL] : cx.pureF 17 = true := rfl
@[simp] theorem fz17 [MaxL] : cx.fzr 17 = true := rfl
@[simp] theorem br18 [MaxL] : cx.byRef 18 = false := rfl
@[simp] theorem pm18 [MaxL] : cx.perm 18 = false := rfl
@[simp] theorem pu18 [MaxL] : cx.pureF 18 = true := rfl
@[simp] theorem fz18 [MaxL] : cx.fzr 18 = true := rfl
@[simp] theorem br19 [MaxL] : cx.byRef 19 = false := rfl
@[simp] theorem pm19 [MaxL] : cx.perm 19 = false := rfl
@[simp] theorem pu19 [MaxL] : cx.pureF 19 = true := rfl
@[simp] theorem fz19 [MaxL] : cx.fzr 19 = true := rfl
@[simp] theorem br20 [MaxL] : cx.byRef 20 = false := rfl
@[simp] theorem pm20 [MaxL] : cx.perm 20 = false := rfl
@[simp] theorem pu20 [MaxL] : cx.pureF 20 = true := rfl
@[simp] theorem fz20 [MaxL] : cx.fzr 20 = true := rfl
@[simp] theorem br21 [MaxL] : cx.byRef 21 = false := rfl
@[simp] theorem pm21 [MaxL] : cx.perm 21 = false := rfl
@[simp] theorem pu21 [MaxL] : cx.pureF 21 = true := rfl
@[simp] theorem fz21 [MaxL] : cx.fzr 21 = true := rfl
@[simp] theorem br22 [MaxL] : cx.byRef 22 = false := rfl
@[simp] theorem pm22 [MaxL] : cx.perm 22 = false := rfl
@[simp] theorem pu22 [MaxL] : cx.pureF 22 = true := rfl
@[simp] theorem fz22 [MaxL] : cx.fzr 22 = true := rfl
@[simp] theorem br23 [MaxL] : cx.byRef 23 = false := rfl
@[simp] theorem pm23 [MaxL] : cx.perm 23 = false := rfl
@[simp] theorem pu23 [MaxL] : cx.pureF 23 = true := rfl
@[simp] theorem fz23 [MaxL] : cx.fzr 23 = true := rfl
@[simp] theorem br24 [MaxL] : cx.byRef 24 = false := rfl
@[simp] theorem pm24 [MaxL] : cx.perm 24 = true := rfl
@[simp] theorem pu24 [MaxL] : cx.pureF 24 = true := rfl
@[simp] theorem fz24 [MaxL] : cx.fzr 24 = true := rfl
@[simp] theorem br25 [MaxL] : cx.byRef 25 = false := rfl
@[simp] theorem pm25 [MaxL] : cx.perm 25 = false := rfl
@[simp] theorem pu25 [MaxL] : cx.pureF 25 = true := rfl
@[simp] theorem fz25 [MaxL] : cx.fzr 25 = true := rfl
@[simp] theorem br26 [MaxL] : cx.byRef 26 = false := rfl
@[simp] theorem pm26 [MaxL] : cx.perm 26 = false := rfl
@[simp] theorem pu26 [MaxL] : cx.pureF 26 = true := rfl
@[simp] theorem fz26 [MaxL] : cx.fzr 26 = true := rfl
@[simp] theorem br27 [MaxL] : cx.byRef 27 = false := rfl
@[simp] theorem pm27 [MaxL] : cx.perm 27 = false := rfl
@[simp] theorem pu27 [MaxL] : cx.pureF 27 = true := rfl
@[simp] theorem fz27 [MaxL] : cx.fzr 27 = true := rfl
@[simp] theorem br28 [MaxL] : cx.byRef 28 = false := rfl
@[simp] theorem pm28 [MaxL] : cx.perm 28 = false := rfl
@[simp] theorem pu28 [MaxL] : cx.pureF 28 = true := rfl
@[simp] theorem fz28 [MaxL] : cx.fzr 28 = true := rfl
@[simp] theorem br29 [MaxL] : cx.byRef 29 = false := rfl
@[simp] theorem pm29 [MaxL] : cx.perm 29 = false := rfl
@[simp] theorem pu29 [MaxL] : cx.pureF 29 = true := rfl
@[simp] theorem fz29 [MaxL] : cx.fzr 29 = true := rfl
@[simp] theorem br30 [MaxL] : cx.byRef 30 = false := rfl
@[simp] theorem pm30 [MaxL] : cx.perm 30 = false := rfl
@[simp] theorem pu30 [MaxL] : cx.pureF 30 = true := rfl
@[simp] theorem fz30 [MaxL] : cx.fzr 30 = true := rfl
@[simp] theorem br31 [MaxL] : cx.byRef 31 = false := rfl
@[simp] theorem pm31 [MaxL] : cx.perm 31 = false := rfl
@[simp] theorem pu31 [MaxL] : cx.pureF 31 = false := rfl
@[simp] theorem fz31 [MaxL] : cx.fzr 31 = false := rfl
@[simp] theorem br41 [MaxL] : cx.byRef 41 = false := rfl
@[simp] theorem pm41 [MaxL] : cx.perm 41 = false := rfl
@[simp] theorem pu41 [MaxL] : cx.pureF 41 = false := rfl
@[simp] theorem fz41 [MaxL] : cx.fzr 41 = true := rfl
@[simp] theorem br42 [MaxL] : cx.byRef 42 = false := rfl
@[simp] theorem pm42 [MaxL] : cx.perm 42 = false := rfl
@[simp] theorem pu42 [MaxL] : cx.pureF 42 = false := rfl
@[simp] theorem fz42 [MaxL] : cx.fzr 42 = true := rfl
@[simp] theorem br43 [MaxL] : cx.byRef 43 = false := rfl
@[simp] theorem pm43 [MaxL] : cx.perm 43 = false := rfl
@[simp] theorem pu43 [MaxL] : cx.pureF 43 = true := rfl
@[simp] theorem fz43 [MaxL] : cx.fzr 43 = true := rfl
@[simp] theorem br44 [MaxL] : cx.byRef 44 = false := rfl
@[simp] theorem pm44 [MaxL] : cx.perm 44 = false := rfl
@[simp] theorem pu44 [MaxL] : cx.pureF 44 = true := rfl
@[simp] theorem fz44 [MaxL] : cx.fzr 44 = true := rfl
@[simp] theorem br45 [MaxL] : cx.byRef 45 = false := rfl
@[simp] theorem pm45 [MaxL] : cx.perm 45 = false := rfl
@[simp] theorem pu45 [MaxL] : cx.pureF 45 = true := rfl
@[simp] theorem fz45 [MaxL] : cx.fzr 45 = true := rfl
@[simp] theorem br46 [MaxL] : cx.byRef 46 = false := rfl
@[simp] theorem pm46 [MaxL] : cx.perm 46 = false := rfl
@[simp] theorem pu46 [MaxL] : cx.pureF 46 = true := rfl
@[simp] theorem fz46 [MaxL] : cx.fzr 46 = true := rfl
@[simp] theorem br47 [MaxL] : cx.byRef 47 = false := rfl
@[simp] theorem pm47 [MaxL] : cx.perm 47 = false := rfl
@[simp] theorem pu47 [MaxL] : cx.pureF 47 = true := rfl
@[simp] theorem fz47 [MaxL] : cx.fzr 47 = true := rfl
@[simp] theorem br48 [MaxL] : cx.byRef 48 = false := rfl
@[simp] theorem pm48 [MaxL] : cx.perm 48 = false := rfl
@[simp] theorem pu48 [MaxL] : cx.pureF 48 = true := rfl
@[simp] theorem fz48 [MaxL] : cx.fzr 48 = true := rfl
@[simp] theorem br49 [MaxL] : cx.byRef 49 = false := rfl
@[simp] theorem pm49 [MaxL] : cx.perm 49 = false := rfl
@[simp] theorem pu49 [MaxL] : cx.pureF 49 = false := rfl
@[simp] theorem fz49 [MaxL] : cx.fzr 49 = true := rfl
@[simp] theorem br50 [MaxL] : cx.byRef 50 = false := rfl
@[simp] theorem pm50 [MaxL] : cx.perm 50 = false := rfl
@[simp] theorem pu50 [MaxL] : cx.pureF 50 = false := rfl
@[simp] theorem fz50 [MaxL] : cx.fzr 50 = true := rfl
@[simp] theorem br51 [MaxL] : cx.byRef 51 = false := rfl
@[simp] theorem pm51 [MaxL] : cx.perm 51 = false := rfl
@[simp] theorem pu51 [MaxL] : cx.pureF 51 = false := rfl
@[simp] theorem fz51 [MaxL] : cx.fzr 51 = true := rfl
@[simp] theorem br52 [MaxL] : cx.byRef 52 = false := rfl
@[simp] theorem pm52 [MaxL] : cx.perm 52 = false := rfl
@[simp] theorem pu52 [MaxL] : cx.pureF 52 = false := rfl
@[simp] theorem fz52 [MaxL] : cx.fzr 52 = true := rfl
@[simp] theorem br54 [MaxL] : cx.byRef 54 = false := rfl
@[simp] theorem pm54 [MaxL] : cx.perm 54 = false := rfl
@[simp] theorem pu54 [MaxL] : cx.pureF 54 = true := rfl
@[simp] theorem fz54 [MaxL] : cx.fzr 54 = true := rfl
@[simp] theorem br56 [MaxL] : cx.byRef 56 = false := rfl
@[simp] theorem pm56 [MaxL] : cx.perm 56 = false := rfl
@[simp] theorem pu56 [MaxL] : cx.pureF 56 = false := rfl
@[simp] theorem fz56 [MaxL] : cx.fzr 56 = true := rfl
@[simp] theorem br58 [MaxL] : cx.byRef 58 = false := rfl
@[simp] theorem pm58 [MaxL] : cx.perm 58 = false := rfl
@[simp] theorem pu58 [MaxL] : cx.pureF 58 = false := rfl
@[simp] theorem fz58 [MaxL] : cx.fzr 58 = true := rfl
@[simp] theorem br63 [MaxL] : cx.byRef 63 = false := rfl
@[simp] theorem pm63 [MaxL] : cx.perm 63 = false := rfl
@[simp] theorem pu63 [MaxL] : cx.pureF 63 = true := rfl
@[simp] theorem fz63 [MaxL] : cx.fzr 63 = true := rfl
@[simp] theorem br64 [MaxL] : cx.byRef 64 = false := rfl
@[simp] theorem pm64 [MaxL] : cx.perm 64 = false := rfl
@[simp] theorem pu64 [MaxL] : cx.pureF 64 = false := rfl
@[simp] theorem br65 [MaxL] : cx.byRef 65 = false := rfl
@[simp] theorem pm65 [MaxL] : cx.perm 65 = false := rfl
@[simp] theorem pu65 [MaxL] : cx.pureF 65 = true := rfl
@[simp] theorem fz65 [MaxL] : cx.fzr 65 = true := rfl
@[simp] theorem br66 [MaxL] : cx.byRef 66 = false := rfl
@[simp] theorem pm66 [MaxL] : cx.perm 66 = false := rfl
@[simp] theorem pu66 [MaxL] : cx.pureF 66 = true := rfl
@[simp] theorem fz66 [MaxL] : cx.fzr 66 = true := rfl
@[simp] theorem br67 [MaxL] : cx.byRef 67 = false := rfl
@[simp] theorem pm67 [MaxL] : cx.perm 67 = false := rfl
@[simp] theorem pu67 [MaxL] : cx.pureF 67 = true := rfl
@[simp] theorem fz67 [MaxL] : cx.fzr 67 = true := rfl
@[simp] theorem br68 [MaxL] : cx.byRef 68 = false := rfl
@[simp] theorem pm68 [MaxL] : cx.perm 68 = false := rfl
@[simp] theorem pu68 [MaxL] : cx.pureF 68 = false := rfl
@[simp] theorem fz68 [MaxL] : cx.fzr 68 = true := rfl
@[simp] theorem br69 [MaxL] : cx.byRef 69 = false := rfl
@[simp] theorem pm69 [MaxL] : cx.perm 69 = false := rfl
@[simp] theorem pu69 [MaxL] : cx.pureF 69 = false := rfl
@[simp] theorem fz69 [MaxL] : cx.fzr 69 = true := rfl
@[simp] theorem br71 [MaxL] : cx.byRef 71 = false := rfl
@[simp] theorem pm71 [MaxL] : cx.perm 71 = false := rfl
@[simp] theorem pu71 [MaxL] : cx.pureF 71 = false := rfl
@[simp] theorem fz71 [MaxL] : cx.fzr 71 = true := rfl
@[simp] theorem br72 [MaxL] : cx.byRef 72 = false := rfl
@[simp] theorem pm72 [MaxL] : cx.perm 72 = false := rfl
@[simp] theorem pu72 [MaxL] : cx.pureF 72 = false := rfl
@[simp] theorem fz72 [MaxL] : cx.fzr 72 = true := rfl
@[simp] theorem br73 [MaxL] : cx.byRef 73 = false := rfl
@[simp] theorem pm73 [MaxL] : cx.perm 73 = false := rfl
@[simp] theorem pu73 [MaxL] : cx.pureF 73 = false := rfl
@[simp] theorem fz73 [MaxL] : cx.fzr 73 = true := rfl
@[simp] theorem br81 [MaxL] : cx.byRef 81 = false := rfl
@[simp] theorem pm81 [MaxL] : cx.perm 81 = false := rfl
@[simp] theorem pu81 [MaxL] : cx.pureF 81 = true := rfl
@[simp] theorem fz81 [MaxL] : cx.fzr 81 = true := rfl
@[simp] theorem br87 [MaxL] : cx.byRef 87 = false := rfl
@[simp] theorem pm87 [MaxL] : cx.perm 87 = false := rfl
@[simp] theorem pu87 [MaxL] : cx.pureF 87 = false := rfl
@[simp] theorem fz87 [MaxL] : cx.fzr 87 = true := rfl
@[simp] theorem br88 [MaxL] : cx.byRef 88 = false := rfl
@[simp] theorem pm88 [MaxL] : cx.perm 88 = false := rfl
@[simp] theorem pu88 [MaxL] : cx.pureF 88 = false := rfl
@[simp] theorem fz88 [MaxL] : cx.fzr 88 = true := rfl
@[simp] theorem br89 [MaxL] : cx.byRef 89 = false := rfl
@[simp] theorem pm89 [MaxL] : cx.perm 89 = false := rfl
@[simp] theorem pu89 [MaxL] : cx.pureF 89 = true := rfl
@[simp] theorem br90 [MaxL] : cx.byRef 90 = false := rfl
@[simp] theorem pm90 [MaxL] : cx.perm 90 = false := rfl
@[simp] theorem pu90 [MaxL] : cx.pureF 90 = true := rfl
@[simp] theorem fz90 [MaxL] : cx.fzr 90 = true := rfl
@[simp] theorem br91 [MaxL] : cx.byRef 91 = true := rfl
@[simp] theorem pm91 [MaxL] : cx.perm 91 = false := rfl
@[simp] theorem pu91 [MaxL] : cx.pureF 91 = false := rfl
@[simp] theorem fz91 [MaxL] : cx.fzr 91 = true := rfl
@[simp] theorem br92 [MaxL] : cx.byRef 92 = false := rfl
@[simp] theorem pm92 [MaxL] : cx.perm 92 = false := rfl
@[simp] theorem pu92 [MaxL] : cx.pureF 92 = false := rfl
@[simp] theorem fz92 [MaxL] : cx.fzr 92 = true := rfl
@[simp] theorem br96 [MaxL] : cx.byRef 96 = false := rfl
@[simp] theorem pm96 [MaxL] : cx.perm 96 = false := rfl
@[simp] theorem pu96 [MaxL] : cx.pureF 96 = false := rfl
@[simp] theorem br97 [MaxL] : cx.byRef 97 = false := rfl
@[simp] theorem pm97 [MaxL] : cx.perm 97 = false := rfl
@[simp] theorem pu97 [MaxL] : cx.pureF 97 = true := rfl
@[simp] theorem fz97 [MaxL] : cx.fzr 97 = true := rfl
@[simp] theorem br98 [MaxL] : cx.byRef 98 = false := rfl
@[simp] theorem pm98 [MaxL] : cx.perm 98 = false := rfl
@[simp] theorem pu98 [MaxL] : cx.pureF 98 = false := rfl
@[simp] theorem fz98 [MaxL] : cx.fzr 98 = true := rfl
@[simp] theorem br99 [MaxL] : cx.byRef 99 = false := rfl
@[simp] theorem pm99 [MaxL] : cx.perm 99 = false := rfl
@[simp] theorem pu99 [MaxL] : cx.pureF 99 = false := rfl
@[simp] theorem fz99 [MaxL] : cx.fzr 99 = true := rfl
@[simp] theorem br100 [MaxL] : cx.byRef 100 = false := rfl
@[simp] theorem pm100 [MaxL] : cx.perm 100 = false := rfl
@[simp] theorem pu100 [MaxL] : cx.pureF 100 = false := rfl
@[simp] theorem fz100 [MaxL] : cx.fzr 100 = true := rfl
@[simp] theorem br101 [MaxL] : cx.byRef 101 = false := rfl
@[simp] theorem pm101 [MaxL] : cx.perm 101 = false := rfl
@[simp] theorem pu101 [MaxL] : cx.pureF 101 = false := rfl
@[simp] theorem fz101 [MaxL] : cx.fzr 101 = true := rfl
@[simp] theorem br102 [MaxL] : cx.byRef 102 = false := rfl
@[simp] theorem pm102 [MaxL] : cx.perm 102 = false := rfl
@[simp] theorem pu102 [MaxL] : cx.pureF 102 = false := rfl
@[simp] theorem fz102 [MaxL] : cx.fzr 102 = true := rfl
@[simp] theorem br106 [MaxL] : cx.byRef 106 = false := rfl
@[simp] theorem pm106 [MaxL] : cx.perm 106 = false := rfl
@[simp] theorem pu106 [MaxL] : cx.pureF 106 = false := rfl
@[simp] theorem fz106 [MaxL] : cx.fzr 106 = true := rfl
@[simp] theorem br111 [MaxL] : cx.byRef 111 = false := rfl
@[simp] theorem pm111 [MaxL] : cx.perm 111 = false := rfl
@[simp] theorem pu111 [MaxL] : cx.pureF 111 = false := rfl
@[simp] theorem fz111 [MaxL] : cx.fzr 111 = true := rfl
@[simp] theorem br112 [MaxL] : cx.byRef 112 = false := rfl
@[simp] theorem pm112 [MaxL] : cx.perm 112 = false := rfl
@[simp] theorem pu112 [MaxL] : cx.pureF 112 = false := rfl
@[simp] theorem fz112 [MaxL] : cx.fzr 112 = true := rfl
@[simp] theorem br113 [MaxL] : cx.byRef 113 = false := rfl
@[simp] theorem pm113 [MaxL] : cx.perm 113 = false := rfl
@[simp] theorem pu113 [MaxL] : cx.pureF 113 = true := rfl
@[simp] theorem fz113 [MaxL] : cx.fzr 113 = true := rfl
@[simp] theorem br114 [MaxL] : cx.byRef 114 = false := rfl
@[simp] theorem pm114 [MaxL] : cx.perm 114 = false := rfl
@[simp] theorem pu114 [MaxL] : cx.pureF 114 = true := rfl
@[simp] theorem br115 [MaxL] : cx.byRef 115 = false := rfl
@[simp] theorem pm115 [MaxL] : cx.perm 115 = false := rfl
@[simp] theorem pu115 [MaxL] : cx.pureF 115 = true := rfl
@[simp] theorem fz115 [MaxL] : cx.fzr 115 = true := rfl
@[simp] theorem br116 [MaxL] : cx.byRef 116 = false := rfl
@[simp] theorem pm116 [MaxL] : cx.perm 116 = false := rfl
@[simp] theorem pu116 [MaxL] : cx.pureF 116 = false := rfl
@[simp] theorem fz116 [MaxL] : cx.fzr 116 = true := rfl
@[simp] theorem br117 [MaxL] : cx.byRef 117 = false := rfl
@[simp] theorem pm117 [MaxL] : cx.perm 117 = false := rfl
@[simp] theorem pu117 [MaxL] : cx.pureF 117 = false := rfl
@[simp] theorem fz117 [MaxL] : cx.fzr 117 = true := rfl
@[simp] theorem br123 [MaxL] : cx.byRef 123 = false := rfl
@[simp] theorem pm123 [MaxL] : cx.perm 123 = false := rfl
@[simp] theorem pu123 [MaxL] : cx.pureF 123 = true := rfl
@[simp] theorem br124 [MaxL] : cx.byRef 124 = false := rfl
@[simp] theorem pm124 [MaxL] : cx.perm 124 = false := rfl
@[simp] theorem pu124 [MaxL] : cx.pureF 124 = false := rfl
@[simp] theorem fz124 [MaxL] : cx.fzr 124 = true := rfl
@[simp] theorem br125 [MaxL] : cx.byRef 125 = false := rfl
@[simp] theorem pm125 [MaxL] : cx.perm 125 = false := rfl
@[simp] theorem pu125 [MaxL] : cx.pureF 125 = false := rfl
@[simp] theorem fz125 [MaxL] : cx.fzr 125 = true := rfl
@[simp] theorem br128 [MaxL] : cx.byRef 128 = false := rfl
@[simp] theorem pm128 [MaxL] : cx.perm 128 = false := rfl
@[simp] theorem pu128 [MaxL] : cx.pureF 128 = false := rfl
@[simp] theorem fz128 [MaxL] : cx.fzr 128 = true := rfl
@[simp] theorem br129 [MaxL] : cx.byRef 129 = false := rfl
@[simp] theorem pm129 [MaxL] : cx.perm 129 = false := rfl
@[simp] theorem pu129 [MaxL] : cx.pureF 129 = false := rfl
@[simp] theorem fz129 [MaxL] : cx.fzr 129 = true := rfl
@[simp] theorem br132 [MaxL] : cx.byRef 132 = false := rfl
@[simp] theorem pm132 [MaxL] : cx.perm 132 = false := rfl
@[simp] theorem pu132 [MaxL] : cx.pureF 132 = false := rfl
@[simp] theorem fz132 [MaxL] : cx.fzr 132 = true := rfl
@[simp] theorem br133 [MaxL] : cx.byRef 133 = false := rfl
@[simp] theorem pm133 [MaxL] : cx.perm 133 = false := rfl
@[simp] theorem pu133 [MaxL] : cx.pureF 133 = false := rfl
@[simp] theorem fz133 [MaxL] : cx.fzr 133 = true := rfl
theorem co96 [MaxL] (args : List D) (H : Heap) : cx.con 96 args H = conIdx args H := rfl
theorem co64 [MaxL] (args : List D) (H : Heap) : cx.con 64 args H = conBIdx args H := rfl
theorem co123 [MaxL] (args : List D) (H : Heap) : cx.con 123 args H = conClone args H := rfl
theorem co114 [MaxL] (args : List D) (H : Heap) : cx.con 114 args H = conLen64 args H := rfl
theorem co89 [MaxL] (args : List D) (H : Heap) : cx.con 89 args H = conSmall args H := rfl
end Go.Ev.S
/- What the evaluator needs of this program: printed by program. -/
namespace Go.Ev.S
open Go Go.Proofs Go.Ev
@[simp] theorem en4_0 [MaxL] (n0 : Nat) (e : Env) (H : Heap) : enter cx 4 n0 0 e H = enterK [0, 1, 2] 0 n0 e H := rfl
@[simp] theorem en4_1 [MaxL] (n0 : Nat) (e : Env) (H : Heap) : enter cx 4 n0 1 e H = enterK [0, 1, 2] 0 n0 e H := rfl
@[simp] theorem en4_2 [MaxL] (n0 : Nat) (e : Env) (H : Heap) : enter cx 4 n0 2 e H = enterK [0, 1, 2, 7] 0 n0 e H := rfl
@[simp] theorem en4_3 [MaxL] (n0 : Nat) (e : Env) (H : Heap) : enter cx 4 n0 3 e H = enterK [] 0 n0 e H := rfl
@[simp] theorem en4_4 [MaxL] (n0 : Nat) (e : Env) (H : Heap) : enter cx 4 n0 4 e H = enterK [0, 1, 2, 7] 0 n0 e H := rfl
@[simp] theorem en4_5 [MaxL] (n0 : Nat) (e : Env) (H : Heap) : enter cx 4 n0 5 e H = enterK [7] 0 n0 e H := rfl
@[simp] theorem en4_6 [MaxL] (n0 : Nat) (e : Env) (H : Heap) : enter cx 4 n0 6 e H = enterK [0, 1, 2, 7] 0 n0 e H := rfl
@[simp] theorem en4_7 [MaxL] (n0 : Nat) (e : Env) (H : Heap) : enter cx 4 n0 7 e H = enterK [2, 7, 8] 0 n0 e H := rfl
@[simp] theorem en4_8 [MaxL] (n0 : Nat) (e : Env) (H : Heap) : enter cx 4 n0 8 e H = enterK [] 0 n0 e H := rfl
@[simp] theorem en4_9 [MaxL] (n0 : Nat) (e : Env) (H : Heap) : enter cx 4 n0 9 e H = enterK [2, 7, 8] 0 n0 e H := rfl
@[simp] theorem en4_10 [MaxL] (n0 : Nat) (e : Env) (H : Heap) : enter cx 4 n0 10 e H = enterK [2, 7, 8, 9] 0 n0 e H := rfl
@[simp] theorem en4_11 [MaxL] (n0 : Nat) (e : Env) (H : Heap) : enter cx 4 n0 11 e H = enterK [2, 7, 8, 9, 10] 0 n0 e H := rfl
@[simp] theorem en4_12 [MaxL] (n0 : Nat) (e : Env) (H : Heap) : enter cx 4 n0 12 e H = enterK [2, 7, 8, 9, 10] 0 n0 e H := rfl
@[simp] theorem en4_13 [MaxL] (n0 : Nat) (e : Env) (H : Heap) : enter cx 4 n0 13 e H = enterK [2, 7, 8, 9, 10] 0 n0 e H := rfl
@[simp] theorem en4_14 [MaxL] (n0 : Nat) (e : Env) (H : Heap) : enter cx 4 n0 14 e H = enterK [2, 7, 8, 9, 10, 11] 0 n0 e H := rfl
@[simp] theorem en4_15 [MaxL] (n0 : Nat) (e : Env) (H : Heap) : enter cx 4 n0 15 e H = enterK [7, 8, 9] 0 n0 e H := rfl
@[simp] theorem en4_16 [MaxL] (n0 : Nat) (e : Env) (H : Heap) : enter cx 4 n0 16 e H = enterK [7, 8, 9, 13] 0 n0 e H := rfl
@[simp] theorem en4_17 [MaxL] (n0 : Nat) (e : Env) (H : Heap) : enter cx 4 n0 17 e H = enterK [7, 8, 13, 15] 0 n0 e H := rfl
@[simp] theorem en4_18 [MaxL] (n0 : Nat) (e : Env) (H : Heap) : enter cx 4 n0 18 e H = enterK [7, 13, 15, 17] 0 n0 e H := rfl
@[simp] theorem en5_0 [MaxL] (n0 : Nat) (e : Env) (H : Heap) : enter cx 5 n0 0 e H = enterK [0, 1, 2] 0 n0 e H := rfl
@[simp] theorem en5_1 [MaxL] (n0 : Nat) (e : Env) (H : Heap) : enter cx 5 n0 1 e H = enterK [0, 1, 2] 0 n0 e H := rfl
@[simp] theorem en5_2 [MaxL] (n0 : Nat) (e : Env) (H : Heap) : enter cx 5 n0 2 e H = enterK [0, 1, 2, 7] 0 n0 e H := rfl
@[simp] theorem en5_3 [MaxL] (n0 : Nat) (e : Env) (H : Heap) : enter cx 5 n0 3 e H = enterK [] 0 n0 e H := rfl
@[simp] theorem en5_4 [MaxL] (n0 : Nat) (e : Env) (H : Heap) : enter cx 5 n0 4 e H = enterK [0, 1, 2, 7] 0 n0 e H := rfl
@[simp] theorem en5_5 [MaxL] (n0 : Nat) (e : Env) (H : Heap) : enter cx 5 n0 5 e H = enterK [7] 0 n0 e H := rfl
@[simp] theorem en5_6 [MaxL] (n0 : Nat) (e : Env) (H : Heap) : enter cx 5 n0 6 e H = enterK [0, 1, 2, 7] 0 n0 e H := rfl
@[simp] theorem en5_7 [MaxL] (n0 : Nat) (e : Env) (H : Heap) : enter cx 5 n0 7 e H = enterK [0, 1, 2, 7, 8] 0 n0 e H := rfl
@[simp] theorem en5_8 [MaxL] (n0 : Nat) (e : Env) (H : Heap) : enter cx 5 n0 8 e H = enterK [0, 1, 2, 7, 8, 9] 0 n0 e H := rfl
@[simp] theorem en5_9 [MaxL] (n0 : Nat) (e : Env) (H : Heap) : enter cx 5 n0 9 e H = enterK [0, 1, 2, 7, 8, 9, 10] 0 n0 e H := rfl
@[simp] theorem en5_10 [MaxL] (n0 : Nat) (e : Env) (H : Heap) : enter cx 5 n0 10 e H = enterZ [10] [0, 1, 2, 7, 8, 9, 10] 0 n0 e H := rfl
@[simp] theorem en5_11 [MaxL] (n0 : Nat) (e : Env) (H : Heap) : enter cx 5 n0 11 e H = enterK [0, 1, 2, 7, 8, 9, 10, 11] 0 n0 e H := rfl
@[simp] theorem en5_12 [MaxL] (n0 : Nat) (e : Env) (H : Heap) : enter cx 5 n0 12 e H = enterK [0, 1, 2, 7, 8, 9, 11, 12] 0 n0 e H := rfl
@[simp] theorem en6_0 [MaxL] (n0 : Nat) (e : Env) (H : Heap) : enter cx 6 n0 0 e H = enterK [0, 1, 2, 3, 4, 5] 0 n0 e H := rfl
@[simp] theorem en6_1 [MaxL] (n0 : Nat) (e : Env) (H : Heap) : enter cx 6 n0 1 e H = enterK [2, 3, 4, 5, 6, 7] 0 n0 e H := rfl
@[simp] theorem en6_2 [MaxL] (n0 : Nat) (e : Env) (H : Heap) : enter cx 6 n0 2 e H = enterK [2, 3, 4, 5, 6, 7, 13] 0 n0 e H := rfl
@[simp] theorem en6_3 [MaxL] (n0 : Nat) (e : Env) (H : Heap) : enter cx 6 n0 3 e H = enterK [] 0 n0 e H := rfl
@[simp] theorem en6_4 [MaxL] (n0 : Nat) (e : Env) (H : Heap) : enter cx 6 n0 4 e H = enterK [2, 3, 4, 5, 6, 7, 13] 0 n0 e H := rfl
@[simp] theorem en6_5 [MaxL] (n0 : Nat) (e : Env) (H : Heap) : enter cx 6 n0 5 e H = enterK [13] 0 n0 e H := rfl
@[simp] theorem en6_6 [MaxL] (n0 : Nat) (e : Env) (H : Heap) : enter cx 6 n0 6 e H = enterK [2, 3, 4, 5, 6, 7, 13] 0 n0 e H := rfl
@[simp] theorem en6_7 [MaxL] (n0 : Nat) (e : Env) (H : Heap) : enter cx 6 n0 7 e H = enterK [2, 3, 4, 5, 6, 7, 13, 14] 0 n0 e H := rfl
@[simp] theorem en6_8 [MaxL] (n0 : Nat) (e : Env) (H : Heap) : enter cx 6 n0 8 e H = enterK [2, 4, 5, 6, 7, 13, 14, 15] 0 n0 e H := rfl
@[simp] theorem en6_9 [MaxL] (n0 : Nat) (e : Env) (H : Heap) : enter cx 6 n0 9 e H = enterK [6, 7, 13, 16] 0 n0 e H := rfl
@[simp] theorem en6_10 [MaxL] (n0 : Nat) (e : Env) (H : Heap) : enter cx 6 n0 10 e H = enterK [6, 7, 13, 16, 17] 3 n0 e H := rfl
@[simp] theorem en6_11 [MaxL] (n0 : Nat) (e : Env) (H : Heap) : enter cx 6 n0 11 e H = enterK [6, 7, 13, 16, 17] 0 n0 e H := rfl
@[simp] theorem en6_12 [MaxL] (n0 : Nat) (e : Env) (H : Heap) : enter cx 6 n0 12 e H = enterK [6, 7, 13, 16, 17] 0 n0 e H := rfl
@[simp] theorem en6_13 [MaxL] (n0 : Nat) (e : Env) (H : Heap) : enter cx 6 n0 13 e H = enterK [6, 7, 13, 16, 17, 18, 19] 0 n0 e H := rfl
@[simp] theorem en6_14 [MaxL] (n0 : Nat) (e : Env) (H : Heap) : enter cx 6 n0 14 e H = enterK [6, 7, 13, 16, 17, 18, 19, 20, 21] 0 n0 e H := rfl
@[simp] theorem en6_15 [MaxL] (n0 : Nat) (e : Env) (H : Heap) : enter cx 6 n0 15 e H = enterK [6, 7, 13, 16, 17, 18, 19, 20, 21, 22, 23] 0 n0 e H := rfl
@[simp] theorem en6_16 [MaxL] (n0 : Nat) (e : Env) (H : Heap) : enter cx 6 n0 16 e H = enterK [6, 7, 13, 16, 17, 18, 19, 20, 21, 22, 23, 24, 25] 0 n0 e H := rfl
@[simp] theorem en6_17 [MaxL] (n0 : Nat) (e : Env) (H : Heap) : enter cx 6 n0 17 e H = enterK [] 0 n0 e H := rfl
@[simp] theorem en6_18 [MaxL] (n0 : Nat) (e : Env) (H : Heap) : enter cx 6 n0 18 e H = enterK [6, 7, 13] 0 n0 e H := rfl
@[simp] theorem en7_0 [MaxL] (n0 : Nat) (e : Env) (H : Heap) : enter cx 7 n0 0 e H = enterK [0, 1, 2, 3] 0 n0 e H := rfl
@[simp] theorem en7_1 [MaxL] (n0 : Nat) (e : Env) (H : Heap) : enter cx 7 n0 1 e H = enterK [0, 1, 2, 3] 0 n0 e H := rfl
@[simp] theorem en7_2 [MaxL] (n0 : Nat) (e : Env) (H : Heap) : enter cx 7 n0 2 e H = enterK [0, 1, 2, 3, 9] 0 n0 e H := rfl
@[simp] theorem en7_3 [MaxL] (n0 : Nat) (e : Env) (H : Heap) : enter cx 7 n0 3 e H = enterK [] 0 n0 e H := rfl
@[simp] theorem en7_4 [MaxL] (n0 : Nat) (e : Env) (H : Heap) : enter cx 7 n0 4 e H = enterK [0, 1, 2, 3, 9] 0 n0 e H := rfl
@[simp] theorem en7_5 [MaxL] (n0 : Nat) (e : Env) (H : Heap) : enter cx 7 n0 5 e H = enterK [9] 0 n0 e H := rfl
@[simp] theorem en7_6 [MaxL] (n0 : Nat) (e : Env) (H : Heap) : enter cx 7 n0 6 e H = enterK [0, 1, 2, 3, 9] 0 n0 e H := rfl
@[simp] theorem en7_7 [MaxL] (n0 : Nat) (e : Env) (H : Heap) : enter cx 7 n0 7 e H = enterK [0, 1, 2, 3, 9, 10] 0 n0 e H := rfl
@[simp] theorem en7_8 [MaxL] (n0 : Nat) (e : Env) (H : Heap) : enter cx 7 n0 8 e H = enterK [9, 10, 11] 0 n0 e H := rfl
@[simp] theorem en7_9 [MaxL] (n0 : Nat) (e : Env) (H : Heap) : enter cx 7 n0 9 e H = enterK [9, 10, 11, 12, 13] 0 n0 e H := rfl
@[simp] theorem en7_10 [MaxL] (n0 : Nat) (e : Env) (H : Heap) : enter cx 7 n0 10 e H = enterK [9, 10, 11, 12, 13, 14, 15] 0 n0 e H := rfl
@[simp] theorem en7_11 [MaxL] (n0 : Nat) (e : Env) (H : Heap) : enter cx 7 n0 11 e H = enterK [9, 10, 11, 12, 13, 14, 15, 16, 17] 0 n0 e H := rfl
@[simp] theorem en7_12 [MaxL] (n0 : Nat) (e : Env) (H : Heap) : enter cx 7 n0 12 e H = enterK [9, 10, 11, 12, 14, 15, 16, 17, 19] 0 n0 e H := rfl
@[simp] theorem en7_13 [MaxL] (n0 : Nat) (e : Env) (H : Heap) : enter cx 7 n0 13 e H = enterK [9, 10, 11, 14, 15, 16, 17, 19, 21] 0 n0 e H := rfl
@[simp] theorem en8_0 [MaxL] (n0 : Nat) (e : Env) (H : Heap) : enter cx 8 n0 0 e H = enterK [0, 1, 2, 3, 4, 5] 0 n0 e H := rfl
@[simp] theorem en8_1 [MaxL] (n0 : Nat) (e : Env) (H : Heap) : enter cx 8 n0 1 e H = enterK [0, 1, 2, 3, 4, 5] 0 n0 e H := rfl
@[simp] theorem en8_2 [MaxL] (n0 : Nat) (e : Env) (H : Heap) : enter cx 8 n0 2 e H = enterK [0, 1, 2, 3, 4, 5, 13] 0 n0 e H := rfl
@[simp] theorem en8_3 [MaxL] (n0 : Nat) (e : Env) (H : Heap) : enter cx 8 n0 3 e H = enterK [] 0 n0 e H := rfl
@[simp] theorem en8_4 [MaxL] (n0 : Nat) (e : Env) (H : Heap) : enter cx 8 n0 4 e H = enterK [0, 1, 2, 3, 4, 5, 13] 0 n0 e H := rfl
@[simp] theorem en8_5 [MaxL] (n0 : Nat) (e : Env) (H : Heap) : enter cx 8 n0 5 e H = enterK [13] 0 n0 e H := rfl
@[simp] theorem en8_6 [MaxL] (n0 : Nat) (e : Env) (H : Heap) : enter cx 8 n0 6 e H = enterK [0, 1, 2, 3, 4, 5, 13] 0 n0 e H := rfl
@[simp] theorem en8_7 [MaxL] (n0 : Nat) (e : Env) (H : Heap) : enter cx 8 n0 7 e H = enterK [0, 1, 2, 3, 4, 5, 13, 14] 0 n0 e H := rfl
@[simp] theorem en8_8 [MaxL] (n0 : Nat) (e : Env) (H : Heap) : enter cx 8 n0 8 e H = enterK [4, 5, 13, 14, 15] 0 n0 e H := rfl
@[simp] theorem en8_9 [MaxL] (n0 : Nat) (e : Env) (H : Heap) : enter cx 8 n0 9 e H = enterK [] 0 n0 e H := rfl
@[simp] theorem en8_10 [MaxL] (n0 : Nat) (e : Env) (H : Heap) : enter cx 8 n0 10 e H = enterK [4, 5, 13, 14, 15] 0 n0 e H := rfl
@[simp] theorem en8_11 [MaxL] (n0 : Nat) (e : Env) (H : Heap) : enter cx 8 n0 11 e H = enterK [4, 5, 13, 14, 15, 16, 17] 0 n0 e H := rfl
@[simp] theorem en8_12 [MaxL] (n0 : Nat) (e : Env) (H : Heap) : enter cx 8 n0 12 e H = enterK [4, 13, 14, 15, 16, 17, 18, 19] 0 n0 e H := rfl
@[simp] theorem en8_13 [MaxL] (n0 : Nat) (e : Env) (H : Heap) : enter cx 8 n0 13 e H = enterK [4, 13, 15, 16, 17, 18, 19, 21] 0 n0 e H := rfl
@[simp] theorem en8_14 [MaxL] (n0 : Nat) (e : Env) (H : Heap) : enter cx 8 n0 14 e H = enterK [13, 16, 17, 18, 19, 21, 23] 0 n0 e H := rfl
@[simp] theorem en9_0 [MaxL] (n0 : Nat) (e : Env) (H : Heap) : enter cx 9 n0 0 e H = enterK [0, 1, 2, 3, 4, 5] 0 n0 e H := rfl
@[simp] theorem en9_1 [MaxL] (n0 : Nat) (e : Env) (H : Heap) : enter cx 9 n0 1 e H = enterK [0, 1, 2, 3, 4, 5] 0 n0 e H := rfl
@[simp] theorem en9_2 [MaxL] (n0 : Nat) (e : Env) (H : Heap) : enter cx 9 n0 2 e H = enterK [0, 1, 2, 3, 4, 5, 13] 0 n0 e H := rfl
@[simp] theorem en9_3 [MaxL] (n0 : Nat) (e : Env) (H : Heap) : enter cx 9 n0 3 e H = enterK [] 0 n0 e H := rfl
@[simp] theorem en9_4 [MaxL] (n0 : Nat) (e : Env) (H : Heap) : enter cx 9 n0 4 e H = enterK [0, 1, 2, 3, 4, 5, 13] 0 n0 e H := rfl
@[simp] theorem en9_5 [MaxL] (n0 : Nat) (e : Env) (H : Heap) : enter cx 9 n0 5 e H = enterK [13] 0 n0 e H := rfl
@[simp] theorem en9_6 [MaxL] (n0 : Nat) (e : Env) (H : Heap) : enter cx 9 n0 6 e H = enterK [0, 1, 2, 3, 4, 5, 13] 0 n0 e H := rfl
@[simp] theorem en9_7 [MaxL] (n0 : Nat) (e : Env) (H : Heap) : enter cx 9 n0 7 e H = enterK [0, 1, 2, 3, 4, 5, 13, 14] 0 n0 e H := rfl
@[simp] theorem en9_8 [MaxL] (n0 : Nat) (e : Env) (H : Heap) : enter cx 9 n0 8 e H = enterK [4, 5, 13, 14, 15] 0 n0 e H := rfl
@[simp] theorem en9_9 [MaxL] (n0 : Nat) (e : Env) (H : Heap) : enter cx 9 n0 9 e H = enterK [4, 5, 13, 14, 15, 16, 17] 0 n0 e H := rfl
@[simp] theorem en9_10 [MaxL] (n0 : Nat) (e : Env) (H : Heap) : enter cx 9 n0 10 e H = enterK [4, 5, 13, 14, 15, 16, 17, 18, 19] 0 n0 e H := rfl
@[simp] theorem en9_11 [MaxL] (n0 : Nat) (e : Env) (H : Heap) : enter cx 9 n0 11 e H = enterK [] 0 n0 e H := rfl
@[simp] theorem en9_12 [MaxL] (n0 : Nat) (e : Env) (H : Heap) : enter cx 9 n0 12 e H = enterK [4, 5, 13, 17, 19] 0 n0 e H := rfl
@[simp] theorem en13_0 [MaxL] (n0 : Nat) (e : Env) (H : Heap) : enter cx 13 n0 0 e H = enterK [0, 1] 0 n0 e H := rfl
@[simp] theorem en13_1 [MaxL] (n0 : Nat) (e : Env) (H : Heap) : enter cx 13 n0 1 e H = enterK [0, 1] 0 n0 e H := rfl
@[simp] theorem en13_2 [MaxL] (n0 : Nat) (e : Env) (H : Heap) : enter cx 13 n0 2 e H = enterK [] 0 n0 e H := rfl
@[simp] theorem en13_3 [MaxL] (n0 : Nat) (e : Env) (H : Heap) : enter cx 13 n0 3 e H = enterK [0, 1] 0 n0 e H := rfl
@[simp] theorem en14_0 [MaxL] (n0 : Nat) (e : Env) (H : Heap) : enter cx 14 n0 0 e H = enterK [] 0 n0 e H := rfl
@[simp] theorem en14_1 [MaxL] (n0 : Nat) (e : Env) (H : Heap) : enter cx 14 n0 1 e H = enterK [] 0 n0 e H := rfl
@[simp] theorem en14_2 [MaxL] (n0 : Nat) (e : Env) (H : Heap) : enter cx 14 n0 2 e H = enterK [2] 0 n0 e H := rfl
@[simp] theorem en15_0 [MaxL] (n0 : Nat) (e : Env) (H : Heap) : enter cx 15 n0 0 e H = enterK [0] 0 n0 e H := rfl
@[simp] theorem en15_1 [MaxL] (n0 : Nat) (e : Env) (H : Heap) : enter cx 15 n0 1 e H = enterK [1] 0 n0 e H := rfl
@[simp] theorem en15_2 [MaxL] (n0 : Nat) (e : Env) (H : Heap) : enter cx 15 n0 2 e H = enterK [] 0 n0 e H := rfl
@[simp] theorem en15_3 [MaxL] (n0 : Nat) (e : Env) (H : Heap) : enter cx 15 n0 3 e H = enterK [1] 0 n0 e H := rfl
@[simp] theorem en16_0 [MaxL] (n0 : Nat) (e : Env) (H : Heap) : enter cx 16 n0 0 e H = enterK [0] 0 n0 e H := rfl
@[simp] theorem en16_1 [MaxL] (n0 : Nat) (e : Env) (H : Heap) : enter cx 16 n0 1 e H = enterK [0] 0 n0 e H := rfl
@[simp] theorem en17_0 [MaxL] (n0 : Nat) (e : Env) (H : Heap) : enter cx 17 n0 0 e H = enterK [0] 0 n0 e H := rfl
@[simp] theorem en17_1 [MaxL] (n0 : Nat) (e : Env) (H : Heap) : enter cx 17 n0 1 e H = enterK [0, 2] 0 n0 e H := rfl
@[simp] theorem en17_2 [MaxL] (n0 : Nat) (e : Env) (H : Heap) : enter cx 17 n0 2 e H = enterK [0, 2, 4] 0 n0 e H := rfl
@[simp] theorem en17_3 [MaxL] (n0 : Nat) (e : Env) (H : Heap) : enter cx 17 n0 3 e H = enterK [2, 4, 5, 6] 0 n0 e H := rfl
@[simp] theorem en17_4 [MaxL] (n0 : Nat) (e : Env) (H : Heap) : enter cx 17 n0 4 e H = enterK [2, 6] 0 n0 e H := rfl
@[simp] theorem en17_5 [MaxL] (n0 : Nat) (e : Env) (H : Heap) : enter cx 17 n0 5 e H = enterK [2, 4, 5] 0 n0 e H := rfl
@[simp] theorem en18_0 [MaxL] (n0 : Nat) (e : Env) (H : Heap) : enter cx 18 n0 0 e H = enterK [0] 0 n0 e H := rfl
@[simp] theorem en18_1 [MaxL] (n0 : Nat) (e : Env) (H : Heap) : enter cx 18 n0 1 e H = enterK [1] 0 n0 e H := rfl
@[simp] theorem en18_2 [MaxL] (n0 : Nat) (e : Env) (H : Heap) : enter cx 18 n0 2 e H = enterK [] 0 n0 e H := rfl
@[simp] theorem en18_3 [MaxL] (n0 : Nat) (e : Env) (H : Heap) : enter cx 18 n0 3 e H = enterK [1] 0 n0 e H := rfl
@[simp] theorem en19_0 [MaxL] (n0 : Nat) (e : Env) (H : Heap) : enter cx 19 n0 0 e H = enterK [0] 0 n0 e H := rfl
@[simp] theorem en19_1 [MaxL] (n0 : Nat) (e : Env) (H : Heap) : enter cx 19 n0 1 e H = enterK [0] 0 n0 e H := rfl
@[simp] theorem en20_0 [MaxL] (n0 : Nat) (e : Env) (H : Heap) : enter cx 20 n0 0 e H = enterK [0, 1, 2] 0 n0 e H := rfl
@[simp] theorem en20_1 [MaxL] (n0 : Nat) (e : Env) (H : Heap) : enter cx 20 n0 1 e H = enterK [0, 1, 2] 0 n0 e H := rfl
@[simp] theorem en20_2 [MaxL] (n0 : Nat) (e : Env) (H : Heap) : enter cx 20 n0 2 e H = enterK [1, 2, 7] 0 n0 e H := rfl
@[simp] theorem en20_3 [MaxL] (n0 : Nat) (e : Env) (H : Heap) : enter cx 20 n0 3 e H = enterK [1, 2, 7, 8] 0 n0 e H := rfl
@[simp] theorem en20_4 [MaxL] (n0 : Nat) (e : Env) (H : Heap) : enter cx 20 n0 4 e H = enterK [1, 2, 7, 8] 0 n0 e H := rfl
@[simp] theorem en20_5 [MaxL] (n0 : Nat) (e : Env) (H : Heap) : enter cx 20 n0 5 e H = enterK [1, 2, 7, 8] 0 n0 e H := rfl
@[simp] theorem en20_6 [MaxL] (n0 : Nat) (e : Env) (H : Heap) : enter cx 20 n0 6 e H = enterK [1, 2, 7, 8, 9] 0 n0 e H := rfl
@[simp] theorem en20_7 [MaxL] (n0 : Nat) (e : Env) (H : Heap) : enter cx 20 n0 7 e H = enterK [7] 0 n0 e H := rfl
@[simp] theorem en21_0 [MaxL] (n0 : Nat) (e : Env) (H : Heap) : enter cx 21 n0 0 e H = enterK [0] 0 n0 e H := rfl
@[simp] theorem en21_1 [MaxL] (n0 : Nat) (e : Env) (H : Heap) : enter cx 21 n0 1 e H = enterK [1] 0 n0 e H := rfl
@[simp] theorem en21_2 [MaxL] (n0 : Nat) (e : Env) (H : Heap) : enter cx 21 n0 2 e H = enterK [] 0 n0 e H := rfl
@[simp] theorem en21_3 [MaxL] (n0 : Nat) (e : Env) (H : Heap) : enter cx 21 n0 3 e H = enterK [1] 0 n0 e H := rfl
@[simp] theorem en22_0 [MaxL] (n0 : Nat) (e : Env) (H : Heap) : enter cx 22 n0 0 e H = enterK [0] 0 n0 e H := rfl
@[simp] theorem en22_1 [MaxL] (n0 : Nat) (e : Env) (H : Heap) : enter cx 22 n0 1 e H = enterK [1] 0 n0 e H := rfl
@[simp] theorem en22_2 [MaxL] (n0 : Nat) (e : Env) (H : Heap) : enter cx 22 n0 2 e H = enterK [] 0 n0 e H := rfl
@[simp] theorem en22_3 [MaxL] (n0 : Nat) (e : Env) (H : Heap) : enter cx 22 n0 3 e H = enterK [1] 0 n0 e H := rfl
@[simp] theorem en23_0 [MaxL] (n0 : Nat) (e : Env) (H : Heap) : enter cx 23 n0 0 e H = enterK [0] 0 n0 e H := rfl
@[simp] theorem en23_1 [MaxL] (n0 : Nat) (e : Env) (H : Heap) : enter cx 23 n0 1 e H = enterK [0, 2] 0 n0 e H := rfl
@[simp] theorem en23_2 [MaxL] (n0 : Nat) (e : Env) (H : Heap) : enter cx 23 n0 2 e H = enterK [0, 2, 4, 5] 0 n0 e H := rfl
@[simp] theorem en23_3 [MaxL] (n0 : Nat) (e : Env) (H : Heap) : enter cx 23 n0 3 e H = enterK [2] 0 n0 e H := rfl
@[simp] theorem en23_4 [MaxL] (n0 : Nat) (e : Env) (H : Heap) : enter cx 23 n0 4 e H = enterK [0, 2, 4] 0 n0 e H := rfl
@[simp] theorem en23_5 [MaxL] (n0 : Nat) (e : Env) (H : Heap) : enter cx 23 n0 5 e H = enterK [0, 2, 4, 6] 0 n0 e H := rfl
@[simp] theorem en23_6 [MaxL] (n0 : Nat) (e : Env) (H : Heap) : enter cx 23 n0 6 e H = enterK [0, 2, 4, 6, 7] 0 n0 e H := rfl
@[simp] theorem en23_7 [MaxL] (n0 : Nat) (e : Env) (H : Heap) : enter cx 23 n0 7 e H = enterK [0, 2, 4, 6, 7] 0 n0 e H := rfl
@[simp] theorem en23_8 [MaxL] (n0 : Nat) (e : Env) (H : Heap) : enter cx 23 n0 8 e H = enterK [0, 2, 4, 6, 7] 0 n0 e H := rfl
@[simp] theorem en23_9 [MaxL] (n0 : Nat) (e : Env) (H : Heap) : enter cx 23 n0 9 e H = enterK [0, 2, 4, 6, 7, 8, 9] 0 n0 e H := rfl
@[simp] theorem en23_10 [MaxL] (n0 : Nat) (e : Env) (H : Heap) : enter cx 23 n0 10 e H = enterK [0, 2, 4, 6, 7, 8] 0 n0 e H := rfl
@[simp] theorem en23_11 [MaxL] (n0 : Nat) (e : Env) (H : Heap) : enter cx 23 n0 11 e H = enterK [0, 2, 4, 6, 7, 10, 11] 0 n0 e H := rfl
@[simp] theorem en23_12 [MaxL] (n0 : Nat) (e : Env) (H : Heap) : enter cx 23 n0 12 e H = enterK [0, 2, 4, 6, 7, 10] 0 n0 e H := rfl
@[simp] theorem en23_13 [MaxL] (n0 : Nat) (e : Env) (H : Heap) : enter cx 23 n0 13 e H = enterK [2, 6, 7, 10, 12, 13] 0 n0 e H := rfl
@[simp] theorem en23_14 [MaxL] (n0 : Nat) (e : Env) (H : Heap) : enter cx 23 n0 14 e H = enterK [2, 13] 0 n0 e H := rfl
@[simp] theorem en23_15 [MaxL] (n0 : Nat) (e : Env) (H : Heap) : enter cx 23 n0 15 e H = enterK [2, 6, 7, 10, 12] 0 n0 e H := rfl
@[simp] theorem en23_16 [MaxL] (n0 : Nat) (e : Env) (H : Heap) : enter cx 23 n0 16 e H = enterK [2] 0 n0 e H := rfl
@[simp] theorem en24_0 [MaxL] (n0 : Nat) (e : Env) (H : Heap) : enter cx 24 n0 0 e H = enterK [0] 0 n0 e H := rfl
@[simp] theorem en24_1 [MaxL] (n0 : Nat) (e : Env) (H : Heap) : enter cx 24 n0 1 e H = enterK [0, 2] 0 n0 e H := rfl
@[simp] theorem en24_2 [MaxL] (n0 : Nat) (e : Env) (H : Heap) : enter cx 24 n0 2 e H = enterK [0, 2, 4] 0 n0 e H := rfl
@[simp] theorem en24_3 [MaxL] (n0 : Nat) (e : Env) (H : Heap) : enter cx 24 n0 3 e H = enterK [2, 4, 5, 6] 0 n0 e H := rfl
@[simp] theorem en24_4 [MaxL] (n0 : Nat) (e : Env) (H : Heap) : enter cx 24 n0 4 e H = enterK [2, 6] 0 n0 e H := rfl
@[simp] theorem en24_5 [MaxL] (n0 : Nat) (e : Env) (H : Heap) : enter cx 24 n0 5 e H = enterK [2, 4, 5] 0 n0 e H := rfl
@[simp] theorem en25_0 [MaxL] (n0 : Nat) (e : Env) (H : Heap) : enter cx 25 n0 0 e H = enterK [0] 0 n0 e H := rfl
@[simp] theorem en25_1 [MaxL] (n0 : Nat) (e : Env) (H : Heap) : enter cx 25 n0 1 e H = enterK [0, 2] 0 n0 e H := rfl
@[simp] theorem en25_2 [MaxL] (n0 : Nat) (e : Env) (H : Heap) : enter cx 25 n0 2 e H = enterK [0, 2, 4, 5] 0 n0 e H := rfl
@[simp] theorem en25_3 [MaxL] (n0 : Nat) (e : Env) (H : Heap) : enter cx 25 n0 3 e H = enterK [2] 0 n0 e H := rfl
@[simp] theorem en25_4 [MaxL] (n0 : Nat) (e : Env) (H : Heap) : enter cx 25 n0 4 e H = enterK [0, 2, 4] 0 n0 e H := rfl
@[simp] theorem en25_5 [MaxL] (n0 : Nat) (e : Env) (H : Heap) : enter cx 25 n0 5 e H = enterK [0, 2, 4, 6] 0 n0 e H := rfl
@[simp] theorem en25_6 [MaxL] (n0 : Nat) (e : Env) (H : Heap) : enter cx 25 n0 6 e H = enterK [0, 2, 4, 6, 7] 0 n0 e H := rfl
@[simp] theorem en25_7 [MaxL] (n0 : Nat) (e : Env) (H : Heap) : enter cx 25 n0 7 e H = enterK [0, 2, 4, 6, 7] 0 n0 e H := rfl
@[simp] theorem en25_8 [MaxL] (n0 : Nat) (e : Env) (H : Heap) : enter cx 25 n0 8 e H = enterK [0, 2, 4, 6, 7] 0 n0 e H := rfl
@[simp] theorem en25_9 [MaxL] (n0 : Nat) (e : Env) (H : Heap) : enter cx 25 n0 9 e H = enterK [0, 2, 4, 6, 7, 8, 9] 0 n0 e H := rfl
@[simp] theorem en25_10 [MaxL] (n0 : Nat) (e : Env) (H : Heap) : enter cx 25 n0 10 e H = enterK [0, 2, 4, 6, 7, 8] 0 n0 e H := rfl
@[simp] theorem en25_11 [MaxL] (n0 : Nat) (e : Env) (H : Heap) : enter cx 25 n0 11 e H = enterK [0, 2, 4, 6, 7, 10, 11] 0 n0 e H := rfl
@[simp] theorem en25_12 [MaxL] (n0 : Nat) (e : Env) (H : Heap) : enter cx 25 n0 12 e H = enterK [0, 2, 4, 6, 7, 10] 0 n0 e H := rfl
@[simp] theorem en25_13 [MaxL] (n0 : Nat) (e : Env) (H : Heap) : enter cx 25 n0 13 e H = enterK [2, 6, 7, 10, 12, 13] 0 n0 e H := rfl
@[simp] theorem en25_14 [MaxL] (n0 : Nat) (e : Env) (H : Heap) : enter cx 25 n0 14 e H = enterK [2, 13] 0 n0 e H := rfl
@[simp] theorem en25_15 [MaxL] (n0 : Nat) (e : Env) (H : Heap) : enter cx 25 n0 15 e H = enterK [2, 6, 7, 10, 12] 0 n0 e H := rfl
@[simp] theorem en25_16 [MaxL] (n0 : Nat) (e : Env) (H : Heap) : enter cx 25 n0 16 e H = enterK [2] 0 n0 e H := rfl
@[simp] theorem en26_0 [MaxL] (n0 : Nat) (e : Env) (H : Heap) : enter cx 26 n0 0 e H = enterK [0, 1] 0 n0 e H := rfl
@[simp] theorem en26_1 [MaxL] (n0 : Nat) (e : Env) (H : Heap) : enter cx 26 n0 1 e H = enterK [2, 3] 0 n0 e H := rfl
@[simp] theorem en27_0 [MaxL] (n0 : Nat) (e : Env) (H : Heap) : enter cx 27 n0 0 e H = enterK [0] 0 n0 e H := rfl
@[simp] theorem en27_1 [MaxL] (n0 : Nat) (e : Env) (H : Heap) : enter cx 27 n0 1 e H = enterK [1, 2] 0 n0 e H := rfl
@[simp] theorem en28_0 [MaxL] (n0 : Nat) (e : Env) (H : Heap) : enter cx 28 n0 0 e H = enterK [0, 1] 0 n0 e H := rfl
@[simp] theorem en28_1 [MaxL] (n0 : Nat) (e : Env) (H : Heap) : enter cx 28 n0 1 e H = enterK [2, 3] 0 n0 e H := rfl
@[simp] theorem en29_0 [MaxL] (n0 : Nat) (e : Env) (H : Heap) : enter cx 29 n0 0 e H = enterK [0] 0 n0 e H := rfl
@[simp] theorem en29_1 [MaxL] (n0 : Nat) (e : Env) (H : Heap) : enter cx 29 n0 1 e H = enterK [1, 2] 0 n0 e H := rfl
@[simp] theorem en30_0 [MaxL] (n0 : Nat) (e : Env) (H : Heap) : enter cx 30 n0 0 e H = enterK [0, 1] 0 n0 e H := rfl
@[simp] theorem en30_1 [MaxL] (n0 : Nat) (e : Env) (H : Heap) : enter cx 30 n0 1 e H = enterK [0, 1] 0 n0 e H := rfl
@[simp] theorem en31_0 [MaxL] (n0 : Nat) (e : Env) (H : Heap) : enter cx 31 n0 0 e H = enterK [0] 0 n0 e H := rfl
@[simp] theorem en31_1 [MaxL] (n0 : Nat) (e : Env) (H : Heap) : enter cx 31 n0 1 e H = enterK [0] 0 n0 e H := rfl
@[simp] theorem en41_0 [MaxL] (n0 : Nat) (e : Env) (H : Heap) : enter cx 41 n0 0 e H = enterK [0] 0 n0 e H := rfl
@[simp] theorem en41_1 [MaxL] (n0 : Nat) (e : Env) (H : Heap) : enter cx 41 n0 1 e H = enterK [0] 0 n0 e H := rfl
@[simp] theorem en42_0 [MaxL] (n0 : Nat) (e : Env) (H : Heap) : enter cx 42 n0 0 e H = enterK [0, 1, 2, 3] 0 n0 e H := rfl
@[simp] theorem en42_1 [MaxL] (n0 : Nat) (e : Env) (H : Heap) : enter cx 42 n0 1 e H = enterK [0, 1, 2, 3] 0 n0 e H := rfl
@[simp] theorem en42_2 [MaxL] (n0 : Nat) (e : Env) (H : Heap) : enter cx 42 n0 2 e H = enterK [] 0 n0 e H := rfl
@[simp] theorem en42_3 [MaxL] (n0 : Nat) (e : Env) (H : Heap) : enter cx 42 n0 3 e H = enterK [0, 1, 2, 3] 0 n0 e H := rfl
@[simp] theorem en43_0 [MaxL] (n0 : Nat) (e : Env) (H : Heap) : enter cx 43 n0 0 e H = enterK [0] 0 n0 e H := rfl
@[simp] theorem en43_1 [MaxL] (n0 : Nat) (e : Env) (H : Heap) : enter cx 43 n0 1 e H = enterK [0] 0 n0 e H := rfl
@[simp] theorem en44_0 [MaxL] (n0 : Nat) (e : Env) (H : Heap) : enter cx 44 n0 0 e H = enterK [0, 1] 0 n0 e H := rfl
@[simp] theorem en44_1 [MaxL] (n0 : Nat) (e : Env) (H : Heap) : enter cx 44 n0 1 e H = enterK [0, 1, 4] 0 n0 e H := rfl
@[simp] theorem en44_2 [MaxL] (n0 : Nat) (e : Env) (H : Heap) : enter cx 44 n0 2 e H = enterK [0, 1, 4, 6] 0 n0 e H := rfl
@[simp] theorem en44_3 [MaxL] (n0 : Nat) (e : Env) (H : Heap) : enter cx 44 n0 3 e H = enterK [0, 1, 4, 6, 7] 0 n0 e H := rfl
@[simp] theorem en44_4 [MaxL] (n0 : Nat) (e : Env) (H : Heap) : enter cx 44 n0 4 e H = enterK [4] 0 n0 e H := rfl
@[simp] theorem en44_5 [MaxL] (n0 : Nat) (e : Env) (H : Heap) : enter cx 44 n0 5 e H = enterK [0, 1, 4, 6, 7] 0 n0 e H := rfl
@[simp] theorem en44_6 [MaxL] (n0 : Nat) (e : Env) (H : Heap) : enter cx 44 n0 6 e H = enterK [1, 4, 8, 9] 0 n0 e H := rfl
@[simp] theorem en44_7 [MaxL] (n0 : Nat) (e : Env) (H : Heap) : enter cx 44 n0 7 e H = enterK [4, 8, 9, 35, 36, 37] 3 n0 e H := rfl
@[simp] theorem en44_8 [MaxL] (n0 : Nat) (e : Env) (H : Heap) : enter cx 44 n0 8 e H = enterK [4, 8, 9, 35, 36, 37] 0 n0 e H := rfl
@[simp] theorem en44_9 [MaxL] (n0 : Nat) (e : Env) (H : Heap) : enter cx 44 n0 9 e H = enterK [4, 8, 9, 10, 11, 35, 36, 37] 0 n0 e H := rfl
@[simp] theorem en44_10 [MaxL] (n0 : Nat) (e : Env) (H : Heap) : enter cx 44 n0 10 e H = enterK [4, 9, 10, 12] 0 n0 e H := rfl
@[simp] theorem en44_11 [MaxL] (n0 : Nat) (e : Env) (H : Heap) : enter cx 44 n0 11 e H = enterK [4, 8, 9, 10, 12, 13, 35, 36, 37] 0 n0 e H := rfl
@[simp] theorem en44_12 [MaxL] (n0 : Nat) (e : Env) (H : Heap) : enter cx 44 n0 12 e H = enterK [4, 9, 10, 12] 0 n0 e H := rfl
@[simp] theorem en44_13 [MaxL] (n0 : Nat) (e : Env) (H : Heap) : enter cx 44 n0 13 e H = enterK [4] 0 n0 e H := rfl
@[simp] theorem en44_14 [MaxL] (n0 : Nat) (e : Env) (H : Heap) : enter cx 44 n0 14 e H = enterK [4, 9, 10, 12] 0 n0 e H := rfl
@[simp] theorem en44_15 [MaxL] (n0 : Nat) (e : Env) (H : Heap) : enter cx 44 n0 15 e H = enterK [4] 0 n0 e H := rfl
@[simp] theorem en44_16 [MaxL] (n0 : Nat) (e : Env) (H : Heap) : enter cx 44 n0 16 e H = enterK [4, 9, 10, 12] 0 n0 e H := rfl
@[simp] theorem en44_17 [MaxL] (n0 : Nat) (e : Env) (H : Heap) : enter cx 44 n0 17 e H = enterK [4] 0 n0 e H := rfl
@[simp] theorem en44_18 [MaxL] (n0 : Nat) (e : Env) (H : Heap) : enter cx 44 n0 18 e H = enterK [4, 8, 9, 35, 36, 37] 0 n0 e H := rfl
@[simp] theorem en44_19 [MaxL] (n0 : Nat) (e : Env) (H : Heap) : enter cx 44 n0 19 e H = enterK [4] 0 n0 e H := rfl
@[simp] theorem en45_0 [MaxL] (n0 : Nat) (e : Env) (H : Heap) : enter cx 45 n0 0 e H = enterK [0] 0 n0 e H := rfl
@[simp] theorem en45_1 [MaxL] (n0 : Nat) (e : Env) (H : Heap) : enter cx 45 n0 1 e H = enterK [0] 0 n0 e H := rfl
@[simp] theorem en45_2 [MaxL] (n0 : Nat) (e : Env) (H : Heap) : enter cx 45 n0 2 e H = enterK [0, 3] 0 n0 e H := rfl
@[simp] theorem en45_3 [MaxL] (n0 : Nat) (e : Env) (H : Heap) : enter cx 45 n0 3 e H = enterK [3, 4] 0 n0 e H := rfl
@[simp] theorem en45_4 [MaxL] (n0 : Nat) (e : Env) (H : Heap) : enter cx 45 n0 4 e H = enterK [] 0 n0 e H := rfl
@[simp] theorem en45_5 [MaxL] (n0 : Nat) (e : Env) (H : Heap) : enter cx 45 n0 5 e H = enterK [3, 4] 0 n0 e H := rfl
@[simp] theorem en45_6 [MaxL] (n0 : Nat) (e : Env) (H : Heap) : enter cx 45 n0 6 e H = enterK [] 0 n0 e H := rfl
@[simp] theorem en45_7 [MaxL] (n0 : Nat) (e : Env) (H : Heap) : enter cx 45 n0 7 e H = enterK [3] 0 n0 e H := rfl
@[simp] theorem en46_0 [MaxL] (n0 : Nat) (e : Env) (H : Heap) : enter cx 46 n0 0 e H = enterK [0] 0 n0 e H := rfl
@[simp] theorem en46_1 [MaxL] (n0 : Nat) (e : Env) (H : Heap) : enter cx 46 n0 1 e H = enterK [0] 0 n0 e H := rfl
@[simp] theorem en47_0 [MaxL] (n0 : Nat) (e : Env) (H : Heap) : enter cx 47 n0 0 e H = enterK [0, 1, 2] 0 n0 e H := rfl
@[simp] theorem en47_1 [MaxL] (n0 : Nat) (e : Env) (H : Heap) : enter cx 47 n0 1 e H = enterK [0, 1, 2] 0 n0 e H := rfl
@[simp] theorem en48_0 [MaxL] (n0 : Nat) (e : Env) (H : Heap) : enter cx 48 n0 0 e H = enterK [0] 0 n0 e H := rfl
@[simp] theorem en48_1 [MaxL] (n0 : Nat) (e : Env) (H : Heap) : enter cx 48 n0 1 e H = enterK [0] 0 n0 e H := rfl
@[simp] theorem en48_2 [MaxL] (n0 : Nat) (e : Env) (H : Heap) : enter cx 48 n0 2 e H = enterK [3] 0 n0 e H := rfl
@[simp] theorem en48_3 [MaxL] (n0 : Nat) (e : Env) (H : Heap) : enter cx 48 n0 3 e H = enterK [] 0 n0 e H := rfl
@[simp] theorem en48_4 [MaxL] (n0 : Nat) (e : Env) (H : Heap) : enter cx 48 n0 4 e H = enterK [3] 0 n0 e H := rfl
@[simp] theorem en48_5 [MaxL] (n0 : Nat) (e : Env) (H : Heap) : enter cx 48 n0 5 e H = enterK [] 0 n0 e H := rfl
@[simp] theorem en48_6 [MaxL] (n0 : Nat) (e : Env) (H : Heap) : enter cx 48 n0 6 e H = enterK [3] 0 n0 e H := rfl
@[simp] theorem en48_7 [MaxL] (n0 : Nat) (e : Env) (H : Heap) : enter cx 48 n0 7 e H = enterK [] 0 n0 e H := rfl
@[simp] theorem en48_8 [MaxL] (n0 : Nat) (e : Env) (H : Heap) : enter cx 48 n0 8 e H = enterK [] 0 n0 e H := rfl
@[simp] theorem en49_0 [MaxL] (n0 : Nat) (e : Env) (H : Heap) : enter cx 49 n0 0 e H = enterK [0] 0 n0 e H := rfl
@[simp] theorem en49_1 [MaxL] (n0 : Nat) (e : Env) (H : Heap) : enter cx 49 n0 1 e H = enterK [0] 0 n0 e H := rfl
@[simp] theorem en49_2 [MaxL] (n0 : Nat) (e : Env) (H : Heap) : enter cx 49 n0 2 e H = enterK [0, 4] 0 n0 e H := rfl
@[simp] theorem en49_3 [MaxL] (n0 : Nat) (e : Env) (H : Heap) : enter cx 49 n0 3 e H = enterK [0, 4] 0 n0 e H := rfl
@[simp] theorem en49_4 [MaxL] (n0 : Nat) (e : Env) (H : Heap) : enter cx 49 n0 4 e H = enterK [0, 4] 0 n0 e H := rfl
@[simp] theorem en49_5 [MaxL] (n0 : Nat) (e : Env) (H : Heap) : enter cx 49 n0 5 e H = enterK [4] 0 n0 e H := rfl
@[simp] theorem en49_6 [MaxL] (n0 : Nat) (e : Env) (H : Heap) : enter cx 49 n0 6 e H = enterK [] 0 n0 e H := rfl
@[simp] theorem en50_0 [MaxL] (n0 : Nat) (e : Env) (H : Heap) : enter cx 50 n0 0 e H = enterK [0, 1] 0 n0 e H := rfl
@[simp] theorem en50_1 [MaxL] (n0 : Nat) (e : Env) (H : Heap) : enter cx 50 n0 1 e H = enterK [0, 1] 0 n0 e H := rfl
@[simp] theorem en50_2 [MaxL] (n0 : Nat) (e : Env) (H : Heap) : enter cx 50 n0 2 e H = enterK [] 0 n0 e H := rfl
@[simp] theorem en50_3 [MaxL] (n0 : Nat) (e : Env) (H : Heap) : enter cx 50 n0 3 e H = enterK [0, 1] 0 n0 e H := rfl
@[simp] theorem en51_0 [MaxL] (n0 : Nat) (e : Env) (H : Heap) : enter cx 51 n0 0 e H = enterK [0] 0 n0 e H := rfl
@[simp] theorem en51_1 [MaxL] (n0 : Nat) (e : Env) (H : Heap) : enter cx 51 n0 1 e H = enterK [0, 2] 0 n0 e H := rfl
@[simp] theorem en51_2 [MaxL] (n0 : Nat) (e : Env) (H : Heap) : enter cx 51 n0 2 e H = enterK [0, 2, 4] 0 n0 e H := rfl
@[simp] theorem en51_3 [MaxL] (n0 : Nat) (e : Env) (H : Heap) : enter cx 51 n0 3 e H = enterK [0, 2, 4, 5] 0 n0 e H := rfl
@[simp] theorem en51_4 [MaxL] (n0 : Nat) (e : Env) (H : Heap) : enter cx 51 n0 4 e H = enterK [2, 4, 5, 6] 0 n0 e H := rfl
@[simp] theorem en51_5 [MaxL] (n0 : Nat) (e : Env) (H : Heap) : enter cx 51 n0 5 e H = enterK [2, 4, 5, 6, 7] 0 n0 e H := rfl
@[simp] theorem en51_6 [MaxL] (n0 : Nat) (e : Env) (H : Heap) : enter cx 51 n0 6 e H = enterK [2, 4, 5, 6, 7] 0 n0 e H := rfl
@[simp] theorem en51_7 [MaxL] (n0 : Nat) (e : Env) (H : Heap) : enter cx 51 n0 7 e H = enterK [2, 4, 5, 6, 7] 0 n0 e H := rfl
@[simp] theorem en51_8 [MaxL] (n0 : Nat) (e : Env) (H : Heap) : enter cx 51 n0 8 e H = enterK [2, 4, 5, 7, 8, 9] 0 n0 e H := rfl
@[simp] theorem en51_9 [MaxL] (n0 : Nat) (e : Env) (H : Heap) : enter cx 51 n0 9 e H = enterK [2, 4] 0 n0 e H := rfl
@[simp] theorem en51_10 [MaxL] (n0 : Nat) (e : Env) (H : Heap) : enter cx 51 n0 10 e H = enterK [2, 4, 5, 7, 8] 0 n0 e H := rfl
@[simp] theorem en51_11 [MaxL] (n0 : Nat) (e : Env) (H : Heap) : enter cx 51 n0 11 e H = enterK [2, 4, 5, 7, 8, 10] 0 n0 e H := rfl
@[simp] theorem en51_12 [MaxL] (n0 : Nat) (e : Env) (H : Heap) : enter cx 51 n0 12 e H = enterK [2, 4, 5, 7, 8, 10] 0 n0 e H := rfl
@[simp] theorem en51_13 [MaxL] (n0 : Nat) (e : Env) (H : Heap) : enter cx 51 n0 13 e H = enterK [2, 4, 5, 7, 8, 10] 0 n0 e H := rfl
@[simp] theorem en51_14 [MaxL] (n0 : Nat) (e : Env) (H : Heap) : enter cx 51 n0 14 e H = enterK [2, 4, 5, 7, 8, 10, 11, 12] 0 n0 e H := rfl
@[simp] theorem en51_15 [MaxL] (n0 : Nat) (e : Env) (H : Heap) : enter cx 51 n0 15 e H = enterK [2, 4] 0 n0 e H := rfl
@[simp] theorem en51_16 [MaxL] (n0 : Nat) (e : Env) (H : Heap) : enter cx 51 n0 16 e H = enterK [2, 4, 5, 7, 8, 10, 11] 0 n0 e H := rfl
@[simp] theorem en51_17 [MaxL] (n0 : Nat) (e : Env) (H : Heap) : enter cx 51 n0 17 e H = enterK [2, 4, 5, 7, 8, 10] 0 n0 e H := rfl
@[simp] theorem en51_18 [MaxL] (n0 : Nat) (e : Env) (H : Heap) : enter cx 51 n0 18 e H = enterK [2, 4, 6] 0 n0 e H := rfl
@[simp] theorem en52_0 [MaxL] (n0 : Nat) (e : Env) (H : Heap) : enter cx 52 n0 0 e H = enterK [0, 1, 2] 0 n0 e H := rfl
@[simp] theorem en52_1 [MaxL] (n0 : Nat) (e : Env) (H : Heap) : enter cx 52 n0 1 e H = enterK [0, 1, 2] 0 n0 e H := rfl
@[simp] theorem en52_2 [MaxL] (n0 : Nat) (e : Env) (H : Heap) : enter cx 52 n0 2 e H = enterK [] 0 n0 e H := rfl
@[simp] theorem en52_3 [MaxL] (n0 : Nat) (e : Env) (H : Heap) : enter cx 52 n0 3 e H = enterK [0, 1, 2] 0 n0 e H := rfl
@[simp] theorem en52_4 [MaxL] (n0 : Nat) (e : Env) (H : Heap) : enter cx 52 n0 4 e H = enterK [] 0 n0 e H := rfl
@[simp] theorem en52_5 [MaxL] (n0 : Nat) (e : Env) (H : Heap) : enter cx 52 n0 5 e H = enterK [0, 1, 2] 0 n0 e H := rfl
@[simp] theorem en52_6 [MaxL] (n0 : Nat) (e : Env) (H : Heap) : enter cx 52 n0 6 e H = enterK [] 0 n0 e H := rfl
@[simp] theorem en52_7 [MaxL] (n0 : Nat) (e : Env) (H : Heap) : enter cx 52 n0 7 e H = enterK [0, 1] 0 n0 e H := rfl
@[simp] theorem en54_0 [MaxL] (n0 : Nat) (e : Env) (H : Heap) : enter cx 54 n0 0 e H = enterK [0, 1] 0 n0 e H := rfl
@[simp] theorem en54_1 [MaxL] (n0 : Nat) (e : Env) (H : Heap) : enter cx 54 n0 1 e H = enterK [0, 1] 0 n0 e H := rfl
@[simp] theorem en56_0 [MaxL] (n0 : Nat) (e : Env) (H : Heap) : enter cx 56 n0 0 e H = enterK [0, 1] 0 n0 e H := rfl
@[simp] theorem en56_1 [MaxL] (n0 : Nat) (e : Env) (H : Heap) : enter cx 56 n0 1 e H = enterK [0, 1] 0 n0 e H := rfl
@[simp] theorem en58_0 [MaxL] (n0 : Nat) (e : Env) (H : Heap) : enter cx 58 n0 0 e H = enterK [0, 1, 2] 0 n0 e H := rfl
@[simp] theorem en58_1 [MaxL] (n0 : Nat) (e : Env) (H : Heap) : enter cx 58 n0 1 e H = enterK [0, 1, 2] 0 n0 e H := rfl
@[simp] theorem en58_2 [MaxL] (n0 : Nat) (e : Env) (H : Heap) : enter cx 58 n0 2 e H = enterK [0, 1, 2, 8, 9] 0 n0 e H := rfl
@[simp] theorem en58_3 [MaxL] (n0 : Nat) (e : Env) (H : Heap) : enter cx 58 n0 3 e H = enterK [0, 1, 2, 8, 9] 0 n0 e H := rfl
@[simp] theorem en58_4 [MaxL] (n0 : Nat) (e : Env) (H : Heap) : enter cx 58 n0 4 e H = enterK [8] 0 n0 e H := rfl
@[simp] theorem en63_0 [MaxL] (n0 : Nat) (e : Env) (H : Heap) : enter cx 63 n0 0 e H = enterK [0, 1, 2, 3] 0 n0 e H := rfl
@[simp] theorem en63_1 [MaxL] (n0 : Nat) (e : Env) (H : Heap) : enter cx 63 n0 1 e H = enterK [0, 1, 2, 3] 0 n0 e H := rfl
@[simp] theorem en63_2 [MaxL] (n0 : Nat) (e : Env) (H : Heap) : enter cx 63 n0 2 e H = enterK [0, 1, 2, 3, 9] 0 n0 e H := rfl
@[simp] theorem en65_0 [MaxL] (n0 : Nat) (e : Env) (H : Heap) : enter cx 65 n0 0 e H = enterK [0, 1] 0 n0 e H := rfl
@[simp] theorem en65_1 [MaxL] (n0 : Nat) (e : Env) (H : Heap) : enter cx 65 n0 1 e H = enterK [0, 1, 4] 0 n0 e H := rfl
@[simp] theorem en65_2 [MaxL] (n0 : Nat) (e : Env) (H : Heap) : enter cx 65 n0 2 e H = enterK [0, 1, 4, 6] 0 n0 e H := rfl
@[simp] theorem en65_3 [MaxL] (n0 : Nat) (e : Env) (H : Heap) : enter cx 65 n0 3 e H = enterK [0, 1, 4, 6, 7, 8] 0 n0 e H := rfl
@[simp] theorem en65_4 [MaxL] (n0 : Nat) (e : Env) (H : Heap) : enter cx 65 n0 4 e H = enterK [4, 6] 0 n0 e H := rfl
@[simp] theorem en65_5 [MaxL] (n0 : Nat) (e : Env) (H : Heap) : enter cx 65 n0 5 e H = enterK [0, 1, 4, 6, 7] 0 n0 e H := rfl
@[simp] theorem en65_6 [MaxL] (n0 : Nat) (e : Env) (H : Heap) : enter cx 65 n0 6 e H = enterK [0, 1, 4, 6, 7, 25, 26, 27] 0 n0 e H := rfl
@[simp] theorem en65_7 [MaxL] (n0 : Nat) (e : Env) (H : Heap) : enter cx 65 n0 7 e H = enterK [0, 1, 4, 6, 7, 25, 26, 27] 0 n0 e H := rfl
@[simp] theorem en65_8 [MaxL] (n0 : Nat) (e : Env) (H : Heap) : enter cx 65 n0 8 e H = enterK [0, 1, 4, 6, 7, 9, 10, 25, 26, 27] 0 n0 e H := rfl
@[simp] theorem en65_9 [MaxL] (n0 : Nat) (e : Env) (H : Heap) : enter cx 65 n0 9 e H = enterK [0, 1, 4, 6, 9, 10, 11, 12, 25, 26, 27] 0 n0 e H := rfl
@[simp] theorem en65_10 [MaxL] (n0 : Nat) (e : Env) (H : Heap) : enter cx 65 n0 10 e H = enterK [0, 1, 4, 6, 9, 12, 14, 15, 25, 26, 27] 0 n0 e H := rfl
@[simp] theorem en65_11 [MaxL] (n0 : Nat) (e : Env) (H : Heap) : enter cx 65 n0 11 e H = enterK [4, 6] 0 n0 e H := rfl
@[simp] theorem en65_12 [MaxL] (n0 : Nat) (e : Env) (H : Heap) : enter cx 65 n0 12 e H = enterK [0, 1, 4, 6, 9, 12, 14, 25, 26, 27] 0 n0 e H := rfl
@[simp] theorem en65_13 [MaxL] (n0 : Nat) (e : Env) (H : Heap) : enter cx 65 n0 13 e H = enterK [0, 1, 4, 6, 7, 25, 26, 27] 0 n0 e H := rfl
@[simp] theorem en65_14 [MaxL] (n0 : Nat) (e : Env) (H : Heap) : enter cx 65 n0 14 e H = enterK [0, 1, 4, 6] 0 n0 e H := rfl
@[simp] theorem en66_0 [MaxL] (n0 : Nat) (e : Env) (H : Heap) : enter cx 66 n0 0 e H = enterK [0] 0 n0 e H := rfl
@[simp] theorem en66_1 [MaxL] (n0 : Nat) (e : Env) (H : Heap) : enter cx 66 n0 1 e H = enterK [0] 0 n0 e H := rfl
@[simp] theorem en66_2 [MaxL] (n0 : Nat) (e : Env) (H : Heap) : enter cx 66 n0 2 e H = enterK [] 0 n0 e H := rfl
@[simp] theorem en66_3 [MaxL] (n0 : Nat) (e : Env) (H : Heap) : enter cx 66 n0 3 e H = enterK [0] 0 n0 e H := rfl
@[simp] theorem en67_0 [MaxL] (n0 : Nat) (e : Env) (H : Heap) : enter cx 67 n0 0 e H = enterK [0] 0 n0 e H := rfl
@[simp] theorem en67_1 [MaxL] (n0 : Nat) (e : Env) (H : Heap) : enter cx 67 n0 1 e H = enterK [0] 0 n0 e H := rfl
@[simp] theorem en68_0 [MaxL] (n0 : Nat) (e : Env) (H : Heap) : enter cx 68 n0 0 e H = enterK [0] 0 n0 e H := rfl
@[simp] theorem en68_1 [MaxL] (n0 : Nat) (e : Env) (H : Heap) : enter cx 68 n0 1 e H = enterK [0] 0 n0 e H := rfl
@[simp] theorem en68_2 [MaxL] (n0 : Nat) (e : Env) (H : Heap) : enter cx 68 n0 2 e H = enterK [] 0 n0 e H := rfl
@[simp] theorem en68_3 [MaxL] (n0 : Nat) (e : Env) (H : Heap) : enter cx 68 n0 3 e H = enterK [0] 0 n0 e H := rfl
@[simp] theorem en68_4 [MaxL] (n0 : Nat) (e : Env) (H : Heap) : enter cx 68 n0 4 e H = enterK [0, 4] 0 n0 e H := rfl
@[simp] theorem en68_5 [MaxL] (n0 : Nat) (e : Env) (H : Heap) : enter cx 68 n0 5 e H = enterK [0, 4, 5] 0 n0 e H := rfl
@[simp] theorem en68_6 [MaxL] (n0 : Nat) (e : Env) (H : Heap) : enter cx 68 n0 6 e H = enterK [0, 4, 5] 0 n0 e H := rfl
@[simp] theorem en68_7 [MaxL] (n0 : Nat) (e : Env) (H : Heap) : enter cx 68 n0 7 e H = enterK [0, 4, 5] 0 n0 e H := rfl
@[simp] theorem en68_8 [MaxL] (n0 : Nat) (e : Env) (H : Heap) : enter cx 68 n0 8 e H = enterK [] 0 n0 e H := rfl
@[simp] theorem en68_9 [MaxL] (n0 : Nat) (e : Env) (H : Heap) : enter cx 68 n0 9 e H = enterK [0, 4, 5] 0 n0 e H := rfl
@[simp] theorem en68_10 [MaxL] (n0 : Nat) (e : Env) (H : Heap) : enter cx 68 n0 10 e H = enterK [0, 4, 5, 6] 0 n0 e H := rfl
@[simp] theorem en68_11 [MaxL] (n0 : Nat) (e : Env) (H : Heap) : enter cx 68 n0 11 e H = enterK [] 0 n0 e H := rfl
@[simp] theorem en68_12 [MaxL] (n0 : Nat) (e : Env) (H : Heap) : enter cx 68 n0 12 e H = enterK [0, 4, 5, 6] 0 n0 e H := rfl
@[simp] theorem en68_13 [MaxL] (n0 : Nat) (e : Env) (H : Heap) : enter cx 68 n0 13 e H = enterK [4] 0 n0 e H := rfl
@[simp] theorem en69_0 [MaxL] (n0 : Nat) (e : Env) (H : Heap) : enter cx 69 n0 0 e H = enterK [0, 1] 0 n0 e H := rfl
@[simp] theorem en69_1 [MaxL] (n0 : Nat) (e : Env) (H : Heap) : enter cx 69 n0 1 e H = enterK [0, 1] 0 n0 e H := rfl
@[simp] theorem en69_2 [MaxL] (n0 : Nat) (e : Env) (H : Heap) : enter cx 69 n0 2 e H = enterK [0] 0 n0 e H := rfl
@[simp] theorem en69_3 [MaxL] (n0 : Nat) (e : Env) (H : Heap) : enter cx 69 n0 3 e H = enterK [0] 0 n0 e H := rfl
@[simp] theorem en69_4 [MaxL] (n0 : Nat) (e : Env) (H : Heap) : enter cx 69 n0 4 e H = enterK [0] 0 n0 e H := rfl
@[simp] theorem en69_5 [MaxL] (n0 : Nat) (e : Env) (H : Heap) : enter cx 69 n0 5 e H = enterK [0, 5] 0 n0 e H := rfl
@[simp] theorem en69_6 [MaxL] (n0 : Nat) (e : Env) (H : Heap) : enter cx 69 n0 6 e H = enterK [0, 5, 6] 0 n0 e H := rfl
@[simp] theorem en69_7 [MaxL] (n0 : Nat) (e : Env) (H : Heap) : enter cx 69 n0 7 e H = enterK [5, 6] 0 n0 e H := rfl
@[simp] theorem en69_8 [MaxL] (n0 : Nat) (e : Env) (H : Heap) : enter cx 69 n0 8 e H = enterK [0, 1] 0 n0 e H := rfl
@[simp] theorem en69_9 [MaxL] (n0 : Nat) (e : Env) (H : Heap) : enter cx 69 n0 9 e H = enterK [8] 0 n0 e H := rfl
@[simp] theorem en71_0 [MaxL] (n0 : Nat) (e : Env) (H : Heap) : enter cx 71 n0 0 e H = enterK [0, 1] 0 n0 e H := rfl
@[simp] theorem en71_1 [MaxL] (n0 : Nat) (e : Env) (H : Heap) : enter cx 71 n0 1 e H = enterK [0, 1] 0 n0 e H := rfl
@[simp] theorem en71_2 [MaxL] (n0 : Nat) (e : Env) (H : Heap) : enter cx 71 n0 2 e H = enterK [0, 1, 7] 0 n0 e H := rfl
@[simp] theorem en71_3 [MaxL] (n0 : Nat) (e : Env) (H : Heap) : enter cx 71 n0 3 e H = enterK [0, 1, 7] 0 n0 e H := rfl
@[simp] theorem en71_4 [MaxL] (n0 : Nat) (e : Env) (H : Heap) : enter cx 71 n0 4 e H = enterK [0] 0 n0 e H := rfl
@[simp] theorem en72_0 [MaxL] (n0 : Nat) (e : Env) (H : Heap) : enter cx 72 n0 0 e H = enterK [0, 1, 2] 0 n0 e H := rfl
@[simp] theorem en72_1 [MaxL] (n0 : Nat) (e : Env) (H : Heap) : enter cx 72 n0 1 e H = enterK [0, 1, 2] 0 n0 e H := rfl
@[simp] theorem en72_2 [MaxL] (n0 : Nat) (e : Env) (H : Heap) : enter cx 72 n0 2 e H = enterK [] 0 n0 e H := rfl
@[simp] theorem en72_3 [MaxL] (n0 : Nat) (e : Env) (H : Heap) : enter cx 72 n0 3 e H = enterK [0, 1, 2] 0 n0 e H := rfl
@[simp] theorem en72_4 [MaxL] (n0 : Nat) (e : Env) (H : Heap) : enter cx 72 n0 4 e H = enterK [0, 1, 2, 8] 0 n0 e H := rfl
@[simp] theorem en72_5 [MaxL] (n0 : Nat) (e : Env) (H : Heap) : enter cx 72 n0 5 e H = enterK [] 0 n0 e H := rfl
@[simp] theorem en72_6 [MaxL] (n0 : Nat) (e : Env) (H : Heap) : enter cx 72 n0 6 e H = enterK [0, 1, 2, 8, 9] 0 n0 e H := rfl
@[simp] theorem en72_7 [MaxL] (n0 : Nat) (e : Env) (H : Heap) : enter cx 72 n0 7 e H = enterK [0, 1, 2, 8, 9] 0 n0 e H := rfl
@[simp] theorem en72_8 [MaxL] (n0 : Nat) (e : Env) (H : Heap) : enter cx 72 n0 8 e H = enterK [0, 2, 8, 9] 0 n0 e H := rfl
@[simp] theorem en72_9 [MaxL] (n0 : Nat) (e : Env) (H : Heap) : enter cx 72 n0 9 e H = enterK [0, 1, 2, 8, 9] 0 n0 e H := rfl
@[simp] theorem en72_10 [MaxL] (n0 : Nat) (e : Env) (H : Heap) : enter cx 72 n0 10 e H = enterK [0, 2, 8, 9] 0 n0 e H := rfl
@[simp] theorem en72_11 [MaxL] (n0 : Nat) (e : Env) (H : Heap) : enter cx 72 n0 11 e H = enterK [0, 1, 2, 8, 9] 0 n0 e H := rfl
@[simp] theorem en72_12 [MaxL] (n0 : Nat) (e : Env) (H : Heap) : enter cx 72 n0 12 e H = enterK [0, 2, 8, 9] 0 n0 e H := rfl
@[simp] theorem en72_13 [MaxL] (n0 : Nat) (e : Env) (H : Heap) : enter cx 72 n0 13 e H = enterK [0, 2, 8, 9] 0 n0 e H := rfl
@[simp] theorem en72_14 [MaxL] (n0 : Nat) (e : Env) (H : Heap) : enter cx 72 n0 14 e H = enterK [0, 1, 2, 8, 9] 0 n0 e H := rfl
@[simp] theorem en72_15 [MaxL] (n0 : Nat) (e : Env) (H : Heap) : enter cx 72 n0 15 e H = enterK [0, 2, 8, 9] 0 n0 e H := rfl
@[simp] theorem en72_16 [MaxL] (n0 : Nat) (e : Env) (H : Heap) : enter cx 72 n0 16 e H = enterK [0, 2, 8, 9] 0 n0 e H := rfl
@[simp] theorem en72_17 [MaxL] (n0 : Nat) (e : Env) (H : Heap) : enter cx 72 n0 17 e H = enterK [0, 1, 2, 8, 9] 0 n0 e H := rfl
@[simp] theorem en72_18 [MaxL] (n0 : Nat) (e : Env) (H : Heap) : enter cx 72 n0 18 e H = enterK [0, 2, 8, 9] 0 n0 e H := rfl
@[simp] theorem en72_19 [MaxL] (n0 : Nat) (e : Env) (H : Heap) : enter cx 72 n0 19 e H = enterK [0, 2, 8, 9] 0 n0 e H := rfl
@[simp] theorem en72_20 [MaxL] (n0 : Nat) (e : Env) (H : Heap) : enter cx 72 n0 20 e H = enterK [0, 1, 2, 8, 9] 0 n0 e H := rfl
@[simp] theorem en72_21 [MaxL] (n0 : Nat) (e : Env) (H : Heap) : enter cx 72 n0 21 e H = enterK [0, 1, 2, 8, 9] 0 n0 e H := rfl
@[simp] theorem en72_22 [MaxL] (n0 : Nat) (e : Env) (H : Heap) : enter cx 72 n0 22 e H = enterK [0, 1, 8, 9] 0 n0 e H := rfl
@[simp] theorem en72_23 [MaxL] (n0 : Nat) (e : Env) (H : Heap) : enter cx 72 n0 23 e H = enterK [0, 1, 2, 8, 9] 0 n0 e H := rfl
@[simp] theorem en72_24 [MaxL] (n0 : Nat) (e : Env) (H : Heap) : enter cx 72 n0 24 e H = enterK [] 0 n0 e H := rfl
@[simp] theorem en72_25 [MaxL] (n0 : Nat) (e : Env) (H : Heap) : enter cx 72 n0 25 e H = enterK [0, 1, 2, 8, 9] 0 n0 e H := rfl
@[simp] theorem en72_26 [MaxL] (n0 : Nat) (e : Env) (H : Heap) : enter cx 72 n0 26 e H = enterK [0, 1, 2, 8, 9] 0 n0 e H := rfl
@[simp] theorem en72_27 [MaxL] (n0 : Nat) (e : Env) (H : Heap) : enter cx 72 n0 27 e H = enterK [0, 1, 2, 8, 9] 0 n0 e H := rfl
@[simp] theorem en72_28 [MaxL] (n0 : Nat) (e : Env) (H : Heap) : enter cx 72 n0 28 e H = enterK [0, 1, 2, 8, 9, 85] 0 n0 e H := rfl
@[simp] theorem en72_29 [MaxL] (n0 : Nat) (e : Env) (H : Heap) : enter cx 72 n0 29 e H = enterK [0, 1, 2, 8, 9] 0 n0 e H := rfl
@[simp] theorem en72_30 [MaxL] (n0 : Nat) (e : Env) (H : Heap) : enter cx 72 n0 30 e H = enterK [0, 1, 2, 8, 9, 85] 0 n0 e H := rfl
@[simp] theorem en72_31 [MaxL] (n0 : Nat) (e : Env) (H : Heap) : enter cx 72 n0 31 e H = enterK [0, 1, 2, 8, 9] 0 n0 e H := rfl
@[simp] theorem en72_32 [MaxL] (n0 : Nat) (e : Env) (H : Heap) : enter cx 72 n0 32 e H = enterK [0, 1, 2, 8, 9, 10] 0 n0 e H := rfl
@[simp] theorem en72_33 [MaxL] (n0 : Nat) (e : Env) (H : Heap) : enter cx 72 n0 33 e H = enterK [0, 1, 8, 9, 10, 11] 0 n0 e H := rfl
@[simp] theorem en72_34 [MaxL] (n0 : Nat) (e : Env) (H : Heap) : enter cx 72 n0 34 e H = enterK [0, 1, 8, 9, 10, 11, 12] 0 n0 e H := rfl
@[simp] theorem en72_35 [MaxL] (n0 : Nat) (e : Env) (H : Heap) : enter cx 72 n0 35 e H = enterK [0, 1, 8, 9, 10, 11, 12, 13] 0 n0 e H := rfl
@[simp] theorem en72_36 [MaxL] (n0 : Nat) (e : Env) (H : Heap) : enter cx 72 n0 36 e H = enterK [1, 8, 9, 10, 11, 12, 13, 99, 100, 101] 0 n0 e H := rfl
@[simp] theorem en72_37 [MaxL] (n0 : Nat) (e : Env) (H : Heap) : enter cx 72 n0 37 e H = enterK [1, 8, 9, 10, 11, 12, 13, 99, 100, 101] 0 n0 e H := rfl
@[simp] theorem en72_38 [MaxL] (n0 : Nat) (e : Env) (H : Heap) : enter cx 72 n0 38 e H = enterK [1, 8, 9, 10, 11, 12, 13, 15, 99, 100, 101] 0 n0 e H := rfl
@[simp] theorem en72_39 [MaxL] (n0 : Nat) (e : Env) (H : Heap) : enter cx 72 n0 39 e H = enterK [] 0 n0 e H := rfl
@[simp] theorem en72_40 [MaxL] (n0 : Nat) (e : Env) (H : Heap) : enter cx 72 n0 40 e H = enterK [1, 8, 9, 10, 11, 12, 13, 15, 99, 100, 101] 0 n0 e H := rfl
@[simp] theorem en72_41 [MaxL] (n0 : Nat) (e : Env) (H : Heap) : enter cx 72 n0 41 e H = enterK [1, 8, 9, 10, 11, 13, 99, 100, 101] 0 n0 e H := rfl
@[simp] theorem en72_42 [MaxL] (n0 : Nat) (e : Env) (H : Heap) : enter cx 72 n0 42 e H = enterK [1, 8, 9, 10, 11, 12, 13, 15, 99, 100, 101] 0 n0 e H := rfl
@[simp] theorem en72_43 [MaxL] (n0 : Nat) (e : Env) (H : Heap) : enter cx 72 n0 43 e H = enterK [1, 8, 9, 10, 11, 12, 13, 15, 99, 100, 101] 0 n0 e H := rfl
@[simp] theorem en72_44 [MaxL] (n0 : Nat) (e : Env) (H : Heap) : enter cx 72 n0 44 e H = enterK [1, 8, 9, 10, 11, 12, 13, 15, 99, 100, 101] 0 n0 e H := rfl
@[simp] theorem en72_45 [MaxL] (n0 : Nat) (e : Env) (H : Heap) : enter cx 72 n0 45 e H = enterK [1, 8, 9, 10, 11, 12, 13, 15, 99, 100, 101] 0 n0 e H := rfl
@[simp] theorem en72_46 [MaxL] (n0 : Nat) (e : Env) (H : Heap) : enter cx 72 n0 46 e H = enterK [1, 8, 9, 10, 11, 12, 13, 16, 99, 100, 101] 0 n0 e H := rfl
@[simp] theorem en72_47 [MaxL] (n0 : Nat) (e : Env) (H : Heap) : enter cx 72 n0 47 e H = enterK [] 0 n0 e H := rfl
@[simp] theorem en72_48 [MaxL] (n0 : Nat) (e : Env) (H : Heap) : enter cx 72 n0 48 e H = enterK [1, 8, 9, 10, 11, 12, 13, 16, 99, 100, 101] 0 n0 e H := rfl
@[simp] theorem en72_49 [MaxL] (n0 : Nat) (e : Env) (H : Heap) : enter cx 72 n0 49 e H = enterK [11] 0 n0 e H := rfl
@[simp] theorem en72_50 [MaxL] (n0 : Nat) (e : Env) (H : Heap) : enter cx 72 n0 50 e H = enterK [1, 8, 9, 10, 11, 12, 13, 16, 99, 100, 101] 0 n0 e H := rfl
@[simp] theorem en72_51 [MaxL] (n0 : Nat) (e : Env) (H : Heap) : enter cx 72 n0 51 e H = enterK [1, 8, 9, 10, 11, 12, 13, 16, 99, 100, 101] 0 n0 e H := rfl
@[simp] theorem en72_52 [MaxL] (n0 : Nat) (e : Env) (H : Heap) : enter cx 72 n0 52 e H = enterK [1, 8, 9, 10, 11, 12, 13, 17, 99, 100, 101] 0 n0 e H := rfl
@[simp] theorem en72_53 [MaxL] (n0 : Nat) (e : Env) (H : Heap) : enter cx 72 n0 53 e H = enterK [11] 0 n0 e H := rfl
@[simp] theorem en72_54 [MaxL] (n0 : Nat) (e : Env) (H : Heap) : enter cx 72 n0 54 e H = enterK [1, 8, 9, 10, 11, 12, 17, 99, 100, 101] 0 n0 e H := rfl
@[simp] theorem en72_55 [MaxL] (n0 : Nat) (e : Env) (H : Heap) : enter cx 72 n0 55 e H = enterK [1, 8, 9, 10, 11, 12, 13, 99, 100, 101] 0 n0 e H := rfl
@[simp] theorem en72_56 [MaxL] (n0 : Nat) (e : Env) (H : Heap) : enter cx 72 n0 56 e H = enterK [9, 12, 13] 0 n0 e H := rfl
@[simp] theorem en72_57 [MaxL] (n0 : Nat) (e : Env) (H : Heap) : enter cx 72 n0 57 e H = enterK [] 0 n0 e H := rfl
@[simp] theorem en72_58 [MaxL] (n0 : Nat) (e : Env) (H : Heap) : enter cx 72 n0 58 e H = enterK [13] 0 n0 e H := rfl
@[simp] theorem en73_0 [MaxL] (n0 : Nat) (e : Env) (H : Heap) : enter cx 73 n0 0 e H = enterK [0, 1, 2, 3, 4] 0 n0 e H := rfl
@[simp] theorem en73_1 [MaxL] (n0 : Nat) (e : Env) (H : Heap) : enter cx 73 n0 1 e H = enterK [0, 1, 2, 3, 4] 0 n0 e H := rfl
@[simp] theorem en73_2 [MaxL] (n0 : Nat) (e : Env) (H : Heap) : enter cx 73 n0 2 e H = enterK [0, 1, 2, 3, 4, 11] 0 n0 e H := rfl
@[simp] theorem en73_3 [MaxL] (n0 : Nat) (e : Env) (H : Heap) : enter cx 73 n0 3 e H = enterK [0, 1] 0 n0 e H := rfl
@[simp] theorem en73_4 [MaxL] (n0 : Nat) (e : Env) (H : Heap) : enter cx 73 n0 4 e H = enterK [0, 1, 2, 3, 4, 11] 0 n0 e H := rfl
@[simp] theorem en73_5 [MaxL] (n0 : Nat) (e : Env) (H : Heap) : enter cx 73 n0 5 e H = enterK [0, 1] 0 n0 e H := rfl
@[simp] theorem en73_6 [MaxL] (n0 : Nat) (e : Env) (H : Heap) : enter cx 73 n0 6 e H = enterK [0, 1, 2, 3, 4, 11] 0 n0 e H := rfl
@[simp] theorem en73_7 [MaxL] (n0 : Nat) (e : Env) (H : Heap) : enter cx 73 n0 7 e H = enterK [0, 1, 2] 0 n0 e H := rfl
@[simp] theorem en73_8 [MaxL] (n0 : Nat) (e : Env) (H : Heap) : enter cx 73 n0 8 e H = enterK [0, 1, 3, 4, 11] 0 n0 e H := rfl
@[simp] theorem en73_9 [MaxL] (n0 : Nat) (e : Env) (H : Heap) : enter cx 73 n0 9 e H = enterK [0, 1, 3] 0 n0 e H := rfl
@[simp] theorem en73_10 [MaxL] (n0 : Nat) (e : Env) (H : Heap) : enter cx 73 n0 10 e H = enterK [4] 0 n0 e H := rfl
@[simp] theorem en81_0 [MaxL] (n0 : Nat) (e : Env) (H : Heap) : enter cx 81 n0 0 e H = enterK [0] 0 n0 e H := rfl
@[simp] theorem en81_1 [MaxL] (n0 : Nat) (e : Env) (H : Heap) : enter cx 81 n0 1 e H = enterK [0] 0 n0 e H := rfl
@[simp] theorem en87_0 [MaxL] (n0 : Nat) (e : Env) (H : Heap) : enter cx 87 n0 0 e H = enterK [0, 1] 0 n0 e H := rfl
@[simp] theorem en87_1 [MaxL] (n0 : Nat) (e : Env) (H : Heap) : enter cx 87 n0 1 e H = enterK [0, 1] 0 n0 e H := rfl
@[simp] theorem en88_0 [MaxL] (n0 : Nat) (e : Env) (H : Heap) : enter cx 88 n0 0 e H = enterK [0, 1] 0 n0 e H := rfl
@[simp] theorem en88_1 [MaxL] (n0 : Nat) (e : Env) (H : Heap) : enter cx 88 n0 1 e H = enterK [0, 1] 0 n0 e H := rfl
@[simp] theorem en90_0 [MaxL] (n0 : Nat) (e : Env) (H : Heap) : enter cx 90 n0 0 e H = enterK [0] 0 n0 e H := rfl
@[simp] theorem en90_1 [MaxL] (n0 : Nat) (e : Env) (H : Heap) : enter cx 90 n0 1 e H = enterK [0] 0 n0 e H := rfl
@[simp] theorem en90_2 [MaxL] (n0 : Nat) (e : Env) (H : Heap) : enter cx 90 n0 2 e H = enterK [0, 3] 0 n0 e H := rfl
@[simp] theorem en91_0 [MaxL] (n0 : Nat) (e : Env) (H : Heap) : enter cx 91 n0 0 e H = enterK [0, 1] 0 n0 e H := rfl
@[simp] theorem en91_1 [MaxL] (n0 : Nat) (e : Env) (H : Heap) : enter cx 91 n0 1 e H = enterK [0, 1, 4] 0 n0 e H := rfl
@[simp] theorem en91_2 [MaxL] (n0 : Nat) (e : Env) (H : Heap) : enter cx 91 n0 2 e H = enterK [0, 1, 4] 0 n0 e H := rfl
@[simp] theorem en91_3 [MaxL] (n0 : Nat) (e : Env) (H : Heap) : enter cx 91 n0 3 e H = enterK [0, 1, 4, 5] 0 n0 e H := rfl
@[simp] theorem en91_4 [MaxL] (n0 : Nat) (e : Env) (H : Heap) : enter cx 91 n0 4 e H = enterK [0, 1, 4, 5] 0 n0 e H := rfl
@[simp] theorem en91_5 [MaxL] (n0 : Nat) (e : Env) (H : Heap) : enter cx 91 n0 5 e H = enterK [0, 1, 4, 6, 7] 0 n0 e H := rfl
@[simp] theorem en91_6 [MaxL] (n0 : Nat) (e : Env) (H : Heap) : enter cx 91 n0 6 e H = enterK [0, 1, 4, 6, 8, 9] 0 n0 e H := rfl
@[simp] theorem en91_7 [MaxL] (n0 : Nat) (e : Env) (H : Heap) : enter cx 91 n0 7 e H = enterK [0, 1, 4, 8, 9, 10, 11] 0 n0 e H := rfl
@[simp] theorem en91_8 [MaxL] (n0 : Nat) (e : Env) (H : Heap) : enter cx 91 n0 8 e H = enterK [0, 1, 4, 8, 10, 11] 0 n0 e H := rfl
@[simp] theorem en91_9 [MaxL] (n0 : Nat) (e : Env) (H : Heap) : enter cx 91 n0 9 e H = enterK [0, 1, 4, 10, 11] 0 n0 e H := rfl
@[simp] theorem en91_10 [MaxL] (n0 : Nat) (e : Env) (H : Heap) : enter cx 91 n0 10 e H = enterK [0, 1, 4, 10] 0 n0 e H := rfl
@[simp] theorem en91_11 [MaxL] (n0 : Nat) (e : Env) (H : Heap) : enter cx 91 n0 11 e H = enterK [0, 1, 4] 0 n0 e H := rfl
@[simp] theorem en91_12 [MaxL] (n0 : Nat) (e : Env) (H : Heap) : enter cx 91 n0 12 e H = enterK [0, 1, 4] 0 n0 e H := rfl
@[simp] theorem en91_13 [MaxL] (n0 : Nat) (e : Env) (H : Heap) : enter cx 91 n0 13 e H = enterK [0, 4, 12] 0 n0 e H := rfl
@[simp] theorem en91_14 [MaxL] (n0 : Nat) (e : Env) (H : Heap) : enter cx 91 n0 14 e H = enterK [0, 4, 12] 0 n0 e H := rfl
@[simp] theorem en91_15 [MaxL] (n0 : Nat) (e : Env) (H : Heap) : enter cx 91 n0 15 e H = enterK [0, 4, 12, 13] 0 n0 e H := rfl
@[simp] theorem en91_16 [MaxL] (n0 : Nat) (e : Env) (H : Heap) : enter cx 91 n0 16 e H = enterK [0, 4, 12, 13] 0 n0 e H := rfl
@[simp] theorem en91_17 [MaxL] (n0 : Nat) (e : Env) (H : Heap) : enter cx 91 n0 17 e H = enterK [0, 4, 12, 14, 15] 0 n0 e H := rfl
@[simp] theorem en91_18 [MaxL] (n0 : Nat) (e : Env) (H : Heap) : enter cx 91 n0 18 e H = enterK [0, 4, 12, 14] 0 n0 e H := rfl
@[simp] theorem en91_19 [MaxL] (n0 : Nat) (e : Env) (H : Heap) : enter cx 91 n0 19 e H = enterK [0, 4, 12] 0 n0 e H := rfl
@[simp] theorem en91_20 [MaxL] (n0 : Nat) (e : Env) (H : Heap) : enter cx 91 n0 20 e H = enterK [0, 4, 12] 0 n0 e H := rfl
@[simp] theorem en91_21 [MaxL] (n0 : Nat) (e : Env) (H : Heap) : enter cx 91 n0 21 e H = enterK [0, 4, 12] 0 n0 e H := rfl
@[simp] theorem en91_22 [MaxL] (n0 : Nat) (e : Env) (H : Heap) : enter cx 91 n0 22 e H = enterK [0, 4, 12, 16] 0 n0 e H := rfl
@[simp] theorem en91_23 [MaxL] (n0 : Nat) (e : Env) (H : Heap) : enter cx 91 n0 23 e H = enterK [0, 4, 12, 16] 0 n0 e H := rfl
@[simp] theorem en91_24 [MaxL] (n0 : Nat) (e : Env) (H : Heap) : enter cx 91 n0 24 e H = enterK [0, 4, 12] 0 n0 e H := rfl
@[simp] theorem en91_25 [MaxL] (n0 : Nat) (e : Env) (H : Heap) : enter cx 91 n0 25 e H = enterK [0, 4, 12] 0 n0 e H := rfl
@[simp] theorem en91_26 [MaxL] (n0 : Nat) (e : Env) (H : Heap) : enter cx 91 n0 26 e H = enterK [0, 12] 0 n0 e H := rfl
@[simp] theorem en92_0 [MaxL] (n0 : Nat) (e : Env) (H : Heap) : enter cx 92 n0 0 e H = enterK [0, 1, 2, 3, 4] 0 n0 e H := rfl
@[simp] theorem en92_1 [MaxL] (n0 : Nat) (e : Env) (H : Heap) : enter cx 92 n0 1 e H = enterK [0, 1, 2, 3, 4, 10, 11] 0 n0 e H := rfl
@[simp] theorem en92_2 [MaxL] (n0 : Nat) (e : Env) (H : Heap) : enter cx 92 n0 2 e H = enterK [0, 1, 2, 3, 4, 10, 11] 0 n0 e H := rfl
@[simp] theorem en92_3 [MaxL] (n0 : Nat) (e : Env) (H : Heap) : enter cx 92 n0 3 e H = enterK [0, 1, 2, 3, 4, 10, 11] 0 n0 e H := rfl
@[simp] theorem en92_4 [MaxL] (n0 : Nat) (e : Env) (H : Heap) : enter cx 92 n0 4 e H = enterK [0, 1, 2, 3, 4, 10, 11, 12] 0 n0 e H := rfl
@[simp] theorem en92_5 [MaxL] (n0 : Nat) (e : Env) (H : Heap) : enter cx 92 n0 5 e H = enterK [0, 1, 2, 3, 4, 10, 11, 12, 13] 0 n0 e H := rfl
@[simp] theorem en92_6 [MaxL] (n0 : Nat) (e : Env) (H : Heap) : enter cx 92 n0 6 e H = enterK [0, 1, 2, 3, 4, 10, 11, 12, 13] 0 n0 e H := rfl
@[simp] theorem en92_7 [MaxL] (n0 : Nat) (e : Env) (H : Heap) : enter cx 92 n0 7 e H = enterK [0, 1, 2, 3, 4, 10, 11, 12, 13] 0 n0 e H := rfl
@[simp] theorem en92_8 [MaxL] (n0 : Nat) (e : Env) (H : Heap) : enter cx 92 n0 8 e H = enterK [0, 1, 2, 3, 4, 10, 11, 12, 13] 0 n0 e H := rfl
@[simp] theorem en92_9 [MaxL] (n0 : Nat) (e : Env) (H : Heap) : enter cx 92 n0 9 e H = enterK [0, 1, 2, 3, 4, 10, 11, 12, 13, 14] 0 n0 e H := rfl
@[simp] theorem en92_10 [MaxL] (n0 : Nat) (e : Env) (H : Heap) : enter cx 92 n0 10 e H = enterK [0, 1, 2, 3, 4, 10, 11, 12, 13, 14, 15] 0 n0 e H := rfl
@[simp] theorem en92_11 [MaxL] (n0 : Nat) (e : Env) (H : Heap) : enter cx 92 n0 11 e H = enterK [0, 1, 3, 4, 10, 11, 12, 13, 14, 15, 16] 0 n0 e H := rfl
@[simp] theorem en92_12 [MaxL] (n0 : Nat) (e : Env) (H : Heap) : enter cx 92 n0 12 e H = enterK [0, 1, 3, 4, 10, 11, 12, 13, 14, 15, 16] 0 n0 e H := rfl
@[simp] theorem en92_13 [MaxL] (n0 : Nat) (e : Env) (H : Heap) : enter cx 92 n0 13 e H = enterK [0, 1, 3, 4, 10, 11, 12, 13, 14, 15, 16] 0 n0 e H := rfl
@[simp] theorem en92_14 [MaxL] (n0 : Nat) (e : Env) (H : Heap) : enter cx 92 n0 14 e H = enterK [0, 1, 3, 4, 10, 11, 12, 13, 14, 15, 16] 0 n0 e H := rfl
@[simp] theorem en92_15 [MaxL] (n0 : Nat) (e : Env) (H : Heap) : enter cx 92 n0 15 e H = enterK [0, 1, 3, 4, 10, 11, 12, 13] 0 n0 e H := rfl
@[simp] theorem en92_16 [MaxL] (n0 : Nat) (e : Env) (H : Heap) : enter cx 92 n0 16 e H = enterK [0, 1, 3, 4, 10, 11, 12, 13] 0 n0 e H := rfl
@[simp] theorem en92_17 [MaxL] (n0 : Nat) (e : Env) (H : Heap) : enter cx 92 n0 17 e H = enterK [0, 1, 2, 3, 4, 10, 11, 12, 13] 0 n0 e H := rfl
@[simp] theorem en92_18 [MaxL] (n0 : Nat) (e : Env) (H : Heap) : enter cx 92 n0 18 e H = enterK [0, 1, 3, 4, 10, 11, 12, 13, 17] 0 n0 e H := rfl
@[simp] theorem en92_19 [MaxL] (n0 : Nat) (e : Env) (H : Heap) : enter cx 92 n0 19 e H = enterK [0, 1, 3, 4, 10, 11, 12, 13, 17] 0 n0 e H := rfl
@[simp] theorem en92_20 [MaxL] (n0 : Nat) (e : Env) (H : Heap) : enter cx 92 n0 20 e H = enterK [0, 1, 3, 4, 10, 11, 12, 13, 17] 0 n0 e H := rfl
@[simp] theorem en92_21 [MaxL] (n0 : Nat) (e : Env) (H : Heap) : enter cx 92 n0 21 e H = enterK [0, 1, 3, 4, 10, 11, 12, 13, 17, 18] 0 n0 e H := rfl
@[simp] theorem en92_22 [MaxL] (n0 : Nat) (e : Env) (H : Heap) : enter cx 92 n0 22 e H = enterK [0, 3, 4, 10, 11, 12, 13, 17, 18] 0 n0 e H := rfl
@[simp] theorem en92_23 [MaxL] (n0 : Nat) (e : Env) (H : Heap) : enter cx 92 n0 23 e H = enterK [0, 1, 3, 4, 10, 11, 12, 13] 0 n0 e H := rfl
@[simp] theorem en92_24 [MaxL] (n0 : Nat) (e : Env) (H : Heap) : enter cx 92 n0 24 e H = enterK [0, 1, 3, 4, 10, 11, 12, 13] 0 n0 e H := rfl
@[simp] theorem en92_25 [MaxL] (n0 : Nat) (e : Env) (H : Heap) : enter cx 92 n0 25 e H = enterK [0, 3, 4, 10, 11, 12, 13] 0 n0 e H := rfl
@[simp] theorem en92_26 [MaxL] (n0 : Nat) (e : Env) (H : Heap) : enter cx 92 n0 26 e H = enterK [0, 4, 10, 11, 12, 13] 0 n0 e H := rfl
@[simp] theorem en92_27 [MaxL] (n0 : Nat) (e : Env) (H : Heap) : enter cx 92 n0 27 e H = enterK [0, 4, 10, 11, 12, 13] 0 n0 e H := rfl
@[simp] theorem en92_28 [MaxL] (n0 : Nat) (e : Env) (H : Heap) : enter cx 92 n0 28 e H = enterK [0, 4, 10, 11, 12, 13] 0 n0 e H := rfl
@[simp] theorem en92_29 [MaxL] (n0 : Nat) (e : Env) (H : Heap) : enter cx 92 n0 29 e H = enterK [0, 11, 12, 13] 0 n0 e H := rfl
@[simp] theorem en92_30 [MaxL] (n0 : Nat) (e : Env) (H : Heap) : enter cx 92 n0 30 e H = enterK [10, 12, 13] 0 n0 e H := rfl
@[simp] theorem en97_0 [MaxL] (n0 : Nat) (e : Env) (H : Heap) : enter cx 97 n0 0 e H = enterK [0] 0 n0 e H := rfl
@[simp] theorem en97_1 [MaxL] (n0 : Nat) (e : Env) (H : Heap) : enter cx 97 n0 1 e H = enterK [0] 0 n0 e H := rfl
@[simp] theorem en98_0 [MaxL] (n0 : Nat) (e : Env) (H : Heap) : enter cx 98 n0 0 e H = enterK [0] 0 n0 e H := rfl
@[simp] theorem en98_1 [MaxL] (n0 : Nat) (e : Env) (H : Heap) : enter cx 98 n0 1 e H = enterK [0] 0 n0 e H := rfl
@[simp] theorem en98_2 [MaxL] (n0 : Nat) (e : Env) (H : Heap) : enter cx 98 n0 2 e H = enterK [0, 3] 0 n0 e H := rfl
@[simp] theorem en98_3 [MaxL] (n0 : Nat) (e : Env) (H : Heap) : enter cx 98 n0 3 e H = enterK [0, 3, 4] 0 n0 e H := rfl
@[simp] theorem en98_4 [MaxL] (n0 : Nat) (e : Env) (H : Heap) : enter cx 98 n0 4 e H = enterK [0, 3, 4] 0 n0 e H := rfl
@[simp] theorem en98_5 [MaxL] (n0 : Nat) (e : Env) (H : Heap) : enter cx 98 n0 5 e H = enterK [0, 3, 4] 0 n0 e H := rfl
@[simp] theorem en98_6 [MaxL] (n0 : Nat) (e : Env) (H : Heap) : enter cx 98 n0 6 e H = enterK [0, 3, 4, 5] 0 n0 e H := rfl
@[simp] theorem en98_7 [MaxL] (n0 : Nat) (e : Env) (H : Heap) : enter cx 98 n0 7 e H = enterK [0] 0 n0 e H := rfl
@[simp] theorem en98_8 [MaxL] (n0 : Nat) (e : Env) (H : Heap) : enter cx 98 n0 8 e H = enterK [0, 4] 0 n0 e H := rfl
@[simp] theorem en98_9 [MaxL] (n0 : Nat) (e : Env) (H : Heap) : enter cx 98 n0 9 e H = enterK [0, 3, 4] 0 n0 e H := rfl
@[simp] theorem en98_10 [MaxL] (n0 : Nat) (e : Env) (H : Heap) : enter cx 98 n0 10 e H = enterK [0, 3, 4, 5] 0 n0 e H := rfl
@[simp] theorem en98_11 [MaxL] (n0 : Nat) (e : Env) (H : Heap) : enter cx 98 n0 11 e H = enterK [0, 3, 4, 5] 0 n0 e H := rfl
@[simp] theorem en98_12 [MaxL] (n0 : Nat) (e : Env) (H : Heap) : enter cx 98 n0 12 e H = enterK [0, 3, 4, 5] 0 n0 e H := rfl
@[simp] theorem en98_13 [MaxL] (n0 : Nat) (e : Env) (H : Heap) : enter cx 98 n0 13 e H = enterK [0, 4, 5] 0 n0 e H := rfl
@[simp] theorem en98_14 [MaxL] (n0 : Nat) (e : Env) (H : Heap) : enter cx 98 n0 14 e H = enterK [0, 3, 4, 5] 0 n0 e H := rfl
@[simp] theorem en98_15 [MaxL] (n0 : Nat) (e : Env) (H : Heap) : enter cx 98 n0 15 e H = enterK [0, 3, 4, 5] 0 n0 e H := rfl
@[simp] theorem en98_16 [MaxL] (n0 : Nat) (e : Env) (H : Heap) : enter cx 98 n0 16 e H = enterK [] 0 n0 e H := rfl
@[simp] theorem en98_17 [MaxL] (n0 : Nat) (e : Env) (H : Heap) : enter cx 98 n0 17 e H = enterK [0, 4, 5] 0 n0 e H := rfl
@[simp] theorem en98_18 [MaxL] (n0 : Nat) (e : Env) (H : Heap) : enter cx 98 n0 18 e H = enterK [0, 3, 4, 5] 0 n0 e H := rfl
@[simp] theorem en98_19 [MaxL] (n0 : Nat) (e : Env) (H : Heap) : enter cx 98 n0 19 e H = enterK [] 0 n0 e H := rfl
@[simp] theorem en98_20 [MaxL] (n0 : Nat) (e : Env) (H : Heap) : enter cx 98 n0 20 e H = enterK [0, 4, 5] 0 n0 e H := rfl
@[simp] theorem en98_21 [MaxL] (n0 : Nat) (e : Env) (H : Heap) : enter cx 98 n0 21 e H = enterK [3] 0 n0 e H := rfl
@[simp] theorem en99_0 [MaxL] (n0 : Nat) (e : Env) (H : Heap) : enter cx 99 n0 0 e H = enterK [0, 1] 0 n0 e H := rfl
@[simp] theorem en99_1 [MaxL] (n0 : Nat) (e : Env) (H : Heap) : enter cx 99 n0 1 e H = enterK [0, 1] 0 n0 e H := rfl
@[simp] theorem en100_0 [MaxL] (n0 : Nat) (e : Env) (H : Heap) : enter cx 100 n0 0 e H = enterK [0, 1] 0 n0 e H := rfl
@[simp] theorem en100_1 [MaxL] (n0 : Nat) (e : Env) (H : Heap) : enter cx 100 n0 1 e H = enterK [0, 1] 0 n0 e H := rfl
@[simp] theorem en101_0 [MaxL] (n0 : Nat) (e : Env) (H : Heap) : enter cx 101 n0 0 e H = enterK [0, 1, 2] 0 n0 e H := rfl
@[simp] theorem en101_1 [MaxL] (n0 : Nat) (e : Env) (H : Heap) : enter cx 101 n0 1 e H = enterK [0, 1, 2] 0 n0 e H := rfl
@[simp] theorem en102_0 [MaxL] (n0 : Nat) (e : Env) (H : Heap) : enter cx 102 n0 0 e H = enterK [0, 1, 2] 0 n0 e H := rfl
@[simp] theorem en102_1 [MaxL] (n0 : Nat) (e : Env) (H : Heap) : enter cx 102 n0 1 e H = enterK [0, 1, 2] 0 n0 e H := rfl
@[simp] theorem en106_0 [MaxL] (n0 : Nat) (e : Env) (H : Heap) : enter cx 106 n0 0 e H = enterK [0, 1] 0 n0 e H := rfl
@[simp] theorem en106_1 [MaxL] (n0 : Nat) (e : Env) (H : Heap) : enter cx 106 n0 1 e H = enterK [0, 1] 0 n0 e H := rfl
@[simp] theorem en111_0 [MaxL] (n0 : Nat) (e : Env) (H : Heap) : enter cx 111 n0 0 e H = enterK [0, 1] 0 n0 e H := rfl
@[simp] theorem en111_1 [MaxL] (n0 : Nat) (e : Env) (H : Heap) : enter cx 111 n0 1 e H = enterK [0, 1] 0 n0 e H := rfl
@[simp] theorem en111_2 [MaxL] (n0 : Nat) (e : Env) (H : Heap) : enter cx 111 n0 2 e H = enterK [0] 0 n0 e H := rfl
@[simp] theorem en111_3 [MaxL] (n0 : Nat) (e : Env) (H : Heap) : enter cx 111 n0 3 e H = enterK [0, 1] 0 n0 e H := rfl
@[simp] theorem en112_0 [MaxL] (n0 : Nat) (e : Env) (H : Heap) : enter cx 112 n0 0 e H = enterK [0, 1] 0 n0 e H := rfl
@[simp] theorem en112_1 [MaxL] (n0 : Nat) (e : Env) (H : Heap) : enter cx 112 n0 1 e H = enterK [0, 1] 0 n0 e H := rfl
@[simp] theorem en112_2 [MaxL] (n0 : Nat) (e : Env) (H : Heap) : enter cx 112 n0 2 e H = enterK [0, 1] 0 n0 e H := rfl
@[simp] theorem en112_3 [MaxL] (n0 : Nat) (e : Env) (H : Heap) : enter cx 112 n0 3 e H = enterK [0] 0 n0 e H := rfl
@[simp] theorem en113_0 [MaxL] (n0 : Nat) (e : Env) (H : Heap) : enter cx 113 n0 0 e H = enterK [0] 0 n0 e H := rfl
@[simp] theorem en113_1 [MaxL] (n0 : Nat) (e : Env) (H : Heap) : enter cx 113 n0 1 e H = enterK [0] 0 n0 e H := rfl
@[simp] theorem en115_0 [MaxL] (n0 : Nat) (e : Env) (H : Heap) : enter cx 115 n0 0 e H = enterK [0] 0 n0 e H := rfl
@[simp] theorem en115_1 [MaxL] (n0 : Nat) (e : Env) (H : Heap) : enter cx 115 n0 1 e H = enterK [0] 0 n0 e H := rfl
@[simp] theorem en115_2 [MaxL] (n0 : Nat) (e : Env) (H : Heap) : enter cx 115 n0 2 e H = enterK [] 0 n0 e H := rfl
@[simp] theorem en115_3 [MaxL] (n0 : Nat) (e : Env) (H : Heap) : enter cx 115 n0 3 e H = enterK [] 0 n0 e H := rfl
@[simp] theorem en116_0 [MaxL] (n0 : Nat) (e : Env) (H : Heap) : enter cx 116 n0 0 e H = enterK [0] 0 n0 e H := rfl
@[simp] theorem en116_1 [MaxL] (n0 : Nat) (e : Env) (H : Heap) : enter cx 116 n0 1 e H = enterK [0] 0 n0 e H := rfl
@[simp] theorem en117_0 [MaxL] (n0 : Nat) (e : Env) (H : Heap) : enter cx 117 n0 0 e H = enterK [0] 0 n0 e H := rfl
@[simp] theorem en117_1 [MaxL] (n0 : Nat) (e : Env) (H : Heap) : enter cx 117 n0 1 e H = enterK [0] 0 n0 e H := rfl
@[simp] theorem en117_2 [MaxL] (n0 : Nat) (e : Env) (H : Heap) : enter cx 117 n0 2 e H = enterK [0] 0 n0 e H := rfl
@[simp] theorem en124_0 [MaxL] (n0 : Nat) (e : Env) (H : Heap) : enter cx 124 n0 0 e H = enterK [0] 0 n0 e H := rfl
@[simp] theorem en124_1 [MaxL] (n0 : Nat) (e : Env) (H : Heap) : enter cx 124 n0 1 e H = enterK [0] 0 n0 e H := rfl
@[simp] theorem en125_0 [MaxL] (n0 : Nat) (e : Env) (H : Heap) : enter cx 125 n0 0 e H = enterK [0] 0 n0 e H := rfl
@[simp] theorem en125_1 [MaxL] (n0 : Nat) (e : Env) (H : Heap) : enter cx 125 n0 1 e H = enterK [0] 0 n0 e H := rfl
@[simp] theorem en128_0 [MaxL] (n0 : Nat) (e : Env) (H : Heap) : enter cx 128 n0 0 e H = enterK [0] 0 n0 e H := rfl
@[simp] theorem en128_1 [MaxL] (n0 : Nat) (e : Env) (H : Heap) : enter cx 128 n0 1 e H = enterK [0] 0 n0 e H := rfl
@[simp] theorem en128_2 [MaxL] (n0 : Nat) (e : Env) (H : Heap) : enter cx 128 n0 2 e H = enterK [] 0 n0 e H := rfl
@[simp] theorem en128_3 [MaxL] (n0 : Nat) (e : Env) (H : Heap) : enter cx 128 n0 3 e H = enterK [0] 0 n0 e H := rfl
@[simp] theorem en129_0 [MaxL] (n0 : Nat) (e : Env) (H : Heap) : enter cx 129 n0 0 e H = enterK [0] 0 n0 e H := rfl
@[simp] theorem en129_1 [MaxL] (n0 : Nat) (e : Env) (H : Heap) : enter cx 129 n0 1 e H = enterK [0] 0 n0 e H := rfl
@[simp] theorem en129_2 [MaxL] (n0 : Nat) (e : Env) (H : Heap) : enter cx 129 n0 2 e H = enterK [] 0 n0 e H := rfl
@[simp] theorem en129_3 [MaxL] (n0 : Nat) (e : Env) (H : Heap) : enter cx 129 n0 3 e H = enterK [0] 0 n0 e H := rfl
@[simp] theorem en132_0 [MaxL] (n0 : Nat) (e : Env) (H : Heap) : enter cx 132 n0 0 e H = enterK [0] 0 n0 e H := rfl
@[simp] theorem en132_1 [MaxL] (n0 : Nat) (e : Env) (H : Heap) : enter cx 132 n0 1 e H = enterK [0] 0 n0 e H := rfl
@[simp] theorem en133_0 [MaxL] (n0 : Nat) (e : Env) (H : Heap) : enter cx 133 n0 0 e H = enterK [0, 1] 0 n0 e H := rfl
@[simp] theorem en133_1 [MaxL] (n0 : Nat) (e : Env) (H : Heap) : enter cx 133 n0 1 e H = enterK [0, 1] 0 n0 e H := rfl
@[simp] theorem en133_2 [MaxL] (n0 : Nat) (e : Env) (H : Heap) : enter cx 133 n0 2 e H = enterK [0] 0 n0 e H := rfl
@[simp] theorem en133_3 [MaxL] (n0 : Nat) (e : Env) (H : Heap) : enter cx 133 n0 3 e H = enterK [0] 0 n0 e H := rfl
@[simp] theorem en133_4 [MaxL] (n0 : Nat) (e : Env) (H : Heap) : enter cx 133 n0 4 e H = enterK [0] 0 n0 e H := rfl
@[simp] theorem en133_5 [MaxL] (n0 : Nat) (e : Env) (H : Heap) : enter cx 133 n0 5 e H = enterK [0, 5] 0 n0 e H := rfl
@[simp] theorem en133_6 [MaxL] (n0 : Nat) (e : Env) (H : Heap) : enter cx 133 n0 6 e H = enterK [0, 5, 6] 0 n0 e H := rfl
@[simp] theorem en133_7 [MaxL] (n0 : Nat) (e : Env) (H : Heap) : enter cx 133 n0 7 e H = enterK [0, 5, 6] 0 n0 e H := rfl
@[simp] theorem en133_8 [MaxL] (n0 : Nat) (e : Env) (H : Heap) : enter cx 133 n0 8 e H = enterK [0, 5, 6] 0 n0 e H := rfl
@[simp] theorem en133_9 [MaxL] (n0 : Nat) (e : Env) (H : Heap) : enter cx 133 n0 9 e H = enterK [0, 5, 6, 7] 0 n0 e H := rfl
@[simp] theorem en133_10 [MaxL] (n0 : Nat) (e : Env) (H : Heap) : enter cx 133 n0 10 e H = enterK [0, 5, 7] 0 n0 e H := rfl
@[simp] theorem en133_11 [MaxL] (n0 : Nat) (e : Env) (H : Heap) : enter cx 133 n0 11 e H = enterK [5, 7] 0 n0 e H := rfl
@[simp] theorem en133_12 [MaxL] (n0 : Nat) (e : Env) (H : Heap) : enter cx 133 n0 12 e H = enterK [5, 7] 0 n0 e H := rfl
@[simp] theorem en133_13 [MaxL] (n0 : Nat) (e : Env) (H : Heap) : enter cx 133 n0 13 e H = enterK [5, 7] 0 n0 e H := rfl
@[simp] theorem en133_14 [MaxL] (n0 : Nat) (e : Env) (H : Heap) : enter cx 133 n0 14 e H = enterK [0, 1] 0 n0 e H := rfl
@[simp] theorem en133_15 [MaxL] (n0 : Nat) (e : Env) (H : Heap) : enter cx 133 n0 15 e H = enterK [9] 0 n0 e H := rfl
end Go.Ev.S
/- What the evaluator needs of this program: printed by program. -/
namespace Go.Ev.S
open Go Go.Proofs Go.Ev
@[simp] theorem sz2 : szOf Tryd.prog 2 = 1 := by kernel_rfl
@[simp] theorem ag2 : aggQ Tryd.prog 2 = some false := by kernel_rfl
@[simp] theorem by2 : bytesOf Tryd.prog 2 = 8 := by kernel_rfl
@[simp] theorem zo2 : zeroOf Tryd.prog 2 = some (.int .i64 0) := by kernel_rfl
@[simp] theorem cq2 : cmpQ Tryd.prog 2 = true := by kernel_rfl
@[simp] theorem un2 : Tryd.prog.underlying 2 = some (.int .i64) := by kernel_rfl
@[simp] theorem sz3 : szOf Tryd.prog 3 = 1 := by kernel_rfl
@[simp] theorem ag3 : aggQ Tryd.prog 3 = some false := by kernel_rfl
@[simp] theorem by3 : bytesOf Tryd.prog 3 = 8 := by kernel_rfl
@[simp] theorem zo3 : zeroOf Tryd.prog 3 = some (.int .i64 0) := by kernel_rfl
@[simp] theorem cq3 : cmpQ Tryd.prog 3 = true := by kernel_rfl
@[simp] theorem un3 : Tryd.prog.underlying 3 = some (.int .i64) := by kernel_rfl
@[simp] theorem sz4 : szOf Tryd.prog 4 = 1 := by kernel_rfl
@[simp] theorem ag4 : aggQ Tryd.prog 4 = some false := by kernel_rfl
@[simp] theorem by4 : bytesOf Tryd.prog 4 = 1 := by kernel_rfl
@[simp] theorem zo4 : zeroOf Tryd.prog 4 = some (.bool false) := by kernel_rfl
@[simp] theorem un4 : Tryd.prog.underlying 4 = some .bool := by kernel_rfl
@[simp] theorem sz5 : szOf Tryd.prog 5 = 1 := by kernel_rfl
@[simp] theorem ag5 : aggQ Tryd.prog 5 = some false := by kernel_rfl
@[simp] theorem by5 : bytesOf Tryd.prog 5 = 1 := by kernel_rfl
@[simp] theorem zo5 : zeroOf Tryd.prog 5 = some (.int .u8 0) := by kernel_rfl
@[simp] theorem cq5 : cmpQ Tryd.prog 5 = true := by kernel_rfl
@[simp] theorem un5 : Tryd.prog.underlying 5 = some (.int .u8) := by kernel_rfl
@[simp] theorem sz9 : szOf Tryd.prog 9 = 1 := by kernel_rfl
@[simp] theorem ag9 : aggQ Tryd.prog 9 = some false := by kernel_rfl
@[simp] theorem by9 : bytesOf Tryd.prog 9 = 16 := by kernel_rfl
@[simp] theorem zo9 : zeroOf Tryd.prog 9 = some (.str []) := by kernel_rfl
@[simp] theorem un9 : Tryd.prog.underlying 9 = some .string := by kernel_rfl
@[simp] theorem sz21 : szOf Tryd.prog 21 = 1 := by kernel_rfl
@[simp] theorem ag21 : aggQ Tryd.prog 21 = some false := by kernel_rfl
@[simp] theorem by21 : bytesOf Tryd.prog 21 = 4 := by kernel_rfl
@[simp] theorem zo21 : zeroOf Tryd.prog 21 = some (.int .i32 0) := by kernel_rfl
@[simp] theorem cq21 : cmpQ Tryd.prog 21 = true := by kernel_rfl
@[simp] theorem un21 : Tryd.prog.underlying 21 = some (.int .i32) := by kernel_rfl
@[simp] theorem sz24 : szOf Tryd.prog 24 = 1 := by kernel_rfl
@[simp] theorem ag24 : aggQ Tryd.prog 24 = some false := by kernel_rfl
@[simp] theorem by24 : bytesOf Tryd.prog 24 = 8 := by kernel_rfl
@[simp] theorem zo24 : zeroOf Tryd.prog 24 = some (.int .u64 0) := by kernel_rfl
@[simp] theorem cq24 : cmpQ Tryd.prog 24 = true := by kernel_rfl
@[simp] theorem un24 : Tryd.prog.underlying 24 = some (.int .u64) := by kernel_rfl
@[simp] theorem sz31 : szOf Tryd.prog 31 = 1 := by kernel_rfl
@[simp] theorem ag31 : aggQ Tryd.prog 31 = some false := by kernel_rfl
@[simp] theorem by31 : bytesOf Tryd.prog 31 = 24 := by kernel_rfl
@[simp] theorem zo31 : zeroOf Tryd.prog 31 = some (.vsl true [] 0) := by kernel_rfl
@[simp] theorem un31 : Tryd.prog.underlying 31 = some (.slice 3) := by kernel_rfl
@[simp] theorem sz32 : szOf Tryd.prog 32 = 1 := by kernel_rfl
@[simp] theorem ag32 : aggQ Tryd.prog 32 = some false := by kernel_rfl
@[simp] theorem by32 : bytesOf Tryd.prog 32 = 24 := by kernel_rfl
@[simp] theorem zo32 : zeroOf Tryd.prog 32 = some (.vsl true [] 0) := by kernel_rfl
@[simp] theorem un32 : Tryd.prog.underlying 32 = some (.slice 5) := by kernel_rfl
@[simp] theorem sz35 : szOf Tryd.prog 35 = 4 := by kernel_rfl
@[simp] theorem ag35 : aggQ Tryd.prog 35 = some true := by kernel_rfl
@[simp] theorem by35 : bytesOf Tryd.prog 35 = 56 := by kernel_rfl
@[simp] theorem zo35 : zeroOf Tryd.prog 35 = some (.agg [.str [], .int .u64 0, .int .u64 0, .vsl true [] 0]) := by kernel_rfl
attribute [simp] Tryd.underlying35
@[simp] theorem sz36 : szOf Tryd.prog 36 = 4 := by kernel_rfl
@[simp] theorem ag36 : aggQ Tryd.prog 36 = some true := by kernel_rfl
@[simp] theorem by36 : bytesOf Tryd.prog 36 = 56 := by kernel_rfl
@[simp] theorem zo36 : zeroOf Tryd.prog 36 = some (.agg [.str [], .int .u64 0, .int .u64 0, .vsl true [] 0]) := by kernel_rfl
attribute [simp] Tryd.underlying36
@[simp] theorem sz41 : szOf Tryd.prog 41 = 4 := by kernel_rfl
@[simp] theorem ag41 : aggQ Tryd.prog 41 = some true := by kernel_rfl
@[simp] theorem by41 : bytesOf Tryd.prog 41 = 48 := by kernel_rfl
@[simp] theorem zo41 : zeroOf Tryd.prog 41 = some (.agg [.int .i64 0, .int .u64 0, .int .u64 0, .vsl true [] 0]) := by kernel_rfl
attribute [simp] Tryd.underlying41
@[simp] theorem sz42 : szOf Tryd.prog 42 = 4 := by kernel_rfl
@[simp] theorem ag42 : aggQ Tryd.prog 42 = some true := by kernel_rfl
@[simp] theorem by42 : bytesOf Tryd.prog 42 = 48 := by kernel_rfl
@[simp] theorem zo42 : zeroOf Tryd.prog 42 = some (.agg [.int .i64 0, .int .u64 0, .int .u64 0, .vsl true [] 0]) := by kernel_rfl
attribute [simp] Tryd.underlying42
@[simp] theorem sz44 : szOf Tryd.prog 44 = 4 := by kernel_rfl
@[simp] theorem ag44 : aggQ Tryd.prog 44 = some true := by kernel_rfl
@[simp] theorem by44 : bytesOf Tryd.prog 44 = 56 := by kernel_rfl
@[simp] theorem zo44 : zeroOf Tryd.prog 44 = some (.agg [.str [], .int .u64 0, .int .u64 0, .vsl true [] 0]) := by kernel_rfl
attribute [simp] Tryd.underlying44
@[simp] theorem sz46 : szOf Tryd.prog 46 = 4 := by kernel_rfl
@[simp] theorem ag46 : aggQ Tryd.prog 46 = some true := by kernel_rfl
@[simp] theorem by46 : bytesOf Tryd.prog 46 = 48 := by kernel_rfl
@[simp] theorem zo46 : zeroOf Tryd.prog 46 = some (.agg [.int .i64 0, .int .u64 0, .int .u64 0, .vsl true [] 0]) := by kernel_rfl
attribute [simp] Tryd.underlying46
@[simp] theorem sz50 : szOf Tryd.prog 50 = 1 := by kernel_rfl
@[simp] theorem ag50 : aggQ Tryd.prog 50 = some false := by kernel_rfl
@[simp] theorem by50 : bytesOf Tryd.prog 50 = 24 := by kernel_rfl
@[simp] theorem zo50 : zeroOf Tryd.prog 50 = some (.vsl true [] 0) := by kernel_rfl
@[simp] theorem un50 : Tryd.prog.underlying 50 = some (.slice 32) := by kernel_rfl
@[simp] theorem sz83 : szOf Tryd.prog 83 = 1 := by kernel_rfl
@[simp] theorem ag83 : aggQ Tryd.prog 83 = some false := by kernel_rfl
@[simp] theorem by83 : bytesOf Tryd.prog 83 = 24 := by kernel_rfl
@[simp] theorem zo83 : zeroOf Tryd.prog 83 = some (.vsl true [] 0) := by kernel_rfl
@[simp] theorem un83 : Tryd.prog.underlying 83 = some (.slice 9) := by kernel_rfl
@[simp] theorem sz84 : szOf Tryd.prog 84 = 4 := by kernel_rfl
@[simp] theorem ag84 : aggQ Tryd.prog 84 = some true := by kernel_rfl
@[simp] theorem by84 : bytesOf Tryd.prog 84 = 48 := by kernel_rfl
@[simp] theorem zo84 : zeroOf Tryd.prog 84 = some (.agg [.int .i64 0, .int .u64 0, .int .u64 0, .vsl true [] 0]) := by kernel_rfl
attribute [simp] Tryd.underlying84
@[simp] theorem sz85 : szOf Tryd.prog 85 = 4 := by kernel_rfl
@[simp] theorem ag85 : aggQ Tryd.prog 85 = some true := by kernel_rfl
@[simp] theorem by85 : bytesOf Tryd.prog 85 = 48 := by kernel_rfl
@[simp] theorem zo85 : zeroOf Tryd.prog 85 = some (.agg [.int .i64 0, .int .u64 0, .int .u64 0, .vsl true [] 0]) := by kernel_rfl
attribute [simp] Tryd.underlying85
@[simp] theorem sz93 : szOf Tryd.prog 93 = 3 := by kernel_rfl
@[simp] theorem ag93 : aggQ Tryd.prog 93 = some true := by kernel_rfl
@[simp] theorem by93 : bytesOf Tryd.prog 93 = 24 := by kernel_rfl
@[simp] theorem zo93 : zeroOf Tryd.prog 93 = some (.agg [.int .u64 0, .int .u64 0, .int .u64 0]) := by kernel_rfl
@[simp] theorem un93 : Tryd.prog.underlying 93 = some (.array 3 24) := by kernel_rfl
@[simp] theorem sz102 : szOf Tryd.prog 102 = 1 := by kernel_rfl
@[simp] theorem ag102 : aggQ Tryd.prog 102 = some false := by kernel_rfl
@[simp] theorem by102 : bytesOf Tryd.prog 102 = 16 := by kernel_rfl
@[simp] theorem zo102 : zeroOf Tryd.prog 102 = some (.nili) := by kernel_rfl
attribute [simp] Tryd.underlying102
@[simp] theorem sz103 : szOf Tryd.prog 103 = 1 := by kernel_rfl
@[simp] theorem ag103 : aggQ Tryd.prog 103 = some false := by kernel_rfl
@[simp] theorem by103 : bytesOf Tryd.prog 103 = 16 := by kernel_rfl
@[simp] theorem zo103 : zeroOf Tryd.prog 103 = some (.nili) := by kernel_rfl
attribute [simp] Tryd.underlying103
@[simp] theorem sz108 : szOf Tryd.prog 108 = 1 := by kernel_rfl
@[simp] theorem ag108 : aggQ Tryd.prog 108 = some false := by kernel_rfl
@[simp] theorem by108 : bytesOf Tryd.prog 108 = 8 := by kernel_rfl
@[simp] theorem zo108 : zeroOf Tryd.prog 108 = some (.int .u64 0) := by kernel_rfl
@[simp] theorem cq108 : cmpQ Tryd.prog 108 = true := by kernel_rfl
@[simp] theorem un108 : Tryd.prog.underlying 108 = some (.int .u64) := by kernel_rfl
@[simp] theorem sz128 : szOf Tryd.prog 128 = 24 := by kernel_rfl
@[simp] theorem ag128 : aggQ Tryd.prog 128 = some true := by kernel_rfl
@[simp] theorem by128 : bytesOf Tryd.prog 128 = 24 := by kernel_rfl
@[simp] theorem zo128 : zeroOf Tryd.prog 128 = some (.agg [.int .u8 0, .int .u8 0, .int .u8 0, .int .u8 0, .int .u8 0, .int .u8 0, .int .u8 0, .int .u8 0, .int .u8 0, .int .u8 0, .int .u8 0, .int .u8 0, .int .u8 0, .int .u8 0, .int .u8 0, .int .u8 0, .int .u8 0, .int .u8 0, .int .u8 0, .int .u8 0, .int .u8 0, .int .u8 0, .int .u8 0, .int .u8 0]) := by kernel_rfl
@[simp] theorem un128 : Tryd.prog.underlying 128 = some (.array 24 5) := by kernel_rfl
@[simp] theorem sz135 : szOf Tryd.prog 135 = 1 := by kernel_rfl
@[simp] theorem ag135 : aggQ Tryd.prog 135 = some false := by kernel_rfl
@[simp] theorem by135 : bytesOf Tryd.prog 135 = 8 := by kernel_rfl
@[simp] theorem zo135 : zeroOf Tryd.prog 135 = some (.int .i64 0) := by kernel_rfl
@[simp] theorem cq135 : cmpQ Tryd.prog 135 = true := by kernel_rfl
@[simp] theorem un135 : Tryd.prog.underlying 135 = some (.int .i64) := by kernel_rfl
@[simp] theorem sz137 : szOf Tryd.prog 137 = 1 := by kernel_rfl
@[simp] theorem ag137 : aggQ Tryd.prog 137 = some false := by kernel_rfl
@[simp] theorem by137 : bytesOf Tryd.prog 137 = 8 := by kernel_rfl
@[simp] theorem zo137 : zeroOf Tryd.prog 137 = some (.nilp) := by kernel_rfl
@[simp] theorem un137 : Tryd.prog.underlying 137 = some (.pointer 156) := by kernel_rfl
@[simp] theorem sz140 : szOf Tryd.prog 140 = 1 := by kernel_rfl
@[simp] theorem ag140 : aggQ Tryd.prog 140 = some false := by kernel_rfl
@[simp] theorem by140 : bytesOf Tryd.prog 140 = 4 := by kernel_rfl
@[simp] theorem zo140 : zeroOf Tryd.prog 140 = some (.int .u32 0) := by kernel_rfl
@[simp] theorem cq140 : cmpQ Tryd.prog 140 = true := by kernel_rfl
@[simp] theorem un140 : Tryd.prog.underlying 140 = some (.int .u32) := by kernel_rfl
@[simp] theorem sz148 : szOf Tryd.prog 148 = 20 := by kernel_rfl
@[simp] theorem ag148 : aggQ Tryd.prog 148 = some true := by kernel_rfl
@[simp] theorem by148 : bytesOf Tryd.prog 148 = 160 := by kernel_rfl
@[simp] theorem zo148 : zeroOf Tryd.prog 148 = some (.agg [.int .u64 0, .int .u64 0, .int .u64 0, .int .u64 0, .int .u64 0, .int .u64 0, .int .u64 0, .int .u64 0, .int .u64 0, .int .u64 0, .int .u64 0, .int .u64 0, .int .u64 0, .int .u64 0, .int .u64 0, .int .u64 0, .int .u64 0, .int .u64 0, .int .u64 0, .int .u64 0]) := by kernel_rfl
@[simp] theorem un148 : Tryd.prog.underlying 148 = some (.array 20 24) := by kernel_rfl
@[simp] theorem sz149 : szOf Tryd.prog 149 = 65 := by kernel_rfl
@[simp] theorem ag149 : aggQ Tryd.prog 149 = some true := by kernel_rfl
@[simp] theorem by149 : bytesOf Tryd.prog 149 = 65 := by kernel_rfl
@[simp] theorem zo149 : zeroOf Tryd.prog 149 = some (.agg (List.replicate 65 (.int .u8 0))) := by kernel_rfl
@[simp] theorem un149 : Tryd.prog.underlying 149 = some (.array 65 5) := by kernel_rfl
@[simp] theorem sz155 : szOf Tryd.prog 155 = 3 := by kernel_rfl
@[simp] theorem ag155 : aggQ Tryd.prog 155 = some true := by kernel_rfl
@[simp] theorem by155 : bytesOf Tryd.prog 155 = 48 := by kernel_rfl
@[simp] theorem zo155 : zeroOf Tryd.prog 155 = some (.agg [.str [], .str [], .nili]) := by kernel_rfl
attribute [simp] Tryd.underlying155
@[simp] theorem sz156 : szOf Tryd.prog 156 = 3 := by kernel_rfl
@[simp] theorem ag156 : aggQ Tryd.prog 156 = some true := by kernel_rfl
@[simp] theorem by156 : bytesOf Tryd.prog 156 = 48 := by kernel_rfl
@[simp] theorem zo156 : zeroOf Tryd.prog 156 = some (.agg [.str [], .str [], .nili]) := by kernel_rfl
attribute [simp] Tryd.underlying156
@[simp] theorem sz163 : szOf Tryd.prog 163 = 1 := by kernel_rfl
@[simp] theorem ag163 : aggQ Tryd.prog 163 = some false := by kernel_rfl
@[simp] theorem by163 : bytesOf Tryd.prog 163 = 8 := by kernel_rfl
@[simp] theorem zo163 : zeroOf Tryd.prog 163 = some (.nilp) := by kernel_rfl
@[simp] theorem un163 : Tryd.prog.underlying 163 = some (.pointer 165) := by kernel_rfl
@[simp] theorem sz164 : szOf Tryd.prog 164 = 1 := by kernel_rfl
@[simp] theorem ag164 : aggQ Tryd.prog 164 = some true := by kernel_rfl
@[simp] theorem by164 : bytesOf Tryd.prog 164 = 16 := by kernel_rfl
@[simp] theorem zo164 : zeroOf Tryd.prog 164 = some (.agg [.str []]) := by kernel_rfl
attribute [simp] Tryd.underlying164
@[simp] theorem sz165 : szOf Tryd.prog 165 = 1 := by kernel_rfl
@[simp] theorem ag165 : aggQ Tryd.prog 165 = some true := by kernel_rfl
@[simp] theorem by165 : bytesOf Tryd.prog 165 = 16 := by kernel_rfl
@[simp] theorem zo165 : zeroOf Tryd.prog 165 = some (.agg [.str []]) := by kernel_rfl
attribute [simp] Tryd.underlying165
@[simp] theorem sz166 : szOf Tryd.prog 166 = 32 := by kernel_rfl
@[simp] theorem ag166 : aggQ Tryd.prog 166 = some true := by kernel_rfl
@[simp] theorem by166 : bytesOf Tryd.prog 166 = 32 := by kernel_rfl
@[simp] theorem zo166 : zeroOf Tryd.prog 166 = some (.agg (List.replicate 32 (.int .u8 0))) := by kernel_rfl
@[simp] theorem un166 : Tryd.prog.underlying 166 = some (.array 32 5) := by kernel_rfl
@[simp] theorem sz167 : szOf Tryd.prog 167 = 64 := by kernel_rfl
@[simp] theorem ag167 : aggQ Tryd.prog 167 = some true := by kernel_rfl
@[simp] theorem by167 : bytesOf Tryd.prog 167 = 64 := by kernel_rfl
@[simp] theorem zo167 : zeroOf Tryd.prog 167 = some (.agg (List.replicate 64 (.int .u8 0))) := by kernel_rfl
@[simp] theorem un167 : Tryd.prog.underlying 167 = some (.array 64 5) := by kernel_rfl
@[simp] theorem pl3 : plainTy Tryd.prog 50 3 = some ([.i]) := by kernel_rfl
@[simp] theorem eg3 : Tryd.prog.eqGuardType Tryd.prog.depth 3 = false := by kernel_rfl
@[simp] theorem pl4 : plainTy Tryd.prog 50 4 = some ([.b]) := by kernel_rfl
@[simp] theorem eg4 : Tryd.prog.eqGuardType Tryd.prog.depth 4 = false := by kernel_rfl
@[simp] theorem pl5 : plainTy Tryd.prog 50 5 = some ([.i]) := by kernel_rfl
@[simp] theorem eg5 : Tryd.prog.eqGuardType Tryd.prog.depth 5 = false := by kernel_rfl
@[simp] theorem pl9 : plainTy Tryd.prog 50 9 = some ([.s]) := by kernel_rfl
@[simp] theorem eg9 : Tryd.prog.eqGuardType Tryd.prog.depth 9 = false := by kernel_rfl
@[simp] theorem pl21 : plainTy Tryd.prog 50 21 = some ([.i]) := by kernel_rfl
@[simp] theorem eg21 : Tryd.prog.eqGuardType Tryd.prog.depth 21 = false := by kernel_rfl
@[simp] theorem pl24 : plainTy Tryd.prog 50 24 = some ([.i]) := by kernel_rfl
@[simp] theorem eg24 : Tryd.prog.eqGuardType Tryd.prog.depth 24 = false := by kernel_rfl
@[simp] theorem pl140 : plainTy Tryd.prog 50 140 = some ([.i]) := by kernel_rfl
@[simp] theorem eg140 : Tryd.prog.eqGuardType Tryd.prog.depth 140 = false := by kernel_rfl
end Go.Ev.S
/- The library as it lies in this program: the shelf's layings, printed by its tool. -/
namespace Go.Proofs
open Go.Shelf
def Tryd.lays129_ren : Go.Shelf.Ren := ⟨fun | 129 => 114 | n => n, fun | 53 => 24 | 3 => 3 | 4 => 4 | 46 => 108 | 5 => 5 | 9 => 9 | n => n, fun | n => n⟩
theorem Tryd.lays129 : Go.Proofs.Lays.n129 Tryd.prog Tryd.lays129_ren := {
  mixed := by kernel_rfl
  f129 := Tryd.func114.trans (congrArg some (by kernel_rfl))
  t3 := Tryd.underlying3
  a3 := Tryd.isAgg3
  z3 := Tryd.sizeOf3
  v3 := Tryd.zeroValue3
  t4 := Tryd.underlying4
  a4 := Tryd.isAgg4
  z4 := Tryd.sizeOf4
  v4 := Tryd.zeroValue4
  t5 := Tryd.underlying5
  a5 := Tryd.isAgg5
  z5 := Tryd.sizeOf5
  v5 := Tryd.zeroValue5
  t9 := Tryd.underlying9
  a9 := Tryd.isAgg9
  z9 := Tryd.sizeOf9
  v9 := Tryd.zeroValue9
  t46 := Tryd.underlying108
  a46 := Tryd.isAgg108
  z46 := Tryd.sizeOf108
  v46 := Tryd.zeroValue108
  t53 := Tryd.underlying24
  a53 := Tryd.isAgg24
  z53 := Tryd.sizeOf24
  v53 := Tryd.zeroValue24 }
def Tryd.lays317_ren : Go.Shelf.Ren := ⟨fun | 317 => 113 | n => n, fun | 3 => 3 | 46 => 108 | n => n, fun | n => n⟩
theorem Tryd.lays317 : Go.Proofs.Lays.n317 Tryd.prog Tryd.lays317_ren := {
  mixed := by kernel_rfl
  f317 := Tryd.func113.trans (congrArg some (by kernel_rfl))
  t3 := Tryd.underlying3
  a3 := Tryd.isAgg3
  z3 := Tryd.sizeOf3
  v3 := Tryd.zeroValue3
  t46 := Tryd.underlying108
  a46 := Tryd.isAgg108
  z46 := Tryd.sizeOf108
  v46 := Tryd.zeroValue108 }
def Tryd.lays318_ren : Go.Shelf.Ren := ⟨fun | 318 => 115 | n => n, fun | 3 => 3 | 4 => 4 | n => n, fun | n => n⟩
theorem Tryd.lays318 : Go.Proofs.Lays.n318 Tryd.prog Tryd.lays318_ren := {
  mixed := by kernel_rfl
  f318 := Tryd.func115.trans (congrArg some (by kernel_rfl))
  t3 := Tryd.underlying3
  a3 := Tryd.isAgg3
  z3 := Tryd.sizeOf3
  v3 := Tryd.zeroValue3
  t4 := Tryd.underlying4
  a4 := Tryd.isAgg4
  z4 := Tryd.sizeOf4
  v4 := Tryd.zeroValue4 }
def Tryd.lays283_ren : Go.Shelf.Ren := ⟨fun | 283 => 89 | n => n, fun | 3 => 3 | 9 => 9 | 4 => 4 | n => n, fun | n => n⟩
theorem Tryd.lays283 : Go.Proofs.Lays.n283 Tryd.prog Tryd.lays283_ren := {
  mixed := by kernel_rfl
  f283 := Tryd.func89.trans (congrArg some (by kernel_rfl))
  t3 := Tryd.underlying3
  a3 := Tryd.isAgg3
  z3 := Tryd.sizeOf3
  v3 := Tryd.zeroValue3
  t4 := Tryd.underlying4
  a4 := Tryd.isAgg4
  z4 := Tryd.sizeOf4
  v4 := Tryd.zeroValue4
  t9 := Tryd.underlying9
  a9 := Tryd.isAgg9
  z9 := Tryd.sizeOf9
  v9 := Tryd.zeroValue9 }
def Tryd.laysM284_ren : Go.Shelf.Ren := ⟨fun | 284 => 90 | 129 => 114 | 317 => 113 | 318 => 115 | n => n, fun | 53 => 24 | 3 => 3 | 212 => 148 | 0 => 0 | 4 => 4 | 46 => 108 | 5 => 5 | 9 => 9 | n => n, fun | 17 => 1 | n => n⟩
theorem Tryd.laysM284 : Go.Proofs.LaysM.n284 Tryd.prog Tryd.laysM284_ren := {
  mixed := by kernel_rfl
  f129 := Tryd.func114.trans (congrArg some (by kernel_rfl))
  f284 := Tryd.func90.trans (congrArg some (by kernel_rfl))
  f317 := Tryd.func113.trans (congrArg some (by kernel_rfl))
  f318 := Tryd.func115.trans (congrArg some (by kernel_rfl))
  t0 := Tryd.underlying0
  a0 := Tryd.isAgg0
  z0 := Tryd.sizeOf0
  v0 := Tryd.zeroValue0
  t3 := Tryd.underlying3
  a3 := Tryd.isAgg3
  z3 := Tryd.sizeOf3
  v3 := Tryd.zeroValue3
  t4 := Tryd.underlying4
  a4 := Tryd.isAgg4
  z4 := Tryd.sizeOf4
  v4 := Tryd.zeroValue4
  t5 := Tryd.underlying5
  a5 := Tryd.isAgg5
  z5 := Tryd.sizeOf5
  v5 := Tryd.zeroValue5
  t9 := Tryd.underlying9
  a9 := Tryd.isAgg9
  z9 := Tryd.sizeOf9
  v9 := Tryd.zeroValue9
  t46 := Tryd.underlying108
  a46 := Tryd.isAgg108
  z46 := Tryd.sizeOf108
  v46 := Tryd.zeroValue108
  t53 := Tryd.underlying24
  a53 := Tryd.isAgg24
  z53 := Tryd.sizeOf24
  v53 := Tryd.zeroValue24
  t212 := Tryd.underlying148
  a212 := Tryd.isAgg148
  z212 := Tryd.sizeOf148
  v212 := Tryd.zeroValue148
  g17 := by kernel_rfl
  i0 := by kernel_rfl
  i3 := by kernel_rfl
  i4 := by kernel_rfl
  i5 := by kernel_rfl
  i9 := by kernel_rfl
  i46 := by kernel_rfl
  i53 := by kernel_rfl
  i212 := by kernel_rfl
  m17 := by kernel_rfl }
def Tryd.laysM316_ren : Go.Shelf.Ren := ⟨fun | 316 => 123 | n => n, fun | 9 => 9 | 3 => 3 | 4 => 4 | 37 => 32 | 0 => 0 | 127 => 145 | 5 => 5 | n => n, fun | n => n⟩
theorem Tryd.laysM316 : Go.Proofs.LaysM.n316 Tryd.prog Tryd.laysM316_ren := {
  mixed := by kernel_rfl
  f316 := Tryd.func123.trans (congrArg some (by kernel_rfl))
  t0 := Tryd.underlying0
  a0 := Tryd.isAgg0
  z0 := Tryd.sizeOf0
  v0 := Tryd.zeroValue0
  t3 := Tryd.underlying3
  a3 := Tryd.isAgg3
  z3 := Tryd.sizeOf3
  v3 := Tryd.zeroValue3
  t4 := Tryd.underlying4
  a4 := Tryd.isAgg4
  z4 := Tryd.sizeOf4
  v4 := Tryd.zeroValue4
  t9 := Tryd.underlying9
  a9 := Tryd.isAgg9
  z9 := Tryd.sizeOf9
  v9 := Tryd.zeroValue9
  t37 := Tryd.underlying32
  a37 := Tryd.isAgg32
  z37 := Tryd.sizeOf32
  v37 := Tryd.zeroValue32
  t127 := Tryd.underlying145
  a127 := Tryd.isAgg145
  z127 := Tryd.sizeOf145
  v127 := Tryd.zeroValue145
  t5 := Tryd.underlying5
  a5 := Tryd.isAgg5
  z5 := Tryd.sizeOf5
  v5 := Tryd.zeroValue5
  i0 := by kernel_rfl
  i3 := by kernel_rfl
  i4 := by kernel_rfl
  i5 := by kernel_rfl
  i9 := by kernel_rfl
  i37 := by kernel_rfl
  i127 := by kernel_rfl }
def Tryd.lays219_ren : Go.Shelf.Ren := ⟨fun | 219 => 96 | 217 => 74 | 225 => 121 | 224 => 85 | 267 => 122 | 266 => 103 | 314 => 131 | n => n, fun | 9 => 9 | 3 => 3 | 4 => 4 | 5 => 5 | 46 => 108 | 146 => 141 | 51 => 140 | n => n, fun | 1 => 0 | n => n⟩
theorem Tryd.lays219 : Go.Proofs.Lays.n219 Tryd.prog Tryd.lays219_ren := {
  mixed := by kernel_rfl
  f217 := Tryd.func74.trans (congrArg some (by kernel_rfl))
  f219 := Tryd.func96.trans (congrArg some (by kernel_rfl))
  f224 := Tryd.func85.trans (congrArg some (by kernel_rfl))
  f225 := Tryd.func121.trans (congrArg some (by kernel_rfl))
  f266 := Tryd.func103.trans (congrArg some (by kernel_rfl))
  f267 := Tryd.func122.trans (congrArg some (by kernel_rfl))
  f314 := Tryd.func131.trans (congrArg some (by kernel_rfl))
  t3 := Tryd.underlying3
  a3 := Tryd.isAgg3
  z3 := Tryd.sizeOf3
  v3 := Tryd.zeroValue3
  t4 := Tryd.underlying4
  a4 := Tryd.isAgg4
  z4 := Tryd.sizeOf4
  v4 := Tryd.zeroValue4
  t5 := Tryd.underlying5
  a5 := Tryd.isAgg5
  z5 := Tryd.sizeOf5
  v5 := Tryd.zeroValue5
  t9 := Tryd.underlying9
  a9 := Tryd.isAgg9
  z9 := Tryd.sizeOf9
  v9 := Tryd.zeroValue9
  t46 := Tryd.underlying108
  a46 := Tryd.isAgg108
  z46 := Tryd.sizeOf108
  v46 := Tryd.zeroValue108
  t51 := Tryd.underlying140
  a51 := Tryd.isAgg140
  z51 := Tryd.sizeOf140
  v51 := Tryd.zeroValue140
  t146 := Tryd.underlying141
  a146 := Tryd.isAgg141
  z146 := Tryd.sizeOf141
  v146 := Tryd.zeroValue141
  g1 := by kernel_rfl }
def Tryd.lays185_ren : Go.Shelf.Ren := ⟨fun | 185 => 64 | 187 => 82 | 115 => 83 | 253 => 84 | 224 => 85 | 254 => 86 | 255 => 109 | 291 => 110 | n => n, fun | 37 => 32 | 3 => 3 | 4 => 4 | 0 => 0 | 5 => 5 | 46 => 108 | 9 => 9 | 146 => 141 | 51 => 140 | n => n, fun | 1 => 0 | n => n⟩
theorem Tryd.lays185 : Go.Proofs.Lays.n185 Tryd.prog Tryd.lays185_ren := {
  mixed := by kernel_rfl
  f115 := Tryd.func83.trans (congrArg some (by kernel_rfl))
  f185 := Tryd.func64.trans (congrArg some (by kernel_rfl))
  f187 := Tryd.func82.trans (congrArg some (by kernel_rfl))
  f224 := Tryd.func85.trans (congrArg some (by kernel_rfl))
  f253 := Tryd.func84.trans (congrArg some (by kernel_rfl))
  f254 := Tryd.func86.trans (congrArg some (by kernel_rfl))
  f255 := Tryd.func109.trans (congrArg some (by kernel_rfl))
  f291 := Tryd.func110.trans (congrArg some (by kernel_rfl))
  t0 := Tryd.underlying0
  a0 := Tryd.isAgg0
  z0 := Tryd.sizeOf0
  v0 := Tryd.zeroValue0
  t3 := Tryd.underlying3
  a3 := Tryd.isAgg3
  z3 := Tryd.sizeOf3
  v3 := Tryd.zeroValue3
  t4 := Tryd.underlying4
  a4 := Tryd.isAgg4
  z4 := Tryd.sizeOf4
  v4 := Tryd.zeroValue4
  t5 := Tryd.underlying5
  a5 := Tryd.isAgg5
  z5 := Tryd.sizeOf5
  v5 := Tryd.zeroValue5
  t9 := Tryd.underlying9
  a9 := Tryd.isAgg9
  z9 := Tryd.sizeOf9
  v9 := Tryd.zeroValue9
  t37 := Tryd.underlying32
  a37 := Tryd.isAgg32
  z37 := Tryd.sizeOf32
  v37 := Tryd.zeroValue32
  t46 := Tryd.underlying108
  a46 := Tryd.isAgg108
  z46 := Tryd.sizeOf108
  v46 := Tryd.zeroValue108
  t51 := Tryd.underlying140
  a51 := Tryd.isAgg140
  z51 := Tryd.sizeOf140
  v51 := Tryd.zeroValue140
  t146 := Tryd.underlying141
  a146 := Tryd.isAgg141
  z146 := Tryd.sizeOf141
  v146 := Tryd.zeroValue141
  g1 := by kernel_rfl }
def Tryd.laysM185_ren : Go.Shelf.Ren := ⟨fun | 185 => 64 | 187 => 82 | 115 => 83 | 253 => 84 | 224 => 85 | 254 => 86 | 255 => 109 | 291 => 110 | n => n, fun | 37 => 32 | 3 => 3 | 4 => 4 | 0 => 0 | 5 => 5 | 46 => 108 | 9 => 9 | 146 => 141 | 51 => 140 | n => n, fun | 1 => 0 | n => n⟩
theorem Tryd.laysM185 : Go.Proofs.LaysM.n185 Tryd.prog Tryd.laysM185_ren := {
  mixed := by kernel_rfl
  f115 := Tryd.func83.trans (congrArg some (by kernel_rfl))
  f185 := Tryd.func64.trans (congrArg some (by kernel_rfl))
  f187 := Tryd.func82.trans (congrArg some (by kernel_rfl))
  f224 := Tryd.func85.trans (congrArg some (by kernel_rfl))
  f253 := Tryd.func84.trans (congrArg some (by kernel_rfl))
  f254 := Tryd.func86.trans (congrArg some (by kernel_rfl))
  f255 := Tryd.func109.trans (congrArg some (by kernel_rfl))
  f291 := Tryd.func110.trans (congrArg some (by kernel_rfl))
  t0 := Tryd.underlying0
  a0 := Tryd.isAgg0
  z0 := Tryd.sizeOf0
  v0 := Tryd.zeroValue0
  t3 := Tryd.underlying3
  a3 := Tryd.isAgg3
  z3 := Tryd.sizeOf3
  v3 := Tryd.zeroValue3
  t4 := Tryd.underlying4
  a4 := Tryd.isAgg4
  z4 := Tryd.sizeOf4
  v4 := Tryd.zeroValue4
  t5 := Tryd.underlying5
  a5 := Tryd.isAgg5
  z5 := Tryd.sizeOf5
  v5 := Tryd.zeroValue5
  t9 := Tryd.underlying9
  a9 := Tryd.isAgg9
  z9 := Tryd.sizeOf9
  v9 := Tryd.zeroValue9
  t37 := Tryd.underlying32
  a37 := Tryd.isAgg32
  z37 := Tryd.sizeOf32
  v37 := Tryd.zeroValue32
  t46 := Tryd.underlying108
  a46 := Tryd.isAgg108
  z46 := Tryd.sizeOf108
  v46 := Tryd.zeroValue108
  t51 := Tryd.underlying140
  a51 := Tryd.isAgg140
  z51 := Tryd.sizeOf140
  v51 := Tryd.zeroValue140
  t146 := Tryd.underlying141
  a146 := Tryd.isAgg141
  z146 := Tryd.sizeOf141
  v146 := Tryd.zeroValue141
  g1 := by kernel_rfl
  i0 := by kernel_rfl
  i3 := by kernel_rfl
  i4 := by kernel_rfl
  i5 := by kernel_rfl
  i9 := by kernel_rfl
  i37 := by kernel_rfl
  i46 := by kernel_rfl
  i51 := by kernel_rfl
  i146 := by kernel_rfl
  m1 := by kernel_rfl
  s1_3 := fun w h => Go.Proofs.cell_of_shapedOpen_int (zero := #[.int .i64 0]) (t := 3) h (of_decide_eq_true (by kernel_rfl)) (by kernel_rfl) rfl (by kernel_rfl) (by kernel_rfl) Tryd.underlying3 }
end Go.Proofs
namespace Go.Ev.S
open Go Go.Proofs Go.Ev
theorem ok_0 [MaxL] : okRange cx 0 40 = true := by kernel_rfl
theorem ok_40 [MaxL] : okRange cx 40 40 = true := by kernel_rfl
theorem ok_80 [MaxL] : okRange cx 80 40 = true := by kernel_rfl
theorem ok_120 [MaxL] : okRange cx 120 40 = true := by kernel_rfl
theorem ok_160 [MaxL] : okRange cx 160 4 = true := by kernel_rfl
theorem fsize : Tryd.prog.funcs.size = 164 := by kernel_rfl
theorem all_ok [MaxL] (f : Nat) (h : f < 164) : okOne cx f = true := by
  rcases Nat.lt_or_ge f 40 with h0 | h0
  · exact okRange_get ok_0 (by omega) (by omega)
  rcases Nat.lt_or_ge f 80 with h1 | h1
  · exact okRange_get ok_40 (by omega) (by omega)
  rcases Nat.lt_or_ge f 120 with h2 | h2
  · exact okRange_get ok_80 (by omega) (by omega)
  rcases Nat.lt_or_ge f 160 with h3 | h3
  · exact okRange_get ok_120 (by omega) (by omega)
  exact okRange_get ok_160 (by omega) (by omega)
set_option maxRecDepth 100000 in
theorem good [MaxL] : Good cx where
  mixed := by kernel_rfl
  okc f fn c hf hc hb := (okOne_get (all_ok f (by rw [← fsize]; exact (Array.getElem?_eq_some_iff.1 hf).1)) hf).2 c hc hb
  ng f fn hf := (okOne_get (all_ok f (by rw [← fsize]; exact (Array.getElem?_eq_some_iff.1 hf).1)) hf).1
  ext f fn args d hf hn h ok w ι H vs hs hv := by
    · have : cx.ext f args = none := by
        show extT f args = none
        unfold extT
        rfl
      rw [this] at h
      cases h
  con f args H r H' h ok w ι vs hs hv := by
    by_cases h96 : f = 96
    · subst h96
      rw [co96] at h
      exact conIdx_run (X := cx) (m := MaxL.m) Tryd.lays219 rfl h hs hv
    by_cases h64 : f = 64
    · subst h64
      rw [co64] at h
      exact conBIdx_run (X := cx) (m := MaxL.m) Tryd.lays185 rfl h hs hv
    by_cases h123 : f = 123
    · subst h123
      rw [co123] at h
      exact conClone_run (X := cx) Tryd.laysM316 h hs hv
    by_cases h114 : f = 114
    · subst h114
      rw [co114] at h
      exact conLen64_run (X := cx) Tryd.lays129 h hs hv
    by_cases h89 : f = 89
    · subst h89
      rw [co89] at h
      exact conSmall_run (X := cx) Tryd.lays283 h hs hv
    · have : cx.con f args H = none := by
        show conT f args H = none
        unfold conT
        split
        · exact absurd rfl h96
        · exact absurd rfl h64
        · exact absurd rfl h123
        · exact absurd rfl h114
        · exact absurd rfl h89
        · rfl
      rw [this] at h
      cases h
end Go.Ev.S
namespace Go.Ev.S
open Go Go.Proofs Go.Ev
theorem globs [MaxL] {W : World} (h : laidMet Tryd.prog YtaponndjgdfkbaaDoor.Rows.httpSaysRow.laid W) (hm0 : W.cell? ⟨0, 0, none⟩ = some (.int .i64 MaxL.m)) : ∀ g cs, cx.glob g = some cs → Rep (· < W.heap.size) W iota0 [] (.vptr cs) (.pointer (some ⟨g, 0, none⟩)) := by
  unfold YtaponndjgdfkbaaDoor.Rows.httpSaysRow at h
  have t4 := rep_tab (g := 4) (zs := gz4) (Lib.tabIs_of_head (g := 4) (t := 166) (e := 5) (n := 32) (k := .u8) (by kernel_rfl) (by kernel_rfl) (by kernel_rfl) (by kernel_rfl) (by kernel_rfl) (by kernel_rfl) h) (by kernel_rfl)
  replace h := h.tail
  have t5 := rep_tab (g := 5) (zs := gz5) (Lib.tabIs_of_head (g := 5) (t := 167) (e := 5) (n := 64) (k := .u8) (by kernel_rfl) (by kernel_rfl) (by kernel_rfl) (by kernel_rfl) (by kernel_rfl) (by kernel_rfl) h) (by kernel_rfl)
  replace h := h.tail
  have t1 := rep_tab (g := 1) (zs := gz1) (Lib.tabIs_of_head (g := 1) (t := 148) (e := 24) (n := 20) (k := .u64) (by kernel_rfl) (by kernel_rfl) (by kernel_rfl) (by kernel_rfl) (by kernel_rfl) (by kernel_rfl) h) (by kernel_rfl)
  replace h := h.tail
  have t3 := rep_err (g := 3) (text := gs3) (by kernel_rfl) (laid_sentinel (g := 3) (ti := 103) (tp := 163) (te := 165) (ts := 9) h (by kernel_rfl) (by kernel_rfl) Tryd.underlying103 (err_row (base := "errors.errorString") (by decide) (by kernel_rfl) (by kernel_rfl) (by decide)) Tryd.underlying163 Tryd.underlying165 rfl rfl (by kernel_rfl) (by kernel_rfl) (by kernel_rfl))
  replace h := h.tail
  have t2 := rep_err (g := 2) (text := gs2) (by kernel_rfl) (laid_sentinel (g := 2) (ti := 103) (tp := 163) (te := 165) (ts := 9) h (by kernel_rfl) (by kernel_rfl) Tryd.underlying103 (err_row (base := "errors.errorString") (by decide) (by kernel_rfl) (by kernel_rfl) (by decide)) Tryd.underlying163 Tryd.underlying165 rfl rfl (by kernel_rfl) (by kernel_rfl) (by kernel_rfl))
  intro g cs hg
  have hgl : globT g = some cs := hg
  unfold globT at hgl
  split at hgl
  · cases hgl; exact t1
  · cases hgl; exact t2
  · cases hgl; exact t3
  · cases hgl; exact t4
  · cases hgl; exact t5
  · cases hgl; exact rep_one hm0
  · cases hgl
end Go.Ev.S
/- Names, marks. -/
namespace Go.Ev
open Go Go.Proofs
/-- A name of sixteen bytes. -/
structure ID where
  l : List UInt8
  h : l.length = 16
  deriving DecidableEq
@[simp] theorem ID.len (i : ID) : i.l.length = 16 := i.h
theorem ID.ext' {a b : ID} (h : a.l = b.l) : a = b := by cases a; cases b; simp at h; subst h; rfl
instance : Enc ID := ⟨16, fun i => ofBytes i.l, fun i => by simp, fun i => by simp⟩
theorem ID.cells (i : ID) : Enc.cells i = ofBytes i.l := rfl
def ID.zero : ID := ⟨List.replicate 16 0, by simp⟩
theorem cellsEq_bytes : ∀ (x y : List UInt8), x.length = y.length → cellsEq (List.replicate x.length .i) (ofBytes x) (ofBytes y) = some (x == y)
  | [], [], _ => rfl
  | a :: x, b :: y, h => by
    have ih := cellsEq_bytes x y (by simpa using h)
    simp only [List.length_cons, List.replicate_succ, ofBytes, List.map_cons, cellsEq, cellEq]
    simp only [ofBytes] at ih
    rw [ih]
    have : ((a.toNat : Int) == (b.toNat : Int)) = (a == b) := by
      rw [Bool.eq_iff_iff]
      simp only [beq_iff_eq, Int.natCast_inj]
      exact ⟨fun h => UInt8.toNat_inj.1 h, fun h => by rw [h]⟩
    simp [this]
  | [], _ :: _, h => by simp at h
  | _ :: _, [], h => by simp at h
theorem cellsEq_app : ∀ (k1 k2 : List CK) (a1 a2 b1 b2 : List D), k1.length = a1.length → k1.length = b1.length → cellsEq (k1 ++ k2) (a1 ++ a2) (b1 ++ b2) = match cellsEq k1 a1 b1, cellsEq k2 a2 b2 with
    | some x, some y => some (x && y)
    | _, _ => none
  | [], k2, [], a2, [], b2, _, _ => by
    simp only [List.nil_append, cellsEq]
    cases cellsEq k2 a2 b2 <;> simp
  | k :: k1, k2, a :: a1, a2, b :: b1, b2, h1, h2 => by
    simp only [List.cons_append, cellsEq, cellsEq_app k1 k2 a1 a2 b1 b2 (by simpa using h1) (by simpa using h2)]
    cases cellEq k a b <;> cases cellsEq k1 a1 b1 <;> cases cellsEq k2 a2 b2 <;> simp [Bool.and_assoc]
  | [], _, _ :: _, _, _, _, h, _ => by simp at h
  | [], _, [], _, _ :: _, _, _, h => by simp at h
  | _ :: _, _, [], _, _, _, h, _ => by simp at h
  | _ :: _, _, _ :: _, _, [], _, _, h => by simp at h
@[simp] theorem cellsEq16 (x y : ID) : cellsEq [.i, .i, .i, .i, .i, .i, .i, .i, .i, .i, .i, .i, .i, .i, .i, .i] (ofBytes x.l) (ofBytes y.l) = some (x == y) := by
  have := cellsEq_bytes x.l y.l (by simp)
  rw [x.h] at this
  have e : (x.l == y.l) = (x == y) := by
    rw [Bool.eq_iff_iff]
    simp only [beq_iff_eq]
    exact ⟨ID.ext', fun h => by rw [h]⟩
  rw [e] at this
  exact this
/-- A mark. -/
structure Mk where
  id : ID
  seq : Int
  lost : Int
  over : Int
  deriving DecidableEq
def isU64 (n : Int) : Prop := 0 ≤ n ∧ n < 18446744073709551616
structure Mk.Ok (m : Mk) : Prop where
  seq : isU64 m.seq
  lost : isU64 m.lost
  over : isU64 m.over
def Mk.tl (m : Mk) : List D := [.int .u64 m.seq, .int .u64 m.lost, .int .u64 m.over]
instance : Enc Mk := ⟨19, fun m => ofBytes m.id.l ++ m.tl, fun m => by simp [Mk.tl], fun m => by simp [Mk.tl, idFree]⟩
theorem Mk.cells (m : Mk) : Enc.cells m = ofBytes m.id.l ++ [.int .u64 m.seq, .int .u64 m.lost, .int .u64 m.over] := rfl
@[simp] theorem Mk.size : Enc.size Mk = 19 := rfl
@[simp] theorem ID.size : Enc.size ID = 16 := rfl
@[simp] theorem Mk.cl (a : Mk) : (Enc.cells a).length = 19 := Enc.len a
@[simp] theorem Mk.ct (a : Mk) (r : List D) : (Enc.cells a ++ r).take 19 = Enc.cells a := cells_take rfl a r
@[simp] theorem Mk.ct' (a : Mk) : (Enc.cells a).take 19 = Enc.cells a := cells_take' rfl a
@[simp] theorem Mk.cd (a : Mk) (r : List D) : (Enc.cells a ++ r).drop 19 = r := cells_drop rfl a r
@[simp] theorem Mk.el (l : List Mk) : (encs l).length = l.length * 19 := encs_len' rfl l
@[simp] theorem Mk.ed (l : List Mk) (i : Nat) : (encs l).drop (i * 19) = encs (l.drop i) := encs_drop rfl l i
@[simp] theorem Mk.et (l : List Mk) (i : Nat) : (encs l).take (i * 19) = encs (l.take i) := encs_take rfl l i
@[simp high] theorem Mk.ea {l : List Mk} {i : Nat} (h : i < l.length) : (encs l).drop (i * 19) = Enc.cells l[i] ++ encs (l.drop (i + 1)) := encs_at rfl h
@[simp high] theorem Mk.es (m : Mk) {l : List Mk} {j : Nat} (h : j < l.length) : setRange (encs l) (j * 19) (Enc.cells m) = encs (l.set j m) := encs_set rfl m l h
theorem drop_bytes {s : List UInt8} {n : Nat} (h : s.length ≤ n) : (ofBytes s).drop n = [] := List.drop_eq_nil_of_le (by simpa using h)
@[simp] theorem Mk.t16 (m : Mk) : (Enc.cells m).take 16 = ofBytes m.id.l := by simp [Mk.cells]
@[simp] theorem Mk.t16' (m : Mk) (r : List D) : (Enc.cells m ++ r).take 16 = ofBytes m.id.l := by simp [Mk.cells]
@[simp] theorem Mk.d16 (m : Mk) : (Enc.cells m).drop 16 = [.int .u64 m.seq, .int .u64 m.lost, .int .u64 m.over] := by simp [Mk.cells]
@[simp] theorem Mk.d17 (m : Mk) : (Enc.cells m).drop 17 = [.int .u64 m.lost, .int .u64 m.over] := by simp [Mk.cells, List.drop_append, drop_bytes]
@[simp] theorem Mk.d18 (m : Mk) : (Enc.cells m).drop 18 = [.int .u64 m.over] := by simp [Mk.cells, List.drop_append, drop_bytes]
@[simp] theorem Mk.d16' (m : Mk) (r : List D) : (Enc.cells m ++ r).drop 16 = [.int .u64 m.seq, .int .u64 m.lost, .int .u64 m.over] ++ r := by simp [Mk.cells]
@[simp] theorem Mk.d17' (m : Mk) (r : List D) : (Enc.cells m ++ r).drop 17 = [.int .u64 m.lost, .int .u64 m.over] ++ r := by simp [Mk.cells, List.drop_append, drop_bytes]
@[simp] theorem Mk.d18' (m : Mk) (r : List D) : (Enc.cells m ++ r).drop 18 = [.int .u64 m.over] ++ r := by simp [Mk.cells, List.drop_append, drop_bytes]
@[simp] theorem Mk.g16 (m : Mk) (h) : (Enc.cells m)[16]'h = .int .u64 m.seq := by simp [Mk.cells]
@[simp] theorem Mk.g17 (m : Mk) (h) : (Enc.cells m)[17]'h = .int .u64 m.lost := by simp [Mk.cells]
@[simp] theorem Mk.g18 (m : Mk) (h) : (Enc.cells m)[18]'h = .int .u64 m.over := by simp [Mk.cells]
@[simp] theorem Mk.s16 (m : Mk) (x : Int) : setRange (Enc.cells m) 16 [.int .u64 x] = Enc.cells { m with seq := x } := by simp [Mk.cells, List.drop_append, drop_bytes]
@[simp] theorem Mk.s17 (m : Mk) (x : Int) : setRange (Enc.cells m) 17 [.int .u64 x] = Enc.cells { m with lost := x } := by simp [Mk.cells, List.take_append, List.drop_append, drop_bytes, List.take_of_length_le]
@[simp] theorem Mk.s18 (m : Mk) (x : Int) : setRange (Enc.cells m) 18 [.int .u64 x] = Enc.cells { m with over := x } := by simp [Mk.cells, List.take_append, List.drop_append, drop_bytes, List.take_of_length_le]
theorem cellsEqMk (x y : Mk) : cellsEq [.i, .i, .i, .i, .i, .i, .i, .i, .i, .i, .i, .i, .i, .i, .i, .i, .i, .i, .i] (Enc.cells x) (Enc.cells y) = some (x == y) := by
  have h := cellsEq_app [.i, .i, .i, .i, .i, .i, .i, .i, .i, .i, .i, .i, .i, .i, .i, .i] [.i, .i, .i] (ofBytes x.id.l) x.tl (ofBytes y.id.l) y.tl (by simp) (by simp)
  rw [cellsEq16] at h
  have e : cellsEq [.i, .i, .i] x.tl y.tl = some (x.seq == y.seq && (x.lost == y.lost && x.over == y.over)) := by simp [Mk.tl, cellsEq]
  rw [e] at h
  have e2 : (x == y) = (x.id == y.id && (x.seq == y.seq && (x.lost == y.lost && x.over == y.over))) := by
    rw [Bool.eq_iff_iff]
    cases x; cases y
    simp [Mk.mk.injEq, beq_iff_eq]
  rw [e2]
  exact h
end Go.Ev
/- Fields, records, items. -/
namespace Go.Ev
open Go Go.Proofs
/-- A field. -/
structure Pr where
  name : List UInt8
  value : List UInt8
  deriving DecidableEq
instance : Enc Pr := ⟨2, fun p => [.str p.name, .str p.value], fun _ => rfl, fun _ => rfl⟩
theorem Pr.cells (p : Pr) : Enc.cells p = [.str p.name, .str p.value] := rfl
@[simp] theorem Pr.size : Enc.size Pr = 2 := rfl
@[simp] theorem Pr.cl (a : Pr) : (Enc.cells a).length = 2 := Enc.len a
@[simp] theorem Pr.ct (a : Pr) (r : List D) : (Enc.cells a ++ r).take 2 = Enc.cells a := cells_take rfl a r
@[simp] theorem Pr.ct' (a : Pr) : (Enc.cells a).take 2 = Enc.cells a := cells_take' rfl a
@[simp] theorem Pr.cd (a : Pr) (r : List D) : (Enc.cells a ++ r).drop 2 = r := cells_drop rfl a r
@[simp] theorem Pr.el (l : List Pr) : (encs l).length = l.length * 2 := encs_len' rfl l
@[simp] theorem Pr.ed (l : List Pr) (i : Nat) : (encs l).drop (i * 2) = encs (l.drop i) := encs_drop rfl l i
@[simp] theorem Pr.et (l : List Pr) (i : Nat) : (encs l).take (i * 2) = encs (l.take i) := encs_take rfl l i
@[simp high] theorem Pr.ea {l : List Pr} {i : Nat} (h : i < l.length) : (encs l).drop (i * 2) = Enc.cells l[i] ++ encs (l.drop (i + 1)) := encs_at rfl h
@[simp high] theorem Pr.es (m : Pr) {l : List Pr} {j : Nat} (h : j < l.length) : setRange (encs l) (j * 2) (Enc.cells m) = encs (l.set j m) := encs_set rfl m l h
/-- A record. -/
structure Rec where
  seq : Int
  real : Int
  mono : Int
  boot : ID
  fields : Sl Pr
instance : Enc Rec := ⟨20, fun r => [.int .u64 r.seq, .int .u64 r.real, .int .u64 r.mono] ++ (ofBytes r.boot.l ++ [(.vsl r.fields.nil (encs r.fields.l) r.fields.l.length)]), fun r => by simp, fun r => by simp [idFree]⟩
theorem Rec.cells (r : Rec) : Enc.cells r = [.int .u64 r.seq, .int .u64 r.real, .int .u64 r.mono] ++ (ofBytes r.boot.l ++ [(.vsl r.fields.nil (encs r.fields.l) r.fields.l.length)]) := rfl
@[simp] theorem Rec.size : Enc.size Rec = 20 := rfl
structure Rec.Ok (r : Rec) : Prop where
  seq : isU64 r.seq
  real : isU64 r.real
  mono : isU64 r.mono
@[simp] theorem Rec.cl (a : Rec) : (Enc.cells a).length = 20 := Enc.len a
@[simp] theorem Rec.ct (a : Rec) (r : List D) : (Enc.cells a ++ r).take 20 = Enc.cells a := cells_take rfl a r
@[simp] theorem Rec.ct' (a : Rec) : (Enc.cells a).take 20 = Enc.cells a := cells_take' rfl a
@[simp] theorem Rec.cd (a : Rec) (r : List D) : (Enc.cells a ++ r).drop 20 = r := cells_drop rfl a r
@[simp] theorem Rec.el (l : List Rec) : (encs l).length = l.length * 20 := encs_len' rfl l
@[simp] theorem Rec.ed (l : List Rec) (i : Nat) : (encs l).drop (i * 20) = encs (l.drop i) := encs_drop rfl l i
@[simp] theorem Rec.et (l : List Rec) (i : Nat) : (encs l).take (i * 20) = encs (l.take i) := encs_take rfl l i
@[simp high] theorem Rec.ea {l : List Rec} {i : Nat} (h : i < l.length) : (encs l).drop (i * 20) = Enc.cells l[i] ++ encs (l.drop (i + 1)) := encs_at rfl h
@[simp high] theorem Rec.es (m : Rec) {l : List Rec} {j : Nat} (h : j < l.length) : setRange (encs l) (j * 20) (Enc.cells m) = encs (l.set j m) := encs_set rfl m l h
/-- An item: an entry of a sequence, or numbers of it that are lost. -/
structure It where
  id : ID
  gap : Bool
  fr : Int
  to : Int
  rc : Rec
instance : Enc It := ⟨39, fun i => ofBytes i.id.l ++ ([.bool i.gap, .int .u64 i.fr, .int .u64 i.to] ++ Enc.cells i.rc), fun i => by simp, fun i => by simp [idFree]⟩
theorem It.cells (i : It) : Enc.cells i = ofBytes i.id.l ++ ([.bool i.gap, .int .u64 i.fr, .int .u64 i.to] ++ ([.int .u64 i.rc.seq, .int .u64 i.rc.real, .int .u64 i.rc.mono] ++ (ofBytes i.rc.boot.l ++ [(.vsl i.rc.fields.nil (encs i.rc.fields.l) i.rc.fields.l.length)]))) := rfl
@[simp] theorem It.size : Enc.size It = 39 := rfl
structure It.Ok (i : It) : Prop where
  fr : isU64 i.fr
  to : isU64 i.to
  rc : i.rc.Ok
@[simp] theorem It.cl (a : It) : (Enc.cells a).length = 39 := Enc.len a
@[simp] theorem It.ct (a : It) (r : List D) : (Enc.cells a ++ r).take 39 = Enc.cells a := cells_take rfl a r
@[simp] theorem It.ct' (a : It) : (Enc.cells a).take 39 = Enc.cells a := cells_take' rfl a
@[simp] theorem It.cd (a : It) (r : List D) : (Enc.cells a ++ r).drop 39 = r := cells_drop rfl a r
@[simp] theorem It.el (l : List It) : (encs l).length = l.length * 39 := encs_len' rfl l
@[simp] theorem It.ed (l : List It) (i : Nat) : (encs l).drop (i * 39) = encs (l.drop i) := encs_drop rfl l i
@[simp] theorem It.et (l : List It) (i : Nat) : (encs l).take (i * 39) = encs (l.take i) := encs_take rfl l i
@[simp high] theorem It.ea {l : List It} {i : Nat} (h : i < l.length) : (encs l).drop (i * 39) = Enc.cells l[i] ++ encs (l.drop (i + 1)) := encs_at rfl h
@[simp high] theorem It.es (m : It) {l : List It} {j : Nat} (h : j < l.length) : setRange (encs l) (j * 39) (Enc.cells m) = encs (l.set j m) := encs_set rfl m l h
@[simp] theorem It.t16 (i : It) : (Enc.cells i).take 16 = ofBytes i.id.l := by simp [It.cells]
@[simp] theorem It.t16' (i : It) (r : List D) : (Enc.cells i ++ r).take 16 = ofBytes i.id.l := by simp [It.cells]
@[simp] theorem It.d16 (i : It) : (Enc.cells i).drop 16 = .bool i.gap :: .int .u64 i.fr :: .int .u64 i.to :: .int .u64 i.rc.seq :: .int .u64 i.rc.real :: .int .u64 i.rc.mono :: (ofBytes i.rc.boot.l ++ [(.vsl i.rc.fields.nil (encs i.rc.fields.l) i.rc.fields.l.length)]) := by simp [It.cells]
@[simp] theorem It.d17 (i : It) : (Enc.cells i).drop 17 = .int .u64 i.fr :: .int .u64 i.to :: .int .u64 i.rc.seq :: .int .u64 i.rc.real :: .int .u64 i.rc.mono :: (ofBytes i.rc.boot.l ++ [(.vsl i.rc.fields.nil (encs i.rc.fields.l) i.rc.fields.l.length)]) := by simp [It.cells, List.drop_append, drop_bytes]
@[simp] theorem It.d18 (i : It) : (Enc.cells i).drop 18 = .int .u64 i.to :: .int .u64 i.rc.seq :: .int .u64 i.rc.real :: .int .u64 i.rc.mono :: (ofBytes i.rc.boot.l ++ [(.vsl i.rc.fields.nil (encs i.rc.fields.l) i.rc.fields.l.length)]) := by simp [It.cells, List.drop_append, drop_bytes]
@[simp] theorem It.d19 (i : It) : (Enc.cells i).drop 19 = .int .u64 i.rc.seq :: .int .u64 i.rc.real :: .int .u64 i.rc.mono :: (ofBytes i.rc.boot.l ++ [(.vsl i.rc.fields.nil (encs i.rc.fields.l) i.rc.fields.l.length)]) := by simp [It.cells, List.drop_append, drop_bytes]
@[simp] theorem It.d20 (i : It) : (Enc.cells i).drop 20 = .int .u64 i.rc.real :: .int .u64 i.rc.mono :: (ofBytes i.rc.boot.l ++ [(.vsl i.rc.fields.nil (encs i.rc.fields.l) i.rc.fields.l.length)]) := by simp [It.cells, List.drop_append, drop_bytes]
@[simp] theorem It.d21 (i : It) : (Enc.cells i).drop 21 = .int .u64 i.rc.mono :: (ofBytes i.rc.boot.l ++ [(.vsl i.rc.fields.nil (encs i.rc.fields.l) i.rc.fields.l.length)]) := by simp [It.cells, List.drop_append, drop_bytes]
@[simp] theorem It.d22 (i : It) : (Enc.cells i).drop 22 = ofBytes i.rc.boot.l ++ [(.vsl i.rc.fields.nil (encs i.rc.fields.l) i.rc.fields.l.length)] := by simp [It.cells, List.drop_append, drop_bytes]
@[simp] theorem It.d38 (i : It) : (Enc.cells i).drop 38 = [(.vsl i.rc.fields.nil (encs i.rc.fields.l) i.rc.fields.l.length)] := by simp [It.cells, List.drop_append, drop_bytes]
end Go.Ev
/- Numbers in bytes, the lowest first. -/
namespace Go.Ev
open Go Go.Proofs
/-- The number that bytes are. -/
def leN : List UInt8 → Nat
  | [] => 0
  | b :: l => b.toNat + 256 * leN l
/-- The lowest n bytes of a number. -/
def leB : Nat → Nat → List UInt8
  | 0, _ => []
  | n + 1, v => UInt8.ofNat (v % 256) :: leB n (v / 256)
@[simp] theorem leB_len : ∀ (n v : Nat), (leB n v).length = n
  | 0, _ => rfl
  | n + 1, v => by simp [leB, leB_len n]
theorem leN_lt : ∀ (l : List UInt8), leN l < 256 ^ l.length
  | [] => by simp [leN]
  | b :: l => by
    have h1 := leN_lt l
    have h2 := b.toNat_lt
    simp only [leN, List.length_cons, Nat.pow_succ]
    omega
theorem leN_leB : ∀ (n v : Nat), leN (leB n v) = v % 256 ^ n
  | 0, v => by simp [leB, leN, Nat.mod_one]
  | n + 1, v => by
    simp only [leB, leN, leN_leB n]
    rw [UInt8.toNat_ofNat_of_lt' (Nat.mod_lt _ (by decide)), Nat.pow_succ, Nat.mul_comm (256 ^ n) 256, Nat.mod_mul]
theorem leB_leN : ∀ (l : List UInt8), leB l.length (leN l) = l
  | [] => rfl
  | b :: l => by
    have h2 := b.toNat_lt
    have e1 : (b.toNat + 256 * leN l) % 256 = b.toNat := by omega
    have e2 : (b.toNat + 256 * leN l) / 256 = leN l := by omega
    simp only [List.length_cons, leN, leB, e1, e2, leB_leN l]
    simp
theorem leB_snoc : ∀ (n v : Nat), leB (n + 1) v = leB n v ++ [UInt8.ofNat (v / 256 ^ n % 256)]
  | 0, v => by simp [leB]
  | n + 1, v => by
    rw [leB, leB_snoc n (v / 256), leB, List.cons_append, Nat.div_div_eq_div_mul, Nat.pow_succ, Nat.mul_comm 256]
theorem leN_append : ∀ (a b : List UInt8), leN (a ++ b) = leN a + 256 ^ a.length * leN b
  | [], b => by simp [leN]
  | x :: a, b => by
    simp only [List.cons_append, leN, leN_append a b, List.length_cons, Nat.pow_succ]
    rw [Nat.mul_add, ← Nat.mul_assoc, Nat.mul_comm 256 (256 ^ a.length), Nat.add_assoc]
theorem ofBytes_append (a b : List UInt8) : ofBytes (a ++ b) = ofBytes a ++ ofBytes b := by simp [ofBytes]
theorem ofBytes_cons (a : UInt8) (b : List UInt8) : ofBytes (a :: b) = .int .u8 (a.toNat : Int) :: ofBytes b := rfl
theorem ofBytes_drop (l : List UInt8) (i : Nat) : (ofBytes l).drop i = ofBytes (l.drop i) := by simp [ofBytes]
theorem ofBytes_take (l : List UInt8) (i : Nat) : (ofBytes l).take i = ofBytes (l.take i) := by simp [ofBytes]
theorem ofBytes_at {l : List UInt8} {i : Nat} (h : i < l.length) : (ofBytes l).drop i = .int .u8 (l[i].toNat : Int) :: ofBytes (l.drop (i + 1)) := by
  rw [ofBytes_drop, List.drop_eq_getElem_cons h, ofBytes_cons]
theorem ofBytes_get {l : List UInt8} {i : Nat} (h : i < (ofBytes l).length) : (ofBytes l)[i] = .int .u8 ((l[i]'(by simpa using h)).toNat : Int) := by simp [ofBytes]
@[simp] theorem bytesD_of (s : List UInt8) : bytesD (ofBytes s) = some s := by
  induction s with
  | nil => rfl
  | cons a s ih =>
    have : bytesD (ofBytes (a :: s)) = (bytesD (ofBytes s)).map fun r => UInt8.ofNat ((a.toNat : Int)).toNat :: r := rfl
    rw [this, ih]
    simp
theorem or_shl (x y : Nat) (h : y < 256) : (x * 256) ||| y = x * 256 + y := by
  have := Nat.shiftLeft_add_eq_or_of_lt (b := y) (i := 8) (by simpa using h) x
  rw [Nat.shiftLeft_eq] at this
  simpa using this.symm
/-- A slice of one's own that grows, none at first. -/
def BufE {α : Type} [Enc α] (n : Nat) (d : D) (H : Heap) (l : List α) : Prop := (d = .vsl true [] 0 ∧ l = [] ∧ H = []) ∨ (d = .osl 0 (l.length * n) 0 l.length n ∧ H = [some (encs l)] ∧ l ≠ [])
theorem BufE.snoc {α : Type} [Enc α] {n : Nat} (l : List α) (a : α) : BufE n (.osl 0 (l.length * n + n) 0 (l.length + 1) n) [some (encs l ++ Enc.cells a)] (l ++ [a]) :=
  .inr ⟨by simp [Nat.add_mul], by simp [encs_snoc], by simp⟩
theorem BufE.one {α : Type} [Enc α] {n : Nat} (a : α) : BufE n (.osl 0 n 0 1 n) [some (Enc.cells a)] ([] ++ [a]) :=
  .inr ⟨by simp, by simp [encs_one], by simp⟩
/-- A list as a slice: none where it is empty. -/
def Sl.grown {α : Type} (l : List α) : Sl α := ⟨l.isEmpty, l, by simp⟩
@[simp] theorem Sl.grown_l {α : Type} (l : List α) : (Sl.grown l).l = l := rfl
def ID.mk' (l : List UInt8) : ID := if h : l.length = 16 then ⟨l, h⟩ else ID.zero
theorem ID.mk'_l {l : List UInt8} (h : l.length = 16) : (ID.mk' l).l = l := by unfold ID.mk'; rw [dif_pos h]
/-- The mark that bytes are. -/
def mkOf (r : List UInt8) : Mk := ⟨ID.mk' (r.take 16), leN ((r.drop 16).take 8), leN ((r.drop 24).take 8), leN ((r.drop 32).take 8)⟩
def lastGe (out : List Mk) (id : List UInt8) : Bool := match out.getLast? with
  | some m => decide (0 ≤ cmpB m.id.l id)
  | none => false
/-- Marks that are read one behind the other: what is read, the code. -/
def readGo : Nat → List UInt8 → List Mk → List Mk × Int
  | 0, _, out => (out, 0)
  | k + 1, r, out => if r.length < 16 then ([], 22) else if lastGe out (r.take 16) then ([], 13) else if r.length < 40 then ([], 22) else readGo k (r.drop 40) (out ++ [mkOf r])
def readM : List UInt8 → List Mk × Int
  | [] => ([], 22)
  | c :: r => if 4 < c.toNat then ([], 21) else readGo c.toNat r []
def readN (x : List Mk × Int) : Int := if x.2 = 0 then 1 + 40 * (x.1.length : Int) else 0
end Go.Ev
/- What arguments of plain data are, as data of one's own. -/
namespace Go.Ev
open Go Go.Proofs
section
variable {P : Program} {n : Nat} {t e : TypeId} {cs : List D}
theorem has_bool (hu : P.underlying t = some .bool) (h : HasT P (n + 1) t cs) : ∃ b, cs = [.bool b] := by
  unfold HasT at h; rw [hu] at h; exact h
theorem has_int {k : IntKind} (hu : P.underlying t = some (.int k)) (h : HasT P (n + 1) t cs) : ∃ x, cs = [.int k x] ∧ (Lit.int k x).wf = true := by
  unfold HasT at h; rw [hu] at h; exact h
theorem has_u64 (hu : P.underlying t = some (.int .u64)) (h : HasT P (n + 1) t cs) : ∃ x, cs = [.int .u64 x] ∧ isU64 x := by
  obtain ⟨x, h1, h2⟩ := has_int hu h
  refine ⟨x, h1, ?_⟩
  simp [Lit.wf, IntKind.min, IntKind.max, IntKind.signed, IntKind.bits] at h2
  unfold isU64
  omega
def isI64 (n : Int) : Prop := -9223372036854775808 ≤ n ∧ n < 9223372036854775808
theorem has_i64 (hu : P.underlying t = some (.int .i64)) (h : HasT P (n + 1) t cs) : ∃ x, cs = [.int .i64 x] ∧ isI64 x := by
  obtain ⟨x, h1, h2⟩ := has_int hu h
  refine ⟨x, h1, ?_⟩
  simp [Lit.wf, IntKind.min, IntKind.max, IntKind.signed, IntKind.bits] at h2
  unfold isI64
  omega
theorem has_u8 (hu : P.underlying t = some (.int .u8)) (h : HasT P (n + 1) t cs) : ∃ x : UInt8, cs = [.int .u8 x.toNat] := by
  obtain ⟨x, h1, h2⟩ := has_int hu h
  simp [Lit.wf, IntKind.min, IntKind.max, IntKind.signed, IntKind.bits] at h2
  refine ⟨UInt8.ofNat x.toNat, ?_⟩
  rw [h1, UInt8.toNat_ofNat_of_lt' (by simp; omega)]
  congr 2
  omega
theorem has_str (hu : P.underlying t = some .string) (h : HasT P (n + 1) t cs) : ∃ s, cs = [.str s] ∧ s.length ≤ maxLen := by
  unfold HasT at h; rw [hu] at h; exact h
theorem rows_bytes {e : TypeId} (hu : P.underlying e = some (.int .u8)) : ∀ (ls : List (List D)), (∀ l, l ∈ ls → l.length = P.cellsOf e ∧ HasT P (n + 1) e l) → ∃ s : List UInt8, ls.flatten = ofBytes s ∧ s.length = ls.length
  | [], _ => ⟨[], rfl, rfl⟩
  | l :: ls, h => by
    obtain ⟨x, hx⟩ := has_u8 hu (h l (List.mem_cons_self ..)).2
    obtain ⟨s, h1, h2⟩ := rows_bytes hu ls fun l' hl => h l' (List.mem_cons_of_mem _ hl)
    exact ⟨x :: s, by rw [List.flatten_cons, hx, h1]; rfl, by simp [h2]⟩
theorem has_id (hu : P.underlying t = some (.array 16 e)) (he : P.underlying e = some (.int .u8)) (h : HasT P (n + 2) t cs) : ∃ i : ID, cs = ofBytes i.l := by
  unfold HasT at h
  rw [hu] at h
  obtain ⟨ls, h1, h2, h3⟩ := h
  obtain ⟨s, s1, s2⟩ := rows_bytes he ls h3
  exact ⟨⟨s, by omega⟩, by rw [h1, s1]⟩
theorem has_bytes (hu : P.underlying t = some (.slice e)) (he : P.underlying e = some (.int .u8)) (h : HasT P (n + 2) t cs) : ∃ s : Sl UInt8, cs = [(.vsl s.nil (ofBytes s.l) s.l.length)] ∧ s.l.length ≤ maxLen := by
  unfold HasT at h
  rw [hu] at h
  rcases h with rfl | ⟨ls, h1, h2, h3⟩
  · exact ⟨.none, rfl, by simp⟩
  · obtain ⟨s, s1, s2⟩ := rows_bytes he ls h3
    exact ⟨.of s, by rw [h1, s1, ← s2]; rfl, by simp only [Sl.of_l]; omega⟩
theorem rows_enc {α : Type} [Enc α] {R : α → Prop} {Q : List D → Prop} (hel : ∀ l, Q l → ∃ a : α, l = Enc.cells a ∧ R a) : ∀ (ls : List (List D)), (∀ l, l ∈ ls → Q l) → ∃ s : List α, ls.flatten = encs s ∧ s.length = ls.length ∧ ∀ a, a ∈ s → R a
  | [], _ => ⟨[], rfl, rfl, by simp⟩
  | l :: ls, h => by
    obtain ⟨x, hx, hr⟩ := hel l (h l (List.mem_cons_self ..))
    obtain ⟨s, h1, h2, h3⟩ := rows_enc hel ls fun l' hl => h l' (List.mem_cons_of_mem _ hl)
    refine ⟨x :: s, by rw [List.flatten_cons, hx, h1, encs_cons], by simp [h2], fun a ha => ?_⟩
    rcases List.mem_cons.1 ha with rfl | ha
    · exact hr
    · exact h3 a ha
theorem has_slice {α : Type} [Enc α] {R : α → Prop} (hu : P.underlying t = some (.slice e)) (hel : ∀ l, HasT P n e l → ∃ a : α, l = Enc.cells a ∧ R a) (h : HasT P (n + 1) t cs) : ∃ s : Sl α, cs = [(.vsl s.nil (encs s.l) s.l.length)] ∧ s.l.length ≤ maxLen ∧ ∀ a, a ∈ s.l → R a := by
  unfold HasT at h
  rw [hu] at h
  rcases h with rfl | ⟨ls, h1, h2, h3⟩
  · exact ⟨.none, rfl, by simp, by simp⟩
  · obtain ⟨s, s1, s2, s3⟩ := rows_enc hel ls fun l hl => (h3 l hl).2
    exact ⟨.of s, by rw [h1, s1, ← s2]; rfl, by simp only [Sl.of_l]; omega, s3⟩
theorem has_struct {fs : Array Field} (hu : P.underlying t = some (.struct fs)) (h : HasT P (n + 1) t cs) : HasFs P (HasT P n) fs.toList cs := by
  unfold HasT at h; rw [hu] at h; exact h
end
/-- Cells back to a value. -/
theorem cor_val {W : World} {d : D} {v : Value} (h : Cor W [d] v.cells.toList) (ho : v.oneCell' = true) : Rep (· < W.heap.size) W iota0 [] d v := by
  have hv : v.cells.toList = [v] := by
    cases v <;> first | rfl | simp [Value.oneCell'] at ho
  rw [hv] at h
  exact h.2.2 0 d rfl
theorem cor_agg {W : World} {ds : List D} {vs : Array Value} (h : Cor W ds vs.toList) : Rep (· < W.heap.size) W iota0 [] (.agg ds) (.agg vs) := by
  refine .agg (by simpa using h.1.symm) h.2.1 fun j d hj => ?_
  have := h.2.2 j d hj
  simpa [List.getD_eq_getElem?_getD, Array.getD_eq_getD_getElem?] using this
end Go.Ev
namespace Go.Ev
open Go Go.Proofs
theorem one_slice {P : Program} {W : World} {base : Nat} {t e : TypeId} {v : Value} (hu : P.underlying t = some (.slice e)) (h : Value.okWide P W .any base t v) : v.oneCell' = true := by
  simp only [Value.okWide, hu, Cell.okWide] at h
  cases v <;> first | rfl | simp [Cell.ok, hu] at h
theorem one_bool {P : Program} {W : World} {base : Nat} {t : TypeId} {v : Value} (hu : P.underlying t = some .bool) (h : Value.okWide P W .any base t v) : v.oneCell' = true := by
  simp only [Value.okWide, hu, Cell.okWide] at h
  cases v <;> first | rfl | simp [Cell.ok, hu] at h
theorem one_int {P : Program} {W : World} {base : Nat} {t : TypeId} {k : IntKind} {v : Value} (hu : P.underlying t = some (.int k)) (h : Value.okWide P W .any base t v) : v.oneCell' = true := by
  simp only [Value.okWide, hu, Cell.okWide] at h
  cases v <;> first | rfl | simp [Cell.ok, hu] at h
theorem one_str {P : Program} {W : World} {base : Nat} {t : TypeId} {v : Value} (hu : P.underlying t = some .string) (h : Value.okWide P W .any base t v) : v.oneCell' = true := by
  simp only [Value.okWide, hu, Cell.okWide] at h
  cases v <;> first | rfl | simp [Cell.ok, hu] at h
theorem agg_struct {P : Program} {W : World} {base : Nat} {t : TypeId} {fs : Array Field} {v : Value} (hu : P.underlying t = some (.struct fs)) (h : Value.okWide P W .any base t v) : ∃ vs, v = .agg vs := by
  simp only [Value.okWide, hu] at h
  obtain ⟨cs, h, _⟩ := h
  exact ⟨cs, h⟩
theorem agg_array {P : Program} {W : World} {base : Nat} {t e : TypeId} {n : Nat} {v : Value} (hu : P.underlying t = some (.array n e)) (h : Value.okWide P W .any base t v) : ∃ vs, v = .agg vs := by
  simp only [Value.okWide, hu] at h
  obtain ⟨cs, h, _⟩ := h
  exact ⟨cs, h⟩
section
variable {H : Type} {enc : TypeId × Value → H} {P : Program} {W : World} {base n : Nat} {t e : TypeId} {v : Value} {d : DataW H} {ps : List MemPlace}
theorem arg_bytes (hu : P.underlying t = some (.slice e)) (he : P.underlying e = some (.int .u8)) (hp : PlainT P (n + 2) t = true) (hv : Value.okWide P W .any base t v) (h : DataW.Trod enc P W 0 (fun _ => true) true t v d ps) :
    ∃ s : Sl UInt8, Rep (· < W.heap.size) W iota0 [] (.vsl s.nil (ofBytes s.l) s.l.length) v ∧ s.l.length ≤ maxLen := by
  obtain ⟨ds, h1, h2⟩ := read_plain hp h
  obtain ⟨s, rfl, hl⟩ := has_bytes hu he h1
  exact ⟨s, cor_val h2 (one_slice hu hv), hl⟩
theorem arg_slice {α : Type} [Enc α] {R : α → Prop} (hu : P.underlying t = some (.slice e)) (hel : ∀ l, HasT P n e l → ∃ a : α, l = Enc.cells a ∧ R a) (hp : PlainT P (n + 1) t = true) (hv : Value.okWide P W .any base t v) (h : DataW.Trod enc P W 0 (fun _ => true) true t v d ps) :
    ∃ s : Sl α, Rep (· < W.heap.size) W iota0 [] (.vsl s.nil (encs s.l) s.l.length) v ∧ s.l.length ≤ maxLen ∧ ∀ a, a ∈ s.l → R a := by
  obtain ⟨ds, h1, h2⟩ := read_plain hp h
  obtain ⟨s, rfl, hl, hr⟩ := has_slice hu hel h1
  exact ⟨s, cor_val h2 (one_slice hu hv), hl, hr⟩
theorem arg_struct {α : Type} [Enc α] {R : α → Prop} {fs : Array Field} (hu : P.underlying t = some (.struct fs)) (hel : ∀ l, HasT P n t l → ∃ a : α, l = Enc.cells a ∧ R a) (hp : PlainT P n t = true) (hv : Value.okWide P W .any base t v) (h : DataW.Trod enc P W 0 (fun _ => true) true t v d ps) :
    ∃ a : α, Rep (· < W.heap.size) W iota0 [] (.agg (Enc.cells a)) v ∧ R a := by
  obtain ⟨ds, h1, h2⟩ := read_plain hp h
  obtain ⟨a, rfl, hr⟩ := hel ds h1
  obtain ⟨vs, rfl⟩ := agg_struct hu hv
  exact ⟨a, cor_agg h2, hr⟩
theorem arg_bool (hu : P.underlying t = some .bool) (hp : PlainT P (n + 1) t = true) (hv : Value.okWide P W .any base t v) (h : DataW.Trod enc P W 0 (fun _ => true) true t v d ps) : ∃ b, Rep (· < W.heap.size) W iota0 [] (.bool b) v := by
  obtain ⟨ds, h1, h2⟩ := read_plain hp h
  obtain ⟨b, rfl⟩ := has_bool hu h1
  exact ⟨b, cor_val h2 (one_bool hu hv)⟩
theorem arg_i64 (hu : P.underlying t = some (.int .i64)) (hp : PlainT P (n + 1) t = true) (hv : Value.okWide P W .any base t v) (h : DataW.Trod enc P W 0 (fun _ => true) true t v d ps) : ∃ b, Rep (· < W.heap.size) W iota0 [] (.int .i64 b) v ∧ isI64 b := by
  obtain ⟨ds, h1, h2⟩ := read_plain hp h
  obtain ⟨b, rfl, hb⟩ := has_i64 hu h1
  exact ⟨b, cor_val h2 (one_int hu hv), hb⟩
theorem arg_str (hu : P.underlying t = some .string) (hp : PlainT P (n + 1) t = true) (hv : Value.okWide P W .any base t v) (h : DataW.Trod enc P W 0 (fun _ => true) true t v d ps) : ∃ s, Rep (· < W.heap.size) W iota0 [] (.str s) v ∧ s.length ≤ maxLen := by
  obtain ⟨ds, h1, h2⟩ := read_plain hp h
  obtain ⟨b, rfl, hb⟩ := has_str hu h1
  exact ⟨b, cor_val h2 (one_str hu hv), hb⟩
end
theorem repL_nil' {ok : Nat → Prop} {w : World} {ι : Iota} {H : Heap} : RepL ok w ι H [] [] := ⟨rfl, by simp⟩
theorem repL_cons' {ok : Nat → Prop} {w : World} {ι : Iota} {H : Heap} {d : D} {v : Value} {ds : List D} {vs : List Value} (h : Rep ok w ι H d v) (hs : RepL ok w ι H ds vs) : RepL ok w ι H (d :: ds) (v :: vs) := by
  refine ⟨by simp [hs.1], fun j x hj => ?_⟩
  cases j with
  | zero => simp at hj; subst hj; exact h
  | succ j => exact hs.2 j x (by simpa using hj)
/-- Fields as they may come in. -/
def Rec.Fit (r : Rec) : Prop := r.fields.l.length ≤ maxLen ∧ ∀ p, p ∈ r.fields.l → p.name.length ≤ maxLen ∧ p.value.length ≤ maxLen
end Go.Ev
/- Cursors. -/
namespace Go.Ev
open Go Go.Proofs
@[simp] theorem ID.ta (i : ID) (r : List D) : (ofBytes i.l ++ r).take 16 = ofBytes i.l := by simp
@[simp] theorem ID.da (i : ID) (r : List D) : (ofBytes i.l ++ r).drop 16 = r := by simp
structure Cur where
  seq : ID
  n : Int
  boot : ID
  mono : Int
  real : Int
  xor : Int
  deriving DecidableEq
instance : Enc Cur := ⟨36, fun m => (ofBytes m.seq.l ++ (.int .u64 m.n :: (ofBytes m.boot.l ++ (.int .u64 m.mono :: (.int .u64 m.real :: (.int .u64 m.xor :: ([] : List D))))))), fun m => by simp, fun m => by simp [idFree]⟩
theorem Cur.cells (m : Cur) : Enc.cells m = (ofBytes m.seq.l ++ (.int .u64 m.n :: (ofBytes m.boot.l ++ (.int .u64 m.mono :: (.int .u64 m.real :: (.int .u64 m.xor :: ([] : List D))))))) := rfl
@[simp] theorem Cur.size : Enc.size Cur = 36 := rfl
@[simp] theorem Cur.cl (a : Cur) : (Enc.cells a).length = 36 := Enc.len a
@[simp] theorem Cur.ct (a : Cur) (r : List D) : (Enc.cells a ++ r).take 36 = Enc.cells a := cells_take rfl a r
@[simp] theorem Cur.ct' (a : Cur) : (Enc.cells a).take 36 = Enc.cells a := cells_take' rfl a
@[simp] theorem Cur.cd (a : Cur) (r : List D) : (Enc.cells a ++ r).drop 36 = r := cells_drop rfl a r
@[simp] theorem Cur.el (l : List Cur) : (encs l).length = l.length * 36 := encs_len' rfl l
@[simp] theorem Cur.ed (l : List Cur) (i : Nat) : (encs l).drop (i * 36) = encs (l.drop i) := encs_drop rfl l i
@[simp] theorem Cur.et (l : List Cur) (i : Nat) : (encs l).take (i * 36) = encs (l.take i) := encs_take rfl l i
@[simp high] theorem Cur.ea {l : List Cur} {i : Nat} (h : i < l.length) : (encs l).drop (i * 36) = Enc.cells l[i] ++ encs (l.drop (i + 1)) := encs_at rfl h
@[simp high] theorem Cur.es (m : Cur) {l : List Cur} {j : Nat} (h : j < l.length) : setRange (encs l) (j * 36) (Enc.cells m) = encs (l.set j m) := encs_set rfl m l h
@[simp] theorem Cur.t0 (m : Cur) : (Enc.cells m).take 16 = ofBytes m.seq.l := by simp [Cur.cells]
@[simp] theorem Cur.t0' (m : Cur) (r : List D) : (Enc.cells m ++ r).take 16 = ofBytes m.seq.l := by simp [Cur.cells]
@[simp] theorem Cur.s0 (m : Cur) (x : ID) : setRange (Enc.cells m) 0 (ofBytes x.l) = Enc.cells { m with seq := x } := by simp [List.take_append, Cur.cells]
@[simp] theorem Cur.d16 (m : Cur) : (Enc.cells m).drop 16 = (.int .u64 m.n :: (ofBytes m.boot.l ++ (.int .u64 m.mono :: (.int .u64 m.real :: (.int .u64 m.xor :: ([] : List D)))))) := by simp [Cur.cells]
@[simp] theorem Cur.d16' (m : Cur) (r : List D) : (Enc.cells m ++ r).drop 16 = (.int .u64 m.n :: (ofBytes m.boot.l ++ (.int .u64 m.mono :: (.int .u64 m.real :: (.int .u64 m.xor :: ([] : List D)))))) ++ r := by simp [Cur.cells]
@[simp] theorem Cur.g16 (m : Cur) (h) : (Enc.cells m)[16]'h = .int .u64 m.n := by simp [Cur.cells]
@[simp] theorem Cur.q16 (m : Cur) : (Enc.cells m)[16]? = some (.int .u64 m.n) := by simp [Cur.cells]
@[simp] theorem Cur.s16 (m : Cur) (x : Int) : setRange (Enc.cells m) 16 [.int .u64 x] = Enc.cells { m with n := x } := by simp [List.drop_append, drop_bytes, Cur.cells]
@[simp] theorem Cur.d17 (m : Cur) : (Enc.cells m).drop 17 = (ofBytes m.boot.l ++ (.int .u64 m.mono :: (.int .u64 m.real :: (.int .u64 m.xor :: ([] : List D))))) := by simp [List.drop_append, drop_bytes, Cur.cells]
@[simp] theorem Cur.d17' (m : Cur) (r : List D) : (Enc.cells m ++ r).drop 17 = (ofBytes m.boot.l ++ (.int .u64 m.mono :: (.int .u64 m.real :: (.int .u64 m.xor :: ([] : List D))))) ++ r := by simp [List.drop_append, drop_bytes, Cur.cells]
@[simp] theorem Cur.s17 (m : Cur) (x : ID) : setRange (Enc.cells m) 17 (ofBytes x.l) = Enc.cells { m with boot := x } := by simp [List.take_append, List.drop_append, drop_bytes, List.take_of_length_le, Cur.cells]
@[simp] theorem Cur.d33 (m : Cur) : (Enc.cells m).drop 33 = (.int .u64 m.mono :: (.int .u64 m.real :: (.int .u64 m.xor :: ([] : List D)))) := by simp [List.drop_append, drop_bytes, Cur.cells]
@[simp] theorem Cur.d33' (m : Cur) (r : List D) : (Enc.cells m ++ r).drop 33 = (.int .u64 m.mono :: (.int .u64 m.real :: (.int .u64 m.xor :: ([] : List D)))) ++ r := by simp [List.drop_append, drop_bytes, Cur.cells]
@[simp] theorem Cur.g33 (m : Cur) (h) : (Enc.cells m)[33]'h = .int .u64 m.mono := by simp [Cur.cells]
@[simp] theorem Cur.q33 (m : Cur) : (Enc.cells m)[33]? = some (.int .u64 m.mono) := by simp [Cur.cells]
@[simp] theorem Cur.s33 (m : Cur) (x : Int) : setRange (Enc.cells m) 33 [.int .u64 x] = Enc.cells { m with mono := x } := by simp [List.take_append, List.drop_append, drop_bytes, List.take_of_length_le, Cur.cells]
@[simp] theorem Cur.d34 (m : Cur) : (Enc.cells m).drop 34 = (.int .u64 m.real :: (.int .u64 m.xor :: ([] : List D))) := by simp [List.drop_append, drop_bytes, Cur.cells]
@[simp] theorem Cur.d34' (m : Cur) (r : List D) : (Enc.cells m ++ r).drop 34 = (.int .u64 m.real :: (.int .u64 m.xor :: ([] : List D))) ++ r := by simp [List.drop_append, drop_bytes, Cur.cells]
@[simp] theorem Cur.g34 (m : Cur) (h) : (Enc.cells m)[34]'h = .int .u64 m.real := by simp [Cur.cells]
@[simp] theorem Cur.q34 (m : Cur) : (Enc.cells m)[34]? = some (.int .u64 m.real) := by simp [Cur.cells]
@[simp] theorem Cur.s34 (m : Cur) (x : Int) : setRange (Enc.cells m) 34 [.int .u64 x] = Enc.cells { m with real := x } := by simp [List.take_append, List.drop_append, drop_bytes, List.take_of_length_le, Cur.cells]
@[simp] theorem Cur.d35 (m : Cur) : (Enc.cells m).drop 35 = (.int .u64 m.xor :: ([] : List D)) := by simp [List.drop_append, drop_bytes, Cur.cells]
@[simp] theorem Cur.d35' (m : Cur) (r : List D) : (Enc.cells m ++ r).drop 35 = (.int .u64 m.xor :: ([] : List D)) ++ r := by simp [List.drop_append, drop_bytes, Cur.cells]
@[simp] theorem Cur.g35 (m : Cur) (h) : (Enc.cells m)[35]'h = .int .u64 m.xor := by simp [Cur.cells]
@[simp] theorem Cur.q35 (m : Cur) : (Enc.cells m)[35]? = some (.int .u64 m.xor) := by simp [Cur.cells]
@[simp] theorem Cur.s35 (m : Cur) (x : Int) : setRange (Enc.cells m) 35 [.int .u64 x] = Enc.cells { m with xor := x } := by simp [List.take_append, List.drop_append, drop_bytes, List.take_of_length_le, Cur.cells]
end Go.Ev
/- The order of bytes. -/
namespace Go.Ev
open Go Go.Proofs
theorem cmpB_self : ∀ (x : List UInt8), cmpB x x = 0
  | [] => rfl
  | a :: x => by simp [cmpB, cmpB_self x]
theorem cmpB_swap : ∀ (x y : List UInt8), cmpB y x = - cmpB x y
  | [], [] => rfl
  | [], _ :: _ => rfl
  | _ :: _, [] => rfl
  | a :: x, b :: y => by
    simp only [cmpB]
    by_cases h : a = b
    · subst h; simp [cmpB_swap x y]
    · have h' : ¬ b = a := fun e => h e.symm
      rw [if_neg h, if_neg h']
      by_cases hl : a < b
      · have : ¬ b < a := UInt8.not_lt.2 (UInt8.le_of_lt hl)
        rw [if_pos hl, if_neg this]; rfl
      · have : b < a := UInt8.lt_of_le_of_ne (UInt8.not_lt.1 hl) h'
        rw [if_neg hl, if_pos this]
theorem cmpB_eq : ∀ {x y : List UInt8}, cmpB x y = 0 → x = y
  | [], [], _ => rfl
  | [], _ :: _, h => by simp [cmpB] at h
  | _ :: _, [], h => by simp [cmpB] at h
  | a :: x, b :: y, h => by
    simp only [cmpB] at h
    by_cases e : a = b
    · rw [if_pos e] at h
      rw [e, cmpB_eq h]
    · rw [if_neg e] at h
      split at h <;> simp at h
theorem cmpB_rng : ∀ (x y : List UInt8), cmpB x y = -1 ∨ cmpB x y = 0 ∨ cmpB x y = 1
  | [], [] => by simp [cmpB]
  | [], _ :: _ => by simp [cmpB]
  | _ :: _, [] => by simp [cmpB]
  | a :: x, b :: y => by
    simp only [cmpB]
    split
    · exact cmpB_rng x y
    · split <;> simp
theorem cmpB_trans : ∀ {x y z : List UInt8}, cmpB x y < 0 → cmpB y z < 0 → cmpB x z < 0
  | [], [], _, h, _ => by simp [cmpB] at h
  | [], _ :: _, [], _, h => by simp [cmpB] at h
  | [], _ :: _, _ :: _, _, _ => by simp [cmpB]
  | _ :: _, [], _, h, _ => by simp [cmpB] at h
  | _ :: _, _ :: _, [], _, h => by simp [cmpB] at h
  | a :: x, b :: y, c :: z, h1, h2 => by
    simp only [cmpB] at h1 h2 ⊢
    by_cases e1 : a = b
    · subst e1
      rw [if_pos rfl] at h1
      by_cases e2 : a = c
      · subst e2
        rw [if_pos rfl] at h2 ⊢
        exact cmpB_trans h1 h2
      · rw [if_neg e2] at h2 ⊢
        exact h2
    · rw [if_neg e1] at h1
      have l1 : a < b := by
        by_cases l : a < b
        · exact l
        · rw [if_neg l] at h1; simp at h1
      by_cases e2 : b = c
      · subst e2
        rw [if_neg e1, if_pos l1]
        decide
      · rw [if_neg e2] at h2
        have l2 : b < c := by
          by_cases l : b < c
          · exact l
          · rw [if_neg l] at h2; simp at h2
        have l3 : a < c := UInt8.lt_trans l1 l2
        rw [if_neg (UInt8.ne_of_lt l3), if_pos l3]
        decide
theorem id_of_cmp {a b : ID} (h : cmpB a.l b.l = 0) : a = b := ID.ext' (cmpB_eq h)
end Go.Ev
/- Texts are cut. -/
namespace Go.Ev.S
open Go Go.Proofs Go.Ev
theorem idx_cases (sep : List UInt8) : ∀ (s : List UInt8) (n : Nat), (∃ i : Nat, idxN sep s n = ((n + i : Nat) : Int) ∧ i + sep.length ≤ s.length ∧ sep.isPrefixOf (s.drop i) = true) ∨ idxN sep s n = -1
  | [], n => by
    unfold idxN
    cases sep with
    | nil => exact .inl ⟨0, by simp⟩
    | cons a l => exact .inr (by simp)
  | b :: l, n => by
    unfold idxN
    by_cases h : sep.isPrefixOf (b :: l) = true
    · rw [if_pos h]
      refine .inl ⟨0, by simp, ?_, by simpa using h⟩
      have := List.IsPrefix.length_le (List.isPrefixOf_iff_prefix.1 h)
      simpa using this
    · rw [if_neg h]
      rcases idx_cases sep l (n + 1) with ⟨i, h1, h2, h3⟩ | h1
      · exact .inl ⟨i + 1, by rw [h1]; omega, by simp; omega, by simpa using h3⟩
      · exact .inr h1
theorem index_ev [MaxL] (s sep : List UInt8) (hs : s.length < 4294967281) : call cx 96 [.str s, .str sep] [] = some (.int .i64 (idxN sep s 0), []) := by
  refine call_con ?_
  rw [co96, conIdx, if_pos hs]
/-- A text up to where another one stands in it, and what stands behind. -/
def cutL (sep s : List UInt8) : List UInt8 × List UInt8 × Bool := if idxN sep s 0 = -1 then (s, [], false) else (s.take (idxN sep s 0).toNat, s.drop ((idxN sep s 0).toNat + sep.length), true)
theorem cutlite_ev [MaxL] (s sep : List UInt8) (hs : s.length < 1000000) (hl : sep.length < 1000000) : call cx 71 [.str s, .str sep] [] = some (.tup [.str (cutL sep s).1, .str (cutL sep s).2.1, .bool (cutL sep s).2.2], []) := by
  have h := index_ev s sep (by omega)
  unfold cutL
  refine call_run Tryd.func71 rfl ⟨rfl, rfl⟩ ?_
  rcases idx_cases sep s 0 with ⟨i, h1, h2, -⟩ | h1
  · rw [h1] at h
    rw [h1]
    obtain ⟨j, hj⟩ : ∃ j, j = i + sep.length := ⟨_, rfl⟩
    have hw : IntKind.i64.wrap ((i : Int) + (sep.length : Int)) = (j : Int) := by rw [wrap_i64] <;> omega
    have hn : ¬ ((0 + i : Nat) : Int) = -1 := by omega
    have g1 : (i : Int) ≤ (s.length : Int) := by omega
    have g2 : (j : Int) ≤ (s.length : Int) := by omega
    have g3 : j ≤ s.length := by omega
    have g4 : i ≤ s.length := by omega
    rw [Nat.zero_add] at h hn
    simp [Tryd.f71, h, hw, g1, g2, ← hj]
    exact List.take_of_length_le (by simp)
  · rw [h1] at h
    simp [Tryd.f71, h, h1]
theorem cut_ev [MaxL] (s sep : List UInt8) (hs : s.length < 1000000) (hl : sep.length < 1000000) : call cx 56 [.str s, .str sep] [] = some (.tup [.str (cutL sep s).1, .str (cutL sep s).2.1, .bool (cutL sep s).2.2], []) := by
  have h := cutlite_ev s sep hs hl
  refine call_run Tryd.func56 rfl ⟨rfl, rfl⟩ ?_
  simp [Tryd.f56, h]
/-- Does a text begin so? -/
def pre (p s : List UInt8) : Bool := s.take p.length == p
theorem pfx_ev [MaxL] (s p : List UInt8) (_ : s.length < 1000000) (_ : p.length < 1000000) : call cx 106 [.str s, .str p] [] = some (.bool (pre p s), []) := by
  refine call_run Tryd.func106 rfl ⟨rfl, rfl⟩ ?_
  by_cases h : p.length ≤ s.length
  · have h' : (p.length : Int) ≤ (s.length : Int) := by omega
    simp [Tryd.f106, h', pre]
  · have h' : ¬ (p.length : Int) ≤ (s.length : Int) := by omega
    have hn : pre p s = false := by
      unfold pre
      rw [List.take_of_length_le (by omega)]
      rw [beq_eq_false_iff_ne]
      intro e
      rw [e] at h
      omega
    simp [Tryd.f106, h', hn]
theorem pre_len {p s : List UInt8} (h : pre p s = true) : p.length ≤ s.length := by
  unfold pre at h
  have := congrArg List.length (beq_iff_eq.1 h)
  rw [List.length_take] at this
  omega
theorem trim_ev [MaxL] (s p : List UInt8) (hs : s.length < 1000000) (hp : p.length < 1000000) : call cx 88 [.str s, .str p] [] = some (.str (if pre p s then s.drop p.length else s), []) := by
  have h := pfx_ev s p hs hp
  have h2 : call cx 112 [.str s, .str p] [] = some (.str (if pre p s then s.drop p.length else s), []) := by
    refine call_run Tryd.func112 rfl ⟨rfl, rfl⟩ ?_
    cases hq : pre p s with
    | true =>
      have := pre_len hq
      have g : (p.length : Int) ≤ (s.length : Int) := by omega
      rw [hq] at h
      simp [Tryd.f112, h, g]
      exact List.take_of_length_le (by simp)
    | false =>
      rw [hq] at h
      simp [Tryd.f112, h]
  refine call_run Tryd.func88 rfl ⟨rfl, rfl⟩ ?_
  simp [Tryd.f88, h2]
theorem cutpre_ev [MaxL] (s p : List UInt8) (hs : s.length < 1000000) (hp : p.length < 1000000) : call cx 87 [.str s, .str p] [] = some (.tup [.str (if pre p s then s.drop p.length else s), .bool (pre p s)], []) := by
  have h := pfx_ev s p hs hp
  have h2 : call cx 111 [.str s, .str p] [] = some (.tup [.str (if pre p s then s.drop p.length else s), .bool (pre p s)], []) := by
    refine call_run Tryd.func111 rfl ⟨rfl, rfl⟩ ?_
    cases hq : pre p s with
    | true =>
      have := pre_len hq
      have g : (p.length : Int) ≤ (s.length : Int) := by omega
      rw [hq] at h
      simp [Tryd.f111, h, g]
      exact List.take_of_length_le (by simp)
    | false =>
      rw [hq] at h
      simp [Tryd.f111, h]
  refine call_run Tryd.func87 rfl ⟨rfl, rfl⟩ ?_
  simp [Tryd.f87, h2]
end Go.Ev.S
/- Numbers that texts are. -/
namespace Go.Ev.S
open Go Go.Proofs Go.Ev
theorem orI_u8 (a b : UInt8) : orI .u8 (a.toNat : Int) (b.toNat : Int) = ((a ||| b).toNat : Int) := by
  unfold orI
  have h := (a ||| b).toNat_lt
  have e : (BitVec.ofInt IntKind.u8.bits (a.toNat : Int) ||| BitVec.ofInt IntKind.u8.bits (b.toNat : Int)).toNat = (a ||| b).toNat := by
    simp [IntKind.bits]
    rfl
  rw [e, wrap_u8]
  omega
theorem lower_ev [MaxL] (c : UInt8) : call cx 97 [.int .u8 c.toNat] [] = some (.int .u8 ((c ||| 32).toNat : Int), []) := by
  have h := orI_u8 c 32
  have h' : orI .u8 (c.toNat : Int) 32 = ((c ||| 32).toNat : Int) := h
  refine call_run Tryd.func97 rfl ⟨rfl, rfl⟩ ?_
  simp [Tryd.f97, h']
theorem all_u8 {p : UInt8 → Bool} (h : ((List.range 256).all fun k => p (UInt8.ofNat k)) = true) (c : UInt8) : p c = true := by
  have := List.all_eq_true.1 h c.toNat (List.mem_range.2 c.toNat_lt)
  rw [UInt8.ofNat_toNat] at this
  exact this
theorem low_lt {c : UInt8} (h : c.toNat < 48) : (c ||| 32).toNat < 97 := by
  have := all_u8 (p := fun c => decide (c.toNat < 48) == false || decide ((c ||| 32).toNat < 97)) (by decide +kernel) c
  simpa [h] using this
theorem low_95 {c : UInt8} (h : c.toNat = 95) : 122 < (c ||| 32).toNat := by
  simp [h]
/-- What a sign counts; none: it is no digit. -/
def dval (c : UInt8) : Option Nat := if 48 ≤ c.toNat ∧ c.toNat ≤ 57 then some (c.toNat - 48) else if 97 ≤ (c ||| 32).toNat ∧ (c ||| 32).toNat ≤ 122 then some ((c ||| 32).toNat - 97 + 10) else none
def puGo (b : Nat) : List UInt8 → Nat → Option Nat
  | [], n => some n
  | c :: l, n => match dval c with
    | none => none
    | some d => if b ≤ d then none else if 18446744073709551616 ≤ n * b + d then none else puGo b l (n * b + d)
def pu (b : Nat) (s : List UInt8) : Option Nat := if s = [] then none else puGo b s 0
def cutoff (b : Nat) : Nat := if b = 10 then 1844674407370955162 else 1152921504606846976
theorem cut_of {b n d : Nat} (hb : b = 10 ∨ b = 16) (h : cutoff b ≤ n) : 18446744073709551616 ≤ n * b + d := by
  unfold cutoff at h
  rcases hb with rfl | rfl
  · simp at h; omega
  · simp at h; omega
theorem cut_ok {b n : Nat} (hb : b = 10 ∨ b = 16) (h : n < cutoff b) : n * b < 18446744073709551616 := by
  unfold cutoff at h
  rcases hb with rfl | rfl
  · simp at h; omega
  · simp at h; omega
theorem wrap_over {x d : Nat} (hx : x < 18446744073709551616) (hd : d < 16) (h : 18446744073709551616 ≤ x + d) : IntKind.u64.wrap ((x : Int) + (d : Int)) < (x : Int) := by
  simp only [IntKind.wrap, IntKind.signed, IntKind.bits]
  simp
  omega
theorem puGo_lt (b : Nat) : ∀ (l : List UInt8) (n v : Nat), n < 18446744073709551616 → puGo b l n = some v → v < 18446744073709551616
  | [], n, v, hn, h => by simp [puGo] at h; omega
  | c :: l, n, v, hn, h => by
    unfold puGo at h
    split at h
    · cases h
    · split at h
      · cases h
      · split at h
        · cases h
        · exact puGo_lt b l _ v (by omega) h
set_option maxHeartbeats 2000000 in
set_option maxRecDepth 4000 in
theorem pui_ev [MaxL] (b : Nat) (hb : b = 10 ∨ b = 16) (s : List UInt8) (hs : s.length < 4611686018427387904) :
    (∃ n, pu b s = some n ∧ call cx 72 [.str s, .int .i64 b, .int .i64 64] [] = some (.tup [.int .u64 n, .nili], [])) ∨
    (pu b s = none ∧ ∃ (x : Nat) (c : Int), (c = 1 ∨ c = 2) ∧ call cx 72 [.str s, .int .i64 b, .int .i64 64] [] = some (.tup [.int .u64 x, .iface 135 (.int .i64 c)], [])) := by
  suffices h : ∃ r, call cx 72 [.str s, .int .i64 b, .int .i64 64] [] = some r ∧ ((∃ n, pu b s = some n ∧ r = (.tup [.int .u64 n, .nili], [])) ∨ (pu b s = none ∧ ∃ (x : Nat) (c : Int), (c = 1 ∨ c = 2) ∧ r = (.tup [.int .u64 x, .iface 135 (.int .i64 c)], []))) by
    obtain ⟨r, h1, ⟨n, h2, rfl⟩ | ⟨h2, x, c, h3, rfl⟩⟩ := h
    · exact .inl ⟨n, h2, h1⟩
    · exact .inr ⟨h2, x, c, h3, h1⟩
  refine call_runE (fun r => (∃ n : Nat, pu b s = some n ∧ r = (D.tup [.int .u64 n, .nili], [])) ∨ (pu b s = none ∧ ∃ (x : Nat) (c : Int), (c = 1 ∨ c = 2) ∧ r = (D.tup [.int .u64 x, .iface 135 (.int .i64 c)], []))) Tryd.func72 rfl ⟨rfl, rfl⟩ ?_
  by_cases h0 : s = []
  · subst h0
    simp [Tryd.f72, pu]
    exact ⟨0, rfl⟩
  · have hpos : s.length ≠ 0 := by simpa using h0
    have hc2 : (2 : Int) ≤ (b : Int) := by omega
    have hc36 : (b : Int) ≤ 36 := by omega
    have hbz : ¬ (b : Int) = 0 := by omega
    have hmx : IntKind.u64.wrap (IntKind.u64.wrap (2 ^ min 64 IntKind.u64.bits) - 1) = 18446744073709551615 := by decide
    have hpu : pu b s = puGo b s 0 := by rw [pu, if_neg h0]
    rcases hb with rfl | rfl
    · simp [Tryd.f72, h0, hmx]
      refine Run.loopThen (fun (z : Nat × Nat) e H' => z.1 ≤ s.length ∧ z.2 < 18446744073709551616 ∧ puGo 10 (s.drop z.1) z.2 = puGo 10 s 0 ∧ H' = [some (ofBytes s)] ∧ look e 1 = some (.int .i64 10) ∧ look e 8 = some (.bool false) ∧ look e 9 = some (.str s) ∧ look e 10 = some (.int .u64 1844674407370955162) ∧ look e 11 = some (.int .u64 18446744073709551615) ∧ look e 12 = some (.bool false) ∧ look e 13 = some (.int .u64 (z.2 : Nat)) ∧ look e 99 = some (.osl 0 s.length 0 s.length 1) ∧ look e 100 = some (.int .i64 s.length) ∧ look e 101 = some (.int .i64 (z.1 : Nat))) (fun z => s.length - z.1) (0, 0) (by simp) ?_
      rintro ⟨i, n⟩ e H' ⟨hi, hn, hp, rfl, h1, h8, h9, h10, h11, h12, h13, h99, h100, h101⟩
      simp only at hi hn hp h13 h101
      by_cases hlt : i < s.length
      · have hlt' : (i : Int) < (s.length : Int) := by omega
        have hw : IntKind.i64.wrap ((i : Int) + 1) = ((i + 1 : Nat) : Int) := by rw [wrap_i64] <;> omega
        have hc := lower_ev s[i]
        have hclt := s[i].toNat_lt
        rw [List.drop_eq_getElem_cons hlt, puGo] at hp
        unfold dval at hp
        by_cases hd : 48 ≤ s[i].toNat ∧ s[i].toNat ≤ 57
        · rw [if_pos hd] at hp
          have g1 : (48 : Int) ≤ (s[i].toNat : Int) := by omega
          have g2 : (s[i].toNat : Int) ≤ 57 := by omega
          have g3 : ¬ (s[i].toNat : Int) = 95 := by omega
          obtain ⟨d, hdd⟩ : ∃ d, d = s[i].toNat - 48 := ⟨_, rfl⟩
          have dw : IntKind.u8.wrap ((s[i].toNat : Int) - 48) = (d : Int) := by rw [wrap_u8] <;> omega
          rw [← hdd] at hp
          simp only at hp
          have hd16 : d < 16 := by omega
          have wd : IntKind.u64.wrap (d : Int) = (d : Int) := by rw [wrap_u64]; omega
          by_cases hbd : 10 ≤ d
          · have hbd' : (10 : Int) ≤ (d : Int) := by omega
            rw [if_pos hbd] at hp
            simp [h1, h8, h9, h10, h11, h12, h13, h99, h100, h101, hlt', ofBytes_at hlt, g1, g2, g3, dw, hbd']
            exact ⟨by rw [hpu]; exact hp.symm, 0, rfl⟩
          · have hbd' : ¬ (10 : Int) ≤ (d : Int) := by omega
            rw [if_neg hbd] at hp
            by_cases hcut : 1844674407370955162 ≤ n
            · have hcut' : (1844674407370955162 : Int) ≤ (n : Int) := by omega
              rw [if_pos (by omega)] at hp
              simp [h1, h8, h9, h10, h11, h12, h13, h99, h100, h101, hlt', ofBytes_at hlt, g1, g2, g3, dw, hbd', hcut']
              exact ⟨by rw [hpu]; exact hp.symm, 18446744073709551615, rfl⟩
            · have hcut' : ¬ (1844674407370955162 : Int) ≤ (n : Int) := by omega
              obtain ⟨m, hm⟩ : ∃ m, m = n * 10 := ⟨_, rfl⟩
              have hm64 : m < 18446744073709551616 := by omega
              have wm : IntKind.u64.wrap ((n : Int) * 10) = (m : Int) := by rw [wrap_u64] <;> omega
              rw [← hm] at hp
              by_cases hov : 18446744073709551616 ≤ m + d
              · rw [if_pos hov] at hp
                have hx := wrap_over hm64 (by omega) hov
                generalize hX : IntKind.u64.wrap ((m : Int) + (d : Int)) = X at hx
                simp [h1, h8, h9, h10, h11, h12, h13, h99, h100, h101, hlt', ofBytes_at hlt, g1, g2, g3, dw, hbd', hcut', wd, wm, hX, hx]
                exact ⟨by rw [hpu]; exact hp.symm, 18446744073709551615, rfl⟩
              · rw [if_neg hov] at hp
                obtain ⟨q, hq⟩ : ∃ q, q = m + d := ⟨_, rfl⟩
                have wq : IntKind.u64.wrap ((m : Int) + (d : Int)) = (q : Int) := by rw [wrap_u64] <;> omega
                have hx1 : ¬ (q : Int) < (m : Int) := by omega
                have hx2 : ¬ (18446744073709551615 : Int) < (q : Int) := by omega
                rw [← hq] at hp
                simp [h1, h8, h9, h10, h11, h12, h13, h99, h100, h101, hlt', ofBytes_at hlt, g1, g2, g3, dw, hbd', hcut', wd, wm, wq, hx1, hx2, hw]
                exact ⟨i + 1, by omega, by omega, q, by omega, hp, rfl, by simp⟩
        · rw [if_neg hd] at hp
          by_cases h48 : s[i].toNat < 48
          · have lw := low_lt h48
            rw [if_neg (by omega)] at hp
            have g1 : ¬ (48 : Int) ≤ (s[i].toNat : Int) := by omega
            have g3 : ¬ (s[i].toNat : Int) = 95 := by omega
            have f1 : ¬ (97 : Int) ≤ ((s[i] ||| 32).toNat : Int) := by omega
            generalize (s[i] ||| 32).toNat = lc at *
            simp only at hp
            simp [h1, h8, h9, h10, h11, h12, h13, h99, h100, h101, hlt', ofBytes_at hlt, g1, g3, hc, f1]
            exact ⟨by rw [hpu]; exact hp.symm, 0, rfl⟩
          · have g1 : (48 : Int) ≤ (s[i].toNat : Int) := by omega
            have g2 : ¬ (s[i].toNat : Int) ≤ 57 := by omega
            by_cases g95 : s[i].toNat = 95
            · have lw := low_95 g95
              rw [if_neg (by omega)] at hp
              have g3 : (s[i].toNat : Int) = 95 := by omega
              have f1 : (97 : Int) ≤ ((s[i] ||| 32).toNat : Int) := by omega
              have f2 : ¬ ((s[i] ||| 32).toNat : Int) ≤ 122 := by omega
              generalize (s[i] ||| 32).toNat = lc at *
              rw [g3] at hc
              simp only at hp
              simp [h1, h8, h9, h10, h11, h12, h13, h99, h100, h101, hlt', ofBytes_at hlt, g3, hc, f1, f2]
              exact ⟨by rw [hpu]; exact hp.symm, 0, rfl⟩
            · have g3 : ¬ (s[i].toNat : Int) = 95 := by omega
              have lw256 := (s[i] ||| 32).toNat_lt
              generalize (s[i] ||| 32).toNat = lc at *
              by_cases f : 97 ≤ lc ∧ lc ≤ 122
              · rw [if_pos f] at hp
                have f1 : (97 : Int) ≤ (lc : Int) := by omega
                have f2 : (lc : Int) ≤ 122 := by omega
                obtain ⟨d0, hd0⟩ : ∃ d, d = lc - 97 := ⟨_, rfl⟩
                obtain ⟨d, hdd⟩ : ∃ d, d = d0 + 10 := ⟨_, rfl⟩
                have dw1 : IntKind.u8.wrap ((lc : Int) - 97) = (d0 : Int) := by rw [wrap_u8] <;> omega
                have dw2 : IntKind.u8.wrap ((d0 : Int) + 10) = (d : Int) := by rw [wrap_u8] <;> omega
                rw [← hd0, ← hdd] at hp
                simp only at hp
                have hd16 : d < 36 := by omega
                have wd : IntKind.u64.wrap (d : Int) = (d : Int) := by rw [wrap_u64]; omega
                by_cases hbd : 10 ≤ d
                · have hbd' : (10 : Int) ≤ (d : Int) := by omega
                  rw [if_pos hbd] at hp
                  simp [h1, h8, h9, h10, h11, h12, h13, h99, h100, h101, hlt', ofBytes_at hlt, g1, g2, g3, hc, f1, f2, dw1, dw2, hbd']
                  exact ⟨by rw [hpu]; exact hp.symm, 0, rfl⟩
                · have hbd' : ¬ (10 : Int) ≤ (d : Int) := by omega
                  rw [if_neg hbd] at hp
                  by_cases hcut : 1844674407370955162 ≤ n
                  · have hcut' : (1844674407370955162 : Int) ≤ (n : Int) := by omega
                    rw [if_pos (by omega)] at hp
                    simp [h1, h8, h9, h10, h11, h12, h13, h99, h100, h101, hlt', ofBytes_at hlt, g1, g2, g3, hc, f1, f2, dw1, dw2, hbd', hcut']
                    exact ⟨by rw [hpu]; exact hp.symm, 18446744073709551615, rfl⟩
                  · have hcut' : ¬ (1844674407370955162 : Int) ≤ (n : Int) := by omega
                    obtain ⟨m, hm⟩ : ∃ m, m = n * 10 := ⟨_, rfl⟩
                    have hm64 : m < 18446744073709551616 := by omega
                    have wm : IntKind.u64.wrap ((n : Int) * 10) = (m : Int) := by rw [wrap_u64] <;> omega
                    rw [← hm] at hp
                    by_cases hov : 18446744073709551616 ≤ m + d
                    · rw [if_pos hov] at hp
                      have hx := wrap_over hm64 (by omega) hov
                      generalize hX : IntKind.u64.wrap ((m : Int) + (d : Int)) = X at hx
                      simp [h1, h8, h9, h10, h11, h12, h13, h99, h100, h101, hlt', ofBytes_at hlt, g1, g2, g3, hc, f1, f2, dw1, dw2, hbd', hcut', wd, wm, hX, hx]
                      exact ⟨by rw [hpu]; exact hp.symm, 18446744073709551615, rfl⟩
                    · rw [if_neg hov] at hp
                      obtain ⟨q, hq⟩ : ∃ q, q = m + d := ⟨_, rfl⟩
                      have wq : IntKind.u64.wrap ((m : Int) + (d : Int)) = (q : Int) := by rw [wrap_u64] <;> omega
                      have hx1 : ¬ (q : Int) < (m : Int) := by omega
                      have hx2 : ¬ (18446744073709551615 : Int) < (q : Int) := by omega
                      rw [← hq] at hp
                      simp [h1, h8, h9, h10, h11, h12, h13, h99, h100, h101, hlt', ofBytes_at hlt, g1, g2, g3, hc, f1, f2, dw1, dw2, hbd', hcut', wd, wm, wq, hx1, hx2, hw]
                      exact ⟨i + 1, by omega, by omega, q, by omega, hp, rfl, by simp⟩
              · rw [if_neg f] at hp
                by_cases f3 : 97 ≤ lc
                · have f1 : (97 : Int) ≤ (lc : Int) := by omega
                  have f2 : ¬ (lc : Int) ≤ 122 := by omega
                  simp only at hp
                  simp [h1, h8, h9, h10, h11, h12, h13, h99, h100, h101, hlt', ofBytes_at hlt, g1, g2, g3, hc, f1, f2]
                  exact ⟨by rw [hpu]; exact hp.symm, 0, rfl⟩
                · have f1 : ¬ (97 : Int) ≤ (lc : Int) := by omega
                  simp only at hp
                  simp [h1, h8, h9, h10, h11, h12, h13, h99, h100, h101, hlt', ofBytes_at hlt, g1, g2, g3, hc, f1]
                  exact ⟨by rw [hpu]; exact hp.symm, 0, rfl⟩
      · have hlt' : ¬ (i : Int) < (s.length : Int) := by omega
        rw [List.drop_eq_nil_of_le (by omega), puGo] at hp
        simp [h1, h8, h9, h10, h11, h12, h13, h99, h100, h101, hlt']
        exact ⟨n, by rw [hpu]; exact hp.symm, rfl⟩
    · simp [Tryd.f72, h0, hmx]
      refine Run.loopThen (fun (z : Nat × Nat) e H' => z.1 ≤ s.length ∧ z.2 < 18446744073709551616 ∧ puGo 16 (s.drop z.1) z.2 = puGo 16 s 0 ∧ H' = [some (ofBytes s)] ∧ look e 1 = some (.int .i64 16) ∧ look e 8 = some (.bool false) ∧ look e 9 = some (.str s) ∧ look e 10 = some (.int .u64 1152921504606846976) ∧ look e 11 = some (.int .u64 18446744073709551615) ∧ look e 12 = some (.bool false) ∧ look e 13 = some (.int .u64 (z.2 : Nat)) ∧ look e 99 = some (.osl 0 s.length 0 s.length 1) ∧ look e 100 = some (.int .i64 s.length) ∧ look e 101 = some (.int .i64 (z.1 : Nat))) (fun z => s.length - z.1) (0, 0) (by simp) ?_
      rintro ⟨i, n⟩ e H' ⟨hi, hn, hp, rfl, h1, h8, h9, h10, h11, h12, h13, h99, h100, h101⟩
      simp only at hi hn hp h13 h101
      by_cases hlt : i < s.length
      · have hlt' : (i : Int) < (s.length : Int) := by omega
        have hw : IntKind.i64.wrap ((i : Int) + 1) = ((i + 1 : Nat) : Int) := by rw [wrap_i64] <;> omega
        have hc := lower_ev s[i]
        have hclt := s[i].toNat_lt
        rw [List.drop_eq_getElem_cons hlt, puGo] at hp
        unfold dval at hp
        by_cases hd : 48 ≤ s[i].toNat ∧ s[i].toNat ≤ 57
        · rw [if_pos hd] at hp
          have g1 : (48 : Int) ≤ (s[i].toNat : Int) := by omega
          have g2 : (s[i].toNat : Int) ≤ 57 := by omega
          have g3 : ¬ (s[i].toNat : Int) = 95 := by omega
          obtain ⟨d, hdd⟩ : ∃ d, d = s[i].toNat - 48 := ⟨_, rfl⟩
          have dw : IntKind.u8.wrap ((s[i].toNat : Int) - 48) = (d : Int) := by rw [wrap_u8] <;> omega
          rw [← hdd] at hp
          simp only at hp
          have hd16 : d < 16 := by omega
          have wd : IntKind.u64.wrap (d : Int) = (d : Int) := by rw [wrap_u64]; omega
          by_cases hbd : 16 ≤ d
          · have hbd' : (16 : Int) ≤ (d : Int) := by omega
            rw [if_pos hbd] at hp
            simp [h1, h8, h9, h10, h11, h12, h13, h99, h100, h101, hlt', ofBytes_at hlt, g1, g2, g3, dw, hbd']
            exact ⟨by rw [hpu]; exact hp.symm, 0, rfl⟩
          · have hbd' : ¬ (16 : Int) ≤ (d : Int) := by omega
            rw [if_neg hbd] at hp
            by_cases hcut : 1152921504606846976 ≤ n
            · have hcut' : (1152921504606846976 : Int) ≤ (n : Int) := by omega
              rw [if_pos (by omega)] at hp
              simp [h1, h8, h9, h10, h11, h12, h13, h99, h100, h101, hlt', ofBytes_at hlt, g1, g2, g3, dw, hbd', hcut']
              exact ⟨by rw [hpu]; exact hp.symm, 18446744073709551615, rfl⟩
            · have hcut' : ¬ (1152921504606846976 : Int) ≤ (n : Int) := by omega
              obtain ⟨m, hm⟩ : ∃ m, m = n * 16 := ⟨_, rfl⟩
              have hm64 : m < 18446744073709551616 := by omega
              have wm : IntKind.u64.wrap ((n : Int) * 16) = (m : Int) := by rw [wrap_u64] <;> omega
              rw [← hm] at hp
              by_cases hov : 18446744073709551616 ≤ m + d
              · rw [if_pos hov] at hp
                have hx := wrap_over hm64 (by omega) hov
                generalize hX : IntKind.u64.wrap ((m : Int) + (d : Int)) = X at hx
                simp [h1, h8, h9, h10, h11, h12, h13, h99, h100, h101, hlt', ofBytes_at hlt, g1, g2, g3, dw, hbd', hcut', wd, wm, hX, hx]
                exact ⟨by rw [hpu]; exact hp.symm, 18446744073709551615, rfl⟩
              · rw [if_neg hov] at hp
                obtain ⟨q, hq⟩ : ∃ q, q = m + d := ⟨_, rfl⟩
                have wq : IntKind.u64.wrap ((m : Int) + (d : Int)) = (q : Int) := by rw [wrap_u64] <;> omega
                have hx1 : ¬ (q : Int) < (m : Int) := by omega
                have hx2 : ¬ (18446744073709551615 : Int) < (q : Int) := by omega
                rw [← hq] at hp
                simp [h1, h8, h9, h10, h11, h12, h13, h99, h100, h101, hlt', ofBytes_at hlt, g1, g2, g3, dw, hbd', hcut', wd, wm, wq, hx1, hx2, hw]
                exact ⟨i + 1, by omega, by omega, q, by omega, hp, rfl, by simp⟩
        · rw [if_neg hd] at hp
          by_cases h48 : s[i].toNat < 48
          · have lw := low_lt h48
            rw [if_neg (by omega)] at hp
            have g1 : ¬ (48 : Int) ≤ (s[i].toNat : Int) := by omega
            have g3 : ¬ (s[i].toNat : Int) = 95 := by omega
            have f1 : ¬ (97 : Int) ≤ ((s[i] ||| 32).toNat : Int) := by omega
            generalize (s[i] ||| 32).toNat = lc at *
            simp only at hp
            simp [h1, h8, h9, h10, h11, h12, h13, h99, h100, h101, hlt', ofBytes_at hlt, g1, g3, hc, f1]
            exact ⟨by rw [hpu]; exact hp.symm, 0, rfl⟩
          · have g1 : (48 : Int) ≤ (s[i].toNat : Int) := by omega
            have g2 : ¬ (s[i].toNat : Int) ≤ 57 := by omega
            by_cases g95 : s[i].toNat = 95
            · have lw := low_95 g95
              rw [if_neg (by omega)] at hp
              have g3 : (s[i].toNat : Int) = 95 := by omega
              have f1 : (97 : Int) ≤ ((s[i] ||| 32).toNat : Int) := by omega
              have f2 : ¬ ((s[i] ||| 32).toNat : Int) ≤ 122 := by omega
              generalize (s[i] ||| 32).toNat = lc at *
              rw [g3] at hc
              simp only at hp
              simp [h1, h8, h9, h10, h11, h12, h13, h99, h100, h101, hlt', ofBytes_at hlt, g3, hc, f1, f2]
              exact ⟨by rw [hpu]; exact hp.symm, 0, rfl⟩
            · have g3 : ¬ (s[i].toNat : Int) = 95 := by omega
              have lw256 := (s[i] ||| 32).toNat_lt
              generalize (s[i] ||| 32).toNat = lc at *
              by_cases f : 97 ≤ lc ∧ lc ≤ 122
              · rw [if_pos f] at hp
                have f1 : (97 : Int) ≤ (lc : Int) := by omega
                have f2 : (lc : Int) ≤ 122 := by omega
                obtain ⟨d0, hd0⟩ : ∃ d, d = lc - 97 := ⟨_, rfl⟩
                obtain ⟨d, hdd⟩ : ∃ d, d = d0 + 10 := ⟨_, rfl⟩
                have dw1 : IntKind.u8.wrap ((lc : Int) - 97) = (d0 : Int) := by rw [wrap_u8] <;> omega
                have dw2 : IntKind.u8.wrap ((d0 : Int) + 10) = (d : Int) := by rw [wrap_u8] <;> omega
                rw [← hd0, ← hdd] at hp
                simp only at hp
                have hd16 : d < 36 := by omega
                have wd : IntKind.u64.wrap (d : Int) = (d : Int) := by rw [wrap_u64]; omega
                by_cases hbd : 16 ≤ d
                · have hbd' : (16 : Int) ≤ (d : Int) := by omega
                  rw [if_pos hbd] at hp
                  simp [h1, h8, h9, h10, h11, h12, h13, h99, h100, h101, hlt', ofBytes_at hlt, g1, g2, g3, hc, f1, f2, dw1, dw2, hbd']
                  exact ⟨by rw [hpu]; exact hp.symm, 0, rfl⟩
                · have hbd' : ¬ (16 : Int) ≤ (d : Int) := by omega
                  rw [if_neg hbd] at hp
                  by_cases hcut : 1152921504606846976 ≤ n
                  · have hcut' : (1152921504606846976 : Int) ≤ (n : Int) := by omega
                    rw [if_pos (by omega)] at hp
                    simp [h1, h8, h9, h10, h11, h12, h13, h99, h100, h101, hlt', ofBytes_at hlt, g1, g2, g3, hc, f1, f2, dw1, dw2, hbd', hcut']
                    exact ⟨by rw [hpu]; exact hp.symm, 18446744073709551615, rfl⟩
                  · have hcut' : ¬ (1152921504606846976 : Int) ≤ (n : Int) := by omega
                    obtain ⟨m, hm⟩ : ∃ m, m = n * 16 := ⟨_, rfl⟩
                    have hm64 : m < 18446744073709551616 := by omega
                    have wm : IntKind.u64.wrap ((n : Int) * 16) = (m : Int) := by rw [wrap_u64] <;> omega
                    rw [← hm] at hp
                    by_cases hov : 18446744073709551616 ≤ m + d
                    · rw [if_pos hov] at hp
                      have hx := wrap_over hm64 (by omega) hov
                      generalize hX : IntKind.u64.wrap ((m : Int) + (d : Int)) = X at hx
                      simp [h1, h8, h9, h10, h11, h12, h13, h99, h100, h101, hlt', ofBytes_at hlt, g1, g2, g3, hc, f1, f2, dw1, dw2, hbd', hcut', wd, wm, hX, hx]
                      exact ⟨by rw [hpu]; exact hp.symm, 18446744073709551615, rfl⟩
                    · rw [if_neg hov] at hp
                      obtain ⟨q, hq⟩ : ∃ q, q = m + d := ⟨_, rfl⟩
                      have wq : IntKind.u64.wrap ((m : Int) + (d : Int)) = (q : Int) := by rw [wrap_u64] <;> omega
                      have hx1 : ¬ (q : Int) < (m : Int) := by omega
                      have hx2 : ¬ (18446744073709551615 : Int) < (q : Int) := by omega
                      rw [← hq] at hp
                      simp [h1, h8, h9, h10, h11, h12, h13, h99, h100, h101, hlt', ofBytes_at hlt, g1, g2, g3, hc, f1, f2, dw1, dw2, hbd', hcut', wd, wm, wq, hx1, hx2, hw]
                      exact ⟨i + 1, by omega, by omega, q, by omega, hp, rfl, by simp⟩
              · rw [if_neg f] at hp
                by_cases f3 : 97 ≤ lc
                · have f1 : (97 : Int) ≤ (lc : Int) := by omega
                  have f2 : ¬ (lc : Int) ≤ 122 := by omega
                  simp only at hp
                  simp [h1, h8, h9, h10, h11, h12, h13, h99, h100, h101, hlt', ofBytes_at hlt, g1, g2, g3, hc, f1, f2]
                  exact ⟨by rw [hpu]; exact hp.symm, 0, rfl⟩
                · have f1 : ¬ (97 : Int) ≤ (lc : Int) := by omega
                  simp only at hp
                  simp [h1, h8, h9, h10, h11, h12, h13, h99, h100, h101, hlt', ofBytes_at hlt, g1, g2, g3, hc, f1]
                  exact ⟨by rw [hpu]; exact hp.symm, 0, rfl⟩
      · have hlt' : ¬ (i : Int) < (s.length : Int) := by omega
        rw [List.drop_eq_nil_of_le (by omega), puGo] at hp
        simp [h1, h8, h9, h10, h11, h12, h13, h99, h100, h101, hlt']
        exact ⟨n, by rw [hpu]; exact hp.symm, rfl⟩
end Go.Ev.S
/- Numbers that texts are: the errors. -/
namespace Go.Ev.S
open Go Go.Proofs Go.Ev
theorem clone_ev [MaxL] (s : List UInt8) (h : s.length ≤ 281474976710656) : call cx 123 [.str s] [] = some (.str s, []) := by
  refine call_con ?_
  rw [co123, conClone, if_pos h]
theorem syntax_ev [MaxL] (f s : List UInt8) (h : s.length ≤ 281474976710656) : ∃ d, call cx 99 [.str f, .str s] [] = some (.vptr d, []) := by
  have hc := clone_ev s h
  suffices hh : ∃ r, call cx 99 [.str f, .str s] [] = some r ∧ ∃ d, r = (.vptr d, []) by
    obtain ⟨r, h1, d, rfl⟩ := hh
    exact ⟨d, h1⟩
  refine call_runE (fun r => ∃ d, r = (D.vptr d, [])) Tryd.func99 rfl ⟨rfl, rfl⟩ ?_
  simp [Tryd.f99, hc]
theorem range_ev [MaxL] (f s : List UInt8) (h : s.length ≤ 281474976710656) : ∃ d, call cx 100 [.str f, .str s] [] = some (.vptr d, []) := by
  have hc := clone_ev s h
  suffices hh : ∃ r, call cx 100 [.str f, .str s] [] = some r ∧ ∃ d, r = (.vptr d, []) by
    obtain ⟨r, h1, d, rfl⟩ := hh
    exact ⟨d, h1⟩
  refine call_runE (fun r => ∃ d, r = (D.vptr d, [])) Tryd.func100 rfl ⟨rfl, rfl⟩ ?_
  simp [Tryd.f100, hc]
theorem toerr_ev [MaxL] (f s : List UInt8) (h : s.length ≤ 281474976710656) (b c : Int) (hc : c = 1 ∨ c = 2) : ∃ d, call cx 73 [.str f, .str s, .int .i64 b, .int .i64 64, .iface 135 (.int .i64 c)] [] = some (.iface 137 (.vptr d), []) := by
  obtain ⟨d1, h1⟩ := syntax_ev f s h
  obtain ⟨d2, h2⟩ := range_ev f s h
  suffices hh : ∃ r, call cx 73 [.str f, .str s, .int .i64 b, .int .i64 64, .iface 135 (.int .i64 c)] [] = some r ∧ ∃ d, r = (.iface 137 (.vptr d), []) by
    obtain ⟨r, h1, d, rfl⟩ := hh
    exact ⟨d, h1⟩
  refine call_runE (fun r => ∃ d, r = (D.iface 137 (.vptr d), [])) Tryd.func73 rfl ⟨rfl, rfl⟩ ?_
  rcases hc with rfl | rfl
  · simp [Tryd.f73, h2]
  · simp [Tryd.f73, h1]
/-- ParseUint: the number, or an error. -/
theorem pu_ev [MaxL] (b : Nat) (hb : b = 10 ∨ b = 16) (s : List UInt8) (hs : s.length ≤ 281474976710656) :
    (∃ n, pu b s = some n ∧ call cx 58 [.str s, .int .i64 b, .int .i64 64] [] = some (.tup [.int .u64 n, .nili], [])) ∨
    (pu b s = none ∧ ∃ (x : Nat) (d : List D), call cx 58 [.str s, .int .i64 b, .int .i64 64] [] = some (.tup [.int .u64 x, .iface 137 (.vptr d)], [])) := by
  rcases pui_ev b hb s (by omega) with ⟨n, h1, h2⟩ | ⟨h1, x, c, hc, h2⟩
  · refine .inl ⟨n, h1, ?_⟩
    refine call_run Tryd.func58 rfl ⟨rfl, rfl⟩ ?_
    simp [Tryd.f58, h2]
  · obtain ⟨d, hd⟩ := toerr_ev [80, 97, 114, 115, 101, 85, 105, 110, 116] s hs b c hc
    refine .inr ⟨h1, x, d, ?_⟩
    refine call_run Tryd.func58 rfl ⟨rfl, rfl⟩ ?_
    simp [Tryd.f58, h2, hd]
end Go.Ev.S
/- Numbers in decimal digits. -/
namespace Go.Ev.S
open Go Go.Proofs Go.Ev
theorem len64_ev [MaxL] (v : Nat) (h : v < 18446744073709551616) : call cx 114 [.int .u64 v] [] = some (.int .i64 (Lib.bitLen v), []) := by
  refine call_con ?_
  rw [co114, conLen64, if_pos (by omega)]
  rfl
theorem small_ev [MaxL] (v : Nat) (h : v < 100) : call cx 89 [.int .i64 v] [] = some (.str (dec v), []) := by
  refine call_con ?_
  rw [co89, conSmall, if_pos (by omega)]
  rfl
theorem bool2_ev [MaxL] (b : Bool) : call cx 115 [.bool b] [] = some (.int .i64 (if b then 1 else 0), []) := by
  refine call_run Tryd.func115 rfl ⟨rfl, rfl⟩ ?_
  cases b <;> simp [Tryd.f115]
theorem l10_ev [MaxL] (v : Nat) (h : v ≤ 64) : call cx 113 [.int .i64 v] [] = some (.int .i64 (Lib.l10 v), []) := by
  refine call_run Tryd.func113 rfl ⟨rfl, rfl⟩ ?_
  have h1 : IntKind.i64.wrap ((v : Int) * 78913) = ((v * 78913 : Nat) : Int) := by rw [wrap_i64] <;> omega
  simp [Tryd.f113, h1]
  unfold Lib.l10
  have : (2 : Int) ^ min 18 IntKind.i64.bits = 262144 := by decide
  rw [this, Int.fdiv_eq_ediv_of_nonneg _ (by omega)]
  omega
theorem pow10_at {t : Nat} (h : t ≤ 19) : ∃ r, gd1.drop t = .int .u64 ((10 ^ t : Nat) : Int) :: r := by
  have ht : t = 0 ∨ t = 1 ∨ t = 2 ∨ t = 3 ∨ t = 4 ∨ t = 5 ∨ t = 6 ∨ t = 7 ∨ t = 8 ∨ t = 9 ∨ t = 10 ∨ t = 11 ∨ t = 12 ∨ t = 13 ∨ t = 14 ∨ t = 15 ∨ t = 16 ∨ t = 17 ∨ t = 18 ∨ t = 19 := by omega
  rcases ht with rfl | rfl | rfl | rfl | rfl | rfl | rfl | rfl | rfl | rfl | rfl | rfl | rfl | rfl | rfl | rfl | rfl | rfl | rfl | rfl <;> exact ⟨_, rfl⟩
theorem ndig_ev [MaxL] (v : Nat) (h1 : 1 ≤ v) (h : v < 18446744073709551616) : call cx 90 [.int .u64 v] [] = some (.int .i64 (Lib.nDigits v), []) := by
  obtain ⟨e1, e2⟩ := Lib.numDigits_eq v h1 h
  have hb : Lib.bitLen v ≤ 64 := Lib.bitLen_le v 64 (Nat.le_refl _) h
  have g1 := len64_ev v h
  have g2 := l10_ev (Lib.bitLen v) hb
  generalize Lib.l10 (Lib.bitLen v) = t at *
  obtain ⟨r, hr⟩ := pow10_at e2
  generalize 10 ^ t = p at *
  have g3 := bool2_ev (decide ((p : Int) ≤ (v : Int)))
  have ht : (t : Int) < 20 := by omega
  have hw : ∀ k : Int, 0 ≤ k → k ≤ 1 → IntKind.i64.wrap ((t : Int) + k) = (t : Int) + k := fun k _ _ => by rw [wrap_i64]; omega
  have hw0 : IntKind.i64.wrap (t : Int) = t := by rw [wrap_i64]; omega
  refine call_run Tryd.func90 rfl ⟨rfl, rfl⟩ ?_
  by_cases hc : p ≤ v
  · rw [if_pos hc] at e1
    rw [decide_eq_true (by omega)] at g3
    simp [Tryd.f90, g1, g2, g3, hr, ht, hc, hw]
    omega
  · rw [if_neg hc] at e1
    rw [decide_eq_false (by omega)] at g3
    simp [Tryd.f90, g1, g2, g3, hr, ht, hc, hw0]
    omega
end Go.Ev.S
