import Derived.Test.YthhekddmmakfdaaGreatDoorC4
import Derived.Shelf.Strings.BuilderF
import Derived.Shelf.Strconv.Itoa0
import Derived.Shelf.Strconv.Itoa1
import Derived.Shelf.LaysM
import Derived.Shelf.Strconv.Clone
import Derived.Shelf.Strings.Search2
import Derived.Shelf.Bytes.SlIndexWhole
import Derived.Test.YthhekddmmakfdaaGreatDoorProg
import Derived.Shelf.Spec.DecodeRune
namespace Go.Ev.S
open Go Go.Proofs Go.Ev
@[simp] theorem en3_0 [MaxL] [TxtC] (n0 : Nat) (e : Env) (H : Heap) : enter cx 3 n0 0 e H = enterK [0, 1, 2, 3] 0 n0 e H := rfl
@[simp] theorem en3_1 [MaxL] [TxtC] (n0 : Nat) (e : Env) (H : Heap) : enter cx 3 n0 1 e H = enterK [1, 2, 3, 4] 0 n0 e H := rfl
@[simp] theorem en3_2 [MaxL] [TxtC] (n0 : Nat) (e : Env) (H : Heap) : enter cx 3 n0 2 e H = enterK [1, 2, 3, 4, 9] 0 n0 e H := rfl
@[simp] theorem en3_3 [MaxL] [TxtC] (n0 : Nat) (e : Env) (H : Heap) : enter cx 3 n0 3 e H = enterK [] 0 n0 e H := rfl
@[simp] theorem en3_4 [MaxL] [TxtC] (n0 : Nat) (e : Env) (H : Heap) : enter cx 3 n0 4 e H = enterK [1, 2, 3, 4, 9] 0 n0 e H := rfl
@[simp] theorem en3_5 [MaxL] [TxtC] (n0 : Nat) (e : Env) (H : Heap) : enter cx 3 n0 5 e H = enterK [9] 0 n0 e H := rfl
@[simp] theorem en3_6 [MaxL] [TxtC] (n0 : Nat) (e : Env) (H : Heap) : enter cx 3 n0 6 e H = enterK [1, 2, 3, 4, 9] 0 n0 e H := rfl
@[simp] theorem en3_7 [MaxL] [TxtC] (n0 : Nat) (e : Env) (H : Heap) : enter cx 3 n0 7 e H = enterZ [10] [2, 3, 9, 10] 0 n0 e H := rfl
@[simp] theorem en3_8 [MaxL] [TxtC] (n0 : Nat) (e : Env) (H : Heap) : enter cx 3 n0 8 e H = enterK [2, 3, 9, 10, 11] 1 n0 e H := rfl
@[simp] theorem en3_9 [MaxL] [TxtC] (n0 : Nat) (e : Env) (H : Heap) : enter cx 3 n0 9 e H = enterK [2, 3, 9, 10, 11] 0 n0 e H := rfl
@[simp] theorem en3_10 [MaxL] [TxtC] (n0 : Nat) (e : Env) (H : Heap) : enter cx 3 n0 10 e H = enterK [2, 3, 9, 10, 11] 0 n0 e H := rfl
@[simp] theorem en3_11 [MaxL] [TxtC] (n0 : Nat) (e : Env) (H : Heap) : enter cx 3 n0 11 e H = enterK [2, 3, 9, 10, 11, 12] 0 n0 e H := rfl
@[simp] theorem en3_12 [MaxL] [TxtC] (n0 : Nat) (e : Env) (H : Heap) : enter cx 3 n0 12 e H = enterK [2, 3, 9, 10, 11, 12] 0 n0 e H := rfl
@[simp] theorem en3_13 [MaxL] [TxtC] (n0 : Nat) (e : Env) (H : Heap) : enter cx 3 n0 13 e H = enterK [] 0 n0 e H := rfl
@[simp] theorem en3_14 [MaxL] [TxtC] (n0 : Nat) (e : Env) (H : Heap) : enter cx 3 n0 14 e H = enterK [2, 3, 9, 10, 11, 12] 0 n0 e H := rfl
@[simp] theorem en3_15 [MaxL] [TxtC] (n0 : Nat) (e : Env) (H : Heap) : enter cx 3 n0 15 e H = enterK [] 0 n0 e H := rfl
@[simp] theorem en3_16 [MaxL] [TxtC] (n0 : Nat) (e : Env) (H : Heap) : enter cx 3 n0 16 e H = enterK [2, 3, 9, 10, 11, 12] 0 n0 e H := rfl
@[simp] theorem en3_17 [MaxL] [TxtC] (n0 : Nat) (e : Env) (H : Heap) : enter cx 3 n0 17 e H = enterK [2, 3, 9, 10, 11, 12, 13, 14, 15] 0 n0 e H := rfl
@[simp] theorem en3_18 [MaxL] [TxtC] (n0 : Nat) (e : Env) (H : Heap) : enter cx 3 n0 18 e H = enterK [2, 3, 9, 10, 11, 12, 13, 14, 15, 16, 17, 18] 0 n0 e H := rfl
@[simp] theorem en3_19 [MaxL] [TxtC] (n0 : Nat) (e : Env) (H : Heap) : enter cx 3 n0 19 e H = enterK [] 0 n0 e H := rfl
@[simp] theorem en3_20 [MaxL] [TxtC] (n0 : Nat) (e : Env) (H : Heap) : enter cx 3 n0 20 e H = enterK [9] 0 n0 e H := rfl
@[simp] theorem en4_0 [MaxL] [TxtC] (n0 : Nat) (e : Env) (H : Heap) : enter cx 4 n0 0 e H = enterK [0, 1, 2, 3, 4] 0 n0 e H := rfl
@[simp] theorem en4_1 [MaxL] [TxtC] (n0 : Nat) (e : Env) (H : Heap) : enter cx 4 n0 1 e H = enterK [2, 3, 4, 5, 6] 0 n0 e H := rfl
@[simp] theorem en4_2 [MaxL] [TxtC] (n0 : Nat) (e : Env) (H : Heap) : enter cx 4 n0 2 e H = enterK [2, 3, 4, 5, 6, 11] 0 n0 e H := rfl
@[simp] theorem en4_3 [MaxL] [TxtC] (n0 : Nat) (e : Env) (H : Heap) : enter cx 4 n0 3 e H = enterK [] 0 n0 e H := rfl
@[simp] theorem en4_4 [MaxL] [TxtC] (n0 : Nat) (e : Env) (H : Heap) : enter cx 4 n0 4 e H = enterK [2, 3, 4, 5, 6, 11] 0 n0 e H := rfl
@[simp] theorem en4_5 [MaxL] [TxtC] (n0 : Nat) (e : Env) (H : Heap) : enter cx 4 n0 5 e H = enterK [11] 0 n0 e H := rfl
@[simp] theorem en4_6 [MaxL] [TxtC] (n0 : Nat) (e : Env) (H : Heap) : enter cx 4 n0 6 e H = enterK [2, 3, 4, 5, 6, 11] 0 n0 e H := rfl
@[simp] theorem en4_7 [MaxL] [TxtC] (n0 : Nat) (e : Env) (H : Heap) : enter cx 4 n0 7 e H = enterK [3, 4, 11, 12] 0 n0 e H := rfl
@[simp] theorem en4_8 [MaxL] [TxtC] (n0 : Nat) (e : Env) (H : Heap) : enter cx 4 n0 8 e H = enterK [11, 13, 14] 0 n0 e H := rfl
@[simp] theorem en4_9 [MaxL] [TxtC] (n0 : Nat) (e : Env) (H : Heap) : enter cx 4 n0 9 e H = enterK [11] 0 n0 e H := rfl
@[simp] theorem en4_10 [MaxL] [TxtC] (n0 : Nat) (e : Env) (H : Heap) : enter cx 4 n0 10 e H = enterK [11, 13, 14] 0 n0 e H := rfl
@[simp] theorem en4_11 [MaxL] [TxtC] (n0 : Nat) (e : Env) (H : Heap) : enter cx 4 n0 11 e H = enterK [11, 13, 14, 15] 0 n0 e H := rfl
@[simp] theorem en5_0 [MaxL] [TxtC] (n0 : Nat) (e : Env) (H : Heap) : enter cx 5 n0 0 e H = enterK [0, 1, 2] 0 n0 e H := rfl
@[simp] theorem en5_1 [MaxL] [TxtC] (n0 : Nat) (e : Env) (H : Heap) : enter cx 5 n0 1 e H = enterK [2, 3, 4] 0 n0 e H := rfl
@[simp] theorem en5_2 [MaxL] [TxtC] (n0 : Nat) (e : Env) (H : Heap) : enter cx 5 n0 2 e H = enterK [2, 3, 4, 7] 0 n0 e H := rfl
@[simp] theorem en5_3 [MaxL] [TxtC] (n0 : Nat) (e : Env) (H : Heap) : enter cx 5 n0 3 e H = enterK [] 0 n0 e H := rfl
@[simp] theorem en5_4 [MaxL] [TxtC] (n0 : Nat) (e : Env) (H : Heap) : enter cx 5 n0 4 e H = enterK [2, 3, 4, 7] 0 n0 e H := rfl
@[simp] theorem en5_5 [MaxL] [TxtC] (n0 : Nat) (e : Env) (H : Heap) : enter cx 5 n0 5 e H = enterK [7] 0 n0 e H := rfl
@[simp] theorem en5_6 [MaxL] [TxtC] (n0 : Nat) (e : Env) (H : Heap) : enter cx 5 n0 6 e H = enterK [2, 3, 4, 7] 0 n0 e H := rfl
@[simp] theorem en5_7 [MaxL] [TxtC] (n0 : Nat) (e : Env) (H : Heap) : enter cx 5 n0 7 e H = enterK [2, 3, 4, 7, 8, 9, 10] 0 n0 e H := rfl
@[simp] theorem en5_8 [MaxL] [TxtC] (n0 : Nat) (e : Env) (H : Heap) : enter cx 5 n0 8 e H = enterK [3, 4, 7, 8, 9, 10, 11, 12, 13] 0 n0 e H := rfl
@[simp] theorem en5_9 [MaxL] [TxtC] (n0 : Nat) (e : Env) (H : Heap) : enter cx 5 n0 9 e H = enterK [3, 4, 7, 8, 9, 10, 11, 12, 13, 14] 0 n0 e H := rfl
@[simp] theorem en11_0 [MaxL] [TxtC] (n0 : Nat) (e : Env) (H : Heap) : enter cx 11 n0 0 e H = enterK [] 0 n0 e H := rfl
@[simp] theorem en11_1 [MaxL] [TxtC] (n0 : Nat) (e : Env) (H : Heap) : enter cx 11 n0 1 e H = enterK [] 0 n0 e H := rfl
@[simp] theorem en11_2 [MaxL] [TxtC] (n0 : Nat) (e : Env) (H : Heap) : enter cx 11 n0 2 e H = enterK [1] 0 n0 e H := rfl
@[simp] theorem en11_3 [MaxL] [TxtC] (n0 : Nat) (e : Env) (H : Heap) : enter cx 11 n0 3 e H = enterK [1, 2, 3, 4] 0 n0 e H := rfl
@[simp] theorem en12_0 [MaxL] [TxtC] (n0 : Nat) (e : Env) (H : Heap) : enter cx 12 n0 0 e H = enterK [0] 0 n0 e H := rfl
@[simp] theorem en12_1 [MaxL] [TxtC] (n0 : Nat) (e : Env) (H : Heap) : enter cx 12 n0 1 e H = enterK [1] 0 n0 e H := rfl
@[simp] theorem en12_2 [MaxL] [TxtC] (n0 : Nat) (e : Env) (H : Heap) : enter cx 12 n0 2 e H = enterK [3] 0 n0 e H := rfl
@[simp] theorem en12_3 [MaxL] [TxtC] (n0 : Nat) (e : Env) (H : Heap) : enter cx 12 n0 3 e H = enterK [] 0 n0 e H := rfl
@[simp] theorem en12_4 [MaxL] [TxtC] (n0 : Nat) (e : Env) (H : Heap) : enter cx 12 n0 4 e H = enterK [3] 0 n0 e H := rfl
@[simp] theorem en12_5 [MaxL] [TxtC] (n0 : Nat) (e : Env) (H : Heap) : enter cx 12 n0 5 e H = enterK [3, 4] 0 n0 e H := rfl
@[simp] theorem en12_6 [MaxL] [TxtC] (n0 : Nat) (e : Env) (H : Heap) : enter cx 12 n0 6 e H = enterK [3, 4] 0 n0 e H := rfl
@[simp] theorem en12_7 [MaxL] [TxtC] (n0 : Nat) (e : Env) (H : Heap) : enter cx 12 n0 7 e H = enterK [3, 4] 0 n0 e H := rfl
@[simp] theorem en12_8 [MaxL] [TxtC] (n0 : Nat) (e : Env) (H : Heap) : enter cx 12 n0 8 e H = enterK [] 0 n0 e H := rfl
@[simp] theorem en12_9 [MaxL] [TxtC] (n0 : Nat) (e : Env) (H : Heap) : enter cx 12 n0 9 e H = enterK [] 0 n0 e H := rfl
@[simp] theorem en13_0 [MaxL] [TxtC] (n0 : Nat) (e : Env) (H : Heap) : enter cx 13 n0 0 e H = enterK [0, 1] 0 n0 e H := rfl
@[simp] theorem en13_1 [MaxL] [TxtC] (n0 : Nat) (e : Env) (H : Heap) : enter cx 13 n0 1 e H = enterK [0, 1] 0 n0 e H := rfl
@[simp] theorem en13_2 [MaxL] [TxtC] (n0 : Nat) (e : Env) (H : Heap) : enter cx 13 n0 2 e H = enterK [0, 1, 5] 0 n0 e H := rfl
@[simp] theorem en13_3 [MaxL] [TxtC] (n0 : Nat) (e : Env) (H : Heap) : enter cx 13 n0 3 e H = enterR [] [5, 6] [0, 1] n0 e H := rfl
@[simp] theorem en13_4 [MaxL] [TxtC] (n0 : Nat) (e : Env) (H : Heap) : enter cx 13 n0 4 e H = enterK [0, 1, 5, 6] 0 n0 e H := rfl
@[simp] theorem en13_5 [MaxL] [TxtC] (n0 : Nat) (e : Env) (H : Heap) : enter cx 13 n0 5 e H = enterK [0, 1, 5, 6, 7] 0 n0 e H := rfl
@[simp] theorem en13_6 [MaxL] [TxtC] (n0 : Nat) (e : Env) (H : Heap) : enter cx 13 n0 6 e H = enterK [0, 1, 5, 6, 7, 8] 0 n0 e H := rfl
@[simp] theorem en13_7 [MaxL] [TxtC] (n0 : Nat) (e : Env) (H : Heap) : enter cx 13 n0 7 e H = enterK [0, 1, 5, 6, 7, 8] 0 n0 e H := rfl
@[simp] theorem en13_8 [MaxL] [TxtC] (n0 : Nat) (e : Env) (H : Heap) : enter cx 13 n0 8 e H = enterK [0, 1, 5, 6, 7, 8, 9] 0 n0 e H := rfl
@[simp] theorem en13_9 [MaxL] [TxtC] (n0 : Nat) (e : Env) (H : Heap) : enter cx 13 n0 9 e H = enterK [0, 1, 5, 6, 7, 9] 0 n0 e H := rfl
@[simp] theorem en13_10 [MaxL] [TxtC] (n0 : Nat) (e : Env) (H : Heap) : enter cx 13 n0 10 e H = enterK [0, 1, 5, 6, 7, 8] 0 n0 e H := rfl
@[simp] theorem en13_11 [MaxL] [TxtC] (n0 : Nat) (e : Env) (H : Heap) : enter cx 13 n0 11 e H = enterK [0, 1, 5, 6, 7, 8] 0 n0 e H := rfl
@[simp] theorem en13_12 [MaxL] [TxtC] (n0 : Nat) (e : Env) (H : Heap) : enter cx 13 n0 12 e H = enterK [5] 0 n0 e H := rfl
@[simp] theorem en14_0 [MaxL] [TxtC] (n0 : Nat) (e : Env) (H : Heap) : enter cx 14 n0 0 e H = enterK [0] 0 n0 e H := rfl
@[simp] theorem en14_1 [MaxL] [TxtC] (n0 : Nat) (e : Env) (H : Heap) : enter cx 14 n0 1 e H = enterK [1] 0 n0 e H := rfl
@[simp] theorem en14_2 [MaxL] [TxtC] (n0 : Nat) (e : Env) (H : Heap) : enter cx 14 n0 2 e H = enterK [] 0 n0 e H := rfl
@[simp] theorem en14_3 [MaxL] [TxtC] (n0 : Nat) (e : Env) (H : Heap) : enter cx 14 n0 3 e H = enterK [1] 0 n0 e H := rfl
@[simp] theorem en14_4 [MaxL] [TxtC] (n0 : Nat) (e : Env) (H : Heap) : enter cx 14 n0 4 e H = enterK [1] 0 n0 e H := rfl
@[simp] theorem en14_5 [MaxL] [TxtC] (n0 : Nat) (e : Env) (H : Heap) : enter cx 14 n0 5 e H = enterK [1] 0 n0 e H := rfl
@[simp] theorem en14_6 [MaxL] [TxtC] (n0 : Nat) (e : Env) (H : Heap) : enter cx 14 n0 6 e H = enterK [1, 3] 0 n0 e H := rfl
@[simp] theorem en14_7 [MaxL] [TxtC] (n0 : Nat) (e : Env) (H : Heap) : enter cx 14 n0 7 e H = enterK [1, 3, 4] 0 n0 e H := rfl
@[simp] theorem en14_8 [MaxL] [TxtC] (n0 : Nat) (e : Env) (H : Heap) : enter cx 14 n0 8 e H = enterK [3, 4, 59, 60, 61] 0 n0 e H := rfl
@[simp] theorem en14_9 [MaxL] [TxtC] (n0 : Nat) (e : Env) (H : Heap) : enter cx 14 n0 9 e H = enterK [3, 4, 59, 60, 61] 0 n0 e H := rfl
@[simp] theorem en14_10 [MaxL] [TxtC] (n0 : Nat) (e : Env) (H : Heap) : enter cx 14 n0 10 e H = enterK [3, 4, 6, 59, 60, 61] 0 n0 e H := rfl
@[simp] theorem en14_11 [MaxL] [TxtC] (n0 : Nat) (e : Env) (H : Heap) : enter cx 14 n0 11 e H = enterK [3, 4, 59, 60, 61] 0 n0 e H := rfl
@[simp] theorem en14_12 [MaxL] [TxtC] (n0 : Nat) (e : Env) (H : Heap) : enter cx 14 n0 12 e H = enterK [3, 4] 0 n0 e H := rfl
@[simp] theorem en14_13 [MaxL] [TxtC] (n0 : Nat) (e : Env) (H : Heap) : enter cx 14 n0 13 e H = enterK [4, 70, 71, 72] 1 n0 e H := rfl
@[simp] theorem en14_14 [MaxL] [TxtC] (n0 : Nat) (e : Env) (H : Heap) : enter cx 14 n0 14 e H = enterK [4, 70, 71, 72] 0 n0 e H := rfl
@[simp] theorem en14_15 [MaxL] [TxtC] (n0 : Nat) (e : Env) (H : Heap) : enter cx 14 n0 15 e H = enterK [4, 8, 70, 71, 72] 0 n0 e H := rfl
@[simp] theorem en14_16 [MaxL] [TxtC] (n0 : Nat) (e : Env) (H : Heap) : enter cx 14 n0 16 e H = enterK [4, 70, 71, 72] 0 n0 e H := rfl
@[simp] theorem en14_17 [MaxL] [TxtC] (n0 : Nat) (e : Env) (H : Heap) : enter cx 14 n0 17 e H = enterK [4] 0 n0 e H := rfl
@[simp] theorem en14_18 [MaxL] [TxtC] (n0 : Nat) (e : Env) (H : Heap) : enter cx 14 n0 18 e H = enterK [4] 0 n0 e H := rfl
@[simp] theorem en15_0 [MaxL] [TxtC] (n0 : Nat) (e : Env) (H : Heap) : enter cx 15 n0 0 e H = enterK [0] 0 n0 e H := rfl
@[simp] theorem en15_1 [MaxL] [TxtC] (n0 : Nat) (e : Env) (H : Heap) : enter cx 15 n0 1 e H = enterK [1] 0 n0 e H := rfl
@[simp] theorem en15_2 [MaxL] [TxtC] (n0 : Nat) (e : Env) (H : Heap) : enter cx 15 n0 2 e H = enterK [1, 3] 0 n0 e H := rfl
@[simp] theorem en15_3 [MaxL] [TxtC] (n0 : Nat) (e : Env) (H : Heap) : enter cx 15 n0 3 e H = enterK [1, 3] 0 n0 e H := rfl
@[simp] theorem en15_4 [MaxL] [TxtC] (n0 : Nat) (e : Env) (H : Heap) : enter cx 15 n0 4 e H = enterK [1, 3] 0 n0 e H := rfl
@[simp] theorem en15_5 [MaxL] [TxtC] (n0 : Nat) (e : Env) (H : Heap) : enter cx 15 n0 5 e H = enterK [] 0 n0 e H := rfl
@[simp] theorem en15_6 [MaxL] [TxtC] (n0 : Nat) (e : Env) (H : Heap) : enter cx 15 n0 6 e H = enterK [3] 0 n0 e H := rfl
@[simp] theorem en15_7 [MaxL] [TxtC] (n0 : Nat) (e : Env) (H : Heap) : enter cx 15 n0 7 e H = enterK [73, 74, 75] 1 n0 e H := rfl
@[simp] theorem en15_8 [MaxL] [TxtC] (n0 : Nat) (e : Env) (H : Heap) : enter cx 15 n0 8 e H = enterK [73, 74, 75] 0 n0 e H := rfl
@[simp] theorem en15_9 [MaxL] [TxtC] (n0 : Nat) (e : Env) (H : Heap) : enter cx 15 n0 9 e H = enterK [5, 73, 74, 75] 0 n0 e H := rfl
@[simp] theorem en15_10 [MaxL] [TxtC] (n0 : Nat) (e : Env) (H : Heap) : enter cx 15 n0 10 e H = enterK [] 0 n0 e H := rfl
@[simp] theorem en15_11 [MaxL] [TxtC] (n0 : Nat) (e : Env) (H : Heap) : enter cx 15 n0 11 e H = enterK [73, 74, 75] 0 n0 e H := rfl
@[simp] theorem en15_12 [MaxL] [TxtC] (n0 : Nat) (e : Env) (H : Heap) : enter cx 15 n0 12 e H = enterK [] 0 n0 e H := rfl
@[simp] theorem en16_0 [MaxL] [TxtC] (n0 : Nat) (e : Env) (H : Heap) : enter cx 16 n0 0 e H = enterK [0] 0 n0 e H := rfl
@[simp] theorem en16_1 [MaxL] [TxtC] (n0 : Nat) (e : Env) (H : Heap) : enter cx 16 n0 1 e H = enterK [0, 2] 0 n0 e H := rfl
@[simp] theorem en16_2 [MaxL] [TxtC] (n0 : Nat) (e : Env) (H : Heap) : enter cx 16 n0 2 e H = enterK [0, 2, 5] 0 n0 e H := rfl
@[simp] theorem en16_3 [MaxL] [TxtC] (n0 : Nat) (e : Env) (H : Heap) : enter cx 16 n0 3 e H = enterK [0, 2, 5, 6] 0 n0 e H := rfl
@[simp] theorem en16_4 [MaxL] [TxtC] (n0 : Nat) (e : Env) (H : Heap) : enter cx 16 n0 4 e H = enterK [0, 2, 5, 6] 0 n0 e H := rfl
@[simp] theorem en16_5 [MaxL] [TxtC] (n0 : Nat) (e : Env) (H : Heap) : enter cx 16 n0 5 e H = enterK [0, 2, 5, 6] 0 n0 e H := rfl
@[simp] theorem en16_6 [MaxL] [TxtC] (n0 : Nat) (e : Env) (H : Heap) : enter cx 16 n0 6 e H = enterK [0, 2, 6] 0 n0 e H := rfl
@[simp] theorem en16_7 [MaxL] [TxtC] (n0 : Nat) (e : Env) (H : Heap) : enter cx 16 n0 7 e H = enterK [0, 2, 6, 7] 0 n0 e H := rfl
@[simp] theorem en16_8 [MaxL] [TxtC] (n0 : Nat) (e : Env) (H : Heap) : enter cx 16 n0 8 e H = enterK [2] 0 n0 e H := rfl
@[simp] theorem en16_9 [MaxL] [TxtC] (n0 : Nat) (e : Env) (H : Heap) : enter cx 16 n0 9 e H = enterK [2, 6, 7] 0 n0 e H := rfl
@[simp] theorem en17_0 [MaxL] [TxtC] (n0 : Nat) (e : Env) (H : Heap) : enter cx 17 n0 0 e H = enterK [0] 0 n0 e H := rfl
@[simp] theorem en17_1 [MaxL] [TxtC] (n0 : Nat) (e : Env) (H : Heap) : enter cx 17 n0 1 e H = enterK [0] 0 n0 e H := rfl
@[simp] theorem en18_0 [MaxL] [TxtC] (n0 : Nat) (e : Env) (H : Heap) : enter cx 18 n0 0 e H = enterK [0, 1] 0 n0 e H := rfl
@[simp] theorem en18_1 [MaxL] [TxtC] (n0 : Nat) (e : Env) (H : Heap) : enter cx 18 n0 1 e H = enterK [0, 1] 0 n0 e H := rfl
@[simp] theorem en18_2 [MaxL] [TxtC] (n0 : Nat) (e : Env) (H : Heap) : enter cx 18 n0 2 e H = enterK [] 0 n0 e H := rfl
@[simp] theorem en18_3 [MaxL] [TxtC] (n0 : Nat) (e : Env) (H : Heap) : enter cx 18 n0 3 e H = enterK [0, 1] 0 n0 e H := rfl
@[simp] theorem en19_0 [MaxL] [TxtC] (n0 : Nat) (e : Env) (H : Heap) : enter cx 19 n0 0 e H = enterK [0, 1] 0 n0 e H := rfl
@[simp] theorem en19_1 [MaxL] [TxtC] (n0 : Nat) (e : Env) (H : Heap) : enter cx 19 n0 1 e H = enterK [2, 3] 0 n0 e H := rfl
@[simp] theorem en20_0 [MaxL] [TxtC] (n0 : Nat) (e : Env) (H : Heap) : enter cx 20 n0 0 e H = enterK [0, 1] 0 n0 e H := rfl
@[simp] theorem en20_1 [MaxL] [TxtC] (n0 : Nat) (e : Env) (H : Heap) : enter cx 20 n0 1 e H = enterK [0, 1] 0 n0 e H := rfl
@[simp] theorem en21_0 [MaxL] [TxtC] (n0 : Nat) (e : Env) (H : Heap) : enter cx 21 n0 0 e H = enterK [0] 0 n0 e H := rfl
@[simp] theorem en21_1 [MaxL] [TxtC] (n0 : Nat) (e : Env) (H : Heap) : enter cx 21 n0 1 e H = enterK [0, 2] 0 n0 e H := rfl
@[simp] theorem en21_2 [MaxL] [TxtC] (n0 : Nat) (e : Env) (H : Heap) : enter cx 21 n0 2 e H = enterK [0, 2, 5, 6, 7] 0 n0 e H := rfl
@[simp] theorem en21_3 [MaxL] [TxtC] (n0 : Nat) (e : Env) (H : Heap) : enter cx 21 n0 3 e H = enterK [0, 2, 5] 0 n0 e H := rfl
@[simp] theorem en21_4 [MaxL] [TxtC] (n0 : Nat) (e : Env) (H : Heap) : enter cx 21 n0 4 e H = enterK [0, 2, 5, 6, 7] 0 n0 e H := rfl
@[simp] theorem en21_5 [MaxL] [TxtC] (n0 : Nat) (e : Env) (H : Heap) : enter cx 21 n0 5 e H = enterK [2] 0 n0 e H := rfl
@[simp] theorem en21_6 [MaxL] [TxtC] (n0 : Nat) (e : Env) (H : Heap) : enter cx 21 n0 6 e H = enterK [2, 5, 6] 0 n0 e H := rfl
@[simp] theorem en22_0 [MaxL] [TxtC] (n0 : Nat) (e : Env) (H : Heap) : enter cx 22 n0 0 e H = enterK [0] 0 n0 e H := rfl
@[simp] theorem en22_1 [MaxL] [TxtC] (n0 : Nat) (e : Env) (H : Heap) : enter cx 22 n0 1 e H = enterK [1] 0 n0 e H := rfl
@[simp] theorem en22_2 [MaxL] [TxtC] (n0 : Nat) (e : Env) (H : Heap) : enter cx 22 n0 2 e H = enterK [] 0 n0 e H := rfl
@[simp] theorem en22_3 [MaxL] [TxtC] (n0 : Nat) (e : Env) (H : Heap) : enter cx 22 n0 3 e H = enterK [1] 0 n0 e H := rfl
@[simp] theorem en22_4 [MaxL] [TxtC] (n0 : Nat) (e : Env) (H : Heap) : enter cx 22 n0 4 e H = enterK [1, 3] 0 n0 e H := rfl
@[simp] theorem en22_5 [MaxL] [TxtC] (n0 : Nat) (e : Env) (H : Heap) : enter cx 22 n0 5 e H = enterK [1] 0 n0 e H := rfl
@[simp] theorem en22_6 [MaxL] [TxtC] (n0 : Nat) (e : Env) (H : Heap) : enter cx 22 n0 6 e H = enterK [1, 3] 0 n0 e H := rfl
@[simp] theorem en22_7 [MaxL] [TxtC] (n0 : Nat) (e : Env) (H : Heap) : enter cx 22 n0 7 e H = enterK [3, 4] 0 n0 e H := rfl
@[simp] theorem en22_8 [MaxL] [TxtC] (n0 : Nat) (e : Env) (H : Heap) : enter cx 22 n0 8 e H = enterK [3, 4, 5] 3 n0 e H := rfl
@[simp] theorem en22_9 [MaxL] [TxtC] (n0 : Nat) (e : Env) (H : Heap) : enter cx 22 n0 9 e H = enterK [3, 4, 5] 0 n0 e H := rfl
@[simp] theorem en22_10 [MaxL] [TxtC] (n0 : Nat) (e : Env) (H : Heap) : enter cx 22 n0 10 e H = enterK [3, 4, 5] 0 n0 e H := rfl
@[simp] theorem en22_11 [MaxL] [TxtC] (n0 : Nat) (e : Env) (H : Heap) : enter cx 22 n0 11 e H = enterK [3, 4, 5, 6] 0 n0 e H := rfl
@[simp] theorem en22_12 [MaxL] [TxtC] (n0 : Nat) (e : Env) (H : Heap) : enter cx 22 n0 12 e H = enterK [3, 4, 5, 6] 0 n0 e H := rfl
@[simp] theorem en22_13 [MaxL] [TxtC] (n0 : Nat) (e : Env) (H : Heap) : enter cx 22 n0 13 e H = enterK [3, 4, 5, 6] 0 n0 e H := rfl
@[simp] theorem en22_14 [MaxL] [TxtC] (n0 : Nat) (e : Env) (H : Heap) : enter cx 22 n0 14 e H = enterK [4] 0 n0 e H := rfl
@[simp] theorem en23_0 [MaxL] [TxtC] (n0 : Nat) (e : Env) (H : Heap) : enter cx 23 n0 0 e H = enterK [0] 0 n0 e H := rfl
@[simp] theorem en23_1 [MaxL] [TxtC] (n0 : Nat) (e : Env) (H : Heap) : enter cx 23 n0 1 e H = enterK [1] 0 n0 e H := rfl
@[simp] theorem en23_2 [MaxL] [TxtC] (n0 : Nat) (e : Env) (H : Heap) : enter cx 23 n0 2 e H = enterK [1, 3] 0 n0 e H := rfl
@[simp] theorem en23_3 [MaxL] [TxtC] (n0 : Nat) (e : Env) (H : Heap) : enter cx 23 n0 3 e H = enterK [1, 3] 0 n0 e H := rfl
@[simp] theorem en23_4 [MaxL] [TxtC] (n0 : Nat) (e : Env) (H : Heap) : enter cx 23 n0 4 e H = enterK [1, 3] 0 n0 e H := rfl
@[simp] theorem en23_5 [MaxL] [TxtC] (n0 : Nat) (e : Env) (H : Heap) : enter cx 23 n0 5 e H = enterK [1, 3, 4] 0 n0 e H := rfl
@[simp] theorem en23_6 [MaxL] [TxtC] (n0 : Nat) (e : Env) (H : Heap) : enter cx 23 n0 6 e H = enterK [1, 3, 4] 0 n0 e H := rfl
@[simp] theorem en23_7 [MaxL] [TxtC] (n0 : Nat) (e : Env) (H : Heap) : enter cx 23 n0 7 e H = enterK [1, 3, 4] 0 n0 e H := rfl
@[simp] theorem en23_8 [MaxL] [TxtC] (n0 : Nat) (e : Env) (H : Heap) : enter cx 23 n0 8 e H = enterK [] 0 n0 e H := rfl
@[simp] theorem en23_9 [MaxL] [TxtC] (n0 : Nat) (e : Env) (H : Heap) : enter cx 23 n0 9 e H = enterK [1, 3] 0 n0 e H := rfl
@[simp] theorem en24_0 [MaxL] [TxtC] (n0 : Nat) (e : Env) (H : Heap) : enter cx 24 n0 0 e H = enterK [0, 1] 0 n0 e H := rfl
@[simp] theorem en24_1 [MaxL] [TxtC] (n0 : Nat) (e : Env) (H : Heap) : enter cx 24 n0 1 e H = enterK [2, 3] 0 n0 e H := rfl
@[simp] theorem en26_0 [MaxL] [TxtC] (n0 : Nat) (e : Env) (H : Heap) : enter cx 26 n0 0 e H = enterK [0] 0 n0 e H := rfl
@[simp] theorem en26_1 [MaxL] [TxtC] (n0 : Nat) (e : Env) (H : Heap) : enter cx 26 n0 1 e H = enterK [0, 2] 0 n0 e H := rfl
@[simp] theorem en26_2 [MaxL] [TxtC] (n0 : Nat) (e : Env) (H : Heap) : enter cx 26 n0 2 e H = enterK [0, 2, 3] 0 n0 e H := rfl
@[simp] theorem en26_3 [MaxL] [TxtC] (n0 : Nat) (e : Env) (H : Heap) : enter cx 26 n0 3 e H = enterK [2, 3] 0 n0 e H := rfl
@[simp] theorem en38_0 [MaxL] [TxtC] (n0 : Nat) (e : Env) (H : Heap) : enter cx 38 n0 0 e H = enterK [0] 0 n0 e H := rfl
@[simp] theorem en38_1 [MaxL] [TxtC] (n0 : Nat) (e : Env) (H : Heap) : enter cx 38 n0 1 e H = enterK [0] 0 n0 e H := rfl
@[simp] theorem en39_0 [MaxL] [TxtC] (n0 : Nat) (e : Env) (H : Heap) : enter cx 39 n0 0 e H = enterK [0, 1] 0 n0 e H := rfl
@[simp] theorem en39_1 [MaxL] [TxtC] (n0 : Nat) (e : Env) (H : Heap) : enter cx 39 n0 1 e H = enterK [0, 1] 0 n0 e H := rfl
@[simp] theorem en39_2 [MaxL] [TxtC] (n0 : Nat) (e : Env) (H : Heap) : enter cx 39 n0 2 e H = enterK [] 0 n0 e H := rfl
@[simp] theorem en39_3 [MaxL] [TxtC] (n0 : Nat) (e : Env) (H : Heap) : enter cx 39 n0 3 e H = enterK [0, 1] 0 n0 e H := rfl
@[simp] theorem en39_4 [MaxL] [TxtC] (n0 : Nat) (e : Env) (H : Heap) : enter cx 39 n0 4 e H = enterK [0, 1] 0 n0 e H := rfl
@[simp] theorem en40_0 [MaxL] [TxtC] (n0 : Nat) (e : Env) (H : Heap) : enter cx 40 n0 0 e H = enterK [0, 1] 0 n0 e H := rfl
@[simp] theorem en40_1 [MaxL] [TxtC] (n0 : Nat) (e : Env) (H : Heap) : enter cx 40 n0 1 e H = enterK [0, 1, 4] 0 n0 e H := rfl
@[simp] theorem en40_2 [MaxL] [TxtC] (n0 : Nat) (e : Env) (H : Heap) : enter cx 40 n0 2 e H = enterK [0, 1, 4, 5] 0 n0 e H := rfl
@[simp] theorem en41_0 [MaxL] [TxtC] (n0 : Nat) (e : Env) (H : Heap) : enter cx 41 n0 0 e H = enterK [0] 0 n0 e H := rfl
@[simp] theorem en41_1 [MaxL] [TxtC] (n0 : Nat) (e : Env) (H : Heap) : enter cx 41 n0 1 e H = enterK [0] 0 n0 e H := rfl
@[simp] theorem en42_0 [MaxL] [TxtC] (n0 : Nat) (e : Env) (H : Heap) : enter cx 42 n0 0 e H = enterK [0] 0 n0 e H := rfl
@[simp] theorem en42_1 [MaxL] [TxtC] (n0 : Nat) (e : Env) (H : Heap) : enter cx 42 n0 1 e H = enterK [1] 0 n0 e H := rfl
@[simp] theorem en42_2 [MaxL] [TxtC] (n0 : Nat) (e : Env) (H : Heap) : enter cx 42 n0 2 e H = enterK [1, 3] 0 n0 e H := rfl
@[simp] theorem en42_3 [MaxL] [TxtC] (n0 : Nat) (e : Env) (H : Heap) : enter cx 42 n0 3 e H = enterR [] [3] [6, 7] n0 e H := rfl
@[simp] theorem en42_4 [MaxL] [TxtC] (n0 : Nat) (e : Env) (H : Heap) : enter cx 42 n0 4 e H = enterK [3, 6, 7] 0 n0 e H := rfl
@[simp] theorem en42_5 [MaxL] [TxtC] (n0 : Nat) (e : Env) (H : Heap) : enter cx 42 n0 5 e H = enterK [3, 5, 6, 7] 0 n0 e H := rfl
@[simp] theorem en42_6 [MaxL] [TxtC] (n0 : Nat) (e : Env) (H : Heap) : enter cx 42 n0 6 e H = enterK [3, 6, 7] 0 n0 e H := rfl
@[simp] theorem en42_7 [MaxL] [TxtC] (n0 : Nat) (e : Env) (H : Heap) : enter cx 42 n0 7 e H = enterK [3] 0 n0 e H := rfl
@[simp] theorem en43_0 [MaxL] [TxtC] (n0 : Nat) (e : Env) (H : Heap) : enter cx 43 n0 0 e H = enterK [0] 0 n0 e H := rfl
@[simp] theorem en43_1 [MaxL] [TxtC] (n0 : Nat) (e : Env) (H : Heap) : enter cx 43 n0 1 e H = enterK [1] 0 n0 e H := rfl
@[simp] theorem en43_2 [MaxL] [TxtC] (n0 : Nat) (e : Env) (H : Heap) : enter cx 43 n0 2 e H = enterK [1, 3] 0 n0 e H := rfl
@[simp] theorem en44_0 [MaxL] [TxtC] (n0 : Nat) (e : Env) (H : Heap) : enter cx 44 n0 0 e H = enterK [0, 1] 0 n0 e H := rfl
@[simp] theorem en44_1 [MaxL] [TxtC] (n0 : Nat) (e : Env) (H : Heap) : enter cx 44 n0 1 e H = enterK [2, 3, 4] 0 n0 e H := rfl
@[simp] theorem en44_2 [MaxL] [TxtC] (n0 : Nat) (e : Env) (H : Heap) : enter cx 44 n0 2 e H = enterK [2, 3, 4, 5] 0 n0 e H := rfl
@[simp] theorem en44_3 [MaxL] [TxtC] (n0 : Nat) (e : Env) (H : Heap) : enter cx 44 n0 3 e H = enterK [2, 3, 4, 5, 9, 10, 11] 6 n0 e H := rfl
@[simp] theorem en44_4 [MaxL] [TxtC] (n0 : Nat) (e : Env) (H : Heap) : enter cx 44 n0 4 e H = enterK [2, 3, 4, 5, 9, 10, 11] 0 n0 e H := rfl
@[simp] theorem en44_5 [MaxL] [TxtC] (n0 : Nat) (e : Env) (H : Heap) : enter cx 44 n0 5 e H = enterK [2, 3, 4, 5, 7, 9, 10, 11] 0 n0 e H := rfl
@[simp] theorem en44_6 [MaxL] [TxtC] (n0 : Nat) (e : Env) (H : Heap) : enter cx 44 n0 6 e H = enterK [2, 3, 4, 5, 9, 10, 11] 0 n0 e H := rfl
@[simp] theorem en44_7 [MaxL] [TxtC] (n0 : Nat) (e : Env) (H : Heap) : enter cx 44 n0 7 e H = enterZ [5] [2, 3, 4, 5] 0 n0 e H := rfl
@[simp] theorem en46_0 [MaxL] [TxtC] (n0 : Nat) (e : Env) (H : Heap) : enter cx 46 n0 0 e H = enterK [0] 0 n0 e H := rfl
@[simp] theorem en46_1 [MaxL] [TxtC] (n0 : Nat) (e : Env) (H : Heap) : enter cx 46 n0 1 e H = enterK [1] 0 n0 e H := rfl
@[simp] theorem en46_2 [MaxL] [TxtC] (n0 : Nat) (e : Env) (H : Heap) : enter cx 46 n0 2 e H = enterK [1] 0 n0 e H := rfl
@[simp] theorem en46_3 [MaxL] [TxtC] (n0 : Nat) (e : Env) (H : Heap) : enter cx 46 n0 3 e H = enterK [1] 0 n0 e H := rfl
@[simp] theorem en48_0 [MaxL] [TxtC] (n0 : Nat) (e : Env) (H : Heap) : enter cx 48 n0 0 e H = enterK [0] 0 n0 e H := rfl
@[simp] theorem en48_1 [MaxL] [TxtC] (n0 : Nat) (e : Env) (H : Heap) : enter cx 48 n0 1 e H = enterK [1] 0 n0 e H := rfl
@[simp] theorem en49_0 [MaxL] [TxtC] (n0 : Nat) (e : Env) (H : Heap) : enter cx 49 n0 0 e H = enterK [0, 1] 0 n0 e H := rfl
@[simp] theorem en49_1 [MaxL] [TxtC] (n0 : Nat) (e : Env) (H : Heap) : enter cx 49 n0 1 e H = enterK [0, 1] 0 n0 e H := rfl
@[simp] theorem en50_0 [MaxL] [TxtC] (n0 : Nat) (e : Env) (H : Heap) : enter cx 50 n0 0 e H = enterK [0] 0 n0 e H := rfl
@[simp] theorem en50_1 [MaxL] [TxtC] (n0 : Nat) (e : Env) (H : Heap) : enter cx 50 n0 1 e H = enterK [0, 2] 0 n0 e H := rfl
@[simp] theorem en50_2 [MaxL] [TxtC] (n0 : Nat) (e : Env) (H : Heap) : enter cx 50 n0 2 e H = enterK [0, 2, 3, 4] 0 n0 e H := rfl
@[simp] theorem en50_3 [MaxL] [TxtC] (n0 : Nat) (e : Env) (H : Heap) : enter cx 50 n0 3 e H = enterK [0, 2, 3, 4, 6] 0 n0 e H := rfl
@[simp] theorem en50_4 [MaxL] [TxtC] (n0 : Nat) (e : Env) (H : Heap) : enter cx 50 n0 4 e H = enterK [0, 2, 6, 25, 26, 27] 0 n0 e H := rfl
@[simp] theorem en50_5 [MaxL] [TxtC] (n0 : Nat) (e : Env) (H : Heap) : enter cx 50 n0 5 e H = enterK [0, 2, 6, 25, 26, 27] 0 n0 e H := rfl
@[simp] theorem en50_6 [MaxL] [TxtC] (n0 : Nat) (e : Env) (H : Heap) : enter cx 50 n0 6 e H = enterK [0, 2, 6, 8, 25, 26, 27] 0 n0 e H := rfl
@[simp] theorem en50_7 [MaxL] [TxtC] (n0 : Nat) (e : Env) (H : Heap) : enter cx 50 n0 7 e H = enterK [0, 2, 6, 8, 9, 10, 25, 26, 27] 0 n0 e H := rfl
@[simp] theorem en50_8 [MaxL] [TxtC] (n0 : Nat) (e : Env) (H : Heap) : enter cx 50 n0 8 e H = enterK [0, 2, 6, 8, 9, 25, 26, 27] 0 n0 e H := rfl
@[simp] theorem en50_9 [MaxL] [TxtC] (n0 : Nat) (e : Env) (H : Heap) : enter cx 50 n0 9 e H = enterK [0, 2, 6, 25, 26, 27] 0 n0 e H := rfl
@[simp] theorem en50_10 [MaxL] [TxtC] (n0 : Nat) (e : Env) (H : Heap) : enter cx 50 n0 10 e H = enterK [0, 2, 6] 0 n0 e H := rfl
@[simp] theorem en50_11 [MaxL] [TxtC] (n0 : Nat) (e : Env) (H : Heap) : enter cx 50 n0 11 e H = enterK [2, 6] 0 n0 e H := rfl
@[simp] theorem en51_0 [MaxL] [TxtC] (n0 : Nat) (e : Env) (H : Heap) : enter cx 51 n0 0 e H = enterK [0] 0 n0 e H := rfl
@[simp] theorem en51_1 [MaxL] [TxtC] (n0 : Nat) (e : Env) (H : Heap) : enter cx 51 n0 1 e H = enterK [0, 2] 0 n0 e H := rfl
@[simp] theorem en51_2 [MaxL] [TxtC] (n0 : Nat) (e : Env) (H : Heap) : enter cx 51 n0 2 e H = enterK [0, 2, 3] 0 n0 e H := rfl
@[simp] theorem en51_3 [MaxL] [TxtC] (n0 : Nat) (e : Env) (H : Heap) : enter cx 51 n0 3 e H = enterK [0, 2, 3, 4] 0 n0 e H := rfl
@[simp] theorem en51_4 [MaxL] [TxtC] (n0 : Nat) (e : Env) (H : Heap) : enter cx 51 n0 4 e H = enterK [0, 2, 3, 4] 0 n0 e H := rfl
@[simp] theorem en51_5 [MaxL] [TxtC] (n0 : Nat) (e : Env) (H : Heap) : enter cx 51 n0 5 e H = enterK [0, 2, 3, 4] 0 n0 e H := rfl
@[simp] theorem en51_6 [MaxL] [TxtC] (n0 : Nat) (e : Env) (H : Heap) : enter cx 51 n0 6 e H = enterK [0, 2, 3, 4] 0 n0 e H := rfl
@[simp] theorem en51_7 [MaxL] [TxtC] (n0 : Nat) (e : Env) (H : Heap) : enter cx 51 n0 7 e H = enterK [0, 2, 3, 4] 0 n0 e H := rfl
@[simp] theorem en51_8 [MaxL] [TxtC] (n0 : Nat) (e : Env) (H : Heap) : enter cx 51 n0 8 e H = enterK [0, 2, 3, 4] 0 n0 e H := rfl
@[simp] theorem en51_9 [MaxL] [TxtC] (n0 : Nat) (e : Env) (H : Heap) : enter cx 51 n0 9 e H = enterK [0, 2, 3, 4] 6 n0 e H := rfl
@[simp] theorem en51_10 [MaxL] [TxtC] (n0 : Nat) (e : Env) (H : Heap) : enter cx 51 n0 10 e H = enterK [0, 2, 3, 4] 0 n0 e H := rfl
@[simp] theorem en51_11 [MaxL] [TxtC] (n0 : Nat) (e : Env) (H : Heap) : enter cx 51 n0 11 e H = enterK [0, 2, 3, 4, 5, 6] 0 n0 e H := rfl
@[simp] theorem en51_12 [MaxL] [TxtC] (n0 : Nat) (e : Env) (H : Heap) : enter cx 51 n0 12 e H = enterK [0, 2, 3, 4, 5] 0 n0 e H := rfl
@[simp] theorem en51_13 [MaxL] [TxtC] (n0 : Nat) (e : Env) (H : Heap) : enter cx 51 n0 13 e H = enterK [2, 3] 0 n0 e H := rfl
@[simp] theorem en52_0 [MaxL] [TxtC] (n0 : Nat) (e : Env) (H : Heap) : enter cx 52 n0 0 e H = enterK [0, 1] 0 n0 e H := rfl
@[simp] theorem en52_1 [MaxL] [TxtC] (n0 : Nat) (e : Env) (H : Heap) : enter cx 52 n0 1 e H = enterK [2, 3] 0 n0 e H := rfl
@[simp] theorem en53_0 [MaxL] [TxtC] (n0 : Nat) (e : Env) (H : Heap) : enter cx 53 n0 0 e H = enterK [0] 0 n0 e H := rfl
@[simp] theorem en53_1 [MaxL] [TxtC] (n0 : Nat) (e : Env) (H : Heap) : enter cx 53 n0 1 e H = enterK [0, 2] 0 n0 e H := rfl
@[simp] theorem en53_2 [MaxL] [TxtC] (n0 : Nat) (e : Env) (H : Heap) : enter cx 53 n0 2 e H = enterK [2, 5, 6, 7] 0 n0 e H := rfl
@[simp] theorem en53_3 [MaxL] [TxtC] (n0 : Nat) (e : Env) (H : Heap) : enter cx 53 n0 3 e H = enterK [2] 0 n0 e H := rfl
@[simp] theorem en53_4 [MaxL] [TxtC] (n0 : Nat) (e : Env) (H : Heap) : enter cx 53 n0 4 e H = enterK [2, 5, 6] 0 n0 e H := rfl
@[simp] theorem en53_5 [MaxL] [TxtC] (n0 : Nat) (e : Env) (H : Heap) : enter cx 53 n0 5 e H = enterK [2, 5, 6, 8] 0 n0 e H := rfl
@[simp] theorem en53_6 [MaxL] [TxtC] (n0 : Nat) (e : Env) (H : Heap) : enter cx 53 n0 6 e H = enterK [2, 5, 6, 8, 9, 10] 0 n0 e H := rfl
@[simp] theorem en53_7 [MaxL] [TxtC] (n0 : Nat) (e : Env) (H : Heap) : enter cx 53 n0 7 e H = enterK [2, 5, 6, 8, 10] 0 n0 e H := rfl
@[simp] theorem en53_8 [MaxL] [TxtC] (n0 : Nat) (e : Env) (H : Heap) : enter cx 53 n0 8 e H = enterK [2, 5, 6, 8, 10, 11] 0 n0 e H := rfl
@[simp] theorem en53_9 [MaxL] [TxtC] (n0 : Nat) (e : Env) (H : Heap) : enter cx 53 n0 9 e H = enterK [2, 5, 6, 8, 10, 11] 0 n0 e H := rfl
@[simp] theorem en53_10 [MaxL] [TxtC] (n0 : Nat) (e : Env) (H : Heap) : enter cx 53 n0 10 e H = enterK [2, 5, 6, 8, 10, 11] 0 n0 e H := rfl
@[simp] theorem en53_11 [MaxL] [TxtC] (n0 : Nat) (e : Env) (H : Heap) : enter cx 53 n0 11 e H = enterK [2, 5, 6, 8, 10, 11] 0 n0 e H := rfl
@[simp] theorem en53_12 [MaxL] [TxtC] (n0 : Nat) (e : Env) (H : Heap) : enter cx 53 n0 12 e H = enterK [2, 5, 6, 8, 10, 11, 12, 13] 0 n0 e H := rfl
@[simp] theorem en53_13 [MaxL] [TxtC] (n0 : Nat) (e : Env) (H : Heap) : enter cx 53 n0 13 e H = enterK [2, 6, 8, 10, 12, 13, 14, 15] 0 n0 e H := rfl
@[simp] theorem en53_14 [MaxL] [TxtC] (n0 : Nat) (e : Env) (H : Heap) : enter cx 53 n0 14 e H = enterK [2, 6, 8, 10, 13, 15] 0 n0 e H := rfl
@[simp] theorem en53_15 [MaxL] [TxtC] (n0 : Nat) (e : Env) (H : Heap) : enter cx 53 n0 15 e H = enterK [2] 0 n0 e H := rfl
@[simp] theorem en54_0 [MaxL] [TxtC] (n0 : Nat) (e : Env) (H : Heap) : enter cx 54 n0 0 e H = enterK [0] 0 n0 e H := rfl
@[simp] theorem en54_1 [MaxL] [TxtC] (n0 : Nat) (e : Env) (H : Heap) : enter cx 54 n0 1 e H = enterK [0, 2] 0 n0 e H := rfl
@[simp] theorem en54_2 [MaxL] [TxtC] (n0 : Nat) (e : Env) (H : Heap) : enter cx 54 n0 2 e H = enterK [0, 2, 5, 6, 7] 0 n0 e H := rfl
@[simp] theorem en54_3 [MaxL] [TxtC] (n0 : Nat) (e : Env) (H : Heap) : enter cx 54 n0 3 e H = enterK [2] 0 n0 e H := rfl
@[simp] theorem en54_4 [MaxL] [TxtC] (n0 : Nat) (e : Env) (H : Heap) : enter cx 54 n0 4 e H = enterK [0, 2, 5, 6] 0 n0 e H := rfl
@[simp] theorem en54_5 [MaxL] [TxtC] (n0 : Nat) (e : Env) (H : Heap) : enter cx 54 n0 5 e H = enterK [0, 2, 5, 6, 8] 0 n0 e H := rfl
@[simp] theorem en54_6 [MaxL] [TxtC] (n0 : Nat) (e : Env) (H : Heap) : enter cx 54 n0 6 e H = enterK [0, 2, 5, 6, 8, 9] 0 n0 e H := rfl
@[simp] theorem en54_7 [MaxL] [TxtC] (n0 : Nat) (e : Env) (H : Heap) : enter cx 54 n0 7 e H = enterK [0, 2, 5, 6, 8, 9] 0 n0 e H := rfl
@[simp] theorem en54_8 [MaxL] [TxtC] (n0 : Nat) (e : Env) (H : Heap) : enter cx 54 n0 8 e H = enterK [0, 2, 5, 6, 8, 9] 0 n0 e H := rfl
@[simp] theorem en54_9 [MaxL] [TxtC] (n0 : Nat) (e : Env) (H : Heap) : enter cx 54 n0 9 e H = enterK [0, 2, 5, 6, 8, 9] 0 n0 e H := rfl
@[simp] theorem en54_10 [MaxL] [TxtC] (n0 : Nat) (e : Env) (H : Heap) : enter cx 54 n0 10 e H = enterK [0, 2, 5, 6, 8, 9] 0 n0 e H := rfl
@[simp] theorem en54_11 [MaxL] [TxtC] (n0 : Nat) (e : Env) (H : Heap) : enter cx 54 n0 11 e H = enterK [0, 2, 6, 8, 9] 0 n0 e H := rfl
@[simp] theorem en54_12 [MaxL] [TxtC] (n0 : Nat) (e : Env) (H : Heap) : enter cx 54 n0 12 e H = enterK [2] 0 n0 e H := rfl
@[simp] theorem en54_13 [MaxL] [TxtC] (n0 : Nat) (e : Env) (H : Heap) : enter cx 54 n0 13 e H = enterK [0, 2, 6, 8] 0 n0 e H := rfl
@[simp] theorem en54_14 [MaxL] [TxtC] (n0 : Nat) (e : Env) (H : Heap) : enter cx 54 n0 14 e H = enterK [0, 2, 6, 8, 10] 9 n0 e H := rfl
@[simp] theorem en54_15 [MaxL] [TxtC] (n0 : Nat) (e : Env) (H : Heap) : enter cx 54 n0 15 e H = enterK [0, 2, 6, 8, 10] 0 n0 e H := rfl
@[simp] theorem en54_16 [MaxL] [TxtC] (n0 : Nat) (e : Env) (H : Heap) : enter cx 54 n0 16 e H = enterK [0, 2, 6, 8, 10] 0 n0 e H := rfl
@[simp] theorem en54_17 [MaxL] [TxtC] (n0 : Nat) (e : Env) (H : Heap) : enter cx 54 n0 17 e H = enterK [0, 2, 8, 10, 11, 12, 13] 0 n0 e H := rfl
@[simp] theorem en54_18 [MaxL] [TxtC] (n0 : Nat) (e : Env) (H : Heap) : enter cx 54 n0 18 e H = enterK [2] 0 n0 e H := rfl
@[simp] theorem en54_19 [MaxL] [TxtC] (n0 : Nat) (e : Env) (H : Heap) : enter cx 54 n0 19 e H = enterK [0, 2, 8, 10, 11, 12] 0 n0 e H := rfl
@[simp] theorem en54_20 [MaxL] [TxtC] (n0 : Nat) (e : Env) (H : Heap) : enter cx 54 n0 20 e H = enterK [2, 8, 12] 0 n0 e H := rfl
@[simp] theorem en54_21 [MaxL] [TxtC] (n0 : Nat) (e : Env) (H : Heap) : enter cx 54 n0 21 e H = enterK [0, 2, 8, 10, 11, 12] 0 n0 e H := rfl
@[simp] theorem en54_22 [MaxL] [TxtC] (n0 : Nat) (e : Env) (H : Heap) : enter cx 54 n0 22 e H = enterK [0, 2, 8, 10, 11, 12, 14, 15] 0 n0 e H := rfl
@[simp] theorem en54_23 [MaxL] [TxtC] (n0 : Nat) (e : Env) (H : Heap) : enter cx 54 n0 23 e H = enterK [0, 2, 8, 10, 11, 12, 14] 0 n0 e H := rfl
@[simp] theorem en54_24 [MaxL] [TxtC] (n0 : Nat) (e : Env) (H : Heap) : enter cx 54 n0 24 e H = enterK [0, 2, 8, 10, 11, 12, 14, 16, 17] 0 n0 e H := rfl
@[simp] theorem en54_25 [MaxL] [TxtC] (n0 : Nat) (e : Env) (H : Heap) : enter cx 54 n0 25 e H = enterK [2] 0 n0 e H := rfl
@[simp] theorem en54_26 [MaxL] [TxtC] (n0 : Nat) (e : Env) (H : Heap) : enter cx 54 n0 26 e H = enterK [0, 2, 8, 10, 11, 12, 14, 16] 0 n0 e H := rfl
@[simp] theorem en54_27 [MaxL] [TxtC] (n0 : Nat) (e : Env) (H : Heap) : enter cx 54 n0 27 e H = enterK [0, 2, 8, 10, 12, 14, 16] 0 n0 e H := rfl
@[simp] theorem en54_28 [MaxL] [TxtC] (n0 : Nat) (e : Env) (H : Heap) : enter cx 54 n0 28 e H = enterK [0, 2, 8, 10, 12, 14] 0 n0 e H := rfl
@[simp] theorem en54_29 [MaxL] [TxtC] (n0 : Nat) (e : Env) (H : Heap) : enter cx 54 n0 29 e H = enterK [0, 2, 8, 10, 12] 0 n0 e H := rfl
@[simp] theorem en54_30 [MaxL] [TxtC] (n0 : Nat) (e : Env) (H : Heap) : enter cx 54 n0 30 e H = enterK [2] 0 n0 e H := rfl
@[simp] theorem en55_0 [MaxL] [TxtC] (n0 : Nat) (e : Env) (H : Heap) : enter cx 55 n0 0 e H = enterK [0] 0 n0 e H := rfl
@[simp] theorem en55_1 [MaxL] [TxtC] (n0 : Nat) (e : Env) (H : Heap) : enter cx 55 n0 1 e H = enterK [0] 0 n0 e H := rfl
@[simp] theorem en56_0 [MaxL] [TxtC] (n0 : Nat) (e : Env) (H : Heap) : enter cx 56 n0 0 e H = enterK [0] 0 n0 e H := rfl
@[simp] theorem en56_1 [MaxL] [TxtC] (n0 : Nat) (e : Env) (H : Heap) : enter cx 56 n0 1 e H = enterK [1] 0 n0 e H := rfl
@[simp] theorem en56_2 [MaxL] [TxtC] (n0 : Nat) (e : Env) (H : Heap) : enter cx 56 n0 2 e H = enterK [1, 3] 0 n0 e H := rfl
@[simp] theorem en56_3 [MaxL] [TxtC] (n0 : Nat) (e : Env) (H : Heap) : enter cx 56 n0 3 e H = enterK [1, 3, 4] 0 n0 e H := rfl
@[simp] theorem en56_4 [MaxL] [TxtC] (n0 : Nat) (e : Env) (H : Heap) : enter cx 56 n0 4 e H = enterK [1, 3, 4] 0 n0 e H := rfl
@[simp] theorem en56_5 [MaxL] [TxtC] (n0 : Nat) (e : Env) (H : Heap) : enter cx 56 n0 5 e H = enterK [1, 3, 4] 0 n0 e H := rfl
@[simp] theorem en56_6 [MaxL] [TxtC] (n0 : Nat) (e : Env) (H : Heap) : enter cx 56 n0 6 e H = enterK [3] 0 n0 e H := rfl
@[simp] theorem en57_0 [MaxL] [TxtC] (n0 : Nat) (e : Env) (H : Heap) : enter cx 57 n0 0 e H = enterK [0] 0 n0 e H := rfl
@[simp] theorem en57_1 [MaxL] [TxtC] (n0 : Nat) (e : Env) (H : Heap) : enter cx 57 n0 1 e H = enterK [1] 0 n0 e H := rfl
@[simp] theorem en58_0 [MaxL] [TxtC] (n0 : Nat) (e : Env) (H : Heap) : enter cx 58 n0 0 e H = enterK [0, 1] 0 n0 e H := rfl
@[simp] theorem en58_1 [MaxL] [TxtC] (n0 : Nat) (e : Env) (H : Heap) : enter cx 58 n0 1 e H = enterK [2, 3, 4] 0 n0 e H := rfl
@[simp] theorem en59_0 [MaxL] [TxtC] (n0 : Nat) (e : Env) (H : Heap) : enter cx 59 n0 0 e H = enterK [0] 0 n0 e H := rfl
@[simp] theorem en59_1 [MaxL] [TxtC] (n0 : Nat) (e : Env) (H : Heap) : enter cx 59 n0 1 e H = enterK [0] 0 n0 e H := rfl
@[simp] theorem en59_2 [MaxL] [TxtC] (n0 : Nat) (e : Env) (H : Heap) : enter cx 59 n0 2 e H = enterK [0, 3] 0 n0 e H := rfl
@[simp] theorem en59_3 [MaxL] [TxtC] (n0 : Nat) (e : Env) (H : Heap) : enter cx 59 n0 3 e H = enterK [0, 3] 0 n0 e H := rfl
@[simp] theorem en59_4 [MaxL] [TxtC] (n0 : Nat) (e : Env) (H : Heap) : enter cx 59 n0 4 e H = enterK [0, 3] 0 n0 e H := rfl
@[simp] theorem en59_5 [MaxL] [TxtC] (n0 : Nat) (e : Env) (H : Heap) : enter cx 59 n0 5 e H = enterK [] 0 n0 e H := rfl
@[simp] theorem en59_6 [MaxL] [TxtC] (n0 : Nat) (e : Env) (H : Heap) : enter cx 59 n0 6 e H = enterK [] 0 n0 e H := rfl
@[simp] theorem en60_0 [MaxL] [TxtC] (n0 : Nat) (e : Env) (H : Heap) : enter cx 60 n0 0 e H = enterK [0] 0 n0 e H := rfl
@[simp] theorem en60_1 [MaxL] [TxtC] (n0 : Nat) (e : Env) (H : Heap) : enter cx 60 n0 1 e H = enterK [0] 0 n0 e H := rfl
@[simp] theorem en60_2 [MaxL] [TxtC] (n0 : Nat) (e : Env) (H : Heap) : enter cx 60 n0 2 e H = enterK [0, 3] 0 n0 e H := rfl
@[simp] theorem en60_3 [MaxL] [TxtC] (n0 : Nat) (e : Env) (H : Heap) : enter cx 60 n0 3 e H = enterK [0, 3, 4] 0 n0 e H := rfl
@[simp] theorem en60_4 [MaxL] [TxtC] (n0 : Nat) (e : Env) (H : Heap) : enter cx 60 n0 4 e H = enterR [] [3] [0, 4] n0 e H := rfl
@[simp] theorem en60_5 [MaxL] [TxtC] (n0 : Nat) (e : Env) (H : Heap) : enter cx 60 n0 5 e H = enterK [0, 3, 4] 0 n0 e H := rfl
@[simp] theorem en60_6 [MaxL] [TxtC] (n0 : Nat) (e : Env) (H : Heap) : enter cx 60 n0 6 e H = enterK [3] 0 n0 e H := rfl
@[simp] theorem en61_0 [MaxL] [TxtC] (n0 : Nat) (e : Env) (H : Heap) : enter cx 61 n0 0 e H = enterK [0] 0 n0 e H := rfl
@[simp] theorem en61_1 [MaxL] [TxtC] (n0 : Nat) (e : Env) (H : Heap) : enter cx 61 n0 1 e H = enterK [1] 0 n0 e H := rfl
@[simp] theorem en62_0 [MaxL] [TxtC] (n0 : Nat) (e : Env) (H : Heap) : enter cx 62 n0 0 e H = enterK [0, 1] 0 n0 e H := rfl
@[simp] theorem en62_1 [MaxL] [TxtC] (n0 : Nat) (e : Env) (H : Heap) : enter cx 62 n0 1 e H = enterK [2, 3] 0 n0 e H := rfl
@[simp] theorem en64_0 [MaxL] [TxtC] (n0 : Nat) (e : Env) (H : Heap) : enter cx 64 n0 0 e H = enterK [0, 1, 2] 0 n0 e H := rfl
@[simp] theorem en64_1 [MaxL] [TxtC] (n0 : Nat) (e : Env) (H : Heap) : enter cx 64 n0 1 e H = enterK [0, 1, 2] 0 n0 e H := rfl
@[simp] theorem en64_2 [MaxL] [TxtC] (n0 : Nat) (e : Env) (H : Heap) : enter cx 64 n0 2 e H = enterK [1, 2, 7] 0 n0 e H := rfl
@[simp] theorem en64_3 [MaxL] [TxtC] (n0 : Nat) (e : Env) (H : Heap) : enter cx 64 n0 3 e H = enterK [7] 0 n0 e H := rfl
@[simp] theorem en64_4 [MaxL] [TxtC] (n0 : Nat) (e : Env) (H : Heap) : enter cx 64 n0 4 e H = enterK [1, 2, 7] 0 n0 e H := rfl
@[simp] theorem en64_5 [MaxL] [TxtC] (n0 : Nat) (e : Env) (H : Heap) : enter cx 64 n0 5 e H = enterK [2, 7, 15, 16] 0 n0 e H := rfl
@[simp] theorem en64_6 [MaxL] [TxtC] (n0 : Nat) (e : Env) (H : Heap) : enter cx 64 n0 6 e H = enterK [2, 7, 15, 16] 0 n0 e H := rfl
@[simp] theorem en64_7 [MaxL] [TxtC] (n0 : Nat) (e : Env) (H : Heap) : enter cx 64 n0 7 e H = enterK [2, 7, 8, 15, 16] 0 n0 e H := rfl
@[simp] theorem en64_8 [MaxL] [TxtC] (n0 : Nat) (e : Env) (H : Heap) : enter cx 64 n0 8 e H = enterR [] [7] [2, 15, 16] n0 e H := rfl
@[simp] theorem en64_9 [MaxL] [TxtC] (n0 : Nat) (e : Env) (H : Heap) : enter cx 64 n0 9 e H = enterK [7] 0 n0 e H := rfl
@[simp] theorem en67_0 [MaxL] [TxtC] (n0 : Nat) (e : Env) (H : Heap) : enter cx 67 n0 0 e H = enterK [0, 1] 0 n0 e H := rfl
@[simp] theorem en67_1 [MaxL] [TxtC] (n0 : Nat) (e : Env) (H : Heap) : enter cx 67 n0 1 e H = enterK [0, 1] 0 n0 e H := rfl
@[simp] theorem en67_2 [MaxL] [TxtC] (n0 : Nat) (e : Env) (H : Heap) : enter cx 67 n0 2 e H = enterK [0, 1, 5] 0 n0 e H := rfl
@[simp] theorem en67_3 [MaxL] [TxtC] (n0 : Nat) (e : Env) (H : Heap) : enter cx 67 n0 3 e H = enterK [0, 1, 5, 6] 0 n0 e H := rfl
@[simp] theorem en67_4 [MaxL] [TxtC] (n0 : Nat) (e : Env) (H : Heap) : enter cx 67 n0 4 e H = enterR [] [5] [0, 1, 6] n0 e H := rfl
@[simp] theorem en67_5 [MaxL] [TxtC] (n0 : Nat) (e : Env) (H : Heap) : enter cx 67 n0 5 e H = enterK [0, 1, 5, 6] 0 n0 e H := rfl
@[simp] theorem en67_6 [MaxL] [TxtC] (n0 : Nat) (e : Env) (H : Heap) : enter cx 67 n0 6 e H = enterK [0, 1, 5, 6] 0 n0 e H := rfl
@[simp] theorem en67_7 [MaxL] [TxtC] (n0 : Nat) (e : Env) (H : Heap) : enter cx 67 n0 7 e H = enterK [5] 0 n0 e H := rfl
@[simp] theorem en72_0 [MaxL] [TxtC] (n0 : Nat) (e : Env) (H : Heap) : enter cx 72 n0 0 e H = enterK [0, 1, 2] 0 n0 e H := rfl
@[simp] theorem en72_1 [MaxL] [TxtC] (n0 : Nat) (e : Env) (H : Heap) : enter cx 72 n0 1 e H = enterK [0, 1, 2] 0 n0 e H := rfl
@[simp] theorem en72_2 [MaxL] [TxtC] (n0 : Nat) (e : Env) (H : Heap) : enter cx 72 n0 2 e H = enterK [] 0 n0 e H := rfl
@[simp] theorem en72_3 [MaxL] [TxtC] (n0 : Nat) (e : Env) (H : Heap) : enter cx 72 n0 3 e H = enterK [0, 1, 2] 0 n0 e H := rfl
@[simp] theorem en72_4 [MaxL] [TxtC] (n0 : Nat) (e : Env) (H : Heap) : enter cx 72 n0 4 e H = enterK [0, 1, 2, 8] 0 n0 e H := rfl
@[simp] theorem en72_5 [MaxL] [TxtC] (n0 : Nat) (e : Env) (H : Heap) : enter cx 72 n0 5 e H = enterK [0, 1, 8, 9] 0 n0 e H := rfl
@[simp] theorem en72_6 [MaxL] [TxtC] (n0 : Nat) (e : Env) (H : Heap) : enter cx 72 n0 6 e H = enterK [0, 1, 8, 9] 0 n0 e H := rfl
@[simp] theorem en72_7 [MaxL] [TxtC] (n0 : Nat) (e : Env) (H : Heap) : enter cx 72 n0 7 e H = enterK [0, 1, 8, 9] 0 n0 e H := rfl
@[simp] theorem en72_8 [MaxL] [TxtC] (n0 : Nat) (e : Env) (H : Heap) : enter cx 72 n0 8 e H = enterK [8] 0 n0 e H := rfl
@[simp] theorem en75_0 [MaxL] [TxtC] (n0 : Nat) (e : Env) (H : Heap) : enter cx 75 n0 0 e H = enterK [0, 1, 2] 0 n0 e H := rfl
@[simp] theorem en75_1 [MaxL] [TxtC] (n0 : Nat) (e : Env) (H : Heap) : enter cx 75 n0 1 e H = enterK [0, 1, 2] 0 n0 e H := rfl
@[simp] theorem en75_2 [MaxL] [TxtC] (n0 : Nat) (e : Env) (H : Heap) : enter cx 75 n0 2 e H = enterK [] 0 n0 e H := rfl
@[simp] theorem en75_3 [MaxL] [TxtC] (n0 : Nat) (e : Env) (H : Heap) : enter cx 75 n0 3 e H = enterK [0, 1, 2] 0 n0 e H := rfl
@[simp] theorem en75_4 [MaxL] [TxtC] (n0 : Nat) (e : Env) (H : Heap) : enter cx 75 n0 4 e H = enterK [0, 1, 2, 8] 0 n0 e H := rfl
@[simp] theorem en75_5 [MaxL] [TxtC] (n0 : Nat) (e : Env) (H : Heap) : enter cx 75 n0 5 e H = enterK [0, 1, 8, 9] 0 n0 e H := rfl
@[simp] theorem en75_6 [MaxL] [TxtC] (n0 : Nat) (e : Env) (H : Heap) : enter cx 75 n0 6 e H = enterK [0, 1, 8, 9] 0 n0 e H := rfl
@[simp] theorem en75_7 [MaxL] [TxtC] (n0 : Nat) (e : Env) (H : Heap) : enter cx 75 n0 7 e H = enterK [0, 1, 8, 9] 0 n0 e H := rfl
@[simp] theorem en75_8 [MaxL] [TxtC] (n0 : Nat) (e : Env) (H : Heap) : enter cx 75 n0 8 e H = enterK [8] 0 n0 e H := rfl
@[simp] theorem en78_0 [MaxL] [TxtC] (n0 : Nat) (e : Env) (H : Heap) : enter cx 78 n0 0 e H = enterK [0] 0 n0 e H := rfl
@[simp] theorem en78_1 [MaxL] [TxtC] (n0 : Nat) (e : Env) (H : Heap) : enter cx 78 n0 1 e H = enterK [0] 0 n0 e H := rfl
@[simp] theorem en78_2 [MaxL] [TxtC] (n0 : Nat) (e : Env) (H : Heap) : enter cx 78 n0 2 e H = enterK [] 0 n0 e H := rfl
@[simp] theorem en78_3 [MaxL] [TxtC] (n0 : Nat) (e : Env) (H : Heap) : enter cx 78 n0 3 e H = enterK [0] 0 n0 e H := rfl
@[simp] theorem en78_4 [MaxL] [TxtC] (n0 : Nat) (e : Env) (H : Heap) : enter cx 78 n0 4 e H = enterK [0, 4] 0 n0 e H := rfl
@[simp] theorem en78_5 [MaxL] [TxtC] (n0 : Nat) (e : Env) (H : Heap) : enter cx 78 n0 5 e H = enterR [] [4] [0, 5] n0 e H := rfl
@[simp] theorem en78_6 [MaxL] [TxtC] (n0 : Nat) (e : Env) (H : Heap) : enter cx 78 n0 6 e H = enterK [0, 4, 5] 0 n0 e H := rfl
@[simp] theorem en78_7 [MaxL] [TxtC] (n0 : Nat) (e : Env) (H : Heap) : enter cx 78 n0 7 e H = enterK [0, 4, 5] 0 n0 e H := rfl
@[simp] theorem en78_8 [MaxL] [TxtC] (n0 : Nat) (e : Env) (H : Heap) : enter cx 78 n0 8 e H = enterK [0, 4, 5, 7] 0 n0 e H := rfl
@[simp] theorem en78_9 [MaxL] [TxtC] (n0 : Nat) (e : Env) (H : Heap) : enter cx 78 n0 9 e H = enterK [7] 0 n0 e H := rfl
@[simp] theorem en78_10 [MaxL] [TxtC] (n0 : Nat) (e : Env) (H : Heap) : enter cx 78 n0 10 e H = enterK [0, 4, 5] 0 n0 e H := rfl
@[simp] theorem en78_11 [MaxL] [TxtC] (n0 : Nat) (e : Env) (H : Heap) : enter cx 78 n0 11 e H = enterK [0, 4, 5, 8] 0 n0 e H := rfl
@[simp] theorem en78_12 [MaxL] [TxtC] (n0 : Nat) (e : Env) (H : Heap) : enter cx 78 n0 12 e H = enterK [0, 4, 5, 8] 0 n0 e H := rfl
@[simp] theorem en78_13 [MaxL] [TxtC] (n0 : Nat) (e : Env) (H : Heap) : enter cx 78 n0 13 e H = enterK [0, 4, 5, 8] 0 n0 e H := rfl
@[simp] theorem en78_14 [MaxL] [TxtC] (n0 : Nat) (e : Env) (H : Heap) : enter cx 78 n0 14 e H = enterK [0, 4, 5, 8] 0 n0 e H := rfl
@[simp] theorem en78_15 [MaxL] [TxtC] (n0 : Nat) (e : Env) (H : Heap) : enter cx 78 n0 15 e H = enterK [0, 4, 5, 8] 0 n0 e H := rfl
@[simp] theorem en78_16 [MaxL] [TxtC] (n0 : Nat) (e : Env) (H : Heap) : enter cx 78 n0 16 e H = enterK [0, 4, 5, 8, 9] 0 n0 e H := rfl
@[simp] theorem en78_17 [MaxL] [TxtC] (n0 : Nat) (e : Env) (H : Heap) : enter cx 78 n0 17 e H = enterK [0, 4, 5, 8, 9] 0 n0 e H := rfl
@[simp] theorem en78_18 [MaxL] [TxtC] (n0 : Nat) (e : Env) (H : Heap) : enter cx 78 n0 18 e H = enterK [0, 4, 5, 8, 9] 0 n0 e H := rfl
@[simp] theorem en78_19 [MaxL] [TxtC] (n0 : Nat) (e : Env) (H : Heap) : enter cx 78 n0 19 e H = enterK [0, 4, 5, 8] 0 n0 e H := rfl
@[simp] theorem en78_20 [MaxL] [TxtC] (n0 : Nat) (e : Env) (H : Heap) : enter cx 78 n0 20 e H = enterK [4] 0 n0 e H := rfl
@[simp] theorem en78_21 [MaxL] [TxtC] (n0 : Nat) (e : Env) (H : Heap) : enter cx 78 n0 21 e H = enterK [] 0 n0 e H := rfl
@[simp] theorem en78_22 [MaxL] [TxtC] (n0 : Nat) (e : Env) (H : Heap) : enter cx 78 n0 22 e H = enterK [4] 0 n0 e H := rfl
@[simp] theorem en79_0 [MaxL] [TxtC] (n0 : Nat) (e : Env) (H : Heap) : enter cx 79 n0 0 e H = enterK [0, 1] 0 n0 e H := rfl
@[simp] theorem en79_1 [MaxL] [TxtC] (n0 : Nat) (e : Env) (H : Heap) : enter cx 79 n0 1 e H = enterK [0, 1] 0 n0 e H := rfl
@[simp] theorem en79_2 [MaxL] [TxtC] (n0 : Nat) (e : Env) (H : Heap) : enter cx 79 n0 2 e H = enterK [0, 1, 5] 0 n0 e H := rfl
@[simp] theorem en79_3 [MaxL] [TxtC] (n0 : Nat) (e : Env) (H : Heap) : enter cx 79 n0 3 e H = enterR [] [5] [0, 6] n0 e H := rfl
@[simp] theorem en79_4 [MaxL] [TxtC] (n0 : Nat) (e : Env) (H : Heap) : enter cx 79 n0 4 e H = enterK [0, 5, 6] 0 n0 e H := rfl
@[simp] theorem en79_5 [MaxL] [TxtC] (n0 : Nat) (e : Env) (H : Heap) : enter cx 79 n0 5 e H = enterK [0, 5, 6] 0 n0 e H := rfl
@[simp] theorem en79_6 [MaxL] [TxtC] (n0 : Nat) (e : Env) (H : Heap) : enter cx 79 n0 6 e H = enterK [5] 0 n0 e H := rfl
@[simp] theorem en80_0 [MaxL] [TxtC] (n0 : Nat) (e : Env) (H : Heap) : enter cx 80 n0 0 e H = enterK [0, 1] 0 n0 e H := rfl
@[simp] theorem en80_1 [MaxL] [TxtC] (n0 : Nat) (e : Env) (H : Heap) : enter cx 80 n0 1 e H = enterK [0, 1] 0 n0 e H := rfl
@[simp] theorem en81_0 [MaxL] [TxtC] (n0 : Nat) (e : Env) (H : Heap) : enter cx 81 n0 0 e H = enterK [0] 0 n0 e H := rfl
@[simp] theorem en81_1 [MaxL] [TxtC] (n0 : Nat) (e : Env) (H : Heap) : enter cx 81 n0 1 e H = enterK [0] 0 n0 e H := rfl
@[simp] theorem en82_0 [MaxL] [TxtC] (n0 : Nat) (e : Env) (H : Heap) : enter cx 82 n0 0 e H = enterK [0] 0 n0 e H := rfl
@[simp] theorem en82_1 [MaxL] [TxtC] (n0 : Nat) (e : Env) (H : Heap) : enter cx 82 n0 1 e H = enterK [0] 0 n0 e H := rfl
@[simp] theorem en82_2 [MaxL] [TxtC] (n0 : Nat) (e : Env) (H : Heap) : enter cx 82 n0 2 e H = enterK [0, 3] 0 n0 e H := rfl
@[simp] theorem en82_3 [MaxL] [TxtC] (n0 : Nat) (e : Env) (H : Heap) : enter cx 82 n0 3 e H = enterK [3, 6, 7, 8] 0 n0 e H := rfl
@[simp] theorem en82_4 [MaxL] [TxtC] (n0 : Nat) (e : Env) (H : Heap) : enter cx 82 n0 4 e H = enterK [3, 6, 7, 8] 0 n0 e H := rfl
@[simp] theorem en82_5 [MaxL] [TxtC] (n0 : Nat) (e : Env) (H : Heap) : enter cx 82 n0 5 e H = enterK [3, 5, 6, 7, 8] 0 n0 e H := rfl
@[simp] theorem en82_6 [MaxL] [TxtC] (n0 : Nat) (e : Env) (H : Heap) : enter cx 82 n0 6 e H = enterK [3, 6, 7, 8] 0 n0 e H := rfl
@[simp] theorem en82_7 [MaxL] [TxtC] (n0 : Nat) (e : Env) (H : Heap) : enter cx 82 n0 7 e H = enterK [3] 0 n0 e H := rfl
@[simp] theorem en84_0 [MaxL] [TxtC] (n0 : Nat) (e : Env) (H : Heap) : enter cx 84 n0 0 e H = enterK [0] 0 n0 e H := rfl
@[simp] theorem en84_1 [MaxL] [TxtC] (n0 : Nat) (e : Env) (H : Heap) : enter cx 84 n0 1 e H = enterK [0] 0 n0 e H := rfl
@[simp] theorem en84_2 [MaxL] [TxtC] (n0 : Nat) (e : Env) (H : Heap) : enter cx 84 n0 2 e H = enterK [0, 5, 6] 0 n0 e H := rfl
@[simp] theorem en84_3 [MaxL] [TxtC] (n0 : Nat) (e : Env) (H : Heap) : enter cx 84 n0 3 e H = enterK [0, 5, 6] 0 n0 e H := rfl
@[simp] theorem en84_4 [MaxL] [TxtC] (n0 : Nat) (e : Env) (H : Heap) : enter cx 84 n0 4 e H = enterK [0, 3, 5, 6] 0 n0 e H := rfl
@[simp] theorem en84_5 [MaxL] [TxtC] (n0 : Nat) (e : Env) (H : Heap) : enter cx 84 n0 5 e H = enterK [] 0 n0 e H := rfl
@[simp] theorem en84_6 [MaxL] [TxtC] (n0 : Nat) (e : Env) (H : Heap) : enter cx 84 n0 6 e H = enterK [0, 5, 6] 0 n0 e H := rfl
@[simp] theorem en84_7 [MaxL] [TxtC] (n0 : Nat) (e : Env) (H : Heap) : enter cx 84 n0 7 e H = enterK [] 0 n0 e H := rfl
@[simp] theorem en85_0 [MaxL] [TxtC] (n0 : Nat) (e : Env) (H : Heap) : enter cx 85 n0 0 e H = enterK [0] 0 n0 e H := rfl
@[simp] theorem en85_1 [MaxL] [TxtC] (n0 : Nat) (e : Env) (H : Heap) : enter cx 85 n0 1 e H = enterK [0] 0 n0 e H := rfl
@[simp] theorem en85_2 [MaxL] [TxtC] (n0 : Nat) (e : Env) (H : Heap) : enter cx 85 n0 2 e H = enterK [] 0 n0 e H := rfl
@[simp] theorem en85_3 [MaxL] [TxtC] (n0 : Nat) (e : Env) (H : Heap) : enter cx 85 n0 3 e H = enterK [0] 0 n0 e H := rfl
@[simp] theorem en85_4 [MaxL] [TxtC] (n0 : Nat) (e : Env) (H : Heap) : enter cx 85 n0 4 e H = enterK [0, 24, 25] 0 n0 e H := rfl
@[simp] theorem en85_5 [MaxL] [TxtC] (n0 : Nat) (e : Env) (H : Heap) : enter cx 85 n0 5 e H = enterK [0, 24, 25] 0 n0 e H := rfl
@[simp] theorem en85_6 [MaxL] [TxtC] (n0 : Nat) (e : Env) (H : Heap) : enter cx 85 n0 6 e H = enterK [0, 3, 24, 25] 0 n0 e H := rfl
@[simp] theorem en85_7 [MaxL] [TxtC] (n0 : Nat) (e : Env) (H : Heap) : enter cx 85 n0 7 e H = enterK [0, 4, 24, 25] 0 n0 e H := rfl
@[simp] theorem en85_8 [MaxL] [TxtC] (n0 : Nat) (e : Env) (H : Heap) : enter cx 85 n0 8 e H = enterK [] 0 n0 e H := rfl
@[simp] theorem en85_9 [MaxL] [TxtC] (n0 : Nat) (e : Env) (H : Heap) : enter cx 85 n0 9 e H = enterK [0, 24, 25] 0 n0 e H := rfl
@[simp] theorem en85_10 [MaxL] [TxtC] (n0 : Nat) (e : Env) (H : Heap) : enter cx 85 n0 10 e H = enterK [] 0 n0 e H := rfl
@[simp] theorem en86_0 [MaxL] [TxtC] (n0 : Nat) (e : Env) (H : Heap) : enter cx 86 n0 0 e H = enterK [0, 1] 0 n0 e H := rfl
@[simp] theorem en86_1 [MaxL] [TxtC] (n0 : Nat) (e : Env) (H : Heap) : enter cx 86 n0 1 e H = enterK [0, 1] 0 n0 e H := rfl
@[simp] theorem en87_0 [MaxL] [TxtC] (n0 : Nat) (e : Env) (H : Heap) : enter cx 87 n0 0 e H = enterK [0, 1] 0 n0 e H := rfl
@[simp] theorem en87_1 [MaxL] [TxtC] (n0 : Nat) (e : Env) (H : Heap) : enter cx 87 n0 1 e H = enterK [0, 1] 0 n0 e H := rfl
@[simp] theorem en88_0 [MaxL] [TxtC] (n0 : Nat) (e : Env) (H : Heap) : enter cx 88 n0 0 e H = enterK [0, 1] 0 n0 e H := rfl
@[simp] theorem en88_1 [MaxL] [TxtC] (n0 : Nat) (e : Env) (H : Heap) : enter cx 88 n0 1 e H = enterK [0, 1] 0 n0 e H := rfl
@[simp] theorem en88_2 [MaxL] [TxtC] (n0 : Nat) (e : Env) (H : Heap) : enter cx 88 n0 2 e H = enterK [0, 1, 5, 6] 0 n0 e H := rfl
@[simp] theorem en88_3 [MaxL] [TxtC] (n0 : Nat) (e : Env) (H : Heap) : enter cx 88 n0 3 e H = enterK [1, 5] 0 n0 e H := rfl
@[simp] theorem en89_0 [MaxL] [TxtC] (n0 : Nat) (e : Env) (H : Heap) : enter cx 89 n0 0 e H = enterK [0, 1, 2] 0 n0 e H := rfl
@[simp] theorem en89_1 [MaxL] [TxtC] (n0 : Nat) (e : Env) (H : Heap) : enter cx 89 n0 1 e H = enterK [0, 1, 2] 0 n0 e H := rfl
@[simp] theorem en89_2 [MaxL] [TxtC] (n0 : Nat) (e : Env) (H : Heap) : enter cx 89 n0 2 e H = enterK [0, 1, 2, 8, 9] 0 n0 e H := rfl
@[simp] theorem en89_3 [MaxL] [TxtC] (n0 : Nat) (e : Env) (H : Heap) : enter cx 89 n0 3 e H = enterK [0, 1, 2, 8, 9] 0 n0 e H := rfl
@[simp] theorem en89_4 [MaxL] [TxtC] (n0 : Nat) (e : Env) (H : Heap) : enter cx 89 n0 4 e H = enterK [8] 0 n0 e H := rfl
@[simp] theorem en90_0 [MaxL] [TxtC] (n0 : Nat) (e : Env) (H : Heap) : enter cx 90 n0 0 e H = enterK [0, 1] 0 n0 e H := rfl
@[simp] theorem en90_1 [MaxL] [TxtC] (n0 : Nat) (e : Env) (H : Heap) : enter cx 90 n0 1 e H = enterK [0, 1, 4] 0 n0 e H := rfl
@[simp] theorem en90_2 [MaxL] [TxtC] (n0 : Nat) (e : Env) (H : Heap) : enter cx 90 n0 2 e H = enterK [4, 5] 0 n0 e H := rfl
@[simp] theorem en91_0 [MaxL] [TxtC] (n0 : Nat) (e : Env) (H : Heap) : enter cx 91 n0 0 e H = enterK [0, 1] 0 n0 e H := rfl
@[simp] theorem en91_1 [MaxL] [TxtC] (n0 : Nat) (e : Env) (H : Heap) : enter cx 91 n0 1 e H = enterK [0, 1] 0 n0 e H := rfl
@[simp] theorem en91_2 [MaxL] [TxtC] (n0 : Nat) (e : Env) (H : Heap) : enter cx 91 n0 2 e H = enterK [5, 6] 0 n0 e H := rfl
@[simp] theorem en91_3 [MaxL] [TxtC] (n0 : Nat) (e : Env) (H : Heap) : enter cx 91 n0 3 e H = enterK [] 0 n0 e H := rfl
@[simp] theorem en91_4 [MaxL] [TxtC] (n0 : Nat) (e : Env) (H : Heap) : enter cx 91 n0 4 e H = enterK [5] 0 n0 e H := rfl
@[simp] theorem en92_0 [MaxL] [TxtC] (n0 : Nat) (e : Env) (H : Heap) : enter cx 92 n0 0 e H = enterK [0] 0 n0 e H := rfl
@[simp] theorem en92_1 [MaxL] [TxtC] (n0 : Nat) (e : Env) (H : Heap) : enter cx 92 n0 1 e H = enterK [0, 2] 0 n0 e H := rfl
@[simp] theorem en92_2 [MaxL] [TxtC] (n0 : Nat) (e : Env) (H : Heap) : enter cx 92 n0 2 e H = enterK [0, 2, 4] 0 n0 e H := rfl
@[simp] theorem en92_3 [MaxL] [TxtC] (n0 : Nat) (e : Env) (H : Heap) : enter cx 92 n0 3 e H = enterK [2] 0 n0 e H := rfl
@[simp] theorem en92_4 [MaxL] [TxtC] (n0 : Nat) (e : Env) (H : Heap) : enter cx 92 n0 4 e H = enterK [0, 2, 4] 0 n0 e H := rfl
@[simp] theorem en92_5 [MaxL] [TxtC] (n0 : Nat) (e : Env) (H : Heap) : enter cx 92 n0 5 e H = enterK [0, 2, 4, 5, 6] 0 n0 e H := rfl
@[simp] theorem en92_6 [MaxL] [TxtC] (n0 : Nat) (e : Env) (H : Heap) : enter cx 92 n0 6 e H = enterK [0, 2, 5, 6] 0 n0 e H := rfl
@[simp] theorem en92_7 [MaxL] [TxtC] (n0 : Nat) (e : Env) (H : Heap) : enter cx 92 n0 7 e H = enterK [0, 2, 5] 0 n0 e H := rfl
@[simp] theorem en92_8 [MaxL] [TxtC] (n0 : Nat) (e : Env) (H : Heap) : enter cx 92 n0 8 e H = enterK [0, 2, 5] 0 n0 e H := rfl
@[simp] theorem en92_9 [MaxL] [TxtC] (n0 : Nat) (e : Env) (H : Heap) : enter cx 92 n0 9 e H = enterK [0, 2, 5, 7, 8] 0 n0 e H := rfl
@[simp] theorem en92_10 [MaxL] [TxtC] (n0 : Nat) (e : Env) (H : Heap) : enter cx 92 n0 10 e H = enterK [2] 0 n0 e H := rfl
@[simp] theorem en92_11 [MaxL] [TxtC] (n0 : Nat) (e : Env) (H : Heap) : enter cx 92 n0 11 e H = enterK [0, 2, 5, 7] 0 n0 e H := rfl
@[simp] theorem en92_12 [MaxL] [TxtC] (n0 : Nat) (e : Env) (H : Heap) : enter cx 92 n0 12 e H = enterK [0, 2, 7, 9] 0 n0 e H := rfl
@[simp] theorem en92_13 [MaxL] [TxtC] (n0 : Nat) (e : Env) (H : Heap) : enter cx 92 n0 13 e H = enterK [2, 9] 0 n0 e H := rfl
@[simp] theorem en93_0 [MaxL] [TxtC] (n0 : Nat) (e : Env) (H : Heap) : enter cx 93 n0 0 e H = enterK [0, 1] 0 n0 e H := rfl
@[simp] theorem en93_1 [MaxL] [TxtC] (n0 : Nat) (e : Env) (H : Heap) : enter cx 93 n0 1 e H = enterK [0, 1] 0 n0 e H := rfl
@[simp] theorem en93_2 [MaxL] [TxtC] (n0 : Nat) (e : Env) (H : Heap) : enter cx 93 n0 2 e H = enterK [] 0 n0 e H := rfl
@[simp] theorem en93_3 [MaxL] [TxtC] (n0 : Nat) (e : Env) (H : Heap) : enter cx 93 n0 3 e H = enterK [0, 1] 0 n0 e H := rfl
@[simp] theorem en93_4 [MaxL] [TxtC] (n0 : Nat) (e : Env) (H : Heap) : enter cx 93 n0 4 e H = enterK [0, 1, 5] 0 n0 e H := rfl
@[simp] theorem en93_5 [MaxL] [TxtC] (n0 : Nat) (e : Env) (H : Heap) : enter cx 93 n0 5 e H = enterK [0, 1, 5] 0 n0 e H := rfl
@[simp] theorem en93_6 [MaxL] [TxtC] (n0 : Nat) (e : Env) (H : Heap) : enter cx 93 n0 6 e H = enterK [0, 1, 5] 0 n0 e H := rfl
@[simp] theorem en93_7 [MaxL] [TxtC] (n0 : Nat) (e : Env) (H : Heap) : enter cx 93 n0 7 e H = enterK [] 0 n0 e H := rfl
@[simp] theorem en93_8 [MaxL] [TxtC] (n0 : Nat) (e : Env) (H : Heap) : enter cx 93 n0 8 e H = enterK [] 0 n0 e H := rfl
@[simp] theorem en94_0 [MaxL] [TxtC] (n0 : Nat) (e : Env) (H : Heap) : enter cx 94 n0 0 e H = enterK [0, 1] 0 n0 e H := rfl
@[simp] theorem en94_1 [MaxL] [TxtC] (n0 : Nat) (e : Env) (H : Heap) : enter cx 94 n0 1 e H = enterK [0, 1] 0 n0 e H := rfl
@[simp] theorem en94_2 [MaxL] [TxtC] (n0 : Nat) (e : Env) (H : Heap) : enter cx 94 n0 2 e H = enterK [0, 1, 7] 0 n0 e H := rfl
@[simp] theorem en94_3 [MaxL] [TxtC] (n0 : Nat) (e : Env) (H : Heap) : enter cx 94 n0 3 e H = enterK [0, 1, 7, 8] 0 n0 e H := rfl
@[simp] theorem en94_4 [MaxL] [TxtC] (n0 : Nat) (e : Env) (H : Heap) : enter cx 94 n0 4 e H = enterK [0, 1, 7, 8, 9] 0 n0 e H := rfl
@[simp] theorem en94_5 [MaxL] [TxtC] (n0 : Nat) (e : Env) (H : Heap) : enter cx 94 n0 5 e H = enterK [0, 1, 7, 8, 9] 0 n0 e H := rfl
@[simp] theorem en94_6 [MaxL] [TxtC] (n0 : Nat) (e : Env) (H : Heap) : enter cx 94 n0 6 e H = enterK [0, 1, 7, 8, 9] 0 n0 e H := rfl
@[simp] theorem en94_7 [MaxL] [TxtC] (n0 : Nat) (e : Env) (H : Heap) : enter cx 94 n0 7 e H = enterK [0, 1, 7, 9, 10, 11, 12] 0 n0 e H := rfl
@[simp] theorem en94_8 [MaxL] [TxtC] (n0 : Nat) (e : Env) (H : Heap) : enter cx 94 n0 8 e H = enterK [] 0 n0 e H := rfl
@[simp] theorem en94_9 [MaxL] [TxtC] (n0 : Nat) (e : Env) (H : Heap) : enter cx 94 n0 9 e H = enterK [0, 1, 7, 9, 10, 11] 0 n0 e H := rfl
@[simp] theorem en94_10 [MaxL] [TxtC] (n0 : Nat) (e : Env) (H : Heap) : enter cx 94 n0 10 e H = enterK [0, 1, 7, 9, 11, 13, 14] 0 n0 e H := rfl
@[simp] theorem en94_11 [MaxL] [TxtC] (n0 : Nat) (e : Env) (H : Heap) : enter cx 94 n0 11 e H = enterK [] 0 n0 e H := rfl
@[simp] theorem en94_12 [MaxL] [TxtC] (n0 : Nat) (e : Env) (H : Heap) : enter cx 94 n0 12 e H = enterK [0, 1, 7, 9, 11, 13] 0 n0 e H := rfl
@[simp] theorem en94_13 [MaxL] [TxtC] (n0 : Nat) (e : Env) (H : Heap) : enter cx 94 n0 13 e H = enterR [] [7] [0, 1, 9, 11] n0 e H := rfl
@[simp] theorem en94_14 [MaxL] [TxtC] (n0 : Nat) (e : Env) (H : Heap) : enter cx 94 n0 14 e H = enterK [7, 8] 0 n0 e H := rfl
@[simp] theorem en95_0 [MaxL] [TxtC] (n0 : Nat) (e : Env) (H : Heap) : enter cx 95 n0 0 e H = enterK [0] 0 n0 e H := rfl
@[simp] theorem en95_1 [MaxL] [TxtC] (n0 : Nat) (e : Env) (H : Heap) : enter cx 95 n0 1 e H = enterK [0, 2] 0 n0 e H := rfl
@[simp] theorem en95_2 [MaxL] [TxtC] (n0 : Nat) (e : Env) (H : Heap) : enter cx 95 n0 2 e H = enterK [0, 2, 4] 0 n0 e H := rfl
@[simp] theorem en95_3 [MaxL] [TxtC] (n0 : Nat) (e : Env) (H : Heap) : enter cx 95 n0 3 e H = enterK [2, 4] 0 n0 e H := rfl
@[simp] theorem en95_4 [MaxL] [TxtC] (n0 : Nat) (e : Env) (H : Heap) : enter cx 95 n0 4 e H = enterK [0, 2, 4] 0 n0 e H := rfl
@[simp] theorem en95_5 [MaxL] [TxtC] (n0 : Nat) (e : Env) (H : Heap) : enter cx 95 n0 5 e H = enterK [0, 2, 4, 5] 0 n0 e H := rfl
@[simp] theorem en95_6 [MaxL] [TxtC] (n0 : Nat) (e : Env) (H : Heap) : enter cx 95 n0 6 e H = enterK [0, 2, 4, 5] 0 n0 e H := rfl
@[simp] theorem en95_7 [MaxL] [TxtC] (n0 : Nat) (e : Env) (H : Heap) : enter cx 95 n0 7 e H = enterK [0, 2, 4, 5] 0 n0 e H := rfl
@[simp] theorem en95_8 [MaxL] [TxtC] (n0 : Nat) (e : Env) (H : Heap) : enter cx 95 n0 8 e H = enterK [0, 2, 4, 5, 6, 7] 0 n0 e H := rfl
@[simp] theorem en95_9 [MaxL] [TxtC] (n0 : Nat) (e : Env) (H : Heap) : enter cx 95 n0 9 e H = enterK [2] 0 n0 e H := rfl
@[simp] theorem en95_10 [MaxL] [TxtC] (n0 : Nat) (e : Env) (H : Heap) : enter cx 95 n0 10 e H = enterK [0, 2, 4, 5, 6, 7] 0 n0 e H := rfl
@[simp] theorem en95_11 [MaxL] [TxtC] (n0 : Nat) (e : Env) (H : Heap) : enter cx 95 n0 11 e H = enterK [2, 4] 0 n0 e H := rfl
@[simp] theorem en96_0 [MaxL] [TxtC] (n0 : Nat) (e : Env) (H : Heap) : enter cx 96 n0 0 e H = enterK [0] 0 n0 e H := rfl
@[simp] theorem en96_1 [MaxL] [TxtC] (n0 : Nat) (e : Env) (H : Heap) : enter cx 96 n0 1 e H = enterK [0] 0 n0 e H := rfl
@[simp] theorem en96_2 [MaxL] [TxtC] (n0 : Nat) (e : Env) (H : Heap) : enter cx 96 n0 2 e H = enterK [] 0 n0 e H := rfl
@[simp] theorem en96_3 [MaxL] [TxtC] (n0 : Nat) (e : Env) (H : Heap) : enter cx 96 n0 3 e H = enterK [0] 0 n0 e H := rfl
@[simp] theorem en96_4 [MaxL] [TxtC] (n0 : Nat) (e : Env) (H : Heap) : enter cx 96 n0 4 e H = enterK [0, 4] 0 n0 e H := rfl
@[simp] theorem en96_5 [MaxL] [TxtC] (n0 : Nat) (e : Env) (H : Heap) : enter cx 96 n0 5 e H = enterK [0, 4, 5] 0 n0 e H := rfl
@[simp] theorem en96_6 [MaxL] [TxtC] (n0 : Nat) (e : Env) (H : Heap) : enter cx 96 n0 6 e H = enterK [0, 4, 5] 0 n0 e H := rfl
@[simp] theorem en96_7 [MaxL] [TxtC] (n0 : Nat) (e : Env) (H : Heap) : enter cx 96 n0 7 e H = enterK [0, 4, 5] 0 n0 e H := rfl
@[simp] theorem en96_8 [MaxL] [TxtC] (n0 : Nat) (e : Env) (H : Heap) : enter cx 96 n0 8 e H = enterK [] 0 n0 e H := rfl
@[simp] theorem en96_9 [MaxL] [TxtC] (n0 : Nat) (e : Env) (H : Heap) : enter cx 96 n0 9 e H = enterK [0, 4, 5] 0 n0 e H := rfl
@[simp] theorem en96_10 [MaxL] [TxtC] (n0 : Nat) (e : Env) (H : Heap) : enter cx 96 n0 10 e H = enterK [0, 4, 5, 6] 0 n0 e H := rfl
@[simp] theorem en96_11 [MaxL] [TxtC] (n0 : Nat) (e : Env) (H : Heap) : enter cx 96 n0 11 e H = enterK [] 0 n0 e H := rfl
@[simp] theorem en96_12 [MaxL] [TxtC] (n0 : Nat) (e : Env) (H : Heap) : enter cx 96 n0 12 e H = enterK [0, 4, 5, 6] 0 n0 e H := rfl
@[simp] theorem en96_13 [MaxL] [TxtC] (n0 : Nat) (e : Env) (H : Heap) : enter cx 96 n0 13 e H = enterK [4] 0 n0 e H := rfl
@[simp] theorem en97_0 [MaxL] [TxtC] (n0 : Nat) (e : Env) (H : Heap) : enter cx 97 n0 0 e H = enterK [0, 1] 0 n0 e H := rfl
@[simp] theorem en97_1 [MaxL] [TxtC] (n0 : Nat) (e : Env) (H : Heap) : enter cx 97 n0 1 e H = enterK [0, 1] 0 n0 e H := rfl
@[simp] theorem en97_2 [MaxL] [TxtC] (n0 : Nat) (e : Env) (H : Heap) : enter cx 97 n0 2 e H = enterK [0, 1, 7] 0 n0 e H := rfl
@[simp] theorem en97_3 [MaxL] [TxtC] (n0 : Nat) (e : Env) (H : Heap) : enter cx 97 n0 3 e H = enterK [0, 1, 7] 0 n0 e H := rfl
@[simp] theorem en97_4 [MaxL] [TxtC] (n0 : Nat) (e : Env) (H : Heap) : enter cx 97 n0 4 e H = enterK [0, 1, 7] 0 n0 e H := rfl
@[simp] theorem en97_5 [MaxL] [TxtC] (n0 : Nat) (e : Env) (H : Heap) : enter cx 97 n0 5 e H = enterK [0, 1, 7] 0 n0 e H := rfl
@[simp] theorem en97_6 [MaxL] [TxtC] (n0 : Nat) (e : Env) (H : Heap) : enter cx 97 n0 6 e H = enterK [] 0 n0 e H := rfl
@[simp] theorem en98_0 [MaxL] [TxtC] (n0 : Nat) (e : Env) (H : Heap) : enter cx 98 n0 0 e H = enterK [0] 0 n0 e H := rfl
@[simp] theorem en98_1 [MaxL] [TxtC] (n0 : Nat) (e : Env) (H : Heap) : enter cx 98 n0 1 e H = enterK [0, 2] 0 n0 e H := rfl
@[simp] theorem en98_2 [MaxL] [TxtC] (n0 : Nat) (e : Env) (H : Heap) : enter cx 98 n0 2 e H = enterK [0, 2, 4] 0 n0 e H := rfl
@[simp] theorem en98_3 [MaxL] [TxtC] (n0 : Nat) (e : Env) (H : Heap) : enter cx 98 n0 3 e H = enterK [0, 2, 4] 0 n0 e H := rfl
@[simp] theorem en98_4 [MaxL] [TxtC] (n0 : Nat) (e : Env) (H : Heap) : enter cx 98 n0 4 e H = enterK [0, 2, 4] 0 n0 e H := rfl
@[simp] theorem en98_5 [MaxL] [TxtC] (n0 : Nat) (e : Env) (H : Heap) : enter cx 98 n0 5 e H = enterK [0, 2, 4] 0 n0 e H := rfl
@[simp] theorem en98_6 [MaxL] [TxtC] (n0 : Nat) (e : Env) (H : Heap) : enter cx 98 n0 6 e H = enterK [2] 0 n0 e H := rfl
@[simp] theorem en98_7 [MaxL] [TxtC] (n0 : Nat) (e : Env) (H : Heap) : enter cx 98 n0 7 e H = enterK [0, 2, 4] 0 n0 e H := rfl
@[simp] theorem en98_8 [MaxL] [TxtC] (n0 : Nat) (e : Env) (H : Heap) : enter cx 98 n0 8 e H = enterK [2] 0 n0 e H := rfl
@[simp] theorem en98_9 [MaxL] [TxtC] (n0 : Nat) (e : Env) (H : Heap) : enter cx 98 n0 9 e H = enterK [0, 2, 4] 0 n0 e H := rfl
@[simp] theorem en98_10 [MaxL] [TxtC] (n0 : Nat) (e : Env) (H : Heap) : enter cx 98 n0 10 e H = enterK [2] 0 n0 e H := rfl
@[simp] theorem en99_0 [MaxL] [TxtC] (n0 : Nat) (e : Env) (H : Heap) : enter cx 99 n0 0 e H = enterK [0] 0 n0 e H := rfl
@[simp] theorem en99_1 [MaxL] [TxtC] (n0 : Nat) (e : Env) (H : Heap) : enter cx 99 n0 1 e H = enterK [0] 0 n0 e H := rfl
@[simp] theorem en99_2 [MaxL] [TxtC] (n0 : Nat) (e : Env) (H : Heap) : enter cx 99 n0 2 e H = enterK [3] 0 n0 e H := rfl
@[simp] theorem en99_3 [MaxL] [TxtC] (n0 : Nat) (e : Env) (H : Heap) : enter cx 99 n0 3 e H = enterK [3] 0 n0 e H := rfl
@[simp] theorem en99_4 [MaxL] [TxtC] (n0 : Nat) (e : Env) (H : Heap) : enter cx 99 n0 4 e H = enterK [3] 0 n0 e H := rfl
@[simp] theorem en100_0 [MaxL] [TxtC] (n0 : Nat) (e : Env) (H : Heap) : enter cx 100 n0 0 e H = enterK [0] 0 n0 e H := rfl
@[simp] theorem en100_1 [MaxL] [TxtC] (n0 : Nat) (e : Env) (H : Heap) : enter cx 100 n0 1 e H = enterK [0] 0 n0 e H := rfl
@[simp] theorem en100_2 [MaxL] [TxtC] (n0 : Nat) (e : Env) (H : Heap) : enter cx 100 n0 2 e H = enterK [0, 3] 0 n0 e H := rfl
@[simp] theorem en100_3 [MaxL] [TxtC] (n0 : Nat) (e : Env) (H : Heap) : enter cx 100 n0 3 e H = enterK [0, 3, 4] 0 n0 e H := rfl
@[simp] theorem en100_4 [MaxL] [TxtC] (n0 : Nat) (e : Env) (H : Heap) : enter cx 100 n0 4 e H = enterK [0, 3, 4] 0 n0 e H := rfl
@[simp] theorem en100_5 [MaxL] [TxtC] (n0 : Nat) (e : Env) (H : Heap) : enter cx 100 n0 5 e H = enterK [0, 3, 4] 0 n0 e H := rfl
@[simp] theorem en100_6 [MaxL] [TxtC] (n0 : Nat) (e : Env) (H : Heap) : enter cx 100 n0 6 e H = enterK [3] 0 n0 e H := rfl
@[simp] theorem en101_0 [MaxL] [TxtC] (n0 : Nat) (e : Env) (H : Heap) : enter cx 101 n0 0 e H = enterK [0] 0 n0 e H := rfl
@[simp] theorem en101_1 [MaxL] [TxtC] (n0 : Nat) (e : Env) (H : Heap) : enter cx 101 n0 1 e H = enterK [0] 0 n0 e H := rfl
@[simp] theorem en101_2 [MaxL] [TxtC] (n0 : Nat) (e : Env) (H : Heap) : enter cx 101 n0 2 e H = enterK [0, 3] 0 n0 e H := rfl
@[simp] theorem en101_3 [MaxL] [TxtC] (n0 : Nat) (e : Env) (H : Heap) : enter cx 101 n0 3 e H = enterK [0, 3] 0 n0 e H := rfl
@[simp] theorem en101_4 [MaxL] [TxtC] (n0 : Nat) (e : Env) (H : Heap) : enter cx 101 n0 4 e H = enterK [0, 3] 0 n0 e H := rfl
@[simp] theorem en101_5 [MaxL] [TxtC] (n0 : Nat) (e : Env) (H : Heap) : enter cx 101 n0 5 e H = enterK [0, 3, 4] 0 n0 e H := rfl
@[simp] theorem en101_6 [MaxL] [TxtC] (n0 : Nat) (e : Env) (H : Heap) : enter cx 101 n0 6 e H = enterK [] 0 n0 e H := rfl
@[simp] theorem en101_7 [MaxL] [TxtC] (n0 : Nat) (e : Env) (H : Heap) : enter cx 101 n0 7 e H = enterK [0] 0 n0 e H := rfl
@[simp] theorem en102_0 [MaxL] [TxtC] (n0 : Nat) (e : Env) (H : Heap) : enter cx 102 n0 0 e H = enterK [0, 1] 0 n0 e H := rfl
@[simp] theorem en102_1 [MaxL] [TxtC] (n0 : Nat) (e : Env) (H : Heap) : enter cx 102 n0 1 e H = enterK [0, 1] 0 n0 e H := rfl
@[simp] theorem en102_2 [MaxL] [TxtC] (n0 : Nat) (e : Env) (H : Heap) : enter cx 102 n0 2 e H = enterK [] 0 n0 e H := rfl
@[simp] theorem en102_3 [MaxL] [TxtC] (n0 : Nat) (e : Env) (H : Heap) : enter cx 102 n0 3 e H = enterK [0, 1] 0 n0 e H := rfl
@[simp] theorem en102_4 [MaxL] [TxtC] (n0 : Nat) (e : Env) (H : Heap) : enter cx 102 n0 4 e H = enterK [0, 1, 12, 13] 0 n0 e H := rfl
@[simp] theorem en102_5 [MaxL] [TxtC] (n0 : Nat) (e : Env) (H : Heap) : enter cx 102 n0 5 e H = enterK [0, 1, 12, 13] 0 n0 e H := rfl
@[simp] theorem en102_6 [MaxL] [TxtC] (n0 : Nat) (e : Env) (H : Heap) : enter cx 102 n0 6 e H = enterK [0, 1, 5, 12, 13] 0 n0 e H := rfl
@[simp] theorem en102_7 [MaxL] [TxtC] (n0 : Nat) (e : Env) (H : Heap) : enter cx 102 n0 7 e H = enterK [] 0 n0 e H := rfl
@[simp] theorem en102_8 [MaxL] [TxtC] (n0 : Nat) (e : Env) (H : Heap) : enter cx 102 n0 8 e H = enterK [0, 1, 12, 13] 0 n0 e H := rfl
@[simp] theorem en102_9 [MaxL] [TxtC] (n0 : Nat) (e : Env) (H : Heap) : enter cx 102 n0 9 e H = enterK [] 0 n0 e H := rfl
@[simp] theorem en104_0 [MaxL] [TxtC] (n0 : Nat) (e : Env) (H : Heap) : enter cx 104 n0 0 e H = enterK [0] 0 n0 e H := rfl
@[simp] theorem en104_1 [MaxL] [TxtC] (n0 : Nat) (e : Env) (H : Heap) : enter cx 104 n0 1 e H = enterK [0] 0 n0 e H := rfl
@[simp] theorem en104_2 [MaxL] [TxtC] (n0 : Nat) (e : Env) (H : Heap) : enter cx 104 n0 2 e H = enterK [] 0 n0 e H := rfl
@[simp] theorem en104_3 [MaxL] [TxtC] (n0 : Nat) (e : Env) (H : Heap) : enter cx 104 n0 3 e H = enterK [0] 0 n0 e H := rfl
@[simp] theorem en105_0 [MaxL] [TxtC] (n0 : Nat) (e : Env) (H : Heap) : enter cx 105 n0 0 e H = enterK [0] 0 n0 e H := rfl
@[simp] theorem en105_1 [MaxL] [TxtC] (n0 : Nat) (e : Env) (H : Heap) : enter cx 105 n0 1 e H = enterK [0] 0 n0 e H := rfl
@[simp] theorem en108_0 [MaxL] [TxtC] (n0 : Nat) (e : Env) (H : Heap) : enter cx 108 n0 0 e H = enterK [0] 0 n0 e H := rfl
@[simp] theorem en108_1 [MaxL] [TxtC] (n0 : Nat) (e : Env) (H : Heap) : enter cx 108 n0 1 e H = enterK [1] 0 n0 e H := rfl
@[simp] theorem en108_2 [MaxL] [TxtC] (n0 : Nat) (e : Env) (H : Heap) : enter cx 108 n0 2 e H = enterK [] 0 n0 e H := rfl
@[simp] theorem en108_3 [MaxL] [TxtC] (n0 : Nat) (e : Env) (H : Heap) : enter cx 108 n0 3 e H = enterK [1] 0 n0 e H := rfl
@[simp] theorem en108_4 [MaxL] [TxtC] (n0 : Nat) (e : Env) (H : Heap) : enter cx 108 n0 4 e H = enterK [] 0 n0 e H := rfl
@[simp] theorem en108_5 [MaxL] [TxtC] (n0 : Nat) (e : Env) (H : Heap) : enter cx 108 n0 5 e H = enterK [1] 0 n0 e H := rfl
@[simp] theorem en109_0 [MaxL] [TxtC] (n0 : Nat) (e : Env) (H : Heap) : enter cx 109 n0 0 e H = enterK [0] 0 n0 e H := rfl
@[simp] theorem en109_1 [MaxL] [TxtC] (n0 : Nat) (e : Env) (H : Heap) : enter cx 109 n0 1 e H = enterK [1] 0 n0 e H := rfl
@[simp] theorem en110_0 [MaxL] [TxtC] (n0 : Nat) (e : Env) (H : Heap) : enter cx 110 n0 0 e H = enterK [0] 0 n0 e H := rfl
@[simp] theorem en110_1 [MaxL] [TxtC] (n0 : Nat) (e : Env) (H : Heap) : enter cx 110 n0 1 e H = enterK [0, 2] 0 n0 e H := rfl
@[simp] theorem en111_0 [MaxL] [TxtC] (n0 : Nat) (e : Env) (H : Heap) : enter cx 111 n0 0 e H = enterK [0, 1] 0 n0 e H := rfl
@[simp] theorem en111_1 [MaxL] [TxtC] (n0 : Nat) (e : Env) (H : Heap) : enter cx 111 n0 1 e H = enterK [0, 1] 0 n0 e H := rfl
@[simp] theorem en111_2 [MaxL] [TxtC] (n0 : Nat) (e : Env) (H : Heap) : enter cx 111 n0 2 e H = enterK [0] 0 n0 e H := rfl
@[simp] theorem en111_3 [MaxL] [TxtC] (n0 : Nat) (e : Env) (H : Heap) : enter cx 111 n0 3 e H = enterK [0] 0 n0 e H := rfl
@[simp] theorem en111_4 [MaxL] [TxtC] (n0 : Nat) (e : Env) (H : Heap) : enter cx 111 n0 4 e H = enterK [0] 0 n0 e H := rfl
@[simp] theorem en111_5 [MaxL] [TxtC] (n0 : Nat) (e : Env) (H : Heap) : enter cx 111 n0 5 e H = enterK [0, 5] 0 n0 e H := rfl
@[simp] theorem en111_6 [MaxL] [TxtC] (n0 : Nat) (e : Env) (H : Heap) : enter cx 111 n0 6 e H = enterK [0, 5, 6] 0 n0 e H := rfl
@[simp] theorem en111_7 [MaxL] [TxtC] (n0 : Nat) (e : Env) (H : Heap) : enter cx 111 n0 7 e H = enterK [5, 6] 0 n0 e H := rfl
@[simp] theorem en111_8 [MaxL] [TxtC] (n0 : Nat) (e : Env) (H : Heap) : enter cx 111 n0 8 e H = enterK [0, 1] 0 n0 e H := rfl
@[simp] theorem en111_9 [MaxL] [TxtC] (n0 : Nat) (e : Env) (H : Heap) : enter cx 111 n0 9 e H = enterK [8] 0 n0 e H := rfl
@[simp] theorem en112_0 [MaxL] [TxtC] (n0 : Nat) (e : Env) (H : Heap) : enter cx 112 n0 0 e H = enterK [0] 0 n0 e H := rfl
@[simp] theorem en112_1 [MaxL] [TxtC] (n0 : Nat) (e : Env) (H : Heap) : enter cx 112 n0 1 e H = enterK [0] 0 n0 e H := rfl
@[simp] theorem en112_2 [MaxL] [TxtC] (n0 : Nat) (e : Env) (H : Heap) : enter cx 112 n0 2 e H = enterK [0, 3] 0 n0 e H := rfl
@[simp] theorem en112_3 [MaxL] [TxtC] (n0 : Nat) (e : Env) (H : Heap) : enter cx 112 n0 3 e H = enterK [0, 4] 0 n0 e H := rfl
@[simp] theorem en112_4 [MaxL] [TxtC] (n0 : Nat) (e : Env) (H : Heap) : enter cx 112 n0 4 e H = enterK [0, 4] 0 n0 e H := rfl
@[simp] theorem en112_5 [MaxL] [TxtC] (n0 : Nat) (e : Env) (H : Heap) : enter cx 112 n0 5 e H = enterK [0, 4] 0 n0 e H := rfl
@[simp] theorem en112_6 [MaxL] [TxtC] (n0 : Nat) (e : Env) (H : Heap) : enter cx 112 n0 6 e H = enterK [0, 4] 0 n0 e H := rfl
@[simp] theorem en112_7 [MaxL] [TxtC] (n0 : Nat) (e : Env) (H : Heap) : enter cx 112 n0 7 e H = enterK [0, 4] 0 n0 e H := rfl
@[simp] theorem en112_8 [MaxL] [TxtC] (n0 : Nat) (e : Env) (H : Heap) : enter cx 112 n0 8 e H = enterK [0, 4] 0 n0 e H := rfl
@[simp] theorem en112_9 [MaxL] [TxtC] (n0 : Nat) (e : Env) (H : Heap) : enter cx 112 n0 9 e H = enterK [0, 4, 5] 0 n0 e H := rfl
@[simp] theorem en112_10 [MaxL] [TxtC] (n0 : Nat) (e : Env) (H : Heap) : enter cx 112 n0 10 e H = enterZ [5] [4, 5] 0 n0 e H := rfl
@[simp] theorem en112_11 [MaxL] [TxtC] (n0 : Nat) (e : Env) (H : Heap) : enter cx 112 n0 11 e H = enterK [4] 0 n0 e H := rfl
@[simp] theorem en112_12 [MaxL] [TxtC] (n0 : Nat) (e : Env) (H : Heap) : enter cx 112 n0 12 e H = enterK [4] 0 n0 e H := rfl
@[simp] theorem en114_0 [MaxL] [TxtC] (n0 : Nat) (e : Env) (H : Heap) : enter cx 114 n0 0 e H = enterK [0, 1] 0 n0 e H := rfl
@[simp] theorem en114_1 [MaxL] [TxtC] (n0 : Nat) (e : Env) (H : Heap) : enter cx 114 n0 1 e H = enterK [0, 1] 0 n0 e H := rfl
@[simp] theorem en114_2 [MaxL] [TxtC] (n0 : Nat) (e : Env) (H : Heap) : enter cx 114 n0 2 e H = enterK [0, 1, 7] 0 n0 e H := rfl
@[simp] theorem en114_3 [MaxL] [TxtC] (n0 : Nat) (e : Env) (H : Heap) : enter cx 114 n0 3 e H = enterK [0, 1, 7] 0 n0 e H := rfl
@[simp] theorem en114_4 [MaxL] [TxtC] (n0 : Nat) (e : Env) (H : Heap) : enter cx 114 n0 4 e H = enterK [0] 0 n0 e H := rfl
@[simp] theorem en115_0 [MaxL] [TxtC] (n0 : Nat) (e : Env) (H : Heap) : enter cx 115 n0 0 e H = enterK [0, 1] 0 n0 e H := rfl
@[simp] theorem en115_1 [MaxL] [TxtC] (n0 : Nat) (e : Env) (H : Heap) : enter cx 115 n0 1 e H = enterK [0, 1] 0 n0 e H := rfl
@[simp] theorem en115_2 [MaxL] [TxtC] (n0 : Nat) (e : Env) (H : Heap) : enter cx 115 n0 2 e H = enterK [0, 1, 7] 0 n0 e H := rfl
@[simp] theorem en115_3 [MaxL] [TxtC] (n0 : Nat) (e : Env) (H : Heap) : enter cx 115 n0 3 e H = enterK [0, 1, 7] 0 n0 e H := rfl
@[simp] theorem en115_4 [MaxL] [TxtC] (n0 : Nat) (e : Env) (H : Heap) : enter cx 115 n0 4 e H = enterK [0] 0 n0 e H := rfl
@[simp] theorem en116_0 [MaxL] [TxtC] (n0 : Nat) (e : Env) (H : Heap) : enter cx 116 n0 0 e H = enterK [0, 1] 0 n0 e H := rfl
@[simp] theorem en116_1 [MaxL] [TxtC] (n0 : Nat) (e : Env) (H : Heap) : enter cx 116 n0 1 e H = enterK [0, 1] 0 n0 e H := rfl
@[simp] theorem en117_0 [MaxL] [TxtC] (n0 : Nat) (e : Env) (H : Heap) : enter cx 117 n0 0 e H = enterK [0, 1, 2] 0 n0 e H := rfl
@[simp] theorem en117_1 [MaxL] [TxtC] (n0 : Nat) (e : Env) (H : Heap) : enter cx 117 n0 1 e H = enterK [0, 1, 2] 0 n0 e H := rfl
@[simp] theorem en117_2 [MaxL] [TxtC] (n0 : Nat) (e : Env) (H : Heap) : enter cx 117 n0 2 e H = enterK [] 0 n0 e H := rfl
@[simp] theorem en117_3 [MaxL] [TxtC] (n0 : Nat) (e : Env) (H : Heap) : enter cx 117 n0 3 e H = enterK [0, 1, 2] 0 n0 e H := rfl
@[simp] theorem en117_4 [MaxL] [TxtC] (n0 : Nat) (e : Env) (H : Heap) : enter cx 117 n0 4 e H = enterK [0, 1, 2, 8] 0 n0 e H := rfl
@[simp] theorem en117_5 [MaxL] [TxtC] (n0 : Nat) (e : Env) (H : Heap) : enter cx 117 n0 5 e H = enterK [] 0 n0 e H := rfl
@[simp] theorem en117_6 [MaxL] [TxtC] (n0 : Nat) (e : Env) (H : Heap) : enter cx 117 n0 6 e H = enterK [0, 1, 2, 8, 9] 0 n0 e H := rfl
@[simp] theorem en117_7 [MaxL] [TxtC] (n0 : Nat) (e : Env) (H : Heap) : enter cx 117 n0 7 e H = enterK [0, 1, 2, 8, 9] 0 n0 e H := rfl
@[simp] theorem en117_8 [MaxL] [TxtC] (n0 : Nat) (e : Env) (H : Heap) : enter cx 117 n0 8 e H = enterK [0, 2, 8, 9] 0 n0 e H := rfl
@[simp] theorem en117_9 [MaxL] [TxtC] (n0 : Nat) (e : Env) (H : Heap) : enter cx 117 n0 9 e H = enterK [0, 1, 2, 8, 9] 0 n0 e H := rfl
@[simp] theorem en117_10 [MaxL] [TxtC] (n0 : Nat) (e : Env) (H : Heap) : enter cx 117 n0 10 e H = enterK [0, 2, 8, 9] 0 n0 e H := rfl
@[simp] theorem en117_11 [MaxL] [TxtC] (n0 : Nat) (e : Env) (H : Heap) : enter cx 117 n0 11 e H = enterK [0, 1, 2, 8, 9] 0 n0 e H := rfl
@[simp] theorem en117_12 [MaxL] [TxtC] (n0 : Nat) (e : Env) (H : Heap) : enter cx 117 n0 12 e H = enterK [0, 2, 8, 9] 0 n0 e H := rfl
@[simp] theorem en117_13 [MaxL] [TxtC] (n0 : Nat) (e : Env) (H : Heap) : enter cx 117 n0 13 e H = enterK [0, 2, 8, 9] 0 n0 e H := rfl
@[simp] theorem en117_14 [MaxL] [TxtC] (n0 : Nat) (e : Env) (H : Heap) : enter cx 117 n0 14 e H = enterK [0, 1, 2, 8, 9] 0 n0 e H := rfl
@[simp] theorem en117_15 [MaxL] [TxtC] (n0 : Nat) (e : Env) (H : Heap) : enter cx 117 n0 15 e H = enterK [0, 2, 8, 9] 0 n0 e H := rfl
@[simp] theorem en117_16 [MaxL] [TxtC] (n0 : Nat) (e : Env) (H : Heap) : enter cx 117 n0 16 e H = enterK [0, 2, 8, 9] 0 n0 e H := rfl
@[simp] theorem en117_17 [MaxL] [TxtC] (n0 : Nat) (e : Env) (H : Heap) : enter cx 117 n0 17 e H = enterK [0, 1, 2, 8, 9] 0 n0 e H := rfl
@[simp] theorem en117_18 [MaxL] [TxtC] (n0 : Nat) (e : Env) (H : Heap) : enter cx 117 n0 18 e H = enterK [0, 2, 8, 9] 0 n0 e H := rfl
@[simp] theorem en117_19 [MaxL] [TxtC] (n0 : Nat) (e : Env) (H : Heap) : enter cx 117 n0 19 e H = enterK [0, 2, 8, 9] 0 n0 e H := rfl
@[simp] theorem en117_20 [MaxL] [TxtC] (n0 : Nat) (e : Env) (H : Heap) : enter cx 117 n0 20 e H = enterK [0, 1, 2, 8, 9] 0 n0 e H := rfl
@[simp] theorem en117_21 [MaxL] [TxtC] (n0 : Nat) (e : Env) (H : Heap) : enter cx 117 n0 21 e H = enterK [0, 1, 2, 8, 9] 0 n0 e H := rfl
@[simp] theorem en117_22 [MaxL] [TxtC] (n0 : Nat) (e : Env) (H : Heap) : enter cx 117 n0 22 e H = enterK [0, 1, 8, 9] 0 n0 e H := rfl
@[simp] theorem en117_23 [MaxL] [TxtC] (n0 : Nat) (e : Env) (H : Heap) : enter cx 117 n0 23 e H = enterK [0, 1, 2, 8, 9] 0 n0 e H := rfl
@[simp] theorem en117_24 [MaxL] [TxtC] (n0 : Nat) (e : Env) (H : Heap) : enter cx 117 n0 24 e H = enterK [] 0 n0 e H := rfl
@[simp] theorem en117_25 [MaxL] [TxtC] (n0 : Nat) (e : Env) (H : Heap) : enter cx 117 n0 25 e H = enterK [0, 1, 2, 8, 9] 0 n0 e H := rfl
@[simp] theorem en117_26 [MaxL] [TxtC] (n0 : Nat) (e : Env) (H : Heap) : enter cx 117 n0 26 e H = enterK [0, 1, 2, 8, 9] 0 n0 e H := rfl
@[simp] theorem en117_27 [MaxL] [TxtC] (n0 : Nat) (e : Env) (H : Heap) : enter cx 117 n0 27 e H = enterK [0, 1, 2, 8, 9] 0 n0 e H := rfl
@[simp] theorem en117_28 [MaxL] [TxtC] (n0 : Nat) (e : Env) (H : Heap) : enter cx 117 n0 28 e H = enterK [0, 1, 2, 8, 9, 85] 0 n0 e H := rfl
@[simp] theorem en117_29 [MaxL] [TxtC] (n0 : Nat) (e : Env) (H : Heap) : enter cx 117 n0 29 e H = enterK [0, 1, 2, 8, 9] 0 n0 e H := rfl
@[simp] theorem en117_30 [MaxL] [TxtC] (n0 : Nat) (e : Env) (H : Heap) : enter cx 117 n0 30 e H = enterK [0, 1, 2, 8, 9, 85] 0 n0 e H := rfl
@[simp] theorem en117_31 [MaxL] [TxtC] (n0 : Nat) (e : Env) (H : Heap) : enter cx 117 n0 31 e H = enterK [0, 1, 2, 8, 9] 0 n0 e H := rfl
@[simp] theorem en117_32 [MaxL] [TxtC] (n0 : Nat) (e : Env) (H : Heap) : enter cx 117 n0 32 e H = enterK [0, 1, 2, 8, 9, 10] 0 n0 e H := rfl
@[simp] theorem en117_33 [MaxL] [TxtC] (n0 : Nat) (e : Env) (H : Heap) : enter cx 117 n0 33 e H = enterK [0, 1, 8, 9, 10, 11] 0 n0 e H := rfl
@[simp] theorem en117_34 [MaxL] [TxtC] (n0 : Nat) (e : Env) (H : Heap) : enter cx 117 n0 34 e H = enterK [0, 1, 8, 9, 10, 11, 12] 0 n0 e H := rfl
@[simp] theorem en117_35 [MaxL] [TxtC] (n0 : Nat) (e : Env) (H : Heap) : enter cx 117 n0 35 e H = enterK [0, 1, 8, 9, 10, 11, 12, 13] 0 n0 e H := rfl
@[simp] theorem en117_36 [MaxL] [TxtC] (n0 : Nat) (e : Env) (H : Heap) : enter cx 117 n0 36 e H = enterK [1, 8, 9, 10, 11, 12, 13, 99, 100, 101] 0 n0 e H := rfl
@[simp] theorem en117_37 [MaxL] [TxtC] (n0 : Nat) (e : Env) (H : Heap) : enter cx 117 n0 37 e H = enterK [1, 8, 9, 10, 11, 12, 13, 99, 100, 101] 0 n0 e H := rfl
@[simp] theorem en117_38 [MaxL] [TxtC] (n0 : Nat) (e : Env) (H : Heap) : enter cx 117 n0 38 e H = enterK [1, 8, 9, 10, 11, 12, 13, 15, 99, 100, 101] 0 n0 e H := rfl
@[simp] theorem en117_39 [MaxL] [TxtC] (n0 : Nat) (e : Env) (H : Heap) : enter cx 117 n0 39 e H = enterK [] 0 n0 e H := rfl
@[simp] theorem en117_40 [MaxL] [TxtC] (n0 : Nat) (e : Env) (H : Heap) : enter cx 117 n0 40 e H = enterK [1, 8, 9, 10, 11, 12, 13, 15, 99, 100, 101] 0 n0 e H := rfl
@[simp] theorem en117_41 [MaxL] [TxtC] (n0 : Nat) (e : Env) (H : Heap) : enter cx 117 n0 41 e H = enterK [1, 8, 9, 10, 11, 13, 99, 100, 101] 0 n0 e H := rfl
@[simp] theorem en117_42 [MaxL] [TxtC] (n0 : Nat) (e : Env) (H : Heap) : enter cx 117 n0 42 e H = enterK [1, 8, 9, 10, 11, 12, 13, 15, 99, 100, 101] 0 n0 e H := rfl
@[simp] theorem en117_43 [MaxL] [TxtC] (n0 : Nat) (e : Env) (H : Heap) : enter cx 117 n0 43 e H = enterK [1, 8, 9, 10, 11, 12, 13, 15, 99, 100, 101] 0 n0 e H := rfl
@[simp] theorem en117_44 [MaxL] [TxtC] (n0 : Nat) (e : Env) (H : Heap) : enter cx 117 n0 44 e H = enterK [1, 8, 9, 10, 11, 12, 13, 15, 99, 100, 101] 0 n0 e H := rfl
@[simp] theorem en117_45 [MaxL] [TxtC] (n0 : Nat) (e : Env) (H : Heap) : enter cx 117 n0 45 e H = enterK [1, 8, 9, 10, 11, 12, 13, 15, 99, 100, 101] 0 n0 e H := rfl
@[simp] theorem en117_46 [MaxL] [TxtC] (n0 : Nat) (e : Env) (H : Heap) : enter cx 117 n0 46 e H = enterK [1, 8, 9, 10, 11, 12, 13, 16, 99, 100, 101] 0 n0 e H := rfl
@[simp] theorem en117_47 [MaxL] [TxtC] (n0 : Nat) (e : Env) (H : Heap) : enter cx 117 n0 47 e H = enterK [] 0 n0 e H := rfl
@[simp] theorem en117_48 [MaxL] [TxtC] (n0 : Nat) (e : Env) (H : Heap) : enter cx 117 n0 48 e H = enterK [1, 8, 9, 10, 11, 12, 13, 16, 99, 100, 101] 0 n0 e H := rfl
@[simp] theorem en117_49 [MaxL] [TxtC] (n0 : Nat) (e : Env) (H : Heap) : enter cx 117 n0 49 e H = enterK [11] 0 n0 e H := rfl
@[simp] theorem en117_50 [MaxL] [TxtC] (n0 : Nat) (e : Env) (H : Heap) : enter cx 117 n0 50 e H = enterK [1, 8, 9, 10, 11, 12, 13, 16, 99, 100, 101] 0 n0 e H := rfl
@[simp] theorem en117_51 [MaxL] [TxtC] (n0 : Nat) (e : Env) (H : Heap) : enter cx 117 n0 51 e H = enterK [1, 8, 9, 10, 11, 12, 13, 16, 99, 100, 101] 0 n0 e H := rfl
@[simp] theorem en117_52 [MaxL] [TxtC] (n0 : Nat) (e : Env) (H : Heap) : enter cx 117 n0 52 e H = enterK [1, 8, 9, 10, 11, 12, 13, 17, 99, 100, 101] 0 n0 e H := rfl
@[simp] theorem en117_53 [MaxL] [TxtC] (n0 : Nat) (e : Env) (H : Heap) : enter cx 117 n0 53 e H = enterK [11] 0 n0 e H := rfl
@[simp] theorem en117_54 [MaxL] [TxtC] (n0 : Nat) (e : Env) (H : Heap) : enter cx 117 n0 54 e H = enterK [1, 8, 9, 10, 11, 12, 17, 99, 100, 101] 0 n0 e H := rfl
@[simp] theorem en117_55 [MaxL] [TxtC] (n0 : Nat) (e : Env) (H : Heap) : enter cx 117 n0 55 e H = enterK [1, 8, 9, 10, 11, 12, 13, 99, 100, 101] 0 n0 e H := rfl
@[simp] theorem en117_56 [MaxL] [TxtC] (n0 : Nat) (e : Env) (H : Heap) : enter cx 117 n0 56 e H = enterK [9, 12, 13] 0 n0 e H := rfl
@[simp] theorem en117_57 [MaxL] [TxtC] (n0 : Nat) (e : Env) (H : Heap) : enter cx 117 n0 57 e H = enterK [] 0 n0 e H := rfl
@[simp] theorem en117_58 [MaxL] [TxtC] (n0 : Nat) (e : Env) (H : Heap) : enter cx 117 n0 58 e H = enterK [13] 0 n0 e H := rfl
@[simp] theorem en118_0 [MaxL] [TxtC] (n0 : Nat) (e : Env) (H : Heap) : enter cx 118 n0 0 e H = enterK [0, 1, 2, 3, 4] 0 n0 e H := rfl
@[simp] theorem en118_1 [MaxL] [TxtC] (n0 : Nat) (e : Env) (H : Heap) : enter cx 118 n0 1 e H = enterK [0, 1, 2, 3, 4] 0 n0 e H := rfl
@[simp] theorem en118_2 [MaxL] [TxtC] (n0 : Nat) (e : Env) (H : Heap) : enter cx 118 n0 2 e H = enterK [0, 1, 2, 3, 4, 11] 0 n0 e H := rfl
@[simp] theorem en118_3 [MaxL] [TxtC] (n0 : Nat) (e : Env) (H : Heap) : enter cx 118 n0 3 e H = enterK [0, 1] 0 n0 e H := rfl
@[simp] theorem en118_4 [MaxL] [TxtC] (n0 : Nat) (e : Env) (H : Heap) : enter cx 118 n0 4 e H = enterK [0, 1, 2, 3, 4, 11] 0 n0 e H := rfl
@[simp] theorem en118_5 [MaxL] [TxtC] (n0 : Nat) (e : Env) (H : Heap) : enter cx 118 n0 5 e H = enterK [0, 1] 0 n0 e H := rfl
@[simp] theorem en118_6 [MaxL] [TxtC] (n0 : Nat) (e : Env) (H : Heap) : enter cx 118 n0 6 e H = enterK [0, 1, 2, 3, 4, 11] 0 n0 e H := rfl
@[simp] theorem en118_7 [MaxL] [TxtC] (n0 : Nat) (e : Env) (H : Heap) : enter cx 118 n0 7 e H = enterK [0, 1, 2] 0 n0 e H := rfl
@[simp] theorem en118_8 [MaxL] [TxtC] (n0 : Nat) (e : Env) (H : Heap) : enter cx 118 n0 8 e H = enterK [0, 1, 3, 4, 11] 0 n0 e H := rfl
@[simp] theorem en118_9 [MaxL] [TxtC] (n0 : Nat) (e : Env) (H : Heap) : enter cx 118 n0 9 e H = enterK [0, 1, 3] 0 n0 e H := rfl
@[simp] theorem en118_10 [MaxL] [TxtC] (n0 : Nat) (e : Env) (H : Heap) : enter cx 118 n0 10 e H = enterK [4] 0 n0 e H := rfl
@[simp] theorem en119_0 [MaxL] [TxtC] (n0 : Nat) (e : Env) (H : Heap) : enter cx 119 n0 0 e H = enterK [0] 0 n0 e H := rfl
@[simp] theorem en119_1 [MaxL] [TxtC] (n0 : Nat) (e : Env) (H : Heap) : enter cx 119 n0 1 e H = enterK [0, 2] 0 n0 e H := rfl
@[simp] theorem en119_2 [MaxL] [TxtC] (n0 : Nat) (e : Env) (H : Heap) : enter cx 119 n0 2 e H = enterK [0, 2, 4] 0 n0 e H := rfl
@[simp] theorem en119_3 [MaxL] [TxtC] (n0 : Nat) (e : Env) (H : Heap) : enter cx 119 n0 3 e H = enterK [2] 0 n0 e H := rfl
@[simp] theorem en119_4 [MaxL] [TxtC] (n0 : Nat) (e : Env) (H : Heap) : enter cx 119 n0 4 e H = enterK [0, 2, 4] 0 n0 e H := rfl
@[simp] theorem en119_5 [MaxL] [TxtC] (n0 : Nat) (e : Env) (H : Heap) : enter cx 119 n0 5 e H = enterK [0, 2, 4, 12, 13] 0 n0 e H := rfl
@[simp] theorem en119_6 [MaxL] [TxtC] (n0 : Nat) (e : Env) (H : Heap) : enter cx 119 n0 6 e H = enterK [0, 2, 4, 12, 13] 0 n0 e H := rfl
@[simp] theorem en119_7 [MaxL] [TxtC] (n0 : Nat) (e : Env) (H : Heap) : enter cx 119 n0 7 e H = enterK [0, 2, 4, 5, 12, 13] 0 n0 e H := rfl
@[simp] theorem en119_8 [MaxL] [TxtC] (n0 : Nat) (e : Env) (H : Heap) : enter cx 119 n0 8 e H = enterK [0, 2, 4, 5, 6, 12, 13] 0 n0 e H := rfl
@[simp] theorem en119_9 [MaxL] [TxtC] (n0 : Nat) (e : Env) (H : Heap) : enter cx 119 n0 9 e H = enterK [2] 0 n0 e H := rfl
@[simp] theorem en119_10 [MaxL] [TxtC] (n0 : Nat) (e : Env) (H : Heap) : enter cx 119 n0 10 e H = enterK [0, 2, 4, 5, 6, 12, 13] 0 n0 e H := rfl
@[simp] theorem en119_11 [MaxL] [TxtC] (n0 : Nat) (e : Env) (H : Heap) : enter cx 119 n0 11 e H = enterK [0, 2, 4, 12, 13] 0 n0 e H := rfl
@[simp] theorem en119_12 [MaxL] [TxtC] (n0 : Nat) (e : Env) (H : Heap) : enter cx 119 n0 12 e H = enterK [2, 4] 0 n0 e H := rfl
@[simp] theorem en120_0 [MaxL] [TxtC] (n0 : Nat) (e : Env) (H : Heap) : enter cx 120 n0 0 e H = enterK [0, 1] 0 n0 e H := rfl
@[simp] theorem en120_1 [MaxL] [TxtC] (n0 : Nat) (e : Env) (H : Heap) : enter cx 120 n0 1 e H = enterK [0, 1] 0 n0 e H := rfl
@[simp] theorem en120_2 [MaxL] [TxtC] (n0 : Nat) (e : Env) (H : Heap) : enter cx 120 n0 2 e H = enterK [] 0 n0 e H := rfl
@[simp] theorem en120_3 [MaxL] [TxtC] (n0 : Nat) (e : Env) (H : Heap) : enter cx 120 n0 3 e H = enterK [0, 1] 0 n0 e H := rfl
@[simp] theorem en120_4 [MaxL] [TxtC] (n0 : Nat) (e : Env) (H : Heap) : enter cx 120 n0 4 e H = enterK [0, 1] 0 n0 e H := rfl
@[simp] theorem en120_5 [MaxL] [TxtC] (n0 : Nat) (e : Env) (H : Heap) : enter cx 120 n0 5 e H = enterK [0, 1, 5] 0 n0 e H := rfl
@[simp] theorem en120_6 [MaxL] [TxtC] (n0 : Nat) (e : Env) (H : Heap) : enter cx 120 n0 6 e H = enterK [1] 0 n0 e H := rfl
@[simp] theorem en120_7 [MaxL] [TxtC] (n0 : Nat) (e : Env) (H : Heap) : enter cx 120 n0 7 e H = enterK [28] 0 n0 e H := rfl
@[simp] theorem en120_8 [MaxL] [TxtC] (n0 : Nat) (e : Env) (H : Heap) : enter cx 120 n0 8 e H = enterK [28, 29] 0 n0 e H := rfl
@[simp] theorem en120_9 [MaxL] [TxtC] (n0 : Nat) (e : Env) (H : Heap) : enter cx 120 n0 9 e H = enterK [5, 28] 0 n0 e H := rfl
@[simp] theorem en120_10 [MaxL] [TxtC] (n0 : Nat) (e : Env) (H : Heap) : enter cx 120 n0 10 e H = enterK [] 0 n0 e H := rfl
@[simp] theorem en120_11 [MaxL] [TxtC] (n0 : Nat) (e : Env) (H : Heap) : enter cx 120 n0 11 e H = enterK [] 0 n0 e H := rfl
@[simp] theorem en120_12 [MaxL] [TxtC] (n0 : Nat) (e : Env) (H : Heap) : enter cx 120 n0 12 e H = enterK [0, 1] 0 n0 e H := rfl
@[simp] theorem en120_13 [MaxL] [TxtC] (n0 : Nat) (e : Env) (H : Heap) : enter cx 120 n0 13 e H = enterK [] 0 n0 e H := rfl
@[simp] theorem en120_14 [MaxL] [TxtC] (n0 : Nat) (e : Env) (H : Heap) : enter cx 120 n0 14 e H = enterK [] 0 n0 e H := rfl
@[simp] theorem en120_15 [MaxL] [TxtC] (n0 : Nat) (e : Env) (H : Heap) : enter cx 120 n0 15 e H = enterK [0, 1] 0 n0 e H := rfl
@[simp] theorem en120_16 [MaxL] [TxtC] (n0 : Nat) (e : Env) (H : Heap) : enter cx 120 n0 16 e H = enterK [0, 1] 0 n0 e H := rfl
@[simp] theorem en120_17 [MaxL] [TxtC] (n0 : Nat) (e : Env) (H : Heap) : enter cx 120 n0 17 e H = enterK [0, 6] 0 n0 e H := rfl
@[simp] theorem en120_18 [MaxL] [TxtC] (n0 : Nat) (e : Env) (H : Heap) : enter cx 120 n0 18 e H = enterK [0] 0 n0 e H := rfl
@[simp] theorem en120_19 [MaxL] [TxtC] (n0 : Nat) (e : Env) (H : Heap) : enter cx 120 n0 19 e H = enterK [0, 6] 0 n0 e H := rfl
@[simp] theorem en120_20 [MaxL] [TxtC] (n0 : Nat) (e : Env) (H : Heap) : enter cx 120 n0 20 e H = enterK [0, 1] 0 n0 e H := rfl
@[simp] theorem en120_21 [MaxL] [TxtC] (n0 : Nat) (e : Env) (H : Heap) : enter cx 120 n0 21 e H = enterK [0, 1] 0 n0 e H := rfl
@[simp] theorem en120_22 [MaxL] [TxtC] (n0 : Nat) (e : Env) (H : Heap) : enter cx 120 n0 22 e H = enterK [0, 1, 7, 8] 0 n0 e H := rfl
@[simp] theorem en120_23 [MaxL] [TxtC] (n0 : Nat) (e : Env) (H : Heap) : enter cx 120 n0 23 e H = enterK [0, 7] 0 n0 e H := rfl
@[simp] theorem en120_24 [MaxL] [TxtC] (n0 : Nat) (e : Env) (H : Heap) : enter cx 120 n0 24 e H = enterK [7, 60, 61, 62] 0 n0 e H := rfl
@[simp] theorem en120_25 [MaxL] [TxtC] (n0 : Nat) (e : Env) (H : Heap) : enter cx 120 n0 25 e H = enterK [7, 60, 61, 62] 0 n0 e H := rfl
@[simp] theorem en120_26 [MaxL] [TxtC] (n0 : Nat) (e : Env) (H : Heap) : enter cx 120 n0 26 e H = enterK [7, 9, 10, 60, 61, 62] 0 n0 e H := rfl
@[simp] theorem en120_27 [MaxL] [TxtC] (n0 : Nat) (e : Env) (H : Heap) : enter cx 120 n0 27 e H = enterK [9] 0 n0 e H := rfl
@[simp] theorem en120_28 [MaxL] [TxtC] (n0 : Nat) (e : Env) (H : Heap) : enter cx 120 n0 28 e H = enterK [7, 60, 61, 62] 0 n0 e H := rfl
@[simp] theorem en120_29 [MaxL] [TxtC] (n0 : Nat) (e : Env) (H : Heap) : enter cx 120 n0 29 e H = enterK [] 0 n0 e H := rfl
@[simp] theorem en120_30 [MaxL] [TxtC] (n0 : Nat) (e : Env) (H : Heap) : enter cx 120 n0 30 e H = enterK [0, 1] 0 n0 e H := rfl
@[simp] theorem en120_31 [MaxL] [TxtC] (n0 : Nat) (e : Env) (H : Heap) : enter cx 120 n0 31 e H = enterK [0, 1] 0 n0 e H := rfl
@[simp] theorem en120_32 [MaxL] [TxtC] (n0 : Nat) (e : Env) (H : Heap) : enter cx 120 n0 32 e H = enterK [0, 1, 12] 0 n0 e H := rfl
@[simp] theorem en120_33 [MaxL] [TxtC] (n0 : Nat) (e : Env) (H : Heap) : enter cx 120 n0 33 e H = enterK [0, 1, 11, 12] 0 n0 e H := rfl
@[simp] theorem en120_34 [MaxL] [TxtC] (n0 : Nat) (e : Env) (H : Heap) : enter cx 120 n0 34 e H = enterK [0, 1, 12] 0 n0 e H := rfl
@[simp] theorem en120_35 [MaxL] [TxtC] (n0 : Nat) (e : Env) (H : Heap) : enter cx 120 n0 35 e H = enterK [0, 1, 12, 13] 0 n0 e H := rfl
@[simp] theorem en120_36 [MaxL] [TxtC] (n0 : Nat) (e : Env) (H : Heap) : enter cx 120 n0 36 e H = enterK [0, 1, 12] 0 n0 e H := rfl
@[simp] theorem en120_37 [MaxL] [TxtC] (n0 : Nat) (e : Env) (H : Heap) : enter cx 120 n0 37 e H = enterK [12] 0 n0 e H := rfl
@[simp] theorem en120_38 [MaxL] [TxtC] (n0 : Nat) (e : Env) (H : Heap) : enter cx 120 n0 38 e H = enterK [0, 1, 12] 0 n0 e H := rfl
@[simp] theorem en120_39 [MaxL] [TxtC] (n0 : Nat) (e : Env) (H : Heap) : enter cx 120 n0 39 e H = enterK [0, 1, 12] 0 n0 e H := rfl
@[simp] theorem en120_40 [MaxL] [TxtC] (n0 : Nat) (e : Env) (H : Heap) : enter cx 120 n0 40 e H = enterK [0, 1, 11, 12, 13] 0 n0 e H := rfl
@[simp] theorem en120_41 [MaxL] [TxtC] (n0 : Nat) (e : Env) (H : Heap) : enter cx 120 n0 41 e H = enterK [0, 1, 11, 12, 13] 0 n0 e H := rfl
@[simp] theorem en120_42 [MaxL] [TxtC] (n0 : Nat) (e : Env) (H : Heap) : enter cx 120 n0 42 e H = enterK [0, 1, 11, 12, 13] 0 n0 e H := rfl
@[simp] theorem en120_43 [MaxL] [TxtC] (n0 : Nat) (e : Env) (H : Heap) : enter cx 120 n0 43 e H = enterK [12] 0 n0 e H := rfl
@[simp] theorem en120_44 [MaxL] [TxtC] (n0 : Nat) (e : Env) (H : Heap) : enter cx 120 n0 44 e H = enterK [0, 1, 11, 12, 13] 0 n0 e H := rfl
@[simp] theorem en120_45 [MaxL] [TxtC] (n0 : Nat) (e : Env) (H : Heap) : enter cx 120 n0 45 e H = enterK [0, 1, 11, 12, 13] 0 n0 e H := rfl
@[simp] theorem en120_46 [MaxL] [TxtC] (n0 : Nat) (e : Env) (H : Heap) : enter cx 120 n0 46 e H = enterK [12] 0 n0 e H := rfl
@[simp] theorem en120_47 [MaxL] [TxtC] (n0 : Nat) (e : Env) (H : Heap) : enter cx 120 n0 47 e H = enterK [0, 1, 11, 12, 13] 0 n0 e H := rfl
@[simp] theorem en120_48 [MaxL] [TxtC] (n0 : Nat) (e : Env) (H : Heap) : enter cx 120 n0 48 e H = enterK [0, 1, 11, 12, 13, 121] 0 n0 e H := rfl
@[simp] theorem en120_49 [MaxL] [TxtC] (n0 : Nat) (e : Env) (H : Heap) : enter cx 120 n0 49 e H = enterK [0, 1, 11, 12, 13, 121, 122] 0 n0 e H := rfl
@[simp] theorem en120_50 [MaxL] [TxtC] (n0 : Nat) (e : Env) (H : Heap) : enter cx 120 n0 50 e H = enterK [0, 1, 11, 12, 13, 15, 121] 0 n0 e H := rfl
@[simp] theorem en120_51 [MaxL] [TxtC] (n0 : Nat) (e : Env) (H : Heap) : enter cx 120 n0 51 e H = enterK [12] 0 n0 e H := rfl
@[simp] theorem en120_52 [MaxL] [TxtC] (n0 : Nat) (e : Env) (H : Heap) : enter cx 120 n0 52 e H = enterK [] 0 n0 e H := rfl
@[simp] theorem en121_0 [MaxL] [TxtC] (n0 : Nat) (e : Env) (H : Heap) : enter cx 121 n0 0 e H = enterK [0, 1] 0 n0 e H := rfl
@[simp] theorem en121_1 [MaxL] [TxtC] (n0 : Nat) (e : Env) (H : Heap) : enter cx 121 n0 1 e H = enterK [0, 1] 0 n0 e H := rfl
@[simp] theorem en121_2 [MaxL] [TxtC] (n0 : Nat) (e : Env) (H : Heap) : enter cx 121 n0 2 e H = enterK [] 0 n0 e H := rfl
@[simp] theorem en121_3 [MaxL] [TxtC] (n0 : Nat) (e : Env) (H : Heap) : enter cx 121 n0 3 e H = enterK [0, 1] 0 n0 e H := rfl
@[simp] theorem en122_0 [MaxL] [TxtC] (n0 : Nat) (e : Env) (H : Heap) : enter cx 122 n0 0 e H = enterK [0] 0 n0 e H := rfl
@[simp] theorem en122_1 [MaxL] [TxtC] (n0 : Nat) (e : Env) (H : Heap) : enter cx 122 n0 1 e H = enterK [0] 0 n0 e H := rfl
@[simp] theorem en122_2 [MaxL] [TxtC] (n0 : Nat) (e : Env) (H : Heap) : enter cx 122 n0 2 e H = enterK [0, 3] 0 n0 e H := rfl
@[simp] theorem en122_3 [MaxL] [TxtC] (n0 : Nat) (e : Env) (H : Heap) : enter cx 122 n0 3 e H = enterK [0, 3] 0 n0 e H := rfl
@[simp] theorem en122_4 [MaxL] [TxtC] (n0 : Nat) (e : Env) (H : Heap) : enter cx 122 n0 4 e H = enterK [0, 3] 0 n0 e H := rfl
@[simp] theorem en122_5 [MaxL] [TxtC] (n0 : Nat) (e : Env) (H : Heap) : enter cx 122 n0 5 e H = enterK [3] 0 n0 e H := rfl
@[simp] theorem en122_6 [MaxL] [TxtC] (n0 : Nat) (e : Env) (H : Heap) : enter cx 122 n0 6 e H = enterK [] 0 n0 e H := rfl
@[simp] theorem en123_0 [MaxL] [TxtC] (n0 : Nat) (e : Env) (H : Heap) : enter cx 123 n0 0 e H = enterK [0] 0 n0 e H := rfl
@[simp] theorem en123_1 [MaxL] [TxtC] (n0 : Nat) (e : Env) (H : Heap) : enter cx 123 n0 1 e H = enterK [0] 0 n0 e H := rfl
@[simp] theorem en123_2 [MaxL] [TxtC] (n0 : Nat) (e : Env) (H : Heap) : enter cx 123 n0 2 e H = enterK [0, 3] 0 n0 e H := rfl
@[simp] theorem en123_3 [MaxL] [TxtC] (n0 : Nat) (e : Env) (H : Heap) : enter cx 123 n0 3 e H = enterK [0, 3, 4] 0 n0 e H := rfl
@[simp] theorem en123_4 [MaxL] [TxtC] (n0 : Nat) (e : Env) (H : Heap) : enter cx 123 n0 4 e H = enterK [0, 3, 4] 0 n0 e H := rfl
@[simp] theorem en123_5 [MaxL] [TxtC] (n0 : Nat) (e : Env) (H : Heap) : enter cx 123 n0 5 e H = enterK [0, 3, 4] 0 n0 e H := rfl
@[simp] theorem en123_6 [MaxL] [TxtC] (n0 : Nat) (e : Env) (H : Heap) : enter cx 123 n0 6 e H = enterK [0, 3, 4] 0 n0 e H := rfl
@[simp] theorem en123_7 [MaxL] [TxtC] (n0 : Nat) (e : Env) (H : Heap) : enter cx 123 n0 7 e H = enterK [3] 0 n0 e H := rfl
@[simp] theorem en124_0 [MaxL] [TxtC] (n0 : Nat) (e : Env) (H : Heap) : enter cx 124 n0 0 e H = enterK [0] 0 n0 e H := rfl
@[simp] theorem en124_1 [MaxL] [TxtC] (n0 : Nat) (e : Env) (H : Heap) : enter cx 124 n0 1 e H = enterK [0] 0 n0 e H := rfl
@[simp] theorem en124_2 [MaxL] [TxtC] (n0 : Nat) (e : Env) (H : Heap) : enter cx 124 n0 2 e H = enterK [0, 3] 0 n0 e H := rfl
@[simp] theorem en124_3 [MaxL] [TxtC] (n0 : Nat) (e : Env) (H : Heap) : enter cx 124 n0 3 e H = enterK [0, 3, 4, 5] 0 n0 e H := rfl
@[simp] theorem en124_4 [MaxL] [TxtC] (n0 : Nat) (e : Env) (H : Heap) : enter cx 124 n0 4 e H = enterK [4, 5] 0 n0 e H := rfl
@[simp] theorem en124_5 [MaxL] [TxtC] (n0 : Nat) (e : Env) (H : Heap) : enter cx 124 n0 5 e H = enterK [0, 3, 4, 5] 0 n0 e H := rfl
@[simp] theorem en124_6 [MaxL] [TxtC] (n0 : Nat) (e : Env) (H : Heap) : enter cx 124 n0 6 e H = enterK [0, 3, 4, 5, 6] 0 n0 e H := rfl
@[simp] theorem en124_7 [MaxL] [TxtC] (n0 : Nat) (e : Env) (H : Heap) : enter cx 124 n0 7 e H = enterK [0, 3, 4, 5, 6] 0 n0 e H := rfl
@[simp] theorem en124_8 [MaxL] [TxtC] (n0 : Nat) (e : Env) (H : Heap) : enter cx 124 n0 8 e H = enterK [0, 3, 4, 5, 6] 0 n0 e H := rfl
@[simp] theorem en124_9 [MaxL] [TxtC] (n0 : Nat) (e : Env) (H : Heap) : enter cx 124 n0 9 e H = enterK [0, 3, 4, 5, 6] 0 n0 e H := rfl
@[simp] theorem en124_10 [MaxL] [TxtC] (n0 : Nat) (e : Env) (H : Heap) : enter cx 124 n0 10 e H = enterK [0, 3, 4, 5, 6] 0 n0 e H := rfl
@[simp] theorem en124_11 [MaxL] [TxtC] (n0 : Nat) (e : Env) (H : Heap) : enter cx 124 n0 11 e H = enterK [0, 3, 4, 5, 6] 0 n0 e H := rfl
@[simp] theorem en124_12 [MaxL] [TxtC] (n0 : Nat) (e : Env) (H : Heap) : enter cx 124 n0 12 e H = enterK [0, 3, 4, 5, 6] 0 n0 e H := rfl
@[simp] theorem en124_13 [MaxL] [TxtC] (n0 : Nat) (e : Env) (H : Heap) : enter cx 124 n0 13 e H = enterK [0, 3, 4, 5, 6] 0 n0 e H := rfl
@[simp] theorem en124_14 [MaxL] [TxtC] (n0 : Nat) (e : Env) (H : Heap) : enter cx 124 n0 14 e H = enterK [0, 3, 4, 5, 6] 0 n0 e H := rfl
@[simp] theorem en124_15 [MaxL] [TxtC] (n0 : Nat) (e : Env) (H : Heap) : enter cx 124 n0 15 e H = enterK [0, 3, 4, 5, 6] 0 n0 e H := rfl
@[simp] theorem en124_16 [MaxL] [TxtC] (n0 : Nat) (e : Env) (H : Heap) : enter cx 124 n0 16 e H = enterK [0, 3, 4, 5, 6] 0 n0 e H := rfl
@[simp] theorem en124_17 [MaxL] [TxtC] (n0 : Nat) (e : Env) (H : Heap) : enter cx 124 n0 17 e H = enterK [0, 3, 4, 5, 6] 0 n0 e H := rfl
@[simp] theorem en124_18 [MaxL] [TxtC] (n0 : Nat) (e : Env) (H : Heap) : enter cx 124 n0 18 e H = enterK [0, 3, 4, 5, 6] 0 n0 e H := rfl
@[simp] theorem en124_19 [MaxL] [TxtC] (n0 : Nat) (e : Env) (H : Heap) : enter cx 124 n0 19 e H = enterK [0, 3, 4, 5, 6] 0 n0 e H := rfl
@[simp] theorem en124_20 [MaxL] [TxtC] (n0 : Nat) (e : Env) (H : Heap) : enter cx 124 n0 20 e H = enterK [0, 3, 4, 5, 6] 0 n0 e H := rfl
@[simp] theorem en124_21 [MaxL] [TxtC] (n0 : Nat) (e : Env) (H : Heap) : enter cx 124 n0 21 e H = enterK [0, 3, 4, 5, 6] 0 n0 e H := rfl
@[simp] theorem en124_22 [MaxL] [TxtC] (n0 : Nat) (e : Env) (H : Heap) : enter cx 124 n0 22 e H = enterK [0, 3, 4, 5, 6] 0 n0 e H := rfl
@[simp] theorem en124_23 [MaxL] [TxtC] (n0 : Nat) (e : Env) (H : Heap) : enter cx 124 n0 23 e H = enterK [0, 3, 4, 5, 6] 0 n0 e H := rfl
@[simp] theorem en124_24 [MaxL] [TxtC] (n0 : Nat) (e : Env) (H : Heap) : enter cx 124 n0 24 e H = enterK [0, 3, 4, 5, 6] 0 n0 e H := rfl
@[simp] theorem en124_25 [MaxL] [TxtC] (n0 : Nat) (e : Env) (H : Heap) : enter cx 124 n0 25 e H = enterK [0, 3, 4, 5, 6] 0 n0 e H := rfl
@[simp] theorem en124_26 [MaxL] [TxtC] (n0 : Nat) (e : Env) (H : Heap) : enter cx 124 n0 26 e H = enterK [0, 3, 4, 5, 6] 0 n0 e H := rfl
@[simp] theorem en124_27 [MaxL] [TxtC] (n0 : Nat) (e : Env) (H : Heap) : enter cx 124 n0 27 e H = enterK [0, 3, 4, 5, 6] 0 n0 e H := rfl
@[simp] theorem en124_28 [MaxL] [TxtC] (n0 : Nat) (e : Env) (H : Heap) : enter cx 124 n0 28 e H = enterK [3, 4, 5] 0 n0 e H := rfl
@[simp] theorem en124_29 [MaxL] [TxtC] (n0 : Nat) (e : Env) (H : Heap) : enter cx 124 n0 29 e H = enterK [3, 4, 5] 0 n0 e H := rfl
@[simp] theorem en124_30 [MaxL] [TxtC] (n0 : Nat) (e : Env) (H : Heap) : enter cx 124 n0 30 e H = enterK [3, 4, 5] 0 n0 e H := rfl
@[simp] theorem en124_31 [MaxL] [TxtC] (n0 : Nat) (e : Env) (H : Heap) : enter cx 124 n0 31 e H = enterK [3, 4, 5] 0 n0 e H := rfl
@[simp] theorem en124_32 [MaxL] [TxtC] (n0 : Nat) (e : Env) (H : Heap) : enter cx 124 n0 32 e H = enterK [3, 4, 5] 0 n0 e H := rfl
@[simp] theorem en124_33 [MaxL] [TxtC] (n0 : Nat) (e : Env) (H : Heap) : enter cx 124 n0 33 e H = enterK [3, 4, 5] 0 n0 e H := rfl
@[simp] theorem en124_34 [MaxL] [TxtC] (n0 : Nat) (e : Env) (H : Heap) : enter cx 124 n0 34 e H = enterK [3, 4, 5] 0 n0 e H := rfl
@[simp] theorem en124_35 [MaxL] [TxtC] (n0 : Nat) (e : Env) (H : Heap) : enter cx 124 n0 35 e H = enterK [3, 4, 5] 0 n0 e H := rfl
@[simp] theorem en124_36 [MaxL] [TxtC] (n0 : Nat) (e : Env) (H : Heap) : enter cx 124 n0 36 e H = enterK [3, 4, 5] 0 n0 e H := rfl
@[simp] theorem en124_37 [MaxL] [TxtC] (n0 : Nat) (e : Env) (H : Heap) : enter cx 124 n0 37 e H = enterK [3, 4, 5] 0 n0 e H := rfl
@[simp] theorem en124_38 [MaxL] [TxtC] (n0 : Nat) (e : Env) (H : Heap) : enter cx 124 n0 38 e H = enterK [3, 4, 5] 0 n0 e H := rfl
@[simp] theorem en124_39 [MaxL] [TxtC] (n0 : Nat) (e : Env) (H : Heap) : enter cx 124 n0 39 e H = enterK [3, 4, 5] 0 n0 e H := rfl
@[simp] theorem en124_40 [MaxL] [TxtC] (n0 : Nat) (e : Env) (H : Heap) : enter cx 124 n0 40 e H = enterK [4, 5] 0 n0 e H := rfl
@[simp] theorem en124_41 [MaxL] [TxtC] (n0 : Nat) (e : Env) (H : Heap) : enter cx 124 n0 41 e H = enterK [4, 5] 0 n0 e H := rfl
@[simp] theorem en124_42 [MaxL] [TxtC] (n0 : Nat) (e : Env) (H : Heap) : enter cx 124 n0 42 e H = enterK [4, 5] 0 n0 e H := rfl
@[simp] theorem en130_0 [MaxL] [TxtC] (n0 : Nat) (e : Env) (H : Heap) : enter cx 130 n0 0 e H = enterK [0] 0 n0 e H := rfl
@[simp] theorem en130_1 [MaxL] [TxtC] (n0 : Nat) (e : Env) (H : Heap) : enter cx 130 n0 1 e H = enterK [0] 0 n0 e H := rfl
@[simp] theorem en130_2 [MaxL] [TxtC] (n0 : Nat) (e : Env) (H : Heap) : enter cx 130 n0 2 e H = enterK [0, 3] 0 n0 e H := rfl
@[simp] theorem en131_0 [MaxL] [TxtC] (n0 : Nat) (e : Env) (H : Heap) : enter cx 131 n0 0 e H = enterK [0, 1] 0 n0 e H := rfl
@[simp] theorem en131_1 [MaxL] [TxtC] (n0 : Nat) (e : Env) (H : Heap) : enter cx 131 n0 1 e H = enterK [0, 1, 4] 0 n0 e H := rfl
@[simp] theorem en131_2 [MaxL] [TxtC] (n0 : Nat) (e : Env) (H : Heap) : enter cx 131 n0 2 e H = enterK [0, 1, 4] 0 n0 e H := rfl
@[simp] theorem en131_3 [MaxL] [TxtC] (n0 : Nat) (e : Env) (H : Heap) : enter cx 131 n0 3 e H = enterK [0, 1, 4, 5] 0 n0 e H := rfl
@[simp] theorem en131_4 [MaxL] [TxtC] (n0 : Nat) (e : Env) (H : Heap) : enter cx 131 n0 4 e H = enterK [0, 1, 4, 5] 0 n0 e H := rfl
@[simp] theorem en131_5 [MaxL] [TxtC] (n0 : Nat) (e : Env) (H : Heap) : enter cx 131 n0 5 e H = enterK [0, 1, 4, 6, 7] 0 n0 e H := rfl
@[simp] theorem en131_6 [MaxL] [TxtC] (n0 : Nat) (e : Env) (H : Heap) : enter cx 131 n0 6 e H = enterK [0, 1, 4, 6, 8, 9] 0 n0 e H := rfl
@[simp] theorem en131_7 [MaxL] [TxtC] (n0 : Nat) (e : Env) (H : Heap) : enter cx 131 n0 7 e H = enterK [0, 1, 4, 8, 9, 10, 11] 0 n0 e H := rfl
@[simp] theorem en131_8 [MaxL] [TxtC] (n0 : Nat) (e : Env) (H : Heap) : enter cx 131 n0 8 e H = enterK [0, 1, 4, 8, 10, 11] 0 n0 e H := rfl
@[simp] theorem en131_9 [MaxL] [TxtC] (n0 : Nat) (e : Env) (H : Heap) : enter cx 131 n0 9 e H = enterK [0, 1, 4, 10, 11] 0 n0 e H := rfl
@[simp] theorem en131_10 [MaxL] [TxtC] (n0 : Nat) (e : Env) (H : Heap) : enter cx 131 n0 10 e H = enterK [0, 1, 4, 10] 0 n0 e H := rfl
@[simp] theorem en131_11 [MaxL] [TxtC] (n0 : Nat) (e : Env) (H : Heap) : enter cx 131 n0 11 e H = enterK [0, 1, 4] 0 n0 e H := rfl
@[simp] theorem en131_12 [MaxL] [TxtC] (n0 : Nat) (e : Env) (H : Heap) : enter cx 131 n0 12 e H = enterK [0, 1, 4] 0 n0 e H := rfl
@[simp] theorem en131_13 [MaxL] [TxtC] (n0 : Nat) (e : Env) (H : Heap) : enter cx 131 n0 13 e H = enterK [0, 4, 12] 0 n0 e H := rfl
@[simp] theorem en131_14 [MaxL] [TxtC] (n0 : Nat) (e : Env) (H : Heap) : enter cx 131 n0 14 e H = enterK [0, 4, 12] 0 n0 e H := rfl
@[simp] theorem en131_15 [MaxL] [TxtC] (n0 : Nat) (e : Env) (H : Heap) : enter cx 131 n0 15 e H = enterK [0, 4, 12, 13] 0 n0 e H := rfl
@[simp] theorem en131_16 [MaxL] [TxtC] (n0 : Nat) (e : Env) (H : Heap) : enter cx 131 n0 16 e H = enterK [0, 4, 12, 13] 0 n0 e H := rfl
@[simp] theorem en131_17 [MaxL] [TxtC] (n0 : Nat) (e : Env) (H : Heap) : enter cx 131 n0 17 e H = enterK [0, 4, 12, 14, 15] 0 n0 e H := rfl
@[simp] theorem en131_18 [MaxL] [TxtC] (n0 : Nat) (e : Env) (H : Heap) : enter cx 131 n0 18 e H = enterK [0, 4, 12, 14] 0 n0 e H := rfl
@[simp] theorem en131_19 [MaxL] [TxtC] (n0 : Nat) (e : Env) (H : Heap) : enter cx 131 n0 19 e H = enterK [0, 4, 12] 0 n0 e H := rfl
@[simp] theorem en131_20 [MaxL] [TxtC] (n0 : Nat) (e : Env) (H : Heap) : enter cx 131 n0 20 e H = enterK [0, 4, 12] 0 n0 e H := rfl
@[simp] theorem en131_21 [MaxL] [TxtC] (n0 : Nat) (e : Env) (H : Heap) : enter cx 131 n0 21 e H = enterK [0, 4, 12] 0 n0 e H := rfl
@[simp] theorem en131_22 [MaxL] [TxtC] (n0 : Nat) (e : Env) (H : Heap) : enter cx 131 n0 22 e H = enterK [0, 4, 12, 16] 0 n0 e H := rfl
@[simp] theorem en131_23 [MaxL] [TxtC] (n0 : Nat) (e : Env) (H : Heap) : enter cx 131 n0 23 e H = enterK [0, 4, 12, 16] 0 n0 e H := rfl
@[simp] theorem en131_24 [MaxL] [TxtC] (n0 : Nat) (e : Env) (H : Heap) : enter cx 131 n0 24 e H = enterK [0, 4, 12] 0 n0 e H := rfl
@[simp] theorem en131_25 [MaxL] [TxtC] (n0 : Nat) (e : Env) (H : Heap) : enter cx 131 n0 25 e H = enterK [0, 4, 12] 0 n0 e H := rfl
@[simp] theorem en131_26 [MaxL] [TxtC] (n0 : Nat) (e : Env) (H : Heap) : enter cx 131 n0 26 e H = enterK [0, 12] 0 n0 e H := rfl
@[simp] theorem en132_0 [MaxL] [TxtC] (n0 : Nat) (e : Env) (H : Heap) : enter cx 132 n0 0 e H = enterK [0, 1, 2, 3, 4] 0 n0 e H := rfl
@[simp] theorem en132_1 [MaxL] [TxtC] (n0 : Nat) (e : Env) (H : Heap) : enter cx 132 n0 1 e H = enterK [0, 1, 2, 3, 4, 10, 11] 0 n0 e H := rfl
@[simp] theorem en132_2 [MaxL] [TxtC] (n0 : Nat) (e : Env) (H : Heap) : enter cx 132 n0 2 e H = enterK [0, 1, 2, 3, 4, 10, 11] 0 n0 e H := rfl
@[simp] theorem en132_3 [MaxL] [TxtC] (n0 : Nat) (e : Env) (H : Heap) : enter cx 132 n0 3 e H = enterK [0, 1, 2, 3, 4, 10, 11] 0 n0 e H := rfl
@[simp] theorem en132_4 [MaxL] [TxtC] (n0 : Nat) (e : Env) (H : Heap) : enter cx 132 n0 4 e H = enterK [0, 1, 2, 3, 4, 10, 11, 12] 0 n0 e H := rfl
@[simp] theorem en132_5 [MaxL] [TxtC] (n0 : Nat) (e : Env) (H : Heap) : enter cx 132 n0 5 e H = enterK [0, 1, 2, 3, 4, 10, 11, 12, 13] 0 n0 e H := rfl
@[simp] theorem en132_6 [MaxL] [TxtC] (n0 : Nat) (e : Env) (H : Heap) : enter cx 132 n0 6 e H = enterK [0, 1, 2, 3, 4, 10, 11, 12, 13] 0 n0 e H := rfl
@[simp] theorem en132_7 [MaxL] [TxtC] (n0 : Nat) (e : Env) (H : Heap) : enter cx 132 n0 7 e H = enterK [0, 1, 2, 3, 4, 10, 11, 12, 13] 0 n0 e H := rfl
@[simp] theorem en132_8 [MaxL] [TxtC] (n0 : Nat) (e : Env) (H : Heap) : enter cx 132 n0 8 e H = enterK [0, 1, 2, 3, 4, 10, 11, 12, 13] 0 n0 e H := rfl
@[simp] theorem en132_9 [MaxL] [TxtC] (n0 : Nat) (e : Env) (H : Heap) : enter cx 132 n0 9 e H = enterK [0, 1, 2, 3, 4, 10, 11, 12, 13, 14] 0 n0 e H := rfl
@[simp] theorem en132_10 [MaxL] [TxtC] (n0 : Nat) (e : Env) (H : Heap) : enter cx 132 n0 10 e H = enterK [0, 1, 2, 3, 4, 10, 11, 12, 13, 14, 15] 0 n0 e H := rfl
@[simp] theorem en132_11 [MaxL] [TxtC] (n0 : Nat) (e : Env) (H : Heap) : enter cx 132 n0 11 e H = enterK [0, 1, 3, 4, 10, 11, 12, 13, 14, 15, 16] 0 n0 e H := rfl
@[simp] theorem en132_12 [MaxL] [TxtC] (n0 : Nat) (e : Env) (H : Heap) : enter cx 132 n0 12 e H = enterK [0, 1, 3, 4, 10, 11, 12, 13, 14, 15, 16] 0 n0 e H := rfl
@[simp] theorem en132_13 [MaxL] [TxtC] (n0 : Nat) (e : Env) (H : Heap) : enter cx 132 n0 13 e H = enterK [0, 1, 3, 4, 10, 11, 12, 13, 14, 15, 16] 0 n0 e H := rfl
@[simp] theorem en132_14 [MaxL] [TxtC] (n0 : Nat) (e : Env) (H : Heap) : enter cx 132 n0 14 e H = enterK [0, 1, 3, 4, 10, 11, 12, 13, 14, 15, 16] 0 n0 e H := rfl
@[simp] theorem en132_15 [MaxL] [TxtC] (n0 : Nat) (e : Env) (H : Heap) : enter cx 132 n0 15 e H = enterK [0, 1, 3, 4, 10, 11, 12, 13] 0 n0 e H := rfl
@[simp] theorem en132_16 [MaxL] [TxtC] (n0 : Nat) (e : Env) (H : Heap) : enter cx 132 n0 16 e H = enterK [0, 1, 3, 4, 10, 11, 12, 13] 0 n0 e H := rfl
@[simp] theorem en132_17 [MaxL] [TxtC] (n0 : Nat) (e : Env) (H : Heap) : enter cx 132 n0 17 e H = enterK [0, 1, 2, 3, 4, 10, 11, 12, 13] 0 n0 e H := rfl
@[simp] theorem en132_18 [MaxL] [TxtC] (n0 : Nat) (e : Env) (H : Heap) : enter cx 132 n0 18 e H = enterK [0, 1, 3, 4, 10, 11, 12, 13, 17] 0 n0 e H := rfl
@[simp] theorem en132_19 [MaxL] [TxtC] (n0 : Nat) (e : Env) (H : Heap) : enter cx 132 n0 19 e H = enterK [0, 1, 3, 4, 10, 11, 12, 13, 17] 0 n0 e H := rfl
@[simp] theorem en132_20 [MaxL] [TxtC] (n0 : Nat) (e : Env) (H : Heap) : enter cx 132 n0 20 e H = enterK [0, 1, 3, 4, 10, 11, 12, 13, 17] 0 n0 e H := rfl
@[simp] theorem en132_21 [MaxL] [TxtC] (n0 : Nat) (e : Env) (H : Heap) : enter cx 132 n0 21 e H = enterK [0, 1, 3, 4, 10, 11, 12, 13, 17, 18] 0 n0 e H := rfl
@[simp] theorem en132_22 [MaxL] [TxtC] (n0 : Nat) (e : Env) (H : Heap) : enter cx 132 n0 22 e H = enterK [0, 3, 4, 10, 11, 12, 13, 17, 18] 0 n0 e H := rfl
@[simp] theorem en132_23 [MaxL] [TxtC] (n0 : Nat) (e : Env) (H : Heap) : enter cx 132 n0 23 e H = enterK [0, 1, 3, 4, 10, 11, 12, 13] 0 n0 e H := rfl
@[simp] theorem en132_24 [MaxL] [TxtC] (n0 : Nat) (e : Env) (H : Heap) : enter cx 132 n0 24 e H = enterK [0, 1, 3, 4, 10, 11, 12, 13] 0 n0 e H := rfl
@[simp] theorem en132_25 [MaxL] [TxtC] (n0 : Nat) (e : Env) (H : Heap) : enter cx 132 n0 25 e H = enterK [0, 3, 4, 10, 11, 12, 13] 0 n0 e H := rfl
@[simp] theorem en132_26 [MaxL] [TxtC] (n0 : Nat) (e : Env) (H : Heap) : enter cx 132 n0 26 e H = enterK [0, 4, 10, 11, 12, 13] 0 n0 e H := rfl
@[simp] theorem en132_27 [MaxL] [TxtC] (n0 : Nat) (e : Env) (H : Heap) : enter cx 132 n0 27 e H = enterK [0, 4, 10, 11, 12, 13] 0 n0 e H := rfl
@[simp] theorem en132_28 [MaxL] [TxtC] (n0 : Nat) (e : Env) (H : Heap) : enter cx 132 n0 28 e H = enterK [0, 4, 10, 11, 12, 13] 0 n0 e H := rfl
@[simp] theorem en132_29 [MaxL] [TxtC] (n0 : Nat) (e : Env) (H : Heap) : enter cx 132 n0 29 e H = enterK [0, 11, 12, 13] 0 n0 e H := rfl
@[simp] theorem en132_30 [MaxL] [TxtC] (n0 : Nat) (e : Env) (H : Heap) : enter cx 132 n0 30 e H = enterK [10, 12, 13] 0 n0 e H := rfl
@[simp] theorem en133_0 [MaxL] [TxtC] (n0 : Nat) (e : Env) (H : Heap) : enter cx 133 n0 0 e H = enterK [0, 1] 0 n0 e H := rfl
@[simp] theorem en133_1 [MaxL] [TxtC] (n0 : Nat) (e : Env) (H : Heap) : enter cx 133 n0 1 e H = enterK [0, 1, 4] 0 n0 e H := rfl
@[simp] theorem en133_2 [MaxL] [TxtC] (n0 : Nat) (e : Env) (H : Heap) : enter cx 133 n0 2 e H = enterK [0, 1, 4, 6] 0 n0 e H := rfl
@[simp] theorem en133_3 [MaxL] [TxtC] (n0 : Nat) (e : Env) (H : Heap) : enter cx 133 n0 3 e H = enterK [0, 4, 6, 8] 0 n0 e H := rfl
@[simp] theorem en133_4 [MaxL] [TxtC] (n0 : Nat) (e : Env) (H : Heap) : enter cx 133 n0 4 e H = enterK [0, 6, 8] 0 n0 e H := rfl
@[simp] theorem en133_5 [MaxL] [TxtC] (n0 : Nat) (e : Env) (H : Heap) : enter cx 133 n0 5 e H = enterK [0, 8] 0 n0 e H := rfl
@[simp] theorem en134_0 [MaxL] [TxtC] (n0 : Nat) (e : Env) (H : Heap) : enter cx 134 n0 0 e H = enterK [0] 0 n0 e H := rfl
@[simp] theorem en134_1 [MaxL] [TxtC] (n0 : Nat) (e : Env) (H : Heap) : enter cx 134 n0 1 e H = enterK [0, 2, 3, 4] 0 n0 e H := rfl
@[simp] theorem en134_2 [MaxL] [TxtC] (n0 : Nat) (e : Env) (H : Heap) : enter cx 134 n0 2 e H = enterK [0, 2, 3, 4] 0 n0 e H := rfl
@[simp] theorem en134_3 [MaxL] [TxtC] (n0 : Nat) (e : Env) (H : Heap) : enter cx 134 n0 3 e H = enterK [0, 2, 3, 4] 0 n0 e H := rfl
@[simp] theorem en134_4 [MaxL] [TxtC] (n0 : Nat) (e : Env) (H : Heap) : enter cx 134 n0 4 e H = enterK [0, 2, 3, 4] 0 n0 e H := rfl
@[simp] theorem en134_5 [MaxL] [TxtC] (n0 : Nat) (e : Env) (H : Heap) : enter cx 134 n0 5 e H = enterK [0, 2, 3, 4] 0 n0 e H := rfl
@[simp] theorem en134_6 [MaxL] [TxtC] (n0 : Nat) (e : Env) (H : Heap) : enter cx 134 n0 6 e H = enterK [0, 2, 3, 4] 0 n0 e H := rfl
@[simp] theorem en134_7 [MaxL] [TxtC] (n0 : Nat) (e : Env) (H : Heap) : enter cx 134 n0 7 e H = enterK [0, 2, 3, 4] 0 n0 e H := rfl
@[simp] theorem en134_8 [MaxL] [TxtC] (n0 : Nat) (e : Env) (H : Heap) : enter cx 134 n0 8 e H = enterK [0, 2, 3, 4] 0 n0 e H := rfl
@[simp] theorem en134_9 [MaxL] [TxtC] (n0 : Nat) (e : Env) (H : Heap) : enter cx 134 n0 9 e H = enterK [0, 2, 3, 4] 0 n0 e H := rfl
@[simp] theorem en134_10 [MaxL] [TxtC] (n0 : Nat) (e : Env) (H : Heap) : enter cx 134 n0 10 e H = enterK [0, 2, 3, 4] 0 n0 e H := rfl
@[simp] theorem en134_11 [MaxL] [TxtC] (n0 : Nat) (e : Env) (H : Heap) : enter cx 134 n0 11 e H = enterK [0, 2, 3, 4] 0 n0 e H := rfl
@[simp] theorem en134_12 [MaxL] [TxtC] (n0 : Nat) (e : Env) (H : Heap) : enter cx 134 n0 12 e H = enterK [0, 2, 3, 4] 0 n0 e H := rfl
@[simp] theorem en134_13 [MaxL] [TxtC] (n0 : Nat) (e : Env) (H : Heap) : enter cx 134 n0 13 e H = enterK [0, 2, 3, 4] 0 n0 e H := rfl
@[simp] theorem en134_14 [MaxL] [TxtC] (n0 : Nat) (e : Env) (H : Heap) : enter cx 134 n0 14 e H = enterK [0, 2, 3, 4] 0 n0 e H := rfl
@[simp] theorem en134_15 [MaxL] [TxtC] (n0 : Nat) (e : Env) (H : Heap) : enter cx 134 n0 15 e H = enterK [0, 2, 3, 4] 0 n0 e H := rfl
@[simp] theorem en134_16 [MaxL] [TxtC] (n0 : Nat) (e : Env) (H : Heap) : enter cx 134 n0 16 e H = enterK [0, 2, 3, 4] 0 n0 e H := rfl
@[simp] theorem en134_17 [MaxL] [TxtC] (n0 : Nat) (e : Env) (H : Heap) : enter cx 134 n0 17 e H = enterK [0, 2, 3, 4] 0 n0 e H := rfl
@[simp] theorem en134_18 [MaxL] [TxtC] (n0 : Nat) (e : Env) (H : Heap) : enter cx 134 n0 18 e H = enterK [0, 2, 3, 4] 0 n0 e H := rfl
@[simp] theorem en134_19 [MaxL] [TxtC] (n0 : Nat) (e : Env) (H : Heap) : enter cx 134 n0 19 e H = enterK [0, 2, 3, 4] 0 n0 e H := rfl
@[simp] theorem en135_0 [MaxL] [TxtC] (n0 : Nat) (e : Env) (H : Heap) : enter cx 135 n0 0 e H = enterK [0] 0 n0 e H := rfl
@[simp] theorem en135_1 [MaxL] [TxtC] (n0 : Nat) (e : Env) (H : Heap) : enter cx 135 n0 1 e H = enterK [0, 2, 3, 4] 0 n0 e H := rfl
@[simp] theorem en135_2 [MaxL] [TxtC] (n0 : Nat) (e : Env) (H : Heap) : enter cx 135 n0 2 e H = enterK [0, 2, 3, 4] 0 n0 e H := rfl
@[simp] theorem en135_3 [MaxL] [TxtC] (n0 : Nat) (e : Env) (H : Heap) : enter cx 135 n0 3 e H = enterK [0, 2, 3, 4] 0 n0 e H := rfl
@[simp] theorem en135_4 [MaxL] [TxtC] (n0 : Nat) (e : Env) (H : Heap) : enter cx 135 n0 4 e H = enterK [0, 2, 3, 4] 0 n0 e H := rfl
@[simp] theorem en135_5 [MaxL] [TxtC] (n0 : Nat) (e : Env) (H : Heap) : enter cx 135 n0 5 e H = enterK [0, 2, 3, 4] 0 n0 e H := rfl
@[simp] theorem en135_6 [MaxL] [TxtC] (n0 : Nat) (e : Env) (H : Heap) : enter cx 135 n0 6 e H = enterK [0, 2, 3, 4] 0 n0 e H := rfl
@[simp] theorem en135_7 [MaxL] [TxtC] (n0 : Nat) (e : Env) (H : Heap) : enter cx 135 n0 7 e H = enterK [0, 2, 3, 4] 0 n0 e H := rfl
@[simp] theorem en135_8 [MaxL] [TxtC] (n0 : Nat) (e : Env) (H : Heap) : enter cx 135 n0 8 e H = enterK [0, 2, 3, 4] 0 n0 e H := rfl
@[simp] theorem en135_9 [MaxL] [TxtC] (n0 : Nat) (e : Env) (H : Heap) : enter cx 135 n0 9 e H = enterK [0, 2, 3, 4] 0 n0 e H := rfl
@[simp] theorem en135_10 [MaxL] [TxtC] (n0 : Nat) (e : Env) (H : Heap) : enter cx 135 n0 10 e H = enterK [0, 2, 3, 4] 0 n0 e H := rfl
@[simp] theorem en135_11 [MaxL] [TxtC] (n0 : Nat) (e : Env) (H : Heap) : enter cx 135 n0 11 e H = enterK [0, 2, 3, 4] 0 n0 e H := rfl
@[simp] theorem en135_12 [MaxL] [TxtC] (n0 : Nat) (e : Env) (H : Heap) : enter cx 135 n0 12 e H = enterK [0, 2, 3, 4] 0 n0 e H := rfl
@[simp] theorem en135_13 [MaxL] [TxtC] (n0 : Nat) (e : Env) (H : Heap) : enter cx 135 n0 13 e H = enterK [0, 2, 3, 4] 0 n0 e H := rfl
@[simp] theorem en135_14 [MaxL] [TxtC] (n0 : Nat) (e : Env) (H : Heap) : enter cx 135 n0 14 e H = enterK [0, 2, 3, 4] 0 n0 e H := rfl
@[simp] theorem en135_15 [MaxL] [TxtC] (n0 : Nat) (e : Env) (H : Heap) : enter cx 135 n0 15 e H = enterK [0, 2, 3, 4] 0 n0 e H := rfl
@[simp] theorem en138_0 [MaxL] [TxtC] (n0 : Nat) (e : Env) (H : Heap) : enter cx 138 n0 0 e H = enterK [0, 1] 0 n0 e H := rfl
@[simp] theorem en138_1 [MaxL] [TxtC] (n0 : Nat) (e : Env) (H : Heap) : enter cx 138 n0 1 e H = enterK [0, 1] 0 n0 e H := rfl
@[simp] theorem en138_2 [MaxL] [TxtC] (n0 : Nat) (e : Env) (H : Heap) : enter cx 138 n0 2 e H = enterK [0, 1] 0 n0 e H := rfl
@[simp] theorem en138_3 [MaxL] [TxtC] (n0 : Nat) (e : Env) (H : Heap) : enter cx 138 n0 3 e H = enterK [0] 0 n0 e H := rfl
@[simp] theorem en139_0 [MaxL] [TxtC] (n0 : Nat) (e : Env) (H : Heap) : enter cx 139 n0 0 e H = enterK [0] 0 n0 e H := rfl
@[simp] theorem en139_1 [MaxL] [TxtC] (n0 : Nat) (e : Env) (H : Heap) : enter cx 139 n0 1 e H = enterK [0] 0 n0 e H := rfl
@[simp] theorem en141_0 [MaxL] [TxtC] (n0 : Nat) (e : Env) (H : Heap) : enter cx 141 n0 0 e H = enterK [0, 1] 0 n0 e H := rfl
@[simp] theorem en141_1 [MaxL] [TxtC] (n0 : Nat) (e : Env) (H : Heap) : enter cx 141 n0 1 e H = enterK [0, 1] 0 n0 e H := rfl
@[simp] theorem en142_0 [MaxL] [TxtC] (n0 : Nat) (e : Env) (H : Heap) : enter cx 142 n0 0 e H = enterK [0, 1] 0 n0 e H := rfl
@[simp] theorem en142_1 [MaxL] [TxtC] (n0 : Nat) (e : Env) (H : Heap) : enter cx 142 n0 1 e H = enterK [0, 1] 0 n0 e H := rfl
@[simp] theorem en145_0 [MaxL] [TxtC] (n0 : Nat) (e : Env) (H : Heap) : enter cx 145 n0 0 e H = enterK [0, 1] 0 n0 e H := rfl
@[simp] theorem en145_1 [MaxL] [TxtC] (n0 : Nat) (e : Env) (H : Heap) : enter cx 145 n0 1 e H = enterK [0, 1] 0 n0 e H := rfl
@[simp] theorem en148_0 [MaxL] [TxtC] (n0 : Nat) (e : Env) (H : Heap) : enter cx 148 n0 0 e H = enterK [0] 0 n0 e H := rfl
@[simp] theorem en148_1 [MaxL] [TxtC] (n0 : Nat) (e : Env) (H : Heap) : enter cx 148 n0 1 e H = enterK [0] 0 n0 e H := rfl
@[simp] theorem en150_0 [MaxL] [TxtC] (n0 : Nat) (e : Env) (H : Heap) : enter cx 150 n0 0 e H = enterK [0, 1] 0 n0 e H := rfl
@[simp] theorem en150_1 [MaxL] [TxtC] (n0 : Nat) (e : Env) (H : Heap) : enter cx 150 n0 1 e H = enterK [0, 1] 0 n0 e H := rfl
@[simp] theorem en153_0 [MaxL] [TxtC] (n0 : Nat) (e : Env) (H : Heap) : enter cx 153 n0 0 e H = enterK [0, 1] 0 n0 e H := rfl
@[simp] theorem en153_1 [MaxL] [TxtC] (n0 : Nat) (e : Env) (H : Heap) : enter cx 153 n0 1 e H = enterK [0, 1] 0 n0 e H := rfl
@[simp] theorem en153_2 [MaxL] [TxtC] (n0 : Nat) (e : Env) (H : Heap) : enter cx 153 n0 2 e H = enterK [0, 1, 5] 0 n0 e H := rfl
@[simp] theorem en153_3 [MaxL] [TxtC] (n0 : Nat) (e : Env) (H : Heap) : enter cx 153 n0 3 e H = enterK [0, 1, 5, 6] 0 n0 e H := rfl
@[simp] theorem en153_4 [MaxL] [TxtC] (n0 : Nat) (e : Env) (H : Heap) : enter cx 153 n0 4 e H = enterK [0, 1, 5, 6] 0 n0 e H := rfl
@[simp] theorem en153_5 [MaxL] [TxtC] (n0 : Nat) (e : Env) (H : Heap) : enter cx 153 n0 5 e H = enterK [0, 1, 5, 6] 0 n0 e H := rfl
@[simp] theorem en153_6 [MaxL] [TxtC] (n0 : Nat) (e : Env) (H : Heap) : enter cx 153 n0 6 e H = enterK [0, 1, 5, 6] 0 n0 e H := rfl
@[simp] theorem en153_7 [MaxL] [TxtC] (n0 : Nat) (e : Env) (H : Heap) : enter cx 153 n0 7 e H = enterK [0, 1, 5, 6] 0 n0 e H := rfl
@[simp] theorem en153_8 [MaxL] [TxtC] (n0 : Nat) (e : Env) (H : Heap) : enter cx 153 n0 8 e H = enterK [5] 0 n0 e H := rfl
@[simp] theorem en154_0 [MaxL] [TxtC] (n0 : Nat) (e : Env) (H : Heap) : enter cx 154 n0 0 e H = enterK [0, 1] 0 n0 e H := rfl
@[simp] theorem en154_1 [MaxL] [TxtC] (n0 : Nat) (e : Env) (H : Heap) : enter cx 154 n0 1 e H = enterK [0, 1] 0 n0 e H := rfl
@[simp] theorem en155_0 [MaxL] [TxtC] (n0 : Nat) (e : Env) (H : Heap) : enter cx 155 n0 0 e H = enterK [0] 0 n0 e H := rfl
@[simp] theorem en155_1 [MaxL] [TxtC] (n0 : Nat) (e : Env) (H : Heap) : enter cx 155 n0 1 e H = enterK [0] 0 n0 e H := rfl
@[simp] theorem en157_0 [MaxL] [TxtC] (n0 : Nat) (e : Env) (H : Heap) : enter cx 157 n0 0 e H = enterK [0] 0 n0 e H := rfl
@[simp] theorem en157_1 [MaxL] [TxtC] (n0 : Nat) (e : Env) (H : Heap) : enter cx 157 n0 1 e H = enterK [0] 0 n0 e H := rfl
@[simp] theorem en157_2 [MaxL] [TxtC] (n0 : Nat) (e : Env) (H : Heap) : enter cx 157 n0 2 e H = enterK [] 0 n0 e H := rfl
@[simp] theorem en157_3 [MaxL] [TxtC] (n0 : Nat) (e : Env) (H : Heap) : enter cx 157 n0 3 e H = enterK [] 0 n0 e H := rfl
@[simp] theorem en160_0 [MaxL] [TxtC] (n0 : Nat) (e : Env) (H : Heap) : enter cx 160 n0 0 e H = enterK [0, 1] 0 n0 e H := rfl
@[simp] theorem en160_1 [MaxL] [TxtC] (n0 : Nat) (e : Env) (H : Heap) : enter cx 160 n0 1 e H = enterK [0, 1] 0 n0 e H := rfl
@[simp] theorem en160_2 [MaxL] [TxtC] (n0 : Nat) (e : Env) (H : Heap) : enter cx 160 n0 2 e H = enterK [0, 5] 0 n0 e H := rfl
@[simp] theorem en161_0 [MaxL] [TxtC] (n0 : Nat) (e : Env) (H : Heap) : enter cx 161 n0 0 e H = enterK [0, 1] 0 n0 e H := rfl
@[simp] theorem en161_1 [MaxL] [TxtC] (n0 : Nat) (e : Env) (H : Heap) : enter cx 161 n0 1 e H = enterK [0, 1] 0 n0 e H := rfl
@[simp] theorem en167_0 [MaxL] [TxtC] (n0 : Nat) (e : Env) (H : Heap) : enter cx 167 n0 0 e H = enterK [0, 1] 0 n0 e H := rfl
@[simp] theorem en167_1 [MaxL] [TxtC] (n0 : Nat) (e : Env) (H : Heap) : enter cx 167 n0 1 e H = enterK [0, 1] 0 n0 e H := rfl
end Go.Ev.S
namespace Go.Ev.S
open Go Go.Proofs Go.Ev
@[simp] theorem sz2 : szOf Tryz.prog 2 = 1 := by kernel_rfl
@[simp] theorem ag2 : aggQ Tryz.prog 2 = some false := by kernel_rfl
@[simp] theorem by2 : bytesOf Tryz.prog 2 = 8 := by kernel_rfl
@[simp] theorem zo2 : zeroOf Tryz.prog 2 = some (.int .i64 0) := by kernel_rfl
@[simp] theorem cq2 : cmpQ Tryz.prog 2 = true := by kernel_rfl
@[simp] theorem un2 : Tryz.prog.underlying 2 = some (.int .i64) := by kernel_rfl
@[simp] theorem sz3 : szOf Tryz.prog 3 = 1 := by kernel_rfl
@[simp] theorem ag3 : aggQ Tryz.prog 3 = some false := by kernel_rfl
@[simp] theorem by3 : bytesOf Tryz.prog 3 = 8 := by kernel_rfl
@[simp] theorem zo3 : zeroOf Tryz.prog 3 = some (.int .i64 0) := by kernel_rfl
@[simp] theorem cq3 : cmpQ Tryz.prog 3 = true := by kernel_rfl
@[simp] theorem un3 : Tryz.prog.underlying 3 = some (.int .i64) := by kernel_rfl
@[simp] theorem sz4 : szOf Tryz.prog 4 = 1 := by kernel_rfl
@[simp] theorem ag4 : aggQ Tryz.prog 4 = some false := by kernel_rfl
@[simp] theorem by4 : bytesOf Tryz.prog 4 = 1 := by kernel_rfl
@[simp] theorem zo4 : zeroOf Tryz.prog 4 = some (.bool false) := by kernel_rfl
@[simp] theorem un4 : Tryz.prog.underlying 4 = some .bool := by kernel_rfl
@[simp] theorem sz5 : szOf Tryz.prog 5 = 1 := by kernel_rfl
@[simp] theorem ag5 : aggQ Tryz.prog 5 = some false := by kernel_rfl
@[simp] theorem by5 : bytesOf Tryz.prog 5 = 1 := by kernel_rfl
@[simp] theorem zo5 : zeroOf Tryz.prog 5 = some (.int .u8 0) := by kernel_rfl
@[simp] theorem cq5 : cmpQ Tryz.prog 5 = true := by kernel_rfl
@[simp] theorem un5 : Tryz.prog.underlying 5 = some (.int .u8) := by kernel_rfl
@[simp] theorem sz9 : szOf Tryz.prog 9 = 1 := by kernel_rfl
@[simp] theorem ag9 : aggQ Tryz.prog 9 = some false := by kernel_rfl
@[simp] theorem by9 : bytesOf Tryz.prog 9 = 16 := by kernel_rfl
@[simp] theorem zo9 : zeroOf Tryz.prog 9 = some (.str []) := by kernel_rfl
@[simp] theorem un9 : Tryz.prog.underlying 9 = some .string := by kernel_rfl
@[simp] theorem sz21 : szOf Tryz.prog 21 = 1 := by kernel_rfl
@[simp] theorem ag21 : aggQ Tryz.prog 21 = some false := by kernel_rfl
@[simp] theorem by21 : bytesOf Tryz.prog 21 = 4 := by kernel_rfl
@[simp] theorem zo21 : zeroOf Tryz.prog 21 = some (.int .i32 0) := by kernel_rfl
@[simp] theorem cq21 : cmpQ Tryz.prog 21 = true := by kernel_rfl
@[simp] theorem un21 : Tryz.prog.underlying 21 = some (.int .i32) := by kernel_rfl
@[simp] theorem sz22 : szOf Tryz.prog 22 = 16 := by kernel_rfl
@[simp] theorem ag22 : aggQ Tryz.prog 22 = some true := by kernel_rfl
@[simp] theorem by22 : bytesOf Tryz.prog 22 = 16 := by kernel_rfl
@[simp] theorem zo22 : zeroOf Tryz.prog 22 = some (.agg [.int .u8 0, .int .u8 0, .int .u8 0, .int .u8 0, .int .u8 0, .int .u8 0, .int .u8 0, .int .u8 0, .int .u8 0, .int .u8 0, .int .u8 0, .int .u8 0, .int .u8 0, .int .u8 0, .int .u8 0, .int .u8 0]) := by kernel_rfl
@[simp] theorem un22 : Tryz.prog.underlying 22 = some (.array 16 5) := by kernel_rfl
@[simp] theorem sz23 : szOf Tryz.prog 23 = 16 := by kernel_rfl
@[simp] theorem ag23 : aggQ Tryz.prog 23 = some true := by kernel_rfl
@[simp] theorem by23 : bytesOf Tryz.prog 23 = 16 := by kernel_rfl
@[simp] theorem zo23 : zeroOf Tryz.prog 23 = some (.agg [.int .u8 0, .int .u8 0, .int .u8 0, .int .u8 0, .int .u8 0, .int .u8 0, .int .u8 0, .int .u8 0, .int .u8 0, .int .u8 0, .int .u8 0, .int .u8 0, .int .u8 0, .int .u8 0, .int .u8 0, .int .u8 0]) := by kernel_rfl
@[simp] theorem un23 : Tryz.prog.underlying 23 = some (.array 16 5) := by kernel_rfl
@[simp] theorem sz24 : szOf Tryz.prog 24 = 1 := by kernel_rfl
@[simp] theorem ag24 : aggQ Tryz.prog 24 = some false := by kernel_rfl
@[simp] theorem by24 : bytesOf Tryz.prog 24 = 8 := by kernel_rfl
@[simp] theorem zo24 : zeroOf Tryz.prog 24 = some (.int .u64 0) := by kernel_rfl
@[simp] theorem cq24 : cmpQ Tryz.prog 24 = true := by kernel_rfl
@[simp] theorem un24 : Tryz.prog.underlying 24 = some (.int .u64) := by kernel_rfl
@[simp] theorem sz25 : szOf Tryz.prog 25 = 1 := by kernel_rfl
@[simp] theorem ag25 : aggQ Tryz.prog 25 = some false := by kernel_rfl
@[simp] theorem by25 : bytesOf Tryz.prog 25 = 24 := by kernel_rfl
@[simp] theorem zo25 : zeroOf Tryz.prog 25 = some (.vsl true [] 0) := by kernel_rfl
@[simp] theorem un25 : Tryz.prog.underlying 25 = some (.slice 70) := by kernel_rfl
@[simp] theorem sz26 : szOf Tryz.prog 26 = 20 := by kernel_rfl
@[simp] theorem ag26 : aggQ Tryz.prog 26 = some true := by kernel_rfl
@[simp] theorem by26 : bytesOf Tryz.prog 26 = 64 := by kernel_rfl
@[simp] theorem zo26 : zeroOf Tryz.prog 26 = some (.agg [.int .u64 0, .int .u64 0, .int .u64 0, .int .u8 0, .int .u8 0, .int .u8 0, .int .u8 0, .int .u8 0, .int .u8 0, .int .u8 0, .int .u8 0, .int .u8 0, .int .u8 0, .int .u8 0, .int .u8 0, .int .u8 0, .int .u8 0, .int .u8 0, .int .u8 0, .vsl true [] 0]) := by kernel_rfl
attribute [simp] Tryz.underlying26
@[simp] theorem sz27 : szOf Tryz.prog 27 = 20 := by kernel_rfl
@[simp] theorem ag27 : aggQ Tryz.prog 27 = some true := by kernel_rfl
@[simp] theorem by27 : bytesOf Tryz.prog 27 = 64 := by kernel_rfl
@[simp] theorem zo27 : zeroOf Tryz.prog 27 = some (.agg [.int .u64 0, .int .u64 0, .int .u64 0, .int .u8 0, .int .u8 0, .int .u8 0, .int .u8 0, .int .u8 0, .int .u8 0, .int .u8 0, .int .u8 0, .int .u8 0, .int .u8 0, .int .u8 0, .int .u8 0, .int .u8 0, .int .u8 0, .int .u8 0, .int .u8 0, .vsl true [] 0]) := by kernel_rfl
attribute [simp] Tryz.underlying27
@[simp] theorem sz28 : szOf Tryz.prog 28 = 39 := by kernel_rfl
@[simp] theorem ag28 : aggQ Tryz.prog 28 = some true := by kernel_rfl
@[simp] theorem by28 : bytesOf Tryz.prog 28 = 104 := by kernel_rfl
@[simp] theorem zo28 : zeroOf Tryz.prog 28 = some (.agg [.int .u8 0, .int .u8 0, .int .u8 0, .int .u8 0, .int .u8 0, .int .u8 0, .int .u8 0, .int .u8 0, .int .u8 0, .int .u8 0, .int .u8 0, .int .u8 0, .int .u8 0, .int .u8 0, .int .u8 0, .int .u8 0, .bool false, .int .u64 0, .int .u64 0, .int .u64 0, .int .u64 0, .int .u64 0, .int .u8 0, .int .u8 0, .int .u8 0, .int .u8 0, .int .u8 0, .int .u8 0, .int .u8 0, .int .u8 0, .int .u8 0, .int .u8 0, .int .u8 0, .int .u8 0, .int .u8 0, .int .u8 0, .int .u8 0, .int .u8 0, .vsl true [] 0]) := by kernel_rfl
attribute [simp] Tryz.underlying28
@[simp] theorem sz29 : szOf Tryz.prog 29 = 39 := by kernel_rfl
@[simp] theorem ag29 : aggQ Tryz.prog 29 = some true := by kernel_rfl
@[simp] theorem by29 : bytesOf Tryz.prog 29 = 104 := by kernel_rfl
@[simp] theorem zo29 : zeroOf Tryz.prog 29 = some (.agg [.int .u8 0, .int .u8 0, .int .u8 0, .int .u8 0, .int .u8 0, .int .u8 0, .int .u8 0, .int .u8 0, .int .u8 0, .int .u8 0, .int .u8 0, .int .u8 0, .int .u8 0, .int .u8 0, .int .u8 0, .int .u8 0, .bool false, .int .u64 0, .int .u64 0, .int .u64 0, .int .u64 0, .int .u64 0, .int .u8 0, .int .u8 0, .int .u8 0, .int .u8 0, .int .u8 0, .int .u8 0, .int .u8 0, .int .u8 0, .int .u8 0, .int .u8 0, .int .u8 0, .int .u8 0, .int .u8 0, .int .u8 0, .int .u8 0, .int .u8 0, .vsl true [] 0]) := by kernel_rfl
attribute [simp] Tryz.underlying29
@[simp] theorem sz30 : szOf Tryz.prog 30 = 1 := by kernel_rfl
@[simp] theorem ag30 : aggQ Tryz.prog 30 = some false := by kernel_rfl
@[simp] theorem by30 : bytesOf Tryz.prog 30 = 24 := by kernel_rfl
@[simp] theorem zo30 : zeroOf Tryz.prog 30 = some (.vsl true [] 0) := by kernel_rfl
@[simp] theorem un30 : Tryz.prog.underlying 30 = some (.slice 3) := by kernel_rfl
@[simp] theorem sz31 : szOf Tryz.prog 31 = 1 := by kernel_rfl
@[simp] theorem ag31 : aggQ Tryz.prog 31 = some false := by kernel_rfl
@[simp] theorem by31 : bytesOf Tryz.prog 31 = 24 := by kernel_rfl
@[simp] theorem zo31 : zeroOf Tryz.prog 31 = some (.vsl true [] 0) := by kernel_rfl
@[simp] theorem un31 : Tryz.prog.underlying 31 = some (.slice 5) := by kernel_rfl
@[simp] theorem sz34 : szOf Tryz.prog 34 = 1 := by kernel_rfl
@[simp] theorem ag34 : aggQ Tryz.prog 34 = some false := by kernel_rfl
@[simp] theorem by34 : bytesOf Tryz.prog 34 = 24 := by kernel_rfl
@[simp] theorem zo34 : zeroOf Tryz.prog 34 = some (.vsl true [] 0) := by kernel_rfl
@[simp] theorem un34 : Tryz.prog.underlying 34 = some (.slice 29) := by kernel_rfl
@[simp] theorem sz36 : szOf Tryz.prog 36 = 1 := by kernel_rfl
@[simp] theorem ag36 : aggQ Tryz.prog 36 = some false := by kernel_rfl
@[simp] theorem by36 : bytesOf Tryz.prog 36 = 8 := by kernel_rfl
@[simp] theorem zo36 : zeroOf Tryz.prog 36 = some (.nilp) := by kernel_rfl
@[simp] theorem un36 : Tryz.prog.underlying 36 = some (.pointer 38) := by kernel_rfl
@[simp] theorem sz37 : szOf Tryz.prog 37 = 2 := by kernel_rfl
@[simp] theorem ag37 : aggQ Tryz.prog 37 = some true := by kernel_rfl
@[simp] theorem by37 : bytesOf Tryz.prog 37 = 32 := by kernel_rfl
@[simp] theorem zo37 : zeroOf Tryz.prog 37 = some (.agg [.vsl true [] 0, .int .i64 0]) := by kernel_rfl
attribute [simp] Tryz.underlying37
@[simp] theorem sz38 : szOf Tryz.prog 38 = 2 := by kernel_rfl
@[simp] theorem ag38 : aggQ Tryz.prog 38 = some true := by kernel_rfl
@[simp] theorem by38 : bytesOf Tryz.prog 38 = 32 := by kernel_rfl
@[simp] theorem zo38 : zeroOf Tryz.prog 38 = some (.agg [.vsl true [] 0, .int .i64 0]) := by kernel_rfl
attribute [simp] Tryz.underlying38
@[simp] theorem sz51 : szOf Tryz.prog 51 = 19 := by kernel_rfl
@[simp] theorem ag51 : aggQ Tryz.prog 51 = some true := by kernel_rfl
@[simp] theorem by51 : bytesOf Tryz.prog 51 = 40 := by kernel_rfl
@[simp] theorem zo51 : zeroOf Tryz.prog 51 = some (.agg [.int .u8 0, .int .u8 0, .int .u8 0, .int .u8 0, .int .u8 0, .int .u8 0, .int .u8 0, .int .u8 0, .int .u8 0, .int .u8 0, .int .u8 0, .int .u8 0, .int .u8 0, .int .u8 0, .int .u8 0, .int .u8 0, .int .u64 0, .int .u64 0, .int .u64 0]) := by kernel_rfl
attribute [simp] Tryz.underlying51
@[simp] theorem sz52 : szOf Tryz.prog 52 = 19 := by kernel_rfl
@[simp] theorem ag52 : aggQ Tryz.prog 52 = some true := by kernel_rfl
@[simp] theorem by52 : bytesOf Tryz.prog 52 = 40 := by kernel_rfl
@[simp] theorem zo52 : zeroOf Tryz.prog 52 = some (.agg [.int .u8 0, .int .u8 0, .int .u8 0, .int .u8 0, .int .u8 0, .int .u8 0, .int .u8 0, .int .u8 0, .int .u8 0, .int .u8 0, .int .u8 0, .int .u8 0, .int .u8 0, .int .u8 0, .int .u8 0, .int .u8 0, .int .u64 0, .int .u64 0, .int .u64 0]) := by kernel_rfl
attribute [simp] Tryz.underlying52
@[simp] theorem sz53 : szOf Tryz.prog 53 = 1 := by kernel_rfl
@[simp] theorem ag53 : aggQ Tryz.prog 53 = some false := by kernel_rfl
@[simp] theorem by53 : bytesOf Tryz.prog 53 = 24 := by kernel_rfl
@[simp] theorem zo53 : zeroOf Tryz.prog 53 = some (.vsl true [] 0) := by kernel_rfl
@[simp] theorem un53 : Tryz.prog.underlying 53 = some (.slice 52) := by kernel_rfl
@[simp] theorem sz58 : szOf Tryz.prog 58 = 1 := by kernel_rfl
@[simp] theorem ag58 : aggQ Tryz.prog 58 = some false := by kernel_rfl
@[simp] theorem by58 : bytesOf Tryz.prog 58 = 24 := by kernel_rfl
@[simp] theorem zo58 : zeroOf Tryz.prog 58 = some (.vsl true [] 0) := by kernel_rfl
@[simp] theorem un58 : Tryz.prog.underlying 58 = some (.slice 31) := by kernel_rfl
@[simp] theorem sz65 : szOf Tryz.prog 65 = 1 := by kernel_rfl
@[simp] theorem ag65 : aggQ Tryz.prog 65 = some false := by kernel_rfl
@[simp] theorem by65 : bytesOf Tryz.prog 65 = 4 := by kernel_rfl
@[simp] theorem zo65 : zeroOf Tryz.prog 65 = some (.int .u32 0) := by kernel_rfl
@[simp] theorem cq65 : cmpQ Tryz.prog 65 = true := by kernel_rfl
@[simp] theorem un65 : Tryz.prog.underlying 65 = some (.int .u32) := by kernel_rfl
@[simp] theorem sz69 : szOf Tryz.prog 69 = 2 := by kernel_rfl
@[simp] theorem ag69 : aggQ Tryz.prog 69 = some true := by kernel_rfl
@[simp] theorem by69 : bytesOf Tryz.prog 69 = 32 := by kernel_rfl
@[simp] theorem zo69 : zeroOf Tryz.prog 69 = some (.agg [.str [], .str []]) := by kernel_rfl
attribute [simp] Tryz.underlying69
@[simp] theorem sz70 : szOf Tryz.prog 70 = 2 := by kernel_rfl
@[simp] theorem ag70 : aggQ Tryz.prog 70 = some true := by kernel_rfl
@[simp] theorem by70 : bytesOf Tryz.prog 70 = 32 := by kernel_rfl
@[simp] theorem zo70 : zeroOf Tryz.prog 70 = some (.agg [.str [], .str []]) := by kernel_rfl
attribute [simp] Tryz.underlying70
@[simp] theorem sz71 : szOf Tryz.prog 71 = 3 := by kernel_rfl
@[simp] theorem ag71 : aggQ Tryz.prog 71 = some true := by kernel_rfl
@[simp] theorem by71 : bytesOf Tryz.prog 71 = 24 := by kernel_rfl
@[simp] theorem zo71 : zeroOf Tryz.prog 71 = some (.agg [.int .u64 0, .int .u64 0, .int .u64 0]) := by kernel_rfl
@[simp] theorem un71 : Tryz.prog.underlying 71 = some (.array 3 24) := by kernel_rfl
@[simp] theorem sz76 : szOf Tryz.prog 76 = 1 := by kernel_rfl
@[simp] theorem ag76 : aggQ Tryz.prog 76 = some false := by kernel_rfl
@[simp] theorem by76 : bytesOf Tryz.prog 76 = 8 := by kernel_rfl
@[simp] theorem zo76 : zeroOf Tryz.prog 76 = some (.nilp) := by kernel_rfl
@[simp] theorem un76 : Tryz.prog.underlying 76 = some (.pointer 78) := by kernel_rfl
@[simp] theorem sz77 : szOf Tryz.prog 77 = 2 := by kernel_rfl
@[simp] theorem ag77 : aggQ Tryz.prog 77 = some true := by kernel_rfl
@[simp] theorem by77 : bytesOf Tryz.prog 77 = 32 := by kernel_rfl
@[simp] theorem zo77 : zeroOf Tryz.prog 77 = some (.agg [.nilp, .vsl true [] 0]) := by kernel_rfl
attribute [simp] Tryz.underlying77
@[simp] theorem sz78 : szOf Tryz.prog 78 = 2 := by kernel_rfl
@[simp] theorem ag78 : aggQ Tryz.prog 78 = some true := by kernel_rfl
@[simp] theorem by78 : bytesOf Tryz.prog 78 = 32 := by kernel_rfl
@[simp] theorem zo78 : zeroOf Tryz.prog 78 = some (.agg [.nilp, .vsl true [] 0]) := by kernel_rfl
attribute [simp] Tryz.underlying78
@[simp] theorem sz80 : szOf Tryz.prog 80 = 36 := by kernel_rfl
@[simp] theorem ag80 : aggQ Tryz.prog 80 = some true := by kernel_rfl
@[simp] theorem by80 : bytesOf Tryz.prog 80 = 64 := by kernel_rfl
@[simp] theorem zo80 : zeroOf Tryz.prog 80 = some (.agg [.int .u8 0, .int .u8 0, .int .u8 0, .int .u8 0, .int .u8 0, .int .u8 0, .int .u8 0, .int .u8 0, .int .u8 0, .int .u8 0, .int .u8 0, .int .u8 0, .int .u8 0, .int .u8 0, .int .u8 0, .int .u8 0, .int .u64 0, .int .u8 0, .int .u8 0, .int .u8 0, .int .u8 0, .int .u8 0, .int .u8 0, .int .u8 0, .int .u8 0, .int .u8 0, .int .u8 0, .int .u8 0, .int .u8 0, .int .u8 0, .int .u8 0, .int .u8 0, .int .u8 0, .int .u64 0, .int .u64 0, .int .u64 0]) := by kernel_rfl
attribute [simp] Tryz.underlying80
@[simp] theorem sz81 : szOf Tryz.prog 81 = 36 := by kernel_rfl
@[simp] theorem ag81 : aggQ Tryz.prog 81 = some true := by kernel_rfl
@[simp] theorem by81 : bytesOf Tryz.prog 81 = 64 := by kernel_rfl
@[simp] theorem zo81 : zeroOf Tryz.prog 81 = some (.agg [.int .u8 0, .int .u8 0, .int .u8 0, .int .u8 0, .int .u8 0, .int .u8 0, .int .u8 0, .int .u8 0, .int .u8 0, .int .u8 0, .int .u8 0, .int .u8 0, .int .u8 0, .int .u8 0, .int .u8 0, .int .u8 0, .int .u64 0, .int .u8 0, .int .u8 0, .int .u8 0, .int .u8 0, .int .u8 0, .int .u8 0, .int .u8 0, .int .u8 0, .int .u8 0, .int .u8 0, .int .u8 0, .int .u8 0, .int .u8 0, .int .u8 0, .int .u8 0, .int .u8 0, .int .u64 0, .int .u64 0, .int .u64 0]) := by kernel_rfl
attribute [simp] Tryz.underlying81
@[simp] theorem sz83 : szOf Tryz.prog 83 = 1 := by kernel_rfl
@[simp] theorem ag83 : aggQ Tryz.prog 83 = some false := by kernel_rfl
@[simp] theorem by83 : bytesOf Tryz.prog 83 = 24 := by kernel_rfl
@[simp] theorem zo83 : zeroOf Tryz.prog 83 = some (.vsl true [] 0) := by kernel_rfl
@[simp] theorem un83 : Tryz.prog.underlying 83 = some (.slice 9) := by kernel_rfl
@[simp] theorem sz84 : szOf Tryz.prog 84 = 1 := by kernel_rfl
@[simp] theorem ag84 : aggQ Tryz.prog 84 = some false := by kernel_rfl
@[simp] theorem by84 : bytesOf Tryz.prog 84 = 16 := by kernel_rfl
@[simp] theorem zo84 : zeroOf Tryz.prog 84 = some (.nili) := by kernel_rfl
attribute [simp] Tryz.underlying84
@[simp] theorem sz85 : szOf Tryz.prog 85 = 1 := by kernel_rfl
@[simp] theorem ag85 : aggQ Tryz.prog 85 = some false := by kernel_rfl
@[simp] theorem by85 : bytesOf Tryz.prog 85 = 16 := by kernel_rfl
@[simp] theorem zo85 : zeroOf Tryz.prog 85 = some (.nili) := by kernel_rfl
attribute [simp] Tryz.underlying85
@[simp] theorem sz91 : szOf Tryz.prog 91 = 1 := by kernel_rfl
@[simp] theorem ag91 : aggQ Tryz.prog 91 = some false := by kernel_rfl
@[simp] theorem by91 : bytesOf Tryz.prog 91 = 8 := by kernel_rfl
@[simp] theorem zo91 : zeroOf Tryz.prog 91 = some (.nilp) := by kernel_rfl
@[simp] theorem un91 : Tryz.prog.underlying 91 = some (.pointer 93) := by kernel_rfl
@[simp] theorem sz92 : szOf Tryz.prog 92 = 1 := by kernel_rfl
@[simp] theorem ag92 : aggQ Tryz.prog 92 = some true := by kernel_rfl
@[simp] theorem by92 : bytesOf Tryz.prog 92 = 24 := by kernel_rfl
@[simp] theorem zo92 : zeroOf Tryz.prog 92 = some (.agg [.vsl true [] 0]) := by kernel_rfl
attribute [simp] Tryz.underlying92
@[simp] theorem sz93 : szOf Tryz.prog 93 = 1 := by kernel_rfl
@[simp] theorem ag93 : aggQ Tryz.prog 93 = some true := by kernel_rfl
@[simp] theorem by93 : bytesOf Tryz.prog 93 = 24 := by kernel_rfl
@[simp] theorem zo93 : zeroOf Tryz.prog 93 = some (.agg [.vsl true [] 0]) := by kernel_rfl
attribute [simp] Tryz.underlying93
@[simp] theorem sz99 : szOf Tryz.prog 99 = 36 := by kernel_rfl
@[simp] theorem ag99 : aggQ Tryz.prog 99 = some true := by kernel_rfl
@[simp] theorem by99 : bytesOf Tryz.prog 99 = 64 := by kernel_rfl
@[simp] theorem zo99 : zeroOf Tryz.prog 99 = some (.agg [.int .u8 0, .int .u8 0, .int .u8 0, .int .u8 0, .int .u8 0, .int .u8 0, .int .u8 0, .int .u8 0, .int .u8 0, .int .u8 0, .int .u8 0, .int .u8 0, .int .u8 0, .int .u8 0, .int .u8 0, .int .u8 0, .int .u64 0, .int .u8 0, .int .u8 0, .int .u8 0, .int .u8 0, .int .u8 0, .int .u8 0, .int .u8 0, .int .u8 0, .int .u8 0, .int .u8 0, .int .u8 0, .int .u8 0, .int .u8 0, .int .u8 0, .int .u8 0, .int .u8 0, .int .u64 0, .int .u64 0, .int .u64 0]) := by kernel_rfl
attribute [simp] Tryz.underlying99
@[simp] theorem sz114 : szOf Tryz.prog 114 = 1 := by kernel_rfl
@[simp] theorem ag114 : aggQ Tryz.prog 114 = some false := by kernel_rfl
@[simp] theorem by114 : bytesOf Tryz.prog 114 = 8 := by kernel_rfl
@[simp] theorem zo114 : zeroOf Tryz.prog 114 = some (.int .u64 0) := by kernel_rfl
@[simp] theorem cq114 : cmpQ Tryz.prog 114 = true := by kernel_rfl
@[simp] theorem un114 : Tryz.prog.underlying 114 = some (.int .u64) := by kernel_rfl
@[simp] theorem sz125 : szOf Tryz.prog 125 = 1 := by kernel_rfl
@[simp] theorem ag125 : aggQ Tryz.prog 125 = some false := by kernel_rfl
@[simp] theorem by125 : bytesOf Tryz.prog 125 = 8 := by kernel_rfl
@[simp] theorem zo125 : zeroOf Tryz.prog 125 = some (.nilp) := by kernel_rfl
@[simp] theorem un125 : Tryz.prog.underlying 125 = some (.pointer 24) := by kernel_rfl
@[simp] theorem sz126 : szOf Tryz.prog 126 = 2 := by kernel_rfl
@[simp] theorem ag126 : aggQ Tryz.prog 126 = some true := by kernel_rfl
@[simp] theorem by126 : bytesOf Tryz.prog 126 = 24 := by kernel_rfl
@[simp] theorem zo126 : zeroOf Tryz.prog 126 = some (.agg [.str [], .nilp]) := by kernel_rfl
attribute [simp] Tryz.underlying126
@[simp] theorem sz127 : szOf Tryz.prog 127 = 1 := by kernel_rfl
@[simp] theorem ag127 : aggQ Tryz.prog 127 = some false := by kernel_rfl
@[simp] theorem by127 : bytesOf Tryz.prog 127 = 24 := by kernel_rfl
@[simp] theorem zo127 : zeroOf Tryz.prog 127 = some (.vsl true [] 0) := by kernel_rfl
@[simp] theorem un127 : Tryz.prog.underlying 127 = some (.slice 126) := by kernel_rfl
@[simp] theorem sz141 : szOf Tryz.prog 141 = 5 := by kernel_rfl
@[simp] theorem ag141 : aggQ Tryz.prog 141 = some true := by kernel_rfl
@[simp] theorem by141 : bytesOf Tryz.prog 141 = 5 := by kernel_rfl
@[simp] theorem zo141 : zeroOf Tryz.prog 141 = some (.agg [.bool false, .bool false, .bool false, .bool false, .bool false]) := by kernel_rfl
@[simp] theorem un141 : Tryz.prog.underlying 141 = some (.array 5 4) := by kernel_rfl
@[simp] theorem sz147 : szOf Tryz.prog 147 = 1 := by kernel_rfl
@[simp] theorem ag147 : aggQ Tryz.prog 147 = some false := by kernel_rfl
@[simp] theorem by147 : bytesOf Tryz.prog 147 = 24 := by kernel_rfl
@[simp] theorem zo147 : zeroOf Tryz.prog 147 = some (.vsl true [] 0) := by kernel_rfl
@[simp] theorem un147 : Tryz.prog.underlying 147 = some (.slice 24) := by kernel_rfl
@[simp] theorem sz167 : szOf Tryz.prog 167 = 24 := by kernel_rfl
@[simp] theorem ag167 : aggQ Tryz.prog 167 = some true := by kernel_rfl
@[simp] theorem by167 : bytesOf Tryz.prog 167 = 24 := by kernel_rfl
@[simp] theorem zo167 : zeroOf Tryz.prog 167 = some (.agg [.int .u8 0, .int .u8 0, .int .u8 0, .int .u8 0, .int .u8 0, .int .u8 0, .int .u8 0, .int .u8 0, .int .u8 0, .int .u8 0, .int .u8 0, .int .u8 0, .int .u8 0, .int .u8 0, .int .u8 0, .int .u8 0, .int .u8 0, .int .u8 0, .int .u8 0, .int .u8 0, .int .u8 0, .int .u8 0, .int .u8 0, .int .u8 0]) := by kernel_rfl
@[simp] theorem un167 : Tryz.prog.underlying 167 = some (.array 24 5) := by kernel_rfl
@[simp] theorem sz172 : szOf Tryz.prog 172 = 3 := by kernel_rfl
@[simp] theorem ag172 : aggQ Tryz.prog 172 = some true := by kernel_rfl
@[simp] theorem by172 : bytesOf Tryz.prog 172 = 12 := by kernel_rfl
@[simp] theorem zo172 : zeroOf Tryz.prog 172 = some (.agg [.int .u32 0, .int .u32 0, .int .u32 0]) := by kernel_rfl
attribute [simp] Tryz.underlying172
@[simp] theorem sz173 : szOf Tryz.prog 173 = 3 := by kernel_rfl
@[simp] theorem ag173 : aggQ Tryz.prog 173 = some true := by kernel_rfl
@[simp] theorem by173 : bytesOf Tryz.prog 173 = 12 := by kernel_rfl
@[simp] theorem zo173 : zeroOf Tryz.prog 173 = some (.agg [.int .u32 0, .int .u32 0, .int .u32 0]) := by kernel_rfl
attribute [simp] Tryz.underlying173
@[simp] theorem sz175 : szOf Tryz.prog 175 = 12 := by kernel_rfl
@[simp] theorem ag175 : aggQ Tryz.prog 175 = some true := by kernel_rfl
@[simp] theorem by175 : bytesOf Tryz.prog 175 = 12 := by kernel_rfl
@[simp] theorem zo175 : zeroOf Tryz.prog 175 = some (.agg [.int .u8 0, .int .u8 0, .int .u8 0, .int .u8 0, .int .u8 0, .int .u8 0, .int .u8 0, .int .u8 0, .int .u8 0, .int .u8 0, .int .u8 0, .int .u8 0]) := by kernel_rfl
@[simp] theorem un175 : Tryz.prog.underlying 175 = some (.array 12 5) := by kernel_rfl
@[simp] theorem sz177 : szOf Tryz.prog 177 = 1 := by kernel_rfl
@[simp] theorem ag177 : aggQ Tryz.prog 177 = some false := by kernel_rfl
@[simp] theorem by177 : bytesOf Tryz.prog 177 = 8 := by kernel_rfl
@[simp] theorem zo177 : zeroOf Tryz.prog 177 = some (.int .i64 0) := by kernel_rfl
@[simp] theorem cq177 : cmpQ Tryz.prog 177 = true := by kernel_rfl
@[simp] theorem un177 : Tryz.prog.underlying 177 = some (.int .i64) := by kernel_rfl
@[simp] theorem sz179 : szOf Tryz.prog 179 = 1 := by kernel_rfl
@[simp] theorem ag179 : aggQ Tryz.prog 179 = some false := by kernel_rfl
@[simp] theorem by179 : bytesOf Tryz.prog 179 = 8 := by kernel_rfl
@[simp] theorem zo179 : zeroOf Tryz.prog 179 = some (.nilp) := by kernel_rfl
@[simp] theorem un179 : Tryz.prog.underlying 179 = some (.pointer 202) := by kernel_rfl
@[simp] theorem sz184 : szOf Tryz.prog 184 = 256 := by kernel_rfl
@[simp] theorem ag184 : aggQ Tryz.prog 184 = some true := by kernel_rfl
@[simp] theorem by184 : bytesOf Tryz.prog 184 = 256 := by kernel_rfl
@[simp] theorem zo184 : zeroOf Tryz.prog 184 = some (.agg (List.replicate 256 (.bool false))) := by kernel_rfl
@[simp] theorem un184 : Tryz.prog.underlying 184 = some (.array 256 4) := by kernel_rfl
@[simp] theorem sz185 : szOf Tryz.prog 185 = 256 := by kernel_rfl
@[simp] theorem ag185 : aggQ Tryz.prog 185 = some true := by kernel_rfl
@[simp] theorem by185 : bytesOf Tryz.prog 185 = 256 := by kernel_rfl
@[simp] theorem zo185 : zeroOf Tryz.prog 185 = some (.agg (List.replicate 256 (.bool false))) := by kernel_rfl
@[simp] theorem un185 : Tryz.prog.underlying 185 = some (.array 256 4) := by kernel_rfl
@[simp] theorem sz194 : szOf Tryz.prog 194 = 20 := by kernel_rfl
@[simp] theorem ag194 : aggQ Tryz.prog 194 = some true := by kernel_rfl
@[simp] theorem by194 : bytesOf Tryz.prog 194 = 160 := by kernel_rfl
@[simp] theorem zo194 : zeroOf Tryz.prog 194 = some (.agg [.int .u64 0, .int .u64 0, .int .u64 0, .int .u64 0, .int .u64 0, .int .u64 0, .int .u64 0, .int .u64 0, .int .u64 0, .int .u64 0, .int .u64 0, .int .u64 0, .int .u64 0, .int .u64 0, .int .u64 0, .int .u64 0, .int .u64 0, .int .u64 0, .int .u64 0, .int .u64 0]) := by kernel_rfl
@[simp] theorem un194 : Tryz.prog.underlying 194 = some (.array 20 24) := by kernel_rfl
@[simp] theorem sz195 : szOf Tryz.prog 195 = 65 := by kernel_rfl
@[simp] theorem ag195 : aggQ Tryz.prog 195 = some true := by kernel_rfl
@[simp] theorem by195 : bytesOf Tryz.prog 195 = 65 := by kernel_rfl
@[simp] theorem zo195 : zeroOf Tryz.prog 195 = some (.agg (List.replicate 65 (.int .u8 0))) := by kernel_rfl
@[simp] theorem un195 : Tryz.prog.underlying 195 = some (.array 65 5) := by kernel_rfl
@[simp] theorem sz201 : szOf Tryz.prog 201 = 3 := by kernel_rfl
@[simp] theorem ag201 : aggQ Tryz.prog 201 = some true := by kernel_rfl
@[simp] theorem by201 : bytesOf Tryz.prog 201 = 48 := by kernel_rfl
@[simp] theorem zo201 : zeroOf Tryz.prog 201 = some (.agg [.str [], .str [], .nili]) := by kernel_rfl
attribute [simp] Tryz.underlying201
@[simp] theorem sz202 : szOf Tryz.prog 202 = 3 := by kernel_rfl
@[simp] theorem ag202 : aggQ Tryz.prog 202 = some true := by kernel_rfl
@[simp] theorem by202 : bytesOf Tryz.prog 202 = 48 := by kernel_rfl
@[simp] theorem zo202 : zeroOf Tryz.prog 202 = some (.agg [.str [], .str [], .nili]) := by kernel_rfl
attribute [simp] Tryz.underlying202
@[simp] theorem sz205 : szOf Tryz.prog 205 = 4 := by kernel_rfl
@[simp] theorem ag205 : aggQ Tryz.prog 205 = some true := by kernel_rfl
@[simp] theorem by205 : bytesOf Tryz.prog 205 = 4 := by kernel_rfl
@[simp] theorem zo205 : zeroOf Tryz.prog 205 = some (.agg [.int .u8 0, .int .u8 0, .int .u8 0, .int .u8 0]) := by kernel_rfl
@[simp] theorem un205 : Tryz.prog.underlying 205 = some (.array 4 5) := by kernel_rfl
@[simp] theorem sz211 : szOf Tryz.prog 211 = 1 := by kernel_rfl
@[simp] theorem ag211 : aggQ Tryz.prog 211 = some false := by kernel_rfl
@[simp] theorem by211 : bytesOf Tryz.prog 211 = 8 := by kernel_rfl
@[simp] theorem zo211 : zeroOf Tryz.prog 211 = some (.nilp) := by kernel_rfl
@[simp] theorem un211 : Tryz.prog.underlying 211 = some (.pointer 213) := by kernel_rfl
@[simp] theorem sz212 : szOf Tryz.prog 212 = 1 := by kernel_rfl
@[simp] theorem ag212 : aggQ Tryz.prog 212 = some true := by kernel_rfl
@[simp] theorem by212 : bytesOf Tryz.prog 212 = 16 := by kernel_rfl
@[simp] theorem zo212 : zeroOf Tryz.prog 212 = some (.agg [.str []]) := by kernel_rfl
attribute [simp] Tryz.underlying212
@[simp] theorem sz213 : szOf Tryz.prog 213 = 1 := by kernel_rfl
@[simp] theorem ag213 : aggQ Tryz.prog 213 = some true := by kernel_rfl
@[simp] theorem by213 : bytesOf Tryz.prog 213 = 16 := by kernel_rfl
@[simp] theorem zo213 : zeroOf Tryz.prog 213 = some (.agg [.str []]) := by kernel_rfl
attribute [simp] Tryz.underlying213
@[simp] theorem sz218 : szOf Tryz.prog 218 = 32 := by kernel_rfl
@[simp] theorem ag218 : aggQ Tryz.prog 218 = some true := by kernel_rfl
@[simp] theorem by218 : bytesOf Tryz.prog 218 = 32 := by kernel_rfl
@[simp] theorem zo218 : zeroOf Tryz.prog 218 = some (.agg (List.replicate 32 (.int .u8 0))) := by kernel_rfl
@[simp] theorem un218 : Tryz.prog.underlying 218 = some (.array 32 5) := by kernel_rfl
@[simp] theorem sz219 : szOf Tryz.prog 219 = 64 := by kernel_rfl
@[simp] theorem ag219 : aggQ Tryz.prog 219 = some true := by kernel_rfl
@[simp] theorem by219 : bytesOf Tryz.prog 219 = 64 := by kernel_rfl
@[simp] theorem zo219 : zeroOf Tryz.prog 219 = some (.agg (List.replicate 64 (.int .u8 0))) := by kernel_rfl
@[simp] theorem un219 : Tryz.prog.underlying 219 = some (.array 64 5) := by kernel_rfl
@[simp] theorem pl3 : plainTy Tryz.prog 50 3 = some ([.i]) := by kernel_rfl
@[simp] theorem eg3 : Tryz.prog.eqGuardType Tryz.prog.depth 3 = false := by kernel_rfl
@[simp] theorem pl4 : plainTy Tryz.prog 50 4 = some ([.b]) := by kernel_rfl
@[simp] theorem eg4 : Tryz.prog.eqGuardType Tryz.prog.depth 4 = false := by kernel_rfl
@[simp] theorem pl5 : plainTy Tryz.prog 50 5 = some ([.i]) := by kernel_rfl
@[simp] theorem eg5 : Tryz.prog.eqGuardType Tryz.prog.depth 5 = false := by kernel_rfl
@[simp] theorem pl9 : plainTy Tryz.prog 50 9 = some ([.s]) := by kernel_rfl
@[simp] theorem eg9 : Tryz.prog.eqGuardType Tryz.prog.depth 9 = false := by kernel_rfl
@[simp] theorem pl21 : plainTy Tryz.prog 50 21 = some ([.i]) := by kernel_rfl
@[simp] theorem eg21 : Tryz.prog.eqGuardType Tryz.prog.depth 21 = false := by kernel_rfl
@[simp] theorem pl23 : plainTy Tryz.prog 50 23 = some ([.i, .i, .i, .i, .i, .i, .i, .i, .i, .i, .i, .i, .i, .i, .i, .i]) := by kernel_rfl
@[simp] theorem eg23 : Tryz.prog.eqGuardType Tryz.prog.depth 23 = false := by kernel_rfl
@[simp] theorem pl24 : plainTy Tryz.prog 50 24 = some ([.i]) := by kernel_rfl
@[simp] theorem eg24 : Tryz.prog.eqGuardType Tryz.prog.depth 24 = false := by kernel_rfl
@[simp] theorem pl52 : plainTy Tryz.prog 50 52 = some ([.i, .i, .i, .i, .i, .i, .i, .i, .i, .i, .i, .i, .i, .i, .i, .i, .i, .i, .i]) := by kernel_rfl
@[simp] theorem eg52 : Tryz.prog.eqGuardType Tryz.prog.depth 52 = false := by kernel_rfl
@[simp] theorem pl65 : plainTy Tryz.prog 50 65 = some ([.i]) := by kernel_rfl
@[simp] theorem eg65 : Tryz.prog.eqGuardType Tryz.prog.depth 65 = false := by kernel_rfl
@[simp] theorem pl70 : plainTy Tryz.prog 50 70 = some ([.s, .s]) := by kernel_rfl
@[simp] theorem eg70 : Tryz.prog.eqGuardType Tryz.prog.depth 70 = false := by kernel_rfl
end Go.Ev.S
namespace Go.Ev.S
open Go Go.Proofs Go.Ev
def szOk (n : Int) : Bool := n == 1 || n == 2 || n == 4 || n == 8
theorem lesize_ev [MaxL] [TxtC] (n : Int) : call cx 105 [.int .i64 n] [] = some (.bool (szOk n), []) := by
  refine call_run Tryz.func105 rfl ⟨rfl, rfl⟩ ?_
  unfold szOk
  by_cases h1 : n = 1
  · subst h1; simp [Tryz.f105]
  · by_cases h2 : n = 2
    · subst h2; simp [Tryz.f105]
    · by_cases h3 : n = 4
      · subst h3; simp [Tryz.f105]
      · simp [Tryz.f105, h1, h2, h3]
theorem szOk_le {n : Int} (h : szOk n = true) : 1 ≤ n ∧ n ≤ 8 := by
  simp [szOk] at h
  omega
def leGet (l : List UInt8) (at_ n : Int) : Option Nat :=
  if szOk n = true ∧ 0 ≤ at_ ∧ at_ + n ≤ l.length then some (leN ((l.drop at_.toNat).take n.toNat)) else none
def optN (o : Option Nat) : D := .tup [.int .u64 ((o.getD 0 : Nat) : Int), .bool o.isSome]
theorem bits64 : 2 ^ IntKind.u64.bits = 18446744073709551616 := by simp only [IntKind.bits]
theorem leget_step (x y : Nat) (hy : y < 256) (hx : x * 256 + y < 18446744073709551616) :
    orI .u64 (IntKind.u64.wrap ((x : Int) * 256)) (y : Int) = ((x * 256 + y : Nat) : Int) := by
  have e3 : x * 256 < 2 ^ IntKind.u64.bits := Nat.lt_of_lt_of_eq (Nat.lt_of_le_of_lt (Nat.le_add_right _ _) hx) bits64.symm
  have e4 : y < 2 ^ IntKind.u64.bits := Nat.lt_of_lt_of_eq (Nat.lt_of_lt_of_le hy (by decide)) bits64.symm
  have e1 : IntKind.u64.wrap ((x : Int) * 256) = ((x * 256 : Nat) : Int) := by clear e3 e4; rw [wrap_u64] <;> omega
  rw [e1, orI_nat rfl e3 e4, or_shl x y hy]
set_option maxHeartbeats 1000000 in
theorem leget_ev [MaxL] [TxtC] (s : Sl UInt8) (at_ n : Int) (hat : -9223372036854775808 ≤ at_ ∧ at_ < 9223372036854775808) (hl : s.l.length < 4611686018427387904) :
    call cx 72 [(.vsl s.nil (ofBytes s.l) s.l.length), .int .i64 at_, .int .i64 n] [] = some (optN (leGet s.l at_ n), []) := by
  have hs := lesize_ev n
  refine call_run Tryz.func72 rfl ⟨rfl, rfl⟩ ?_
  cases hz : szOk n with
  | false =>
    rw [hz] at hs
    simp [Tryz.f72, hs, leGet, hz, optN]
  | true =>
    rw [hz] at hs
    have hb := szOk_le hz
    by_cases h0 : at_ < 0
    · have h0' : ¬ 0 ≤ at_ := by omega
      simp [Tryz.f72, hs, leGet, hz, optN, h0, h0']
    · have h0' : 0 ≤ at_ := by omega
      have hw : IntKind.i64.wrap ((s.l.length : Int) - n) = (s.l.length : Int) - n := by rw [wrap_i64]; omega
      by_cases hle : at_ + n ≤ s.l.length
      · have hle' : ¬ ((s.l.length : Int) - n < at_) := by omega
        obtain ⟨a, rfl⟩ : ∃ a : Nat, at_ = a := ⟨at_.toNat, by omega⟩
        obtain ⟨k, rfl⟩ : ∃ k : Nat, n = k := ⟨n.toNat, by omega⟩
        have hw1 : IntKind.i64.wrap ((k : Int) - 1) = (k : Int) - 1 := by rw [wrap_i64]; omega
        have hnn : s.nil = false := Sl.nn (i := a) (by omega)
        simp [Tryz.f72, hs, leGet, hz, optN, h0, h0', hw, hle, hle', hw1, hnn]
        refine Run.loopThen (fun (i : Nat) e H => i ≤ k ∧ H = [] ∧ look e 0 = some (.vsl s.nil (ofBytes s.l) s.l.length) ∧ look e 1 = some (.int .i64 a) ∧ look e 8 = some (.int .u64 (leN ((s.l.drop (a + i)).take (k - i)) : Nat)) ∧ look e 9 = some (.int .i64 ((i : Int) - 1))) (fun i => i) k (by simp [leN, hnn]) ?_
        rintro i e H ⟨hi, rfl, h0, h1, h8, h9⟩
        cases i with
        | zero => simp [h0, h1, h8, h9]
        | succ j =>
          have hj : (0 : Int) ≤ (j : Int) := by omega
          have hwj : IntKind.i64.wrap ((a : Int) + (j : Int)) = ((a + j : Nat) : Int) := by rw [wrap_i64] <;> omega
          have hwk : IntKind.i64.wrap ((j : Int) - 1) = (j : Int) - 1 := by rw [wrap_i64]; omega
          have hlt : a + j < s.l.length := by omega
          have hlt' : ((a + j : Nat) : Int) < (s.l.length : Int) := by omega
          have e1 : ((j + 1 : Nat) : Int) - 1 = (j : Int) := by omega
          rw [e1] at h9
          have hd : (s.l.drop (a + j)).take (k - j) = s.l[a + j] :: (s.l.drop (a + (j + 1))).take (k - (j + 1)) := by
            rw [List.drop_eq_getElem_cons hlt, show k - j = (k - (j + 1)) + 1 by omega, List.take_succ_cons, Nat.add_assoc]
          have hn8 : leN ((s.l.drop (a + (j + 1))).take (k - (j + 1))) < 256 ^ 7 := by
            refine Nat.lt_of_lt_of_le (leN_lt _) (Nat.pow_le_pow_right (by decide) ?_)
            rw [List.length_take]
            omega
          have hst := leget_step (leN ((s.l.drop (a + (j + 1))).take (k - (j + 1)))) s.l[a + j].toNat s.l[a + j].toNat_lt (by have := s.l[a + j].toNat_lt; omega)
          have hwu : IntKind.u64.wrap (s.l[a + j].toNat : Int) = (s.l[a + j].toNat : Int) := by rw [wrap_u64]; have := s.l[a + j].toNat_lt; omega
          have g1 : (0 : Int) ≤ (a : Int) + (j : Int) := by omega
          have g2 : (a : Int) + (j : Int) < (s.l.length : Int) := by omega
          have g3 : ((a : Int) + (j : Int)).toNat = a + j := by omega
          simp [h0, h1, h8, h9, hj, hwj, hwk, hwu, hnn, g1, g2, g3, ofBytes_at hlt, IntKind.bits]
          rw [hst]
          exact ⟨j, by omega, by omega, by rw [hd, leN, Nat.mul_comm, Nat.add_comm], rfl⟩
      · have hle' : (s.l.length : Int) - n < at_ := by omega
        simp [Tryz.f72, hs, leGet, hz, optN, h0, h0', hw, hle, hle']
end Go.Ev.S
namespace Go.Ev
open Go Go.Proofs
section
variable {P : Program} {n : Nat} {t e : TypeId} {cs : List D}
theorem has_bool (hu : P.underlying t = some .bool) (h : HasT P (n + 1) t cs) : ∃ b, cs = [.bool b] := by
  unfold HasT at h; rw [hu] at h; exact h
theorem has_int {k : IntKind} (hu : P.underlying t = some (.int k)) (h : HasT P (n + 1) t cs) : ∃ x, cs = [.int k x] ∧ (Lit.int k x).wf = true := by
  unfold HasT at h; rw [hu] at h; exact h
theorem has_u64 (hu : P.underlying t = some (.int .u64)) (h : HasT P (n + 1) t cs) : ∃ x, cs = [.int .u64 x] ∧ isU64 x := by
  obtain ⟨x, h1, h2⟩ := has_int hu h
  refine ⟨x, h1, ?_⟩
  simp [Lit.wf, IntKind.min, IntKind.max, IntKind.signed, IntKind.bits] at h2
  unfold isU64
  omega
def isI64 (n : Int) : Prop := -9223372036854775808 ≤ n ∧ n < 9223372036854775808
theorem has_i64 (hu : P.underlying t = some (.int .i64)) (h : HasT P (n + 1) t cs) : ∃ x, cs = [.int .i64 x] ∧ isI64 x := by
  obtain ⟨x, h1, h2⟩ := has_int hu h
  refine ⟨x, h1, ?_⟩
  simp [Lit.wf, IntKind.min, IntKind.max, IntKind.signed, IntKind.bits] at h2
  unfold isI64
  omega
theorem has_u8 (hu : P.underlying t = some (.int .u8)) (h : HasT P (n + 1) t cs) : ∃ x : UInt8, cs = [.int .u8 x.toNat] := by
  obtain ⟨x, h1, h2⟩ := has_int hu h
  simp [Lit.wf, IntKind.min, IntKind.max, IntKind.signed, IntKind.bits] at h2
  refine ⟨UInt8.ofNat x.toNat, ?_⟩
  rw [h1, UInt8.toNat_ofNat_of_lt' (by simp; omega)]
  congr 2
  omega
theorem has_str (hu : P.underlying t = some .string) (h : HasT P (n + 1) t cs) : ∃ s, cs = [.str s] ∧ s.length ≤ maxLen := by
  unfold HasT at h; rw [hu] at h; exact h
theorem rows_bytes {e : TypeId} (hu : P.underlying e = some (.int .u8)) : ∀ (ls : List (List D)), (∀ l, l ∈ ls → l.length = P.cellsOf e ∧ HasT P (n + 1) e l) → ∃ s : List UInt8, ls.flatten = ofBytes s ∧ s.length = ls.length
  | [], _ => ⟨[], rfl, rfl⟩
  | l :: ls, h => by
    obtain ⟨x, hx⟩ := has_u8 hu (h l (List.mem_cons_self ..)).2
    obtain ⟨s, h1, h2⟩ := rows_bytes hu ls fun l' hl => h l' (List.mem_cons_of_mem _ hl)
    exact ⟨x :: s, by rw [List.flatten_cons, hx, h1]; rfl, by simp [h2]⟩
theorem has_id (hu : P.underlying t = some (.array 16 e)) (he : P.underlying e = some (.int .u8)) (h : HasT P (n + 2) t cs) : ∃ i : ID, cs = ofBytes i.l := by
  unfold HasT at h
  rw [hu] at h
  obtain ⟨ls, h1, h2, h3⟩ := h
  obtain ⟨s, s1, s2⟩ := rows_bytes he ls h3
  exact ⟨⟨s, by omega⟩, by rw [h1, s1]⟩
theorem rows_enc {α : Type} [Enc α] {R : α → Prop} {Q : List D → Prop} (hel : ∀ l, Q l → ∃ a : α, l = Enc.cells a ∧ R a) : ∀ (ls : List (List D)), (∀ l, l ∈ ls → Q l) → ∃ s : List α, ls.flatten = encs s ∧ s.length = ls.length ∧ ∀ a, a ∈ s → R a
  | [], _ => ⟨[], rfl, rfl, by simp⟩
  | l :: ls, h => by
    obtain ⟨x, hx, hr⟩ := hel l (h l (List.mem_cons_self ..))
    obtain ⟨s, h1, h2, h3⟩ := rows_enc hel ls fun l' hl => h l' (List.mem_cons_of_mem _ hl)
    refine ⟨x :: s, by rw [List.flatten_cons, hx, h1, encs_cons], by simp [h2], fun a ha => ?_⟩
    rcases List.mem_cons.1 ha with rfl | ha
    · exact hr
    · exact h3 a ha
theorem has_slice {α : Type} [Enc α] {R : α → Prop} (hu : P.underlying t = some (.slice e)) (hel : ∀ l, HasT P n e l → ∃ a : α, l = Enc.cells a ∧ R a) (h : HasT P (n + 1) t cs) : ∃ s : Sl α, cs = [(.vsl s.nil (encs s.l) s.l.length)] ∧ s.l.length ≤ maxLen ∧ ∀ a, a ∈ s.l → R a := by
  unfold HasT at h
  rw [hu] at h
  rcases h with rfl | ⟨ls, h1, h2, h3⟩
  · exact ⟨.none, rfl, by simp, by simp⟩
  · obtain ⟨s, s1, s2, s3⟩ := rows_enc hel ls fun l hl => (h3 l hl).2
    exact ⟨.of s, by rw [h1, s1, ← s2]; rfl, by simp only [Sl.of_l]; omega, s3⟩
theorem has_struct {fs : Array Field} (hu : P.underlying t = some (.struct fs)) (h : HasT P (n + 1) t cs) : HasFs P (HasT P n) fs.toList cs := by
  unfold HasT at h; rw [hu] at h; exact h
end
theorem cor_val {W : World} {d : D} {v : Value} (h : Cor W [d] v.cells.toList) (ho : v.oneCell' = true) : Rep (· < W.heap.size) W iota0 [] d v := by
  have hv : v.cells.toList = [v] := by
    cases v <;> first | rfl | simp [Value.oneCell'] at ho
  rw [hv] at h
  exact h.2.2 0 d rfl
theorem cor_agg {W : World} {ds : List D} {vs : Array Value} (h : Cor W ds vs.toList) : Rep (· < W.heap.size) W iota0 [] (.agg ds) (.agg vs) := by
  refine .agg (by simpa using h.1.symm) h.2.1 fun j d hj => ?_
  have := h.2.2 j d hj
  simpa [List.getD_eq_getElem?_getD, Array.getD_eq_getD_getElem?] using this
end Go.Ev
namespace Go.Ev
open Go Go.Proofs
theorem one_int {P : Program} {W : World} {base : Nat} {t : TypeId} {k : IntKind} {v : Value} (hu : P.underlying t = some (.int k)) (h : Value.okWide P W .any base t v) : v.oneCell' = true := by
  simp only [Value.okWide, hu, Cell.okWide] at h
  cases v <;> first | rfl | simp [Cell.ok, hu] at h
theorem agg_struct {P : Program} {W : World} {base : Nat} {t : TypeId} {fs : Array Field} {v : Value} (hu : P.underlying t = some (.struct fs)) (h : Value.okWide P W .any base t v) : ∃ vs, v = .agg vs := by
  simp only [Value.okWide, hu] at h
  obtain ⟨cs, h, _⟩ := h
  exact ⟨cs, h⟩
section
variable {H : Type} {enc : TypeId × Value → H} {P : Program} {W : World} {base n : Nat} {t e : TypeId} {v : Value} {d : DataW H} {ps : List MemPlace}
theorem arg_struct {α : Type} [Enc α] {R : α → Prop} {fs : Array Field} (hu : P.underlying t = some (.struct fs)) (hel : ∀ l, HasT P n t l → ∃ a : α, l = Enc.cells a ∧ R a) (hp : PlainT P n t = true) (hv : Value.okWide P W .any base t v) (h : DataW.Trod enc P W 0 (fun _ => true) true t v d ps) :
    ∃ a : α, Rep (· < W.heap.size) W iota0 [] (.agg (Enc.cells a)) v ∧ R a := by
  obtain ⟨ds, h1, h2⟩ := read_plain hp h
  obtain ⟨a, rfl, hr⟩ := hel ds h1
  obtain ⟨vs, rfl⟩ := agg_struct hu hv
  exact ⟨a, cor_agg h2, hr⟩
theorem arg_i64 (hu : P.underlying t = some (.int .i64)) (hp : PlainT P (n + 1) t = true) (hv : Value.okWide P W .any base t v) (h : DataW.Trod enc P W 0 (fun _ => true) true t v d ps) : ∃ b, Rep (· < W.heap.size) W iota0 [] (.int .i64 b) v ∧ isI64 b := by
  obtain ⟨ds, h1, h2⟩ := read_plain hp h
  obtain ⟨b, rfl, hb⟩ := has_i64 hu h1
  exact ⟨b, cor_val h2 (one_int hu hv), hb⟩
end
theorem repL_nil' {ok : Nat → Prop} {w : World} {ι : Iota} {H : Heap} : RepL ok w ι H [] [] := ⟨rfl, by simp⟩
theorem repL_cons' {ok : Nat → Prop} {w : World} {ι : Iota} {H : Heap} {d : D} {v : Value} {ds : List D} {vs : List Value} (h : Rep ok w ι H d v) (hs : RepL ok w ι H ds vs) : RepL ok w ι H (d :: ds) (v :: vs) := by
  refine ⟨by simp [hs.1], fun j x hj => ?_⟩
  cases j with
  | zero => simp at hj; subst hj; exact h
  | succ j => exact hs.2 j x (by simpa using hj)
def Rec.Fit (r : Rec) : Prop := r.fields.l.length ≤ maxLen ∧ ∀ p, p ∈ r.fields.l → p.name.length ≤ maxLen ∧ p.value.length ≤ maxLen
end Go.Ev
namespace Go.Ev
open Go Go.Proofs
@[simp] theorem ID.ta (i : ID) (r : List D) : (ofBytes i.l ++ r).take 16 = ofBytes i.l := by simp
@[simp] theorem ID.da (i : ID) (r : List D) : (ofBytes i.l ++ r).drop 16 = r := by simp
structure Cur where
  seq : ID
  n : Int
  boot : ID
  mono : Int
  real : Int
  xor : Int
  deriving DecidableEq
instance : Enc Cur := ⟨36, fun m => (ofBytes m.seq.l ++ (.int .u64 m.n :: (ofBytes m.boot.l ++ (.int .u64 m.mono :: (.int .u64 m.real :: (.int .u64 m.xor :: ([] : List D))))))), fun m => by simp, fun m => by simp [idFree]⟩
theorem Cur.cells (m : Cur) : Enc.cells m = (ofBytes m.seq.l ++ (.int .u64 m.n :: (ofBytes m.boot.l ++ (.int .u64 m.mono :: (.int .u64 m.real :: (.int .u64 m.xor :: ([] : List D))))))) := rfl
@[simp] theorem Cur.size : Enc.size Cur = 36 := rfl
@[simp] theorem Cur.cl (a : Cur) : (Enc.cells a).length = 36 := Enc.len a
@[simp] theorem Cur.ct (a : Cur) (r : List D) : (Enc.cells a ++ r).take 36 = Enc.cells a := cells_take rfl a r
@[simp] theorem Cur.ct' (a : Cur) : (Enc.cells a).take 36 = Enc.cells a := cells_take' rfl a
@[simp] theorem Cur.cd (a : Cur) (r : List D) : (Enc.cells a ++ r).drop 36 = r := cells_drop rfl a r
@[simp] theorem Cur.el (l : List Cur) : (encs l).length = l.length * 36 := encs_len' rfl l
@[simp] theorem Cur.ed (l : List Cur) (i : Nat) : (encs l).drop (i * 36) = encs (l.drop i) := encs_drop rfl l i
@[simp] theorem Cur.et (l : List Cur) (i : Nat) : (encs l).take (i * 36) = encs (l.take i) := encs_take rfl l i
@[simp high] theorem Cur.ea {l : List Cur} {i : Nat} (h : i < l.length) : (encs l).drop (i * 36) = Enc.cells l[i] ++ encs (l.drop (i + 1)) := encs_at rfl h
@[simp high] theorem Cur.es (m : Cur) {l : List Cur} {j : Nat} (h : j < l.length) : setRange (encs l) (j * 36) (Enc.cells m) = encs (l.set j m) := encs_set rfl m l h
@[simp] theorem Cur.t0 (m : Cur) : (Enc.cells m).take 16 = ofBytes m.seq.l := by simp [Cur.cells]
@[simp] theorem Cur.t0' (m : Cur) (r : List D) : (Enc.cells m ++ r).take 16 = ofBytes m.seq.l := by simp [Cur.cells]
@[simp] theorem Cur.s0 (m : Cur) (x : ID) : setRange (Enc.cells m) 0 (ofBytes x.l) = Enc.cells { m with seq := x } := by simp [List.take_append, Cur.cells]
@[simp] theorem Cur.d16 (m : Cur) : (Enc.cells m).drop 16 = (.int .u64 m.n :: (ofBytes m.boot.l ++ (.int .u64 m.mono :: (.int .u64 m.real :: (.int .u64 m.xor :: ([] : List D)))))) := by simp [Cur.cells]
@[simp] theorem Cur.d16' (m : Cur) (r : List D) : (Enc.cells m ++ r).drop 16 = (.int .u64 m.n :: (ofBytes m.boot.l ++ (.int .u64 m.mono :: (.int .u64 m.real :: (.int .u64 m.xor :: ([] : List D)))))) ++ r := by simp [Cur.cells]
@[simp] theorem Cur.g16 (m : Cur) (h) : (Enc.cells m)[16]'h = .int .u64 m.n := by simp [Cur.cells]
@[simp] theorem Cur.q16 (m : Cur) : (Enc.cells m)[16]? = some (.int .u64 m.n) := by simp [Cur.cells]
@[simp] theorem Cur.s16 (m : Cur) (x : Int) : setRange (Enc.cells m) 16 [.int .u64 x] = Enc.cells { m with n := x } := by simp [List.drop_append, drop_bytes, Cur.cells]
@[simp] theorem Cur.d17 (m : Cur) : (Enc.cells m).drop 17 = (ofBytes m.boot.l ++ (.int .u64 m.mono :: (.int .u64 m.real :: (.int .u64 m.xor :: ([] : List D))))) := by simp [List.drop_append, drop_bytes, Cur.cells]
@[simp] theorem Cur.d17' (m : Cur) (r : List D) : (Enc.cells m ++ r).drop 17 = (ofBytes m.boot.l ++ (.int .u64 m.mono :: (.int .u64 m.real :: (.int .u64 m.xor :: ([] : List D))))) ++ r := by simp [List.drop_append, drop_bytes, Cur.cells]
@[simp] theorem Cur.s17 (m : Cur) (x : ID) : setRange (Enc.cells m) 17 (ofBytes x.l) = Enc.cells { m with boot := x } := by simp [List.take_append, List.drop_append, drop_bytes, List.take_of_length_le, Cur.cells]
@[simp] theorem Cur.d33 (m : Cur) : (Enc.cells m).drop 33 = (.int .u64 m.mono :: (.int .u64 m.real :: (.int .u64 m.xor :: ([] : List D)))) := by simp [List.drop_append, drop_bytes, Cur.cells]
@[simp] theorem Cur.d33' (m : Cur) (r : List D) : (Enc.cells m ++ r).drop 33 = (.int .u64 m.mono :: (.int .u64 m.real :: (.int .u64 m.xor :: ([] : List D)))) ++ r := by simp [List.drop_append, drop_bytes, Cur.cells]
@[simp] theorem Cur.g33 (m : Cur) (h) : (Enc.cells m)[33]'h = .int .u64 m.mono := by simp [Cur.cells]
@[simp] theorem Cur.q33 (m : Cur) : (Enc.cells m)[33]? = some (.int .u64 m.mono) := by simp [Cur.cells]
@[simp] theorem Cur.s33 (m : Cur) (x : Int) : setRange (Enc.cells m) 33 [.int .u64 x] = Enc.cells { m with mono := x } := by simp [List.take_append, List.drop_append, drop_bytes, List.take_of_length_le, Cur.cells]
@[simp] theorem Cur.d34 (m : Cur) : (Enc.cells m).drop 34 = (.int .u64 m.real :: (.int .u64 m.xor :: ([] : List D))) := by simp [List.drop_append, drop_bytes, Cur.cells]
@[simp] theorem Cur.d34' (m : Cur) (r : List D) : (Enc.cells m ++ r).drop 34 = (.int .u64 m.real :: (.int .u64 m.xor :: ([] : List D))) ++ r := by simp [List.drop_append, drop_bytes, Cur.cells]
@[simp] theorem Cur.g34 (m : Cur) (h) : (Enc.cells m)[34]'h = .int .u64 m.real := by simp [Cur.cells]
@[simp] theorem Cur.q34 (m : Cur) : (Enc.cells m)[34]? = some (.int .u64 m.real) := by simp [Cur.cells]
@[simp] theorem Cur.s34 (m : Cur) (x : Int) : setRange (Enc.cells m) 34 [.int .u64 x] = Enc.cells { m with real := x } := by simp [List.take_append, List.drop_append, drop_bytes, List.take_of_length_le, Cur.cells]
@[simp] theorem Cur.d35 (m : Cur) : (Enc.cells m).drop 35 = (.int .u64 m.xor :: ([] : List D)) := by simp [List.drop_append, drop_bytes, Cur.cells]
@[simp] theorem Cur.d35' (m : Cur) (r : List D) : (Enc.cells m ++ r).drop 35 = (.int .u64 m.xor :: ([] : List D)) ++ r := by simp [List.drop_append, drop_bytes, Cur.cells]
@[simp] theorem Cur.g35 (m : Cur) (h) : (Enc.cells m)[35]'h = .int .u64 m.xor := by simp [Cur.cells]
@[simp] theorem Cur.q35 (m : Cur) : (Enc.cells m)[35]? = some (.int .u64 m.xor) := by simp [Cur.cells]
@[simp] theorem Cur.s35 (m : Cur) (x : Int) : setRange (Enc.cells m) 35 [.int .u64 x] = Enc.cells { m with xor := x } := by simp [List.take_append, List.drop_append, drop_bytes, List.take_of_length_le, Cur.cells]
end Go.Ev
namespace Go.Ev
open Go Go.Proofs
end Go.Ev
namespace Go.Ev
open Go Go.Proofs
def hexc (k : Nat) : UInt8 := if k < 10 then UInt8.ofNat (48 + k) else UInt8.ofNat (87 + k)
def hexF : Nat → Nat → List UInt8
  | 0, _ => []
  | f + 1, v => if v < 16 then [hexc v] else hexF f (v / 16) ++ [hexc (v % 16)]
def hx (v : Nat) : List UInt8 := hexF 16 v
def digL : List UInt8 := [48, 49, 50, 51, 52, 53, 54, 55, 56, 57, 97, 98, 99, 100, 101, 102]
def dig36 : List UInt8 := [48, 49, 50, 51, 52, 53, 54, 55, 56, 57, 97, 98, 99, 100, 101, 102, 103, 104, 105, 106, 107, 108, 109, 110, 111, 112, 113, 114, 115, 116, 117, 118, 119, 120, 121, 122]
theorem dig36_at : ∀ k, k < 16 → dig36[k]? = some (hexc k) := by decide
theorem digL_at : ∀ k, k < 16 → digL[k]? = some (hexc k) := by decide
theorem digL_idx : ∀ k, k < 16 → idxB (hexc k) digL 0 = (k : Int) := by decide
theorem hexF_len : ∀ (f v : Nat), (hexF f v).length ≤ f
  | 0, _ => Nat.le_refl _
  | f + 1, v => by
    rw [hexF]
    split
    · simp
    · have := hexF_len f (v / 16)
      simp
      omega
theorem hx_len (v : Nat) : (hx v).length ≤ 16 := hexF_len 16 v
theorem hx_pos (v : Nat) : 0 < (hx v).length := by
  unfold hx hexF
  split <;> simp
def hexs : List UInt8 → List UInt8
  | [] => []
  | b :: l => hexc (b.toNat / 16) :: hexc (b.toNat % 16) :: hexs l
theorem hexs_len : ∀ (l : List UInt8), (hexs l).length = 2 * l.length
  | [] => rfl
  | b :: l => by simp [hexs, hexs_len l]; omega
theorem hexs_append : ∀ (a b : List UInt8), hexs (a ++ b) = hexs a ++ hexs b
  | [], _ => rfl
  | x :: a, b => by simp [hexs, hexs_append a b]
def idGo : List UInt8 → Nat → List UInt8 → Option (List UInt8)
  | [], _, st => some st
  | c :: l, i, st => if idxB c digL 0 < 0 then none else idGo l (i + 1) (st.set (i / 2) ((st.getD (i / 2) 0 <<< 4) ||| UInt8.ofNat (idxB c digL 0).toNat))
def zero16 : List UInt8 := List.replicate 16 0
def idP (s : List UInt8) : Option (List UInt8) := if s.length = 32 then idGo s 0 zero16 else none
theorem idGo_len : ∀ (s : List UInt8) (i : Nat) (st r : List UInt8), idGo s i st = some r → r.length = st.length
  | [], _, st, r, h => by simp only [idGo, Option.some.injEq] at h; rw [h]
  | c :: l, i, st, r, h => by
    simp only [idGo] at h
    split at h
    · cases h
    · have := idGo_len l _ _ r h
      simpa using this
theorem idP_len {s r : List UInt8} (h : idP s = some r) : r.length = 16 := by
  unfold idP at h
  split at h
  · have := idGo_len _ _ _ _ h
    simpa [zero16] using this
  · cases h
theorem idx_range (c : UInt8) : ∀ (l : List UInt8) (n : Nat), idxB c l n = -1 ∨ ∃ k, k < l.length ∧ idxB c l n = ((n + k : Nat) : Int)
  | [], _ => .inl rfl
  | b :: l, n => by
    unfold idxB
    split
    · exact .inr ⟨0, by simp, by simp⟩
    · rcases idx_range c l (n + 1) with h | ⟨k, h1, h2⟩
      · exact .inl h
      · exact .inr ⟨k + 1, by simp; omega, by rw [h2]; omega⟩
theorem nib_orN : ∀ n, n < 256 → (((0 : UInt8) <<< 4 ||| UInt8.ofNat (n / 16)) <<< 4) ||| UInt8.ofNat (n % 16) = UInt8.ofNat n := by decide +kernel
theorem nib_or (b : UInt8) : (((0 : UInt8) <<< 4 ||| UInt8.ofNat (b.toNat / 16)) <<< 4) ||| UInt8.ofNat (b.toNat % 16) = b := by
  rw [nib_orN b.toNat b.toNat_lt, UInt8.ofNat_toNat]
theorem idGo_hexs : ∀ (l done : List UInt8), idGo (hexs l) (2 * done.length) (done ++ List.replicate l.length 0) = some (done ++ l)
  | [], done => by simp [hexs, idGo]
  | b :: l, done => by
    have hb := b.toNat_lt
    have h1 := digL_idx (b.toNat / 16) (by omega)
    have h2 := digL_idx (b.toNat % 16) (by omega)
    simp only [hexs, idGo, h1, h2]
    rw [if_neg (by omega), if_neg (by omega)]
    have e1 : 2 * done.length / 2 = done.length := by omega
    have e2 : (2 * done.length + 1) / 2 = done.length := by omega
    have e3 : 2 * done.length + 1 + 1 = 2 * (done ++ [b]).length := by simp; omega
    have g1 : (done ++ List.replicate (b :: l).length 0).getD done.length 0 = (0 : UInt8) := by
      simp [List.getD, List.replicate_succ]
    rw [e1, e2, e3, g1]
    have s1 : ∀ x : UInt8, (done ++ List.replicate (b :: l).length (0 : UInt8)).set done.length x = done ++ x :: List.replicate l.length 0 := by
      intro x
      simp [List.replicate_succ]
    rw [s1]
    have g2 : ∀ x : UInt8, (done ++ x :: List.replicate l.length (0 : UInt8)).getD done.length 0 = x := by
      intro x
      simp [List.getD]
    rw [g2]
    have s2 : ∀ x y : UInt8, (done ++ x :: List.replicate l.length (0 : UInt8)).set done.length y = (done ++ [y]) ++ List.replicate l.length 0 := by
      intro x y
      simp
    have e4 : ((((b.toNat / 16 : Nat) : Int)).toNat) = b.toNat / 16 := by omega
    have e5 : ((((b.toNat % 16 : Nat) : Int)).toNat) = b.toNat % 16 := by omega
    rw [s2, e4, e5, nib_or b, idGo_hexs l (done ++ [b])]
    simp
theorem idP_hexs {l : List UInt8} (h : l.length = 16) : idP (hexs l) = some l := by
  unfold idP
  rw [if_pos (by rw [hexs_len, h])]
  have := idGo_hexs l []
  simpa [zero16, h] using this
theorem shl4_N : ∀ n : Nat, n < 256 → ∀ k : Nat, k < 16 → orI .u8 (IntKind.u8.wrap ((n : Int) * 16)) (k : Int) = ((UInt8.ofNat n <<< 4 ||| UInt8.ofNat k).toNat : Int) := by decide +kernel
theorem shl4_u8 (a : UInt8) (k : Nat) (hk : k < 16) : orI .u8 (IntKind.u8.wrap ((a.toNat : Int) * 16)) (k : Int) = ((a <<< 4 ||| UInt8.ofNat k).toNat : Int) := by
  rw [shl4_N a.toNat a.toNat_lt k hk, UInt8.ofNat_toNat]
theorem and15_u64 {n : Nat} (h : n < 18446744073709551616) : andI .u64 (n : Int) 15 = ((n % 16 : Nat) : Int) := by
  unfold andI
  have e : (BitVec.ofInt IntKind.u64.bits (n : Int) &&& BitVec.ofInt IntKind.u64.bits 15).toNat = n % 16 := by
    show (BitVec.ofInt 64 (n : Int) &&& BitVec.ofInt 64 ((15 : Nat) : Int)).toNat = n % 16
    rw [BitVec.ofInt_natCast, BitVec.ofInt_natCast, BitVec.toNat_and, BitVec.toNat_ofNat, BitVec.toNat_ofNat, Nat.mod_eq_of_lt (show n < 2 ^ 64 by omega)]
    exact Nat.and_two_pow_sub_one_eq_mod n 4
  rw [e, wrap_u64]
  omega
theorem and15_u8N : ∀ n : Nat, n < 256 → andI .u8 (n : Int) 15 = ((n % 16 : Nat) : Int) := by decide +kernel
theorem and15_u8 (b : UInt8) : andI .u8 (b.toNat : Int) 15 = ((b.toNat % 16 : Nat) : Int) := and15_u8N b.toNat b.toNat_lt
theorem fdiv16 (n : Nat) : Int.fdiv (n : Int) 16 = ((n / 16 : Nat) : Int) := by
  rw [Int.fdiv_eq_ediv_of_nonneg _ (by omega)]
  omega
theorem fill_behind (i : Nat) (s : List UInt8) (c : UInt8) : setRange (List.replicate (i + 1) (D.int .u8 0) ++ ofBytes s) i [.int .u8 c.toNat] = List.replicate i (.int .u8 0) ++ ofBytes (c :: s) := by
  unfold setRange
  have h : (List.replicate (i + 1) (D.int .u8 0) ++ ofBytes s).drop (i + 1) = ofBytes s := List.drop_left' (by simp)
  have h2 : (List.replicate (i + 1) (D.int .u8 0) ++ ofBytes s).take i = List.replicate i (D.int .u8 0) := by
    rw [List.take_append_of_le_length (by simp), List.take_replicate]
    congr 1
    omega
  rw [h2, List.length_singleton, h]
  simp [ofBytes]
end Go.Ev
namespace Go.Ev
open Go Go.Proofs
def rolI (x : Int) (k : Nat) : Int := orI .u32 (IntKind.u32.wrap (x * 2 ^ k)) (x.fdiv (2 ^ (32 - k)))
def add32 (a b : Int) : Int := IntKind.u32.wrap (a + b)
def sub32 (a b : Int) : Int := IntKind.u32.wrap (a - b)
def stpM (k : Nat) : Int × Int × Int → Int × Int × Int
  | (a, b, c) => (b, add32 c b, xorI .u32 (sub32 a c) (rolI c k))
def mixI (t : Int × Int × Int) : Int × Int × Int := stpM 4 (stpM 19 (stpM 16 (stpM 8 (stpM 6 (stpM 4 t)))))
def stpF (k : Nat) : Int × Int × Int → Int × Int × Int
  | (p, q, r) => (r, sub32 (xorI .u32 p q) (rolI q k), q)
def finI : Int × Int × Int → Int × Int × Int
  | (x, y, z) => stpF 24 (stpF 14 (stpF 4 (stpF 16 (stpF 25 (stpF 11 (stpF 14 (z, y, x)))))))
theorem mix_at {x y z x1 z1 y1 x2 z2 y2 x3 z3 y3 x4 z4 y4 a1 a2 a3 a4 a5 a6 : Int}
    (h1 : sub32 x z = a1) (h2 : xorI .u32 a1 (rolI z 4) = x1) (h3 : add32 z y = z1)
    (h4 : sub32 y x1 = a2) (h5 : xorI .u32 a2 (rolI x1 6) = y1) (h6 : add32 x1 z1 = x2)
    (h7 : sub32 z1 y1 = a3) (h8 : xorI .u32 a3 (rolI y1 8) = z2) (h9 : add32 y1 x2 = y2)
    (g1 : sub32 x2 z2 = a4) (g2 : xorI .u32 a4 (rolI z2 16) = x3) (g3 : add32 z2 y2 = z3)
    (g4 : sub32 y2 x3 = a5) (g5 : xorI .u32 a5 (rolI x3 19) = y3) (g6 : add32 x3 z3 = x4)
    (g7 : sub32 z3 y3 = a6) (g8 : xorI .u32 a6 (rolI y3 4) = z4) (g9 : add32 y3 x4 = y4) : mixI (x, y, z) = (x4, y4, z4) := by
  unfold mixI
  have e1 : stpM 4 (x, y, z) = (y, z1, x1) := by simp only [stpM, h1, h2, h3]
  have e2 : stpM 6 (y, z1, x1) = (z1, x2, y1) := by simp only [stpM, h4, h5, h6]
  have e3 : stpM 8 (z1, x2, y1) = (x2, y2, z2) := by simp only [stpM, h7, h8, h9]
  have e4 : stpM 16 (x2, y2, z2) = (y2, z3, x3) := by simp only [stpM, g1, g2, g3]
  have e5 : stpM 19 (y2, z3, x3) = (z3, x4, y3) := by simp only [stpM, g4, g5, g6]
  have e6 : stpM 4 (z3, x4, y3) = (x4, y4, z4) := by simp only [stpM, g7, g8, g9]
  rw [e1, e2, e3, e4, e5, e6]
theorem fin_at {x y z a1 z1 a2 x1 a3 y1 a4 z2 a5 x2 a6 y2 a7 z3 : Int}
    (h1 : xorI .u32 z y = a1) (h2 : sub32 a1 (rolI y 14) = z1)
    (h3 : xorI .u32 x z1 = a2) (h4 : sub32 a2 (rolI z1 11) = x1)
    (h5 : xorI .u32 y x1 = a3) (h6 : sub32 a3 (rolI x1 25) = y1)
    (h7 : xorI .u32 z1 y1 = a4) (h8 : sub32 a4 (rolI y1 16) = z2)
    (g1 : xorI .u32 x1 z2 = a5) (g2 : sub32 a5 (rolI z2 4) = x2)
    (g3 : xorI .u32 y1 x2 = a6) (g4 : sub32 a6 (rolI x2 14) = y2)
    (g5 : xorI .u32 z2 y2 = a7) (g6 : sub32 a7 (rolI y2 24) = z3) : finI (x, y, z) = (x2, z3, y2) := by
  unfold finI
  have e1 : stpF 14 (z, y, x) = (x, z1, y) := by simp only [stpF, h1, h2]
  have e2 : stpF 11 (x, z1, y) = (y, x1, z1) := by simp only [stpF, h3, h4]
  have e3 : stpF 25 (y, x1, z1) = (z1, y1, x1) := by simp only [stpF, h5, h6]
  have e4 : stpF 16 (z1, y1, x1) = (x1, z2, y1) := by simp only [stpF, h7, h8]
  have e5 : stpF 4 (x1, z2, y1) = (y1, x2, z2) := by simp only [stpF, g1, g2]
  have e6 : stpF 14 (y1, x2, z2) = (z2, y2, x2) := by simp only [stpF, g3, g4]
  have e7 : stpF 24 (z2, y2, x2) = (x2, z3, y2) := by simp only [stpF, g5, g6]
  simp only [e1, e2, e3, e4, e5, e6, e7]
def wordL (l : List UInt8) (a : Nat) : Nat := leN ((l.drop a).take 4)
theorem wordL_lt (l : List UInt8) (a : Nat) : wordL l a < 4294967296 := by
  refine Nat.lt_of_lt_of_le (leN_lt _) ?_
  have : ((l.drop a).take 4).length ≤ 4 := by rw [List.length_take]; omega
  exact Nat.le_trans (Nat.pow_le_pow_right (by decide) this) (by decide)
def addT (l : List UInt8) : Int × Int × Int → Int × Int × Int
  | (x, y, z) => (add32 x (wordL l 0 : Nat), add32 y (wordL l 4 : Nat), add32 z (wordL l 8 : Nat))
def outT : Int × Int × Int → Int
  | (_, y, z) => orI .u64 (IntKind.u64.wrap (IntKind.u64.wrap z * 4294967296)) (IntKind.u64.wrap y)
def lookR (l : List UInt8) (t : Int × Int × Int) : Int :=
  if 12 < l.length then lookR (l.drop 12) (mixI (addT l t)) else if l.length = 0 then outT t else match finI (addT l t) with | (_, z, y) => outT (0, y, z)
termination_by l.length
decreasing_by simp; omega
def lookN (l : List UInt8) : Int := lookR l (add32 3735928559 (IntKind.u32.wrap (l.length : Nat)), add32 3735928559 (IntKind.u32.wrap (l.length : Nat)), add32 3735928559 (IntKind.u32.wrap (l.length : Nat)))
theorem lookR_more {l : List UInt8} (h : 12 < l.length) (t : Int × Int × Int) : lookR l t = lookR (l.drop 12) (mixI (addT l t)) := by
  rw [lookR, if_pos h]
theorem lookR_end {l : List UInt8} (h : ¬ 12 < l.length) (h0 : l.length ≠ 0) {t : Int × Int × Int} {x y z : Int} (hf : finI (addT l t) = (x, z, y)) : lookR l t = outT (0, y, z) := by
  rw [lookR, if_neg h, if_neg h0, hf]
theorem lookR_nil {l : List UInt8} (h0 : l.length = 0) (t : Int × Int × Int) : lookR l t = outT t := by
  rw [lookR, if_neg (by omega), if_pos h0]
theorem and31 : ∀ k : Nat, k < 32 → andI .u64 (k : Int) 31 = (k : Int) := by decide
end Go.Ev
namespace Go.Ev.S
open Go Go.Proofs Go.Ev
theorem rotl_ev [MaxL] [TxtC] (x : Int) (k : Nat) (hk : k < 32) : call cx 160 [.int .u32 x, .int .i64 k] [] = some (.int .u32 (rolI x k), []) := by
  have h := and31 k hk
  have hw : IntKind.u64.wrap (k : Int) = (k : Int) := by rw [wrap_u64] <;> omega
  have hw2 : IntKind.u64.wrap (32 - (k : Int)) = ((32 - k : Nat) : Int) := by rw [wrap_u64] <;> omega
  have m1 : min k 32 = k := by omega
  have hn : ¬ (k : Int) < 0 := by omega
  refine call_run Tryz.func160 rfl ⟨rfl, rfl⟩ ?_
  unfold rolI
  obtain ⟨j, hj⟩ : ∃ j, j = 32 - k := ⟨_, rfl⟩
  rw [← hj] at hw2 ⊢
  have m2 : min j 32 = j := by omega
  have hn2 : ¬ (j : Int) < 0 := by omega
  simp [Tryz.f160, h, hw, hw2, IntKind.bits, m1, m2, hn, hn2]
theorem rol_at [MaxL] [TxtC] {x r : Int} {k : Nat} (hk : k < 32) (e : rolI x k = r) {kk : Int} (hkk : kk = k) : call cx 160 [.int .u32 x, .int .i64 kk] [] = some (.int .u32 r, []) := by
  rw [hkk, ← e]
  exact rotl_ev x k hk
set_option maxHeartbeats 4000000 in
set_option maxRecDepth 4000 in
theorem mix_ev [MaxL] [TxtC] (x y z : Int) (R : Heap) (hR : R = [] ∨ R = [none]) : call cx 134 [.optr 0 3 0] (some [.int .u32 x, .int .u32 y, .int .u32 z] :: R) = some (.tup [], some [.int .u32 (mixI (x, y, z)).1, .int .u32 (mixI (x, y, z)).2.1, .int .u32 (mixI (x, y, z)).2.2] :: R) := by
  obtain ⟨a1, h1⟩ : ∃ v, sub32 x z = v := ⟨_, rfl⟩
  have e0 : IntKind.u32.wrap (x - z) = a1 := h1
  obtain ⟨r0, q0⟩ : ∃ v, rolI z 4 = v := ⟨_, rfl⟩
  have e1 := rol_at (by omega) q0 (kk := 4) rfl
  obtain ⟨x1, f0⟩ : ∃ v, xorI .u32 a1 r0 = v := ⟨_, rfl⟩
  have h2 : xorI .u32 a1 (rolI z 4) = x1 := by rw [q0]; exact f0
  obtain ⟨z1, h3⟩ : ∃ v, add32 z y = v := ⟨_, rfl⟩
  have e2 : IntKind.u32.wrap (z + y) = z1 := h3
  obtain ⟨a2, h4⟩ : ∃ v, sub32 y x1 = v := ⟨_, rfl⟩
  have e3 : IntKind.u32.wrap (y - x1) = a2 := h4
  obtain ⟨r1, q1⟩ : ∃ v, rolI x1 6 = v := ⟨_, rfl⟩
  have e4 := rol_at (by omega) q1 (kk := 6) rfl
  obtain ⟨y1, f1⟩ : ∃ v, xorI .u32 a2 r1 = v := ⟨_, rfl⟩
  have h5 : xorI .u32 a2 (rolI x1 6) = y1 := by rw [q1]; exact f1
  obtain ⟨x2, h6⟩ : ∃ v, add32 x1 z1 = v := ⟨_, rfl⟩
  have e5 : IntKind.u32.wrap (x1 + z1) = x2 := h6
  obtain ⟨a3, h7⟩ : ∃ v, sub32 z1 y1 = v := ⟨_, rfl⟩
  have e6 : IntKind.u32.wrap (z1 - y1) = a3 := h7
  obtain ⟨r2, q2⟩ : ∃ v, rolI y1 8 = v := ⟨_, rfl⟩
  have e7 := rol_at (by omega) q2 (kk := 8) rfl
  obtain ⟨z2, f2⟩ : ∃ v, xorI .u32 a3 r2 = v := ⟨_, rfl⟩
  have h8 : xorI .u32 a3 (rolI y1 8) = z2 := by rw [q2]; exact f2
  obtain ⟨y2, h9⟩ : ∃ v, add32 y1 x2 = v := ⟨_, rfl⟩
  have e8 : IntKind.u32.wrap (y1 + x2) = y2 := h9
  obtain ⟨a4, g1⟩ : ∃ v, sub32 x2 z2 = v := ⟨_, rfl⟩
  have e9 : IntKind.u32.wrap (x2 - z2) = a4 := g1
  obtain ⟨r3, q3⟩ : ∃ v, rolI z2 16 = v := ⟨_, rfl⟩
  have e10 := rol_at (by omega) q3 (kk := 16) rfl
  obtain ⟨x3, f3⟩ : ∃ v, xorI .u32 a4 r3 = v := ⟨_, rfl⟩
  have g2 : xorI .u32 a4 (rolI z2 16) = x3 := by rw [q3]; exact f3
  obtain ⟨z3, g3⟩ : ∃ v, add32 z2 y2 = v := ⟨_, rfl⟩
  have e11 : IntKind.u32.wrap (z2 + y2) = z3 := g3
  obtain ⟨a5, g4⟩ : ∃ v, sub32 y2 x3 = v := ⟨_, rfl⟩
  have e12 : IntKind.u32.wrap (y2 - x3) = a5 := g4
  obtain ⟨r4, q4⟩ : ∃ v, rolI x3 19 = v := ⟨_, rfl⟩
  have e13 := rol_at (by omega) q4 (kk := 19) rfl
  obtain ⟨y3, f4⟩ : ∃ v, xorI .u32 a5 r4 = v := ⟨_, rfl⟩
  have g5 : xorI .u32 a5 (rolI x3 19) = y3 := by rw [q4]; exact f4
  obtain ⟨x4, g6⟩ : ∃ v, add32 x3 z3 = v := ⟨_, rfl⟩
  have e14 : IntKind.u32.wrap (x3 + z3) = x4 := g6
  obtain ⟨a6, g7⟩ : ∃ v, sub32 z3 y3 = v := ⟨_, rfl⟩
  have e15 : IntKind.u32.wrap (z3 - y3) = a6 := g7
  obtain ⟨r5, q5⟩ : ∃ v, rolI y3 4 = v := ⟨_, rfl⟩
  have e16 := rol_at (by omega) q5 (kk := 4) rfl
  obtain ⟨z4, f5⟩ : ∃ v, xorI .u32 a6 r5 = v := ⟨_, rfl⟩
  have g8 : xorI .u32 a6 (rolI y3 4) = z4 := by rw [q5]; exact f5
  obtain ⟨y4, g9⟩ : ∃ v, add32 y3 x4 = v := ⟨_, rfl⟩
  have e17 : IntKind.u32.wrap (y3 + x4) = y4 := g9
  have hm := mix_at h1 h2 h3 h4 h5 h6 h7 h8 h9 g1 g2 g3 g4 g5 g6 g7 g8 g9
  rw [hm]
  clear g9 g8 g7 g6 g5 g4 g3 g2 g1 h9 h8 h7 h6 h5 h4 h3 h2 h1 hm q0 q1 q2 q3 q4 q5
  rcases hR with rfl | rfl
  · refine call_run Tryz.func134 rfl ⟨rfl, rfl⟩ ?_
    simp [Tryz.f134, e0, e1, f0, e2, e3, e4, f1, e5, e6, e7, f2, e8, e9, e10, f3, e11, e12, e13, f4, e14, e15, e16, f5, e17]
  · refine call_run Tryz.func134 rfl ⟨rfl, rfl⟩ ?_
    simp [Tryz.f134, e0, e1, f0, e2, e3, e4, f1, e5, e6, e7, f2, e8, e9, e10, f3, e11, e12, e13, f4, e14, e15, e16, f5, e17]
set_option maxHeartbeats 4000000 in
set_option maxRecDepth 4000 in
theorem last_ev [MaxL] [TxtC] (x y z : Int) {x' y' z' : Int} (hm : finI (x, y, z) = (x', z', y')) (R : Heap) (hR : R = [] ∨ R = [none]) : call cx 135 [.optr 0 3 0] (some [.int .u32 x, .int .u32 y, .int .u32 z] :: R) = some (.tup [], some [.int .u32 x', .int .u32 y', .int .u32 z'] :: R) := by
  obtain ⟨a1, h1⟩ : ∃ v, xorI .u32 z y = v := ⟨_, rfl⟩
  obtain ⟨r0, q0⟩ : ∃ v, rolI y 14 = v := ⟨_, rfl⟩
  have e1 := rol_at (by omega) q0 (kk := 14) rfl
  obtain ⟨z1, f0⟩ : ∃ v, sub32 a1 r0 = v := ⟨_, rfl⟩
  have d0 : IntKind.u32.wrap (a1 - r0) = z1 := f0
  have h2 : sub32 a1 (rolI y 14) = z1 := by rw [q0]; exact f0
  obtain ⟨a2, h3⟩ : ∃ v, xorI .u32 x z1 = v := ⟨_, rfl⟩
  obtain ⟨r1, q1⟩ : ∃ v, rolI z1 11 = v := ⟨_, rfl⟩
  have e3 := rol_at (by omega) q1 (kk := 11) rfl
  obtain ⟨x1, f1⟩ : ∃ v, sub32 a2 r1 = v := ⟨_, rfl⟩
  have d1 : IntKind.u32.wrap (a2 - r1) = x1 := f1
  have h4 : sub32 a2 (rolI z1 11) = x1 := by rw [q1]; exact f1
  obtain ⟨a3, h5⟩ : ∃ v, xorI .u32 y x1 = v := ⟨_, rfl⟩
  obtain ⟨r2, q2⟩ : ∃ v, rolI x1 25 = v := ⟨_, rfl⟩
  have e5 := rol_at (by omega) q2 (kk := 25) rfl
  obtain ⟨y1, f2⟩ : ∃ v, sub32 a3 r2 = v := ⟨_, rfl⟩
  have d2 : IntKind.u32.wrap (a3 - r2) = y1 := f2
  have h6 : sub32 a3 (rolI x1 25) = y1 := by rw [q2]; exact f2
  obtain ⟨a4, h7⟩ : ∃ v, xorI .u32 z1 y1 = v := ⟨_, rfl⟩
  obtain ⟨r3, q3⟩ : ∃ v, rolI y1 16 = v := ⟨_, rfl⟩
  have e7 := rol_at (by omega) q3 (kk := 16) rfl
  obtain ⟨z2, f3⟩ : ∃ v, sub32 a4 r3 = v := ⟨_, rfl⟩
  have d3 : IntKind.u32.wrap (a4 - r3) = z2 := f3
  have h8 : sub32 a4 (rolI y1 16) = z2 := by rw [q3]; exact f3
  obtain ⟨a5, g1⟩ : ∃ v, xorI .u32 x1 z2 = v := ⟨_, rfl⟩
  obtain ⟨r4, q4⟩ : ∃ v, rolI z2 4 = v := ⟨_, rfl⟩
  have e9 := rol_at (by omega) q4 (kk := 4) rfl
  obtain ⟨x2, f4⟩ : ∃ v, sub32 a5 r4 = v := ⟨_, rfl⟩
  have d4 : IntKind.u32.wrap (a5 - r4) = x2 := f4
  have g2 : sub32 a5 (rolI z2 4) = x2 := by rw [q4]; exact f4
  obtain ⟨a6, g3⟩ : ∃ v, xorI .u32 y1 x2 = v := ⟨_, rfl⟩
  obtain ⟨r5, q5⟩ : ∃ v, rolI x2 14 = v := ⟨_, rfl⟩
  have e11 := rol_at (by omega) q5 (kk := 14) rfl
  obtain ⟨y2, f5⟩ : ∃ v, sub32 a6 r5 = v := ⟨_, rfl⟩
  have d5 : IntKind.u32.wrap (a6 - r5) = y2 := f5
  have g4 : sub32 a6 (rolI x2 14) = y2 := by rw [q5]; exact f5
  obtain ⟨a7, g5⟩ : ∃ v, xorI .u32 z2 y2 = v := ⟨_, rfl⟩
  obtain ⟨r6, q6⟩ : ∃ v, rolI y2 24 = v := ⟨_, rfl⟩
  have e13 := rol_at (by omega) q6 (kk := 24) rfl
  obtain ⟨z3, f6⟩ : ∃ v, sub32 a7 r6 = v := ⟨_, rfl⟩
  have d6 : IntKind.u32.wrap (a7 - r6) = z3 := f6
  have g6 : sub32 a7 (rolI y2 24) = z3 := by rw [q6]; exact f6
  have hn := fin_at h1 h2 h3 h4 h5 h6 h7 h8 g1 g2 g3 g4 g5 g6
  rw [hm] at hn
  clear hm
  obtain ⟨hn1, hn⟩ := Prod.mk.inj hn
  obtain ⟨hn2, hn3⟩ := Prod.mk.inj hn
  clear g6 g4 g2 h8 h6 h4 h2 f0 q0 f1 q1 f2 q2 f3 q3 f4 q4 f5 q5 f6 q6
  rw [hn1, hn2, hn3]
  clear hn1 hn2 hn3
  rcases hR with rfl | rfl
  · refine call_run Tryz.func135 rfl ⟨rfl, rfl⟩ ?_
    simp [Tryz.f135, h1, e1, d0, h3, e3, d1, h5, e5, d2, h7, e7, d3, g1, e9, d4, g3, e11, d5, g5, e13, d6]
  · refine call_run Tryz.func135 rfl ⟨rfl, rfl⟩ ?_
    simp [Tryz.f135, h1, e1, d0, h3, e3, d1, h5, e5, d2, h7, e7, d3, g1, e9, d4, g3, e11, d5, g5, e13, d6]
end Go.Ev.S
namespace Go.Ev.S
open Go Go.Proofs Go.Ev
theorem get12 [MaxL] [TxtC] (l : List UInt8) (hl : l.length = 12) (a : Nat) (ha : a ≤ 8) {at_ : Int} (hat : at_ = a) : call cx 72 [.vsl false (ofBytes l) 12, .int .i64 at_, .int .i64 4] [] = some (.tup [.int .u64 (wordL l a : Nat), .bool true], []) := by
  have h := leget_ev (Sl.of l) at_ 4 (by omega) (by show l.length < _; omega)
  have e : leGet l at_ 4 = some (wordL l a) := by
    unfold leGet
    rw [if_pos ⟨by decide, by omega, by omega⟩]
    have e1 : at_.toNat = a := by omega
    rw [e1]
    rfl
  have e2 : (Sl.of l).l = l := rfl
  rw [e2, e] at h
  have e4 : (Sl.of l).nil = false := rfl
  rw [e4, hl] at h
  exact h
set_option maxHeartbeats 2000000 in
theorem add_ev [MaxL] [TxtC] (l : List UInt8) (hl : l.length = 12) (x y z : Int) {x' y' z' : Int} (hm : addT l (x, y, z) = (x', y', z')) (R : Heap) (hR : R = [] ∨ R = [none]) :
    call cx 133 [.optr 0 3 0, .vsl false (ofBytes l) 12] (some [.int .u32 x, .int .u32 y, .int .u32 z] :: R) = some (.tup [], some [.int .u32 x', .int .u32 y', .int .u32 z'] :: R) := by
  have h0 := get12 l hl 0 (by omega) (at_ := 0) rfl
  have h4 := get12 l hl 4 (by omega) (at_ := 4) rfl
  have h8 := get12 l hl 8 (by omega) (at_ := 8) rfl
  have w0 := wordL_lt l 0
  have w4 := wordL_lt l 4
  have w8 := wordL_lt l 8
  unfold addT add32 at hm
  obtain ⟨e1, hm⟩ := Prod.mk.inj hm
  obtain ⟨e2, e3⟩ := Prod.mk.inj hm
  generalize wordL l 0 = a at *
  generalize wordL l 4 = b at *
  generalize wordL l 8 = c at *
  have v0 : IntKind.u32.wrap (a : Int) = a := by rw [wrap_u32] <;> omega
  have v4 : IntKind.u32.wrap (b : Int) = b := by rw [wrap_u32] <;> omega
  have v8 : IntKind.u32.wrap (c : Int) = c := by rw [wrap_u32] <;> omega
  rcases hR with rfl | rfl
  · refine call_run Tryz.func133 rfl ⟨rfl, rfl⟩ ?_
    simp [Tryz.f133, h0, h4, h8, v0, v4, v8, e1, e2, e3]
  · refine call_run Tryz.func133 rfl ⟨rfl, rfl⟩ ?_
    simp [Tryz.f133, h0, h4, h8, v0, v4, v8, e1, e2, e3]
theorem leN_zeros : ∀ (l : List UInt8) (k : Nat), leN (l ++ List.replicate k 0) = leN l
  | [], 0 => rfl
  | [], k + 1 => by
    have h := leN_zeros [] k
    simp only [List.nil_append] at h ⊢
    rw [List.replicate_succ, leN.eq_2]
    rw [h]
    rfl
  | c :: l, k => by rw [List.cons_append, leN, leN, leN_zeros l k]
theorem wordL_zeros (l : List UInt8) (k a : Nat) : wordL (l ++ List.replicate k 0) a = wordL l a := by
  unfold wordL
  rw [List.drop_append, List.take_append, List.drop_replicate, List.take_replicate, leN_zeros]
theorem addT_zeros (l : List UInt8) (k : Nat) (t : Int × Int × Int) : addT (l ++ List.replicate k 0) t = addT l t := by
  obtain ⟨x, y, z⟩ := t
  simp only [addT, wordL_zeros]
set_option maxHeartbeats 4000000 in
theorem lookup_ev [MaxL] [TxtC] (s : Sl UInt8) (_ : s.l.length < 4611686018427387904) : call cx 112 [(.vsl s.nil (ofBytes s.l) s.l.length)] [] = some (.int .u64 (lookN s.l), []) := by
  refine call_run Tryz.func112 rfl ⟨rfl, rfl⟩ ?_
  have hN : lookN s.l = lookR s.l (add32 3735928559 (IntKind.u32.wrap (s.l.length : Nat)), add32 3735928559 (IntKind.u32.wrap (s.l.length : Nat)), add32 3735928559 (IntKind.u32.wrap (s.l.length : Nat))) := rfl
  obtain ⟨n, hn⟩ : ∃ n, IntKind.u32.wrap (3735928559 + IntKind.u32.wrap (s.l.length : Nat)) = n := ⟨_, rfl⟩
  have hn2 : add32 3735928559 (IntKind.u32.wrap (s.l.length : Nat)) = n := hn
  rw [hn2] at hN
  clear hn2
  generalize lookN s.l = res at *
  simp [Tryz.f112, hn]
  refine Run.loopThen (fun (q : List UInt8 × Int × Int × Int) e H' => q.1.length ≤ s.l.length ∧ (s.nil = true → q.1 = []) ∧ lookR q.1 q.2 = res ∧ look e 0 = some (.vsl s.nil (ofBytes q.1) q.1.length) ∧ look e 4 = some (.optr 0 3 0) ∧ H' = [some [.int .u32 q.2.1, .int .u32 q.2.2.1, .int .u32 q.2.2.2]]) (fun q => q.1.length) (s.l, n, n, n) ?_ ?_
  · simp [hN]
    exact s.h
  rintro ⟨l, x, y, z⟩ e H' ⟨hl, hnl, hR, k0, k4, rfl⟩
  simp only at hl hnl hR k0 k4
  by_cases h12 : 12 < l.length
  · have h12' : (12 : Int) < (l.length : Int) := by omega
    have hnn : s.nil = false := by
      cases hq : s.nil with
      | false => rfl
      | true => rw [hnl hq] at h12; simp at h12
    rw [hnn] at k0
    rw [lookR_more h12] at hR
    obtain ⟨⟨x1, y1, z1⟩, ha⟩ : ∃ t, addT (l.take 12) (x, y, z) = t := ⟨_, rfl⟩
    have hA := add_ev (l.take 12) (by rw [List.length_take]; omega) x y z ha [] (.inl rfl)
    have ha2 : addT l (x, y, z) = (x1, y1, z1) := by
      rw [← ha]
      simp only [addT, wordL, List.drop_take, List.take_take]
      rfl
    rw [ha2] at hR
    have hM := mix_ev x1 y1 z1 [] (.inl rfl)
    have t12 : List.take 12 (ofBytes l) = ofBytes (l.take 12) := by simp [ofBytes, List.map_take]
    have d12 : List.drop 12 (ofBytes l) = ofBytes (l.drop 12) := by simp [ofBytes, List.map_drop]
    have h12a : (12 : Int) ≤ (l.length : Int) := by omega
    have hdl : (l.drop 12).length = l.length - 12 := List.length_drop
    have htk : List.take (l.length - 12) (ofBytes (l.drop 12)) = ofBytes (l.drop 12) := List.take_of_length_le (by simp)
    generalize l.take 12 = p at *
    generalize l.drop 12 = l' at *
    simp [k0, k4, h12', hA, hM, h12a, t12, d12, htk]
    exact ⟨l', by omega, by omega, by simp [hnn], _, _, _, hR, ⟨hnn, rfl, by omega⟩, rfl, rfl, rfl⟩
  · have h12' : ¬ (12 : Int) < (l.length : Int) := by omega
    by_cases h0 : l.length = 0
    · have h0' : ¬ (0 : Int) < (l.length : Int) := by omega
      rw [lookR_nil h0] at hR
      subst hR
      have hp64 : (2 : Int) ^ min 32 IntKind.u64.bits = 4294967296 := by decide
      simp [k0, k4, h0, outT, hp64]
    · have h0' : (0 : Int) < (l.length : Int) := by omega
      have hnn : s.nil = false := by
        cases hq : s.nil with
        | false => rfl
        | true => rw [hnl hq] at h0; simp at h0
      rw [hnn] at k0
      have hp : (l ++ List.replicate (12 - l.length) 0).length = 12 := by rw [List.length_append, List.length_replicate]; omega
      have ha0 := addT_zeros l (12 - l.length) (x, y, z)
      obtain ⟨⟨x1, y1, z1⟩, ha⟩ : ∃ t, addT l (x, y, z) = t := ⟨_, rfl⟩
      rw [ha] at ha0
      obtain ⟨⟨x2, z2, y2⟩, hf⟩ : ∃ t, finI (x1, y1, z1) = t := ⟨_, rfl⟩
      rw [lookR_end h12 h0 (x := x2) (y := y2) (z := z2) (by rw [ha]; exact hf)] at hR
      subst hR
      have hA := add_ev _ hp x y z ha0 [none] (.inr rfl)
      have hF := last_ev x1 y1 z1 hf [none] (.inr rfl)
      have hp64 : (2 : Int) ^ min 32 IntKind.u64.bits = 4294967296 := by decide
      have h0n : 0 < l.length := by omega
      have hmin : min l.length 12 = l.length := by omega
      have hset : setRange [D.int .u8 0, D.int .u8 0, D.int .u8 0, D.int .u8 0, D.int .u8 0, D.int .u8 0, D.int .u8 0, D.int .u8 0, D.int .u8 0, D.int .u8 0, D.int .u8 0, D.int .u8 0] 0 (ofBytes l) = ofBytes (l ++ List.replicate (12 - l.length) 0) := by
        show setRange (List.replicate 12 (D.int .u8 0)) 0 (ofBytes l) = _
        unfold setRange
        rw [List.take_zero, Nat.zero_add, ofBytes_len, List.drop_replicate]
        simp [ofBytes]
      have htk : List.take l.length (ofBytes l) = ofBytes l := List.take_of_length_le (by simp)
      generalize l ++ List.replicate (12 - l.length) 0 = p at *
      simp [-setRange_eq, k0, k4, h12', h0n, hA, hF, outT, hp64, hmin, hset, htk, hp]
end Go.Ev.S
namespace Go.Ev.S
open Go Go.Proofs Go.Ev
end Go.Ev.S
namespace Go.Proofs
open Go.Shelf
def Tryz.lays169_ren : Go.Shelf.Ren := ⟨fun | 169 => 47 | n => n, fun | 70 => 76 | 9 => 9 | 0 => 0 | 72 => 78 | 37 => 31 | 127 => 121 | 3 => 3 | 5 => 5 | n => n, fun | n => n⟩
theorem Tryz.lays169 : Go.Proofs.Lays.n169 Tryz.prog Tryz.lays169_ren := {
  mixed := by kernel_rfl
  f169 := Tryz.func47.trans (congrArg some (by kernel_rfl))
  t0 := Tryz.underlying0
  a0 := Tryz.isAgg0
  z0 := Tryz.sizeOf0
  v0 := Tryz.zeroValue0
  t3 := Tryz.underlying3
  a3 := Tryz.isAgg3
  z3 := Tryz.sizeOf3
  v3 := Tryz.zeroValue3
  t9 := Tryz.underlying9
  a9 := Tryz.isAgg9
  z9 := Tryz.sizeOf9
  v9 := Tryz.zeroValue9
  t37 := Tryz.underlying31
  a37 := Tryz.isAgg31
  z37 := Tryz.sizeOf31
  v37 := Tryz.zeroValue31
  t70 := Tryz.underlying76
  a70 := Tryz.isAgg76
  z70 := Tryz.sizeOf76
  v70 := Tryz.zeroValue76
  t72 := Tryz.underlying78
  a72 := Tryz.isAgg78
  z72 := Tryz.sizeOf78
  v72 := Tryz.zeroValue78
  t127 := Tryz.underlying121
  a127 := Tryz.isAgg121
  z127 := Tryz.sizeOf121
  v127 := Tryz.zeroValue121 }
theorem Tryz.Builder_Extra_169 : Builder.Extra Tryz.prog Tryz.lays169_ren := {
  sizeBuilder := by kernel_rfl
  liesBuilder := by kernel_rfl
  t5 := Tryz.underlying5
  a5 := Tryz.isAgg5
  z5 := Tryz.sizeOf5
  v5 := Tryz.zeroValue5
  infoByte := by kernel_rfl
  cellsByte := by kernel_rfl
  sizeByte := by kernel_rfl
  neB5 := by decide }
def Tryz.lays129_ren : Go.Shelf.Ren := ⟨fun | 129 => 156 | n => n, fun | 53 => 24 | 3 => 3 | 4 => 4 | 46 => 114 | 5 => 5 | 9 => 9 | n => n, fun | n => n⟩
theorem Tryz.lays129 : Go.Proofs.Lays.n129 Tryz.prog Tryz.lays129_ren := {
  mixed := by kernel_rfl
  f129 := Tryz.func156.trans (congrArg some (by kernel_rfl))
  t3 := Tryz.underlying3
  a3 := Tryz.isAgg3
  z3 := Tryz.sizeOf3
  v3 := Tryz.zeroValue3
  t4 := Tryz.underlying4
  a4 := Tryz.isAgg4
  z4 := Tryz.sizeOf4
  v4 := Tryz.zeroValue4
  t5 := Tryz.underlying5
  a5 := Tryz.isAgg5
  z5 := Tryz.sizeOf5
  v5 := Tryz.zeroValue5
  t9 := Tryz.underlying9
  a9 := Tryz.isAgg9
  z9 := Tryz.sizeOf9
  v9 := Tryz.zeroValue9
  t46 := Tryz.underlying114
  a46 := Tryz.isAgg114
  z46 := Tryz.sizeOf114
  v46 := Tryz.zeroValue114
  t53 := Tryz.underlying24
  a53 := Tryz.isAgg24
  z53 := Tryz.sizeOf24
  v53 := Tryz.zeroValue24 }
def Tryz.lays283_ren : Go.Shelf.Ren := ⟨fun | 283 => 129 | n => n, fun | 3 => 3 | 9 => 9 | 4 => 4 | n => n, fun | n => n⟩
theorem Tryz.lays283 : Go.Proofs.Lays.n283 Tryz.prog Tryz.lays283_ren := {
  mixed := by kernel_rfl
  f283 := Tryz.func129.trans (congrArg some (by kernel_rfl))
  t3 := Tryz.underlying3
  a3 := Tryz.isAgg3
  z3 := Tryz.sizeOf3
  v3 := Tryz.zeroValue3
  t4 := Tryz.underlying4
  a4 := Tryz.isAgg4
  z4 := Tryz.sizeOf4
  v4 := Tryz.zeroValue4
  t9 := Tryz.underlying9
  a9 := Tryz.isAgg9
  z9 := Tryz.sizeOf9
  v9 := Tryz.zeroValue9 }
def Tryz.laysM316_ren : Go.Shelf.Ren := ⟨fun | 316 => 168 | n => n, fun | 9 => 9 | 3 => 3 | 4 => 4 | 37 => 31 | 0 => 0 | 127 => 121 | 5 => 5 | n => n, fun | n => n⟩
theorem Tryz.laysM316 : Go.Proofs.LaysM.n316 Tryz.prog Tryz.laysM316_ren := {
  mixed := by kernel_rfl
  f316 := Tryz.func168.trans (congrArg some (by kernel_rfl))
  t0 := Tryz.underlying0
  a0 := Tryz.isAgg0
  z0 := Tryz.sizeOf0
  v0 := Tryz.zeroValue0
  t3 := Tryz.underlying3
  a3 := Tryz.isAgg3
  z3 := Tryz.sizeOf3
  v3 := Tryz.zeroValue3
  t4 := Tryz.underlying4
  a4 := Tryz.isAgg4
  z4 := Tryz.sizeOf4
  v4 := Tryz.zeroValue4
  t9 := Tryz.underlying9
  a9 := Tryz.isAgg9
  z9 := Tryz.sizeOf9
  v9 := Tryz.zeroValue9
  t37 := Tryz.underlying31
  a37 := Tryz.isAgg31
  z37 := Tryz.sizeOf31
  v37 := Tryz.zeroValue31
  t127 := Tryz.underlying121
  a127 := Tryz.isAgg121
  z127 := Tryz.sizeOf121
  v127 := Tryz.zeroValue121
  t5 := Tryz.underlying5
  a5 := Tryz.isAgg5
  z5 := Tryz.sizeOf5
  v5 := Tryz.zeroValue5
  i0 := by kernel_rfl
  i3 := by kernel_rfl
  i4 := by kernel_rfl
  i5 := by kernel_rfl
  i9 := by kernel_rfl
  i37 := by kernel_rfl
  i127 := by kernel_rfl }
def Tryz.lays219_ren : Go.Shelf.Ren := ⟨fun | 219 => 136 | 217 => 161 | 225 => 152 | 224 => 162 | 267 => 163 | 266 => 146 | 314 => 176 | n => n, fun | 9 => 9 | 3 => 3 | 4 => 4 | 5 => 5 | 46 => 114 | 146 => 208 | 51 => 65 | n => n, fun | 1 => 0 | n => n⟩
theorem Tryz.lays219 : Go.Proofs.Lays.n219 Tryz.prog Tryz.lays219_ren := {
  mixed := by kernel_rfl
  f217 := Tryz.func161.trans (congrArg some (by kernel_rfl))
  f219 := Tryz.func136.trans (congrArg some (by kernel_rfl))
  f224 := Tryz.func162.trans (congrArg some (by kernel_rfl))
  f225 := Tryz.func152.trans (congrArg some (by kernel_rfl))
  f266 := Tryz.func146.trans (congrArg some (by kernel_rfl))
  f267 := Tryz.func163.trans (congrArg some (by kernel_rfl))
  f314 := Tryz.func176.trans (congrArg some (by kernel_rfl))
  t3 := Tryz.underlying3
  a3 := Tryz.isAgg3
  z3 := Tryz.sizeOf3
  v3 := Tryz.zeroValue3
  t4 := Tryz.underlying4
  a4 := Tryz.isAgg4
  z4 := Tryz.sizeOf4
  v4 := Tryz.zeroValue4
  t5 := Tryz.underlying5
  a5 := Tryz.isAgg5
  z5 := Tryz.sizeOf5
  v5 := Tryz.zeroValue5
  t9 := Tryz.underlying9
  a9 := Tryz.isAgg9
  z9 := Tryz.sizeOf9
  v9 := Tryz.zeroValue9
  t46 := Tryz.underlying114
  a46 := Tryz.isAgg114
  z46 := Tryz.sizeOf114
  v46 := Tryz.zeroValue114
  t51 := Tryz.underlying65
  a51 := Tryz.isAgg65
  z51 := Tryz.sizeOf65
  v51 := Tryz.zeroValue65
  t146 := Tryz.underlying208
  a146 := Tryz.isAgg208
  z146 := Tryz.sizeOf208
  v146 := Tryz.zeroValue208
  g1 := by kernel_rfl }
def Tryz.lays185_ren : Go.Shelf.Ren := ⟨fun | 185 => 137 | 187 => 164 | 115 => 86 | 253 => 165 | 224 => 162 | 254 => 166 | 255 => 177 | 291 => 178 | n => n, fun | 37 => 31 | 3 => 3 | 4 => 4 | 0 => 0 | 5 => 5 | 46 => 114 | 9 => 9 | 146 => 208 | 51 => 65 | n => n, fun | 1 => 0 | n => n⟩
theorem Tryz.lays185 : Go.Proofs.Lays.n185 Tryz.prog Tryz.lays185_ren := {
  mixed := by kernel_rfl
  f115 := Tryz.func86.trans (congrArg some (by kernel_rfl))
  f185 := Tryz.func137.trans (congrArg some (by kernel_rfl))
  f187 := Tryz.func164.trans (congrArg some (by kernel_rfl))
  f224 := Tryz.func162.trans (congrArg some (by kernel_rfl))
  f253 := Tryz.func165.trans (congrArg some (by kernel_rfl))
  f254 := Tryz.func166.trans (congrArg some (by kernel_rfl))
  f255 := Tryz.func177.trans (congrArg some (by kernel_rfl))
  f291 := Tryz.func178.trans (congrArg some (by kernel_rfl))
  t0 := Tryz.underlying0
  a0 := Tryz.isAgg0
  z0 := Tryz.sizeOf0
  v0 := Tryz.zeroValue0
  t3 := Tryz.underlying3
  a3 := Tryz.isAgg3
  z3 := Tryz.sizeOf3
  v3 := Tryz.zeroValue3
  t4 := Tryz.underlying4
  a4 := Tryz.isAgg4
  z4 := Tryz.sizeOf4
  v4 := Tryz.zeroValue4
  t5 := Tryz.underlying5
  a5 := Tryz.isAgg5
  z5 := Tryz.sizeOf5
  v5 := Tryz.zeroValue5
  t9 := Tryz.underlying9
  a9 := Tryz.isAgg9
  z9 := Tryz.sizeOf9
  v9 := Tryz.zeroValue9
  t37 := Tryz.underlying31
  a37 := Tryz.isAgg31
  z37 := Tryz.sizeOf31
  v37 := Tryz.zeroValue31
  t46 := Tryz.underlying114
  a46 := Tryz.isAgg114
  z46 := Tryz.sizeOf114
  v46 := Tryz.zeroValue114
  t51 := Tryz.underlying65
  a51 := Tryz.isAgg65
  z51 := Tryz.sizeOf65
  v51 := Tryz.zeroValue65
  t146 := Tryz.underlying208
  a146 := Tryz.isAgg208
  z146 := Tryz.sizeOf208
  v146 := Tryz.zeroValue208
  g1 := by kernel_rfl }
def Tryz.laysM185_ren : Go.Shelf.Ren := ⟨fun | 185 => 137 | 187 => 164 | 115 => 86 | 253 => 165 | 224 => 162 | 254 => 166 | 255 => 177 | 291 => 178 | n => n, fun | 37 => 31 | 3 => 3 | 4 => 4 | 0 => 0 | 5 => 5 | 46 => 114 | 9 => 9 | 146 => 208 | 51 => 65 | n => n, fun | 1 => 0 | n => n⟩
theorem Tryz.laysM185 : Go.Proofs.LaysM.n185 Tryz.prog Tryz.laysM185_ren := {
  mixed := by kernel_rfl
  f115 := Tryz.func86.trans (congrArg some (by kernel_rfl))
  f185 := Tryz.func137.trans (congrArg some (by kernel_rfl))
  f187 := Tryz.func164.trans (congrArg some (by kernel_rfl))
  f224 := Tryz.func162.trans (congrArg some (by kernel_rfl))
  f253 := Tryz.func165.trans (congrArg some (by kernel_rfl))
  f254 := Tryz.func166.trans (congrArg some (by kernel_rfl))
  f255 := Tryz.func177.trans (congrArg some (by kernel_rfl))
  f291 := Tryz.func178.trans (congrArg some (by kernel_rfl))
  t0 := Tryz.underlying0
  a0 := Tryz.isAgg0
  z0 := Tryz.sizeOf0
  v0 := Tryz.zeroValue0
  t3 := Tryz.underlying3
  a3 := Tryz.isAgg3
  z3 := Tryz.sizeOf3
  v3 := Tryz.zeroValue3
  t4 := Tryz.underlying4
  a4 := Tryz.isAgg4
  z4 := Tryz.sizeOf4
  v4 := Tryz.zeroValue4
  t5 := Tryz.underlying5
  a5 := Tryz.isAgg5
  z5 := Tryz.sizeOf5
  v5 := Tryz.zeroValue5
  t9 := Tryz.underlying9
  a9 := Tryz.isAgg9
  z9 := Tryz.sizeOf9
  v9 := Tryz.zeroValue9
  t37 := Tryz.underlying31
  a37 := Tryz.isAgg31
  z37 := Tryz.sizeOf31
  v37 := Tryz.zeroValue31
  t46 := Tryz.underlying114
  a46 := Tryz.isAgg114
  z46 := Tryz.sizeOf114
  v46 := Tryz.zeroValue114
  t51 := Tryz.underlying65
  a51 := Tryz.isAgg65
  z51 := Tryz.sizeOf65
  v51 := Tryz.zeroValue65
  t146 := Tryz.underlying208
  a146 := Tryz.isAgg208
  z146 := Tryz.sizeOf208
  v146 := Tryz.zeroValue208
  g1 := by kernel_rfl
  i0 := by kernel_rfl
  i3 := by kernel_rfl
  i4 := by kernel_rfl
  i5 := by kernel_rfl
  i9 := by kernel_rfl
  i37 := by kernel_rfl
  i46 := by kernel_rfl
  i51 := by kernel_rfl
  i146 := by kernel_rfl
  m1 := by kernel_rfl
  s1_3 := fun w h => Go.Proofs.cell_of_shapedOpen_int (zero := #[.int .i64 0]) (t := 3) h (of_decide_eq_true (by kernel_rfl)) (by kernel_rfl) rfl (by kernel_rfl) (by kernel_rfl) Tryz.underlying3 }
end Go.Proofs
namespace Go.Proofs
open Go.Shelf
def Tryz.layD_ren : Go.Shelf.Ren := ⟨fun | 32 => 151 | 49 => 173 | n => n, fun | 0 => 0 | 3 => 3 | 4 => 4 | 5 => 5 | 21 => 21 | 25 => 114 | 30 => 31 | 33 => 189 | 66 => 214 | 68 => 216 | 69 => 217 | n => n, fun | 2 => 4 | 3 => 5 | n => n⟩
set_option maxRecDepth 100000 in
theorem Tryz.layD : Lays7.n32 Tryz.prog Tryz.layD_ren := {
  mixed := by kernel_rfl
  f32 := Tryz.func151.trans (congrArg some (by kernel_rfl))
  f49 := Tryz.func173.trans (congrArg some (by kernel_rfl))
  t0 := Tryz.underlying0
  a0 := Tryz.isAgg0
  z0 := Tryz.sizeOf0
  v0 := Tryz.zeroValue0
  i0 := by kernel_rfl
  t3 := Tryz.underlying3
  a3 := Tryz.isAgg3
  z3 := Tryz.sizeOf3
  v3 := Tryz.zeroValue3
  i3 := by kernel_rfl
  t4 := Tryz.underlying4
  a4 := Tryz.isAgg4
  z4 := Tryz.sizeOf4
  v4 := Tryz.zeroValue4
  i4 := by kernel_rfl
  t5 := Tryz.underlying5
  a5 := Tryz.isAgg5
  z5 := Tryz.sizeOf5
  v5 := Tryz.zeroValue5
  i5 := by kernel_rfl
  t21 := Tryz.underlying21
  a21 := Tryz.isAgg21
  z21 := Tryz.sizeOf21
  v21 := Tryz.zeroValue21
  i21 := by kernel_rfl
  t25 := Tryz.underlying114
  a25 := Tryz.isAgg114
  z25 := Tryz.sizeOf114
  v25 := Tryz.zeroValue114
  i25 := by kernel_rfl
  t30 := Tryz.underlying31
  a30 := Tryz.isAgg31
  z30 := Tryz.sizeOf31
  v30 := Tryz.zeroValue31
  i30 := by kernel_rfl
  t33 := Tryz.underlying189
  a33 := Tryz.isAgg189
  z33 := Tryz.sizeOf189
  v33 := Tryz.zeroValue189
  i33 := by kernel_rfl
  t66 := Tryz.underlying214
  a66 := Tryz.isAgg214
  z66 := Tryz.sizeOf214
  t68 := Tryz.underlying216
  a68 := Tryz.isAgg216
  z68 := Tryz.sizeOf216
  v68 := Tryz.zeroValue216
  i68 := by kernel_rfl
  t69 := Tryz.underlying217
  a69 := Tryz.isAgg217
  z69 := Tryz.sizeOf217
  v69 := Tryz.zeroValue217
  i69 := by kernel_rfl
  g2 := by kernel_rfl
  g3 := by kernel_rfl }
end Go.Proofs
namespace Go.Ev.S
open Go Go.Proofs Go.Ev
theorem ok_0 [MaxL] [TxtC] : okRange cx 0 40 = true := by kernel_rfl
theorem ok_40 [MaxL] [TxtC] : okRange cx 40 40 = true := by kernel_rfl
theorem ok_80 [MaxL] [TxtC] : okRange cx 80 40 = true := by kernel_rfl
theorem ok_120 [MaxL] [TxtC] : okRange cx 120 40 = true := by kernel_rfl
theorem ok_160 [MaxL] [TxtC] : okRange cx 160 40 = true := by kernel_rfl
theorem ok_200 [MaxL] [TxtC] : okRange cx 200 12 = true := by kernel_rfl
theorem fsize : Tryz.prog.funcs.size = 212 := by kernel_rfl
theorem all_ok [MaxL] [TxtC] (f : Nat) (h : f < 212) : okOne cx f = true := by
  rcases Nat.lt_or_ge f 40 with h0 | h0
  · exact okRange_get ok_0 (by omega) (by omega)
  rcases Nat.lt_or_ge f 80 with h1 | h1
  · exact okRange_get ok_40 (by omega) (by omega)
  rcases Nat.lt_or_ge f 120 with h2 | h2
  · exact okRange_get ok_80 (by omega) (by omega)
  rcases Nat.lt_or_ge f 160 with h3 | h3
  · exact okRange_get ok_120 (by omega) (by omega)
  rcases Nat.lt_or_ge f 200 with h4 | h4
  · exact okRange_get ok_160 (by omega) (by omega)
  exact okRange_get ok_200 (by omega) (by omega)
set_option maxRecDepth 100000 in
theorem good [MaxL] [TxtC] (hT : TxtRun) : Good cx where
  mixed := by kernel_rfl
  okc f fn c hf hc hb := (okOne_get (all_ok f (by rw [← fsize]; exact (Array.getElem?_eq_some_iff.1 hf).1)) hf).2 c hc hb
  ng f fn hf := (okOne_get (all_ok f (by rw [← fsize]; exact (Array.getElem?_eq_some_iff.1 hf).1)) hf).1
  ext f fn args d hf hn h ok w ι H vs hs hv := by
    by_cases h125 : f = 125
    · subst h125
      rw [ex125] at h
      have hff := Tryz.func125
      rw [show cx.P.funcs[125]? = Tryz.prog.funcs[125]? from rfl, hff] at hf
      injection hf with hf
      subst hf
      exact cmpExt_run (P := cx.P) hff rfl (by kernel_rfl) (by kernel_rfl) (by kernel_rfl) h hv
    by_cases h146 : f = 146
    · subst h146
      rw [ex146] at h
      have hff := Tryz.func146
      rw [show cx.P.funcs[146]? = Tryz.prog.funcs[146]? from rfl, hff] at hf
      injection hf with hf
      subst hf
      exact idxBExt_run (P := cx.P) hff rfl (by kernel_rfl) (by kernel_rfl) (by kernel_rfl) h hv
    · have : cx.ext f args = none := by
        show extT f args = none
        unfold extT
        split
        · exact absurd rfl h125
        · exact absurd rfl h146
        · rfl
      rw [this] at h
      cases h
  con f args H r H' h ok w ι vs hs hv := by
    by_cases h136 : f = 136
    · subst h136
      rw [co136] at h
      exact conIdx_run (X := cx) (m := MaxL.m) Tryz.lays219 rfl h hs hv
    by_cases h137 : f = 137
    · subst h137
      rw [co137] at h
      exact conBIdx_run (X := cx) (m := MaxL.m) Tryz.lays185 rfl h hs hv
    by_cases h168 : f = 168
    · subst h168
      rw [co168] at h
      exact conClone_run (X := cx) Tryz.laysM316 h hs hv
    by_cases h156 : f = 156
    · subst h156
      rw [co156] at h
      exact conLen64_run (X := cx) Tryz.lays129 h hs hv
    by_cases h129 : f = 129
    · subst h129
      rw [co129] at h
      exact conSmall_run (X := cx) Tryz.lays283 h hs hv
    by_cases h14 : f = 14
    · subst h14
      rw [co14] at h
      exact hT (f := 14) h hs hv
    by_cases h120 : f = 120
    · subst h120
      rw [co120] at h
      exact hT (f := 120) h hs hv
    by_cases h151 : f = 151
    · subst h151
      rw [co151] at h
      exact conDec_run (X := cx) Tryz.layD rfl rfl h hs hv
    by_cases h152 : f = 152
    · subst h152
      rw [co152] at h
      exact conIS_run (m := MaxL.m) (g := 0) Tryz.func152 rfl (by kernel_rfl) (by kernel_rfl) (by kernel_rfl) (by kernel_rfl) rfl h hs hv
    · have : cx.con f args H = none := by
        show conT f args H = none
        unfold conT
        split
        · exact absurd rfl h136
        · exact absurd rfl h137
        · exact absurd rfl h168
        · exact absurd rfl h156
        · exact absurd rfl h129
        · exact absurd rfl h14
        · exact absurd rfl h120
        · exact absurd rfl h151
        · exact absurd rfl h152
        · rfl
      rw [this] at h
      cases h
end Go.Ev.S
namespace Go.Ev.S
open Go Go.Proofs Go.Ev
theorem globs [MaxL] [TxtC] {W : World} (h : laidMet Tryz.prog YthhekddmmakfdaaGreatDoor.Rows.wireSaysRow.laid W) (hm0 : W.cell? ⟨0, 0, none⟩ = some (.int .i64 MaxL.m)) : ∀ g cs, cx.glob g = some cs → Rep (· < W.heap.size) W iota0 [] (.vptr cs) (.pointer (some ⟨g, 0, none⟩)) := by
  unfold YthhekddmmakfdaaGreatDoor.Rows.wireSaysRow at h
  have hu8 : Lib.Utf8Tabs 4 5 W := by
    obtain ⟨ps0, hl0, _⟩ := h
    have x3 := Lib.LaidVars_reads hl0 _ _ (List.mem_of_getElem? (i := 6) rfl)
    have x4 := Lib.LaidVars_reads hl0 _ _ (List.mem_of_getElem? (i := 3) rfl)
    have e3 : YthhekddmmakfdaaGreatDoor.Rows.laid_unicode_utf8_first = Lib.firstData := by kernel_rfl
    have e4 : YthhekddmmakfdaaGreatDoor.Rows.laid_unicode_utf8_acceptRanges = Lib.acceptData := by kernel_rfl
    rw [e3] at x3
    rw [e4] at x4
    exact utf8Tabs_of_readsT (ρ := (⟨fun n => n, fun | 5 => 5 | 119 => 214 | 138 => 216 | 139 => 217 | n => n, fun | 3 => 4 | 4 => 5 | n => n⟩ : Go.Shelf.Ren)) ⟨Tryz.underlying5, Tryz.underlying214, Tryz.underlying216, Tryz.underlying217⟩ ⟨by kernel_rfl, by kernel_rfl, by kernel_rfl, by kernel_rfl, by kernel_rfl, by kernel_rfl, by kernel_rfl⟩ x3 x4
  have tu8 := rep_u8 hu8
  have t6 := rep_tab (g := 6) (zs := gz6) (Lib.tabIs_of_head (g := 6) (t := 218) (e := 5) (n := 32) (k := .u8) (by kernel_rfl) (by kernel_rfl) (by kernel_rfl) (by kernel_rfl) (by kernel_rfl) (by kernel_rfl) h) (by kernel_rfl)
  replace h := h.tail
  have t7 := rep_tab (g := 7) (zs := gz7) (Lib.tabIs_of_head (g := 7) (t := 219) (e := 5) (n := 64) (k := .u8) (by kernel_rfl) (by kernel_rfl) (by kernel_rfl) (by kernel_rfl) (by kernel_rfl) (by kernel_rfl) h) (by kernel_rfl)
  replace h := h.tail
  have t1 := rep_tab (g := 1) (zs := gz1) (Lib.tabIs_of_head (g := 1) (t := 194) (e := 24) (n := 20) (k := .u64) (by kernel_rfl) (by kernel_rfl) (by kernel_rfl) (by kernel_rfl) (by kernel_rfl) (by kernel_rfl) h) (by kernel_rfl)
  replace h := h.tail
  replace h := h.tail
  have t3 := rep_err (g := 3) (text := gs3) (by kernel_rfl) (laid_sentinel (g := 3) (ti := 85) (tp := 211) (te := 213) (ts := 9) h (by kernel_rfl) (by kernel_rfl) Tryz.underlying85 (err_row (base := "errors.errorString") (by decide) (by kernel_rfl) (by kernel_rfl) (by decide)) Tryz.underlying211 Tryz.underlying213 rfl rfl (by kernel_rfl) (by kernel_rfl) (by kernel_rfl))
  replace h := h.tail
  have t2 := rep_err (g := 2) (text := gs2) (by kernel_rfl) (laid_sentinel (g := 2) (ti := 85) (tp := 211) (te := 213) (ts := 9) h (by kernel_rfl) (by kernel_rfl) Tryz.underlying85 (err_row (base := "errors.errorString") (by decide) (by kernel_rfl) (by kernel_rfl) (by decide)) Tryz.underlying211 Tryz.underlying213 rfl rfl (by kernel_rfl) (by kernel_rfl) (by kernel_rfl))
  replace h := h.tail
  intro g cs hg
  have hgl : globT g = some cs := hg
  unfold globT at hgl
  split at hgl
  · cases hgl; exact t1
  · cases hgl; exact t2
  · cases hgl; exact t3
  · cases hgl; exact t6
  · cases hgl; exact t7
  · cases hgl; exact rep_one hm0
  · cases hgl; exact tu8.1
  · cases hgl; exact tu8.2
  · cases hgl
end Go.Ev.S
namespace Go.Ev.S
open Go Go.Proofs Go.Ev
theorem hexs_take {l : List UInt8} {k : Nat} (h : k < l.length) : hexs (l.take (k + 1)) = hexs (l.take k) ++ [hexc (l[k].toNat / 16), hexc (l[k].toNat % 16)] := by
  rw [List.take_succ_eq_append_getElem h, hexs_append]
  rfl
set_option maxHeartbeats 2000000 in
theorem hex_ev [MaxL] [TxtC] (l : List UInt8) (hl : l.length = 16) : call cx 42 [.agg (ofBytes l)] [] = some (.str (hexs l), []) := by
  refine call_run Tryz.func42 rfl ⟨rfl, rfl⟩ ?_
  have ht : List.take 16 (ofBytes l) = ofBytes l := List.take_of_length_le (by simp; omega)
  have hl2 : 16 ≤ l.length := by omega
  simp [Tryz.f42, ht, hl2]
  refine Run.loopThen (fun (k : Nat) e H' => k ≤ 16 ∧ look e 6 = some (.agg (ofBytes l)) ∧ look e 7 = some (.int .i64 k) ∧
      ((k = 0 ∧ look e 3 = some (.vsl true [] 0) ∧ H' = [some (ofBytes l)]) ∨
       (∃ w, look e 3 = some (.osl 1 (hexs (l.take k)).length 0 (hexs (l.take k)).length 1) ∧ H' = [w, some (ofBytes (hexs (l.take k)))]) ∨
       (∃ w, look e 3 = some (.osl 0 (hexs (l.take k)).length 0 (hexs (l.take k)).length 1) ∧ H' = [some (ofBytes (hexs (l.take k))), w]))) (fun k => 16 - k) 0 ?_ ?_
  · simp
  rintro k e H' ⟨hk, k6, k7, hH⟩
  by_cases hlt : k < 16
  · have hlt' : (k : Int) < 16 := by omega
    have hkl : k < l.length := by omega
    have hw : IntKind.i64.wrap ((k : Int) + 1) = ((k + 1 : Nat) : Int) := by rw [wrap_i64] <;> omega
    have hat := ofBytes_at hkl
    have hsn := hexs_take hkl
    have hb := l[k].toNat_lt
    have ha := and15_u8 l[k]
    have hp4 : (2 : Int) ^ min 4 IntKind.u8.bits = 16 := by decide
    have hf := fdiv16 l[k].toNat
    have d1 := digL_at (l[k].toNat / 16) (by omega)
    have d2 := digL_at (l[k].toNat % 16) (by omega)
    simp only [digL] at d1 d2
    have hget : (ofBytes l)[k]? = some (.int .u8 l[k].toNat) := by
      rw [List.getElem?_eq_getElem (by simpa using hkl), ofBytes_get]
    have hlen : (hexs (l.take k)).length = 2 * k := by rw [hexs_len, List.length_take]; omega
    generalize l[k] = b at *
    generalize hexc (b.toNat / 16) = c1 at *
    generalize hexc (b.toNat % 16) = c2 at *
    obtain ⟨m1, hm1⟩ : ∃ m, m = b.toNat / 16 := ⟨_, rfl⟩
    obtain ⟨m2, hm2⟩ : ∃ m, m = b.toNat % 16 := ⟨_, rfl⟩
    rw [← hm1] at hf d1
    rw [← hm2] at ha d2
    have hXl : (hexs (l.take (k + 1))).length = (hexs (l.take k)).length + 2 := by rw [hsn]; simp
    have hap : ofBytes (hexs (l.take k)) ++ [.int .u8 c1.toNat, .int .u8 c2.toNat] = ofBytes (hexs (l.take (k + 1))) := by rw [hsn]; simp [ofBytes]
    have hmx : (hexs (l.take k)).length + 2 ≤ maxBytes := Nat.le_trans (show _ ≤ 100 by omega) (by decide)
    rcases hH with ⟨rfl, k3, rfl⟩ | ⟨w, k3, rfl⟩ | ⟨w, k3, rfl⟩
    · simp at hap hXl
      have hm2 : 2 ≤ maxBytes := by decide
      simp [k3, k6, k7, hget, ha, hp4, hf, d1, d2, hm2]
      exact ⟨1, by omega, by omega, by simp, by rw [hXl]; simp [hexs], by rw [← hap]; simp [hexs, ofBytes]⟩
    · generalize hexs (l.take k) = X at *
      simp [k3, k6, k7, hlt', hw, hget, ha, hp4, hf, d1, d2, hap, hmx]
      exact ⟨k + 1, by omega, by omega, by simp, by rw [hXl], rfl⟩
    · generalize hexs (l.take k) = X at *
      simp [k3, k6, k7, hlt', hw, hget, ha, hp4, hf, d1, d2, hap, hmx]
      exact ⟨k + 1, by omega, by omega, by simp, by rw [hXl], rfl⟩
  · have hlt' : ¬ (k : Int) < 16 := by omega
    have hke : k = 16 := by omega
    subst hke
    have htk : l.take 16 = l := List.take_of_length_le (by omega)
    rw [htk] at hH
    rcases hH with ⟨h, _⟩ | ⟨w, k3, rfl⟩ | ⟨w, k3, rfl⟩
    · omega
    · simp [k3, k6, k7]
    · simp [k3, k6, k7]
end Go.Ev.S
namespace Go.Ev.S
open Go Go.Proofs Go.Ev
theorem idx_cases (sep : List UInt8) : ∀ (s : List UInt8) (n : Nat), (∃ i : Nat, idxN sep s n = ((n + i : Nat) : Int) ∧ i + sep.length ≤ s.length ∧ sep.isPrefixOf (s.drop i) = true) ∨ idxN sep s n = -1
  | [], n => by
    unfold idxN
    cases sep with
    | nil => exact .inl ⟨0, by simp⟩
    | cons a l => exact .inr (by simp)
  | b :: l, n => by
    unfold idxN
    by_cases h : sep.isPrefixOf (b :: l) = true
    · rw [if_pos h]
      refine .inl ⟨0, by simp, ?_, by simpa using h⟩
      have := List.IsPrefix.length_le (List.isPrefixOf_iff_prefix.1 h)
      simpa using this
    · rw [if_neg h]
      rcases idx_cases sep l (n + 1) with ⟨i, h1, h2, h3⟩ | h1
      · exact .inl ⟨i + 1, by rw [h1]; omega, by simp; omega, by simpa using h3⟩
      · exact .inr h1
theorem index_ev [MaxL] [TxtC] (s sep : List UInt8) (hs : s.length < 4294967281) : call cx 136 [.str s, .str sep] [] = some (.int .i64 (idxN sep s 0), []) := by
  refine call_con ?_
  rw [co136, conIdx, if_pos hs]
end Go.Ev.S
namespace Go.Ev.S
open Go Go.Proofs Go.Ev
theorem idxb_ev [MaxL] [TxtC] (s : List UInt8) (c : UInt8) : call cx 145 [.str s, .int .u8 c.toNat] [] = some (.int .i64 (idxB c s 0), []) := by
  have h0 : call cx 146 [.str s, .int .u8 c.toNat] [] = some (.int .i64 (idxB c s 0), []) := by
    rw [call_ext (X := cx) (f := 146) rfl Tryz.func146 rfl, ex146]
    simp [idxBExt]
  have h1 : call cx 161 [.str s, .int .u8 c.toNat] [] = some (.int .i64 (idxB c s 0), []) := by
    refine call_run Tryz.func161 rfl ⟨rfl, rfl⟩ ?_
    simp [Tryz.f161, h0]
  refine call_run Tryz.func145 rfl ⟨rfl, rfl⟩ ?_
  simp [Tryz.f145, h1]
theorem zero16_of : ofBytes zero16 = [.int .u8 0, .int .u8 0, .int .u8 0, .int .u8 0, .int .u8 0, .int .u8 0, .int .u8 0, .int .u8 0, .int .u8 0, .int .u8 0, .int .u8 0, .int .u8 0, .int .u8 0, .int .u8 0, .int .u8 0, .int .u8 0] := rfl
theorem set_bytesC (st : List UInt8) (j : Nat) (c : UInt8) (h : j < st.length) : setRange (ofBytes st) j [.int .u8 c.toNat] = ofBytes (st.set j c) := by
  unfold setRange ofBytes
  rw [List.set_eq_take_append_cons_drop, if_pos h]
  simp
set_option maxHeartbeats 2000000 in
theorem id_ev [MaxL] [TxtC] (s : List UInt8) (_ : s.length < 1000000) : call cx 119 [.str s] [] = some (.tup [.agg (ofBytes ((idP s).getD zero16)), .bool (idP s).isSome], []) := by
  refine call_run Tryz.func119 rfl ⟨rfl, rfl⟩ ?_
  have z16 := zero16_of
  have z16l : zero16.length = 16 := rfl
  have z16d : List.drop 16 (ofBytes zero16) = [] := rfl
  by_cases h32 : s.length = 32
  · have h32' : (s.length : Int) = 32 := by omega
    have hP : idP s = idGo s 0 zero16 := by unfold idP; rw [if_pos h32]
    rw [hP]
    simp [Tryz.f119, h32']
    rw [← z16]
    refine Run.loopThen (fun (q : Nat × List UInt8) e H' => q.1 ≤ 32 ∧ q.2.length = 16 ∧ idGo (s.drop q.1) q.1 q.2 = idGo s 0 zero16 ∧ H' = [some (ofBytes zero16), some (ofBytes q.2)] ∧ look e 0 = some (.str s) ∧ look e 2 = some (.optr 0 16 0) ∧ look e 4 = some (.optr 1 16 0) ∧
        look e 12 = some (.int .i64 32) ∧ look e 13 = some (.int .i64 (q.1 : Nat))) (fun q => 32 - q.1) (0, zero16) ?_ ?_
    · simp [zero16]
    rintro ⟨k, st⟩ e H' ⟨hk, hst, hgo, rfl, k0, k2, k4, k12, k13⟩
    simp only at hk hst hgo k13
    by_cases hlt : k < 32
    · have hlt' : (k : Int) < 32 := by omega
      have hks : k < s.length := by omega
      rw [List.drop_eq_getElem_cons hks, idGo] at hgo
      have hsk : s[k]? = some s[k] := List.getElem?_eq_getElem hks
      have hix := idxb_ev digL s[k]
      have hir := idx_range s[k] digL 0
      generalize s[k] = c at *
      simp only [digL] at hix
      have hw : IntKind.i64.wrap ((k : Int) + 1) = ((k + 1 : Nat) : Int) := by rw [wrap_i64] <;> omega
      rcases hir with hn | ⟨m, hm1, hm2⟩
      · rw [hn, if_pos (by omega)] at hgo
        simp only [digL] at hn
        rw [hn] at hix
        rw [← hgo]
        simp [k0, k2, k4, k12, k13, hlt', hsk, hix, ← z16, z16l, z16d]
      · rw [Nat.zero_add] at hm2
        have hm16 : m < 16 := hm1
        rw [hm2, if_neg (by omega)] at hgo
        simp only [digL] at hm2
        rw [hm2] at hix
        have hmn : ¬ (m : Int) < 0 := by omega
        have hmt : ((m : Nat) : Int).toNat = m := by omega
        rw [hmt] at hgo
        have hq : (k : Int).tdiv 2 = ((k / 2 : Nat) : Int) := (Int.ofNat_tdiv k 2).symm
        have hq2 : IntKind.i64.wrap ((k : Int) / 2) = ((k / 2 : Nat) : Int) := by rw [wrap_i64] <;> omega
        obtain ⟨j, hj⟩ : ∃ j, j = k / 2 := ⟨_, rfl⟩
        rw [← hj] at hgo hq hq2
        have hj16 : j < st.length := by omega
        have hj16' : (j : Int) < 16 := by omega
        have hat := ofBytes_at hj16
        have hgd : st.getD j 0 = st[j] := by rw [List.getD, List.getElem?_eq_getElem hj16]; rfl
        rw [hgd] at hgo
        have hwm : IntKind.u8.wrap (m : Int) = (m : Int) := by rw [wrap_u8] <;> omega
        have hor := shl4_u8 st[j] m hm16
        have hset := set_bytesC st j (st[j] <<< 4 ||| UInt8.ofNat m) hj16
        generalize st[j] = b at *
        generalize hx : b <<< 4 ||| UInt8.ofNat m = x at *
        have hj1 : j + 1 ≤ st.length := by omega
        have hj15 : j ≤ 15 := by omega
        have hp8 : (2 : Int) ^ min 4 IntKind.u8.bits = 16 := by decide
        have hsl : (st.set j x).length = 16 := by simpa using hst
        generalize st.set j x = st' at *
        simp [-setRange_eq, k0, k2, k4, k12, k13, hlt', hsk, hix, hmn, hq2, hj16', hat, hwm, hor, hp8, hset, hst, hj15, hw]
        exact ⟨k + 1, by omega, by omega, st', hsl, hgo, rfl, by simp⟩
    · have hlt' : ¬ (k : Int) < 32 := by omega
      rw [List.drop_eq_nil_of_le (by omega), idGo] at hgo
      rw [← hgo]
      have hl16 : 16 ≤ st.length := by omega
      have ht : List.take 16 (ofBytes st) = ofBytes st := List.take_of_length_le (by simp; omega)
      simp [k0, k2, k4, k12, k13, hlt', ht, hst, z16l, z16d]
  · have h32' : ¬ (s.length : Int) = 32 := by omega
    have hP : idP s = none := by unfold idP; rw [if_neg h32]
    rw [hP]
    simp [Tryz.f119, h32', ← z16, z16l, z16d]
end Go.Ev.S
