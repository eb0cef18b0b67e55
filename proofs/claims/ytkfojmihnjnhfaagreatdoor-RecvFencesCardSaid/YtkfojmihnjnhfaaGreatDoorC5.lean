import Derived.Test.YtkfojmihnjnhfaaGreatDoorC4
import Derived.Shelf.Strings.BuilderF
import Derived.Shelf.Strconv.Itoa0
import Derived.Shelf.Strconv.Itoa1
import Derived.Shelf.LaysM
import Derived.Shelf.Strconv.Clone
import Derived.Shelf.Strings.Search2
import Derived.Shelf.Bytes.SlIndexWhole
import Derived.Test.YtkfojmihnjnhfaaGreatDoorProg
import Derived.Shelf.Spec.DecodeRune
import Derived.Lib.ItoaMem
namespace Go.Ev.S
open Go Go.Proofs Go.Ev
section
variable [MaxL] [TxtC] (n0:Nat) (e:Env) (H:Heap)
@[simp] theorem en6_0:enter cx 6 n0 0 e H = enterK [0,1,2] 0 n0 e H:=rfl
@[simp] theorem en6_1:enter cx 6 n0 1 e H = enterK [0,1,2] 0 n0 e H:=rfl
@[simp] theorem en6_2:enter cx 6 n0 2 e H = enterK [0,1,2,7] 0 n0 e H:=rfl
@[simp] theorem en6_3:enter cx 6 n0 3 e H = enterK [] 0 n0 e H:=rfl
@[simp] theorem en6_4:enter cx 6 n0 4 e H = enterK [0,1,2,7] 0 n0 e H:=rfl
@[simp] theorem en6_5:enter cx 6 n0 5 e H = enterK [7] 0 n0 e H:=rfl
@[simp] theorem en6_6:enter cx 6 n0 6 e H = enterK [0,1,2,7] 0 n0 e H:=rfl
@[simp] theorem en6_7:enter cx 6 n0 7 e H = enterK [0,1,2,7,8] 0 n0 e H:=rfl
@[simp] theorem en6_8:enter cx 6 n0 8 e H = enterK [0,2,7,8,9] 0 n0 e H:=rfl
@[simp] theorem en6_9:enter cx 6 n0 9 e H = enterK [0,7,8,9,10] 0 n0 e H:=rfl
@[simp] theorem en6_10:enter cx 6 n0 10 e H = enterK [0,7,8,9,10,11,12] 0 n0 e H:=rfl
@[simp] theorem en6_11:enter cx 6 n0 11 e H = enterK [] 0 n0 e H:=rfl
@[simp] theorem en6_12:enter cx 6 n0 12 e H = enterK [0,7,8,9,10] 0 n0 e H:=rfl
@[simp] theorem en6_13:enter cx 6 n0 13 e H = enterK [0,7,8,9,10,13] 2 n0 e H:=rfl
@[simp] theorem en6_14:enter cx 6 n0 14 e H = enterK [0,7,8,9,10,13] 0 n0 e H:=rfl
@[simp] theorem en6_15:enter cx 6 n0 15 e H = enterK [0,7,8,9,10,13] 0 n0 e H:=rfl
@[simp] theorem en6_16:enter cx 6 n0 16 e H = enterK [] 0 n0 e H:=rfl
@[simp] theorem en6_17:enter cx 6 n0 17 e H = enterK [0,7,8,9,10,13] 0 n0 e H:=rfl
@[simp] theorem en6_18:enter cx 6 n0 18 e H = enterK [0,7,8,9,10,13,14] 0 n0 e H:=rfl
@[simp] theorem en6_19:enter cx 6 n0 19 e H = enterK [0,7,8,9,10,13,14,15] 0 n0 e H:=rfl
@[simp] theorem en6_20:enter cx 6 n0 20 e H = enterK [0,7,8,9,10,13,15,16,17] 0 n0 e H:=rfl
@[simp] theorem en6_21:enter cx 6 n0 21 e H = enterK [] 0 n0 e H:=rfl
@[simp] theorem en6_22:enter cx 6 n0 22 e H = enterK [7] 0 n0 e H:=rfl
@[simp] theorem en9_0:enter cx 9 n0 0 e H = enterK [] 0 n0 e H:=rfl
@[simp] theorem en9_1:enter cx 9 n0 1 e H = enterK [] 0 n0 e H:=rfl
@[simp] theorem en10_0:enter cx 10 n0 0 e H = enterK [0] 0 n0 e H:=rfl
@[simp] theorem en10_1:enter cx 10 n0 1 e H = enterK [1] 0 n0 e H:=rfl
@[simp] theorem en12_0:enter cx 12 n0 0 e H = enterK [0,1] 0 n0 e H:=rfl
@[simp] theorem en12_1:enter cx 12 n0 1 e H = enterK [0,1] 0 n0 e H:=rfl
@[simp] theorem en12_2:enter cx 12 n0 2 e H = enterK [0,5,6] 0 n0 e H:=rfl
@[simp] theorem en12_3:enter cx 12 n0 3 e H = enterK [] 0 n0 e H:=rfl
@[simp] theorem en12_4:enter cx 12 n0 4 e H = enterK [0,5] 0 n0 e H:=rfl
@[simp] theorem en12_5:enter cx 12 n0 5 e H = enterK [0,5,7] 0 n0 e H:=rfl
@[simp] theorem en12_6:enter cx 12 n0 6 e H = enterK [0,5,7] 0 n0 e H:=rfl
@[simp] theorem en12_7:enter cx 12 n0 7 e H = enterK [0,7] 0 n0 e H:=rfl
@[simp] theorem en12_8:enter cx 12 n0 8 e H = enterK [0,5,7] 0 n0 e H:=rfl
@[simp] theorem en12_9:enter cx 12 n0 9 e H = enterK [0,5,7] 0 n0 e H:=rfl
@[simp] theorem en12_10:enter cx 12 n0 10 e H = enterK [0,7] 0 n0 e H:=rfl
@[simp] theorem en12_11:enter cx 12 n0 11 e H = enterK [7] 0 n0 e H:=rfl
@[simp] theorem en14_0:enter cx 14 n0 0 e H = enterK [0] 0 n0 e H:=rfl
@[simp] theorem en14_1:enter cx 14 n0 1 e H = enterK [0] 0 n0 e H:=rfl
@[simp] theorem en14_2:enter cx 14 n0 2 e H = enterK [3] 0 n0 e H:=rfl
@[simp] theorem en14_3:enter cx 14 n0 3 e H = enterK [3,11,12] 0 n0 e H:=rfl
@[simp] theorem en14_4:enter cx 14 n0 4 e H = enterK [3,11,12] 0 n0 e H:=rfl
@[simp] theorem en14_5:enter cx 14 n0 5 e H = enterK [3,4,11,12] 0 n0 e H:=rfl
@[simp] theorem en14_6:enter cx 14 n0 6 e H = enterK [3,11,12] 0 n0 e H:=rfl
@[simp] theorem en14_7:enter cx 14 n0 7 e H = enterK [3] 0 n0 e H:=rfl
@[simp] theorem en16_0:enter cx 16 n0 0 e H = enterK [0,1] 0 n0 e H:=rfl
@[simp] theorem en16_1:enter cx 16 n0 1 e H = enterK [0,1] 0 n0 e H:=rfl
@[simp] theorem en16_2:enter cx 16 n0 2 e H = enterK [0,1,5] 0 n0 e H:=rfl
@[simp] theorem en16_3:enter cx 16 n0 3 e H = enterK [0,1,5] 1 n0 e H:=rfl
@[simp] theorem en16_4:enter cx 16 n0 4 e H = enterK [0,1,5] 0 n0 e H:=rfl
@[simp] theorem en16_5:enter cx 16 n0 5 e H = enterK [0,1,5,6] 0 n0 e H:=rfl
@[simp] theorem en16_6:enter cx 16 n0 6 e H = enterK [] 0 n0 e H:=rfl
@[simp] theorem en16_7:enter cx 16 n0 7 e H = enterK [] 0 n0 e H:=rfl
@[simp] theorem en17_0:enter cx 17 n0 0 e H = enterK [0] 0 n0 e H:=rfl
@[simp] theorem en17_1:enter cx 17 n0 1 e H = enterK [0] 0 n0 e H:=rfl
@[simp] theorem en18_0:enter cx 18 n0 0 e H = enterK [0] 0 n0 e H:=rfl
@[simp] theorem en18_1:enter cx 18 n0 1 e H = enterK [0] 0 n0 e H:=rfl
@[simp] theorem en19_0:enter cx 19 n0 0 e H = enterK [0,1,2] 0 n0 e H:=rfl
@[simp] theorem en19_1:enter cx 19 n0 1 e H = enterK [0,2,4] 0 n0 e H:=rfl
@[simp] theorem en19_2:enter cx 19 n0 2 e H = enterK [0,2,4,8] 0 n0 e H:=rfl
@[simp] theorem en19_3:enter cx 19 n0 3 e H = enterK [0,2,4,8,10] 0 n0 e H:=rfl
@[simp] theorem en19_4:enter cx 19 n0 4 e H = enterK [0,4,8,10] 0 n0 e H:=rfl
@[simp] theorem en19_5:enter cx 19 n0 5 e H = enterK [0,4,8,10] 0 n0 e H:=rfl
@[simp] theorem en19_6:enter cx 19 n0 6 e H = enterK [0,2,4,8,10] 0 n0 e H:=rfl
@[simp] theorem en19_7:enter cx 19 n0 7 e H = enterK [0,2,4,8,10] 0 n0 e H:=rfl
@[simp] theorem en19_8:enter cx 19 n0 8 e H = enterK [0,4,8,10] 0 n0 e H:=rfl
@[simp] theorem en19_9:enter cx 19 n0 9 e H = enterK [0,4,8,10] 0 n0 e H:=rfl
@[simp] theorem en19_10:enter cx 19 n0 10 e H = enterK [4,10,11,12] 0 n0 e H:=rfl
@[simp] theorem en19_11:enter cx 19 n0 11 e H = enterK [12] 0 n0 e H:=rfl
@[simp] theorem en19_12:enter cx 19 n0 12 e H = enterK [4,10,11] 0 n0 e H:=rfl
@[simp] theorem en19_13:enter cx 19 n0 13 e H = enterK [] 0 n0 e H:=rfl
@[simp] theorem en19_14:enter cx 19 n0 14 e H = enterK [11] 0 n0 e H:=rfl
@[simp] theorem en20_0:enter cx 20 n0 0 e H = enterK [0] 0 n0 e H:=rfl
@[simp] theorem en20_1:enter cx 20 n0 1 e H = enterK [0] 0 n0 e H:=rfl
@[simp] theorem en20_2:enter cx 20 n0 2 e H = enterK [0,3] 0 n0 e H:=rfl
@[simp] theorem en20_3:enter cx 20 n0 3 e H = enterK [0,3] 0 n0 e H:=rfl
@[simp] theorem en20_4:enter cx 20 n0 4 e H = enterK [0,3] 0 n0 e H:=rfl
@[simp] theorem en20_5:enter cx 20 n0 5 e H = enterK [] 0 n0 e H:=rfl
@[simp] theorem en20_6:enter cx 20 n0 6 e H = enterK [0] 0 n0 e H:=rfl
@[simp] theorem en21_0:enter cx 21 n0 0 e H = enterK [0] 0 n0 e H:=rfl
@[simp] theorem en21_1:enter cx 21 n0 1 e H = enterK [0,2] 0 n0 e H:=rfl
@[simp] theorem en21_2:enter cx 21 n0 2 e H = enterK [0,2,4] 0 n0 e H:=rfl
@[simp] theorem en21_3:enter cx 21 n0 3 e H = enterK [2,4,5,6] 0 n0 e H:=rfl
@[simp] theorem en21_4:enter cx 21 n0 4 e H = enterK [2,6] 0 n0 e H:=rfl
@[simp] theorem en21_5:enter cx 21 n0 5 e H = enterK [2,4,5] 0 n0 e H:=rfl
@[simp] theorem en22_0:enter cx 22 n0 0 e H = enterK [0] 0 n0 e H:=rfl
@[simp] theorem en22_1:enter cx 22 n0 1 e H = enterK [0,2] 0 n0 e H:=rfl
@[simp] theorem en22_2:enter cx 22 n0 2 e H = enterK [0,2,4] 0 n0 e H:=rfl
@[simp] theorem en22_3:enter cx 22 n0 3 e H = enterK [2,4,5,6] 0 n0 e H:=rfl
@[simp] theorem en22_4:enter cx 22 n0 4 e H = enterK [2,6] 0 n0 e H:=rfl
@[simp] theorem en22_5:enter cx 22 n0 5 e H = enterK [2,4,5] 0 n0 e H:=rfl
@[simp] theorem en23_0:enter cx 23 n0 0 e H = enterK [0] 0 n0 e H:=rfl
@[simp] theorem en23_1:enter cx 23 n0 1 e H = enterK [0] 0 n0 e H:=rfl
@[simp] theorem en24_0:enter cx 24 n0 0 e H = enterK [0,1] 0 n0 e H:=rfl
@[simp] theorem en24_1:enter cx 24 n0 1 e H = enterK [0,1] 0 n0 e H:=rfl
@[simp] theorem en24_2:enter cx 24 n0 2 e H = enterK [] 0 n0 e H:=rfl
@[simp] theorem en24_3:enter cx 24 n0 3 e H = enterK [0,1] 0 n0 e H:=rfl
@[simp] theorem en25_0:enter cx 25 n0 0 e H = enterK [0,1] 0 n0 e H:=rfl
@[simp] theorem en25_1:enter cx 25 n0 1 e H = enterK [0,1] 0 n0 e H:=rfl
@[simp] theorem en25_2:enter cx 25 n0 2 e H = enterK [] 0 n0 e H:=rfl
@[simp] theorem en25_3:enter cx 25 n0 3 e H = enterK [0,1] 0 n0 e H:=rfl
@[simp] theorem en25_4:enter cx 25 n0 4 e H = enterK [0,1,5] 0 n0 e H:=rfl
@[simp] theorem en25_5:enter cx 25 n0 5 e H = enterK [0,1,5] 0 n0 e H:=rfl
@[simp] theorem en25_6:enter cx 25 n0 6 e H = enterK [0,1,5] 0 n0 e H:=rfl
@[simp] theorem en25_7:enter cx 25 n0 7 e H = enterK [] 0 n0 e H:=rfl
@[simp] theorem en25_8:enter cx 25 n0 8 e H = enterK [] 0 n0 e H:=rfl
@[simp] theorem en26_0:enter cx 26 n0 0 e H = enterK [0,1] 0 n0 e H:=rfl
@[simp] theorem en26_1:enter cx 26 n0 1 e H = enterK [0,1] 0 n0 e H:=rfl
@[simp] theorem en28_0:enter cx 28 n0 0 e H = enterK [0] 0 n0 e H:=rfl
@[simp] theorem en28_1:enter cx 28 n0 1 e H = enterK [1] 0 n0 e H:=rfl
@[simp] theorem en28_2:enter cx 28 n0 2 e H = enterK [] 0 n0 e H:=rfl
@[simp] theorem en28_3:enter cx 28 n0 3 e H = enterK [1] 0 n0 e H:=rfl
@[simp] theorem en29_0:enter cx 29 n0 0 e H = enterK [0,1] 0 n0 e H:=rfl
@[simp] theorem en29_1:enter cx 29 n0 1 e H = enterK [1,2] 0 n0 e H:=rfl
@[simp] theorem en29_2:enter cx 29 n0 2 e H = enterK [1,2,5] 0 n0 e H:=rfl
@[simp] theorem en29_3:enter cx 29 n0 3 e H = enterK [1,2,5,6] 0 n0 e H:=rfl
@[simp] theorem en29_4:enter cx 29 n0 4 e H = enterK [1,2,5,6,7] 0 n0 e H:=rfl
@[simp] theorem en29_5:enter cx 29 n0 5 e H = enterK [1,2,5,6,7,8] 4 n0 e H:=rfl
@[simp] theorem en29_6:enter cx 29 n0 6 e H = enterK [1,2,5,6,7,8] 0 n0 e H:=rfl
@[simp] theorem en29_7:enter cx 29 n0 7 e H = enterK [1,2,5,6,7,8] 0 n0 e H:=rfl
@[simp] theorem en29_8:enter cx 29 n0 8 e H = enterK [1,2,5,6,7,8,9] 0 n0 e H:=rfl
@[simp] theorem en29_9:enter cx 29 n0 9 e H = enterK [1,2,5,6,7,8,9] 0 n0 e H:=rfl
@[simp] theorem en29_10:enter cx 29 n0 10 e H = enterK [1,2,5,6,7,8] 0 n0 e H:=rfl
@[simp] theorem en29_11:enter cx 29 n0 11 e H = enterK [1,2,5,6,7,8,11,12] 0 n0 e H:=rfl
@[simp] theorem en29_12:enter cx 29 n0 12 e H = enterK [1,2,5,6,8,11] 0 n0 e H:=rfl
@[simp] theorem en29_13:enter cx 29 n0 13 e H = enterK [2,5,6,7] 0 n0 e H:=rfl
@[simp] theorem en29_14:enter cx 29 n0 14 e H = enterK [2,5,6] 0 n0 e H:=rfl
@[simp] theorem en29_15:enter cx 29 n0 15 e H = enterK [2,6,7] 0 n0 e H:=rfl
@[simp] theorem en29_16:enter cx 29 n0 16 e H = enterK [2,13] 0 n0 e H:=rfl
@[simp] theorem en29_17:enter cx 29 n0 17 e H = enterK [2,13] 0 n0 e H:=rfl
@[simp] theorem en29_18:enter cx 29 n0 18 e H = enterK [13] 0 n0 e H:=rfl
@[simp] theorem en30_0:enter cx 30 n0 0 e H = enterK [0,1] 0 n0 e H:=rfl
@[simp] theorem en30_1:enter cx 30 n0 1 e H = enterK [0,1] 0 n0 e H:=rfl
@[simp] theorem en30_2:enter cx 30 n0 2 e H = enterK [0,1,5] 0 n0 e H:=rfl
@[simp] theorem en30_3:enter cx 30 n0 3 e H = enterR [] [5,6] [0,1] n0 e H:=rfl
@[simp] theorem en30_4:enter cx 30 n0 4 e H = enterK [0,1,5,6] 0 n0 e H:=rfl
@[simp] theorem en30_5:enter cx 30 n0 5 e H = enterK [0,1,5,6,7] 0 n0 e H:=rfl
@[simp] theorem en30_6:enter cx 30 n0 6 e H = enterK [0,1,5,6,7,8] 0 n0 e H:=rfl
@[simp] theorem en30_7:enter cx 30 n0 7 e H = enterK [0,1,5,6,7,8] 0 n0 e H:=rfl
@[simp] theorem en30_8:enter cx 30 n0 8 e H = enterK [0,1,5,6,7,8,9] 0 n0 e H:=rfl
@[simp] theorem en30_9:enter cx 30 n0 9 e H = enterK [0,1,5,6,7,9] 0 n0 e H:=rfl
@[simp] theorem en30_10:enter cx 30 n0 10 e H = enterK [0,1,5,6,7,8] 0 n0 e H:=rfl
@[simp] theorem en30_11:enter cx 30 n0 11 e H = enterK [0,1,5,6,7,8] 0 n0 e H:=rfl
@[simp] theorem en30_12:enter cx 30 n0 12 e H = enterK [5] 0 n0 e H:=rfl
@[simp] theorem en31_0:enter cx 31 n0 0 e H = enterK [0,1] 0 n0 e H:=rfl
@[simp] theorem en31_1:enter cx 31 n0 1 e H = enterK [0,1] 0 n0 e H:=rfl
@[simp] theorem en31_2:enter cx 31 n0 2 e H = enterK [] 0 n0 e H:=rfl
@[simp] theorem en31_3:enter cx 31 n0 3 e H = enterK [0,1] 0 n0 e H:=rfl
@[simp] theorem en31_4:enter cx 31 n0 4 e H = enterK [0,1,5] 0 n0 e H:=rfl
@[simp] theorem en31_5:enter cx 31 n0 5 e H = enterR [] [5] [1,23,24,25] n0 e H:=rfl
@[simp] theorem en31_6:enter cx 31 n0 6 e H = enterK [1,5,23,24,25] 0 n0 e H:=rfl
@[simp] theorem en31_7:enter cx 31 n0 7 e H = enterK [1,5,7,23,24,25] 0 n0 e H:=rfl
@[simp] theorem en31_8:enter cx 31 n0 8 e H = enterK [1,5,8,23,24,25] 0 n0 e H:=rfl
@[simp] theorem en31_9:enter cx 31 n0 9 e H = enterK [] 0 n0 e H:=rfl
@[simp] theorem en31_10:enter cx 31 n0 10 e H = enterK [1,5,8,23,24,25] 0 n0 e H:=rfl
@[simp] theorem en31_11:enter cx 31 n0 11 e H = enterK [1,5,23,24,25] 0 n0 e H:=rfl
@[simp] theorem en31_12:enter cx 31 n0 12 e H = enterK [1,5] 0 n0 e H:=rfl
@[simp] theorem en31_13:enter cx 31 n0 13 e H = enterK [5] 0 n0 e H:=rfl
@[simp] theorem en31_14:enter cx 31 n0 14 e H = enterK [] 0 n0 e H:=rfl
@[simp] theorem en31_15:enter cx 31 n0 15 e H = enterK [5] 0 n0 e H:=rfl
@[simp] theorem en32_0:enter cx 32 n0 0 e H = enterK [0] 0 n0 e H:=rfl
@[simp] theorem en32_1:enter cx 32 n0 1 e H = enterK [0] 0 n0 e H:=rfl
@[simp] theorem en32_2:enter cx 32 n0 2 e H = enterK [] 0 n0 e H:=rfl
@[simp] theorem en32_3:enter cx 32 n0 3 e H = enterK [0] 0 n0 e H:=rfl
@[simp] theorem en32_4:enter cx 32 n0 4 e H = enterK [] 0 n0 e H:=rfl
@[simp] theorem en32_5:enter cx 32 n0 5 e H = enterK [0] 0 n0 e H:=rfl
@[simp] theorem en32_6:enter cx 32 n0 6 e H = enterK [0,5] 0 n0 e H:=rfl
@[simp] theorem en32_7:enter cx 32 n0 7 e H = enterK [0,5,21,22] 0 n0 e H:=rfl
@[simp] theorem en32_8:enter cx 32 n0 8 e H = enterK [0,5,21,22] 0 n0 e H:=rfl
@[simp] theorem en32_9:enter cx 32 n0 9 e H = enterK [0,5,6,21,22] 0 n0 e H:=rfl
@[simp] theorem en32_10:enter cx 32 n0 10 e H = enterK [0,5,6,7,21,22] 0 n0 e H:=rfl
@[simp] theorem en32_11:enter cx 32 n0 11 e H = enterK [0,5,6,7,8,21,22] 0 n0 e H:=rfl
@[simp] theorem en32_12:enter cx 32 n0 12 e H = enterK [] 0 n0 e H:=rfl
@[simp] theorem en32_13:enter cx 32 n0 13 e H = enterK [0,5,6,7,8,21,22] 0 n0 e H:=rfl
@[simp] theorem en32_14:enter cx 32 n0 14 e H = enterK [] 0 n0 e H:=rfl
@[simp] theorem en32_15:enter cx 32 n0 15 e H = enterK [0,5,7,8,21,22] 0 n0 e H:=rfl
@[simp] theorem en32_16:enter cx 32 n0 16 e H = enterK [] 0 n0 e H:=rfl
@[simp] theorem en32_17:enter cx 32 n0 17 e H = enterK [0,5,7,8,21,22] 0 n0 e H:=rfl
@[simp] theorem en32_18:enter cx 32 n0 18 e H = enterK [0,5,7,8,21,22] 0 n0 e H:=rfl
@[simp] theorem en32_19:enter cx 32 n0 19 e H = enterK [0,5,7,8,21,22] 0 n0 e H:=rfl
@[simp] theorem en32_20:enter cx 32 n0 20 e H = enterK [0,5,8,21,22] 0 n0 e H:=rfl
@[simp] theorem en32_21:enter cx 32 n0 21 e H = enterR [] [5] [0,21,22] n0 e H:=rfl
@[simp] theorem en32_22:enter cx 32 n0 22 e H = enterK [5] 0 n0 e H:=rfl
@[simp] theorem en34_0:enter cx 34 n0 0 e H = enterK [0] 0 n0 e H:=rfl
@[simp] theorem en34_1:enter cx 34 n0 1 e H = enterK [1] 0 n0 e H:=rfl
@[simp] theorem en34_2:enter cx 34 n0 2 e H = enterK [] 0 n0 e H:=rfl
@[simp] theorem en34_3:enter cx 34 n0 3 e H = enterK [1] 0 n0 e H:=rfl
@[simp] theorem en35_0:enter cx 35 n0 0 e H = enterK [0,1] 0 n0 e H:=rfl
@[simp] theorem en35_1:enter cx 35 n0 1 e H = enterK [0,3] 0 n0 e H:=rfl
@[simp] theorem en35_2:enter cx 35 n0 2 e H = enterK [] 0 n0 e H:=rfl
@[simp] theorem en35_3:enter cx 35 n0 3 e H = enterK [0,3] 0 n0 e H:=rfl
@[simp] theorem en35_4:enter cx 35 n0 4 e H = enterK [0,3] 0 n0 e H:=rfl
@[simp] theorem en35_5:enter cx 35 n0 5 e H = enterK [0] 0 n0 e H:=rfl
@[simp] theorem en40_0:enter cx 40 n0 0 e H = enterK [0] 0 n0 e H:=rfl
@[simp] theorem en40_1:enter cx 40 n0 1 e H = enterK [0] 0 n0 e H:=rfl
@[simp] theorem en40_2:enter cx 40 n0 2 e H = enterK [] 0 n0 e H:=rfl
@[simp] theorem en40_3:enter cx 40 n0 3 e H = enterK [0] 0 n0 e H:=rfl
@[simp] theorem en42_0:enter cx 42 n0 0 e H = enterK [0,1] 0 n0 e H:=rfl
@[simp] theorem en42_1:enter cx 42 n0 1 e H = enterK [2,3] 0 n0 e H:=rfl
@[simp] theorem en43_0:enter cx 43 n0 0 e H = enterK [0,1] 0 n0 e H:=rfl
@[simp] theorem en43_1:enter cx 43 n0 1 e H = enterK [0,3,4] 0 n0 e H:=rfl
@[simp] theorem en43_2:enter cx 43 n0 2 e H = enterK [0,3,4,6] 0 n0 e H:=rfl
@[simp] theorem en43_3:enter cx 43 n0 3 e H = enterK [0,3,4,6] 0 n0 e H:=rfl
@[simp] theorem en43_4:enter cx 43 n0 4 e H = enterK [0,3,4,6] 0 n0 e H:=rfl
@[simp] theorem en43_5:enter cx 43 n0 5 e H = enterK [0,4,6] 0 n0 e H:=rfl
@[simp] theorem en43_6:enter cx 43 n0 6 e H = enterK [3,4] 0 n0 e H:=rfl
@[simp] theorem en44_0:enter cx 44 n0 0 e H = enterK [0] 0 n0 e H:=rfl
@[simp] theorem en44_1:enter cx 44 n0 1 e H = enterK [0] 0 n0 e H:=rfl
@[simp] theorem en44_2:enter cx 44 n0 2 e H = enterK [] 0 n0 e H:=rfl
@[simp] theorem en44_3:enter cx 44 n0 3 e H = enterK [0] 0 n0 e H:=rfl
@[simp] theorem en45_0:enter cx 45 n0 0 e H = enterK [0,1] 0 n0 e H:=rfl
@[simp] theorem en45_1:enter cx 45 n0 1 e H = enterK [0,1] 0 n0 e H:=rfl
@[simp] theorem en45_2:enter cx 45 n0 2 e H = enterK [] 0 n0 e H:=rfl
@[simp] theorem en45_3:enter cx 45 n0 3 e H = enterK [0,1] 0 n0 e H:=rfl
@[simp] theorem en46_0:enter cx 46 n0 0 e H = enterK [0,1] 0 n0 e H:=rfl
@[simp] theorem en46_1:enter cx 46 n0 1 e H = enterK [0,3] 0 n0 e H:=rfl
@[simp] theorem en46_2:enter cx 46 n0 2 e H = enterK [] 0 n0 e H:=rfl
@[simp] theorem en46_3:enter cx 46 n0 3 e H = enterK [0,3] 0 n0 e H:=rfl
@[simp] theorem en46_4:enter cx 46 n0 4 e H = enterK [0,3,7] 0 n0 e H:=rfl
@[simp] theorem en46_5:enter cx 46 n0 5 e H = enterK [] 0 n0 e H:=rfl
@[simp] theorem en46_6:enter cx 46 n0 6 e H = enterK [0,3] 0 n0 e H:=rfl
@[simp] theorem en46_7:enter cx 46 n0 7 e H = enterK [0,3,8] 0 n0 e H:=rfl
@[simp] theorem en46_8:enter cx 46 n0 8 e H = enterR [] [3,8] [0,9] n0 e H:=rfl
@[simp] theorem en46_9:enter cx 46 n0 9 e H = enterK [0,3,8,9,10] 0 n0 e H:=rfl
@[simp] theorem en46_10:enter cx 46 n0 10 e H = enterR [] [3,8] [0,9,10] n0 e H:=rfl
@[simp] theorem en46_11:enter cx 46 n0 11 e H = enterK [0,3,8,9,10] 0 n0 e H:=rfl
@[simp] theorem en46_12:enter cx 46 n0 12 e H = enterK [0,3,8,9,10,11] 0 n0 e H:=rfl
@[simp] theorem en46_13:enter cx 46 n0 13 e H = enterK [0,3,8,10,11] 0 n0 e H:=rfl
@[simp] theorem en46_14:enter cx 46 n0 14 e H = enterK [0,3,8,9,10,11] 0 n0 e H:=rfl
@[simp] theorem en46_15:enter cx 46 n0 15 e H = enterK [0,3,8,9,10,11] 0 n0 e H:=rfl
@[simp] theorem en46_16:enter cx 46 n0 16 e H = enterK [0,3,8,9,10] 0 n0 e H:=rfl
@[simp] theorem en46_17:enter cx 46 n0 17 e H = enterK [3,8,9] 0 n0 e H:=rfl
@[simp] theorem en46_18:enter cx 46 n0 18 e H = enterK [3,8] 0 n0 e H:=rfl
@[simp] theorem en46_19:enter cx 46 n0 19 e H = enterK [8] 0 n0 e H:=rfl
@[simp] theorem en47_0:enter cx 47 n0 0 e H = enterK [0,1] 0 n0 e H:=rfl
@[simp] theorem en47_1:enter cx 47 n0 1 e H = enterK [2,3] 0 n0 e H:=rfl
@[simp] theorem en47_2:enter cx 47 n0 2 e H = enterK [2,3,5] 0 n0 e H:=rfl
@[simp] theorem en47_3:enter cx 47 n0 3 e H = enterK [2,3,5] 0 n0 e H:=rfl
@[simp] theorem en47_4:enter cx 47 n0 4 e H = enterK [2,3,5] 0 n0 e H:=rfl
@[simp] theorem en47_5:enter cx 47 n0 5 e H = enterK [2,3,5] 0 n0 e H:=rfl
@[simp] theorem en47_6:enter cx 47 n0 6 e H = enterK [] 0 n0 e H:=rfl
@[simp] theorem en48_0:enter cx 48 n0 0 e H = enterK [0,1] 0 n0 e H:=rfl
@[simp] theorem en48_1:enter cx 48 n0 1 e H = enterK [0,1,4] 0 n0 e H:=rfl
@[simp] theorem en48_2:enter cx 48 n0 2 e H = enterK [0,1,4,6] 0 n0 e H:=rfl
@[simp] theorem en48_3:enter cx 48 n0 3 e H = enterK [0,1,4,6,7] 0 n0 e H:=rfl
@[simp] theorem en48_4:enter cx 48 n0 4 e H = enterK [4] 0 n0 e H:=rfl
@[simp] theorem en48_5:enter cx 48 n0 5 e H = enterK [0,1,4,6,7] 0 n0 e H:=rfl
@[simp] theorem en48_6:enter cx 48 n0 6 e H = enterK [1,4,8,9] 0 n0 e H:=rfl
@[simp] theorem en48_7:enter cx 48 n0 7 e H = enterK [4,8,9,35,36,37] 3 n0 e H:=rfl
@[simp] theorem en48_8:enter cx 48 n0 8 e H = enterK [4,8,9,35,36,37] 0 n0 e H:=rfl
@[simp] theorem en48_9:enter cx 48 n0 9 e H = enterK [4,8,9,10,11,35,36,37] 0 n0 e H:=rfl
@[simp] theorem en48_10:enter cx 48 n0 10 e H = enterK [4,9,10,12] 0 n0 e H:=rfl
@[simp] theorem en48_11:enter cx 48 n0 11 e H = enterK [4,8,9,10,12,13,35,36,37] 0 n0 e H:=rfl
@[simp] theorem en48_12:enter cx 48 n0 12 e H = enterK [4,9,10,12] 0 n0 e H:=rfl
@[simp] theorem en48_13:enter cx 48 n0 13 e H = enterK [4] 0 n0 e H:=rfl
@[simp] theorem en48_14:enter cx 48 n0 14 e H = enterK [4,9,10,12] 0 n0 e H:=rfl
@[simp] theorem en48_15:enter cx 48 n0 15 e H = enterK [4] 0 n0 e H:=rfl
@[simp] theorem en48_16:enter cx 48 n0 16 e H = enterK [4,9,10,12] 0 n0 e H:=rfl
@[simp] theorem en48_17:enter cx 48 n0 17 e H = enterK [4] 0 n0 e H:=rfl
@[simp] theorem en48_18:enter cx 48 n0 18 e H = enterK [4,8,9,35,36,37] 0 n0 e H:=rfl
@[simp] theorem en48_19:enter cx 48 n0 19 e H = enterK [4] 0 n0 e H:=rfl
@[simp] theorem en49_0:enter cx 49 n0 0 e H = enterK [0] 0 n0 e H:=rfl
@[simp] theorem en49_1:enter cx 49 n0 1 e H = enterK [0] 0 n0 e H:=rfl
@[simp] theorem en49_2:enter cx 49 n0 2 e H = enterK [0,3] 0 n0 e H:=rfl
@[simp] theorem en49_3:enter cx 49 n0 3 e H = enterK [3,4] 0 n0 e H:=rfl
@[simp] theorem en49_4:enter cx 49 n0 4 e H = enterK [] 0 n0 e H:=rfl
@[simp] theorem en49_5:enter cx 49 n0 5 e H = enterK [3,4] 0 n0 e H:=rfl
@[simp] theorem en49_6:enter cx 49 n0 6 e H = enterK [] 0 n0 e H:=rfl
@[simp] theorem en49_7:enter cx 49 n0 7 e H = enterK [3] 0 n0 e H:=rfl
@[simp] theorem en50_0:enter cx 50 n0 0 e H = enterK [0] 0 n0 e H:=rfl
@[simp] theorem en50_1:enter cx 50 n0 1 e H = enterK [0] 0 n0 e H:=rfl
@[simp] theorem en51_0:enter cx 51 n0 0 e H = enterK [0] 0 n0 e H:=rfl
@[simp] theorem en51_1:enter cx 51 n0 1 e H = enterK [0] 0 n0 e H:=rfl
@[simp] theorem en52_0:enter cx 52 n0 0 e H = enterK [0,1,2,3] 0 n0 e H:=rfl
@[simp] theorem en52_1:enter cx 52 n0 1 e H = enterK [0,1,2,3] 0 n0 e H:=rfl
@[simp] theorem en52_2:enter cx 52 n0 2 e H = enterK [] 0 n0 e H:=rfl
@[simp] theorem en52_3:enter cx 52 n0 3 e H = enterK [0,1,2,3] 0 n0 e H:=rfl
@[simp] theorem en53_0:enter cx 53 n0 0 e H = enterK [0,1] 0 n0 e H:=rfl
@[simp] theorem en53_1:enter cx 53 n0 1 e H = enterK [1,2,4] 0 n0 e H:=rfl
@[simp] theorem en53_2:enter cx 53 n0 2 e H = enterK [1,2,4] 0 n0 e H:=rfl
@[simp] theorem en53_3:enter cx 53 n0 3 e H = enterK [1,2,4] 0 n0 e H:=rfl
@[simp] theorem en53_4:enter cx 53 n0 4 e H = enterK [2,4] 0 n0 e H:=rfl
@[simp] theorem en54_0:enter cx 54 n0 0 e H = enterK [0] 0 n0 e H:=rfl
@[simp] theorem en54_1:enter cx 54 n0 1 e H = enterK [0] 0 n0 e H:=rfl
@[simp] theorem en54_2:enter cx 54 n0 2 e H = enterK [0,3] 0 n0 e H:=rfl
@[simp] theorem en54_3:enter cx 54 n0 3 e H = enterR [] [3] [0,4] n0 e H:=rfl
@[simp] theorem en54_4:enter cx 54 n0 4 e H = enterK [0,3,4] 0 n0 e H:=rfl
@[simp] theorem en54_5:enter cx 54 n0 5 e H = enterK [0,3,4] 0 n0 e H:=rfl
@[simp] theorem en54_6:enter cx 54 n0 6 e H = enterK [0,3,4] 0 n0 e H:=rfl
@[simp] theorem en54_7:enter cx 54 n0 7 e H = enterK [3] 0 n0 e H:=rfl
@[simp] theorem en55_0:enter cx 55 n0 0 e H = enterK [0,1] 0 n0 e H:=rfl
@[simp] theorem en55_1:enter cx 55 n0 1 e H = enterK [0,1] 0 n0 e H:=rfl
@[simp] theorem en55_2:enter cx 55 n0 2 e H = enterK [] 0 n0 e H:=rfl
@[simp] theorem en55_3:enter cx 55 n0 3 e H = enterK [0,1] 0 n0 e H:=rfl
@[simp] theorem en55_4:enter cx 55 n0 4 e H = enterK [0,1,5] 0 n0 e H:=rfl
@[simp] theorem en55_5:enter cx 55 n0 5 e H = enterR [] [5] [0,1,6] n0 e H:=rfl
@[simp] theorem en55_6:enter cx 55 n0 6 e H = enterK [0,1,5,6] 0 n0 e H:=rfl
@[simp] theorem en55_7:enter cx 55 n0 7 e H = enterK [0,1,5,6] 0 n0 e H:=rfl
@[simp] theorem en55_8:enter cx 55 n0 8 e H = enterK [] 0 n0 e H:=rfl
@[simp] theorem en55_9:enter cx 55 n0 9 e H = enterK [0,1,5,6] 0 n0 e H:=rfl
@[simp] theorem en55_10:enter cx 55 n0 10 e H = enterK [0,1,5,6,7] 0 n0 e H:=rfl
@[simp] theorem en55_11:enter cx 55 n0 11 e H = enterK [1,5] 0 n0 e H:=rfl
@[simp] theorem en55_12:enter cx 55 n0 12 e H = enterK [5] 0 n0 e H:=rfl
@[simp] theorem en55_13:enter cx 55 n0 13 e H = enterK [] 0 n0 e H:=rfl
@[simp] theorem en55_14:enter cx 55 n0 14 e H = enterK [5] 0 n0 e H:=rfl
@[simp] theorem en56_0:enter cx 56 n0 0 e H = enterK [0] 0 n0 e H:=rfl
@[simp] theorem en56_1:enter cx 56 n0 1 e H = enterK [0] 0 n0 e H:=rfl
@[simp] theorem en57_0:enter cx 57 n0 0 e H = enterK [0,1,2] 0 n0 e H:=rfl
@[simp] theorem en57_1:enter cx 57 n0 1 e H = enterK [0,1,2] 0 n0 e H:=rfl
@[simp] theorem en57_2:enter cx 57 n0 2 e H = enterK [1,2,7] 0 n0 e H:=rfl
@[simp] theorem en57_3:enter cx 57 n0 3 e H = enterK [1,2,7,8] 0 n0 e H:=rfl
@[simp] theorem en57_4:enter cx 57 n0 4 e H = enterK [1,2,7,8] 0 n0 e H:=rfl
@[simp] theorem en57_5:enter cx 57 n0 5 e H = enterK [1,2,7,8] 0 n0 e H:=rfl
@[simp] theorem en57_6:enter cx 57 n0 6 e H = enterK [1,2,7,8,9] 0 n0 e H:=rfl
@[simp] theorem en57_7:enter cx 57 n0 7 e H = enterK [7] 0 n0 e H:=rfl
@[simp] theorem en58_0:enter cx 58 n0 0 e H = enterK [0] 0 n0 e H:=rfl
@[simp] theorem en58_1:enter cx 58 n0 1 e H = enterK [0] 0 n0 e H:=rfl
@[simp] theorem en59_0:enter cx 59 n0 0 e H = enterK [0,1] 0 n0 e H:=rfl
@[simp] theorem en59_1:enter cx 59 n0 1 e H = enterK [0,1] 0 n0 e H:=rfl
@[simp] theorem en59_2:enter cx 59 n0 2 e H = enterK [] 0 n0 e H:=rfl
@[simp] theorem en59_3:enter cx 59 n0 3 e H = enterK [0,1] 0 n0 e H:=rfl
@[simp] theorem en59_4:enter cx 59 n0 4 e H = enterK [0,1] 0 n0 e H:=rfl
@[simp] theorem en60_0:enter cx 60 n0 0 e H = enterK [0] 0 n0 e H:=rfl
@[simp] theorem en60_1:enter cx 60 n0 1 e H = enterK [0,2] 0 n0 e H:=rfl
@[simp] theorem en60_2:enter cx 60 n0 2 e H = enterK [0,2,3] 0 n0 e H:=rfl
@[simp] theorem en60_3:enter cx 60 n0 3 e H = enterK [2,3] 0 n0 e H:=rfl
@[simp] theorem en61_0:enter cx 61 n0 0 e H = enterK [0,1] 0 n0 e H:=rfl
@[simp] theorem en61_1:enter cx 61 n0 1 e H = enterK [0,1,4] 0 n0 e H:=rfl
@[simp] theorem en61_2:enter cx 61 n0 2 e H = enterK [0,1,4,5] 0 n0 e H:=rfl
@[simp] theorem en62_0:enter cx 62 n0 0 e H = enterK [0] 0 n0 e H:=rfl
@[simp] theorem en62_1:enter cx 62 n0 1 e H = enterK [0] 0 n0 e H:=rfl
@[simp] theorem en62_2:enter cx 62 n0 2 e H = enterK [] 0 n0 e H:=rfl
@[simp] theorem en62_3:enter cx 62 n0 3 e H = enterK [0] 0 n0 e H:=rfl
@[simp] theorem en62_4:enter cx 62 n0 4 e H = enterK [0,3] 0 n0 e H:=rfl
@[simp] theorem en62_5:enter cx 62 n0 5 e H = enterK [0,3] 0 n0 e H:=rfl
@[simp] theorem en62_6:enter cx 62 n0 6 e H = enterK [0,3] 0 n0 e H:=rfl
@[simp] theorem en62_7:enter cx 62 n0 7 e H = enterK [] 0 n0 e H:=rfl
@[simp] theorem en62_8:enter cx 62 n0 8 e H = enterK [] 0 n0 e H:=rfl
@[simp] theorem en63_0:enter cx 63 n0 0 e H = enterK [0,1,2] 0 n0 e H:=rfl
@[simp] theorem en63_1:enter cx 63 n0 1 e H = enterK [0,1,2] 0 n0 e H:=rfl
@[simp] theorem en63_2:enter cx 63 n0 2 e H = enterK [1,2,7] 0 n0 e H:=rfl
@[simp] theorem en63_3:enter cx 63 n0 3 e H = enterK [7] 0 n0 e H:=rfl
@[simp] theorem en63_4:enter cx 63 n0 4 e H = enterK [1,2,7] 0 n0 e H:=rfl
@[simp] theorem en63_5:enter cx 63 n0 5 e H = enterK [2,7,15,16] 0 n0 e H:=rfl
@[simp] theorem en63_6:enter cx 63 n0 6 e H = enterK [2,7,15,16] 0 n0 e H:=rfl
@[simp] theorem en63_7:enter cx 63 n0 7 e H = enterK [2,7,8,15,16] 0 n0 e H:=rfl
@[simp] theorem en63_8:enter cx 63 n0 8 e H = enterR [] [7] [2,15,16] n0 e H:=rfl
@[simp] theorem en63_9:enter cx 63 n0 9 e H = enterK [7] 0 n0 e H:=rfl
@[simp] theorem en64_0:enter cx 64 n0 0 e H = enterK [0] 0 n0 e H:=rfl
@[simp] theorem en64_1:enter cx 64 n0 1 e H = enterK [1] 0 n0 e H:=rfl
@[simp] theorem en64_2:enter cx 64 n0 2 e H = enterK [] 0 n0 e H:=rfl
@[simp] theorem en64_3:enter cx 64 n0 3 e H = enterK [1] 0 n0 e H:=rfl
@[simp] theorem en64_4:enter cx 64 n0 4 e H = enterK [1] 0 n0 e H:=rfl
@[simp] theorem en64_5:enter cx 64 n0 5 e H = enterK [1] 0 n0 e H:=rfl
@[simp] theorem en64_6:enter cx 64 n0 6 e H = enterK [1,3] 0 n0 e H:=rfl
@[simp] theorem en64_7:enter cx 64 n0 7 e H = enterK [1,3,4] 0 n0 e H:=rfl
@[simp] theorem en64_8:enter cx 64 n0 8 e H = enterK [3,4,59,60,61] 0 n0 e H:=rfl
@[simp] theorem en64_9:enter cx 64 n0 9 e H = enterK [3,4,59,60,61] 0 n0 e H:=rfl
@[simp] theorem en64_10:enter cx 64 n0 10 e H = enterK [3,4,6,59,60,61] 0 n0 e H:=rfl
@[simp] theorem en64_11:enter cx 64 n0 11 e H = enterK [3,4,59,60,61] 0 n0 e H:=rfl
@[simp] theorem en64_12:enter cx 64 n0 12 e H = enterK [3,4] 0 n0 e H:=rfl
@[simp] theorem en64_13:enter cx 64 n0 13 e H = enterK [4,70,71,72] 1 n0 e H:=rfl
@[simp] theorem en64_14:enter cx 64 n0 14 e H = enterK [4,70,71,72] 0 n0 e H:=rfl
@[simp] theorem en64_15:enter cx 64 n0 15 e H = enterK [4,8,70,71,72] 0 n0 e H:=rfl
@[simp] theorem en64_16:enter cx 64 n0 16 e H = enterK [4,70,71,72] 0 n0 e H:=rfl
@[simp] theorem en64_17:enter cx 64 n0 17 e H = enterK [4] 0 n0 e H:=rfl
@[simp] theorem en64_18:enter cx 64 n0 18 e H = enterK [4] 0 n0 e H:=rfl
@[simp] theorem en65_0:enter cx 65 n0 0 e H = enterK [0] 0 n0 e H:=rfl
@[simp] theorem en65_1:enter cx 65 n0 1 e H = enterK [0] 0 n0 e H:=rfl
@[simp] theorem en66_0:enter cx 66 n0 0 e H = enterK [0] 0 n0 e H:=rfl
@[simp] theorem en66_1:enter cx 66 n0 1 e H = enterK [0] 0 n0 e H:=rfl
@[simp] theorem en66_2:enter cx 66 n0 2 e H = enterK [] 0 n0 e H:=rfl
@[simp] theorem en66_3:enter cx 66 n0 3 e H = enterK [0] 0 n0 e H:=rfl
@[simp] theorem en66_4:enter cx 66 n0 4 e H = enterK [0,3] 0 n0 e H:=rfl
@[simp] theorem en66_5:enter cx 66 n0 5 e H = enterK [3,15,16,17] 0 n0 e H:=rfl
@[simp] theorem en66_6:enter cx 66 n0 6 e H = enterK [3,15,16,17] 0 n0 e H:=rfl
@[simp] theorem en66_7:enter cx 66 n0 7 e H = enterK [3,5,15,16,17] 0 n0 e H:=rfl
@[simp] theorem en66_8:enter cx 66 n0 8 e H = enterK [3,5,15,16,17] 0 n0 e H:=rfl
@[simp] theorem en66_9:enter cx 66 n0 9 e H = enterR [31] [3] [15,16,17,31,32,33] n0 e H:=rfl
@[simp] theorem en66_10:enter cx 66 n0 10 e H = enterK [3,15,16,17,31,32,33] 0 n0 e H:=rfl
@[simp] theorem en66_11:enter cx 66 n0 11 e H = enterK [3,7,15,16,17,31,32,33] 0 n0 e H:=rfl
@[simp] theorem en66_12:enter cx 66 n0 12 e H = enterR [] [3] [15,16,17,31,32,33] n0 e H:=rfl
@[simp] theorem en66_13:enter cx 66 n0 13 e H = enterR [] [3] [15,16,17] n0 e H:=rfl
@[simp] theorem en66_14:enter cx 66 n0 14 e H = enterK [3] 0 n0 e H:=rfl
@[simp] theorem en67_0:enter cx 67 n0 0 e H = enterK [0,1] 0 n0 e H:=rfl
@[simp] theorem en67_1:enter cx 67 n0 1 e H = enterK [0,1] 0 n0 e H:=rfl
@[simp] theorem en68_0:enter cx 68 n0 0 e H = enterK [0,1,2] 0 n0 e H:=rfl
@[simp] theorem en68_1:enter cx 68 n0 1 e H = enterK [0,1,2] 0 n0 e H:=rfl
@[simp] theorem en68_2:enter cx 68 n0 2 e H = enterK [] 0 n0 e H:=rfl
@[simp] theorem en68_3:enter cx 68 n0 3 e H = enterK [0,1,2] 0 n0 e H:=rfl
@[simp] theorem en68_4:enter cx 68 n0 4 e H = enterK [0,1,2,8] 0 n0 e H:=rfl
@[simp] theorem en68_5:enter cx 68 n0 5 e H = enterK [0,1,8,9] 0 n0 e H:=rfl
@[simp] theorem en68_6:enter cx 68 n0 6 e H = enterK [0,1,8,9] 0 n0 e H:=rfl
@[simp] theorem en68_7:enter cx 68 n0 7 e H = enterK [0,1,8,9] 0 n0 e H:=rfl
@[simp] theorem en68_8:enter cx 68 n0 8 e H = enterK [8] 0 n0 e H:=rfl
@[simp] theorem en72_0:enter cx 72 n0 0 e H = enterK [0,1,2] 0 n0 e H:=rfl
@[simp] theorem en72_1:enter cx 72 n0 1 e H = enterK [0,2,4] 0 n0 e H:=rfl
@[simp] theorem en72_2:enter cx 72 n0 2 e H = enterK [0,2,4,8] 0 n0 e H:=rfl
@[simp] theorem en72_3:enter cx 72 n0 3 e H = enterK [8] 0 n0 e H:=rfl
@[simp] theorem en72_4:enter cx 72 n0 4 e H = enterK [0,2,4] 0 n0 e H:=rfl
@[simp] theorem en72_5:enter cx 72 n0 5 e H = enterK [0,2,4,9] 0 n0 e H:=rfl
@[simp] theorem en72_6:enter cx 72 n0 6 e H = enterK [0,2,9] 0 n0 e H:=rfl
@[simp] theorem en72_7:enter cx 72 n0 7 e H = enterK [0,9] 0 n0 e H:=rfl
@[simp] theorem en72_8:enter cx 72 n0 8 e H = enterK [0,2,4,9] 0 n0 e H:=rfl
@[simp] theorem en72_9:enter cx 72 n0 9 e H = enterK [0,2,4,9] 0 n0 e H:=rfl
@[simp] theorem en72_10:enter cx 72 n0 10 e H = enterK [] 0 n0 e H:=rfl
@[simp] theorem en72_11:enter cx 72 n0 11 e H = enterK [0,2,4,9] 0 n0 e H:=rfl
@[simp] theorem en72_12:enter cx 72 n0 12 e H = enterK [0,4,9] 0 n0 e H:=rfl
@[simp] theorem en72_13:enter cx 72 n0 13 e H = enterK [0,9] 0 n0 e H:=rfl
@[simp] theorem en73_0:enter cx 73 n0 0 e H = enterK [0,1] 0 n0 e H:=rfl
@[simp] theorem en73_1:enter cx 73 n0 1 e H = enterK [0,1] 0 n0 e H:=rfl
@[simp] theorem en73_2:enter cx 73 n0 2 e H = enterK [1,7,8,9] 0 n0 e H:=rfl
@[simp] theorem en73_3:enter cx 73 n0 3 e H = enterK [1,7,8,9] 0 n0 e H:=rfl
@[simp] theorem en73_4:enter cx 73 n0 4 e H = enterK [1,6,7,8,9] 0 n0 e H:=rfl
@[simp] theorem en73_5:enter cx 73 n0 5 e H = enterK [] 0 n0 e H:=rfl
@[simp] theorem en73_6:enter cx 73 n0 6 e H = enterK [1,7,8,9] 1 n0 e H:=rfl
@[simp] theorem en73_7:enter cx 73 n0 7 e H = enterK [] 0 n0 e H:=rfl
@[simp] theorem en75_0:enter cx 75 n0 0 e H = enterK [0,1] 0 n0 e H:=rfl
@[simp] theorem en75_1:enter cx 75 n0 1 e H = enterK [0,1] 0 n0 e H:=rfl
@[simp] theorem en75_2:enter cx 75 n0 2 e H = enterK [] 0 n0 e H:=rfl
@[simp] theorem en75_3:enter cx 75 n0 3 e H = enterK [0,1] 0 n0 e H:=rfl
@[simp] theorem en79_0:enter cx 79 n0 0 e H = enterK [0] 0 n0 e H:=rfl
@[simp] theorem en79_1:enter cx 79 n0 1 e H = enterK [0] 0 n0 e H:=rfl
@[simp] theorem en79_2:enter cx 79 n0 2 e H = enterK [] 0 n0 e H:=rfl
@[simp] theorem en79_3:enter cx 79 n0 3 e H = enterK [0] 0 n0 e H:=rfl
@[simp] theorem en79_4:enter cx 79 n0 4 e H = enterK [0,3] 0 n0 e H:=rfl
@[simp] theorem en79_5:enter cx 79 n0 5 e H = enterK [0,3,4] 0 n0 e H:=rfl
@[simp] theorem en79_6:enter cx 79 n0 6 e H = enterR [] [3] [0,4] n0 e H:=rfl
@[simp] theorem en79_7:enter cx 79 n0 7 e H = enterK [0,3,4] 0 n0 e H:=rfl
@[simp] theorem en79_8:enter cx 79 n0 8 e H = enterK [0,3,4] 0 n0 e H:=rfl
@[simp] theorem en79_9:enter cx 79 n0 9 e H = enterK [3] 0 n0 e H:=rfl
@[simp] theorem en81_0:enter cx 81 n0 0 e H = enterK [0,1] 0 n0 e H:=rfl
@[simp] theorem en81_1:enter cx 81 n0 1 e H = enterK [2,3] 0 n0 e H:=rfl
@[simp] theorem en82_0:enter cx 82 n0 0 e H = enterK [0,1] 0 n0 e H:=rfl
@[simp] theorem en82_1:enter cx 82 n0 1 e H = enterK [0,1] 0 n0 e H:=rfl
@[simp] theorem en82_2:enter cx 82 n0 2 e H = enterK [] 0 n0 e H:=rfl
@[simp] theorem en82_3:enter cx 82 n0 3 e H = enterK [0,1] 0 n0 e H:=rfl
@[simp] theorem en82_4:enter cx 82 n0 4 e H = enterK [] 0 n0 e H:=rfl
@[simp] theorem en82_5:enter cx 82 n0 5 e H = enterK [] 0 n0 e H:=rfl
@[simp] theorem en84_0:enter cx 84 n0 0 e H = enterK [0,1] 0 n0 e H:=rfl
@[simp] theorem en84_1:enter cx 84 n0 1 e H = enterK [0,1,4] 0 n0 e H:=rfl
@[simp] theorem en84_2:enter cx 84 n0 2 e H = enterK [0,1,4,6] 0 n0 e H:=rfl
@[simp] theorem en84_3:enter cx 84 n0 3 e H = enterK [0,1,4,6,7,8] 0 n0 e H:=rfl
@[simp] theorem en84_4:enter cx 84 n0 4 e H = enterK [4,6] 0 n0 e H:=rfl
@[simp] theorem en84_5:enter cx 84 n0 5 e H = enterK [0,1,4,6,7] 0 n0 e H:=rfl
@[simp] theorem en84_6:enter cx 84 n0 6 e H = enterK [0,1,4,6,7,25,26,27] 0 n0 e H:=rfl
@[simp] theorem en84_7:enter cx 84 n0 7 e H = enterK [0,1,4,6,7,25,26,27] 0 n0 e H:=rfl
@[simp] theorem en84_8:enter cx 84 n0 8 e H = enterK [0,1,4,6,7,9,10,25,26,27] 0 n0 e H:=rfl
@[simp] theorem en84_9:enter cx 84 n0 9 e H = enterK [0,1,4,6,9,10,11,12,25,26,27] 0 n0 e H:=rfl
@[simp] theorem en84_10:enter cx 84 n0 10 e H = enterK [0,1,4,6,9,12,14,15,25,26,27] 0 n0 e H:=rfl
@[simp] theorem en84_11:enter cx 84 n0 11 e H = enterK [4,6] 0 n0 e H:=rfl
@[simp] theorem en84_12:enter cx 84 n0 12 e H = enterK [0,1,4,6,9,12,14,25,26,27] 0 n0 e H:=rfl
@[simp] theorem en84_13:enter cx 84 n0 13 e H = enterK [0,1,4,6,7,25,26,27] 0 n0 e H:=rfl
@[simp] theorem en84_14:enter cx 84 n0 14 e H = enterK [0,1,4,6] 0 n0 e H:=rfl
@[simp] theorem en85_0:enter cx 85 n0 0 e H = enterK [0] 0 n0 e H:=rfl
@[simp] theorem en85_1:enter cx 85 n0 1 e H = enterK [0] 0 n0 e H:=rfl
@[simp] theorem en85_2:enter cx 85 n0 2 e H = enterK [] 0 n0 e H:=rfl
@[simp] theorem en85_3:enter cx 85 n0 3 e H = enterK [0] 0 n0 e H:=rfl
@[simp] theorem en86_0:enter cx 86 n0 0 e H = enterK [0,1,2,3] 0 n0 e H:=rfl
@[simp] theorem en86_1:enter cx 86 n0 1 e H = enterK [0,1,2,3] 0 n0 e H:=rfl
@[simp] theorem en86_2:enter cx 86 n0 2 e H = enterK [0,1,2,3,9] 0 n0 e H:=rfl
@[simp] theorem en87_0:enter cx 87 n0 0 e H = enterK [0,1] 0 n0 e H:=rfl
@[simp] theorem en87_1:enter cx 87 n0 1 e H = enterK [0,1] 0 n0 e H:=rfl
@[simp] theorem en87_2:enter cx 87 n0 2 e H = enterK [0,1,5] 0 n0 e H:=rfl
@[simp] theorem en87_3:enter cx 87 n0 3 e H = enterK [0,1,5,6] 0 n0 e H:=rfl
@[simp] theorem en87_4:enter cx 87 n0 4 e H = enterR [] [5] [0,1,6] n0 e H:=rfl
@[simp] theorem en87_5:enter cx 87 n0 5 e H = enterK [0,1,5,6] 0 n0 e H:=rfl
@[simp] theorem en87_6:enter cx 87 n0 6 e H = enterK [0,1,5,6] 0 n0 e H:=rfl
@[simp] theorem en87_7:enter cx 87 n0 7 e H = enterK [5] 0 n0 e H:=rfl
@[simp] theorem en88_0:enter cx 88 n0 0 e H = enterK [0] 0 n0 e H:=rfl
@[simp] theorem en88_1:enter cx 88 n0 1 e H = enterK [1] 0 n0 e H:=rfl
@[simp] theorem en88_2:enter cx 88 n0 2 e H = enterK [1,3] 0 n0 e H:=rfl
@[simp] theorem en88_3:enter cx 88 n0 3 e H = enterK [1,3] 0 n0 e H:=rfl
@[simp] theorem en88_4:enter cx 88 n0 4 e H = enterK [1,3] 0 n0 e H:=rfl
@[simp] theorem en88_5:enter cx 88 n0 5 e H = enterK [1,3,4] 0 n0 e H:=rfl
@[simp] theorem en88_6:enter cx 88 n0 6 e H = enterK [1,3,4] 0 n0 e H:=rfl
@[simp] theorem en88_7:enter cx 88 n0 7 e H = enterK [1,3,4] 0 n0 e H:=rfl
@[simp] theorem en88_8:enter cx 88 n0 8 e H = enterK [] 0 n0 e H:=rfl
@[simp] theorem en88_9:enter cx 88 n0 9 e H = enterK [1,3] 0 n0 e H:=rfl
@[simp] theorem en89_0:enter cx 89 n0 0 e H = enterK [0] 0 n0 e H:=rfl
@[simp] theorem en89_1:enter cx 89 n0 1 e H = enterK [1] 0 n0 e H:=rfl
@[simp] theorem en89_2:enter cx 89 n0 2 e H = enterK [] 0 n0 e H:=rfl
@[simp] theorem en89_3:enter cx 89 n0 3 e H = enterK [1] 0 n0 e H:=rfl
@[simp] theorem en89_4:enter cx 89 n0 4 e H = enterK [1,3] 0 n0 e H:=rfl
@[simp] theorem en89_5:enter cx 89 n0 5 e H = enterK [1] 0 n0 e H:=rfl
@[simp] theorem en89_6:enter cx 89 n0 6 e H = enterK [1,3] 0 n0 e H:=rfl
@[simp] theorem en89_7:enter cx 89 n0 7 e H = enterK [3,4] 0 n0 e H:=rfl
@[simp] theorem en89_8:enter cx 89 n0 8 e H = enterK [3,4,5] 3 n0 e H:=rfl
@[simp] theorem en89_9:enter cx 89 n0 9 e H = enterK [3,4,5] 0 n0 e H:=rfl
@[simp] theorem en89_10:enter cx 89 n0 10 e H = enterK [3,4,5] 0 n0 e H:=rfl
@[simp] theorem en89_11:enter cx 89 n0 11 e H = enterK [3,4,5,6] 0 n0 e H:=rfl
@[simp] theorem en89_12:enter cx 89 n0 12 e H = enterK [3,4,5,6] 0 n0 e H:=rfl
@[simp] theorem en89_13:enter cx 89 n0 13 e H = enterK [3,4,5,6] 0 n0 e H:=rfl
@[simp] theorem en89_14:enter cx 89 n0 14 e H = enterK [4] 0 n0 e H:=rfl
@[simp] theorem en90_0:enter cx 90 n0 0 e H = enterK [0,1,2] 0 n0 e H:=rfl
@[simp] theorem en90_1:enter cx 90 n0 1 e H = enterK [0,1,2] 0 n0 e H:=rfl
@[simp] theorem en90_2:enter cx 90 n0 2 e H = enterK [1,2,7] 0 n0 e H:=rfl
@[simp] theorem en90_3:enter cx 90 n0 3 e H = enterK [7] 0 n0 e H:=rfl
@[simp] theorem en90_4:enter cx 90 n0 4 e H = enterK [1,2,7] 0 n0 e H:=rfl
@[simp] theorem en91_0:enter cx 91 n0 0 e H = enterK [0,1] 0 n0 e H:=rfl
@[simp] theorem en91_1:enter cx 91 n0 1 e H = enterK [0,1] 0 n0 e H:=rfl
@[simp] theorem en91_2:enter cx 91 n0 2 e H = enterK [0,1] 0 n0 e H:=rfl
@[simp] theorem en91_3:enter cx 91 n0 3 e H = enterK [0,1,5] 0 n0 e H:=rfl
@[simp] theorem en91_4:enter cx 91 n0 4 e H = enterK [0,1,5] 0 n0 e H:=rfl
@[simp] theorem en91_5:enter cx 91 n0 5 e H = enterK [0,1,5] 0 n0 e H:=rfl
@[simp] theorem en91_6:enter cx 91 n0 6 e H = enterK [0,1,5] 0 n0 e H:=rfl
@[simp] theorem en91_7:enter cx 91 n0 7 e H = enterK [0,1,5,6] 0 n0 e H:=rfl
@[simp] theorem en91_8:enter cx 91 n0 8 e H = enterK [0,1,5,6] 0 n0 e H:=rfl
@[simp] theorem en91_9:enter cx 91 n0 9 e H = enterK [0,1,5,6] 0 n0 e H:=rfl
@[simp] theorem en91_10:enter cx 91 n0 10 e H = enterK [0,1,5,6] 0 n0 e H:=rfl
@[simp] theorem en91_11:enter cx 91 n0 11 e H = enterK [0,1,5,6] 0 n0 e H:=rfl
@[simp] theorem en91_12:enter cx 91 n0 12 e H = enterK [0] 0 n0 e H:=rfl
@[simp] theorem en92_0:enter cx 92 n0 0 e H = enterK [0] 0 n0 e H:=rfl
@[simp] theorem en92_1:enter cx 92 n0 1 e H = enterK [0] 0 n0 e H:=rfl
@[simp] theorem en93_0:enter cx 93 n0 0 e H = enterK [0] 0 n0 e H:=rfl
@[simp] theorem en93_1:enter cx 93 n0 1 e H = enterK [0] 0 n0 e H:=rfl
@[simp] theorem en93_2:enter cx 93 n0 2 e H = enterK [] 0 n0 e H:=rfl
@[simp] theorem en93_3:enter cx 93 n0 3 e H = enterK [0] 0 n0 e H:=rfl
@[simp] theorem en93_4:enter cx 93 n0 4 e H = enterK [0,4] 0 n0 e H:=rfl
@[simp] theorem en93_5:enter cx 93 n0 5 e H = enterR [] [4] [0,5] n0 e H:=rfl
@[simp] theorem en93_6:enter cx 93 n0 6 e H = enterK [0,4,5] 0 n0 e H:=rfl
@[simp] theorem en93_7:enter cx 93 n0 7 e H = enterK [0,4,5] 0 n0 e H:=rfl
@[simp] theorem en93_8:enter cx 93 n0 8 e H = enterK [0,4,5,7] 0 n0 e H:=rfl
@[simp] theorem en93_9:enter cx 93 n0 9 e H = enterK [7] 0 n0 e H:=rfl
@[simp] theorem en93_10:enter cx 93 n0 10 e H = enterK [0,4,5] 0 n0 e H:=rfl
@[simp] theorem en93_11:enter cx 93 n0 11 e H = enterK [0,4,5,8] 0 n0 e H:=rfl
@[simp] theorem en93_12:enter cx 93 n0 12 e H = enterK [0,4,5,8] 0 n0 e H:=rfl
@[simp] theorem en93_13:enter cx 93 n0 13 e H = enterK [0,4,5,8] 0 n0 e H:=rfl
@[simp] theorem en93_14:enter cx 93 n0 14 e H = enterK [0,4,5,8] 0 n0 e H:=rfl
@[simp] theorem en93_15:enter cx 93 n0 15 e H = enterK [0,4,5,8] 0 n0 e H:=rfl
@[simp] theorem en93_16:enter cx 93 n0 16 e H = enterK [0,4,5,8,9] 0 n0 e H:=rfl
@[simp] theorem en93_17:enter cx 93 n0 17 e H = enterK [0,4,5,8,9] 0 n0 e H:=rfl
@[simp] theorem en93_18:enter cx 93 n0 18 e H = enterK [0,4,5,8,9] 0 n0 e H:=rfl
@[simp] theorem en93_19:enter cx 93 n0 19 e H = enterK [0,4,5,8] 0 n0 e H:=rfl
@[simp] theorem en93_20:enter cx 93 n0 20 e H = enterK [4] 0 n0 e H:=rfl
@[simp] theorem en93_21:enter cx 93 n0 21 e H = enterK [] 0 n0 e H:=rfl
@[simp] theorem en93_22:enter cx 93 n0 22 e H = enterK [4] 0 n0 e H:=rfl
@[simp] theorem en94_0:enter cx 94 n0 0 e H = enterK [0,1] 0 n0 e H:=rfl
@[simp] theorem en94_1:enter cx 94 n0 1 e H = enterK [0,1] 0 n0 e H:=rfl
@[simp] theorem en94_2:enter cx 94 n0 2 e H = enterK [0,1,5] 0 n0 e H:=rfl
@[simp] theorem en94_3:enter cx 94 n0 3 e H = enterR [] [5] [0,6] n0 e H:=rfl
@[simp] theorem en94_4:enter cx 94 n0 4 e H = enterK [0,5,6] 0 n0 e H:=rfl
@[simp] theorem en94_5:enter cx 94 n0 5 e H = enterK [0,5,6] 0 n0 e H:=rfl
@[simp] theorem en94_6:enter cx 94 n0 6 e H = enterK [5] 0 n0 e H:=rfl
@[simp] theorem en95_0:enter cx 95 n0 0 e H = enterK [0] 0 n0 e H:=rfl
@[simp] theorem en95_1:enter cx 95 n0 1 e H = enterK [0] 0 n0 e H:=rfl
@[simp] theorem en96_0:enter cx 96 n0 0 e H = enterK [0] 0 n0 e H:=rfl
@[simp] theorem en96_1:enter cx 96 n0 1 e H = enterK [1] 0 n0 e H:=rfl
@[simp] theorem en96_2:enter cx 96 n0 2 e H = enterK [1,3] 0 n0 e H:=rfl
@[simp] theorem en96_3:enter cx 96 n0 3 e H = enterK [1,3] 0 n0 e H:=rfl
@[simp] theorem en96_4:enter cx 96 n0 4 e H = enterK [1,3] 0 n0 e H:=rfl
@[simp] theorem en96_5:enter cx 96 n0 5 e H = enterK [] 0 n0 e H:=rfl
@[simp] theorem en96_6:enter cx 96 n0 6 e H = enterK [3] 0 n0 e H:=rfl
@[simp] theorem en96_7:enter cx 96 n0 7 e H = enterK [73,74,75] 1 n0 e H:=rfl
@[simp] theorem en96_8:enter cx 96 n0 8 e H = enterK [73,74,75] 0 n0 e H:=rfl
@[simp] theorem en96_9:enter cx 96 n0 9 e H = enterK [5,73,74,75] 0 n0 e H:=rfl
@[simp] theorem en96_10:enter cx 96 n0 10 e H = enterK [] 0 n0 e H:=rfl
@[simp] theorem en96_11:enter cx 96 n0 11 e H = enterK [73,74,75] 0 n0 e H:=rfl
@[simp] theorem en96_12:enter cx 96 n0 12 e H = enterK [] 0 n0 e H:=rfl
@[simp] theorem en97_0:enter cx 97 n0 0 e H = enterK [0] 0 n0 e H:=rfl
@[simp] theorem en97_1:enter cx 97 n0 1 e H = enterK [0] 0 n0 e H:=rfl
@[simp] theorem en98_0:enter cx 98 n0 0 e H = enterK [0] 0 n0 e H:=rfl
@[simp] theorem en98_1:enter cx 98 n0 1 e H = enterK [1] 0 n0 e H:=rfl
@[simp] theorem en98_2:enter cx 98 n0 2 e H = enterK [1,3] 0 n0 e H:=rfl
@[simp] theorem en98_3:enter cx 98 n0 3 e H = enterR [] [3] [6,7] n0 e H:=rfl
@[simp] theorem en98_4:enter cx 98 n0 4 e H = enterK [3,6,7] 0 n0 e H:=rfl
@[simp] theorem en98_5:enter cx 98 n0 5 e H = enterK [3,5,6,7] 0 n0 e H:=rfl
@[simp] theorem en98_6:enter cx 98 n0 6 e H = enterK [3,6,7] 0 n0 e H:=rfl
@[simp] theorem en98_7:enter cx 98 n0 7 e H = enterK [3] 0 n0 e H:=rfl
@[simp] theorem en99_0:enter cx 99 n0 0 e H = enterK [0] 0 n0 e H:=rfl
@[simp] theorem en99_1:enter cx 99 n0 1 e H = enterK [1] 0 n0 e H:=rfl
@[simp] theorem en99_2:enter cx 99 n0 2 e H = enterK [1,3] 0 n0 e H:=rfl
@[simp] theorem en100_0:enter cx 100 n0 0 e H = enterK [0,1] 0 n0 e H:=rfl
@[simp] theorem en100_1:enter cx 100 n0 1 e H = enterK [2,3,4] 0 n0 e H:=rfl
@[simp] theorem en100_2:enter cx 100 n0 2 e H = enterK [2,3,4,5] 0 n0 e H:=rfl
@[simp] theorem en100_3:enter cx 100 n0 3 e H = enterK [2,3,4,5,9,10,11] 6 n0 e H:=rfl
@[simp] theorem en100_4:enter cx 100 n0 4 e H = enterK [2,3,4,5,9,10,11] 0 n0 e H:=rfl
@[simp] theorem en100_5:enter cx 100 n0 5 e H = enterK [2,3,4,5,7,9,10,11] 0 n0 e H:=rfl
@[simp] theorem en100_6:enter cx 100 n0 6 e H = enterK [2,3,4,5,9,10,11] 0 n0 e H:=rfl
@[simp] theorem en100_7:enter cx 100 n0 7 e H = enterZ [5] [2,3,4,5] 0 n0 e H:=rfl
@[simp] theorem en102_0:enter cx 102 n0 0 e H = enterK [0] 0 n0 e H:=rfl
@[simp] theorem en102_1:enter cx 102 n0 1 e H = enterK [1] 0 n0 e H:=rfl
@[simp] theorem en102_2:enter cx 102 n0 2 e H = enterK [1] 0 n0 e H:=rfl
@[simp] theorem en102_3:enter cx 102 n0 3 e H = enterK [1] 0 n0 e H:=rfl
@[simp] theorem en104_0:enter cx 104 n0 0 e H = enterK [0] 0 n0 e H:=rfl
@[simp] theorem en104_1:enter cx 104 n0 1 e H = enterK [0] 0 n0 e H:=rfl
@[simp] theorem en104_2:enter cx 104 n0 2 e H = enterK [0,3] 0 n0 e H:=rfl
@[simp] theorem en104_3:enter cx 104 n0 3 e H = enterK [3,6,7,8] 0 n0 e H:=rfl
@[simp] theorem en104_4:enter cx 104 n0 4 e H = enterK [3,6,7,8] 0 n0 e H:=rfl
@[simp] theorem en104_5:enter cx 104 n0 5 e H = enterK [3,5,6,7,8] 0 n0 e H:=rfl
@[simp] theorem en104_6:enter cx 104 n0 6 e H = enterK [3,6,7,8] 0 n0 e H:=rfl
@[simp] theorem en104_7:enter cx 104 n0 7 e H = enterK [3] 0 n0 e H:=rfl
@[simp] theorem en106_0:enter cx 106 n0 0 e H = enterK [0] 0 n0 e H:=rfl
@[simp] theorem en106_1:enter cx 106 n0 1 e H = enterK [0] 0 n0 e H:=rfl
@[simp] theorem en107_0:enter cx 107 n0 0 e H = enterK [0] 0 n0 e H:=rfl
@[simp] theorem en107_1:enter cx 107 n0 1 e H = enterK [0] 0 n0 e H:=rfl
@[simp] theorem en107_2:enter cx 107 n0 2 e H = enterK [0,4] 0 n0 e H:=rfl
@[simp] theorem en107_3:enter cx 107 n0 3 e H = enterK [] 0 n0 e H:=rfl
@[simp] theorem en107_4:enter cx 107 n0 4 e H = enterK [0,4] 0 n0 e H:=rfl
@[simp] theorem en107_5:enter cx 107 n0 5 e H = enterK [0,4,5] 0 n0 e H:=rfl
@[simp] theorem en107_6:enter cx 107 n0 6 e H = enterK [] 0 n0 e H:=rfl
@[simp] theorem en107_7:enter cx 107 n0 7 e H = enterK [0,4] 0 n0 e H:=rfl
@[simp] theorem en108_0:enter cx 108 n0 0 e H = enterK [0,1] 0 n0 e H:=rfl
@[simp] theorem en108_1:enter cx 108 n0 1 e H = enterK [0,1] 0 n0 e H:=rfl
@[simp] theorem en109_0:enter cx 109 n0 0 e H = enterK [0] 0 n0 e H:=rfl
@[simp] theorem en109_1:enter cx 109 n0 1 e H = enterK [0,2] 0 n0 e H:=rfl
@[simp] theorem en109_2:enter cx 109 n0 2 e H = enterK [0,2,5] 0 n0 e H:=rfl
@[simp] theorem en109_3:enter cx 109 n0 3 e H = enterK [0,2,5,6] 0 n0 e H:=rfl
@[simp] theorem en109_4:enter cx 109 n0 4 e H = enterK [0,2,5,6] 0 n0 e H:=rfl
@[simp] theorem en109_5:enter cx 109 n0 5 e H = enterK [0,2,5,6] 0 n0 e H:=rfl
@[simp] theorem en109_6:enter cx 109 n0 6 e H = enterK [0,2,6] 0 n0 e H:=rfl
@[simp] theorem en109_7:enter cx 109 n0 7 e H = enterK [0,2,6,7] 0 n0 e H:=rfl
@[simp] theorem en109_8:enter cx 109 n0 8 e H = enterK [2] 0 n0 e H:=rfl
@[simp] theorem en109_9:enter cx 109 n0 9 e H = enterK [2,6,7] 0 n0 e H:=rfl
@[simp] theorem en110_0:enter cx 110 n0 0 e H = enterK [0,1] 0 n0 e H:=rfl
@[simp] theorem en110_1:enter cx 110 n0 1 e H = enterK [0,3] 0 n0 e H:=rfl
@[simp] theorem en110_2:enter cx 110 n0 2 e H = enterK [] 0 n0 e H:=rfl
@[simp] theorem en110_3:enter cx 110 n0 3 e H = enterK [0,3] 0 n0 e H:=rfl
@[simp] theorem en110_4:enter cx 110 n0 4 e H = enterK [] 0 n0 e H:=rfl
@[simp] theorem en110_5:enter cx 110 n0 5 e H = enterK [] 0 n0 e H:=rfl
@[simp] theorem en111_0:enter cx 111 n0 0 e H = enterK [0,1] 0 n0 e H:=rfl
@[simp] theorem en111_1:enter cx 111 n0 1 e H = enterK [0,3,4] 0 n0 e H:=rfl
@[simp] theorem en111_2:enter cx 111 n0 2 e H = enterK [0,3,4,5] 0 n0 e H:=rfl
@[simp] theorem en111_3:enter cx 111 n0 3 e H = enterK [0,4,5] 0 n0 e H:=rfl
@[simp] theorem en111_4:enter cx 111 n0 4 e H = enterK [3,4] 0 n0 e H:=rfl
@[simp] theorem en112_0:enter cx 112 n0 0 e H = enterK [0,1] 0 n0 e H:=rfl
@[simp] theorem en112_1:enter cx 112 n0 1 e H = enterK [0,1] 0 n0 e H:=rfl
@[simp] theorem en112_2:enter cx 112 n0 2 e H = enterK [] 0 n0 e H:=rfl
@[simp] theorem en112_3:enter cx 112 n0 3 e H = enterK [0,1] 0 n0 e H:=rfl
@[simp] theorem en113_0:enter cx 113 n0 0 e H = enterK [0,1] 0 n0 e H:=rfl
@[simp] theorem en113_1:enter cx 113 n0 1 e H = enterK [0,3] 0 n0 e H:=rfl
@[simp] theorem en113_2:enter cx 113 n0 2 e H = enterK [3,5] 0 n0 e H:=rfl
@[simp] theorem en113_3:enter cx 113 n0 3 e H = enterK [3,5,6] 0 n0 e H:=rfl
@[simp] theorem en113_4:enter cx 113 n0 4 e H = enterK [3,5,6] 0 n0 e H:=rfl
@[simp] theorem en113_5:enter cx 113 n0 5 e H = enterK [5] 0 n0 e H:=rfl
@[simp] theorem en113_6:enter cx 113 n0 6 e H = enterK [3,5] 0 n0 e H:=rfl
@[simp] theorem en113_7:enter cx 113 n0 7 e H = enterK [5] 0 n0 e H:=rfl
@[simp] theorem en113_8:enter cx 113 n0 8 e H = enterK [5] 0 n0 e H:=rfl
@[simp] theorem en114_0:enter cx 114 n0 0 e H = enterK [0] 0 n0 e H:=rfl
@[simp] theorem en114_1:enter cx 114 n0 1 e H = enterK [0] 0 n0 e H:=rfl
@[simp] theorem en114_2:enter cx 114 n0 2 e H = enterK [] 0 n0 e H:=rfl
@[simp] theorem en114_3:enter cx 114 n0 3 e H = enterK [0] 0 n0 e H:=rfl
@[simp] theorem en114_4:enter cx 114 n0 4 e H = enterK [0,4] 0 n0 e H:=rfl
@[simp] theorem en114_5:enter cx 114 n0 5 e H = enterK [0,4,5] 0 n0 e H:=rfl
@[simp] theorem en114_6:enter cx 114 n0 6 e H = enterK [0,4,5] 0 n0 e H:=rfl
@[simp] theorem en114_7:enter cx 114 n0 7 e H = enterK [0,4,5] 0 n0 e H:=rfl
@[simp] theorem en114_8:enter cx 114 n0 8 e H = enterK [] 0 n0 e H:=rfl
@[simp] theorem en114_9:enter cx 114 n0 9 e H = enterK [0,4,5] 0 n0 e H:=rfl
@[simp] theorem en114_10:enter cx 114 n0 10 e H = enterK [0,4,5,6] 0 n0 e H:=rfl
@[simp] theorem en114_11:enter cx 114 n0 11 e H = enterK [] 0 n0 e H:=rfl
@[simp] theorem en114_12:enter cx 114 n0 12 e H = enterK [0,4,5,6] 0 n0 e H:=rfl
@[simp] theorem en114_13:enter cx 114 n0 13 e H = enterK [4] 0 n0 e H:=rfl
@[simp] theorem en115_0:enter cx 115 n0 0 e H = enterK [0] 0 n0 e H:=rfl
@[simp] theorem en115_1:enter cx 115 n0 1 e H = enterK [0] 0 n0 e H:=rfl
@[simp] theorem en115_2:enter cx 115 n0 2 e H = enterK [0,3] 0 n0 e H:=rfl
@[simp] theorem en115_3:enter cx 115 n0 3 e H = enterK [0,3,4] 0 n0 e H:=rfl
@[simp] theorem en115_4:enter cx 115 n0 4 e H = enterR [] [3] [0,4] n0 e H:=rfl
@[simp] theorem en115_5:enter cx 115 n0 5 e H = enterK [0,3,4] 0 n0 e H:=rfl
@[simp] theorem en115_6:enter cx 115 n0 6 e H = enterK [3] 0 n0 e H:=rfl
@[simp] theorem en116_0:enter cx 116 n0 0 e H = enterK [0] 0 n0 e H:=rfl
@[simp] theorem en116_1:enter cx 116 n0 1 e H = enterK [0] 0 n0 e H:=rfl
@[simp] theorem en116_2:enter cx 116 n0 2 e H = enterK [] 0 n0 e H:=rfl
@[simp] theorem en116_3:enter cx 116 n0 3 e H = enterK [0] 0 n0 e H:=rfl
@[simp] theorem en116_4:enter cx 116 n0 4 e H = enterK [0,4] 0 n0 e H:=rfl
@[simp] theorem en116_5:enter cx 116 n0 5 e H = enterK [0,4,5] 0 n0 e H:=rfl
@[simp] theorem en116_6:enter cx 116 n0 6 e H = enterK [] 0 n0 e H:=rfl
@[simp] theorem en116_7:enter cx 116 n0 7 e H = enterK [0,4] 0 n0 e H:=rfl
@[simp] theorem en117_0:enter cx 117 n0 0 e H = enterK [0,1,2] 0 n0 e H:=rfl
@[simp] theorem en117_1:enter cx 117 n0 1 e H = enterK [0,1,2] 0 n0 e H:=rfl
@[simp] theorem en117_2:enter cx 117 n0 2 e H = enterK [] 0 n0 e H:=rfl
@[simp] theorem en117_3:enter cx 117 n0 3 e H = enterK [0,1,2] 0 n0 e H:=rfl
@[simp] theorem en117_4:enter cx 117 n0 4 e H = enterK [0,1,2,8] 0 n0 e H:=rfl
@[simp] theorem en117_5:enter cx 117 n0 5 e H = enterK [0,1,8,9] 0 n0 e H:=rfl
@[simp] theorem en117_6:enter cx 117 n0 6 e H = enterK [0,1,8,9] 0 n0 e H:=rfl
@[simp] theorem en117_7:enter cx 117 n0 7 e H = enterK [0,1,8,9] 0 n0 e H:=rfl
@[simp] theorem en117_8:enter cx 117 n0 8 e H = enterK [8] 0 n0 e H:=rfl
@[simp] theorem en118_0:enter cx 118 n0 0 e H = enterK [0] 0 n0 e H:=rfl
@[simp] theorem en118_1:enter cx 118 n0 1 e H = enterK [0,2] 0 n0 e H:=rfl
@[simp] theorem en118_2:enter cx 118 n0 2 e H = enterK [0,2,5,6,7] 0 n0 e H:=rfl
@[simp] theorem en118_3:enter cx 118 n0 3 e H = enterK [0,2,5] 0 n0 e H:=rfl
@[simp] theorem en118_4:enter cx 118 n0 4 e H = enterK [0,2,5,6,7] 0 n0 e H:=rfl
@[simp] theorem en118_5:enter cx 118 n0 5 e H = enterK [2] 0 n0 e H:=rfl
@[simp] theorem en118_6:enter cx 118 n0 6 e H = enterK [2,5,6] 0 n0 e H:=rfl
@[simp] theorem en119_0:enter cx 119 n0 0 e H = enterK [0] 0 n0 e H:=rfl
@[simp] theorem en119_1:enter cx 119 n0 1 e H = enterK [0] 0 n0 e H:=rfl
@[simp] theorem en119_2:enter cx 119 n0 2 e H = enterK [] 0 n0 e H:=rfl
@[simp] theorem en119_3:enter cx 119 n0 3 e H = enterK [0] 0 n0 e H:=rfl
@[simp] theorem en119_4:enter cx 119 n0 4 e H = enterK [] 0 n0 e H:=rfl
@[simp] theorem en119_5:enter cx 119 n0 5 e H = enterK [0] 0 n0 e H:=rfl
@[simp] theorem en119_6:enter cx 119 n0 6 e H = enterK [0,5] 0 n0 e H:=rfl
@[simp] theorem en119_7:enter cx 119 n0 7 e H = enterK [0,5,6] 0 n0 e H:=rfl
@[simp] theorem en119_8:enter cx 119 n0 8 e H = enterK [0,5,6,7] 0 n0 e H:=rfl
@[simp] theorem en119_9:enter cx 119 n0 9 e H = enterR [] [5] [0,6,7] n0 e H:=rfl
@[simp] theorem en119_10:enter cx 119 n0 10 e H = enterK [0,5,6,7] 0 n0 e H:=rfl
@[simp] theorem en119_11:enter cx 119 n0 11 e H = enterK [] 0 n0 e H:=rfl
@[simp] theorem en119_12:enter cx 119 n0 12 e H = enterK [0,5,6,7] 0 n0 e H:=rfl
@[simp] theorem en119_13:enter cx 119 n0 13 e H = enterK [0,5,6,7,8] 0 n0 e H:=rfl
@[simp] theorem en119_14:enter cx 119 n0 14 e H = enterK [0,5,6,7,8,9] 0 n0 e H:=rfl
@[simp] theorem en119_15:enter cx 119 n0 15 e H = enterK [0,5,6,7,8,9] 0 n0 e H:=rfl
@[simp] theorem en119_16:enter cx 119 n0 16 e H = enterK [0,5,6,7,8,9] 0 n0 e H:=rfl
@[simp] theorem en119_17:enter cx 119 n0 17 e H = enterK [0,5,6,7,8] 0 n0 e H:=rfl
@[simp] theorem en119_18:enter cx 119 n0 18 e H = enterK [] 0 n0 e H:=rfl
@[simp] theorem en119_19:enter cx 119 n0 19 e H = enterK [0,5,6,7,8] 0 n0 e H:=rfl
@[simp] theorem en119_20:enter cx 119 n0 20 e H = enterK [0,5,6,7,8] 0 n0 e H:=rfl
@[simp] theorem en119_21:enter cx 119 n0 21 e H = enterK [] 0 n0 e H:=rfl
@[simp] theorem en119_22:enter cx 119 n0 22 e H = enterK [0,5,6,7,8] 0 n0 e H:=rfl
@[simp] theorem en119_23:enter cx 119 n0 23 e H = enterK [0,5,6,7,8] 0 n0 e H:=rfl
@[simp] theorem en119_24:enter cx 119 n0 24 e H = enterK [0,5,6,7,8] 0 n0 e H:=rfl
@[simp] theorem en119_25:enter cx 119 n0 25 e H = enterK [0,5,6,7,8] 0 n0 e H:=rfl
@[simp] theorem en119_26:enter cx 119 n0 26 e H = enterK [0,5,6,7,8] 0 n0 e H:=rfl
@[simp] theorem en119_27:enter cx 119 n0 27 e H = enterK [5,6] 0 n0 e H:=rfl
@[simp] theorem en120_0:enter cx 120 n0 0 e H = enterK [0,1] 0 n0 e H:=rfl
@[simp] theorem en120_1:enter cx 120 n0 1 e H = enterK [0,1] 0 n0 e H:=rfl
@[simp] theorem en120_2:enter cx 120 n0 2 e H = enterK [] 0 n0 e H:=rfl
@[simp] theorem en120_3:enter cx 120 n0 3 e H = enterK [0,1] 0 n0 e H:=rfl
@[simp] theorem en120_4:enter cx 120 n0 4 e H = enterK [0,1,5] 0 n0 e H:=rfl
@[simp] theorem en120_5:enter cx 120 n0 5 e H = enterK [0,1,5] 0 n0 e H:=rfl
@[simp] theorem en120_6:enter cx 120 n0 6 e H = enterK [0,1,5] 0 n0 e H:=rfl
@[simp] theorem en120_7:enter cx 120 n0 7 e H = enterK [] 0 n0 e H:=rfl
@[simp] theorem en120_8:enter cx 120 n0 8 e H = enterK [] 0 n0 e H:=rfl
@[simp] theorem en122_0:enter cx 122 n0 0 e H = enterK [0,1] 0 n0 e H:=rfl
@[simp] theorem en122_1:enter cx 122 n0 1 e H = enterK [0,1] 0 n0 e H:=rfl
@[simp] theorem en126_0:enter cx 126 n0 0 e H = enterK [0,1] 0 n0 e H:=rfl
@[simp] theorem en126_1:enter cx 126 n0 1 e H = enterK [0,1] 0 n0 e H:=rfl
@[simp] theorem en127_0:enter cx 127 n0 0 e H = enterK [0,1] 0 n0 e H:=rfl
@[simp] theorem en127_1:enter cx 127 n0 1 e H = enterK [0,1] 0 n0 e H:=rfl
@[simp] theorem en128_0:enter cx 128 n0 0 e H = enterK [0,1,2] 0 n0 e H:=rfl
@[simp] theorem en128_1:enter cx 128 n0 1 e H = enterK [0,1,2] 0 n0 e H:=rfl
@[simp] theorem en128_2:enter cx 128 n0 2 e H = enterK [0,1,2,8,9] 0 n0 e H:=rfl
@[simp] theorem en128_3:enter cx 128 n0 3 e H = enterK [0,1,2,8,9] 0 n0 e H:=rfl
@[simp] theorem en128_4:enter cx 128 n0 4 e H = enterK [8] 0 n0 e H:=rfl
@[simp] theorem en129_0:enter cx 129 n0 0 e H = enterK [0,1] 0 n0 e H:=rfl
@[simp] theorem en129_1:enter cx 129 n0 1 e H = enterK [0,1] 0 n0 e H:=rfl
@[simp] theorem en130_0:enter cx 130 n0 0 e H = enterK [0] 0 n0 e H:=rfl
@[simp] theorem en130_1:enter cx 130 n0 1 e H = enterK [0] 0 n0 e H:=rfl
@[simp] theorem en131_0:enter cx 131 n0 0 e H = enterK [0,1] 0 n0 e H:=rfl
@[simp] theorem en131_1:enter cx 131 n0 1 e H = enterK [0,1] 0 n0 e H:=rfl
@[simp] theorem en132_0:enter cx 132 n0 0 e H = enterK [0] 0 n0 e H:=rfl
@[simp] theorem en132_1:enter cx 132 n0 1 e H = enterK [1] 0 n0 e H:=rfl
@[simp] theorem en133_0:enter cx 133 n0 0 e H = enterK [0] 0 n0 e H:=rfl
@[simp] theorem en133_1:enter cx 133 n0 1 e H = enterK [1] 0 n0 e H:=rfl
@[simp] theorem en133_2:enter cx 133 n0 2 e H = enterK [1,3] 0 n0 e H:=rfl
@[simp] theorem en133_3:enter cx 133 n0 3 e H = enterK [1,3,4] 0 n0 e H:=rfl
@[simp] theorem en133_4:enter cx 133 n0 4 e H = enterK [1,3,4] 0 n0 e H:=rfl
@[simp] theorem en133_5:enter cx 133 n0 5 e H = enterK [1,3,4] 0 n0 e H:=rfl
@[simp] theorem en133_6:enter cx 133 n0 6 e H = enterK [3] 0 n0 e H:=rfl
@[simp] theorem en134_0:enter cx 134 n0 0 e H = enterK [0] 0 n0 e H:=rfl
@[simp] theorem en134_1:enter cx 134 n0 1 e H = enterK [1] 0 n0 e H:=rfl
@[simp] theorem en135_0:enter cx 135 n0 0 e H = enterK [0,1] 0 n0 e H:=rfl
@[simp] theorem en135_1:enter cx 135 n0 1 e H = enterK [2,3,4] 0 n0 e H:=rfl
@[simp] theorem en136_0:enter cx 136 n0 0 e H = enterK [0] 0 n0 e H:=rfl
@[simp] theorem en136_1:enter cx 136 n0 1 e H = enterK [0] 0 n0 e H:=rfl
@[simp] theorem en136_2:enter cx 136 n0 2 e H = enterK [0,3] 0 n0 e H:=rfl
@[simp] theorem en136_3:enter cx 136 n0 3 e H = enterK [0,3] 0 n0 e H:=rfl
@[simp] theorem en136_4:enter cx 136 n0 4 e H = enterK [0,3] 0 n0 e H:=rfl
@[simp] theorem en136_5:enter cx 136 n0 5 e H = enterK [] 0 n0 e H:=rfl
@[simp] theorem en136_6:enter cx 136 n0 6 e H = enterK [] 0 n0 e H:=rfl
@[simp] theorem en137_0:enter cx 137 n0 0 e H = enterK [0] 0 n0 e H:=rfl
@[simp] theorem en137_1:enter cx 137 n0 1 e H = enterK [1] 0 n0 e H:=rfl
@[simp] theorem en137_2:enter cx 137 n0 2 e H = enterK [] 0 n0 e H:=rfl
@[simp] theorem en137_3:enter cx 137 n0 3 e H = enterK [1] 0 n0 e H:=rfl
@[simp] theorem en137_4:enter cx 137 n0 4 e H = enterK [] 0 n0 e H:=rfl
@[simp] theorem en137_5:enter cx 137 n0 5 e H = enterK [1] 0 n0 e H:=rfl
@[simp] theorem en138_0:enter cx 138 n0 0 e H = enterK [0] 0 n0 e H:=rfl
@[simp] theorem en138_1:enter cx 138 n0 1 e H = enterK [1] 0 n0 e H:=rfl
@[simp] theorem en139_0:enter cx 139 n0 0 e H = enterK [0] 0 n0 e H:=rfl
@[simp] theorem en139_1:enter cx 139 n0 1 e H = enterK [0,2] 0 n0 e H:=rfl
@[simp] theorem en140_0:enter cx 140 n0 0 e H = enterK [0] 0 n0 e H:=rfl
@[simp] theorem en140_1:enter cx 140 n0 1 e H = enterK [1] 0 n0 e H:=rfl
@[simp] theorem en141_0:enter cx 141 n0 0 e H = enterK [0] 0 n0 e H:=rfl
@[simp] theorem en141_1:enter cx 141 n0 1 e H = enterK [0] 0 n0 e H:=rfl
@[simp] theorem en142_0:enter cx 142 n0 0 e H = enterK [0] 0 n0 e H:=rfl
@[simp] theorem en142_1:enter cx 142 n0 1 e H = enterK [0] 0 n0 e H:=rfl
@[simp] theorem en142_2:enter cx 142 n0 2 e H = enterK [0,3] 0 n0 e H:=rfl
@[simp] theorem en142_3:enter cx 142 n0 3 e H = enterK [3,6,7,8] 0 n0 e H:=rfl
@[simp] theorem en142_4:enter cx 142 n0 4 e H = enterK [3,6,7,8] 0 n0 e H:=rfl
@[simp] theorem en142_5:enter cx 142 n0 5 e H = enterK [3,5,6,7,8] 0 n0 e H:=rfl
@[simp] theorem en142_6:enter cx 142 n0 6 e H = enterK [3,6,7,8] 0 n0 e H:=rfl
@[simp] theorem en142_7:enter cx 142 n0 7 e H = enterK [3] 0 n0 e H:=rfl
@[simp] theorem en144_0:enter cx 144 n0 0 e H = enterK [0] 0 n0 e H:=rfl
@[simp] theorem en144_1:enter cx 144 n0 1 e H = enterK [0] 0 n0 e H:=rfl
@[simp] theorem en144_2:enter cx 144 n0 2 e H = enterK [0,5,6] 0 n0 e H:=rfl
@[simp] theorem en144_3:enter cx 144 n0 3 e H = enterK [0,5,6] 0 n0 e H:=rfl
@[simp] theorem en144_4:enter cx 144 n0 4 e H = enterK [0,3,5,6] 0 n0 e H:=rfl
@[simp] theorem en144_5:enter cx 144 n0 5 e H = enterK [] 0 n0 e H:=rfl
@[simp] theorem en144_6:enter cx 144 n0 6 e H = enterK [0,5,6] 0 n0 e H:=rfl
@[simp] theorem en144_7:enter cx 144 n0 7 e H = enterK [] 0 n0 e H:=rfl
@[simp] theorem en145_0:enter cx 145 n0 0 e H = enterK [0,1] 0 n0 e H:=rfl
@[simp] theorem en145_1:enter cx 145 n0 1 e H = enterK [0,1] 0 n0 e H:=rfl
@[simp] theorem en145_2:enter cx 145 n0 2 e H = enterK [0,1] 0 n0 e H:=rfl
@[simp] theorem en145_3:enter cx 145 n0 3 e H = enterK [0,9,10,11] 0 n0 e H:=rfl
@[simp] theorem en145_4:enter cx 145 n0 4 e H = enterK [0,9,10,11] 0 n0 e H:=rfl
@[simp] theorem en145_5:enter cx 145 n0 5 e H = enterK [0,6,9,10,11] 0 n0 e H:=rfl
@[simp] theorem en145_6:enter cx 145 n0 6 e H = enterK [0,9,10,11] 0 n0 e H:=rfl
@[simp] theorem en145_7:enter cx 145 n0 7 e H = enterK [0,9,10,11,19] 0 n0 e H:=rfl
@[simp] theorem en145_8:enter cx 145 n0 8 e H = enterK [0,9,10,11,19] 0 n0 e H:=rfl
@[simp] theorem en145_9:enter cx 145 n0 9 e H = enterK [0,9,10,11,19] 0 n0 e H:=rfl
@[simp] theorem en145_10:enter cx 145 n0 10 e H = enterK [0,9,10,11,19] 0 n0 e H:=rfl
@[simp] theorem en145_11:enter cx 145 n0 11 e H = enterK [0,9,10,11,19] 0 n0 e H:=rfl
@[simp] theorem en145_12:enter cx 145 n0 12 e H = enterK [0,9,10,11] 0 n0 e H:=rfl
@[simp] theorem en145_13:enter cx 145 n0 13 e H = enterK [0] 0 n0 e H:=rfl
@[simp] theorem en146_0:enter cx 146 n0 0 e H = enterK [0] 0 n0 e H:=rfl
@[simp] theorem en146_1:enter cx 146 n0 1 e H = enterK [0,2] 0 n0 e H:=rfl
@[simp] theorem en146_2:enter cx 146 n0 2 e H = enterK [0,2,3,4] 0 n0 e H:=rfl
@[simp] theorem en146_3:enter cx 146 n0 3 e H = enterK [0,2,3,4,6] 0 n0 e H:=rfl
@[simp] theorem en146_4:enter cx 146 n0 4 e H = enterK [0,2,6,25,26,27] 0 n0 e H:=rfl
@[simp] theorem en146_5:enter cx 146 n0 5 e H = enterK [0,2,6,25,26,27] 0 n0 e H:=rfl
@[simp] theorem en146_6:enter cx 146 n0 6 e H = enterK [0,2,6,8,25,26,27] 0 n0 e H:=rfl
@[simp] theorem en146_7:enter cx 146 n0 7 e H = enterK [0,2,6,8,9,10,25,26,27] 0 n0 e H:=rfl
@[simp] theorem en146_8:enter cx 146 n0 8 e H = enterK [0,2,6,8,9,25,26,27] 0 n0 e H:=rfl
@[simp] theorem en146_9:enter cx 146 n0 9 e H = enterK [0,2,6,25,26,27] 0 n0 e H:=rfl
@[simp] theorem en146_10:enter cx 146 n0 10 e H = enterK [0,2,6] 0 n0 e H:=rfl
@[simp] theorem en146_11:enter cx 146 n0 11 e H = enterK [2,6] 0 n0 e H:=rfl
@[simp] theorem en147_0:enter cx 147 n0 0 e H = enterK [0] 0 n0 e H:=rfl
@[simp] theorem en147_1:enter cx 147 n0 1 e H = enterK [0,2] 0 n0 e H:=rfl
@[simp] theorem en147_2:enter cx 147 n0 2 e H = enterK [0,2,3] 0 n0 e H:=rfl
@[simp] theorem en147_3:enter cx 147 n0 3 e H = enterK [0,2,3,4] 0 n0 e H:=rfl
@[simp] theorem en147_4:enter cx 147 n0 4 e H = enterK [0,2,3,4] 0 n0 e H:=rfl
@[simp] theorem en147_5:enter cx 147 n0 5 e H = enterK [0,2,3,4] 0 n0 e H:=rfl
@[simp] theorem en147_6:enter cx 147 n0 6 e H = enterK [0,2,3,4] 0 n0 e H:=rfl
@[simp] theorem en147_7:enter cx 147 n0 7 e H = enterK [0,2,3,4] 0 n0 e H:=rfl
@[simp] theorem en147_8:enter cx 147 n0 8 e H = enterK [0,2,3,4] 0 n0 e H:=rfl
@[simp] theorem en147_9:enter cx 147 n0 9 e H = enterK [0,2,3,4] 6 n0 e H:=rfl
@[simp] theorem en147_10:enter cx 147 n0 10 e H = enterK [0,2,3,4] 0 n0 e H:=rfl
@[simp] theorem en147_11:enter cx 147 n0 11 e H = enterK [0,2,3,4,5,6] 0 n0 e H:=rfl
@[simp] theorem en147_12:enter cx 147 n0 12 e H = enterK [0,2,3,4,5] 0 n0 e H:=rfl
@[simp] theorem en147_13:enter cx 147 n0 13 e H = enterK [2,3] 0 n0 e H:=rfl
@[simp] theorem en148_0:enter cx 148 n0 0 e H = enterK [0,1] 0 n0 e H:=rfl
@[simp] theorem en148_1:enter cx 148 n0 1 e H = enterK [0,3] 0 n0 e H:=rfl
@[simp] theorem en149_0:enter cx 149 n0 0 e H = enterK [0,1] 0 n0 e H:=rfl
@[simp] theorem en149_1:enter cx 149 n0 1 e H = enterK [0,1,4] 0 n0 e H:=rfl
@[simp] theorem en150_0:enter cx 150 n0 0 e H = enterK [0,1] 0 n0 e H:=rfl
@[simp] theorem en150_1:enter cx 150 n0 1 e H = enterK [2,3] 0 n0 e H:=rfl
@[simp] theorem en151_0:enter cx 151 n0 0 e H = enterK [0] 0 n0 e H:=rfl
@[simp] theorem en151_1:enter cx 151 n0 1 e H = enterK [0,2] 0 n0 e H:=rfl
@[simp] theorem en151_2:enter cx 151 n0 2 e H = enterK [2,5,6,7] 0 n0 e H:=rfl
@[simp] theorem en151_3:enter cx 151 n0 3 e H = enterK [2] 0 n0 e H:=rfl
@[simp] theorem en151_4:enter cx 151 n0 4 e H = enterK [2,5,6] 0 n0 e H:=rfl
@[simp] theorem en151_5:enter cx 151 n0 5 e H = enterK [2,5,6,8] 0 n0 e H:=rfl
@[simp] theorem en151_6:enter cx 151 n0 6 e H = enterK [2,5,6,8,9,10] 0 n0 e H:=rfl
@[simp] theorem en151_7:enter cx 151 n0 7 e H = enterK [2,5,6,8,10] 0 n0 e H:=rfl
@[simp] theorem en151_8:enter cx 151 n0 8 e H = enterK [2,5,6,8,10,11] 0 n0 e H:=rfl
@[simp] theorem en151_9:enter cx 151 n0 9 e H = enterK [2,5,6,8,10,11] 0 n0 e H:=rfl
@[simp] theorem en151_10:enter cx 151 n0 10 e H = enterK [2,5,6,8,10,11] 0 n0 e H:=rfl
@[simp] theorem en151_11:enter cx 151 n0 11 e H = enterK [2,5,6,8,10,11] 0 n0 e H:=rfl
@[simp] theorem en151_12:enter cx 151 n0 12 e H = enterK [2,5,6,8,10,11,12,13] 0 n0 e H:=rfl
@[simp] theorem en151_13:enter cx 151 n0 13 e H = enterK [2,6,8,10,12,13,14,15] 0 n0 e H:=rfl
@[simp] theorem en151_14:enter cx 151 n0 14 e H = enterK [2,6,8,10,13,15] 0 n0 e H:=rfl
@[simp] theorem en151_15:enter cx 151 n0 15 e H = enterK [2] 0 n0 e H:=rfl
@[simp] theorem en152_0:enter cx 152 n0 0 e H = enterK [0] 0 n0 e H:=rfl
@[simp] theorem en152_1:enter cx 152 n0 1 e H = enterK [0,2] 0 n0 e H:=rfl
@[simp] theorem en152_2:enter cx 152 n0 2 e H = enterK [0,2,5,6,7] 0 n0 e H:=rfl
@[simp] theorem en152_3:enter cx 152 n0 3 e H = enterK [2] 0 n0 e H:=rfl
@[simp] theorem en152_4:enter cx 152 n0 4 e H = enterK [0,2,5,6] 0 n0 e H:=rfl
@[simp] theorem en152_5:enter cx 152 n0 5 e H = enterK [0,2,5,6,8] 0 n0 e H:=rfl
@[simp] theorem en152_6:enter cx 152 n0 6 e H = enterK [0,2,5,6,8,9] 0 n0 e H:=rfl
@[simp] theorem en152_7:enter cx 152 n0 7 e H = enterK [0,2,5,6,8,9] 0 n0 e H:=rfl
@[simp] theorem en152_8:enter cx 152 n0 8 e H = enterK [0,2,5,6,8,9] 0 n0 e H:=rfl
@[simp] theorem en152_9:enter cx 152 n0 9 e H = enterK [0,2,5,6,8,9] 0 n0 e H:=rfl
@[simp] theorem en152_10:enter cx 152 n0 10 e H = enterK [0,2,5,6,8,9] 0 n0 e H:=rfl
@[simp] theorem en152_11:enter cx 152 n0 11 e H = enterK [0,2,6,8,9] 0 n0 e H:=rfl
@[simp] theorem en152_12:enter cx 152 n0 12 e H = enterK [2] 0 n0 e H:=rfl
@[simp] theorem en152_13:enter cx 152 n0 13 e H = enterK [0,2,6,8] 0 n0 e H:=rfl
@[simp] theorem en152_14:enter cx 152 n0 14 e H = enterK [0,2,6,8,10] 9 n0 e H:=rfl
@[simp] theorem en152_15:enter cx 152 n0 15 e H = enterK [0,2,6,8,10] 0 n0 e H:=rfl
@[simp] theorem en152_16:enter cx 152 n0 16 e H = enterK [0,2,6,8,10] 0 n0 e H:=rfl
@[simp] theorem en152_17:enter cx 152 n0 17 e H = enterK [0,2,8,10,11,12,13] 0 n0 e H:=rfl
@[simp] theorem en152_18:enter cx 152 n0 18 e H = enterK [2] 0 n0 e H:=rfl
@[simp] theorem en152_19:enter cx 152 n0 19 e H = enterK [0,2,8,10,11,12] 0 n0 e H:=rfl
@[simp] theorem en152_20:enter cx 152 n0 20 e H = enterK [2,8,12] 0 n0 e H:=rfl
@[simp] theorem en152_21:enter cx 152 n0 21 e H = enterK [0,2,8,10,11,12] 0 n0 e H:=rfl
@[simp] theorem en152_22:enter cx 152 n0 22 e H = enterK [0,2,8,10,11,12,14,15] 0 n0 e H:=rfl
@[simp] theorem en152_23:enter cx 152 n0 23 e H = enterK [0,2,8,10,11,12,14] 0 n0 e H:=rfl
@[simp] theorem en152_24:enter cx 152 n0 24 e H = enterK [0,2,8,10,11,12,14,16,17] 0 n0 e H:=rfl
@[simp] theorem en152_25:enter cx 152 n0 25 e H = enterK [2] 0 n0 e H:=rfl
@[simp] theorem en152_26:enter cx 152 n0 26 e H = enterK [0,2,8,10,11,12,14,16] 0 n0 e H:=rfl
@[simp] theorem en152_27:enter cx 152 n0 27 e H = enterK [0,2,8,10,12,14,16] 0 n0 e H:=rfl
@[simp] theorem en152_28:enter cx 152 n0 28 e H = enterK [0,2,8,10,12,14] 0 n0 e H:=rfl
@[simp] theorem en152_29:enter cx 152 n0 29 e H = enterK [0,2,8,10,12] 0 n0 e H:=rfl
@[simp] theorem en152_30:enter cx 152 n0 30 e H = enterK [2] 0 n0 e H:=rfl
@[simp] theorem en155_0:enter cx 155 n0 0 e H = enterK [0,1] 0 n0 e H:=rfl
@[simp] theorem en155_1:enter cx 155 n0 1 e H = enterK [0,1] 0 n0 e H:=rfl
@[simp] theorem en155_2:enter cx 155 n0 2 e H = enterK [0] 0 n0 e H:=rfl
@[simp] theorem en155_3:enter cx 155 n0 3 e H = enterK [0,1] 0 n0 e H:=rfl
@[simp] theorem en156_0:enter cx 156 n0 0 e H = enterK [0,1] 0 n0 e H:=rfl
@[simp] theorem en156_1:enter cx 156 n0 1 e H = enterK [0,1] 0 n0 e H:=rfl
@[simp] theorem en156_2:enter cx 156 n0 2 e H = enterK [0,1,7] 0 n0 e H:=rfl
@[simp] theorem en156_3:enter cx 156 n0 3 e H = enterK [0,1,7] 0 n0 e H:=rfl
@[simp] theorem en156_4:enter cx 156 n0 4 e H = enterK [0] 0 n0 e H:=rfl
@[simp] theorem en157_0:enter cx 157 n0 0 e H = enterK [0,1,2] 0 n0 e H:=rfl
@[simp] theorem en157_1:enter cx 157 n0 1 e H = enterK [0,1,2] 0 n0 e H:=rfl
@[simp] theorem en157_2:enter cx 157 n0 2 e H = enterK [] 0 n0 e H:=rfl
@[simp] theorem en157_3:enter cx 157 n0 3 e H = enterK [0,1,2] 0 n0 e H:=rfl
@[simp] theorem en157_4:enter cx 157 n0 4 e H = enterK [0,1,2,8] 0 n0 e H:=rfl
@[simp] theorem en157_5:enter cx 157 n0 5 e H = enterK [] 0 n0 e H:=rfl
@[simp] theorem en157_6:enter cx 157 n0 6 e H = enterK [0,1,2,8,9] 0 n0 e H:=rfl
@[simp] theorem en157_7:enter cx 157 n0 7 e H = enterK [0,1,2,8,9] 0 n0 e H:=rfl
@[simp] theorem en157_8:enter cx 157 n0 8 e H = enterK [0,2,8,9] 0 n0 e H:=rfl
@[simp] theorem en157_9:enter cx 157 n0 9 e H = enterK [0,1,2,8,9] 0 n0 e H:=rfl
@[simp] theorem en157_10:enter cx 157 n0 10 e H = enterK [0,2,8,9] 0 n0 e H:=rfl
@[simp] theorem en157_11:enter cx 157 n0 11 e H = enterK [0,1,2,8,9] 0 n0 e H:=rfl
@[simp] theorem en157_12:enter cx 157 n0 12 e H = enterK [0,2,8,9] 0 n0 e H:=rfl
@[simp] theorem en157_13:enter cx 157 n0 13 e H = enterK [0,2,8,9] 0 n0 e H:=rfl
@[simp] theorem en157_14:enter cx 157 n0 14 e H = enterK [0,1,2,8,9] 0 n0 e H:=rfl
@[simp] theorem en157_15:enter cx 157 n0 15 e H = enterK [0,2,8,9] 0 n0 e H:=rfl
@[simp] theorem en157_16:enter cx 157 n0 16 e H = enterK [0,2,8,9] 0 n0 e H:=rfl
@[simp] theorem en157_17:enter cx 157 n0 17 e H = enterK [0,1,2,8,9] 0 n0 e H:=rfl
@[simp] theorem en157_18:enter cx 157 n0 18 e H = enterK [0,2,8,9] 0 n0 e H:=rfl
@[simp] theorem en157_19:enter cx 157 n0 19 e H = enterK [0,2,8,9] 0 n0 e H:=rfl
@[simp] theorem en157_20:enter cx 157 n0 20 e H = enterK [0,1,2,8,9] 0 n0 e H:=rfl
@[simp] theorem en157_21:enter cx 157 n0 21 e H = enterK [0,1,2,8,9] 0 n0 e H:=rfl
@[simp] theorem en157_22:enter cx 157 n0 22 e H = enterK [0,1,8,9] 0 n0 e H:=rfl
@[simp] theorem en157_23:enter cx 157 n0 23 e H = enterK [0,1,2,8,9] 0 n0 e H:=rfl
@[simp] theorem en157_24:enter cx 157 n0 24 e H = enterK [] 0 n0 e H:=rfl
@[simp] theorem en157_25:enter cx 157 n0 25 e H = enterK [0,1,2,8,9] 0 n0 e H:=rfl
@[simp] theorem en157_26:enter cx 157 n0 26 e H = enterK [0,1,2,8,9] 0 n0 e H:=rfl
@[simp] theorem en157_27:enter cx 157 n0 27 e H = enterK [0,1,2,8,9] 0 n0 e H:=rfl
@[simp] theorem en157_28:enter cx 157 n0 28 e H = enterK [0,1,2,8,9,85] 0 n0 e H:=rfl
@[simp] theorem en157_29:enter cx 157 n0 29 e H = enterK [0,1,2,8,9] 0 n0 e H:=rfl
@[simp] theorem en157_30:enter cx 157 n0 30 e H = enterK [0,1,2,8,9,85] 0 n0 e H:=rfl
@[simp] theorem en157_31:enter cx 157 n0 31 e H = enterK [0,1,2,8,9] 0 n0 e H:=rfl
@[simp] theorem en157_32:enter cx 157 n0 32 e H = enterK [0,1,2,8,9,10] 0 n0 e H:=rfl
@[simp] theorem en157_33:enter cx 157 n0 33 e H = enterK [0,1,8,9,10,11] 0 n0 e H:=rfl
@[simp] theorem en157_34:enter cx 157 n0 34 e H = enterK [0,1,8,9,10,11,12] 0 n0 e H:=rfl
@[simp] theorem en157_35:enter cx 157 n0 35 e H = enterK [0,1,8,9,10,11,12,13] 0 n0 e H:=rfl
@[simp] theorem en157_36:enter cx 157 n0 36 e H = enterK [1,8,9,10,11,12,13,99,100,101] 0 n0 e H:=rfl
@[simp] theorem en157_37:enter cx 157 n0 37 e H = enterK [1,8,9,10,11,12,13,99,100,101] 0 n0 e H:=rfl
@[simp] theorem en157_38:enter cx 157 n0 38 e H = enterK [1,8,9,10,11,12,13,15,99,100,101] 0 n0 e H:=rfl
@[simp] theorem en157_39:enter cx 157 n0 39 e H = enterK [] 0 n0 e H:=rfl
@[simp] theorem en157_40:enter cx 157 n0 40 e H = enterK [1,8,9,10,11,12,13,15,99,100,101] 0 n0 e H:=rfl
@[simp] theorem en157_41:enter cx 157 n0 41 e H = enterK [1,8,9,10,11,13,99,100,101] 0 n0 e H:=rfl
@[simp] theorem en157_42:enter cx 157 n0 42 e H = enterK [1,8,9,10,11,12,13,15,99,100,101] 0 n0 e H:=rfl
@[simp] theorem en157_43:enter cx 157 n0 43 e H = enterK [1,8,9,10,11,12,13,15,99,100,101] 0 n0 e H:=rfl
@[simp] theorem en157_44:enter cx 157 n0 44 e H = enterK [1,8,9,10,11,12,13,15,99,100,101] 0 n0 e H:=rfl
@[simp] theorem en157_45:enter cx 157 n0 45 e H = enterK [1,8,9,10,11,12,13,15,99,100,101] 0 n0 e H:=rfl
@[simp] theorem en157_46:enter cx 157 n0 46 e H = enterK [1,8,9,10,11,12,13,16,99,100,101] 0 n0 e H:=rfl
@[simp] theorem en157_47:enter cx 157 n0 47 e H = enterK [] 0 n0 e H:=rfl
@[simp] theorem en157_48:enter cx 157 n0 48 e H = enterK [1,8,9,10,11,12,13,16,99,100,101] 0 n0 e H:=rfl
@[simp] theorem en157_49:enter cx 157 n0 49 e H = enterK [11] 0 n0 e H:=rfl
@[simp] theorem en157_50:enter cx 157 n0 50 e H = enterK [1,8,9,10,11,12,13,16,99,100,101] 0 n0 e H:=rfl
@[simp] theorem en157_51:enter cx 157 n0 51 e H = enterK [1,8,9,10,11,12,13,16,99,100,101] 0 n0 e H:=rfl
@[simp] theorem en157_52:enter cx 157 n0 52 e H = enterK [1,8,9,10,11,12,13,17,99,100,101] 0 n0 e H:=rfl
@[simp] theorem en157_53:enter cx 157 n0 53 e H = enterK [11] 0 n0 e H:=rfl
@[simp] theorem en157_54:enter cx 157 n0 54 e H = enterK [1,8,9,10,11,12,17,99,100,101] 0 n0 e H:=rfl
@[simp] theorem en157_55:enter cx 157 n0 55 e H = enterK [1,8,9,10,11,12,13,99,100,101] 0 n0 e H:=rfl
@[simp] theorem en157_56:enter cx 157 n0 56 e H = enterK [9,12,13] 0 n0 e H:=rfl
@[simp] theorem en157_57:enter cx 157 n0 57 e H = enterK [] 0 n0 e H:=rfl
@[simp] theorem en157_58:enter cx 157 n0 58 e H = enterK [13] 0 n0 e H:=rfl
@[simp] theorem en158_0:enter cx 158 n0 0 e H = enterK [0,1,2,3,4] 0 n0 e H:=rfl
@[simp] theorem en158_1:enter cx 158 n0 1 e H = enterK [0,1,2,3,4] 0 n0 e H:=rfl
@[simp] theorem en158_2:enter cx 158 n0 2 e H = enterK [0,1,2,3,4,11] 0 n0 e H:=rfl
@[simp] theorem en158_3:enter cx 158 n0 3 e H = enterK [0,1] 0 n0 e H:=rfl
@[simp] theorem en158_4:enter cx 158 n0 4 e H = enterK [0,1,2,3,4,11] 0 n0 e H:=rfl
@[simp] theorem en158_5:enter cx 158 n0 5 e H = enterK [0,1] 0 n0 e H:=rfl
@[simp] theorem en158_6:enter cx 158 n0 6 e H = enterK [0,1,2,3,4,11] 0 n0 e H:=rfl
@[simp] theorem en158_7:enter cx 158 n0 7 e H = enterK [0,1,2] 0 n0 e H:=rfl
@[simp] theorem en158_8:enter cx 158 n0 8 e H = enterK [0,1,3,4,11] 0 n0 e H:=rfl
@[simp] theorem en158_9:enter cx 158 n0 9 e H = enterK [0,1,3] 0 n0 e H:=rfl
@[simp] theorem en158_10:enter cx 158 n0 10 e H = enterK [4] 0 n0 e H:=rfl
@[simp] theorem en159_0:enter cx 159 n0 0 e H = enterK [0,1] 0 n0 e H:=rfl
@[simp] theorem en159_1:enter cx 159 n0 1 e H = enterK [0,1] 0 n0 e H:=rfl
@[simp] theorem en159_2:enter cx 159 n0 2 e H = enterK [0,1] 0 n0 e H:=rfl
@[simp] theorem en159_3:enter cx 159 n0 3 e H = enterK [0] 0 n0 e H:=rfl
@[simp] theorem en160_0:enter cx 160 n0 0 e H = enterK [0,1] 0 n0 e H:=rfl
@[simp] theorem en160_1:enter cx 160 n0 1 e H = enterK [0,1] 0 n0 e H:=rfl
@[simp] theorem en160_2:enter cx 160 n0 2 e H = enterK [0] 0 n0 e H:=rfl
@[simp] theorem en160_3:enter cx 160 n0 3 e H = enterK [0] 0 n0 e H:=rfl
@[simp] theorem en160_4:enter cx 160 n0 4 e H = enterK [0] 0 n0 e H:=rfl
@[simp] theorem en160_5:enter cx 160 n0 5 e H = enterK [0,5] 0 n0 e H:=rfl
@[simp] theorem en160_6:enter cx 160 n0 6 e H = enterK [0,5,6] 0 n0 e H:=rfl
@[simp] theorem en160_7:enter cx 160 n0 7 e H = enterK [5,6] 0 n0 e H:=rfl
@[simp] theorem en160_8:enter cx 160 n0 8 e H = enterK [0,1] 0 n0 e H:=rfl
@[simp] theorem en160_9:enter cx 160 n0 9 e H = enterK [8] 0 n0 e H:=rfl
@[simp] theorem en161_0:enter cx 161 n0 0 e H = enterK [0] 0 n0 e H:=rfl
@[simp] theorem en161_1:enter cx 161 n0 1 e H = enterK [0] 0 n0 e H:=rfl
@[simp] theorem en161_2:enter cx 161 n0 2 e H = enterK [0,3] 0 n0 e H:=rfl
@[simp] theorem en161_3:enter cx 161 n0 3 e H = enterK [0,3] 0 n0 e H:=rfl
@[simp] theorem en161_4:enter cx 161 n0 4 e H = enterK [0,3] 0 n0 e H:=rfl
@[simp] theorem en161_5:enter cx 161 n0 5 e H = enterK [0,3,4] 0 n0 e H:=rfl
@[simp] theorem en161_6:enter cx 161 n0 6 e H = enterK [] 0 n0 e H:=rfl
@[simp] theorem en161_7:enter cx 161 n0 7 e H = enterK [0] 0 n0 e H:=rfl
@[simp] theorem en162_0:enter cx 162 n0 0 e H = enterK [0] 0 n0 e H:=rfl
@[simp] theorem en162_1:enter cx 162 n0 1 e H = enterK [0] 0 n0 e H:=rfl
@[simp] theorem en162_2:enter cx 162 n0 2 e H = enterK [3] 0 n0 e H:=rfl
@[simp] theorem en162_3:enter cx 162 n0 3 e H = enterK [3] 0 n0 e H:=rfl
@[simp] theorem en162_4:enter cx 162 n0 4 e H = enterK [3] 0 n0 e H:=rfl
@[simp] theorem en163_0:enter cx 163 n0 0 e H = enterK [0] 0 n0 e H:=rfl
@[simp] theorem en163_1:enter cx 163 n0 1 e H = enterK [0] 0 n0 e H:=rfl
@[simp] theorem en163_2:enter cx 163 n0 2 e H = enterK [0,3] 0 n0 e H:=rfl
@[simp] theorem en163_3:enter cx 163 n0 3 e H = enterK [0,3,4] 0 n0 e H:=rfl
@[simp] theorem en163_4:enter cx 163 n0 4 e H = enterK [0,3,4] 0 n0 e H:=rfl
@[simp] theorem en163_5:enter cx 163 n0 5 e H = enterK [0,3,4] 0 n0 e H:=rfl
@[simp] theorem en163_6:enter cx 163 n0 6 e H = enterK [3] 0 n0 e H:=rfl
@[simp] theorem en166_0:enter cx 166 n0 0 e H = enterK [0] 0 n0 e H:=rfl
@[simp] theorem en166_1:enter cx 166 n0 1 e H = enterK [0] 0 n0 e H:=rfl
@[simp] theorem en166_2:enter cx 166 n0 2 e H = enterK [] 0 n0 e H:=rfl
@[simp] theorem en166_3:enter cx 166 n0 3 e H = enterK [0] 0 n0 e H:=rfl
@[simp] theorem en166_4:enter cx 166 n0 4 e H = enterK [0,24,25] 0 n0 e H:=rfl
@[simp] theorem en166_5:enter cx 166 n0 5 e H = enterK [0,24,25] 0 n0 e H:=rfl
@[simp] theorem en166_6:enter cx 166 n0 6 e H = enterK [0,3,24,25] 0 n0 e H:=rfl
@[simp] theorem en166_7:enter cx 166 n0 7 e H = enterK [0,4,24,25] 0 n0 e H:=rfl
@[simp] theorem en166_8:enter cx 166 n0 8 e H = enterK [] 0 n0 e H:=rfl
@[simp] theorem en166_9:enter cx 166 n0 9 e H = enterK [0,24,25] 0 n0 e H:=rfl
@[simp] theorem en166_10:enter cx 166 n0 10 e H = enterK [] 0 n0 e H:=rfl
@[simp] theorem en167_0:enter cx 167 n0 0 e H = enterK [0] 0 n0 e H:=rfl
@[simp] theorem en167_1:enter cx 167 n0 1 e H = enterK [0] 0 n0 e H:=rfl
@[simp] theorem en167_2:enter cx 167 n0 2 e H = enterK [0,3] 0 n0 e H:=rfl
@[simp] theorem en167_3:enter cx 167 n0 3 e H = enterK [0,4] 0 n0 e H:=rfl
@[simp] theorem en167_4:enter cx 167 n0 4 e H = enterK [0,4] 0 n0 e H:=rfl
@[simp] theorem en167_5:enter cx 167 n0 5 e H = enterK [0,4] 0 n0 e H:=rfl
@[simp] theorem en167_6:enter cx 167 n0 6 e H = enterK [0,4] 0 n0 e H:=rfl
@[simp] theorem en167_7:enter cx 167 n0 7 e H = enterK [0,4] 0 n0 e H:=rfl
@[simp] theorem en167_8:enter cx 167 n0 8 e H = enterK [0,4] 0 n0 e H:=rfl
@[simp] theorem en167_9:enter cx 167 n0 9 e H = enterK [0,4,5] 0 n0 e H:=rfl
@[simp] theorem en167_10:enter cx 167 n0 10 e H = enterZ [5] [4,5] 0 n0 e H:=rfl
@[simp] theorem en167_11:enter cx 167 n0 11 e H = enterK [4] 0 n0 e H:=rfl
@[simp] theorem en167_12:enter cx 167 n0 12 e H = enterK [4] 0 n0 e H:=rfl
@[simp] theorem en169_0:enter cx 169 n0 0 e H = enterK [0,1] 0 n0 e H:=rfl
@[simp] theorem en169_1:enter cx 169 n0 1 e H = enterK [0,1] 0 n0 e H:=rfl
@[simp] theorem en169_2:enter cx 169 n0 2 e H = enterK [0,1,5,6] 0 n0 e H:=rfl
@[simp] theorem en169_3:enter cx 169 n0 3 e H = enterK [1,5] 0 n0 e H:=rfl
@[simp] theorem en170_0:enter cx 170 n0 0 e H = enterK [0,1] 0 n0 e H:=rfl
@[simp] theorem en170_1:enter cx 170 n0 1 e H = enterK [0,1,4] 0 n0 e H:=rfl
@[simp] theorem en170_2:enter cx 170 n0 2 e H = enterK [4,5] 0 n0 e H:=rfl
@[simp] theorem en171_0:enter cx 171 n0 0 e H = enterK [0,1] 0 n0 e H:=rfl
@[simp] theorem en171_1:enter cx 171 n0 1 e H = enterK [0,1] 0 n0 e H:=rfl
@[simp] theorem en171_2:enter cx 171 n0 2 e H = enterK [5,6] 0 n0 e H:=rfl
@[simp] theorem en171_3:enter cx 171 n0 3 e H = enterK [] 0 n0 e H:=rfl
@[simp] theorem en171_4:enter cx 171 n0 4 e H = enterK [5] 0 n0 e H:=rfl
@[simp] theorem en172_0:enter cx 172 n0 0 e H = enterK [0] 0 n0 e H:=rfl
@[simp] theorem en172_1:enter cx 172 n0 1 e H = enterK [0,2] 0 n0 e H:=rfl
@[simp] theorem en172_2:enter cx 172 n0 2 e H = enterK [0,2,4] 0 n0 e H:=rfl
@[simp] theorem en172_3:enter cx 172 n0 3 e H = enterK [2] 0 n0 e H:=rfl
@[simp] theorem en172_4:enter cx 172 n0 4 e H = enterK [0,2,4] 0 n0 e H:=rfl
@[simp] theorem en172_5:enter cx 172 n0 5 e H = enterK [0,2,4,5,6] 0 n0 e H:=rfl
@[simp] theorem en172_6:enter cx 172 n0 6 e H = enterK [0,2,5,6] 0 n0 e H:=rfl
@[simp] theorem en172_7:enter cx 172 n0 7 e H = enterK [0,2,5] 0 n0 e H:=rfl
@[simp] theorem en172_8:enter cx 172 n0 8 e H = enterK [0,2,5] 0 n0 e H:=rfl
@[simp] theorem en172_9:enter cx 172 n0 9 e H = enterK [0,2,5,7,8] 0 n0 e H:=rfl
@[simp] theorem en172_10:enter cx 172 n0 10 e H = enterK [2] 0 n0 e H:=rfl
@[simp] theorem en172_11:enter cx 172 n0 11 e H = enterK [0,2,5,7] 0 n0 e H:=rfl
@[simp] theorem en172_12:enter cx 172 n0 12 e H = enterK [0,2,7,9] 0 n0 e H:=rfl
@[simp] theorem en172_13:enter cx 172 n0 13 e H = enterK [2,9] 0 n0 e H:=rfl
@[simp] theorem en173_0:enter cx 173 n0 0 e H = enterK [0,1] 0 n0 e H:=rfl
@[simp] theorem en173_1:enter cx 173 n0 1 e H = enterK [0,1] 0 n0 e H:=rfl
@[simp] theorem en173_2:enter cx 173 n0 2 e H = enterK [0,1,7,8] 0 n0 e H:=rfl
@[simp] theorem en173_3:enter cx 173 n0 3 e H = enterK [0,1,7,8] 0 n0 e H:=rfl
@[simp] theorem en173_4:enter cx 173 n0 4 e H = enterK [0,1,5,7,8] 0 n0 e H:=rfl
@[simp] theorem en173_5:enter cx 173 n0 5 e H = enterK [5] 0 n0 e H:=rfl
@[simp] theorem en173_6:enter cx 173 n0 6 e H = enterK [0,1,7,8] 0 n0 e H:=rfl
@[simp] theorem en173_7:enter cx 173 n0 7 e H = enterK [] 0 n0 e H:=rfl
@[simp] theorem en174_0:enter cx 174 n0 0 e H = enterK [0,1] 0 n0 e H:=rfl
@[simp] theorem en174_1:enter cx 174 n0 1 e H = enterK [1,2] 0 n0 e H:=rfl
@[simp] theorem en175_0:enter cx 175 n0 0 e H = enterK [0,1,2,3,4] 0 n0 e H:=rfl
@[simp] theorem en175_1:enter cx 175 n0 1 e H = enterK [0,1,2,3,4,10] 0 n0 e H:=rfl
@[simp] theorem en175_2:enter cx 175 n0 2 e H = enterK [0,1,2,3,4,10,11] 0 n0 e H:=rfl
@[simp] theorem en175_3:enter cx 175 n0 3 e H = enterK [0,1,2,3,4,10,11,12] 0 n0 e H:=rfl
@[simp] theorem en175_4:enter cx 175 n0 4 e H = enterK [0,1,2,4] 0 n0 e H:=rfl
@[simp] theorem en175_5:enter cx 175 n0 5 e H = enterK [0,1,2,3,4,10,11,12] 0 n0 e H:=rfl
@[simp] theorem en175_6:enter cx 175 n0 6 e H = enterK [0,1,2,4] 0 n0 e H:=rfl
@[simp] theorem en175_7:enter cx 175 n0 7 e H = enterK [0,1,2,3,4,10,11,12] 0 n0 e H:=rfl
@[simp] theorem en175_8:enter cx 175 n0 8 e H = enterK [0,1,2,3,4,10,11,12] 0 n0 e H:=rfl
@[simp] theorem en175_9:enter cx 175 n0 9 e H = enterK [0,1,2,3,4,10,11,12] 0 n0 e H:=rfl
@[simp] theorem en175_10:enter cx 175 n0 10 e H = enterK [0,1,2,3,4,10,11,12] 0 n0 e H:=rfl
@[simp] theorem en175_11:enter cx 175 n0 11 e H = enterK [0,1,2,3,4,10,11,12,13,14] 0 n0 e H:=rfl
@[simp] theorem en175_12:enter cx 175 n0 12 e H = enterK [0,1,2,3,4,10,11,12,13] 0 n0 e H:=rfl
@[simp] theorem en175_13:enter cx 175 n0 13 e H = enterK [0,1,2,3,4,10,11,12,13] 0 n0 e H:=rfl
@[simp] theorem en175_14:enter cx 175 n0 14 e H = enterK [0,1,2,3,4,10,11,12,13] 0 n0 e H:=rfl
@[simp] theorem en175_15:enter cx 175 n0 15 e H = enterK [0,1,2,3,4,10,11,12,13,14] 0 n0 e H:=rfl
@[simp] theorem en175_16:enter cx 175 n0 16 e H = enterK [0,1,2,3,4,10,11,12,13] 0 n0 e H:=rfl
@[simp] theorem en175_17:enter cx 175 n0 17 e H = enterK [0,1,2,3,4,10,11,12,13] 0 n0 e H:=rfl
@[simp] theorem en175_18:enter cx 175 n0 18 e H = enterK [0,1,2,3,4,10,11,13] 0 n0 e H:=rfl
@[simp] theorem en175_19:enter cx 175 n0 19 e H = enterK [0,2,3,4,10,11,15] 0 n0 e H:=rfl
@[simp] theorem en175_20:enter cx 175 n0 20 e H = enterK [0,1,2,3,4,12,13] 0 n0 e H:=rfl
@[simp] theorem en175_21:enter cx 175 n0 21 e H = enterK [0,1,2,3,4,12,16,17] 0 n0 e H:=rfl
@[simp] theorem en175_22:enter cx 175 n0 22 e H = enterK [0,1,2,3,4,11,12,16] 0 n0 e H:=rfl
@[simp] theorem en175_23:enter cx 175 n0 23 e H = enterK [0,1,2,3,4,11,12,16,18,19] 0 n0 e H:=rfl
@[simp] theorem en175_24:enter cx 175 n0 24 e H = enterK [0,1,2,3,4,11,16,18,19,20] 0 n0 e H:=rfl
@[simp] theorem en175_25:enter cx 175 n0 25 e H = enterK [0,1,2,3,4,11,16,18,20] 0 n0 e H:=rfl
@[simp] theorem en175_26:enter cx 175 n0 26 e H = enterK [0,1,2,3,4,10,11,16] 0 n0 e H:=rfl
@[simp] theorem en175_27:enter cx 175 n0 27 e H = enterK [0,2,3,4,10,11,16] 0 n0 e H:=rfl
@[simp] theorem en175_28:enter cx 175 n0 28 e H = enterK [0,1,2,3,4,11,16,19,20] 0 n0 e H:=rfl
@[simp] theorem en175_29:enter cx 175 n0 29 e H = enterK [0,1,2,3,4,10,11,16] 0 n0 e H:=rfl
@[simp] theorem en175_30:enter cx 175 n0 30 e H = enterK [0,1,3,4,10,11,16] 0 n0 e H:=rfl
@[simp] theorem en177_0:enter cx 177 n0 0 e H = enterK [0,1] 0 n0 e H:=rfl
@[simp] theorem en177_1:enter cx 177 n0 1 e H = enterK [0,1] 0 n0 e H:=rfl
@[simp] theorem en177_2:enter cx 177 n0 2 e H = enterK [0,1,7] 0 n0 e H:=rfl
@[simp] theorem en177_3:enter cx 177 n0 3 e H = enterK [0,1,7,8] 0 n0 e H:=rfl
@[simp] theorem en177_4:enter cx 177 n0 4 e H = enterK [0,1,7,8,9] 0 n0 e H:=rfl
@[simp] theorem en177_5:enter cx 177 n0 5 e H = enterK [0,1,7,8,9] 0 n0 e H:=rfl
@[simp] theorem en177_6:enter cx 177 n0 6 e H = enterK [0,1,7,8,9] 0 n0 e H:=rfl
@[simp] theorem en177_7:enter cx 177 n0 7 e H = enterK [0,1,7,9,10,11,12] 0 n0 e H:=rfl
@[simp] theorem en177_8:enter cx 177 n0 8 e H = enterK [] 0 n0 e H:=rfl
@[simp] theorem en177_9:enter cx 177 n0 9 e H = enterK [0,1,7,9,10,11] 0 n0 e H:=rfl
@[simp] theorem en177_10:enter cx 177 n0 10 e H = enterK [0,1,7,9,11,13,14] 0 n0 e H:=rfl
@[simp] theorem en177_11:enter cx 177 n0 11 e H = enterK [] 0 n0 e H:=rfl
@[simp] theorem en177_12:enter cx 177 n0 12 e H = enterK [0,1,7,9,11,13] 0 n0 e H:=rfl
@[simp] theorem en177_13:enter cx 177 n0 13 e H = enterR [] [7] [0,1,9,11] n0 e H:=rfl
@[simp] theorem en177_14:enter cx 177 n0 14 e H = enterK [7,8] 0 n0 e H:=rfl
@[simp] theorem en178_0:enter cx 178 n0 0 e H = enterK [0] 0 n0 e H:=rfl
@[simp] theorem en178_1:enter cx 178 n0 1 e H = enterK [0,2] 0 n0 e H:=rfl
@[simp] theorem en178_2:enter cx 178 n0 2 e H = enterK [0,2,4] 0 n0 e H:=rfl
@[simp] theorem en178_3:enter cx 178 n0 3 e H = enterK [2,4] 0 n0 e H:=rfl
@[simp] theorem en178_4:enter cx 178 n0 4 e H = enterK [0,2,4] 0 n0 e H:=rfl
@[simp] theorem en178_5:enter cx 178 n0 5 e H = enterK [0,2,4,5] 0 n0 e H:=rfl
@[simp] theorem en178_6:enter cx 178 n0 6 e H = enterK [0,2,4,5] 0 n0 e H:=rfl
@[simp] theorem en178_7:enter cx 178 n0 7 e H = enterK [0,2,4,5] 0 n0 e H:=rfl
@[simp] theorem en178_8:enter cx 178 n0 8 e H = enterK [0,2,4,5,6,7] 0 n0 e H:=rfl
@[simp] theorem en178_9:enter cx 178 n0 9 e H = enterK [2] 0 n0 e H:=rfl
@[simp] theorem en178_10:enter cx 178 n0 10 e H = enterK [0,2,4,5,6,7] 0 n0 e H:=rfl
@[simp] theorem en178_11:enter cx 178 n0 11 e H = enterK [2,4] 0 n0 e H:=rfl
@[simp] theorem en179_0:enter cx 179 n0 0 e H = enterK [0,1] 0 n0 e H:=rfl
@[simp] theorem en179_1:enter cx 179 n0 1 e H = enterK [0,1] 0 n0 e H:=rfl
@[simp] theorem en179_2:enter cx 179 n0 2 e H = enterK [0,1,7] 0 n0 e H:=rfl
@[simp] theorem en179_3:enter cx 179 n0 3 e H = enterK [0,1,7] 0 n0 e H:=rfl
@[simp] theorem en179_4:enter cx 179 n0 4 e H = enterK [0,1,7] 0 n0 e H:=rfl
@[simp] theorem en179_5:enter cx 179 n0 5 e H = enterK [0,1,7] 0 n0 e H:=rfl
@[simp] theorem en179_6:enter cx 179 n0 6 e H = enterK [] 0 n0 e H:=rfl
@[simp] theorem en180_0:enter cx 180 n0 0 e H = enterK [0] 0 n0 e H:=rfl
@[simp] theorem en180_1:enter cx 180 n0 1 e H = enterK [0,2] 0 n0 e H:=rfl
@[simp] theorem en180_2:enter cx 180 n0 2 e H = enterK [0,2,4] 0 n0 e H:=rfl
@[simp] theorem en180_3:enter cx 180 n0 3 e H = enterK [0,2,4] 0 n0 e H:=rfl
@[simp] theorem en180_4:enter cx 180 n0 4 e H = enterK [0,2,4] 0 n0 e H:=rfl
@[simp] theorem en180_5:enter cx 180 n0 5 e H = enterK [0,2,4] 0 n0 e H:=rfl
@[simp] theorem en180_6:enter cx 180 n0 6 e H = enterK [2] 0 n0 e H:=rfl
@[simp] theorem en180_7:enter cx 180 n0 7 e H = enterK [0,2,4] 0 n0 e H:=rfl
@[simp] theorem en180_8:enter cx 180 n0 8 e H = enterK [2] 0 n0 e H:=rfl
@[simp] theorem en180_9:enter cx 180 n0 9 e H = enterK [0,2,4] 0 n0 e H:=rfl
@[simp] theorem en180_10:enter cx 180 n0 10 e H = enterK [2] 0 n0 e H:=rfl
@[simp] theorem en181_0:enter cx 181 n0 0 e H = enterK [0,1] 0 n0 e H:=rfl
@[simp] theorem en181_1:enter cx 181 n0 1 e H = enterK [0,1] 0 n0 e H:=rfl
@[simp] theorem en183_0:enter cx 183 n0 0 e H = enterK [0] 0 n0 e H:=rfl
@[simp] theorem en183_1:enter cx 183 n0 1 e H = enterK [0] 0 n0 e H:=rfl
@[simp] theorem en185_0:enter cx 185 n0 0 e H = enterK [0,1] 0 n0 e H:=rfl
@[simp] theorem en185_1:enter cx 185 n0 1 e H = enterK [0,1] 0 n0 e H:=rfl
@[simp] theorem en186_0:enter cx 186 n0 0 e H = enterK [0,1] 0 n0 e H:=rfl
@[simp] theorem en186_1:enter cx 186 n0 1 e H = enterK [0,1] 0 n0 e H:=rfl
@[simp] theorem en190_0:enter cx 190 n0 0 e H = enterK [0] 0 n0 e H:=rfl
@[simp] theorem en190_1:enter cx 190 n0 1 e H = enterK [0] 0 n0 e H:=rfl
@[simp] theorem en190_2:enter cx 190 n0 2 e H = enterK [0,3] 0 n0 e H:=rfl
@[simp] theorem en191_0:enter cx 191 n0 0 e H = enterK [0,1] 0 n0 e H:=rfl
@[simp] theorem en191_1:enter cx 191 n0 1 e H = enterK [0,1,4] 0 n0 e H:=rfl
@[simp] theorem en191_2:enter cx 191 n0 2 e H = enterK [0,1,4] 0 n0 e H:=rfl
@[simp] theorem en191_3:enter cx 191 n0 3 e H = enterK [0,1,4,5] 0 n0 e H:=rfl
@[simp] theorem en191_4:enter cx 191 n0 4 e H = enterK [0,1,4,5] 0 n0 e H:=rfl
@[simp] theorem en191_5:enter cx 191 n0 5 e H = enterK [0,1,4,6,7] 0 n0 e H:=rfl
@[simp] theorem en191_6:enter cx 191 n0 6 e H = enterK [0,1,4,6,8,9] 0 n0 e H:=rfl
@[simp] theorem en191_7:enter cx 191 n0 7 e H = enterK [0,1,4,8,9,10,11] 0 n0 e H:=rfl
@[simp] theorem en191_8:enter cx 191 n0 8 e H = enterK [0,1,4,8,10,11] 0 n0 e H:=rfl
@[simp] theorem en191_9:enter cx 191 n0 9 e H = enterK [0,1,4,10,11] 0 n0 e H:=rfl
@[simp] theorem en191_10:enter cx 191 n0 10 e H = enterK [0,1,4,10] 0 n0 e H:=rfl
@[simp] theorem en191_11:enter cx 191 n0 11 e H = enterK [0,1,4] 0 n0 e H:=rfl
@[simp] theorem en191_12:enter cx 191 n0 12 e H = enterK [0,1,4] 0 n0 e H:=rfl
@[simp] theorem en191_13:enter cx 191 n0 13 e H = enterK [0,4,12] 0 n0 e H:=rfl
@[simp] theorem en191_14:enter cx 191 n0 14 e H = enterK [0,4,12] 0 n0 e H:=rfl
@[simp] theorem en191_15:enter cx 191 n0 15 e H = enterK [0,4,12,13] 0 n0 e H:=rfl
@[simp] theorem en191_16:enter cx 191 n0 16 e H = enterK [0,4,12,13] 0 n0 e H:=rfl
@[simp] theorem en191_17:enter cx 191 n0 17 e H = enterK [0,4,12,14,15] 0 n0 e H:=rfl
@[simp] theorem en191_18:enter cx 191 n0 18 e H = enterK [0,4,12,14] 0 n0 e H:=rfl
@[simp] theorem en191_19:enter cx 191 n0 19 e H = enterK [0,4,12] 0 n0 e H:=rfl
@[simp] theorem en191_20:enter cx 191 n0 20 e H = enterK [0,4,12] 0 n0 e H:=rfl
@[simp] theorem en191_21:enter cx 191 n0 21 e H = enterK [0,4,12] 0 n0 e H:=rfl
@[simp] theorem en191_22:enter cx 191 n0 22 e H = enterK [0,4,12,16] 0 n0 e H:=rfl
@[simp] theorem en191_23:enter cx 191 n0 23 e H = enterK [0,4,12,16] 0 n0 e H:=rfl
@[simp] theorem en191_24:enter cx 191 n0 24 e H = enterK [0,4,12] 0 n0 e H:=rfl
@[simp] theorem en191_25:enter cx 191 n0 25 e H = enterK [0,4,12] 0 n0 e H:=rfl
@[simp] theorem en191_26:enter cx 191 n0 26 e H = enterK [0,12] 0 n0 e H:=rfl
@[simp] theorem en192_0:enter cx 192 n0 0 e H = enterK [0,1,2,3,4] 0 n0 e H:=rfl
@[simp] theorem en192_1:enter cx 192 n0 1 e H = enterK [0,1,2,3,4,10,11] 0 n0 e H:=rfl
@[simp] theorem en192_2:enter cx 192 n0 2 e H = enterK [0,1,2,3,4,10,11] 0 n0 e H:=rfl
@[simp] theorem en192_3:enter cx 192 n0 3 e H = enterK [0,1,2,3,4,10,11] 0 n0 e H:=rfl
@[simp] theorem en192_4:enter cx 192 n0 4 e H = enterK [0,1,2,3,4,10,11,12] 0 n0 e H:=rfl
@[simp] theorem en192_5:enter cx 192 n0 5 e H = enterK [0,1,2,3,4,10,11,12,13] 0 n0 e H:=rfl
@[simp] theorem en192_6:enter cx 192 n0 6 e H = enterK [0,1,2,3,4,10,11,12,13] 0 n0 e H:=rfl
@[simp] theorem en192_7:enter cx 192 n0 7 e H = enterK [0,1,2,3,4,10,11,12,13] 0 n0 e H:=rfl
@[simp] theorem en192_8:enter cx 192 n0 8 e H = enterK [0,1,2,3,4,10,11,12,13] 0 n0 e H:=rfl
@[simp] theorem en192_9:enter cx 192 n0 9 e H = enterK [0,1,2,3,4,10,11,12,13,14] 0 n0 e H:=rfl
@[simp] theorem en192_10:enter cx 192 n0 10 e H = enterK [0,1,2,3,4,10,11,12,13,14,15] 0 n0 e H:=rfl
@[simp] theorem en192_11:enter cx 192 n0 11 e H = enterK [0,1,3,4,10,11,12,13,14,15,16] 0 n0 e H:=rfl
@[simp] theorem en192_12:enter cx 192 n0 12 e H = enterK [0,1,3,4,10,11,12,13,14,15,16] 0 n0 e H:=rfl
@[simp] theorem en192_13:enter cx 192 n0 13 e H = enterK [0,1,3,4,10,11,12,13,14,15,16] 0 n0 e H:=rfl
@[simp] theorem en192_14:enter cx 192 n0 14 e H = enterK [0,1,3,4,10,11,12,13,14,15,16] 0 n0 e H:=rfl
@[simp] theorem en192_15:enter cx 192 n0 15 e H = enterK [0,1,3,4,10,11,12,13] 0 n0 e H:=rfl
@[simp] theorem en192_16:enter cx 192 n0 16 e H = enterK [0,1,3,4,10,11,12,13] 0 n0 e H:=rfl
@[simp] theorem en192_17:enter cx 192 n0 17 e H = enterK [0,1,2,3,4,10,11,12,13] 0 n0 e H:=rfl
@[simp] theorem en192_18:enter cx 192 n0 18 e H = enterK [0,1,3,4,10,11,12,13,17] 0 n0 e H:=rfl
@[simp] theorem en192_19:enter cx 192 n0 19 e H = enterK [0,1,3,4,10,11,12,13,17] 0 n0 e H:=rfl
@[simp] theorem en192_20:enter cx 192 n0 20 e H = enterK [0,1,3,4,10,11,12,13,17] 0 n0 e H:=rfl
@[simp] theorem en192_21:enter cx 192 n0 21 e H = enterK [0,1,3,4,10,11,12,13,17,18] 0 n0 e H:=rfl
@[simp] theorem en192_22:enter cx 192 n0 22 e H = enterK [0,3,4,10,11,12,13,17,18] 0 n0 e H:=rfl
@[simp] theorem en192_23:enter cx 192 n0 23 e H = enterK [0,1,3,4,10,11,12,13] 0 n0 e H:=rfl
@[simp] theorem en192_24:enter cx 192 n0 24 e H = enterK [0,1,3,4,10,11,12,13] 0 n0 e H:=rfl
@[simp] theorem en192_25:enter cx 192 n0 25 e H = enterK [0,3,4,10,11,12,13] 0 n0 e H:=rfl
@[simp] theorem en192_26:enter cx 192 n0 26 e H = enterK [0,4,10,11,12,13] 0 n0 e H:=rfl
@[simp] theorem en192_27:enter cx 192 n0 27 e H = enterK [0,4,10,11,12,13] 0 n0 e H:=rfl
@[simp] theorem en192_28:enter cx 192 n0 28 e H = enterK [0,4,10,11,12,13] 0 n0 e H:=rfl
@[simp] theorem en192_29:enter cx 192 n0 29 e H = enterK [0,11,12,13] 0 n0 e H:=rfl
@[simp] theorem en192_30:enter cx 192 n0 30 e H = enterK [10,12,13] 0 n0 e H:=rfl
@[simp] theorem en193_0:enter cx 193 n0 0 e H = enterK [0] 0 n0 e H:=rfl
@[simp] theorem en193_1:enter cx 193 n0 1 e H = enterK [0] 0 n0 e H:=rfl
@[simp] theorem en193_2:enter cx 193 n0 2 e H = enterK [0,3] 0 n0 e H:=rfl
@[simp] theorem en193_3:enter cx 193 n0 3 e H = enterK [0,3,4] 0 n0 e H:=rfl
@[simp] theorem en193_4:enter cx 193 n0 4 e H = enterK [0,3,4] 0 n0 e H:=rfl
@[simp] theorem en193_5:enter cx 193 n0 5 e H = enterK [0,3,4] 0 n0 e H:=rfl
@[simp] theorem en193_6:enter cx 193 n0 6 e H = enterK [0,3,4] 0 n0 e H:=rfl
@[simp] theorem en193_7:enter cx 193 n0 7 e H = enterK [3] 0 n0 e H:=rfl
@[simp] theorem en194_0:enter cx 194 n0 0 e H = enterK [0] 0 n0 e H:=rfl
@[simp] theorem en194_1:enter cx 194 n0 1 e H = enterK [0] 0 n0 e H:=rfl
@[simp] theorem en194_2:enter cx 194 n0 2 e H = enterK [0,3] 0 n0 e H:=rfl
@[simp] theorem en194_3:enter cx 194 n0 3 e H = enterK [0,3,4,5] 0 n0 e H:=rfl
@[simp] theorem en194_4:enter cx 194 n0 4 e H = enterK [4,5] 0 n0 e H:=rfl
@[simp] theorem en194_5:enter cx 194 n0 5 e H = enterK [0,3,4,5] 0 n0 e H:=rfl
@[simp] theorem en194_6:enter cx 194 n0 6 e H = enterK [0,3,4,5,6] 0 n0 e H:=rfl
@[simp] theorem en194_7:enter cx 194 n0 7 e H = enterK [0,3,4,5,6] 0 n0 e H:=rfl
@[simp] theorem en194_8:enter cx 194 n0 8 e H = enterK [0,3,4,5,6] 0 n0 e H:=rfl
@[simp] theorem en194_9:enter cx 194 n0 9 e H = enterK [0,3,4,5,6] 0 n0 e H:=rfl
@[simp] theorem en194_10:enter cx 194 n0 10 e H = enterK [0,3,4,5,6] 0 n0 e H:=rfl
@[simp] theorem en194_11:enter cx 194 n0 11 e H = enterK [0,3,4,5,6] 0 n0 e H:=rfl
@[simp] theorem en194_12:enter cx 194 n0 12 e H = enterK [0,3,4,5,6] 0 n0 e H:=rfl
@[simp] theorem en194_13:enter cx 194 n0 13 e H = enterK [0,3,4,5,6] 0 n0 e H:=rfl
@[simp] theorem en194_14:enter cx 194 n0 14 e H = enterK [0,3,4,5,6] 0 n0 e H:=rfl
@[simp] theorem en194_15:enter cx 194 n0 15 e H = enterK [0,3,4,5,6] 0 n0 e H:=rfl
@[simp] theorem en194_16:enter cx 194 n0 16 e H = enterK [0,3,4,5,6] 0 n0 e H:=rfl
@[simp] theorem en194_17:enter cx 194 n0 17 e H = enterK [0,3,4,5,6] 0 n0 e H:=rfl
@[simp] theorem en194_18:enter cx 194 n0 18 e H = enterK [0,3,4,5,6] 0 n0 e H:=rfl
@[simp] theorem en194_19:enter cx 194 n0 19 e H = enterK [0,3,4,5,6] 0 n0 e H:=rfl
@[simp] theorem en194_20:enter cx 194 n0 20 e H = enterK [0,3,4,5,6] 0 n0 e H:=rfl
@[simp] theorem en194_21:enter cx 194 n0 21 e H = enterK [0,3,4,5,6] 0 n0 e H:=rfl
@[simp] theorem en194_22:enter cx 194 n0 22 e H = enterK [0,3,4,5,6] 0 n0 e H:=rfl
@[simp] theorem en194_23:enter cx 194 n0 23 e H = enterK [0,3,4,5,6] 0 n0 e H:=rfl
@[simp] theorem en194_24:enter cx 194 n0 24 e H = enterK [0,3,4,5,6] 0 n0 e H:=rfl
@[simp] theorem en194_25:enter cx 194 n0 25 e H = enterK [0,3,4,5,6] 0 n0 e H:=rfl
@[simp] theorem en194_26:enter cx 194 n0 26 e H = enterK [0,3,4,5,6] 0 n0 e H:=rfl
@[simp] theorem en194_27:enter cx 194 n0 27 e H = enterK [0,3,4,5,6] 0 n0 e H:=rfl
@[simp] theorem en194_28:enter cx 194 n0 28 e H = enterK [3,4,5] 0 n0 e H:=rfl
@[simp] theorem en194_29:enter cx 194 n0 29 e H = enterK [3,4,5] 0 n0 e H:=rfl
@[simp] theorem en194_30:enter cx 194 n0 30 e H = enterK [3,4,5] 0 n0 e H:=rfl
@[simp] theorem en194_31:enter cx 194 n0 31 e H = enterK [3,4,5] 0 n0 e H:=rfl
@[simp] theorem en194_32:enter cx 194 n0 32 e H = enterK [3,4,5] 0 n0 e H:=rfl
@[simp] theorem en194_33:enter cx 194 n0 33 e H = enterK [3,4,5] 0 n0 e H:=rfl
@[simp] theorem en194_34:enter cx 194 n0 34 e H = enterK [3,4,5] 0 n0 e H:=rfl
@[simp] theorem en194_35:enter cx 194 n0 35 e H = enterK [3,4,5] 0 n0 e H:=rfl
@[simp] theorem en194_36:enter cx 194 n0 36 e H = enterK [3,4,5] 0 n0 e H:=rfl
@[simp] theorem en194_37:enter cx 194 n0 37 e H = enterK [3,4,5] 0 n0 e H:=rfl
@[simp] theorem en194_38:enter cx 194 n0 38 e H = enterK [3,4,5] 0 n0 e H:=rfl
@[simp] theorem en194_39:enter cx 194 n0 39 e H = enterK [3,4,5] 0 n0 e H:=rfl
@[simp] theorem en194_40:enter cx 194 n0 40 e H = enterK [4,5] 0 n0 e H:=rfl
@[simp] theorem en194_41:enter cx 194 n0 41 e H = enterK [4,5] 0 n0 e H:=rfl
@[simp] theorem en194_42:enter cx 194 n0 42 e H = enterK [4,5] 0 n0 e H:=rfl
@[simp] theorem en195_0:enter cx 195 n0 0 e H = enterK [0,1] 0 n0 e H:=rfl
@[simp] theorem en195_1:enter cx 195 n0 1 e H = enterK [0,1,4] 0 n0 e H:=rfl
@[simp] theorem en195_2:enter cx 195 n0 2 e H = enterK [0,1,4,6] 0 n0 e H:=rfl
@[simp] theorem en195_3:enter cx 195 n0 3 e H = enterK [0,4,6,8] 0 n0 e H:=rfl
@[simp] theorem en195_4:enter cx 195 n0 4 e H = enterK [0,6,8] 0 n0 e H:=rfl
@[simp] theorem en195_5:enter cx 195 n0 5 e H = enterK [0,8] 0 n0 e H:=rfl
@[simp] theorem en196_0:enter cx 196 n0 0 e H = enterK [0] 0 n0 e H:=rfl
@[simp] theorem en196_1:enter cx 196 n0 1 e H = enterK [0,2,3,4] 0 n0 e H:=rfl
@[simp] theorem en196_2:enter cx 196 n0 2 e H = enterK [0,2,3,4] 0 n0 e H:=rfl
@[simp] theorem en196_3:enter cx 196 n0 3 e H = enterK [0,2,3,4] 0 n0 e H:=rfl
@[simp] theorem en196_4:enter cx 196 n0 4 e H = enterK [0,2,3,4] 0 n0 e H:=rfl
@[simp] theorem en196_5:enter cx 196 n0 5 e H = enterK [0,2,3,4] 0 n0 e H:=rfl
@[simp] theorem en196_6:enter cx 196 n0 6 e H = enterK [0,2,3,4] 0 n0 e H:=rfl
@[simp] theorem en196_7:enter cx 196 n0 7 e H = enterK [0,2,3,4] 0 n0 e H:=rfl
@[simp] theorem en196_8:enter cx 196 n0 8 e H = enterK [0,2,3,4] 0 n0 e H:=rfl
@[simp] theorem en196_9:enter cx 196 n0 9 e H = enterK [0,2,3,4] 0 n0 e H:=rfl
@[simp] theorem en196_10:enter cx 196 n0 10 e H = enterK [0,2,3,4] 0 n0 e H:=rfl
@[simp] theorem en196_11:enter cx 196 n0 11 e H = enterK [0,2,3,4] 0 n0 e H:=rfl
@[simp] theorem en196_12:enter cx 196 n0 12 e H = enterK [0,2,3,4] 0 n0 e H:=rfl
@[simp] theorem en196_13:enter cx 196 n0 13 e H = enterK [0,2,3,4] 0 n0 e H:=rfl
@[simp] theorem en196_14:enter cx 196 n0 14 e H = enterK [0,2,3,4] 0 n0 e H:=rfl
@[simp] theorem en196_15:enter cx 196 n0 15 e H = enterK [0,2,3,4] 0 n0 e H:=rfl
@[simp] theorem en196_16:enter cx 196 n0 16 e H = enterK [0,2,3,4] 0 n0 e H:=rfl
@[simp] theorem en196_17:enter cx 196 n0 17 e H = enterK [0,2,3,4] 0 n0 e H:=rfl
@[simp] theorem en196_18:enter cx 196 n0 18 e H = enterK [0,2,3,4] 0 n0 e H:=rfl
@[simp] theorem en196_19:enter cx 196 n0 19 e H = enterK [0,2,3,4] 0 n0 e H:=rfl
@[simp] theorem en197_0:enter cx 197 n0 0 e H = enterK [0] 0 n0 e H:=rfl
@[simp] theorem en197_1:enter cx 197 n0 1 e H = enterK [0,2,3,4] 0 n0 e H:=rfl
@[simp] theorem en197_2:enter cx 197 n0 2 e H = enterK [0,2,3,4] 0 n0 e H:=rfl
@[simp] theorem en197_3:enter cx 197 n0 3 e H = enterK [0,2,3,4] 0 n0 e H:=rfl
@[simp] theorem en197_4:enter cx 197 n0 4 e H = enterK [0,2,3,4] 0 n0 e H:=rfl
@[simp] theorem en197_5:enter cx 197 n0 5 e H = enterK [0,2,3,4] 0 n0 e H:=rfl
@[simp] theorem en197_6:enter cx 197 n0 6 e H = enterK [0,2,3,4] 0 n0 e H:=rfl
@[simp] theorem en197_7:enter cx 197 n0 7 e H = enterK [0,2,3,4] 0 n0 e H:=rfl
@[simp] theorem en197_8:enter cx 197 n0 8 e H = enterK [0,2,3,4] 0 n0 e H:=rfl
@[simp] theorem en197_9:enter cx 197 n0 9 e H = enterK [0,2,3,4] 0 n0 e H:=rfl
@[simp] theorem en197_10:enter cx 197 n0 10 e H = enterK [0,2,3,4] 0 n0 e H:=rfl
@[simp] theorem en197_11:enter cx 197 n0 11 e H = enterK [0,2,3,4] 0 n0 e H:=rfl
@[simp] theorem en197_12:enter cx 197 n0 12 e H = enterK [0,2,3,4] 0 n0 e H:=rfl
@[simp] theorem en197_13:enter cx 197 n0 13 e H = enterK [0,2,3,4] 0 n0 e H:=rfl
@[simp] theorem en197_14:enter cx 197 n0 14 e H = enterK [0,2,3,4] 0 n0 e H:=rfl
@[simp] theorem en197_15:enter cx 197 n0 15 e H = enterK [0,2,3,4] 0 n0 e H:=rfl
@[simp] theorem en198_0:enter cx 198 n0 0 e H = enterK [0,1] 0 n0 e H:=rfl
@[simp] theorem en198_1:enter cx 198 n0 1 e H = enterK [0,1] 0 n0 e H:=rfl
@[simp] theorem en198_2:enter cx 198 n0 2 e H = enterK [0,1,7] 0 n0 e H:=rfl
@[simp] theorem en198_3:enter cx 198 n0 3 e H = enterK [0,1,7] 0 n0 e H:=rfl
@[simp] theorem en198_4:enter cx 198 n0 4 e H = enterK [0] 0 n0 e H:=rfl
@[simp] theorem en199_0:enter cx 199 n0 0 e H = enterK [0] 0 n0 e H:=rfl
@[simp] theorem en199_1:enter cx 199 n0 1 e H = enterK [0,2] 0 n0 e H:=rfl
@[simp] theorem en199_2:enter cx 199 n0 2 e H = enterK [0,2,4] 0 n0 e H:=rfl
@[simp] theorem en199_3:enter cx 199 n0 3 e H = enterK [2] 0 n0 e H:=rfl
@[simp] theorem en199_4:enter cx 199 n0 4 e H = enterK [0,2,4] 0 n0 e H:=rfl
@[simp] theorem en199_5:enter cx 199 n0 5 e H = enterK [0,2,4,12,13] 0 n0 e H:=rfl
@[simp] theorem en199_6:enter cx 199 n0 6 e H = enterK [0,2,4,12,13] 0 n0 e H:=rfl
@[simp] theorem en199_7:enter cx 199 n0 7 e H = enterK [0,2,4,5,12,13] 0 n0 e H:=rfl
@[simp] theorem en199_8:enter cx 199 n0 8 e H = enterK [0,2,4,5,6,12,13] 0 n0 e H:=rfl
@[simp] theorem en199_9:enter cx 199 n0 9 e H = enterK [2] 0 n0 e H:=rfl
@[simp] theorem en199_10:enter cx 199 n0 10 e H = enterK [0,2,4,5,6,12,13] 0 n0 e H:=rfl
@[simp] theorem en199_11:enter cx 199 n0 11 e H = enterK [0,2,4,12,13] 0 n0 e H:=rfl
@[simp] theorem en199_12:enter cx 199 n0 12 e H = enterK [2,4] 0 n0 e H:=rfl
@[simp] theorem en200_0:enter cx 200 n0 0 e H = enterK [0,1] 0 n0 e H:=rfl
@[simp] theorem en200_1:enter cx 200 n0 1 e H = enterK [0,1] 0 n0 e H:=rfl
@[simp] theorem en200_2:enter cx 200 n0 2 e H = enterK [] 0 n0 e H:=rfl
@[simp] theorem en200_3:enter cx 200 n0 3 e H = enterK [0,1] 0 n0 e H:=rfl
@[simp] theorem en200_4:enter cx 200 n0 4 e H = enterK [0,1] 0 n0 e H:=rfl
@[simp] theorem en200_5:enter cx 200 n0 5 e H = enterK [0,1,5] 0 n0 e H:=rfl
@[simp] theorem en200_6:enter cx 200 n0 6 e H = enterK [1] 0 n0 e H:=rfl
@[simp] theorem en200_7:enter cx 200 n0 7 e H = enterK [28] 0 n0 e H:=rfl
@[simp] theorem en200_8:enter cx 200 n0 8 e H = enterK [28,29] 0 n0 e H:=rfl
@[simp] theorem en200_9:enter cx 200 n0 9 e H = enterK [5,28] 0 n0 e H:=rfl
@[simp] theorem en200_10:enter cx 200 n0 10 e H = enterK [] 0 n0 e H:=rfl
@[simp] theorem en200_11:enter cx 200 n0 11 e H = enterK [] 0 n0 e H:=rfl
@[simp] theorem en200_12:enter cx 200 n0 12 e H = enterK [0,1] 0 n0 e H:=rfl
@[simp] theorem en200_13:enter cx 200 n0 13 e H = enterK [] 0 n0 e H:=rfl
@[simp] theorem en200_14:enter cx 200 n0 14 e H = enterK [] 0 n0 e H:=rfl
@[simp] theorem en200_15:enter cx 200 n0 15 e H = enterK [0,1] 0 n0 e H:=rfl
@[simp] theorem en200_16:enter cx 200 n0 16 e H = enterK [0,1] 0 n0 e H:=rfl
@[simp] theorem en200_17:enter cx 200 n0 17 e H = enterK [0,6] 0 n0 e H:=rfl
@[simp] theorem en200_18:enter cx 200 n0 18 e H = enterK [0] 0 n0 e H:=rfl
@[simp] theorem en200_19:enter cx 200 n0 19 e H = enterK [0,6] 0 n0 e H:=rfl
@[simp] theorem en200_20:enter cx 200 n0 20 e H = enterK [0,1] 0 n0 e H:=rfl
@[simp] theorem en200_21:enter cx 200 n0 21 e H = enterK [0,1] 0 n0 e H:=rfl
@[simp] theorem en200_22:enter cx 200 n0 22 e H = enterK [0,1,7,8] 0 n0 e H:=rfl
@[simp] theorem en200_23:enter cx 200 n0 23 e H = enterK [0,7] 0 n0 e H:=rfl
@[simp] theorem en200_24:enter cx 200 n0 24 e H = enterK [7,60,61,62] 0 n0 e H:=rfl
@[simp] theorem en200_25:enter cx 200 n0 25 e H = enterK [7,60,61,62] 0 n0 e H:=rfl
@[simp] theorem en200_26:enter cx 200 n0 26 e H = enterK [7,9,10,60,61,62] 0 n0 e H:=rfl
@[simp] theorem en200_27:enter cx 200 n0 27 e H = enterK [9] 0 n0 e H:=rfl
@[simp] theorem en200_28:enter cx 200 n0 28 e H = enterK [7,60,61,62] 0 n0 e H:=rfl
@[simp] theorem en200_29:enter cx 200 n0 29 e H = enterK [] 0 n0 e H:=rfl
@[simp] theorem en200_30:enter cx 200 n0 30 e H = enterK [0,1] 0 n0 e H:=rfl
@[simp] theorem en200_31:enter cx 200 n0 31 e H = enterK [0,1] 0 n0 e H:=rfl
@[simp] theorem en200_32:enter cx 200 n0 32 e H = enterK [0,1,12] 0 n0 e H:=rfl
@[simp] theorem en200_33:enter cx 200 n0 33 e H = enterK [0,1,11,12] 0 n0 e H:=rfl
@[simp] theorem en200_34:enter cx 200 n0 34 e H = enterK [0,1,12] 0 n0 e H:=rfl
@[simp] theorem en200_35:enter cx 200 n0 35 e H = enterK [0,1,12,13] 0 n0 e H:=rfl
@[simp] theorem en200_36:enter cx 200 n0 36 e H = enterK [0,1,12] 0 n0 e H:=rfl
@[simp] theorem en200_37:enter cx 200 n0 37 e H = enterK [12] 0 n0 e H:=rfl
@[simp] theorem en200_38:enter cx 200 n0 38 e H = enterK [0,1,12] 0 n0 e H:=rfl
@[simp] theorem en200_39:enter cx 200 n0 39 e H = enterK [0,1,12] 0 n0 e H:=rfl
@[simp] theorem en200_40:enter cx 200 n0 40 e H = enterK [0,1,11,12,13] 0 n0 e H:=rfl
@[simp] theorem en200_41:enter cx 200 n0 41 e H = enterK [0,1,11,12,13] 0 n0 e H:=rfl
@[simp] theorem en200_42:enter cx 200 n0 42 e H = enterK [0,1,11,12,13] 0 n0 e H:=rfl
@[simp] theorem en200_43:enter cx 200 n0 43 e H = enterK [12] 0 n0 e H:=rfl
@[simp] theorem en200_44:enter cx 200 n0 44 e H = enterK [0,1,11,12,13] 0 n0 e H:=rfl
@[simp] theorem en200_45:enter cx 200 n0 45 e H = enterK [0,1,11,12,13] 0 n0 e H:=rfl
@[simp] theorem en200_46:enter cx 200 n0 46 e H = enterK [12] 0 n0 e H:=rfl
@[simp] theorem en200_47:enter cx 200 n0 47 e H = enterK [0,1,11,12,13] 0 n0 e H:=rfl
@[simp] theorem en200_48:enter cx 200 n0 48 e H = enterK [0,1,11,12,13,121] 0 n0 e H:=rfl
@[simp] theorem en200_49:enter cx 200 n0 49 e H = enterK [0,1,11,12,13,121,122] 0 n0 e H:=rfl
@[simp] theorem en200_50:enter cx 200 n0 50 e H = enterK [0,1,11,12,13,15,121] 0 n0 e H:=rfl
@[simp] theorem en200_51:enter cx 200 n0 51 e H = enterK [12] 0 n0 e H:=rfl
@[simp] theorem en200_52:enter cx 200 n0 52 e H = enterK [] 0 n0 e H:=rfl
@[simp] theorem en201_0:enter cx 201 n0 0 e H = enterK [0,1,2,3] 0 n0 e H:=rfl
@[simp] theorem en201_1:enter cx 201 n0 1 e H = enterK [0,1,2,3,8] 0 n0 e H:=rfl
@[simp] theorem en201_2:enter cx 201 n0 2 e H = enterK [0,1,2,3,8] 0 n0 e H:=rfl
@[simp] theorem en201_3:enter cx 201 n0 3 e H = enterK [0,1,2,3,8] 0 n0 e H:=rfl
@[simp] theorem en201_4:enter cx 201 n0 4 e H = enterK [0,1,2,3,8,9] 0 n0 e H:=rfl
@[simp] theorem en201_5:enter cx 201 n0 5 e H = enterK [0,1,2,3,8,9] 0 n0 e H:=rfl
@[simp] theorem en201_6:enter cx 201 n0 6 e H = enterK [0,1,2,3,8,9] 0 n0 e H:=rfl
@[simp] theorem en211_0:enter cx 211 n0 0 e H = enterK [0] 0 n0 e H:=rfl
@[simp] theorem en211_1:enter cx 211 n0 1 e H = enterK [0] 0 n0 e H:=rfl
@[simp] theorem en211_2:enter cx 211 n0 2 e H = enterK [0,3] 0 n0 e H:=rfl
@[simp] theorem en211_3:enter cx 211 n0 3 e H = enterK [0,3] 0 n0 e H:=rfl
@[simp] theorem en211_4:enter cx 211 n0 4 e H = enterK [0,3] 0 n0 e H:=rfl
@[simp] theorem en211_5:enter cx 211 n0 5 e H = enterK [3] 0 n0 e H:=rfl
@[simp] theorem en211_6:enter cx 211 n0 6 e H = enterK [] 0 n0 e H:=rfl
@[simp] theorem en212_0:enter cx 212 n0 0 e H = enterK [0,1] 0 n0 e H:=rfl
@[simp] theorem en212_1:enter cx 212 n0 1 e H = enterK [0,1] 0 n0 e H:=rfl
@[simp] theorem en218_0:enter cx 218 n0 0 e H = enterK [0] 0 n0 e H:=rfl
@[simp] theorem en218_1:enter cx 218 n0 1 e H = enterK [0] 0 n0 e H:=rfl
@[simp] theorem en219_0:enter cx 219 n0 0 e H = enterK [0] 0 n0 e H:=rfl
@[simp] theorem en219_1:enter cx 219 n0 1 e H = enterK [0] 0 n0 e H:=rfl
@[simp] theorem en219_2:enter cx 219 n0 2 e H = enterK [] 0 n0 e H:=rfl
@[simp] theorem en219_3:enter cx 219 n0 3 e H = enterK [] 0 n0 e H:=rfl
@[simp] theorem en222_0:enter cx 222 n0 0 e H = enterK [0,1] 0 n0 e H:=rfl
@[simp] theorem en222_1:enter cx 222 n0 1 e H = enterK [0,1] 0 n0 e H:=rfl
@[simp] theorem en222_2:enter cx 222 n0 2 e H = enterK [0,1,5] 0 n0 e H:=rfl
@[simp] theorem en222_3:enter cx 222 n0 3 e H = enterK [0,1,5,6] 0 n0 e H:=rfl
@[simp] theorem en222_4:enter cx 222 n0 4 e H = enterK [0,1,5,6] 0 n0 e H:=rfl
@[simp] theorem en222_5:enter cx 222 n0 5 e H = enterK [0,1,5,6] 0 n0 e H:=rfl
@[simp] theorem en222_6:enter cx 222 n0 6 e H = enterK [0,1,5,6] 0 n0 e H:=rfl
@[simp] theorem en222_7:enter cx 222 n0 7 e H = enterK [0,1,5,6] 0 n0 e H:=rfl
@[simp] theorem en222_8:enter cx 222 n0 8 e H = enterK [5] 0 n0 e H:=rfl
@[simp] theorem en223_0:enter cx 223 n0 0 e H = enterK [0,1] 0 n0 e H:=rfl
@[simp] theorem en223_1:enter cx 223 n0 1 e H = enterK [0,1] 0 n0 e H:=rfl
@[simp] theorem en224_0:enter cx 224 n0 0 e H = enterK [0,1] 0 n0 e H:=rfl
@[simp] theorem en224_1:enter cx 224 n0 1 e H = enterK [0,1] 0 n0 e H:=rfl
@[simp] theorem en224_2:enter cx 224 n0 2 e H = enterK [0,5] 0 n0 e H:=rfl
@[simp] theorem en225_0:enter cx 225 n0 0 e H = enterK [0,1] 0 n0 e H:=rfl
@[simp] theorem en225_1:enter cx 225 n0 1 e H = enterK [0,1] 0 n0 e H:=rfl
@[simp] theorem en228_0:enter cx 228 n0 0 e H = enterK [0] 0 n0 e H:=rfl
@[simp] theorem en228_1:enter cx 228 n0 1 e H = enterK [0] 0 n0 e H:=rfl
@[simp] theorem en230_0:enter cx 230 n0 0 e H = enterK [0,1] 0 n0 e H:=rfl
@[simp] theorem en230_1:enter cx 230 n0 1 e H = enterK [0,1] 0 n0 e H:=rfl
end
end Go.Ev.S
namespace Go.Ev.S
open Go Go.Proofs Go.Ev
@[simp] theorem sz2:szOf Tryz.prog 2 = 1:=by kernel_rfl
@[simp] theorem ag2:aggQ Tryz.prog 2 = some false:=by kernel_rfl
@[simp] theorem by2:bytesOf Tryz.prog 2 = 8:=by kernel_rfl
@[simp] theorem zo2:zeroOf Tryz.prog 2 = some (.int .i64 0):=by kernel_rfl
@[simp] theorem cq2:cmpQ Tryz.prog 2 = true:=by kernel_rfl
@[simp] theorem un2:Tryz.prog.underlying 2 = some (.int .i64):=by kernel_rfl
@[simp] theorem sz3:szOf Tryz.prog 3 = 1:=by kernel_rfl
@[simp] theorem ag3:aggQ Tryz.prog 3 = some false:=by kernel_rfl
@[simp] theorem by3:bytesOf Tryz.prog 3 = 8:=by kernel_rfl
@[simp] theorem zo3:zeroOf Tryz.prog 3 = some (.int .i64 0):=by kernel_rfl
@[simp] theorem cq3:cmpQ Tryz.prog 3 = true:=by kernel_rfl
@[simp] theorem un3:Tryz.prog.underlying 3 = some (.int .i64):=by kernel_rfl
@[simp] theorem sz4:szOf Tryz.prog 4 = 1:=by kernel_rfl
@[simp] theorem ag4:aggQ Tryz.prog 4 = some false:=by kernel_rfl
@[simp] theorem by4:bytesOf Tryz.prog 4 = 1:=by kernel_rfl
@[simp] theorem zo4:zeroOf Tryz.prog 4 = some (.bool false):=by kernel_rfl
@[simp] theorem un4:Tryz.prog.underlying 4 = some .bool:=by kernel_rfl
@[simp] theorem sz5:szOf Tryz.prog 5 = 1:=by kernel_rfl
@[simp] theorem ag5:aggQ Tryz.prog 5 = some false:=by kernel_rfl
@[simp] theorem by5:bytesOf Tryz.prog 5 = 1:=by kernel_rfl
@[simp] theorem zo5:zeroOf Tryz.prog 5 = some (.int .u8 0):=by kernel_rfl
@[simp] theorem cq5:cmpQ Tryz.prog 5 = true:=by kernel_rfl
@[simp] theorem un5:Tryz.prog.underlying 5 = some (.int .u8):=by kernel_rfl
@[simp] theorem sz9:szOf Tryz.prog 9 = 1:=by kernel_rfl
@[simp] theorem ag9:aggQ Tryz.prog 9 = some false:=by kernel_rfl
@[simp] theorem by9:bytesOf Tryz.prog 9 = 16:=by kernel_rfl
@[simp] theorem zo9:zeroOf Tryz.prog 9 = some (.str []):=by kernel_rfl
@[simp] theorem un9:Tryz.prog.underlying 9 = some .string:=by kernel_rfl
@[simp] theorem sz21:szOf Tryz.prog 21 = 1:=by kernel_rfl
@[simp] theorem ag21:aggQ Tryz.prog 21 = some false:=by kernel_rfl
@[simp] theorem by21:bytesOf Tryz.prog 21 = 4:=by kernel_rfl
@[simp] theorem zo21:zeroOf Tryz.prog 21 = some (.int .i32 0):=by kernel_rfl
@[simp] theorem cq21:cmpQ Tryz.prog 21 = true:=by kernel_rfl
@[simp] theorem un21:Tryz.prog.underlying 21 = some (.int .i32):=by kernel_rfl
@[simp] theorem sz22:szOf Tryz.prog 22 = 1:=by kernel_rfl
@[simp] theorem ag22:aggQ Tryz.prog 22 = some false:=by kernel_rfl
@[simp] theorem by22:bytesOf Tryz.prog 22 = 24:=by kernel_rfl
@[simp] theorem zo22:zeroOf Tryz.prog 22 = some (.vsl true [] 0):=by kernel_rfl
@[simp] theorem un22:Tryz.prog.underlying 22 = some (.slice 36):=by kernel_rfl
@[simp] theorem sz24:szOf Tryz.prog 24 = 1:=by kernel_rfl
@[simp] theorem ag24:aggQ Tryz.prog 24 = some false:=by kernel_rfl
@[simp] theorem by24:bytesOf Tryz.prog 24 = 8:=by kernel_rfl
@[simp] theorem zo24:zeroOf Tryz.prog 24 = some (.nilp):=by kernel_rfl
@[simp] theorem un24:Tryz.prog.underlying 24 = some (.pointer 79):=by kernel_rfl
@[simp] theorem sz26:szOf Tryz.prog 26 = 1:=by kernel_rfl
@[simp] theorem ag26:aggQ Tryz.prog 26 = some false:=by kernel_rfl
@[simp] theorem by26:bytesOf Tryz.prog 26 = 8:=by kernel_rfl
@[simp] theorem zo26:zeroOf Tryz.prog 26 = some (.nilp):=by kernel_rfl
@[simp] theorem un26:Tryz.prog.underlying 26 = some (.pointer 31):=by kernel_rfl
@[simp] theorem sz27:szOf Tryz.prog 27 = 1:=by kernel_rfl
@[simp] theorem ag27:aggQ Tryz.prog 27 = some false:=by kernel_rfl
@[simp] theorem by27:bytesOf Tryz.prog 27 = 8:=by kernel_rfl
@[simp] theorem zo27:zeroOf Tryz.prog 27 = some (.int .u64 0):=by kernel_rfl
@[simp] theorem cq27:cmpQ Tryz.prog 27 = true:=by kernel_rfl
@[simp] theorem un27:Tryz.prog.underlying 27 = some (.int .u64):=by kernel_rfl
@[simp] theorem sz28:szOf Tryz.prog 28 = 1:=by kernel_rfl
@[simp] theorem ag28:aggQ Tryz.prog 28 = some false:=by kernel_rfl
@[simp] theorem by28:bytesOf Tryz.prog 28 = 24:=by kernel_rfl
@[simp] theorem zo28:zeroOf Tryz.prog 28 = some (.vsl true [] 0):=by kernel_rfl
@[simp] theorem un28:Tryz.prog.underlying 28 = some (.slice 97):=by kernel_rfl
@[simp] theorem sz29:szOf Tryz.prog 29 = 1:=by kernel_rfl
@[simp] theorem ag29:aggQ Tryz.prog 29 = some false:=by kernel_rfl
@[simp] theorem by29:bytesOf Tryz.prog 29 = 24:=by kernel_rfl
@[simp] theorem zo29:zeroOf Tryz.prog 29 = some (.vsl true [] 0):=by kernel_rfl
@[simp] theorem un29:Tryz.prog.underlying 29 = some (.slice 52):=by kernel_rfl
@[simp] theorem sz30:szOf Tryz.prog 30 = 4:=by kernel_rfl
@[simp] theorem ag30:aggQ Tryz.prog 30 = some true:=by kernel_rfl
@[simp] theorem by30:bytesOf Tryz.prog 30 = 64:=by kernel_rfl
@[simp] theorem zo30:zeroOf Tryz.prog 30 = some (.agg [.int .u64 0,.int .u64 0,.vsl true [] 0,.vsl true [] 0]):=by kernel_rfl
attribute [simp] Tryz.underlying30
@[simp] theorem sz31:szOf Tryz.prog 31 = 4:=by kernel_rfl
@[simp] theorem ag31:aggQ Tryz.prog 31 = some true:=by kernel_rfl
@[simp] theorem by31:bytesOf Tryz.prog 31 = 64:=by kernel_rfl
@[simp] theorem zo31:zeroOf Tryz.prog 31 = some (.agg [.int .u64 0,.int .u64 0,.vsl true [] 0,.vsl true [] 0]):=by kernel_rfl
attribute [simp] Tryz.underlying31
@[simp] theorem sz33:szOf Tryz.prog 33 = 1:=by kernel_rfl
@[simp] theorem ag33:aggQ Tryz.prog 33 = some false:=by kernel_rfl
@[simp] theorem by33:bytesOf Tryz.prog 33 = 24:=by kernel_rfl
@[simp] theorem zo33:zeroOf Tryz.prog 33 = some (.vsl true [] 0):=by kernel_rfl
@[simp] theorem un33:Tryz.prog.underlying 33 = some (.slice 3):=by kernel_rfl
@[simp] theorem sz34:szOf Tryz.prog 34 = 1:=by kernel_rfl
@[simp] theorem ag34:aggQ Tryz.prog 34 = some false:=by kernel_rfl
@[simp] theorem by34:bytesOf Tryz.prog 34 = 24:=by kernel_rfl
@[simp] theorem zo34:zeroOf Tryz.prog 34 = some (.vsl true [] 0):=by kernel_rfl
@[simp] theorem un34:Tryz.prog.underlying 34 = some (.slice 5):=by kernel_rfl
@[simp] theorem sz35:szOf Tryz.prog 35 = 7:=by kernel_rfl
@[simp] theorem ag35:aggQ Tryz.prog 35 = some true:=by kernel_rfl
@[simp] theorem by35:bytesOf Tryz.prog 35 = 104:=by kernel_rfl
@[simp] theorem zo35:zeroOf Tryz.prog 35 = some (.agg [.int .i64 0,.int .i64 0,.int .i64 0,.vsl true [] 0,.vsl true [] 0,.int .u8 0,.vsl true [] 0]):=by kernel_rfl
attribute [simp] Tryz.underlying35
@[simp] theorem sz36:szOf Tryz.prog 36 = 7:=by kernel_rfl
@[simp] theorem ag36:aggQ Tryz.prog 36 = some true:=by kernel_rfl
@[simp] theorem by36:bytesOf Tryz.prog 36 = 104:=by kernel_rfl
@[simp] theorem zo36:zeroOf Tryz.prog 36 = some (.agg [.int .i64 0,.int .i64 0,.int .i64 0,.vsl true [] 0,.vsl true [] 0,.int .u8 0,.vsl true [] 0]):=by kernel_rfl
attribute [simp] Tryz.underlying36
@[simp] theorem sz46:szOf Tryz.prog 46 = 16:=by kernel_rfl
@[simp] theorem ag46:aggQ Tryz.prog 46 = some true:=by kernel_rfl
@[simp] theorem by46:bytesOf Tryz.prog 46 = 16:=by kernel_rfl
@[simp] theorem zo46:zeroOf Tryz.prog 46 = some (.agg [.int .u8 0,.int .u8 0,.int .u8 0,.int .u8 0,.int .u8 0,.int .u8 0,.int .u8 0,.int .u8 0,.int .u8 0,.int .u8 0,.int .u8 0,.int .u8 0,.int .u8 0,.int .u8 0,.int .u8 0,.int .u8 0]):=by kernel_rfl
@[simp] theorem un46:Tryz.prog.underlying 46 = some (.array 16 5):=by kernel_rfl
@[simp] theorem sz47:szOf Tryz.prog 47 = 16:=by kernel_rfl
@[simp] theorem ag47:aggQ Tryz.prog 47 = some true:=by kernel_rfl
@[simp] theorem by47:bytesOf Tryz.prog 47 = 16:=by kernel_rfl
@[simp] theorem zo47:zeroOf Tryz.prog 47 = some (.agg [.int .u8 0,.int .u8 0,.int .u8 0,.int .u8 0,.int .u8 0,.int .u8 0,.int .u8 0,.int .u8 0,.int .u8 0,.int .u8 0,.int .u8 0,.int .u8 0,.int .u8 0,.int .u8 0,.int .u8 0,.int .u8 0]):=by kernel_rfl
@[simp] theorem un47:Tryz.prog.underlying 47 = some (.array 16 5):=by kernel_rfl
@[simp] theorem sz48:szOf Tryz.prog 48 = 1:=by kernel_rfl
@[simp] theorem ag48:aggQ Tryz.prog 48 = some false:=by kernel_rfl
@[simp] theorem by48:bytesOf Tryz.prog 48 = 24:=by kernel_rfl
@[simp] theorem zo48:zeroOf Tryz.prog 48 = some (.vsl true [] 0):=by kernel_rfl
@[simp] theorem un48:Tryz.prog.underlying 48 = some (.slice 94):=by kernel_rfl
@[simp] theorem sz49:szOf Tryz.prog 49 = 20:=by kernel_rfl
@[simp] theorem ag49:aggQ Tryz.prog 49 = some true:=by kernel_rfl
@[simp] theorem by49:bytesOf Tryz.prog 49 = 64:=by kernel_rfl
@[simp] theorem zo49:zeroOf Tryz.prog 49 = some (.agg [.int .u64 0,.int .u64 0,.int .u64 0,.int .u8 0,.int .u8 0,.int .u8 0,.int .u8 0,.int .u8 0,.int .u8 0,.int .u8 0,.int .u8 0,.int .u8 0,.int .u8 0,.int .u8 0,.int .u8 0,.int .u8 0,.int .u8 0,.int .u8 0,.int .u8 0,.vsl true [] 0]):=by kernel_rfl
attribute [simp] Tryz.underlying49
@[simp] theorem sz50:szOf Tryz.prog 50 = 20:=by kernel_rfl
@[simp] theorem ag50:aggQ Tryz.prog 50 = some true:=by kernel_rfl
@[simp] theorem by50:bytesOf Tryz.prog 50 = 64:=by kernel_rfl
@[simp] theorem zo50:zeroOf Tryz.prog 50 = some (.agg [.int .u64 0,.int .u64 0,.int .u64 0,.int .u8 0,.int .u8 0,.int .u8 0,.int .u8 0,.int .u8 0,.int .u8 0,.int .u8 0,.int .u8 0,.int .u8 0,.int .u8 0,.int .u8 0,.int .u8 0,.int .u8 0,.int .u8 0,.int .u8 0,.int .u8 0,.vsl true [] 0]):=by kernel_rfl
attribute [simp] Tryz.underlying50
@[simp] theorem sz51:szOf Tryz.prog 51 = 39:=by kernel_rfl
@[simp] theorem ag51:aggQ Tryz.prog 51 = some true:=by kernel_rfl
@[simp] theorem by51:bytesOf Tryz.prog 51 = 104:=by kernel_rfl
@[simp] theorem zo51:zeroOf Tryz.prog 51 = some (.agg [.int .u8 0,.int .u8 0,.int .u8 0,.int .u8 0,.int .u8 0,.int .u8 0,.int .u8 0,.int .u8 0,.int .u8 0,.int .u8 0,.int .u8 0,.int .u8 0,.int .u8 0,.int .u8 0,.int .u8 0,.int .u8 0,.bool false,.int .u64 0,.int .u64 0,.int .u64 0,.int .u64 0,.int .u64 0,.int .u8 0,.int .u8 0,.int .u8 0,.int .u8 0,.int .u8 0,.int .u8 0,.int .u8 0,.int .u8 0,.int .u8 0,.int .u8 0,.int .u8 0,.int .u8 0,.int .u8 0,.int .u8 0,.int .u8 0,.int .u8 0,.vsl true [] 0]):=by kernel_rfl
attribute [simp] Tryz.underlying51
@[simp] theorem sz52:szOf Tryz.prog 52 = 39:=by kernel_rfl
@[simp] theorem ag52:aggQ Tryz.prog 52 = some true:=by kernel_rfl
@[simp] theorem by52:bytesOf Tryz.prog 52 = 104:=by kernel_rfl
@[simp] theorem zo52:zeroOf Tryz.prog 52 = some (.agg [.int .u8 0,.int .u8 0,.int .u8 0,.int .u8 0,.int .u8 0,.int .u8 0,.int .u8 0,.int .u8 0,.int .u8 0,.int .u8 0,.int .u8 0,.int .u8 0,.int .u8 0,.int .u8 0,.int .u8 0,.int .u8 0,.bool false,.int .u64 0,.int .u64 0,.int .u64 0,.int .u64 0,.int .u64 0,.int .u8 0,.int .u8 0,.int .u8 0,.int .u8 0,.int .u8 0,.int .u8 0,.int .u8 0,.int .u8 0,.int .u8 0,.int .u8 0,.int .u8 0,.int .u8 0,.int .u8 0,.int .u8 0,.int .u8 0,.int .u8 0,.vsl true [] 0]):=by kernel_rfl
attribute [simp] Tryz.underlying52
@[simp] theorem sz55:szOf Tryz.prog 55 = 4:=by kernel_rfl
@[simp] theorem ag55:aggQ Tryz.prog 55 = some true:=by kernel_rfl
@[simp] theorem by55:bytesOf Tryz.prog 55 = 48:=by kernel_rfl
@[simp] theorem zo55:zeroOf Tryz.prog 55 = some (.agg [.int .i64 0,.int .u64 0,.int .u64 0,.vsl true [] 0]):=by kernel_rfl
attribute [simp] Tryz.underlying55
@[simp] theorem sz56:szOf Tryz.prog 56 = 4:=by kernel_rfl
@[simp] theorem ag56:aggQ Tryz.prog 56 = some true:=by kernel_rfl
@[simp] theorem by56:bytesOf Tryz.prog 56 = 48:=by kernel_rfl
@[simp] theorem zo56:zeroOf Tryz.prog 56 = some (.agg [.int .i64 0,.int .u64 0,.int .u64 0,.vsl true [] 0]):=by kernel_rfl
attribute [simp] Tryz.underlying56
@[simp] theorem sz59:szOf Tryz.prog 59 = 4:=by kernel_rfl
@[simp] theorem ag59:aggQ Tryz.prog 59 = some true:=by kernel_rfl
@[simp] theorem by59:bytesOf Tryz.prog 59 = 56:=by kernel_rfl
@[simp] theorem zo59:zeroOf Tryz.prog 59 = some (.agg [.str [],.int .u64 0,.int .u64 0,.vsl true [] 0]):=by kernel_rfl
attribute [simp] Tryz.underlying59
@[simp] theorem sz60:szOf Tryz.prog 60 = 4:=by kernel_rfl
@[simp] theorem ag60:aggQ Tryz.prog 60 = some true:=by kernel_rfl
@[simp] theorem by60:bytesOf Tryz.prog 60 = 56:=by kernel_rfl
@[simp] theorem zo60:zeroOf Tryz.prog 60 = some (.agg [.str [],.int .u64 0,.int .u64 0,.vsl true [] 0]):=by kernel_rfl
attribute [simp] Tryz.underlying60
@[simp] theorem sz68:szOf Tryz.prog 68 = 1:=by kernel_rfl
@[simp] theorem ag68:aggQ Tryz.prog 68 = some false:=by kernel_rfl
@[simp] theorem by68:bytesOf Tryz.prog 68 = 24:=by kernel_rfl
@[simp] theorem zo68:zeroOf Tryz.prog 68 = some (.vsl true [] 0):=by kernel_rfl
@[simp] theorem un68:Tryz.prog.underlying 68 = some (.slice 9):=by kernel_rfl
@[simp] theorem sz71:szOf Tryz.prog 71 = 1:=by kernel_rfl
@[simp] theorem ag71:aggQ Tryz.prog 71 = some false:=by kernel_rfl
@[simp] theorem by71:bytesOf Tryz.prog 71 = 8:=by kernel_rfl
@[simp] theorem zo71:zeroOf Tryz.prog 71 = some (.nilp):=by kernel_rfl
@[simp] theorem un71:Tryz.prog.underlying 71 = some (.pointer 73):=by kernel_rfl
@[simp] theorem sz72:szOf Tryz.prog 72 = 2:=by kernel_rfl
@[simp] theorem ag72:aggQ Tryz.prog 72 = some true:=by kernel_rfl
@[simp] theorem by72:bytesOf Tryz.prog 72 = 32:=by kernel_rfl
@[simp] theorem zo72:zeroOf Tryz.prog 72 = some (.agg [.vsl true [] 0,.int .i64 0]):=by kernel_rfl
attribute [simp] Tryz.underlying72
@[simp] theorem sz73:szOf Tryz.prog 73 = 2:=by kernel_rfl
@[simp] theorem ag73:aggQ Tryz.prog 73 = some true:=by kernel_rfl
@[simp] theorem by73:bytesOf Tryz.prog 73 = 32:=by kernel_rfl
@[simp] theorem zo73:zeroOf Tryz.prog 73 = some (.agg [.vsl true [] 0,.int .i64 0]):=by kernel_rfl
attribute [simp] Tryz.underlying73
@[simp] theorem sz78:szOf Tryz.prog 78 = 4:=by kernel_rfl
@[simp] theorem ag78:aggQ Tryz.prog 78 = some true:=by kernel_rfl
@[simp] theorem by78:bytesOf Tryz.prog 78 = 64:=by kernel_rfl
@[simp] theorem zo78:zeroOf Tryz.prog 78 = some (.agg [.int .u64 0,.int .u64 0,.vsl true [] 0,.vsl true [] 0]):=by kernel_rfl
attribute [simp] Tryz.underlying78
@[simp] theorem sz79:szOf Tryz.prog 79 = 4:=by kernel_rfl
@[simp] theorem ag79:aggQ Tryz.prog 79 = some true:=by kernel_rfl
@[simp] theorem by79:bytesOf Tryz.prog 79 = 64:=by kernel_rfl
@[simp] theorem zo79:zeroOf Tryz.prog 79 = some (.agg [.int .u64 0,.int .u64 0,.vsl true [] 0,.vsl true [] 0]):=by kernel_rfl
attribute [simp] Tryz.underlying79
@[simp] theorem sz81:szOf Tryz.prog 81 = 4:=by kernel_rfl
@[simp] theorem ag81:aggQ Tryz.prog 81 = some true:=by kernel_rfl
@[simp] theorem by81:bytesOf Tryz.prog 81 = 56:=by kernel_rfl
@[simp] theorem zo81:zeroOf Tryz.prog 81 = some (.agg [.str [],.int .u64 0,.int .u64 0,.vsl true [] 0]):=by kernel_rfl
attribute [simp] Tryz.underlying81
@[simp] theorem sz89:szOf Tryz.prog 89 = 4:=by kernel_rfl
@[simp] theorem ag89:aggQ Tryz.prog 89 = some true:=by kernel_rfl
@[simp] theorem by89:bytesOf Tryz.prog 89 = 48:=by kernel_rfl
@[simp] theorem zo89:zeroOf Tryz.prog 89 = some (.agg [.int .i64 0,.int .u64 0,.int .u64 0,.vsl true [] 0]):=by kernel_rfl
attribute [simp] Tryz.underlying89
@[simp] theorem sz93:szOf Tryz.prog 93 = 2:=by kernel_rfl
@[simp] theorem ag93:aggQ Tryz.prog 93 = some true:=by kernel_rfl
@[simp] theorem by93:bytesOf Tryz.prog 93 = 32:=by kernel_rfl
@[simp] theorem zo93:zeroOf Tryz.prog 93 = some (.agg [.str [],.str []]):=by kernel_rfl
attribute [simp] Tryz.underlying93
@[simp] theorem sz94:szOf Tryz.prog 94 = 2:=by kernel_rfl
@[simp] theorem ag94:aggQ Tryz.prog 94 = some true:=by kernel_rfl
@[simp] theorem by94:bytesOf Tryz.prog 94 = 32:=by kernel_rfl
@[simp] theorem zo94:zeroOf Tryz.prog 94 = some (.agg [.str [],.str []]):=by kernel_rfl
attribute [simp] Tryz.underlying94
@[simp] theorem sz96:szOf Tryz.prog 96 = 19:=by kernel_rfl
@[simp] theorem ag96:aggQ Tryz.prog 96 = some true:=by kernel_rfl
@[simp] theorem by96:bytesOf Tryz.prog 96 = 40:=by kernel_rfl
@[simp] theorem zo96:zeroOf Tryz.prog 96 = some (.agg [.int .u8 0,.int .u8 0,.int .u8 0,.int .u8 0,.int .u8 0,.int .u8 0,.int .u8 0,.int .u8 0,.int .u8 0,.int .u8 0,.int .u8 0,.int .u8 0,.int .u8 0,.int .u8 0,.int .u8 0,.int .u8 0,.int .u64 0,.int .u64 0,.int .u64 0]):=by kernel_rfl
attribute [simp] Tryz.underlying96
@[simp] theorem sz97:szOf Tryz.prog 97 = 19:=by kernel_rfl
@[simp] theorem ag97:aggQ Tryz.prog 97 = some true:=by kernel_rfl
@[simp] theorem by97:bytesOf Tryz.prog 97 = 40:=by kernel_rfl
@[simp] theorem zo97:zeroOf Tryz.prog 97 = some (.agg [.int .u8 0,.int .u8 0,.int .u8 0,.int .u8 0,.int .u8 0,.int .u8 0,.int .u8 0,.int .u8 0,.int .u8 0,.int .u8 0,.int .u8 0,.int .u8 0,.int .u8 0,.int .u8 0,.int .u8 0,.int .u8 0,.int .u64 0,.int .u64 0,.int .u64 0]):=by kernel_rfl
attribute [simp] Tryz.underlying97
@[simp] theorem sz104:szOf Tryz.prog 104 = 4:=by kernel_rfl
@[simp] theorem ag104:aggQ Tryz.prog 104 = some true:=by kernel_rfl
@[simp] theorem by104:bytesOf Tryz.prog 104 = 48:=by kernel_rfl
@[simp] theorem zo104:zeroOf Tryz.prog 104 = some (.agg [.int .i64 0,.int .u64 0,.int .u64 0,.vsl true [] 0]):=by kernel_rfl
attribute [simp] Tryz.underlying104
@[simp] theorem sz105:szOf Tryz.prog 105 = 4:=by kernel_rfl
@[simp] theorem ag105:aggQ Tryz.prog 105 = some true:=by kernel_rfl
@[simp] theorem by105:bytesOf Tryz.prog 105 = 48:=by kernel_rfl
@[simp] theorem zo105:zeroOf Tryz.prog 105 = some (.agg [.int .i64 0,.int .u64 0,.int .u64 0,.vsl true [] 0]):=by kernel_rfl
attribute [simp] Tryz.underlying105
@[simp] theorem sz115:szOf Tryz.prog 115 = 3:=by kernel_rfl
@[simp] theorem ag115:aggQ Tryz.prog 115 = some true:=by kernel_rfl
@[simp] theorem by115:bytesOf Tryz.prog 115 = 24:=by kernel_rfl
@[simp] theorem zo115:zeroOf Tryz.prog 115 = some (.agg [.int .u64 0,.int .u64 0,.int .u64 0]):=by kernel_rfl
@[simp] theorem un115:Tryz.prog.underlying 115 = some (.array 3 27):=by kernel_rfl
@[simp] theorem sz142:szOf Tryz.prog 142 = 1:=by kernel_rfl
@[simp] theorem ag142:aggQ Tryz.prog 142 = some false:=by kernel_rfl
@[simp] theorem by142:bytesOf Tryz.prog 142 = 4:=by kernel_rfl
@[simp] theorem zo142:zeroOf Tryz.prog 142 = some (.int .u32 0):=by kernel_rfl
@[simp] theorem cq142:cmpQ Tryz.prog 142 = true:=by kernel_rfl
@[simp] theorem un142:Tryz.prog.underlying 142 = some (.int .u32):=by kernel_rfl
@[simp] theorem sz150:szOf Tryz.prog 150 = 1:=by kernel_rfl
@[simp] theorem ag150:aggQ Tryz.prog 150 = some false:=by kernel_rfl
@[simp] theorem by150:bytesOf Tryz.prog 150 = 8:=by kernel_rfl
@[simp] theorem zo150:zeroOf Tryz.prog 150 = some (.nilp):=by kernel_rfl
@[simp] theorem un150:Tryz.prog.underlying 150 = some (.pointer 152):=by kernel_rfl
@[simp] theorem sz151:szOf Tryz.prog 151 = 2:=by kernel_rfl
@[simp] theorem ag151:aggQ Tryz.prog 151 = some true:=by kernel_rfl
@[simp] theorem by151:bytesOf Tryz.prog 151 = 32:=by kernel_rfl
@[simp] theorem zo151:zeroOf Tryz.prog 151 = some (.agg [.nilp,.vsl true [] 0]):=by kernel_rfl
attribute [simp] Tryz.underlying151
@[simp] theorem sz152:szOf Tryz.prog 152 = 2:=by kernel_rfl
@[simp] theorem ag152:aggQ Tryz.prog 152 = some true:=by kernel_rfl
@[simp] theorem by152:bytesOf Tryz.prog 152 = 32:=by kernel_rfl
@[simp] theorem zo152:zeroOf Tryz.prog 152 = some (.agg [.nilp,.vsl true [] 0]):=by kernel_rfl
attribute [simp] Tryz.underlying152
@[simp] theorem sz154:szOf Tryz.prog 154 = 36:=by kernel_rfl
@[simp] theorem ag154:aggQ Tryz.prog 154 = some true:=by kernel_rfl
@[simp] theorem by154:bytesOf Tryz.prog 154 = 64:=by kernel_rfl
@[simp] theorem zo154:zeroOf Tryz.prog 154 = some (.agg [.int .u8 0,.int .u8 0,.int .u8 0,.int .u8 0,.int .u8 0,.int .u8 0,.int .u8 0,.int .u8 0,.int .u8 0,.int .u8 0,.int .u8 0,.int .u8 0,.int .u8 0,.int .u8 0,.int .u8 0,.int .u8 0,.int .u64 0,.int .u8 0,.int .u8 0,.int .u8 0,.int .u8 0,.int .u8 0,.int .u8 0,.int .u8 0,.int .u8 0,.int .u8 0,.int .u8 0,.int .u8 0,.int .u8 0,.int .u8 0,.int .u8 0,.int .u8 0,.int .u8 0,.int .u64 0,.int .u64 0,.int .u64 0]):=by kernel_rfl
attribute [simp] Tryz.underlying154
@[simp] theorem sz155:szOf Tryz.prog 155 = 36:=by kernel_rfl
@[simp] theorem ag155:aggQ Tryz.prog 155 = some true:=by kernel_rfl
@[simp] theorem by155:bytesOf Tryz.prog 155 = 64:=by kernel_rfl
@[simp] theorem zo155:zeroOf Tryz.prog 155 = some (.agg [.int .u8 0,.int .u8 0,.int .u8 0,.int .u8 0,.int .u8 0,.int .u8 0,.int .u8 0,.int .u8 0,.int .u8 0,.int .u8 0,.int .u8 0,.int .u8 0,.int .u8 0,.int .u8 0,.int .u8 0,.int .u8 0,.int .u64 0,.int .u8 0,.int .u8 0,.int .u8 0,.int .u8 0,.int .u8 0,.int .u8 0,.int .u8 0,.int .u8 0,.int .u8 0,.int .u8 0,.int .u8 0,.int .u8 0,.int .u8 0,.int .u8 0,.int .u8 0,.int .u8 0,.int .u64 0,.int .u64 0,.int .u64 0]):=by kernel_rfl
attribute [simp] Tryz.underlying155
@[simp] theorem sz157:szOf Tryz.prog 157 = 1:=by kernel_rfl
@[simp] theorem ag157:aggQ Tryz.prog 157 = some false:=by kernel_rfl
@[simp] theorem by157:bytesOf Tryz.prog 157 = 16:=by kernel_rfl
@[simp] theorem zo157:zeroOf Tryz.prog 157 = some (.nili):=by kernel_rfl
attribute [simp] Tryz.underlying157
@[simp] theorem sz158:szOf Tryz.prog 158 = 1:=by kernel_rfl
@[simp] theorem ag158:aggQ Tryz.prog 158 = some false:=by kernel_rfl
@[simp] theorem by158:bytesOf Tryz.prog 158 = 16:=by kernel_rfl
@[simp] theorem zo158:zeroOf Tryz.prog 158 = some (.nili):=by kernel_rfl
attribute [simp] Tryz.underlying158
@[simp] theorem sz164:szOf Tryz.prog 164 = 1:=by kernel_rfl
@[simp] theorem ag164:aggQ Tryz.prog 164 = some false:=by kernel_rfl
@[simp] theorem by164:bytesOf Tryz.prog 164 = 24:=by kernel_rfl
@[simp] theorem zo164:zeroOf Tryz.prog 164 = some (.vsl true [] 0):=by kernel_rfl
@[simp] theorem un164:Tryz.prog.underlying 164 = some (.slice 27):=by kernel_rfl
@[simp] theorem sz165:szOf Tryz.prog 165 = 1:=by kernel_rfl
@[simp] theorem ag165:aggQ Tryz.prog 165 = some false:=by kernel_rfl
@[simp] theorem by165:bytesOf Tryz.prog 165 = 8:=by kernel_rfl
@[simp] theorem zo165:zeroOf Tryz.prog 165 = some (.int .u64 0):=by kernel_rfl
@[simp] theorem cq165:cmpQ Tryz.prog 165 = true:=by kernel_rfl
@[simp] theorem un165:Tryz.prog.underlying 165 = some (.int .u64):=by kernel_rfl
@[simp] theorem sz184:szOf Tryz.prog 184 = 36:=by kernel_rfl
@[simp] theorem ag184:aggQ Tryz.prog 184 = some true:=by kernel_rfl
@[simp] theorem by184:bytesOf Tryz.prog 184 = 64:=by kernel_rfl
@[simp] theorem zo184:zeroOf Tryz.prog 184 = some (.agg [.int .u8 0,.int .u8 0,.int .u8 0,.int .u8 0,.int .u8 0,.int .u8 0,.int .u8 0,.int .u8 0,.int .u8 0,.int .u8 0,.int .u8 0,.int .u8 0,.int .u8 0,.int .u8 0,.int .u8 0,.int .u8 0,.int .u64 0,.int .u8 0,.int .u8 0,.int .u8 0,.int .u8 0,.int .u8 0,.int .u8 0,.int .u8 0,.int .u8 0,.int .u8 0,.int .u8 0,.int .u8 0,.int .u8 0,.int .u8 0,.int .u8 0,.int .u8 0,.int .u8 0,.int .u64 0,.int .u64 0,.int .u64 0]):=by kernel_rfl
attribute [simp] Tryz.underlying184
@[simp] theorem sz188:szOf Tryz.prog 188 = 1:=by kernel_rfl
@[simp] theorem ag188:aggQ Tryz.prog 188 = some false:=by kernel_rfl
@[simp] theorem by188:bytesOf Tryz.prog 188 = 24:=by kernel_rfl
@[simp] theorem zo188:zeroOf Tryz.prog 188 = some (.vsl true [] 0):=by kernel_rfl
@[simp] theorem un188:Tryz.prog.underlying 188 = some (.slice 34):=by kernel_rfl
@[simp] theorem sz191:szOf Tryz.prog 191 = 1:=by kernel_rfl
@[simp] theorem ag191:aggQ Tryz.prog 191 = some false:=by kernel_rfl
@[simp] theorem by191:bytesOf Tryz.prog 191 = 8:=by kernel_rfl
@[simp] theorem zo191:zeroOf Tryz.prog 191 = some (.nilp):=by kernel_rfl
@[simp] theorem un191:Tryz.prog.underlying 191 = some (.pointer 193):=by kernel_rfl
@[simp] theorem sz192:szOf Tryz.prog 192 = 1:=by kernel_rfl
@[simp] theorem ag192:aggQ Tryz.prog 192 = some true:=by kernel_rfl
@[simp] theorem by192:bytesOf Tryz.prog 192 = 24:=by kernel_rfl
@[simp] theorem zo192:zeroOf Tryz.prog 192 = some (.agg [.vsl true [] 0]):=by kernel_rfl
attribute [simp] Tryz.underlying192
@[simp] theorem sz193:szOf Tryz.prog 193 = 1:=by kernel_rfl
@[simp] theorem ag193:aggQ Tryz.prog 193 = some true:=by kernel_rfl
@[simp] theorem by193:bytesOf Tryz.prog 193 = 24:=by kernel_rfl
@[simp] theorem zo193:zeroOf Tryz.prog 193 = some (.agg [.vsl true [] 0]):=by kernel_rfl
attribute [simp] Tryz.underlying193
@[simp] theorem sz196:szOf Tryz.prog 196 = 1:=by kernel_rfl
@[simp] theorem ag196:aggQ Tryz.prog 196 = some false:=by kernel_rfl
@[simp] theorem by196:bytesOf Tryz.prog 196 = 8:=by kernel_rfl
@[simp] theorem zo196:zeroOf Tryz.prog 196 = some (.nilf):=by kernel_rfl
@[simp] theorem sz207:szOf Tryz.prog 207 = 1:=by kernel_rfl
@[simp] theorem ag207:aggQ Tryz.prog 207 = some false:=by kernel_rfl
@[simp] theorem by207:bytesOf Tryz.prog 207 = 8:=by kernel_rfl
@[simp] theorem zo207:zeroOf Tryz.prog 207 = some (.nilp):=by kernel_rfl
@[simp] theorem un207:Tryz.prog.underlying 207 = some (.pointer 27):=by kernel_rfl
@[simp] theorem sz208:szOf Tryz.prog 208 = 2:=by kernel_rfl
@[simp] theorem ag208:aggQ Tryz.prog 208 = some true:=by kernel_rfl
@[simp] theorem by208:bytesOf Tryz.prog 208 = 24:=by kernel_rfl
@[simp] theorem zo208:zeroOf Tryz.prog 208 = some (.agg [.str [],.nilp]):=by kernel_rfl
attribute [simp] Tryz.underlying208
@[simp] theorem sz209:szOf Tryz.prog 209 = 1:=by kernel_rfl
@[simp] theorem ag209:aggQ Tryz.prog 209 = some false:=by kernel_rfl
@[simp] theorem by209:bytesOf Tryz.prog 209 = 24:=by kernel_rfl
@[simp] theorem zo209:zeroOf Tryz.prog 209 = some (.vsl true [] 0):=by kernel_rfl
@[simp] theorem un209:Tryz.prog.underlying 209 = some (.slice 208):=by kernel_rfl
@[simp] theorem sz216:szOf Tryz.prog 216 = 1:=by kernel_rfl
@[simp] theorem ag216:aggQ Tryz.prog 216 = some false:=by kernel_rfl
@[simp] theorem by216:bytesOf Tryz.prog 216 = 8:=by kernel_rfl
@[simp] theorem zo216:zeroOf Tryz.prog 216 = some (.nilf):=by kernel_rfl
@[simp] theorem sz223:szOf Tryz.prog 223 = 5:=by kernel_rfl
@[simp] theorem ag223:aggQ Tryz.prog 223 = some true:=by kernel_rfl
@[simp] theorem by223:bytesOf Tryz.prog 223 = 5:=by kernel_rfl
@[simp] theorem zo223:zeroOf Tryz.prog 223 = some (.agg [.bool false,.bool false,.bool false,.bool false,.bool false]):=by kernel_rfl
@[simp] theorem un223:Tryz.prog.underlying 223 = some (.array 5 4):=by kernel_rfl
@[simp] theorem sz230:szOf Tryz.prog 230 = 1:=by kernel_rfl
@[simp] theorem ag230:aggQ Tryz.prog 230 = some false:=by kernel_rfl
@[simp] theorem by230:bytesOf Tryz.prog 230 = 8:=by kernel_rfl
@[simp] theorem zo230:zeroOf Tryz.prog 230 = some (.int .i64 0):=by kernel_rfl
@[simp] theorem cq230:cmpQ Tryz.prog 230 = true:=by kernel_rfl
@[simp] theorem un230:Tryz.prog.underlying 230 = some (.int .i64):=by kernel_rfl
@[simp] theorem sz232:szOf Tryz.prog 232 = 1:=by kernel_rfl
@[simp] theorem ag232:aggQ Tryz.prog 232 = some false:=by kernel_rfl
@[simp] theorem by232:bytesOf Tryz.prog 232 = 8:=by kernel_rfl
@[simp] theorem zo232:zeroOf Tryz.prog 232 = some (.nilp):=by kernel_rfl
@[simp] theorem un232:Tryz.prog.underlying 232 = some (.pointer 258):=by kernel_rfl
@[simp] theorem sz235:szOf Tryz.prog 235 = 24:=by kernel_rfl
@[simp] theorem ag235:aggQ Tryz.prog 235 = some true:=by kernel_rfl
@[simp] theorem by235:bytesOf Tryz.prog 235 = 24:=by kernel_rfl
@[simp] theorem zo235:zeroOf Tryz.prog 235 = some (.agg [.int .u8 0,.int .u8 0,.int .u8 0,.int .u8 0,.int .u8 0,.int .u8 0,.int .u8 0,.int .u8 0,.int .u8 0,.int .u8 0,.int .u8 0,.int .u8 0,.int .u8 0,.int .u8 0,.int .u8 0,.int .u8 0,.int .u8 0,.int .u8 0,.int .u8 0,.int .u8 0,.int .u8 0,.int .u8 0,.int .u8 0,.int .u8 0]):=by kernel_rfl
@[simp] theorem un235:Tryz.prog.underlying 235 = some (.array 24 5):=by kernel_rfl
@[simp] theorem sz240:szOf Tryz.prog 240 = 3:=by kernel_rfl
@[simp] theorem ag240:aggQ Tryz.prog 240 = some true:=by kernel_rfl
@[simp] theorem by240:bytesOf Tryz.prog 240 = 12:=by kernel_rfl
@[simp] theorem zo240:zeroOf Tryz.prog 240 = some (.agg [.int .u32 0,.int .u32 0,.int .u32 0]):=by kernel_rfl
attribute [simp] Tryz.underlying240
@[simp] theorem sz241:szOf Tryz.prog 241 = 3:=by kernel_rfl
@[simp] theorem ag241:aggQ Tryz.prog 241 = some true:=by kernel_rfl
@[simp] theorem by241:bytesOf Tryz.prog 241 = 12:=by kernel_rfl
@[simp] theorem zo241:zeroOf Tryz.prog 241 = some (.agg [.int .u32 0,.int .u32 0,.int .u32 0]):=by kernel_rfl
attribute [simp] Tryz.underlying241
@[simp] theorem sz243:szOf Tryz.prog 243 = 12:=by kernel_rfl
@[simp] theorem ag243:aggQ Tryz.prog 243 = some true:=by kernel_rfl
@[simp] theorem by243:bytesOf Tryz.prog 243 = 12:=by kernel_rfl
@[simp] theorem zo243:zeroOf Tryz.prog 243 = some (.agg [.int .u8 0,.int .u8 0,.int .u8 0,.int .u8 0,.int .u8 0,.int .u8 0,.int .u8 0,.int .u8 0,.int .u8 0,.int .u8 0,.int .u8 0,.int .u8 0]):=by kernel_rfl
@[simp] theorem un243:Tryz.prog.underlying 243 = some (.array 12 5):=by kernel_rfl
@[simp] theorem sz248:szOf Tryz.prog 248 = 1:=by kernel_rfl
@[simp] theorem ag248:aggQ Tryz.prog 248 = some false:=by kernel_rfl
@[simp] theorem by248:bytesOf Tryz.prog 248 = 8:=by kernel_rfl
@[simp] theorem zo248:zeroOf Tryz.prog 248 = some (.int .i64 0):=by kernel_rfl
@[simp] theorem cq248:cmpQ Tryz.prog 248 = true:=by kernel_rfl
@[simp] theorem un248:Tryz.prog.underlying 248 = some (.int .i64):=by kernel_rfl
@[simp] theorem sz257:szOf Tryz.prog 257 = 3:=by kernel_rfl
@[simp] theorem ag257:aggQ Tryz.prog 257 = some true:=by kernel_rfl
@[simp] theorem by257:bytesOf Tryz.prog 257 = 48:=by kernel_rfl
@[simp] theorem zo257:zeroOf Tryz.prog 257 = some (.agg [.str [],.str [],.nili]):=by kernel_rfl
attribute [simp] Tryz.underlying257
@[simp] theorem sz258:szOf Tryz.prog 258 = 3:=by kernel_rfl
@[simp] theorem ag258:aggQ Tryz.prog 258 = some true:=by kernel_rfl
@[simp] theorem by258:bytesOf Tryz.prog 258 = 48:=by kernel_rfl
@[simp] theorem zo258:zeroOf Tryz.prog 258 = some (.agg [.str [],.str [],.nili]):=by kernel_rfl
attribute [simp] Tryz.underlying258
@[simp] theorem sz261:szOf Tryz.prog 261 = 20:=by kernel_rfl
@[simp] theorem ag261:aggQ Tryz.prog 261 = some true:=by kernel_rfl
@[simp] theorem by261:bytesOf Tryz.prog 261 = 160:=by kernel_rfl
@[simp] theorem zo261:zeroOf Tryz.prog 261 = some (.agg [.int .u64 0,.int .u64 0,.int .u64 0,.int .u64 0,.int .u64 0,.int .u64 0,.int .u64 0,.int .u64 0,.int .u64 0,.int .u64 0,.int .u64 0,.int .u64 0,.int .u64 0,.int .u64 0,.int .u64 0,.int .u64 0,.int .u64 0,.int .u64 0,.int .u64 0,.int .u64 0]):=by kernel_rfl
@[simp] theorem un261:Tryz.prog.underlying 261 = some (.array 20 27):=by kernel_rfl
@[simp] theorem sz262:szOf Tryz.prog 262 = 65:=by kernel_rfl
@[simp] theorem ag262:aggQ Tryz.prog 262 = some true:=by kernel_rfl
@[simp] theorem by262:bytesOf Tryz.prog 262 = 65:=by kernel_rfl
@[simp] theorem zo262:zeroOf Tryz.prog 262 = some (.agg (List.replicate 65 (.int .u8 0))):=by kernel_rfl
@[simp] theorem un262:Tryz.prog.underlying 262 = some (.array 65 5):=by kernel_rfl
@[simp] theorem sz268:szOf Tryz.prog 268 = 256:=by kernel_rfl
@[simp] theorem ag268:aggQ Tryz.prog 268 = some true:=by kernel_rfl
@[simp] theorem by268:bytesOf Tryz.prog 268 = 256:=by kernel_rfl
@[simp] theorem zo268:zeroOf Tryz.prog 268 = some (.agg (List.replicate 256 (.bool false))):=by kernel_rfl
@[simp] theorem un268:Tryz.prog.underlying 268 = some (.array 256 4):=by kernel_rfl
@[simp] theorem sz269:szOf Tryz.prog 269 = 256:=by kernel_rfl
@[simp] theorem ag269:aggQ Tryz.prog 269 = some true:=by kernel_rfl
@[simp] theorem by269:bytesOf Tryz.prog 269 = 256:=by kernel_rfl
@[simp] theorem zo269:zeroOf Tryz.prog 269 = some (.agg (List.replicate 256 (.bool false))):=by kernel_rfl
@[simp] theorem un269:Tryz.prog.underlying 269 = some (.array 256 4):=by kernel_rfl
@[simp] theorem sz275:szOf Tryz.prog 275 = 1:=by kernel_rfl
@[simp] theorem ag275:aggQ Tryz.prog 275 = some false:=by kernel_rfl
@[simp] theorem by275:bytesOf Tryz.prog 275 = 8:=by kernel_rfl
@[simp] theorem zo275:zeroOf Tryz.prog 275 = some (.int .u64 0):=by kernel_rfl
@[simp] theorem cq275:cmpQ Tryz.prog 275 = true:=by kernel_rfl
@[simp] theorem un275:Tryz.prog.underlying 275 = some (.int .u64):=by kernel_rfl
@[simp] theorem sz278:szOf Tryz.prog 278 = 1:=by kernel_rfl
@[simp] theorem ag278:aggQ Tryz.prog 278 = some false:=by kernel_rfl
@[simp] theorem by278:bytesOf Tryz.prog 278 = 8:=by kernel_rfl
@[simp] theorem zo278:zeroOf Tryz.prog 278 = some (.nilp):=by kernel_rfl
@[simp] theorem un278:Tryz.prog.underlying 278 = some (.pointer 3):=by kernel_rfl
@[simp] theorem sz281:szOf Tryz.prog 281 = 1:=by kernel_rfl
@[simp] theorem ag281:aggQ Tryz.prog 281 = some false:=by kernel_rfl
@[simp] theorem by281:bytesOf Tryz.prog 281 = 8:=by kernel_rfl
@[simp] theorem zo281:zeroOf Tryz.prog 281 = some (.nilp):=by kernel_rfl
@[simp] theorem un281:Tryz.prog.underlying 281 = some (.pointer 283):=by kernel_rfl
@[simp] theorem sz282:szOf Tryz.prog 282 = 1:=by kernel_rfl
@[simp] theorem ag282:aggQ Tryz.prog 282 = some true:=by kernel_rfl
@[simp] theorem by282:bytesOf Tryz.prog 282 = 16:=by kernel_rfl
@[simp] theorem zo282:zeroOf Tryz.prog 282 = some (.agg [.str []]):=by kernel_rfl
attribute [simp] Tryz.underlying282
@[simp] theorem sz283:szOf Tryz.prog 283 = 1:=by kernel_rfl
@[simp] theorem ag283:aggQ Tryz.prog 283 = some true:=by kernel_rfl
@[simp] theorem by283:bytesOf Tryz.prog 283 = 16:=by kernel_rfl
@[simp] theorem zo283:zeroOf Tryz.prog 283 = some (.agg [.str []]):=by kernel_rfl
attribute [simp] Tryz.underlying283
@[simp] theorem sz285:szOf Tryz.prog 285 = 4:=by kernel_rfl
@[simp] theorem ag285:aggQ Tryz.prog 285 = some true:=by kernel_rfl
@[simp] theorem by285:bytesOf Tryz.prog 285 = 4:=by kernel_rfl
@[simp] theorem zo285:zeroOf Tryz.prog 285 = some (.agg [.int .u8 0,.int .u8 0,.int .u8 0,.int .u8 0]):=by kernel_rfl
@[simp] theorem un285:Tryz.prog.underlying 285 = some (.array 4 5):=by kernel_rfl
@[simp] theorem sz291:szOf Tryz.prog 291 = 32:=by kernel_rfl
@[simp] theorem ag291:aggQ Tryz.prog 291 = some true:=by kernel_rfl
@[simp] theorem by291:bytesOf Tryz.prog 291 = 32:=by kernel_rfl
@[simp] theorem zo291:zeroOf Tryz.prog 291 = some (.agg (List.replicate 32 (.int .u8 0))):=by kernel_rfl
@[simp] theorem un291:Tryz.prog.underlying 291 = some (.array 32 5):=by kernel_rfl
@[simp] theorem sz292:szOf Tryz.prog 292 = 64:=by kernel_rfl
@[simp] theorem ag292:aggQ Tryz.prog 292 = some true:=by kernel_rfl
@[simp] theorem by292:bytesOf Tryz.prog 292 = 64:=by kernel_rfl
@[simp] theorem zo292:zeroOf Tryz.prog 292 = some (.agg (List.replicate 64 (.int .u8 0))):=by kernel_rfl
@[simp] theorem un292:Tryz.prog.underlying 292 = some (.array 64 5):=by kernel_rfl
@[simp] theorem pl3:plainTy Tryz.prog 50 3 = some ([.i]):=by kernel_rfl
@[simp] theorem eg3:Tryz.prog.eqGuardType Tryz.prog.depth 3 = false:=by kernel_rfl
@[simp] theorem pl4:plainTy Tryz.prog 50 4 = some ([.b]):=by kernel_rfl
@[simp] theorem eg4:Tryz.prog.eqGuardType Tryz.prog.depth 4 = false:=by kernel_rfl
@[simp] theorem pl5:plainTy Tryz.prog 50 5 = some ([.i]):=by kernel_rfl
@[simp] theorem eg5:Tryz.prog.eqGuardType Tryz.prog.depth 5 = false:=by kernel_rfl
@[simp] theorem pl9:plainTy Tryz.prog 50 9 = some ([.s]):=by kernel_rfl
@[simp] theorem eg9:Tryz.prog.eqGuardType Tryz.prog.depth 9 = false:=by kernel_rfl
@[simp] theorem pl21:plainTy Tryz.prog 50 21 = some ([.i]):=by kernel_rfl
@[simp] theorem eg21:Tryz.prog.eqGuardType Tryz.prog.depth 21 = false:=by kernel_rfl
@[simp] theorem pl27:plainTy Tryz.prog 50 27 = some ([.i]):=by kernel_rfl
@[simp] theorem eg27:Tryz.prog.eqGuardType Tryz.prog.depth 27 = false:=by kernel_rfl
@[simp] theorem pl47:plainTy Tryz.prog 50 47 = some ([.i,.i,.i,.i,.i,.i,.i,.i,.i,.i,.i,.i,.i,.i,.i,.i]):=by kernel_rfl
@[simp] theorem eg47:Tryz.prog.eqGuardType Tryz.prog.depth 47 = false:=by kernel_rfl
@[simp] theorem pl94:plainTy Tryz.prog 50 94 = some ([.s,.s]):=by kernel_rfl
@[simp] theorem eg94:Tryz.prog.eqGuardType Tryz.prog.depth 94 = false:=by kernel_rfl
@[simp] theorem pl97:plainTy Tryz.prog 50 97 = some ([.i,.i,.i,.i,.i,.i,.i,.i,.i,.i,.i,.i,.i,.i,.i,.i,.i,.i,.i]):=by kernel_rfl
@[simp] theorem eg97:Tryz.prog.eqGuardType Tryz.prog.depth 97 = false:=by kernel_rfl
@[simp] theorem pl142:plainTy Tryz.prog 50 142 = some ([.i]):=by kernel_rfl
@[simp] theorem eg142:Tryz.prog.eqGuardType Tryz.prog.depth 142 = false:=by kernel_rfl
@[simp] theorem pl248:plainTy Tryz.prog 50 248 = some ([.i]):=by kernel_rfl
@[simp] theorem eg248:Tryz.prog.eqGuardType Tryz.prog.depth 248 = false:=by kernel_rfl
end Go.Ev.S
namespace Go.Proofs
open Go.Shelf
def Tryz.lays169_ren:Go.Shelf.Ren:=⟨fun | 169=>103 | n=>n,fun | 70=>150 | 9=>9 | 0=>0 | 72=>152 | 37=>34 | 127=>190 | 3=>3 | 5=>5 | n=>n,fun | n=>n⟩
theorem Tryz.lays169:Go.Proofs.Lays.n169 Tryz.prog Tryz.lays169_ren:={
 mixed:=by kernel_rfl
 f169:=Tryz.func103.trans (congrArg some (by kernel_rfl))
 t0:=Tryz.underlying0
 a0:=Tryz.isAgg0
 z0:=Tryz.sizeOf0
 v0:=Tryz.zeroValue0
 t3:=Tryz.underlying3
 a3:=Tryz.isAgg3
 z3:=Tryz.sizeOf3
 v3:=Tryz.zeroValue3
 t9:=Tryz.underlying9
 a9:=Tryz.isAgg9
 z9:=Tryz.sizeOf9
 v9:=Tryz.zeroValue9
 t37:=Tryz.underlying34
 a37:=Tryz.isAgg34
 z37:=Tryz.sizeOf34
 v37:=Tryz.zeroValue34
 t70:=Tryz.underlying150
 a70:=Tryz.isAgg150
 z70:=Tryz.sizeOf150
 v70:=Tryz.zeroValue150
 t72:=Tryz.underlying152
 a72:=Tryz.isAgg152
 z72:=Tryz.sizeOf152
 v72:=Tryz.zeroValue152
 t127:=Tryz.underlying190
 a127:=Tryz.isAgg190
 z127:=Tryz.sizeOf190
 v127:=Tryz.zeroValue190 }
theorem Tryz.Builder_Extra_169:Builder.Extra Tryz.prog Tryz.lays169_ren:={
 sizeBuilder:=by kernel_rfl
 liesBuilder:=by kernel_rfl
 t5:=Tryz.underlying5
 a5:=Tryz.isAgg5
 z5:=Tryz.sizeOf5
 v5:=Tryz.zeroValue5
 infoByte:=by kernel_rfl
 cellsByte:=by kernel_rfl
 sizeByte:=by kernel_rfl
 neB5:=by decide }
def Tryz.lays129_ren:Go.Shelf.Ren:=⟨fun | 129=>210 | n=>n,fun | 53=>27 | 3=>3 | 4=>4 | 46=>165 | 5=>5 | 9=>9 | n=>n,fun | n=>n⟩
theorem Tryz.lays129:Go.Proofs.Lays.n129 Tryz.prog Tryz.lays129_ren:={
 mixed:=by kernel_rfl
 f129:=Tryz.func210.trans (congrArg some (by kernel_rfl))
 t3:=Tryz.underlying3
 a3:=Tryz.isAgg3
 z3:=Tryz.sizeOf3
 v3:=Tryz.zeroValue3
 t4:=Tryz.underlying4
 a4:=Tryz.isAgg4
 z4:=Tryz.sizeOf4
 v4:=Tryz.zeroValue4
 t5:=Tryz.underlying5
 a5:=Tryz.isAgg5
 z5:=Tryz.sizeOf5
 v5:=Tryz.zeroValue5
 t9:=Tryz.underlying9
 a9:=Tryz.isAgg9
 z9:=Tryz.sizeOf9
 v9:=Tryz.zeroValue9
 t46:=Tryz.underlying165
 a46:=Tryz.isAgg165
 z46:=Tryz.sizeOf165
 v46:=Tryz.zeroValue165
 t53:=Tryz.underlying27
 a53:=Tryz.isAgg27
 z53:=Tryz.sizeOf27
 v53:=Tryz.zeroValue27 }
def Tryz.lays283_ren:Go.Shelf.Ren:=⟨fun | 283=>189 | n=>n,fun | 3=>3 | 9=>9 | 4=>4 | n=>n,fun | n=>n⟩
theorem Tryz.lays283:Go.Proofs.Lays.n283 Tryz.prog Tryz.lays283_ren:={
 mixed:=by kernel_rfl
 f283:=Tryz.func189.trans (congrArg some (by kernel_rfl))
 t3:=Tryz.underlying3
 a3:=Tryz.isAgg3
 z3:=Tryz.sizeOf3
 v3:=Tryz.zeroValue3
 t4:=Tryz.underlying4
 a4:=Tryz.isAgg4
 z4:=Tryz.sizeOf4
 v4:=Tryz.zeroValue4
 t9:=Tryz.underlying9
 a9:=Tryz.isAgg9
 z9:=Tryz.sizeOf9
 v9:=Tryz.zeroValue9 }
def Tryz.laysM316_ren:Go.Shelf.Ren:=⟨fun | 316=>215 | n=>n,fun | 9=>9 | 3=>3 | 4=>4 | 37=>34 | 0=>0 | 127=>190 | 5=>5 | n=>n,fun | n=>n⟩
theorem Tryz.laysM316:Go.Proofs.LaysM.n316 Tryz.prog Tryz.laysM316_ren:={
 mixed:=by kernel_rfl
 f316:=Tryz.func215.trans (congrArg some (by kernel_rfl))
 t0:=Tryz.underlying0
 a0:=Tryz.isAgg0
 z0:=Tryz.sizeOf0
 v0:=Tryz.zeroValue0
 t3:=Tryz.underlying3
 a3:=Tryz.isAgg3
 z3:=Tryz.sizeOf3
 v3:=Tryz.zeroValue3
 t4:=Tryz.underlying4
 a4:=Tryz.isAgg4
 z4:=Tryz.sizeOf4
 v4:=Tryz.zeroValue4
 t9:=Tryz.underlying9
 a9:=Tryz.isAgg9
 z9:=Tryz.sizeOf9
 v9:=Tryz.zeroValue9
 t37:=Tryz.underlying34
 a37:=Tryz.isAgg34
 z37:=Tryz.sizeOf34
 v37:=Tryz.zeroValue34
 t127:=Tryz.underlying190
 a127:=Tryz.isAgg190
 z127:=Tryz.sizeOf190
 v127:=Tryz.zeroValue190
 t5:=Tryz.underlying5
 a5:=Tryz.isAgg5
 z5:=Tryz.sizeOf5
 v5:=Tryz.zeroValue5
 i0:=by kernel_rfl
 i3:=by kernel_rfl
 i4:=by kernel_rfl
 i5:=by kernel_rfl
 i9:=by kernel_rfl
 i37:=by kernel_rfl
 i127:=by kernel_rfl }
def Tryz.lays219_ren:Go.Shelf.Ren:=⟨fun | 219=>182 | 217=>212 | 225=>213 | 224=>124 | 267=>214 | 266=>226 | 314=>237 | n=>n,fun | 9=>9 | 3=>3 | 4=>4 | 5=>5 | 46=>165 | 146=>199 | 51=>142 | n=>n,fun | 1=>0 | n=>n⟩
theorem Tryz.lays219:Go.Proofs.Lays.n219 Tryz.prog Tryz.lays219_ren:={
 mixed:=by kernel_rfl
 f217:=Tryz.func212.trans (congrArg some (by kernel_rfl))
 f219:=Tryz.func182.trans (congrArg some (by kernel_rfl))
 f224:=Tryz.func124.trans (congrArg some (by kernel_rfl))
 f225:=Tryz.func213.trans (congrArg some (by kernel_rfl))
 f266:=Tryz.func226.trans (congrArg some (by kernel_rfl))
 f267:=Tryz.func214.trans (congrArg some (by kernel_rfl))
 f314:=Tryz.func237.trans (congrArg some (by kernel_rfl))
 t3:=Tryz.underlying3
 a3:=Tryz.isAgg3
 z3:=Tryz.sizeOf3
 v3:=Tryz.zeroValue3
 t4:=Tryz.underlying4
 a4:=Tryz.isAgg4
 z4:=Tryz.sizeOf4
 v4:=Tryz.zeroValue4
 t5:=Tryz.underlying5
 a5:=Tryz.isAgg5
 z5:=Tryz.sizeOf5
 v5:=Tryz.zeroValue5
 t9:=Tryz.underlying9
 a9:=Tryz.isAgg9
 z9:=Tryz.sizeOf9
 v9:=Tryz.zeroValue9
 t46:=Tryz.underlying165
 a46:=Tryz.isAgg165
 z46:=Tryz.sizeOf165
 v46:=Tryz.zeroValue165
 t51:=Tryz.underlying142
 a51:=Tryz.isAgg142
 z51:=Tryz.sizeOf142
 v51:=Tryz.zeroValue142
 t146:=Tryz.underlying199
 a146:=Tryz.isAgg199
 z146:=Tryz.sizeOf199
 v146:=Tryz.zeroValue199
 g1:=by kernel_rfl }
def Tryz.lays185_ren:Go.Shelf.Ren:=⟨fun | 185=>83 | 187=>121 | 115=>122 | 253=>123 | 224=>124 | 254=>125 | 255=>153 | 291=>154 | n=>n,fun | 37=>34 | 3=>3 | 4=>4 | 0=>0 | 5=>5 | 46=>165 | 9=>9 | 146=>199 | 51=>142 | n=>n,fun | 1=>0 | n=>n⟩
theorem Tryz.lays185:Go.Proofs.Lays.n185 Tryz.prog Tryz.lays185_ren:={
 mixed:=by kernel_rfl
 f115:=Tryz.func122.trans (congrArg some (by kernel_rfl))
 f185:=Tryz.func83.trans (congrArg some (by kernel_rfl))
 f187:=Tryz.func121.trans (congrArg some (by kernel_rfl))
 f224:=Tryz.func124.trans (congrArg some (by kernel_rfl))
 f253:=Tryz.func123.trans (congrArg some (by kernel_rfl))
 f254:=Tryz.func125.trans (congrArg some (by kernel_rfl))
 f255:=Tryz.func153.trans (congrArg some (by kernel_rfl))
 f291:=Tryz.func154.trans (congrArg some (by kernel_rfl))
 t0:=Tryz.underlying0
 a0:=Tryz.isAgg0
 z0:=Tryz.sizeOf0
 v0:=Tryz.zeroValue0
 t3:=Tryz.underlying3
 a3:=Tryz.isAgg3
 z3:=Tryz.sizeOf3
 v3:=Tryz.zeroValue3
 t4:=Tryz.underlying4
 a4:=Tryz.isAgg4
 z4:=Tryz.sizeOf4
 v4:=Tryz.zeroValue4
 t5:=Tryz.underlying5
 a5:=Tryz.isAgg5
 z5:=Tryz.sizeOf5
 v5:=Tryz.zeroValue5
 t9:=Tryz.underlying9
 a9:=Tryz.isAgg9
 z9:=Tryz.sizeOf9
 v9:=Tryz.zeroValue9
 t37:=Tryz.underlying34
 a37:=Tryz.isAgg34
 z37:=Tryz.sizeOf34
 v37:=Tryz.zeroValue34
 t46:=Tryz.underlying165
 a46:=Tryz.isAgg165
 z46:=Tryz.sizeOf165
 v46:=Tryz.zeroValue165
 t51:=Tryz.underlying142
 a51:=Tryz.isAgg142
 z51:=Tryz.sizeOf142
 v51:=Tryz.zeroValue142
 t146:=Tryz.underlying199
 a146:=Tryz.isAgg199
 z146:=Tryz.sizeOf199
 v146:=Tryz.zeroValue199
 g1:=by kernel_rfl }
def Tryz.laysM185_ren:Go.Shelf.Ren:=⟨fun | 185=>83 | 187=>121 | 115=>122 | 253=>123 | 224=>124 | 254=>125 | 255=>153 | 291=>154 | n=>n,fun | 37=>34 | 3=>3 | 4=>4 | 0=>0 | 5=>5 | 46=>165 | 9=>9 | 146=>199 | 51=>142 | n=>n,fun | 1=>0 | n=>n⟩
theorem Tryz.laysM185:Go.Proofs.LaysM.n185 Tryz.prog Tryz.laysM185_ren:={
 mixed:=by kernel_rfl
 f115:=Tryz.func122.trans (congrArg some (by kernel_rfl))
 f185:=Tryz.func83.trans (congrArg some (by kernel_rfl))
 f187:=Tryz.func121.trans (congrArg some (by kernel_rfl))
 f224:=Tryz.func124.trans (congrArg some (by kernel_rfl))
 f253:=Tryz.func123.trans (congrArg some (by kernel_rfl))
 f254:=Tryz.func125.trans (congrArg some (by kernel_rfl))
 f255:=Tryz.func153.trans (congrArg some (by kernel_rfl))
 f291:=Tryz.func154.trans (congrArg some (by kernel_rfl))
 t0:=Tryz.underlying0
 a0:=Tryz.isAgg0
 z0:=Tryz.sizeOf0
 v0:=Tryz.zeroValue0
 t3:=Tryz.underlying3
 a3:=Tryz.isAgg3
 z3:=Tryz.sizeOf3
 v3:=Tryz.zeroValue3
 t4:=Tryz.underlying4
 a4:=Tryz.isAgg4
 z4:=Tryz.sizeOf4
 v4:=Tryz.zeroValue4
 t5:=Tryz.underlying5
 a5:=Tryz.isAgg5
 z5:=Tryz.sizeOf5
 v5:=Tryz.zeroValue5
 t9:=Tryz.underlying9
 a9:=Tryz.isAgg9
 z9:=Tryz.sizeOf9
 v9:=Tryz.zeroValue9
 t37:=Tryz.underlying34
 a37:=Tryz.isAgg34
 z37:=Tryz.sizeOf34
 v37:=Tryz.zeroValue34
 t46:=Tryz.underlying165
 a46:=Tryz.isAgg165
 z46:=Tryz.sizeOf165
 v46:=Tryz.zeroValue165
 t51:=Tryz.underlying142
 a51:=Tryz.isAgg142
 z51:=Tryz.sizeOf142
 v51:=Tryz.zeroValue142
 t146:=Tryz.underlying199
 a146:=Tryz.isAgg199
 z146:=Tryz.sizeOf199
 v146:=Tryz.zeroValue199
 g1:=by kernel_rfl
 i0:=by kernel_rfl
 i3:=by kernel_rfl
 i4:=by kernel_rfl
 i5:=by kernel_rfl
 i9:=by kernel_rfl
 i37:=by kernel_rfl
 i46:=by kernel_rfl
 i51:=by kernel_rfl
 i146:=by kernel_rfl
 m1:=by kernel_rfl
 s1_3:=fun w h=>Go.Proofs.cell_of_shapedOpen_int (zero:= #[.int .i64 0]) (t:=3) h (of_decide_eq_true (by kernel_rfl)) (by kernel_rfl) rfl (by kernel_rfl) (by kernel_rfl) Tryz.underlying3 }
end Go.Proofs
namespace Go.Proofs
open Go.Shelf
def Tryz.layD_ren:Go.Shelf.Ren:=⟨fun | 32=>231 | 49=>243 | n=>n,fun | 0=>0 | 3=>3 | 4=>4 | 5=>5 | 21=>21 | 25=>165 | 30=>34 | 33=>273 | 66=>293 | 68=>295 | 69=>296 | n=>n,fun | 2=>6 | 3=>7 | n=>n⟩
set_option maxRecDepth 100000 in
theorem Tryz.layD:Lays7.n32 Tryz.prog Tryz.layD_ren:={
 mixed:=by kernel_rfl
 f32:=Tryz.func231.trans (congrArg some (by kernel_rfl))
 f49:=Tryz.func243.trans (congrArg some (by kernel_rfl))
 t0:=Tryz.underlying0
 a0:=Tryz.isAgg0
 z0:=Tryz.sizeOf0
 v0:=Tryz.zeroValue0
 i0:=by kernel_rfl
 t3:=Tryz.underlying3
 a3:=Tryz.isAgg3
 z3:=Tryz.sizeOf3
 v3:=Tryz.zeroValue3
 i3:=by kernel_rfl
 t4:=Tryz.underlying4
 a4:=Tryz.isAgg4
 z4:=Tryz.sizeOf4
 v4:=Tryz.zeroValue4
 i4:=by kernel_rfl
 t5:=Tryz.underlying5
 a5:=Tryz.isAgg5
 z5:=Tryz.sizeOf5
 v5:=Tryz.zeroValue5
 i5:=by kernel_rfl
 t21:=Tryz.underlying21
 a21:=Tryz.isAgg21
 z21:=Tryz.sizeOf21
 v21:=Tryz.zeroValue21
 i21:=by kernel_rfl
 t25:=Tryz.underlying165
 a25:=Tryz.isAgg165
 z25:=Tryz.sizeOf165
 v25:=Tryz.zeroValue165
 i25:=by kernel_rfl
 t30:=Tryz.underlying34
 a30:=Tryz.isAgg34
 z30:=Tryz.sizeOf34
 v30:=Tryz.zeroValue34
 i30:=by kernel_rfl
 t33:=Tryz.underlying273
 a33:=Tryz.isAgg273
 z33:=Tryz.sizeOf273
 v33:=Tryz.zeroValue273
 i33:=by kernel_rfl
 t66:=Tryz.underlying293
 a66:=Tryz.isAgg293
 z66:=Tryz.sizeOf293
 t68:=Tryz.underlying295
 a68:=Tryz.isAgg295
 z68:=Tryz.sizeOf295
 v68:=Tryz.zeroValue295
 i68:=by kernel_rfl
 t69:=Tryz.underlying296
 a69:=Tryz.isAgg296
 z69:=Tryz.sizeOf296
 v69:=Tryz.zeroValue296
 i69:=by kernel_rfl
 g2:=by kernel_rfl
 g3:=by kernel_rfl }
end Go.Proofs
namespace Go.Ev.S
open Go Go.Proofs Go.Ev
theorem ok_0 [MaxL] [TxtC]:okRange cx 0 40 = true:=by kernel_rfl
theorem ok_40 [MaxL] [TxtC]:okRange cx 40 40 = true:=by kernel_rfl
theorem ok_80 [MaxL] [TxtC]:okRange cx 80 40 = true:=by kernel_rfl
theorem ok_120 [MaxL] [TxtC]:okRange cx 120 40 = true:=by kernel_rfl
theorem ok_160 [MaxL] [TxtC]:okRange cx 160 40 = true:=by kernel_rfl
theorem ok_200 [MaxL] [TxtC]:okRange cx 200 40 = true:=by kernel_rfl
theorem ok_240 [MaxL] [TxtC]:okRange cx 240 37 = true:=by kernel_rfl
theorem fsize:Tryz.prog.funcs.size = 277:=by kernel_rfl
theorem all_ok [MaxL] [TxtC] (f:Nat) (h:f < 277):okOne cx f = true:=by
 rcases Nat.lt_or_ge f 40 with h0 | h0
 ·exact okRange_get ok_0 (by omega) (by omega)
 rcases Nat.lt_or_ge f 80 with h1 | h1
 ·exact okRange_get ok_40 (by omega) (by omega)
 rcases Nat.lt_or_ge f 120 with h2 | h2
 ·exact okRange_get ok_80 (by omega) (by omega)
 rcases Nat.lt_or_ge f 160 with h3 | h3
 ·exact okRange_get ok_120 (by omega) (by omega)
 rcases Nat.lt_or_ge f 200 with h4 | h4
 ·exact okRange_get ok_160 (by omega) (by omega)
 rcases Nat.lt_or_ge f 240 with h5 | h5
 ·exact okRange_get ok_200 (by omega) (by omega)
 exact okRange_get ok_240 (by omega) (by omega)
set_option maxHeartbeats 4000000 in
set_option maxHeartbeats 4000000 in
set_option maxRecDepth 100000 in
theorem good [MaxL] [TxtC] (hT:TxtRun):Good cx where
 mixed:=by kernel_rfl
 okc f fn c hf hc hb:=(okOne_get (all_ok f (by rw [← fsize];exact (Array.getElem?_eq_some_iff.1 hf).1)) hf).2 c hc hb
 ng f fn hf:=(okOne_get (all_ok f (by rw [← fsize];exact (Array.getElem?_eq_some_iff.1 hf).1)) hf).1
 ext f fn args d hf hn h ok w ι H vs hs hv:=by
  by_cases h105:f = 105
  ·subst h105
   rw [ex105] at h
   have hff:=Tryz.func105
   rw [show cx.P.funcs[105]? = Tryz.prog.funcs[105]? from rfl,hff] at hf
   injection hf with hf
   subst hf
   exact cmpExt_run (P:=cx.P) hff rfl (by kernel_rfl) (by kernel_rfl) (by kernel_rfl) h hv
  by_cases h226:f = 226
  ·subst h226
   rw [ex226] at h
   have hff:=Tryz.func226
   rw [show cx.P.funcs[226]? = Tryz.prog.funcs[226]? from rfl,hff] at hf
   injection hf with hf
   subst hf
   exact idxBExt_run (P:=cx.P) hff rfl (by kernel_rfl) (by kernel_rfl) (by kernel_rfl) h hv
  ·have:cx.ext f args = none:=by
    show extT f args = none
    unfold extT
    split
    ·exact absurd rfl h105
    ·exact absurd rfl h226
    ·rfl
   rw [this] at h
   cases h
 con f args H r H' h ok w ι vs hs hv:=by
  by_cases h182:f = 182
  ·subst h182
   rw [co182] at h
   exact conIdx_run (X:=cx) (m:=MaxL.m) Tryz.lays219 rfl h hs hv
  by_cases h83:f = 83
  ·subst h83
   rw [co83] at h
   exact conBIdx_run (X:=cx) (m:=MaxL.m) Tryz.lays185 rfl h hs hv
  by_cases h215:f = 215
  ·subst h215
   rw [co215] at h
   exact conClone_run (X:=cx) Tryz.laysM316 h hs hv
  by_cases h210:f = 210
  ·subst h210
   rw [co210] at h
   exact conLen64_run (X:=cx) Tryz.lays129 h hs hv
  by_cases h189:f = 189
  ·subst h189
   rw [co189] at h
   exact conSmall_run (X:=cx) Tryz.lays283 h hs hv
  by_cases h64:f = 64
  ·subst h64
   rw [co64] at h
   exact hT (f:=64) h hs hv
  by_cases h200:f = 200
  ·subst h200
   rw [co200] at h
   exact hT (f:=200) h hs hv
  by_cases h231:f = 231
  ·subst h231
   rw [co231] at h
   exact conDec_run (X:=cx) Tryz.layD rfl rfl h hs hv
  by_cases h213:f = 213
  ·subst h213
   rw [co213] at h
   exact conIS_run (m:=MaxL.m) (g:=0) Tryz.func213 rfl (by kernel_rfl) (by kernel_rfl) (by kernel_rfl) (by kernel_rfl) rfl h hs hv
  ·have:cx.con f args H = none:=by
    show conT f args H = none
    unfold conT
    split
    ·exact absurd rfl h182
    ·exact absurd rfl h83
    ·exact absurd rfl h215
    ·exact absurd rfl h210
    ·exact absurd rfl h189
    ·exact absurd rfl h64
    ·exact absurd rfl h200
    ·exact absurd rfl h231
    ·exact absurd rfl h213
    ·rfl
   rw [this] at h
   cases h
end Go.Ev.S
namespace Go.Ev.S
open Go Go.Proofs Go.Ev
theorem globs [MaxL] [TxtC] {W:World} (h:laidMet Tryz.prog YtkfojmihnjnhfaaGreatDoor.Rows.recvPlaysRow.laid W) (hm0:W.cell? ⟨0,0,none⟩ = some (.int .i64 MaxL.m)):∀ g cs,cx.glob g = some cs→Rep (· < W.heap.size) W iota0 [] (.vptr cs) (.pointer (some ⟨g,0,none⟩)):=by
 unfold YtkfojmihnjnhfaaGreatDoor.Rows.recvPlaysRow at h
 have hu8:Lib.Utf8Tabs 6 7 W:=by
  obtain ⟨ps0,hl0,_⟩:=h
  have x3:=Lib.LaidVars_reads hl0 _ _ (List.mem_of_getElem? (i:=6) rfl)
  have x4:=Lib.LaidVars_reads hl0 _ _ (List.mem_of_getElem? (i:=3) rfl)
  have e3:YtkfojmihnjnhfaaGreatDoor.Rows.laid_unicode_utf8_first = Lib.firstData:=by kernel_rfl
  have e4:YtkfojmihnjnhfaaGreatDoor.Rows.laid_unicode_utf8_acceptRanges = Lib.acceptData:=by kernel_rfl
  rw [e3] at x3
  rw [e4] at x4
  exact utf8Tabs_of_readsT (ρ:=(⟨fun n=>n,fun | 5=>5 | 119=>293 | 138=>295 | 139=>296 | n=>n,fun | 3=>6 | 4=>7 | n=>n⟩:Go.Shelf.Ren)) ⟨Tryz.underlying5,Tryz.underlying293,Tryz.underlying295,Tryz.underlying296⟩ ⟨by kernel_rfl,by kernel_rfl,by kernel_rfl,by kernel_rfl,by kernel_rfl,by kernel_rfl,by kernel_rfl⟩ x3 x4
 have tu8:=rep_u8 hu8
 have t4:=rep_tab (g:=4) (zs:=gz4) (Lib.tabIs_of_head (g:=4) (t:=291) (e:=5) (n:=32) (k:=.u8) (by kernel_rfl) (by kernel_rfl) (by kernel_rfl) (by kernel_rfl) (by kernel_rfl) (by kernel_rfl) h) (by kernel_rfl)
 replace h:=h.tail
 have t5:=rep_tab (g:=5) (zs:=gz5) (Lib.tabIs_of_head (g:=5) (t:=292) (e:=5) (n:=64) (k:=.u8) (by kernel_rfl) (by kernel_rfl) (by kernel_rfl) (by kernel_rfl) (by kernel_rfl) (by kernel_rfl) h) (by kernel_rfl)
 replace h:=h.tail
 have t3:=rep_tab (g:=3) (zs:=gz3) (Lib.tabIs_of_head (g:=3) (t:=261) (e:=27) (n:=20) (k:=.u64) (by kernel_rfl) (by kernel_rfl) (by kernel_rfl) (by kernel_rfl) (by kernel_rfl) (by kernel_rfl) h) (by kernel_rfl)
 replace h:=h.tail
 replace h:=h.tail
 have t2 := rep_err (g := 2) (text := gs2) (by kernel_rfl) (laid_sentinel (g := 2) (ti := 158) (tp := 281) (te := 283) (ts := 9) h (by kernel_rfl) (by kernel_rfl) Tryz.underlying158 (err_row (base := "errors.errorString") (by decide) (by kernel_rfl) (by kernel_rfl) (by decide)) Tryz.underlying281 Tryz.underlying283 rfl rfl (by kernel_rfl) (by kernel_rfl) (by kernel_rfl))
 replace h:=h.tail
 have t1 := rep_err (g := 1) (text := gs1) (by kernel_rfl) (laid_sentinel (g := 1) (ti := 158) (tp := 281) (te := 283) (ts := 9) h (by kernel_rfl) (by kernel_rfl) Tryz.underlying158 (err_row (base := "errors.errorString") (by decide) (by kernel_rfl) (by kernel_rfl) (by decide)) Tryz.underlying281 Tryz.underlying283 rfl rfl (by kernel_rfl) (by kernel_rfl) (by kernel_rfl))
 replace h:=h.tail
 intro g cs hg
 have hgl:globT g = some cs:=hg
 unfold globT at hgl
 split at hgl
 ·cases hgl;exact t1
 ·cases hgl;exact t2
 ·cases hgl;exact t3
 ·cases hgl;exact t4
 ·cases hgl;exact t5
 ·cases hgl;exact rep_one hm0
 ·cases hgl;exact tu8.1
 ·cases hgl;exact tu8.2
 ·cases hgl
end Go.Ev.S
namespace Go.Ev
open Go Go.Proofs
structure ID where
 l:List UInt8
 h:l.length = 16
 deriving DecidableEq
@[simp] theorem ID.len (i:ID):i.l.length = 16:=i.h
theorem ID.ext' {a b:ID} (h:a.l = b.l):a = b:=by cases a;cases b;simp at h;subst h;rfl
instance:Enc ID:=⟨16,fun i=>ofBytes i.l,fun i=>by simp,fun i=>by simp⟩
theorem ID.cells (i:ID):Enc.cells i = ofBytes i.l:=rfl
def ID.zero:ID:=⟨List.replicate 16 0,by simp⟩
theorem cellsEq_bytes:∀ (x y:List UInt8),x.length = y.length→cellsEq (List.replicate x.length .i) (ofBytes x) (ofBytes y) = some (x == y)
 | [],[],_=>rfl
 | a :: x,b :: y,h=>by
  have ih:=cellsEq_bytes x y (by simpa using h)
  simp only [List.length_cons,List.replicate_succ,ofBytes,List.map_cons,cellsEq,cellEq]
  simp only [ofBytes] at ih
  rw [ih]
  have:((a.toNat:Int) == (b.toNat:Int)) = (a == b):=by
   rw [Bool.eq_iff_iff]
   simp only [beq_iff_eq,Int.natCast_inj]
   exact ⟨fun h=>UInt8.toNat_inj.1 h,fun h=>by rw [h]⟩
  simp [this]
 | [],_ :: _,h=>by simp at h
 | _ :: _,[],h=>by simp at h
theorem cellsEq_app:∀ (k1 k2:List CK) (a1 a2 b1 b2:List D),k1.length = a1.length→k1.length = b1.length→cellsEq (k1 ++ k2) (a1 ++ a2) (b1 ++ b2) = match cellsEq k1 a1 b1,cellsEq k2 a2 b2 with
  | some x,some y=>some (x && y)
  | _,_=>none
 | [],k2,[],a2,[],b2,_,_=>by
  simp only [List.nil_append,cellsEq]
  cases cellsEq k2 a2 b2 <;> simp
 | k :: k1,k2,a :: a1,a2,b :: b1,b2,h1,h2=>by
  simp only [List.cons_append,cellsEq,cellsEq_app k1 k2 a1 a2 b1 b2 (by simpa using h1) (by simpa using h2)]
  cases cellEq k a b <;> cases cellsEq k1 a1 b1 <;> cases cellsEq k2 a2 b2 <;> simp [Bool.and_assoc]
 | [],_,_ :: _,_,_,_,h,_=>by simp at h
 | [],_,[],_,_ :: _,_,_,h=>by simp at h
 | _ :: _,_,[],_,_,_,h,_=>by simp at h
 | _ :: _,_,_ :: _,_,[],_,_,h=>by simp at h
@[simp] theorem cellsEq16 (x y:ID):cellsEq [.i,.i,.i,.i,.i,.i,.i,.i,.i,.i,.i,.i,.i,.i,.i,.i] (ofBytes x.l) (ofBytes y.l) = some (x == y):=by
 have:=cellsEq_bytes x.l y.l (by simp)
 rw [x.h] at this
 have e:(x.l == y.l) = (x == y):=by
  rw [Bool.eq_iff_iff]
  simp only [beq_iff_eq]
  exact ⟨ID.ext',fun h=>by rw [h]⟩
 rw [e] at this
 exact this
structure Mk where
 id:ID
 seq:Int
 lost:Int
 over:Int
 deriving DecidableEq
def isU64 (n:Int):Prop:=0≤n∧n < 18446744073709551616
structure Mk.Ok (m:Mk):Prop where
 seq:isU64 m.seq
 lost:isU64 m.lost
 over:isU64 m.over
def Mk.tl (m:Mk):List D:=[.int .u64 m.seq,.int .u64 m.lost,.int .u64 m.over]
instance:Enc Mk:=⟨19,fun m=>ofBytes m.id.l ++ m.tl,fun m=>by simp [Mk.tl],fun m=>by simp [Mk.tl,idFree]⟩
theorem Mk.cells (m:Mk):Enc.cells m = ofBytes m.id.l ++ [.int .u64 m.seq,.int .u64 m.lost,.int .u64 m.over]:=rfl
@[simp] theorem Mk.size:Enc.size Mk = 19:=rfl
@[simp] theorem ID.size:Enc.size ID = 16:=rfl
@[simp] theorem Mk.cl (a:Mk):(Enc.cells a).length = 19:=Enc.len a
@[simp] theorem Mk.ct (a:Mk) (r:List D):(Enc.cells a ++ r).take 19 = Enc.cells a:=cells_take rfl a r
@[simp] theorem Mk.ct' (a:Mk):(Enc.cells a).take 19 = Enc.cells a:=cells_take' rfl a
@[simp] theorem Mk.cd (a:Mk) (r:List D):(Enc.cells a ++ r).drop 19 = r:=cells_drop rfl a r
@[simp] theorem Mk.el (l:List Mk):(encs l).length = l.length * 19:=encs_len' rfl l
@[simp] theorem Mk.ed (l:List Mk) (i:Nat):(encs l).drop (i * 19) = encs (l.drop i):=encs_drop rfl l i
@[simp] theorem Mk.et (l:List Mk) (i:Nat):(encs l).take (i * 19) = encs (l.take i):=encs_take rfl l i
@[simp high] theorem Mk.ea {l:List Mk} {i:Nat} (h:i < l.length):(encs l).drop (i * 19) = Enc.cells l[i] ++ encs (l.drop (i+1)):=encs_at rfl h
@[simp high] theorem Mk.es (m:Mk) {l:List Mk} {j:Nat} (h:j < l.length):setRange (encs l) (j * 19) (Enc.cells m) = encs (l.set j m):=encs_set rfl m l h
theorem drop_bytes {s:List UInt8} {n:Nat} (h:s.length≤n):(ofBytes s).drop n = []:=List.drop_eq_nil_of_le (by simpa using h)
@[simp] theorem Mk.t16 (m:Mk):(Enc.cells m).take 16 = ofBytes m.id.l:=by simp [Mk.cells]
@[simp] theorem Mk.t16' (m:Mk) (r:List D):(Enc.cells m ++ r).take 16 = ofBytes m.id.l:=by simp [Mk.cells]
@[simp] theorem Mk.d16 (m:Mk):(Enc.cells m).drop 16 = [.int .u64 m.seq,.int .u64 m.lost,.int .u64 m.over]:=by simp [Mk.cells]
@[simp] theorem Mk.d17 (m:Mk):(Enc.cells m).drop 17 = [.int .u64 m.lost,.int .u64 m.over]:=by simp [Mk.cells,List.drop_append,drop_bytes]
@[simp] theorem Mk.d18 (m:Mk):(Enc.cells m).drop 18 = [.int .u64 m.over]:=by simp [Mk.cells,List.drop_append,drop_bytes]
@[simp] theorem Mk.d16' (m:Mk) (r:List D):(Enc.cells m ++ r).drop 16 = [.int .u64 m.seq,.int .u64 m.lost,.int .u64 m.over] ++ r:=by simp [Mk.cells]
@[simp] theorem Mk.d17' (m:Mk) (r:List D):(Enc.cells m ++ r).drop 17 = [.int .u64 m.lost,.int .u64 m.over] ++ r:=by simp [Mk.cells,List.drop_append,drop_bytes]
@[simp] theorem Mk.d18' (m:Mk) (r:List D):(Enc.cells m ++ r).drop 18 = [.int .u64 m.over] ++ r:=by simp [Mk.cells,List.drop_append,drop_bytes]
@[simp] theorem Mk.g16 (m:Mk) (h):(Enc.cells m)[16]'h = .int .u64 m.seq:=by simp [Mk.cells]
@[simp] theorem Mk.g17 (m:Mk) (h):(Enc.cells m)[17]'h = .int .u64 m.lost:=by simp [Mk.cells]
@[simp] theorem Mk.g18 (m:Mk) (h):(Enc.cells m)[18]'h = .int .u64 m.over:=by simp [Mk.cells]
@[simp] theorem Mk.s16 (m:Mk) (x:Int):setRange (Enc.cells m) 16 [.int .u64 x] = Enc.cells { m with seq:=x }:=by simp [Mk.cells,List.drop_append,drop_bytes]
@[simp] theorem Mk.s17 (m:Mk) (x:Int):setRange (Enc.cells m) 17 [.int .u64 x] = Enc.cells { m with lost:=x }:=by simp [Mk.cells,List.take_append,List.drop_append,drop_bytes,List.take_of_length_le]
@[simp] theorem Mk.s18 (m:Mk) (x:Int):setRange (Enc.cells m) 18 [.int .u64 x] = Enc.cells { m with over:=x }:=by simp [Mk.cells,List.take_append,List.drop_append,drop_bytes,List.take_of_length_le]
end Go.Ev
namespace Go.Ev
open Go Go.Proofs
structure Pr where
 name:List UInt8
 value:List UInt8
 deriving DecidableEq
instance:Enc Pr:=⟨2,fun p=>[.str p.name,.str p.value],fun _=>rfl,fun _=>rfl⟩
theorem Pr.cells (p:Pr):Enc.cells p = [.str p.name,.str p.value]:=rfl
@[simp] theorem Pr.size:Enc.size Pr = 2:=rfl
@[simp] theorem Pr.cl (a:Pr):(Enc.cells a).length = 2:=Enc.len a
@[simp] theorem Pr.ct (a:Pr) (r:List D):(Enc.cells a ++ r).take 2 = Enc.cells a:=cells_take rfl a r
@[simp] theorem Pr.ct' (a:Pr):(Enc.cells a).take 2 = Enc.cells a:=cells_take' rfl a
@[simp] theorem Pr.cd (a:Pr) (r:List D):(Enc.cells a ++ r).drop 2 = r:=cells_drop rfl a r
@[simp] theorem Pr.el (l:List Pr):(encs l).length = l.length * 2:=encs_len' rfl l
@[simp] theorem Pr.ed (l:List Pr) (i:Nat):(encs l).drop (i * 2) = encs (l.drop i):=encs_drop rfl l i
@[simp] theorem Pr.et (l:List Pr) (i:Nat):(encs l).take (i * 2) = encs (l.take i):=encs_take rfl l i
@[simp high] theorem Pr.ea {l:List Pr} {i:Nat} (h:i < l.length):(encs l).drop (i * 2) = Enc.cells l[i] ++ encs (l.drop (i+1)):=encs_at rfl h
@[simp high] theorem Pr.es (m:Pr) {l:List Pr} {j:Nat} (h:j < l.length):setRange (encs l) (j * 2) (Enc.cells m) = encs (l.set j m):=encs_set rfl m l h
structure Rec where
 seq:Int
 real:Int
 mono:Int
 boot:ID
 fields:Sl Pr
instance:Enc Rec:=⟨20,fun r=>[.int .u64 r.seq,.int .u64 r.real,.int .u64 r.mono] ++ (ofBytes r.boot.l ++ [(.vsl r.fields.nil (encs r.fields.l) r.fields.l.length)]),fun r=>by simp,fun r=>by simp [idFree]⟩
theorem Rec.cells (r:Rec):Enc.cells r = [.int .u64 r.seq,.int .u64 r.real,.int .u64 r.mono] ++ (ofBytes r.boot.l ++ [(.vsl r.fields.nil (encs r.fields.l) r.fields.l.length)]):=rfl
@[simp] theorem Rec.size:Enc.size Rec = 20:=rfl
structure Rec.Ok (r:Rec):Prop where
 seq:isU64 r.seq
 real:isU64 r.real
 mono:isU64 r.mono
@[simp] theorem Rec.cl (a:Rec):(Enc.cells a).length = 20:=Enc.len a
@[simp] theorem Rec.ct (a:Rec) (r:List D):(Enc.cells a ++ r).take 20 = Enc.cells a:=cells_take rfl a r
@[simp] theorem Rec.ct' (a:Rec):(Enc.cells a).take 20 = Enc.cells a:=cells_take' rfl a
@[simp] theorem Rec.cd (a:Rec) (r:List D):(Enc.cells a ++ r).drop 20 = r:=cells_drop rfl a r
@[simp] theorem Rec.el (l:List Rec):(encs l).length = l.length * 20:=encs_len' rfl l
@[simp] theorem Rec.ed (l:List Rec) (i:Nat):(encs l).drop (i * 20) = encs (l.drop i):=encs_drop rfl l i
@[simp] theorem Rec.et (l:List Rec) (i:Nat):(encs l).take (i * 20) = encs (l.take i):=encs_take rfl l i
@[simp high] theorem Rec.ea {l:List Rec} {i:Nat} (h:i < l.length):(encs l).drop (i * 20) = Enc.cells l[i] ++ encs (l.drop (i+1)):=encs_at rfl h
@[simp high] theorem Rec.es (m:Rec) {l:List Rec} {j:Nat} (h:j < l.length):setRange (encs l) (j * 20) (Enc.cells m) = encs (l.set j m):=encs_set rfl m l h
structure It where
 id:ID
 gap:Bool
 fr:Int
 til:Int
 rc:Rec
instance:Enc It:=⟨39,fun i=>ofBytes i.id.l ++ ([.bool i.gap,.int .u64 i.fr,.int .u64 i.til] ++ Enc.cells i.rc),fun i=>by simp,fun i=>by simp [idFree]⟩
theorem It.cells (i:It):Enc.cells i = ofBytes i.id.l ++ ([.bool i.gap,.int .u64 i.fr,.int .u64 i.til] ++ ([.int .u64 i.rc.seq,.int .u64 i.rc.real,.int .u64 i.rc.mono] ++ (ofBytes i.rc.boot.l ++ [(.vsl i.rc.fields.nil (encs i.rc.fields.l) i.rc.fields.l.length)]))):=rfl
@[simp] theorem It.size:Enc.size It = 39:=rfl
structure It.Ok (i:It):Prop where
 fr:isU64 i.fr
 til:isU64 i.til
 rc:i.rc.Ok
@[simp] theorem It.cl (a:It):(Enc.cells a).length = 39:=Enc.len a
@[simp] theorem It.ct (a:It) (r:List D):(Enc.cells a ++ r).take 39 = Enc.cells a:=cells_take rfl a r
@[simp] theorem It.ct' (a:It):(Enc.cells a).take 39 = Enc.cells a:=cells_take' rfl a
@[simp] theorem It.cd (a:It) (r:List D):(Enc.cells a ++ r).drop 39 = r:=cells_drop rfl a r
@[simp] theorem It.el (l:List It):(encs l).length = l.length * 39:=encs_len' rfl l
@[simp] theorem It.ed (l:List It) (i:Nat):(encs l).drop (i * 39) = encs (l.drop i):=encs_drop rfl l i
@[simp] theorem It.et (l:List It) (i:Nat):(encs l).take (i * 39) = encs (l.take i):=encs_take rfl l i
@[simp high] theorem It.ea {l:List It} {i:Nat} (h:i < l.length):(encs l).drop (i * 39) = Enc.cells l[i] ++ encs (l.drop (i+1)):=encs_at rfl h
@[simp high] theorem It.es (m:It) {l:List It} {j:Nat} (h:j < l.length):setRange (encs l) (j * 39) (Enc.cells m) = encs (l.set j m):=encs_set rfl m l h
@[simp] theorem It.t16 (i:It):(Enc.cells i).take 16 = ofBytes i.id.l:=by simp [It.cells]
@[simp] theorem It.t16' (i:It) (r:List D):(Enc.cells i ++ r).take 16 = ofBytes i.id.l:=by simp [It.cells]
@[simp] theorem It.d16 (i:It):(Enc.cells i).drop 16 = .bool i.gap :: .int .u64 i.fr :: .int .u64 i.til :: .int .u64 i.rc.seq :: .int .u64 i.rc.real :: .int .u64 i.rc.mono :: (ofBytes i.rc.boot.l ++ [(.vsl i.rc.fields.nil (encs i.rc.fields.l) i.rc.fields.l.length)]):=by simp [It.cells]
@[simp] theorem It.d17 (i:It):(Enc.cells i).drop 17 = .int .u64 i.fr :: .int .u64 i.til :: .int .u64 i.rc.seq :: .int .u64 i.rc.real :: .int .u64 i.rc.mono :: (ofBytes i.rc.boot.l ++ [(.vsl i.rc.fields.nil (encs i.rc.fields.l) i.rc.fields.l.length)]):=by simp [It.cells,List.drop_append,drop_bytes]
@[simp] theorem It.d18 (i:It):(Enc.cells i).drop 18 = .int .u64 i.til :: .int .u64 i.rc.seq :: .int .u64 i.rc.real :: .int .u64 i.rc.mono :: (ofBytes i.rc.boot.l ++ [(.vsl i.rc.fields.nil (encs i.rc.fields.l) i.rc.fields.l.length)]):=by simp [It.cells,List.drop_append,drop_bytes]
@[simp] theorem It.d19 (i:It):(Enc.cells i).drop 19 = .int .u64 i.rc.seq :: .int .u64 i.rc.real :: .int .u64 i.rc.mono :: (ofBytes i.rc.boot.l ++ [(.vsl i.rc.fields.nil (encs i.rc.fields.l) i.rc.fields.l.length)]):=by simp [It.cells,List.drop_append,drop_bytes]
@[simp] theorem It.d20 (i:It):(Enc.cells i).drop 20 = .int .u64 i.rc.real :: .int .u64 i.rc.mono :: (ofBytes i.rc.boot.l ++ [(.vsl i.rc.fields.nil (encs i.rc.fields.l) i.rc.fields.l.length)]):=by simp [It.cells,List.drop_append,drop_bytes]
@[simp] theorem It.d21 (i:It):(Enc.cells i).drop 21 = .int .u64 i.rc.mono :: (ofBytes i.rc.boot.l ++ [(.vsl i.rc.fields.nil (encs i.rc.fields.l) i.rc.fields.l.length)]):=by simp [It.cells,List.drop_append,drop_bytes]
@[simp] theorem It.d22 (i:It):(Enc.cells i).drop 22 = ofBytes i.rc.boot.l ++ [(.vsl i.rc.fields.nil (encs i.rc.fields.l) i.rc.fields.l.length)]:=by simp [It.cells,List.drop_append,drop_bytes]
@[simp] theorem It.d38 (i:It):(Enc.cells i).drop 38 = [(.vsl i.rc.fields.nil (encs i.rc.fields.l) i.rc.fields.l.length)]:=by simp [It.cells,List.drop_append,drop_bytes]
end Go.Ev
namespace Go.Ev
open Go Go.Proofs
def leN:List UInt8→Nat
 | []=>0
 | b :: l=>b.toNat+256 * leN l
def leB:Nat→Nat→List UInt8
 | 0,_=>[]
 | n+1,v=>UInt8.ofNat (v % 256) :: leB n (v / 256)
@[simp] theorem leB_len:∀ (n v:Nat),(leB n v).length = n
 | 0,_=>rfl
 | n+1,v=>by simp [leB,leB_len n]
theorem leN_lt:∀ (l:List UInt8),leN l < 256 ^ l.length
 | []=>by simp [leN]
 | b :: l=>by
  have h1:=leN_lt l
  have h2:=b.toNat_lt
  simp only [leN,List.length_cons,Nat.pow_succ]
  omega
theorem leB_snoc:∀ (n v:Nat),leB (n+1) v = leB n v ++ [UInt8.ofNat (v / 256 ^ n % 256)]
 | 0,v=>by simp [leB]
 | n+1,v=>by
  rw [leB,leB_snoc n (v / 256),leB,List.cons_append,Nat.div_div_eq_div_mul,Nat.pow_succ,Nat.mul_comm 256]
theorem ofBytes_append (a b:List UInt8):ofBytes (a ++ b) = ofBytes a ++ ofBytes b:=by simp [ofBytes]
theorem ofBytes_cons (a:UInt8) (b:List UInt8):ofBytes (a :: b) = .int .u8 (a.toNat:Int) :: ofBytes b:=rfl
theorem ofBytes_drop (l:List UInt8) (i:Nat):(ofBytes l).drop i = ofBytes (l.drop i):=by simp [ofBytes]
theorem ofBytes_take (l:List UInt8) (i:Nat):(ofBytes l).take i = ofBytes (l.take i):=by simp [ofBytes]
theorem ofBytes_at {l:List UInt8} {i:Nat} (h:i < l.length):(ofBytes l).drop i = .int .u8 (l[i].toNat:Int) :: ofBytes (l.drop (i+1)):=by
 rw [ofBytes_drop,List.drop_eq_getElem_cons h,ofBytes_cons]
theorem ofBytes_get {l:List UInt8} {i:Nat} (h:i < (ofBytes l).length):(ofBytes l)[i] = .int .u8 ((l[i]'(by simpa using h)).toNat:Int):=by simp [ofBytes]
@[simp] theorem bytesD_of (s:List UInt8):bytesD (ofBytes s) = some s:=by
 induction s with
 | nil=>rfl
 | cons a s ih =>
  have:bytesD (ofBytes (a :: s)) = (bytesD (ofBytes s)).map fun r=>UInt8.ofNat ((a.toNat:Int)).toNat :: r:=rfl
  rw [this,ih]
  simp
theorem or_shl (x y:Nat) (h:y < 256):(x * 256) ||| y = x * 256+y:=by
 have:=Nat.shiftLeft_add_eq_or_of_lt (b:=y) (i:=8) (by simpa using h) x
 rw [Nat.shiftLeft_eq] at this
 simpa using this.symm
def BufE {α:Type} [Enc α] (n:Nat) (d:D) (H:Heap) (l:List α):Prop:=(d = .vsl true [] 0∧l = []∧H = [])∨(d = .osl 0 (l.length * n) 0 l.length n∧H = [some (encs l)]∧l≠[])
theorem BufE.one {α:Type} [Enc α] {n:Nat} (a:α):BufE n (.osl 0 n 0 1 n) [some (Enc.cells a)] ([] ++ [a]) :=
 .inr ⟨by simp,by simp [encs_one],by simp⟩
def Sl.grown {α:Type} (l:List α):Sl α:=⟨l.isEmpty,l,by simp⟩
@[simp] theorem Sl.grown_l {α:Type} (l:List α):(Sl.grown l).l = l:=rfl
end Go.Ev
namespace Go.Ev
open Go Go.Proofs
section
variable {P:Program} {n:Nat} {t e:TypeId} {cs:List D}
theorem has_int {k:IntKind} (hu:P.underlying t = some (.int k)) (h:HasT P (n+1) t cs):∃ x,cs = [.int k x]∧(Lit.int k x).wf = true:=by
 unfold HasT at h;rw [hu] at h;exact h
def isI64 (n:Int):Prop:= -9223372036854775808≤n∧n < 9223372036854775808
theorem has_i64 (hu:P.underlying t = some (.int .i64)) (h:HasT P (n+1) t cs):∃ x,cs = [.int .i64 x]∧isI64 x:=by
 obtain ⟨x,h1,h2⟩:=has_int hu h
 refine ⟨x,h1,?_⟩
 simp [Lit.wf,IntKind.min,IntKind.max,IntKind.signed,IntKind.bits] at h2
 unfold isI64
 omega
theorem has_u8 (hu:P.underlying t = some (.int .u8)) (h:HasT P (n+1) t cs):∃ x:UInt8,cs = [.int .u8 x.toNat]:=by
 obtain ⟨x,h1,h2⟩:=has_int hu h
 simp [Lit.wf,IntKind.min,IntKind.max,IntKind.signed,IntKind.bits] at h2
 refine ⟨UInt8.ofNat x.toNat,?_⟩
 rw [h1,UInt8.toNat_ofNat_of_lt' (by simp;omega)]
 congr 2
 omega
theorem rows_bytes {e:TypeId} (hu:P.underlying e = some (.int .u8)):∀ (ls:List (List D)),(∀ l,l∈ls→l.length = P.cellsOf e∧HasT P (n+1) e l)→∃ s:List UInt8,ls.flatten = ofBytes s∧s.length = ls.length
 | [],_=>⟨[],rfl,rfl⟩
 | l :: ls,h=>by
  obtain ⟨x,hx⟩:=has_u8 hu (h l (List.mem_cons_self ..)).2
  obtain ⟨s,h1,h2⟩:=rows_bytes hu ls fun l' hl=>h l' (List.mem_cons_of_mem _ hl)
  exact ⟨x :: s,by rw [List.flatten_cons,hx,h1];rfl,by simp [h2]⟩
theorem has_bytes (hu:P.underlying t = some (.slice e)) (he:P.underlying e = some (.int .u8)) (h:HasT P (n+2) t cs):∃ s:Sl UInt8,cs = [(.vsl s.nil (ofBytes s.l) s.l.length)]∧s.l.length≤maxLen:=by
 unfold HasT at h
 rw [hu] at h
 rcases h with rfl | ⟨ls,h1,h2,h3⟩
 ·exact ⟨.none,rfl,by simp⟩
 ·obtain ⟨s,s1,s2⟩:=rows_bytes he ls h3
  exact ⟨.of s,by rw [h1,s1,← s2];rfl,by simp only [Sl.of_l];omega⟩
theorem rows_enc {α:Type} [Enc α] {R:α→Prop} {Q:List D→Prop} (hel:∀ l,Q l→∃ a:α,l = Enc.cells a∧R a):∀ (ls:List (List D)),(∀ l,l∈ls→Q l)→∃ s:List α,ls.flatten = encs s∧s.length = ls.length∧∀ a,a∈s→R a
 | [],_=>⟨[],rfl,rfl,by simp⟩
 | l :: ls,h=>by
  obtain ⟨x,hx,hr⟩:=hel l (h l (List.mem_cons_self ..))
  obtain ⟨s,h1,h2,h3⟩:=rows_enc hel ls fun l' hl=>h l' (List.mem_cons_of_mem _ hl)
  refine ⟨x :: s,by rw [List.flatten_cons,hx,h1,encs_cons],by simp [h2],fun a ha=>?_⟩
  rcases List.mem_cons.1 ha with rfl | ha
  ·exact hr
  ·exact h3 a ha
theorem has_slice {α:Type} [Enc α] {R:α→Prop} (hu:P.underlying t = some (.slice e)) (hel:∀ l,HasT P n e l→∃ a:α,l = Enc.cells a∧R a) (h:HasT P (n+1) t cs):∃ s:Sl α,cs = [(.vsl s.nil (encs s.l) s.l.length)]∧s.l.length≤maxLen∧∀ a,a∈s.l→R a:=by
 unfold HasT at h
 rw [hu] at h
 rcases h with rfl | ⟨ls,h1,h2,h3⟩
 ·exact ⟨.none,rfl,by simp,by simp⟩
 ·obtain ⟨s,s1,s2,s3⟩:=rows_enc hel ls fun l hl=>(h3 l hl).2
  exact ⟨.of s,by rw [h1,s1,← s2];rfl,by simp only [Sl.of_l];omega,s3⟩
theorem has_struct {fs:Array Field} (hu:P.underlying t = some (.struct fs)) (h:HasT P (n+1) t cs):HasFs P (HasT P n) fs.toList cs:=by
 unfold HasT at h;rw [hu] at h;exact h
end
theorem cor_val {W:World} {d:D} {v:Value} (h:Cor W [d] v.cells.toList) (ho:v.oneCell' = true):Rep (· < W.heap.size) W iota0 [] d v:=by
 have hv:v.cells.toList = [v]:=by
  cases v <;> first | rfl | simp [Value.oneCell'] at ho
 rw [hv] at h
 exact h.2.2 0 d rfl
end Go.Ev
namespace Go.Ev
open Go Go.Proofs
theorem one_slice {P:Program} {W:World} {base:Nat} {t e:TypeId} {v:Value} (hu:P.underlying t = some (.slice e)) (h:Value.okWide P W .any base t v):v.oneCell' = true:=by
 simp only [Value.okWide,hu,Cell.okWide] at h
 cases v <;> first | rfl | simp [Cell.ok,hu] at h
theorem one_int {P:Program} {W:World} {base:Nat} {t:TypeId} {k:IntKind} {v:Value} (hu:P.underlying t = some (.int k)) (h:Value.okWide P W .any base t v):v.oneCell' = true:=by
 simp only [Value.okWide,hu,Cell.okWide] at h
 cases v <;> first | rfl | simp [Cell.ok,hu] at h
section
variable {H:Type} {enc:TypeId × Value→H} {P:Program} {W:World} {base n:Nat} {t e:TypeId} {v:Value} {d:DataW H} {ps:List MemPlace}
theorem arg_slice {α:Type} [Enc α] {R:α→Prop} (hu:P.underlying t = some (.slice e)) (hel:∀ l,HasT P n e l→∃ a:α,l = Enc.cells a∧R a) (hp:PlainT P (n+1) t = true) (hv:Value.okWide P W .any base t v) (h:DataW.Trod enc P W 0 (fun _=>true) true t v d ps) :
  ∃ s:Sl α,Rep (· < W.heap.size) W iota0 [] (.vsl s.nil (encs s.l) s.l.length) v∧s.l.length≤maxLen∧∀ a,a∈s.l→R a:=by
 obtain ⟨ds,h1,h2⟩:=read_plain hp h
 obtain ⟨s,rfl,hl,hr⟩:=has_slice hu hel h1
 exact ⟨s,cor_val h2 (one_slice hu hv),hl,hr⟩
theorem arg_i64 (hu:P.underlying t = some (.int .i64)) (hp:PlainT P (n+1) t = true) (hv:Value.okWide P W .any base t v) (h:DataW.Trod enc P W 0 (fun _=>true) true t v d ps):∃ b,Rep (· < W.heap.size) W iota0 [] (.int .i64 b) v∧isI64 b:=by
 obtain ⟨ds,h1,h2⟩:=read_plain hp h
 obtain ⟨b,rfl,hb⟩:=has_i64 hu h1
 exact ⟨b,cor_val h2 (one_int hu hv),hb⟩
end
theorem repL_nil' {ok:Nat→Prop} {w:World} {ι:Iota} {H:Heap}:RepL ok w ι H [] []:=⟨rfl,by simp⟩
theorem repL_cons' {ok:Nat→Prop} {w:World} {ι:Iota} {H:Heap} {d:D} {v:Value} {ds:List D} {vs:List Value} (h:Rep ok w ι H d v) (hs:RepL ok w ι H ds vs):RepL ok w ι H (d :: ds) (v :: vs):=by
 refine ⟨by simp [hs.1],fun j x hj=>?_⟩
 cases j with
 | zero=>simp at hj;subst hj;exact h
 | succ j=>exact hs.2 j x (by simpa using hj)
def Rec.Fit (r:Rec):Prop:=r.fields.l.length≤maxLen∧∀ p,p∈r.fields.l→p.name.length≤maxLen∧p.value.length≤maxLen
end Go.Ev
namespace Go.Ev
open Go Go.Proofs
@[simp] theorem ID.ta (i:ID) (r:List D):(ofBytes i.l ++ r).take 16 = ofBytes i.l:=by simp
@[simp] theorem ID.da (i:ID) (r:List D):(ofBytes i.l ++ r).drop 16 = r:=by simp
structure Cur where
 seq:ID
 n:Int
 boot:ID
 mono:Int
 real:Int
 xor:Int
 deriving DecidableEq
instance:Enc Cur:=⟨36,fun m=>(ofBytes m.seq.l ++ (.int .u64 m.n :: (ofBytes m.boot.l ++ (.int .u64 m.mono :: (.int .u64 m.real :: (.int .u64 m.xor :: ([]:List D))))))),fun m=>by simp,fun m=>by simp [idFree]⟩
theorem Cur.cells (m:Cur):Enc.cells m = (ofBytes m.seq.l ++ (.int .u64 m.n :: (ofBytes m.boot.l ++ (.int .u64 m.mono :: (.int .u64 m.real :: (.int .u64 m.xor :: ([]:List D))))))):=rfl
@[simp] theorem Cur.size:Enc.size Cur = 36:=rfl
@[simp] theorem Cur.cl (a:Cur):(Enc.cells a).length = 36:=Enc.len a
@[simp] theorem Cur.ct (a:Cur) (r:List D):(Enc.cells a ++ r).take 36 = Enc.cells a:=cells_take rfl a r
@[simp] theorem Cur.ct' (a:Cur):(Enc.cells a).take 36 = Enc.cells a:=cells_take' rfl a
@[simp] theorem Cur.cd (a:Cur) (r:List D):(Enc.cells a ++ r).drop 36 = r:=cells_drop rfl a r
@[simp] theorem Cur.el (l:List Cur):(encs l).length = l.length * 36:=encs_len' rfl l
@[simp] theorem Cur.ed (l:List Cur) (i:Nat):(encs l).drop (i * 36) = encs (l.drop i):=encs_drop rfl l i
@[simp] theorem Cur.et (l:List Cur) (i:Nat):(encs l).take (i * 36) = encs (l.take i):=encs_take rfl l i
@[simp high] theorem Cur.ea {l:List Cur} {i:Nat} (h:i < l.length):(encs l).drop (i * 36) = Enc.cells l[i] ++ encs (l.drop (i+1)):=encs_at rfl h
@[simp high] theorem Cur.es (m:Cur) {l:List Cur} {j:Nat} (h:j < l.length):setRange (encs l) (j * 36) (Enc.cells m) = encs (l.set j m):=encs_set rfl m l h
@[simp] theorem Cur.t0 (m:Cur):(Enc.cells m).take 16 = ofBytes m.seq.l:=by simp [Cur.cells]
@[simp] theorem Cur.t0' (m:Cur) (r:List D):(Enc.cells m ++ r).take 16 = ofBytes m.seq.l:=by simp [Cur.cells]
@[simp] theorem Cur.s0 (m:Cur) (x:ID):setRange (Enc.cells m) 0 (ofBytes x.l) = Enc.cells { m with seq:=x }:=by simp [List.take_append,Cur.cells]
@[simp] theorem Cur.d16 (m:Cur):(Enc.cells m).drop 16 = (.int .u64 m.n :: (ofBytes m.boot.l ++ (.int .u64 m.mono :: (.int .u64 m.real :: (.int .u64 m.xor :: ([]:List D)))))):=by simp [Cur.cells]
@[simp] theorem Cur.d16' (m:Cur) (r:List D):(Enc.cells m ++ r).drop 16 = (.int .u64 m.n :: (ofBytes m.boot.l ++ (.int .u64 m.mono :: (.int .u64 m.real :: (.int .u64 m.xor :: ([]:List D)))))) ++ r:=by simp [Cur.cells]
@[simp] theorem Cur.g16 (m:Cur) (h):(Enc.cells m)[16]'h = .int .u64 m.n:=by simp [Cur.cells]
@[simp] theorem Cur.q16 (m:Cur):(Enc.cells m)[16]? = some (.int .u64 m.n):=by simp [Cur.cells]
@[simp] theorem Cur.s16 (m:Cur) (x:Int):setRange (Enc.cells m) 16 [.int .u64 x] = Enc.cells { m with n:=x }:=by simp [List.drop_append,drop_bytes,Cur.cells]
@[simp] theorem Cur.d17 (m:Cur):(Enc.cells m).drop 17 = (ofBytes m.boot.l ++ (.int .u64 m.mono :: (.int .u64 m.real :: (.int .u64 m.xor :: ([]:List D))))):=by simp [List.drop_append,drop_bytes,Cur.cells]
@[simp] theorem Cur.d17' (m:Cur) (r:List D):(Enc.cells m ++ r).drop 17 = (ofBytes m.boot.l ++ (.int .u64 m.mono :: (.int .u64 m.real :: (.int .u64 m.xor :: ([]:List D))))) ++ r:=by simp [List.drop_append,drop_bytes,Cur.cells]
@[simp] theorem Cur.s17 (m:Cur) (x:ID):setRange (Enc.cells m) 17 (ofBytes x.l) = Enc.cells { m with boot:=x }:=by simp [List.take_append,List.drop_append,drop_bytes,List.take_of_length_le,Cur.cells]
@[simp] theorem Cur.d33 (m:Cur):(Enc.cells m).drop 33 = (.int .u64 m.mono :: (.int .u64 m.real :: (.int .u64 m.xor :: ([]:List D)))):=by simp [List.drop_append,drop_bytes,Cur.cells]
@[simp] theorem Cur.d33' (m:Cur) (r:List D):(Enc.cells m ++ r).drop 33 = (.int .u64 m.mono :: (.int .u64 m.real :: (.int .u64 m.xor :: ([]:List D)))) ++ r:=by simp [List.drop_append,drop_bytes,Cur.cells]
@[simp] theorem Cur.g33 (m:Cur) (h):(Enc.cells m)[33]'h = .int .u64 m.mono:=by simp [Cur.cells]
@[simp] theorem Cur.q33 (m:Cur):(Enc.cells m)[33]? = some (.int .u64 m.mono):=by simp [Cur.cells]
@[simp] theorem Cur.s33 (m:Cur) (x:Int):setRange (Enc.cells m) 33 [.int .u64 x] = Enc.cells { m with mono:=x }:=by simp [List.take_append,List.drop_append,drop_bytes,List.take_of_length_le,Cur.cells]
@[simp] theorem Cur.d34 (m:Cur):(Enc.cells m).drop 34 = (.int .u64 m.real :: (.int .u64 m.xor :: ([]:List D))):=by simp [List.drop_append,drop_bytes,Cur.cells]
@[simp] theorem Cur.d34' (m:Cur) (r:List D):(Enc.cells m ++ r).drop 34 = (.int .u64 m.real :: (.int .u64 m.xor :: ([]:List D))) ++ r:=by simp [List.drop_append,drop_bytes,Cur.cells]
@[simp] theorem Cur.g34 (m:Cur) (h):(Enc.cells m)[34]'h = .int .u64 m.real:=by simp [Cur.cells]
@[simp] theorem Cur.q34 (m:Cur):(Enc.cells m)[34]? = some (.int .u64 m.real):=by simp [Cur.cells]
@[simp] theorem Cur.s34 (m:Cur) (x:Int):setRange (Enc.cells m) 34 [.int .u64 x] = Enc.cells { m with real:=x }:=by simp [List.take_append,List.drop_append,drop_bytes,List.take_of_length_le,Cur.cells]
@[simp] theorem Cur.d35 (m:Cur):(Enc.cells m).drop 35 = (.int .u64 m.xor :: ([]:List D)):=by simp [List.drop_append,drop_bytes,Cur.cells]
@[simp] theorem Cur.d35' (m:Cur) (r:List D):(Enc.cells m ++ r).drop 35 = (.int .u64 m.xor :: ([]:List D)) ++ r:=by simp [List.drop_append,drop_bytes,Cur.cells]
@[simp] theorem Cur.g35 (m:Cur) (h):(Enc.cells m)[35]'h = .int .u64 m.xor:=by simp [Cur.cells]
@[simp] theorem Cur.q35 (m:Cur):(Enc.cells m)[35]? = some (.int .u64 m.xor):=by simp [Cur.cells]
@[simp] theorem Cur.s35 (m:Cur) (x:Int):setRange (Enc.cells m) 35 [.int .u64 x] = Enc.cells { m with xor:=x }:=by simp [List.take_append,List.drop_append,drop_bytes,List.take_of_length_le,Cur.cells]
end Go.Ev
namespace Go.Ev
open Go Go.Proofs
end Go.Ev
namespace Go.Ev.S
open Go Go.Proofs Go.Ev
theorem idx_cases (sep:List UInt8):∀ (s:List UInt8) (n:Nat),(∃ i:Nat,idxN sep s n = ((n+i:Nat):Int)∧i+sep.length≤s.length∧sep.isPrefixOf (s.drop i) = true)∨idxN sep s n = -1
 | [],n=>by
  unfold idxN
  cases sep with
  | nil=>exact .inl ⟨0,by simp⟩
  | cons a l=>exact .inr (by simp)
 | b :: l,n=>by
  unfold idxN
  by_cases h:sep.isPrefixOf (b :: l) = true
  ·rw [if_pos h]
   refine .inl ⟨0,by simp,?_,by simpa using h⟩
   have:=List.IsPrefix.length_le (List.isPrefixOf_iff_prefix.1 h)
   simpa using this
  ·rw [if_neg h]
   rcases idx_cases sep l (n+1) with ⟨i,h1,h2,h3⟩ | h1
   ·exact .inl ⟨i+1,by rw [h1];omega,by simp;omega,by simpa using h3⟩
   ·exact .inr h1
theorem index_ev [MaxL] [TxtC] (s sep:List UInt8) (hs:s.length < 4294967281):call cx 182 [.str s,.str sep] [] = some (.int .i64 (idxN sep s 0),[]):=by
 refine call_con ?_
 rw [co182,conIdx,if_pos hs]
end Go.Ev.S
namespace Go.Ev.S
open Go Go.Proofs Go.Ev
def cutL (sep s:List UInt8):List UInt8 × List UInt8 × Bool:=if idxN sep s 0 = -1 then (s,[],false) else (s.take (idxN sep s 0).toNat,s.drop ((idxN sep s 0).toNat+sep.length),true)
theorem cutlite_ev [MaxL] [TxtC] (s sep:List UInt8) (hs:s.length < 1000000) (hl:sep.length < 1000000):call cx 156 [.str s,.str sep] [] = some (.tup [.str (cutL sep s).1,.str (cutL sep s).2.1,.bool (cutL sep s).2.2],[]):=by
 have h:=index_ev s sep (by omega)
 unfold cutL
 refine call_run Tryz.func156 rfl ⟨rfl,rfl⟩ ?_
 rcases idx_cases sep s 0 with ⟨i,h1,h2,-⟩ | h1
 ·rw [h1] at h
  rw [h1]
  obtain ⟨j,hj⟩:∃ j,j = i+sep.length:=⟨_,rfl⟩
  have hw:IntKind.i64.wrap ((i:Int)+(sep.length:Int)) = (j:Int):=by rw [wrap_i64] <;> omega
  have hn:¬ ((0+i:Nat):Int) = -1:=by omega
  have g1:(i:Int)≤(s.length:Int):=by omega
  have g2:(j:Int)≤(s.length:Int):=by omega
  have g3:j≤s.length:=by omega
  have g4:i≤s.length:=by omega
  rw [Nat.zero_add] at h hn
  simp [Tryz.f156,h,hw,g1,g2,← hj]
  exact List.take_of_length_le (by simp)
 ·rw [h1] at h
  simp [Tryz.f156,h,h1]
theorem cut_ev [MaxL] [TxtC] (s sep:List UInt8) (hs:s.length < 1000000) (hl:sep.length < 1000000):call cx 127 [.str s,.str sep] [] = some (.tup [.str (cutL sep s).1,.str (cutL sep s).2.1,.bool (cutL sep s).2.2],[]):=by
 have h:=cutlite_ev s sep hs hl
 refine call_run Tryz.func127 rfl ⟨rfl,rfl⟩ ?_
 simp [Tryz.f127,h]
end Go.Ev.S
namespace Go.Ev.S
open Go Go.Proofs Go.Ev
def pre (p s:List UInt8):Bool:=s.take p.length == p
theorem pfx_ev [MaxL] [TxtC] (s p:List UInt8) (_:s.length < 1000000) (_:p.length < 1000000):call cx 181 [.str s,.str p] [] = some (.bool (pre p s),[]):=by
 refine call_run Tryz.func181 rfl ⟨rfl,rfl⟩ ?_
 by_cases h:p.length≤s.length
 ·have h':(p.length:Int)≤(s.length:Int):=by omega
  simp [Tryz.f181,h',pre]
 ·have h':¬ (p.length:Int)≤(s.length:Int):=by omega
  have hn:pre p s = false:=by
   unfold pre
   rw [List.take_of_length_le (by omega)]
   rw [beq_eq_false_iff_ne]
   intro e
   rw [e] at h
   omega
  simp [Tryz.f181,h',hn]
theorem pre_len {p s:List UInt8} (h:pre p s = true):p.length≤s.length:=by
 unfold pre at h
 have:=congrArg List.length (beq_iff_eq.1 h)
 rw [List.length_take] at this
 omega
theorem trim_ev [MaxL] [TxtC] (s p:List UInt8) (hs:s.length < 1000000) (hp:p.length < 1000000):call cx 129 [.str s,.str p] [] = some (.str (if pre p s then s.drop p.length else s),[]):=by
 have h:=pfx_ev s p hs hp
 have h2:call cx 159 [.str s,.str p] [] = some (.str (if pre p s then s.drop p.length else s),[]):=by
  refine call_run Tryz.func159 rfl ⟨rfl,rfl⟩ ?_
  cases hq:pre p s with
  | true =>
   have:=pre_len hq
   have g:(p.length:Int)≤(s.length:Int):=by omega
   rw [hq] at h
   simp [Tryz.f159,h,g]
   exact List.take_of_length_le (by simp)
  | false =>
   rw [hq] at h
   simp [Tryz.f159,h]
 refine call_run Tryz.func129 rfl ⟨rfl,rfl⟩ ?_
 simp [Tryz.f129,h2]
end Go.Ev.S
namespace Go.Ev.S
open Go Go.Proofs Go.Ev
theorem cutpre_ev [MaxL] [TxtC] (s p:List UInt8) (hs:s.length < 1000000) (hp:p.length < 1000000):call cx 126 [.str s,.str p] [] = some (.tup [.str (if pre p s then s.drop p.length else s),.bool (pre p s)],[]):=by
 have h:=pfx_ev s p hs hp
 have h2:call cx 155 [.str s,.str p] [] = some (.tup [.str (if pre p s then s.drop p.length else s),.bool (pre p s)],[]):=by
  refine call_run Tryz.func155 rfl ⟨rfl,rfl⟩ ?_
  cases hq:pre p s with
  | true =>
   have:=pre_len hq
   have g:(p.length:Int)≤(s.length:Int):=by omega
   rw [hq] at h
   simp [Tryz.f155,h,g]
   exact List.take_of_length_le (by simp)
  | false =>
   rw [hq] at h
   simp [Tryz.f155,h]
 refine call_run Tryz.func126 rfl ⟨rfl,rfl⟩ ?_
 simp [Tryz.f126,h2]
end Go.Ev.S
namespace Go.Ev.S
open Go Go.Proofs Go.Ev
theorem len64_ev [MaxL] [TxtC] (v:Nat) (h:v < 18446744073709551616):call cx 210 [.int .u64 v] [] = some (.int .i64 (Lib.bitLen v),[]):=by
 refine call_con ?_
 rw [co210,conLen64,if_pos (by omega)]
 rfl
theorem small_ev [MaxL] [TxtC] (v:Nat) (h:v < 100):call cx 189 [.int .i64 v] [] = some (.str (dec v),[]):=by
 refine call_con ?_
 rw [co189,conSmall,if_pos (by omega)]
 rfl
theorem bool2_ev [MaxL] [TxtC] (b:Bool):call cx 219 [.bool b] [] = some (.int .i64 (if b then 1 else 0),[]):=by
 refine call_run Tryz.func219 rfl ⟨rfl,rfl⟩ ?_
 cases b <;> simp [Tryz.f219]
theorem l10_ev [MaxL] [TxtC] (v:Nat) (h:v≤64):call cx 218 [.int .i64 v] [] = some (.int .i64 (Lib.l10 v),[]):=by
 refine call_run Tryz.func218 rfl ⟨rfl,rfl⟩ ?_
 have h1:IntKind.i64.wrap ((v:Int) * 78913) = ((v * 78913:Nat):Int):=by rw [wrap_i64] <;> omega
 simp [Tryz.f218,h1]
 unfold Lib.l10
 have:(2:Int) ^ min 18 IntKind.i64.bits = 262144:=by decide
 rw [this,Int.fdiv_eq_ediv_of_nonneg _ (by omega)]
 omega
theorem pow10_at {t:Nat} (h:t≤19):∃ r,gd3.drop t = .int .u64 ((10 ^ t:Nat):Int) :: r:=by
 have ht:t = 0∨t = 1∨t = 2∨t = 3∨t = 4∨t = 5∨t = 6∨t = 7∨t = 8∨t = 9∨t = 10∨t = 11∨t = 12∨t = 13∨t = 14∨t = 15∨t = 16∨t = 17∨t = 18∨t = 19:=by omega
 rcases ht with rfl | rfl | rfl | rfl | rfl | rfl | rfl | rfl | rfl | rfl | rfl | rfl | rfl | rfl | rfl | rfl | rfl | rfl | rfl | rfl <;> exact ⟨_,rfl⟩
theorem ndig_ev [MaxL] [TxtC] (v:Nat) (h1:1≤v) (h:v < 18446744073709551616):call cx 190 [.int .u64 v] [] = some (.int .i64 (Lib.nDigits v),[]):=by
 obtain ⟨e1,e2⟩:=Lib.numDigits_eq v h1 h
 have hb:Lib.bitLen v≤64:=Lib.bitLen_le v 64 (Nat.le_refl _) h
 have g1:=len64_ev v h
 have g2:=l10_ev (Lib.bitLen v) hb
 generalize Lib.l10 (Lib.bitLen v) = t at *
 obtain ⟨r,hr⟩:=pow10_at e2
 generalize 10 ^ t = p at *
 have g3:=bool2_ev (decide ((p:Int)≤(v:Int)))
 have ht:(t:Int) < 20:=by omega
 have hw:∀ k:Int,0≤k→k≤1→IntKind.i64.wrap ((t:Int)+k) = (t:Int)+k:=fun k _ _=>by rw [wrap_i64];omega
 have hw0:IntKind.i64.wrap (t:Int) = t:=by rw [wrap_i64];omega
 refine call_run Tryz.func190 rfl ⟨rfl,rfl⟩ ?_
 by_cases hc:p≤v
 ·rw [if_pos hc] at e1
  rw [decide_eq_true (by omega)] at g3
  simp [Tryz.f190,g1,g2,g3,hr,ht,hc,hw]
  omega
 ·rw [if_neg hc] at e1
  rw [decide_eq_false (by omega)] at g3
  simp [Tryz.f190,g1,g2,g3,hr,ht,hc,hw0]
  omega
end Go.Ev.S
namespace Go.Ev.S
open Go Go.Proofs Go.Ev Go.Lib
theorem ofVal_int (k:IntKind) (n:Int):ofVal (.int k n) = some (.int k n):=rfl
theorem set_bytes {l:List UInt8} {i:Nat} (x:UInt8) (h:i < l.length):setRange (ofBytes l) i [.int .u8 (x.toNat:Int)] = ofBytes (l.set i x):=by
 rw [setRange,List.set_eq_take_append_cons_drop,if_pos h]
 simp [ofBytes,List.map_take,List.map_drop]
theorem set_arr {d:Array UInt8} {tl:List UInt8} {i:Nat} (x:UInt8) (h:i < d.size):(d.toList ++ tl).set i x = (d.setIfInBounds i x).toList ++ tl:=by
 rw [List.set_append_left _ _ (by simpa using h)]
 simp
def smL:List UInt8:=smalls.data.toList
theorem sm_at {k:Nat} (h:k < 200):smL[k]? = some (sm k):=by
 have hl:smL.length = 200:=by decide +kernel
 unfold sm
 rw [List.getD_eq_getElem?_getD]
 have:smL[k]? = some (smL[k]'(by omega)):=List.getElem?_eq_getElem (by omega)
 rw [this]
 show _ = some ((smL[k]?).getD 0)
 rw [this]
 rfl
theorem wk {nd j:Nat} (a:Int) (h:(nd:Int) - a = (j:Int)) (hj:j≤24):IntKind.i64.wrap ((nd:Int) - a) = (j:Int):=by
 rw [h,wrap_i64]
 omega
structure Fb8 (v p q x6 x7 y8 y9 y10 y11 t8 t9 t10 t11 z8 z9 z10 z11:Nat):Prop where
 a1:(v:Int).tmod 100000000 = (p:Int)
 a2:(v:Int).tdiv 100000000 = (q:Int)
 a3:(p:Int).tdiv 10000 = (x6:Int)
 a4:(p:Int).tmod 10000 = (x7:Int)
 a5:(x7:Int).tdiv 100 = (y8:Int)
 a6:(x7:Int).tmod 100 = (y9:Int)
 a7:(x6:Int).tdiv 100 = (y10:Int)
 a8:(x6:Int).tmod 100 = (y11:Int)
 w1:IntKind.u32.wrap (p:Int) = (p:Int)
 w2:IntKind.u64.wrap (q:Int) = (q:Int)
 w3:IntKind.u32.wrap (x6:Int) = (x6:Int)
 v8:IntKind.u32.wrap (y8:Int) = (y8:Int)
 v10:IntKind.u32.wrap (y10:Int) = (y10:Int)
 u8:IntKind.u32.wrap ((y8:Int) * 2) = (t8:Int)
 u9:IntKind.u32.wrap ((y9:Int) * 2) = (t9:Int)
 u10:IntKind.u32.wrap ((y10:Int) * 2) = (t10:Int)
 u11:IntKind.u32.wrap ((y11:Int) * 2) = (t11:Int)
 w8:IntKind.u32.wrap ((t8:Int)+1) = (z8:Int)
 w9:IntKind.u32.wrap ((t9:Int)+1) = (z9:Int)
 w10:IntKind.u32.wrap ((t10:Int)+1) = (z10:Int)
 w11:IntKind.u32.wrap ((t11:Int)+1) = (z11:Int)
 s1:smL[z9]? = some (sm (v % 100 * 2+1))
 s2:smL[t9]? = some (sm (v % 100 * 2))
 s3:smL[z8]? = some (sm (v / 100 % 100 * 2+1))
 s4:smL[t8]? = some (sm (v / 100 % 100 * 2))
 s5:smL[z11]? = some (sm (v / 100 / 100 % 100 * 2+1))
 s6:smL[t11]? = some (sm (v / 100 / 100 % 100 * 2))
 s7:smL[z10]? = some (sm (v / 100 / 100 / 100 % 100 * 2+1))
 s8:smL[t10]? = some (sm (v / 100 / 100 / 100 % 100 * 2))
 fq:v / 100 / 100 / 100 / 100 = q
theorem dv (a b c:Nat) (h:c = a / b):(a:Int).tdiv (b:Int) = (c:Int):=by rw [h];exact (Int.ofNat_tdiv a b).symm
theorem md (a b c:Nat) (h:c = a % b):(a:Int).tmod (b:Int) = (c:Int):=by rw [h];exact (Int.ofNat_tmod a b).symm
theorem wu32 {a:Int} {c:Nat} (h:a = (c:Int)) (hc:c < 4294967296):IntKind.u32.wrap a = (c:Int):=by rw [h,wrap_u32];omega
theorem fb8 (v:Nat) (hv:v < 18446744073709551616):∃ p q x6 x7 y8 y9 y10 y11 t8 t9 t10 t11 z8 z9 z10 z11,Fb8 v p q x6 x7 y8 y9 y10 y11 t8 t9 t10 t11 z8 z9 z10 z11:=by
 have w2:IntKind.u64.wrap ((v / 100000000:Nat):Int) = ((v / 100000000:Nat):Int):=by rw [wrap_u64];omega
 clear hv
 obtain ⟨p,hp⟩:∃ p,p = v % 100000000:=⟨_,rfl⟩
 have f9:v % 100 = p % 10000 % 100:=by omega
 have f8:v / 100 % 100 = p % 10000 / 100:=by omega
 have f11:v / 100 / 100 % 100 = p / 10000 % 100:=by omega
 have f10:v / 100 / 100 / 100 % 100 = p / 10000 / 100:=by omega
 have fq:v / 100 / 100 / 100 / 100 = v / 100000000:=by omega
 have bp:p < 100000000:=by omega
 refine ⟨p,v / 100000000,p / 10000,p % 10000,p % 10000 / 100,p % 10000 % 100,p / 10000 / 100,p / 10000 % 100,p % 10000 / 100 * 2,p % 10000 % 100 * 2,p / 10000 / 100 * 2,p / 10000 % 100 * 2,p % 10000 / 100 * 2+1,p % 10000 % 100 * 2+1,p / 10000 / 100 * 2+1,p / 10000 % 100 * 2+1,?_⟩
 have b6:p / 10000 < 10000:=by omega
 have b7:p % 10000 < 10000:=by omega
 have b8:p % 10000 / 100 < 100:=by omega
 have b9:p % 10000 % 100 < 100:=by omega
 have b10:p / 10000 / 100 < 100:=by omega
 have b11:p / 10000 % 100 < 100:=by omega
 constructor
 case a1=>exact md v 100000000 p hp
 case a2=>exact dv v 100000000 _ rfl
 case a3=>exact dv p 10000 _ rfl
 case a4=>exact md p 10000 _ rfl
 case a5=>exact dv _ 100 _ rfl
 case a6=>exact md _ 100 _ rfl
 case a7=>exact dv _ 100 _ rfl
 case a8=>exact md _ 100 _ rfl
 case w1=>exact wu32 rfl (by omega)
 case w2=>exact w2
 case w3=>exact wu32 rfl (by omega)
 case v8=>exact wu32 rfl (by omega)
 case v10=>exact wu32 rfl (by omega)
 case u8=>exact wu32 (by omega) (by omega)
 case u9=>exact wu32 (by omega) (by omega)
 case u10=>exact wu32 (by omega) (by omega)
 case u11=>exact wu32 (by omega) (by omega)
 case w8=>exact wu32 (by omega) (by omega)
 case w9=>exact wu32 (by omega) (by omega)
 case w10=>exact wu32 (by omega) (by omega)
 case w11=>exact wu32 (by omega) (by omega)
 case s1=>rw [f9];exact sm_at (by omega)
 case s2=>rw [f9];exact sm_at (by omega)
 case s3=>rw [f8];exact sm_at (by omega)
 case s4=>rw [f8];exact sm_at (by omega)
 case s5=>rw [f11];exact sm_at (by omega)
 case s6=>rw [f11];exact sm_at (by omega)
 case s7=>rw [f10];exact sm_at (by omega)
 case s8=>rw [f10];exact sm_at (by omega)
 case fq=>exact fq
structure Fb4 (v q x7 y8 y9 t8 t9 z8 z9:Nat):Prop where
 a1:(v:Int).tmod 10000 = (x7:Int)
 a2:(v:Int).tdiv 10000 = (q:Int)
 a5:(x7:Int).tdiv 100 = (y8:Int)
 a6:(x7:Int).tmod 100 = (y9:Int)
 w2:IntKind.u32.wrap (q:Int) = (q:Int)
 v8:IntKind.u32.wrap (y8:Int) = (y8:Int)
 u8:IntKind.u32.wrap ((y8:Int) * 2) = (t8:Int)
 u9:IntKind.u32.wrap ((y9:Int) * 2) = (t9:Int)
 w8:IntKind.u32.wrap ((t8:Int)+1) = (z8:Int)
 w9:IntKind.u32.wrap ((t9:Int)+1) = (z9:Int)
 s1:smL[z9]? = some (sm (v % 100 * 2+1))
 s2:smL[t9]? = some (sm (v % 100 * 2))
 s3:smL[z8]? = some (sm (v / 100 % 100 * 2+1))
 s4:smL[t8]? = some (sm (v / 100 % 100 * 2))
 fq:v / 100 / 100 = q
theorem fb4 (v:Nat) (hv:v < 100000000):∃ q x7 y8 y9 t8 t9 z8 z9,Fb4 v q x7 y8 y9 t8 t9 z8 z9:=by
 have f9:v % 100 = v % 10000 % 100:=by omega
 have f8:v / 100 % 100 = v % 10000 / 100:=by omega
 have fq:v / 100 / 100 = v / 10000:=by omega
 refine ⟨v / 10000,v % 10000,v % 10000 / 100,v % 10000 % 100,v % 10000 / 100 * 2,v % 10000 % 100 * 2,v % 10000 / 100 * 2+1,v % 10000 % 100 * 2+1,?_⟩
 have b8:v % 10000 / 100 < 100:=by omega
 have b9:v % 10000 % 100 < 100:=by omega
 constructor
 case a1=>exact md v 10000 _ rfl
 case a2=>exact dv v 10000 _ rfl
 case a5=>exact dv _ 100 _ rfl
 case a6=>exact md _ 100 _ rfl
 case w2=>exact wu32 rfl (by omega)
 case v8=>exact wu32 rfl (by omega)
 case u8=>exact wu32 (by omega) (by omega)
 case u9=>exact wu32 (by omega) (by omega)
 case w8=>exact wu32 (by omega) (by omega)
 case w9=>exact wu32 (by omega) (by omega)
 case s1=>rw [f9];exact sm_at (by omega)
 case s2=>rw [f9];exact sm_at (by omega)
 case s3=>rw [f8];exact sm_at (by omega)
 case s4=>rw [f8];exact sm_at (by omega)
 case fq=>exact fq
structure Fb2 (v q y9 t9 z9:Nat):Prop where
 a1:(v:Int).tmod 100 = (y9:Int)
 a2:(v:Int).tdiv 100 = (q:Int)
 w2:IntKind.u32.wrap (q:Int) = (q:Int)
 u9:IntKind.u32.wrap ((y9:Int) * 2) = (t9:Int)
 w9:IntKind.u32.wrap ((t9:Int)+1) = (z9:Int)
 s1:smL[z9]? = some (sm (v % 100 * 2+1))
 s2:smL[t9]? = some (sm (v % 100 * 2))
 fq:v / 100 = q
theorem fb2 (v:Nat) (hv:v < 100000000):∃ q y9 t9 z9,Fb2 v q y9 t9 z9:=by
 refine ⟨v / 100,v % 100,v % 100 * 2,v % 100 * 2+1,?_⟩
 constructor
 case a1=>exact md v 100 _ rfl
 case a2=>exact dv v 100 _ rfl
 case w2=>exact wu32 rfl (by omega)
 case u9=>exact wu32 (by omega) (by omega)
 case w9=>exact wu32 (by omega) (by omega)
 case s1=>exact sm_at (by omega)
 case s2=>exact sm_at (by omega)
 case fq=>rfl
theorem fb1 (v:Nat) (hv:v < 10):IntKind.u32.wrap (48+(v:Int)) = ((UInt8.ofNat (48+v)).toNat:Int)∧IntKind.u8.wrap ((UInt8.ofNat (48+v)).toNat:Int) = ((UInt8.ofNat (48+v)).toNat:Int):=by
 have h:(UInt8.ofNat (48+v)).toNat = 48+v:=UInt8.toNat_ofNat_of_lt' (show 48+v < 256 by omega)
 rw [h,wrap_u32 (by omega),wrap_u8 (by omega)]
 omega
theorem lt8 {n u nd v:Nat} {d:Array UInt8} (h:FmtInv n u nd v d) (h8:nd < 8):v < 100000000 :=
 Nat.lt_of_lt_of_le h.small (Nat.le_trans (Nat.pow_le_pow_right (by decide) (show nd≤7 by omega)) (by decide))
set_option maxHeartbeats 4000000 in
theorem fb10_ev [MaxL] [TxtC] (n u:Nat) (hn:n≤24) (hu:u < 10 ^ n) (hu64:u < 18446744073709551616) (tl:List UInt8) (htl:tl.length = 24 - n) (d:Array UInt8) (hd:d.size = n) (H:Heap) (b:Nat) (hb:b < H.length)
  (hcl:H.all (blkClosed H.length) = true) (hg:H[b] = some (ofBytes (d.toList ++ tl))) :
  ∃ v' dk,FmtInv n u 0 v' dk∧call cx 191 [.osl b 24 0 n 1,.int .u64 u] H = some (.tup [],H.set b (some (ofBytes (dk.toList ++ tl)))):=by
 suffices hs:∃ r,call cx 191 [.osl b 24 0 n 1,.int .u64 u] H = some r∧∃ v' dk,FmtInv n u 0 v' dk∧r = (.tup [],H.set b (some (ofBytes (dk.toList ++ tl)))) by
  obtain ⟨r,h1,v',dk,h2,rfl⟩:=hs
  exact ⟨v',dk,h2,h1⟩
 have hset:H.set b (some (ofBytes (d.toList ++ tl))) = H:=by rw [← hg,List.set_getElem_self]
 refine call_runE (fun r=>∃ v' dk,FmtInv n u 0 v' dk∧r = (D.tup [],H.set b (some (ofBytes (dk.toList ++ tl))))) Tryz.func191 rfl ⟨rfl,rfl⟩ ?_
 unfold Tryz.f191
 generalize hS:Value.string _ = S
 have hv:ofVal S = some (.str smL):=by rw [← hS];kernel_rfl
 clear hS
 simp
 refine Run.loopThen (fun (nd:Nat) e H'=>∃ v dk,FmtInv n u nd v dk∧H' = H.set b (some (ofBytes (dk.toList ++ tl)))∧look e 0 = some (.osl b 24 0 n 1)∧look e 1 = some (.int .u64 (v:Nat))∧look e 4 = some (.int .i64 nd)) (fun nd=>nd) n ?_ ?_
 ·exact ⟨u,d,by rw [← hd];exact FmtInv.start d u (by rw [hd];exact hu),hset.symm,by simp,by simp,by simp⟩
 rintro nd e H' ⟨v,dk,hi,rfl,h0,h1,h4⟩
 have hv64:v < 18446744073709551616:=by
  have:=hi.rest
  have:=Nat.div_le_self u (10 ^ (n - nd))
  omega
 have hle:=hi.le
 have hsz:=hi.size
 have hlen:∀ (a:Array UInt8),a.size = n→(a.toList ++ tl).length = 24:=fun a ha=>by simp [ha,htl];omega
 have fin:∀ (a:Array UInt8) (v':Nat),FmtInv n u 0 v' a→∃ x y,((∀ z,z∈(H.set b (some (ofBytes (a.toList ++ tl)))).take H.length→blkClosed H.length z = true)∧D.tup [] = x∧(H.set b (some (ofBytes (a.toList ++ tl)))).take H.length = y) ∧
   ∃ v' dk,FmtInv n u 0 v' dk∧x = D.tup []∧y = H.set b (some (ofBytes (dk.toList ++ tl))):=fun a v' ha=>by
  refine ⟨_,_,⟨fun z hz=>?_,rfl,rfl⟩,v',a,ha,rfl,List.take_of_length_le (by simp)⟩
  have hz':=List.mem_of_mem_take hz
  rcases List.mem_or_eq_of_mem_set hz' with h | rfl
  ·exact List.all_eq_true.1 hcl z h
  ·simp [blkClosed]
 have hnn:n+(24 - n) = 24:=by omega
 have sb:∀ (a:Array UInt8) (j:Nat) (x:UInt8),a.size = n→j < n→setRange (ofBytes (a.toList ++ tl)) j [.int .u8 (x.toNat:Int)] = ofBytes ((a.setIfInBounds j x).toList ++ tl):=fun a j x ha hj=>by
  rw [set_bytes x (by simp [ha,htl];omega),set_arr x (by omega)]
 by_cases h8:8≤nd
 ·obtain ⟨m,hm⟩:∃ m,nd = m+8:=⟨nd - 8,by omega⟩
  have i1:=FmtInv.step2' (k:=m+6) (by rw [hm] at hi;exact hi)
  have i2:=FmtInv.step2' (k:=m+4) i1
  have i3:=FmtInv.step2' (k:=m+2) i2
  have i4:=FmtInv.step2' (k:=m) i3
  obtain ⟨j1,hj1⟩:∃ y,y = m+7:=⟨_,rfl⟩
  obtain ⟨j2,hj2⟩:∃ y,y = m+6:=⟨_,rfl⟩
  obtain ⟨j3,hj3⟩:∃ y,y = m+5:=⟨_,rfl⟩
  obtain ⟨j4,hj4⟩:∃ y,y = m+4:=⟨_,rfl⟩
  obtain ⟨j5,hj5⟩:∃ y,y = m+3:=⟨_,rfl⟩
  obtain ⟨j6,hj6⟩:∃ y,y = m+2:=⟨_,rfl⟩
  obtain ⟨j7,hj7⟩:∃ y,y = m+1:=⟨_,rfl⟩
  rw [show m+6+1 = j1 by omega,show m+4+1 = j3 by omega,show m+2+1 = j5 by omega,← hj2,← hj4,← hj6,← hj7] at i4
  have e1:(nd:Int) - 1 = ((j1:Nat):Int):=by omega
  have e2:(nd:Int) - 2 = ((j2:Nat):Int):=by omega
  have e3:(nd:Int) - 3 = ((j3:Nat):Int):=by omega
  have e4:(nd:Int) - 4 = ((j4:Nat):Int):=by omega
  have e5:(nd:Int) - 5 = ((j5:Nat):Int):=by omega
  have e6:(nd:Int) - 6 = ((j6:Nat):Int):=by omega
  have e7:(nd:Int) - 7 = ((j7:Nat):Int):=by omega
  have e8:(nd:Int) - 8 = ((m:Nat):Int):=by omega
  have h8':(8:Int)≤(nd:Int):=by omega
  have hbd:∀ j:Nat,j < nd→((j:Int) < (n:Int))∧j < n∧j < 24:=fun j hj=>by omega
  have l1:=hbd j1 (by omega)
  have l2:=hbd j2 (by omega)
  have l3:=hbd j3 (by omega)
  have l4:=hbd j4 (by omega)
  have l5:=hbd j5 (by omega)
  have l6:=hbd j6 (by omega)
  have l7:=hbd j7 (by omega)
  have l8:=hbd m (by omega)
  have hmn:m < nd:=by omega
  clear hbd
  have k1:=wk 1 e1 (Nat.le_of_lt l1.2.2)
  have k2:=wk 2 e2 (Nat.le_of_lt l2.2.2)
  have k3:=wk 3 e3 (Nat.le_of_lt l3.2.2)
  have k4:=wk 4 e4 (Nat.le_of_lt l4.2.2)
  have k5:=wk 5 e5 (Nat.le_of_lt l5.2.2)
  have k6:=wk 6 e6 (Nat.le_of_lt l6.2.2)
  have k7:=wk 7 e7 (Nat.le_of_lt l7.2.2)
  have k8:=wk 8 e8 (Nat.le_of_lt l8.2.2)
  clear e1 e2 e3 e4 e5 e6 e7 e8
  obtain ⟨p,q,x6,x7,y8,y9,y10,y11,t8,t9,t10,t11,z8,z9,z10,z11,⟨a1,a2,a3,a4,a5,a6,a7,a8,w1,w2,w3,v8,v10,u8,u9,u10,u11,w8,w9,w10,w11,s1,s2,s3,s4,s5,s6,s7,s8,fq⟩⟩:=fb8 v hv64
  rw [fq] at i4
  clear i1 i2 i3 hi hv64 fq hu64 hu
  generalize sm (v % 100 * 2+1) = c1 at *
  generalize sm (v % 100 * 2) = c2 at *
  generalize sm (v / 100 % 100 * 2+1) = c3 at *
  generalize sm (v / 100 % 100 * 2) = c4 at *
  generalize sm (v / 100 / 100 % 100 * 2+1) = c5 at *
  generalize sm (v / 100 / 100 % 100 * 2) = c6 at *
  generalize sm (v / 100 / 100 / 100 % 100 * 2+1) = c7 at *
  generalize sm (v / 100 / 100 / 100 % 100 * 2) = c8 at *
  simp [-ofVal,ofVal_int,h0,h1,h4,hv,a1,a2,a3,a4,a5,a6,a7,a8,w1,w2,w3,w8,w9,w10,w11,u8,u9,u10,u11,v8,v10,k1,k2,k3,k4,k5,k6,k7,k8,s1,s2,s3,s4,s5,s6,s7,s8,h8',hb,l1,l2,l3,l4,l5,l6,l7,l8,hsz,htl,hnn,sb,Nat.succ_le_of_lt]
  exact ⟨m,hmn,q,_,i4,by simp,rfl,rfl⟩
 ·have h8':¬ (8:Int)≤(nd:Int):=by omega
  have q0:v < 100000000:=lt8 hi (by omega)
  have wv:IntKind.u32.wrap (v:Int) = (v:Int):=wu32 rfl (by omega)
  clear hv64 hu64 hu
  by_cases h4':4≤nd
  ·obtain ⟨m,hm⟩:∃ m,nd = m+4:=⟨nd - 4,by omega⟩
   have i1:=FmtInv.step2' (k:=m+2) (by rw [hm] at hi;exact hi)
   have i2:=FmtInv.step2' (k:=m) i1
   obtain ⟨j1,hj1⟩:∃ y,y = m+3:=⟨_,rfl⟩
   obtain ⟨j2,hj2⟩:∃ y,y = m+2:=⟨_,rfl⟩
   obtain ⟨j3,hj3⟩:∃ y,y = m+1:=⟨_,rfl⟩
   rw [show m+2+1 = j1 by omega,← hj2,← hj3] at i2
   have g4:(4:Int)≤(nd:Int):=by omega
   have e1:(nd:Int) - 1 = (j1:Int):=by omega
   have e2:(nd:Int) - 2 = (j2:Int):=by omega
   have e3:(nd:Int) - 3 = (j3:Int):=by omega
   have e4:(nd:Int) - 4 = (m:Int):=by omega
   have hbd:∀ j:Nat,j < nd→((j:Int) < (n:Int))∧j < n∧j < 24:=fun j hj=>by omega
   have l1:=hbd j1 (by omega)
   have l2:=hbd j2 (by omega)
   have l3:=hbd j3 (by omega)
   have l4:=hbd m (by omega)
   have hm4:m < 4:=by omega
   have k1:=wk 1 e1 (Nat.le_of_lt l1.2.2)
   have k2:=wk 2 e2 (Nat.le_of_lt l2.2.2)
   have k3:=wk 3 e3 (Nat.le_of_lt l3.2.2)
   have k4:=wk 4 e4 (Nat.le_of_lt l4.2.2)
   clear hbd e1 e2 e3 e4
   obtain ⟨q,x7,y8,y9,t8,t9,z8,z9,⟨a1,a2,a5,a6,w2,v8,u8,u9,w8,w9,s1,s2,s3,s4,fq⟩⟩:=fb4 v q0
   rw [fq] at i2
   clear i1 hi fq
   generalize sm (v % 100 * 2+1) = c1 at *
   generalize sm (v % 100 * 2) = c2 at *
   generalize sm (v / 100 % 100 * 2+1) = c3 at *
   generalize sm (v / 100 % 100 * 2) = c4 at *
   simp [-Array.toList_setIfInBounds,-ofVal,ofVal_int,h0,h1,h4,hv,h8',g4,wv,a1,a2,a5,a6,w2,v8,u8,u9,w8,w9,k1,k2,k3,k4,s1,s2,s3,s4,hb,l1,l2,l3,l4,hsz,htl,hnn,sb,Nat.succ_le_of_lt]
   clear a1 a2 a5 a6 w2 v8 u8 u9 w8 w9 s1 s2 s3 s4 k1 k2 k3 k4 wv
   obtain ⟨dk1,hdk1⟩:∃ a,a = (((dk.setIfInBounds j1 c1).setIfInBounds j2 c2).setIfInBounds j3 c3).setIfInBounds m c4:=⟨_,rfl⟩
   rw [← hdk1] at i2 ⊢
   clear hdk1
   by_cases x2:2≤m
   ·obtain ⟨m2,hm2⟩:∃ mm,m = mm+2:=⟨m - 2,by omega⟩
    have i6:=FmtInv.step2' (k:=m2) (by rw [hm2] at i2;exact i2)
    obtain ⟨p1,hp1⟩:∃ y,y = m2+1:=⟨_,rfl⟩
    have g2:(2:Int)≤(m:Int):=by omega
    have e1:(m:Int) - 1 = (p1:Int):=by omega
    have e2:(m:Int) - 2 = (m2:Int):=by omega
    have hle2:=i2.le
    have r1:(p1:Int) < (n:Int)∧p1 < n∧p1 < 24:=by omega
    have r2:(m2:Int) < (n:Int)∧m2 < n∧m2 < 24:=by omega
    have m2lt:m2 < 2:=by omega
    have q1:q < 100000000:=lt8 i2 (by omega)
    rw [← hp1] at i6
    have j1':=wk 1 e1 (Nat.le_of_lt r1.2.2)
    have j2':=wk 2 e2 (Nat.le_of_lt r2.2.2)
    clear e1 e2
    obtain ⟨v2,y9,t9,z9,⟨a1,a2,w2,u9,w9,s1,s2,fq⟩⟩:=fb2 q q1
    rw [fq] at i6
    generalize sm (q % 100 * 2+1) = c5 at *
    generalize sm (q % 100 * 2) = c6 at *
    simp [-Array.toList_setIfInBounds,-ofVal,ofVal_int,hv,g2,r1,r2,j1',j2',a1,a2,w2,u9,w9,s1,s2,hb,i2.size,htl,hnn,sb,Nat.succ_le_of_lt]
    clear a1 a2 w2 u9 w9 s1 s2 j1' j2' fq
    obtain ⟨dk2,hdk2⟩:∃ a,a = (dk1.setIfInBounds p1 c5).setIfInBounds m2 c6:=⟨_,rfl⟩
    rw [← hdk2] at i6 ⊢
    clear hdk2
    by_cases y1:m2 = 1
    ·have z1:v2 < 10:=by have:=i6.small;rw [y1] at this;simpa using this
     have i5:=FmtInv.step1 (by rw [y1] at i6;exact i6)
     obtain ⟨d1,d2⟩:=fb1 v2 z1
     have g0:(0:Int) < (m2:Int):=by omega
     have gn:0 < m2:=by omega
     have g1:0 < n:=by have:=i6.le;omega
     generalize UInt8.ofNat (48+v2) = c9 at *
     simp [-Array.toList_setIfInBounds,-ofVal,-blkClosed,ofVal_int,gn,g1,d1,d2,hb,i6.size,htl,hnn,sb]
     exact orP_fin (fin _ _ i5)
    ·have z0:m2 = 0:=by omega
     rw [z0] at i6
     simp [-Array.toList_setIfInBounds,-ofVal,-blkClosed,z0]
     exact orP_fin (fin _ _ i6)
   ·have g2:¬ (2:Int)≤(m:Int):=by omega
    simp [-Array.toList_setIfInBounds,-ofVal,ofVal_int,g2]
    by_cases y1:m = 1
    ·have z1:q < 10:=by have:=i2.small;rw [y1] at this;simpa using this
     have i5:=FmtInv.step1 (by rw [y1] at i2;exact i2)
     obtain ⟨d1,d2⟩:=fb1 q z1
     have g0:(0:Int) < (m:Int):=by omega
     have gn:0 < m:=by omega
     have g1:0 < n:=by have:=i2.le;omega
     generalize UInt8.ofNat (48+q) = c9 at *
     simp [-Array.toList_setIfInBounds,-ofVal,-blkClosed,ofVal_int,gn,g1,d1,d2,hb,i2.size,htl,hnn,sb]
     exact orP_fin (fin _ _ i5)
    ·have z0:m = 0:=by omega
     rw [z0] at i2
     simp [-Array.toList_setIfInBounds,-ofVal,-blkClosed,z0]
     exact orP_fin (fin _ _ i2)
  ·have g4:¬ (4:Int)≤(nd:Int):=by omega
   simp [-ofVal,ofVal_int,h0,h1,h4,h8',g4,wv]
   clear wv
   by_cases x2:2≤nd
   ·obtain ⟨m2,hm2⟩:∃ mm,nd = mm+2:=⟨nd - 2,by omega⟩
    have i6:=FmtInv.step2' (k:=m2) (by rw [hm2] at hi;exact hi)
    obtain ⟨p1,hp1⟩:∃ y,y = m2+1:=⟨_,rfl⟩
    have g2:(2:Int)≤(nd:Int):=by omega
    have e1:(nd:Int) - 1 = (p1:Int):=by omega
    have e2:(nd:Int) - 2 = (m2:Int):=by omega
    have hle2:=hi.le
    have r1:(p1:Int) < (n:Int)∧p1 < n∧p1 < 24:=by omega
    have r2:(m2:Int) < (n:Int)∧m2 < n∧m2 < 24:=by omega
    have m2lt:m2 < 2:=by omega
    have q1:v < 100000000:=lt8 hi (by omega)
    rw [← hp1] at i6
    have j1':=wk 1 e1 (Nat.le_of_lt r1.2.2)
    have j2':=wk 2 e2 (Nat.le_of_lt r2.2.2)
    clear e1 e2
    obtain ⟨v2,y9,t9,z9,⟨a1,a2,w2,u9,w9,s1,s2,fq⟩⟩:=fb2 v q1
    rw [fq] at i6
    generalize sm (v % 100 * 2+1) = c5 at *
    generalize sm (v % 100 * 2) = c6 at *
    simp [-Array.toList_setIfInBounds,-ofVal,ofVal_int,hv,g2,r1,r2,j1',j2',a1,a2,w2,u9,w9,s1,s2,hb,hi.size,htl,hnn,sb,Nat.succ_le_of_lt]
    clear a1 a2 w2 u9 w9 s1 s2 j1' j2' fq
    obtain ⟨dk2,hdk2⟩:∃ a,a = (dk.setIfInBounds p1 c5).setIfInBounds m2 c6:=⟨_,rfl⟩
    rw [← hdk2] at i6 ⊢
    clear hdk2
    by_cases y1:m2 = 1
    ·have z1:v2 < 10:=by have:=i6.small;rw [y1] at this;simpa using this
     have i5:=FmtInv.step1 (by rw [y1] at i6;exact i6)
     obtain ⟨d1,d2⟩:=fb1 v2 z1
     have g0:(0:Int) < (m2:Int):=by omega
     have gn:0 < m2:=by omega
     have g1:0 < n:=by have:=i6.le;omega
     generalize UInt8.ofNat (48+v2) = c9 at *
     simp [-Array.toList_setIfInBounds,-ofVal,-blkClosed,ofVal_int,gn,g1,d1,d2,hb,i6.size,htl,hnn,sb]
     exact orP_fin (fin _ _ i5)
    ·have z0:m2 = 0:=by omega
     rw [z0] at i6
     simp [-Array.toList_setIfInBounds,-ofVal,-blkClosed,z0]
     exact orP_fin (fin _ _ i6)
   ·have g2:¬ (2:Int)≤(nd:Int):=by omega
    simp [-Array.toList_setIfInBounds,-ofVal,ofVal_int,g2]
    by_cases y1:nd = 1
    ·have z1:v < 10:=by have:=hi.small;rw [y1] at this;simpa using this
     have i5:=FmtInv.step1 (by rw [y1] at hi;exact hi)
     obtain ⟨d1,d2⟩:=fb1 v z1
     have g0:(0:Int) < (nd:Int):=by omega
     have gn:0 < nd:=by omega
     have g1:0 < n:=by have:=hi.le;omega
     generalize UInt8.ofNat (48+v) = c9 at *
     simp [-Array.toList_setIfInBounds,-ofVal,-blkClosed,ofVal_int,gn,g1,d1,d2,hb,hi.size,htl,hnn,sb]
     exact orP_fin (fin _ _ i5)
    ·have z0:nd = 0:=by omega
     rw [z0] at hi
     simp [-Array.toList_setIfInBounds,-ofVal,-blkClosed,z0]
     exact orP_fin (fin _ _ hi)
end Go.Ev.S
namespace Go.Ev.S
open Go Go.Proofs Go.Ev Go.Lib
theorem row_dec {u v':Nat} {dk:Array UInt8} (h:FmtInv (nDigits u) u 0 v' dk):dk.toList = decDigits u:=by
 apply List.ext_getElem
 ·rw [decDigits_length,Array.length_toList,h.size]
 ·intro j h1 h2
  rw [row_is_numeral h j h2,getElem!_pos dk j (by simpa using h1)]
  simp
set_option maxHeartbeats 1000000 in
theorem fui_ev [MaxL] [TxtC] (v:Nat) (hv:v < 18446744073709551616):call cx 160 [.int .u64 v,.int .i64 10] [] = some (.str (dec v),[]):=by
 refine call_run Tryz.func160 rfl ⟨rfl,rfl⟩ ?_
 by_cases hs:v < 100
 ·have hs':(v:Int) < 100:=by omega
  have h1:=small_ev v hs
  have hw:IntKind.i64.wrap (v:Int) = (v:Int):=by rw [wrap_i64];omega
  simp [Tryz.f160,hs',h1,hw]
 ·have hs':¬ (v:Int) < 100:=by omega
  have h1:=ndig_ev v (by omega) hv
  have hn:nDigits v≤20:=by
   have:=numDigits_eq v (by omega) hv
   split at this <;> omega
  obtain ⟨v',dk,i1,i2⟩:=fb10_ev (nDigits v) v (by omega) (lt_pow_nDigits v) hv (List.replicate (24 - nDigits v) 0) (by simp) (Array.replicate (nDigits v) 0) (by simp) [some (ofBytes (List.replicate 24 0))] 0 (by simp) (by simp) (by
   simp only [List.getElem_cons_zero,Array.toList_replicate,List.replicate_append_replicate]
   congr 3
   omega)
  have hr:=row_dec i1
  have hsz:=i1.size
  have hl:(decDigits v).length = nDigits v:=decDigits_length v
  rw [hr] at i2
  rw [dec_lib hv]
  generalize nDigits v = n at *
  generalize decDigits v = w at *
  have hn':(n:Int)≤24:=by omega
  have hn2:n≤24:=by omega
  clear hv
  have e24:ofBytes (List.replicate 24 0) = [D.int .u8 0,D.int .u8 0,D.int .u8 0,D.int .u8 0,D.int .u8 0,D.int .u8 0,D.int .u8 0,D.int .u8 0,D.int .u8 0,D.int .u8 0,D.int .u8 0,D.int .u8 0,D.int .u8 0,D.int .u8 0,D.int .u8 0,D.int .u8 0,D.int .u8 0,D.int .u8 0,D.int .u8 0,D.int .u8 0,D.int .u8 0,D.int .u8 0,D.int .u8 0,D.int .u8 0]:=rfl
  rw [e24] at i2
  have hd:dk.toList = w:=hr
  have k1:w.length+(24 - n) = 24:=by omega
  have k2:n≤w.length+(24 - n):=by omega
  have k3:List.take n (ofBytes (w ++ List.replicate (24 - n) 0)) = ofBytes w:=by
   rw [ofBytes_take,← hl,List.take_left]
  have k4:n≤24:=hn2
  simp [Tryz.f160,hs',h1,hn',hn2,i2,k1,k3]
theorem fu_ev [MaxL] [TxtC] (v:Nat) (hv:v < 18446744073709551616):call cx 131 [.int .u64 v,.int .i64 10] [] = some (.str (dec v),[]):=by
 have h:=fui_ev v hv
 refine call_run Tryz.func131 rfl ⟨rfl,rfl⟩ ?_
 simp [Tryz.f131,h]
end Go.Ev.S
