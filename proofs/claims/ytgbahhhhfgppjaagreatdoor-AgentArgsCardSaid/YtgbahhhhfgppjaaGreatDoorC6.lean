import Derived.Test.YtgbahhhhfgppjaaGreatDoorC5
import Derived.Shelf.Strconv.Itoa0
import Derived.Shelf.Strconv.Itoa1
import Derived.Shelf.LaysM
import Derived.Shelf.Strconv.Clone
import Derived.Shelf.Strings.Search2
import Derived.Shelf.Bytes.SlIndexWhole
import Derived.Test.YtgbahhhhfgppjaaGreatDoorProg
import Derived.Shelf.SlLaysNS
/- What the evaluator needs of this program: printed by program. -/
namespace Go.Ev.S
open Go Go.Proofs Go.Ev
@[simp] theorem sz2 : szOf Tryz.prog 2 = 1 := by kernel_rfl
@[simp] theorem ag2 : aggQ Tryz.prog 2 = some false := by kernel_rfl
@[simp] theorem by2 : bytesOf Tryz.prog 2 = 8 := by kernel_rfl
@[simp] theorem zo2 : zeroOf Tryz.prog 2 = some (.int .i64 0) := by kernel_rfl
@[simp] theorem cq2 : cmpQ Tryz.prog 2 = true := by kernel_rfl
@[simp] theorem un2 : Tryz.prog.underlying 2 = some (.int .i64) := by kernel_rfl
@[simp] theorem sz3 : szOf Tryz.prog 3 = 1 := by kernel_rfl
@[simp] theorem ag3 : aggQ Tryz.prog 3 = some false := by kernel_rfl
@[simp] theorem by3 : bytesOf Tryz.prog 3 = 8 := by kernel_rfl
@[simp] theorem zo3 : zeroOf Tryz.prog 3 = some (.int .i64 0) := by kernel_rfl
@[simp] theorem cq3 : cmpQ Tryz.prog 3 = true := by kernel_rfl
@[simp] theorem un3 : Tryz.prog.underlying 3 = some (.int .i64) := by kernel_rfl
@[simp] theorem sz4 : szOf Tryz.prog 4 = 1 := by kernel_rfl
@[simp] theorem ag4 : aggQ Tryz.prog 4 = some false := by kernel_rfl
@[simp] theorem by4 : bytesOf Tryz.prog 4 = 1 := by kernel_rfl
@[simp] theorem zo4 : zeroOf Tryz.prog 4 = some (.bool false) := by kernel_rfl
@[simp] theorem un4 : Tryz.prog.underlying 4 = some .bool := by kernel_rfl
@[simp] theorem sz5 : szOf Tryz.prog 5 = 1 := by kernel_rfl
@[simp] theorem ag5 : aggQ Tryz.prog 5 = some false := by kernel_rfl
@[simp] theorem by5 : bytesOf Tryz.prog 5 = 1 := by kernel_rfl
@[simp] theorem zo5 : zeroOf Tryz.prog 5 = some (.int .u8 0) := by kernel_rfl
@[simp] theorem cq5 : cmpQ Tryz.prog 5 = true := by kernel_rfl
@[simp] theorem un5 : Tryz.prog.underlying 5 = some (.int .u8) := by kernel_rfl
@[simp] theorem sz9 : szOf Tryz.prog 9 = 1 := by kernel_rfl
@[simp] theorem ag9 : aggQ Tryz.prog 9 = some false := by kernel_rfl
@[simp] theorem by9 : bytesOf Tryz.prog 9 = 16 := by kernel_rfl
@[simp] theorem zo9 : zeroOf Tryz.prog 9 = some (.str []) := by kernel_rfl
@[simp] theorem un9 : Tryz.prog.underlying 9 = some .string := by kernel_rfl
@[simp] theorem sz21 : szOf Tryz.prog 21 = 1 := by kernel_rfl
@[simp] theorem ag21 : aggQ Tryz.prog 21 = some false := by kernel_rfl
@[simp] theorem by21 : bytesOf Tryz.prog 21 = 4 := by kernel_rfl
@[simp] theorem zo21 : zeroOf Tryz.prog 21 = some (.int .i32 0) := by kernel_rfl
@[simp] theorem cq21 : cmpQ Tryz.prog 21 = true := by kernel_rfl
@[simp] theorem un21 : Tryz.prog.underlying 21 = some (.int .i32) := by kernel_rfl
@[simp] theorem sz22 : szOf Tryz.prog 22 = 1 := by kernel_rfl
@[simp] theorem ag22 : aggQ Tryz.prog 22 = some false := by kernel_rfl
@[simp] theorem by22 : bytesOf Tryz.prog 22 = 24 := by kernel_rfl
@[simp] theorem zo22 : zeroOf Tryz.prog 22 = some (.vsl true [] 0) := by kernel_rfl
@[simp] theorem un22 : Tryz.prog.underlying 22 = some (.slice 29) := by kernel_rfl
@[simp] theorem sz23 : szOf Tryz.prog 23 = 1 := by kernel_rfl
@[simp] theorem ag23 : aggQ Tryz.prog 23 = some true := by kernel_rfl
@[simp] theorem by23 : bytesOf Tryz.prog 23 = 24 := by kernel_rfl
@[simp] theorem zo23 : zeroOf Tryz.prog 23 = some (.agg [.vsl true [] 0]) := by kernel_rfl
attribute [simp] Tryz.underlying23
@[simp] theorem sz24 : szOf Tryz.prog 24 = 1 := by kernel_rfl
@[simp] theorem ag24 : aggQ Tryz.prog 24 = some true := by kernel_rfl
@[simp] theorem by24 : bytesOf Tryz.prog 24 = 24 := by kernel_rfl
@[simp] theorem zo24 : zeroOf Tryz.prog 24 = some (.agg [.vsl true [] 0]) := by kernel_rfl
attribute [simp] Tryz.underlying24
@[simp] theorem sz25 : szOf Tryz.prog 25 = 3 := by kernel_rfl
@[simp] theorem ag25 : aggQ Tryz.prog 25 = some true := by kernel_rfl
@[simp] theorem by25 : bytesOf Tryz.prog 25 = 24 := by kernel_rfl
@[simp] theorem zo25 : zeroOf Tryz.prog 25 = some (.agg [.int .i64 0, .int .i64 0, .int .i64 0]) := by kernel_rfl
attribute [simp] Tryz.underlying25
@[simp] theorem sz26 : szOf Tryz.prog 26 = 3 := by kernel_rfl
@[simp] theorem ag26 : aggQ Tryz.prog 26 = some true := by kernel_rfl
@[simp] theorem by26 : bytesOf Tryz.prog 26 = 24 := by kernel_rfl
@[simp] theorem zo26 : zeroOf Tryz.prog 26 = some (.agg [.int .i64 0, .int .i64 0, .int .i64 0]) := by kernel_rfl
attribute [simp] Tryz.underlying26
@[simp] theorem sz27 : szOf Tryz.prog 27 = 1 := by kernel_rfl
@[simp] theorem ag27 : aggQ Tryz.prog 27 = some false := by kernel_rfl
@[simp] theorem by27 : bytesOf Tryz.prog 27 = 24 := by kernel_rfl
@[simp] theorem zo27 : zeroOf Tryz.prog 27 = some (.vsl true [] 0) := by kernel_rfl
@[simp] theorem un27 : Tryz.prog.underlying 27 = some (.slice 3) := by kernel_rfl
@[simp] theorem sz29 : szOf Tryz.prog 29 = 1 := by kernel_rfl
@[simp] theorem ag29 : aggQ Tryz.prog 29 = some false := by kernel_rfl
@[simp] theorem by29 : bytesOf Tryz.prog 29 = 24 := by kernel_rfl
@[simp] theorem zo29 : zeroOf Tryz.prog 29 = some (.vsl true [] 0) := by kernel_rfl
@[simp] theorem un29 : Tryz.prog.underlying 29 = some (.slice 68) := by kernel_rfl
@[simp] theorem sz30 : szOf Tryz.prog 30 = 1 := by kernel_rfl
@[simp] theorem ag30 : aggQ Tryz.prog 30 = some false := by kernel_rfl
@[simp] theorem by30 : bytesOf Tryz.prog 30 = 8 := by kernel_rfl
@[simp] theorem zo30 : zeroOf Tryz.prog 30 = some (.nilp) := by kernel_rfl
@[simp] theorem un30 : Tryz.prog.underlying 30 = some (.pointer 65) := by kernel_rfl
@[simp] theorem sz33 : szOf Tryz.prog 33 = 6 := by kernel_rfl
@[simp] theorem ag33 : aggQ Tryz.prog 33 = some true := by kernel_rfl
@[simp] theorem by33 : bytesOf Tryz.prog 33 = 64 := by kernel_rfl
@[simp] theorem zo33 : zeroOf Tryz.prog 33 = some (.agg [.vsl true [] 0, .int .i64 0, .int .i64 0, .int .i64 0, .int .i64 0, .int .i64 0]) := by kernel_rfl
attribute [simp] Tryz.underlying33
@[simp] theorem sz34 : szOf Tryz.prog 34 = 6 := by kernel_rfl
@[simp] theorem ag34 : aggQ Tryz.prog 34 = some true := by kernel_rfl
@[simp] theorem by34 : bytesOf Tryz.prog 34 = 64 := by kernel_rfl
@[simp] theorem zo34 : zeroOf Tryz.prog 34 = some (.agg [.vsl true [] 0, .int .i64 0, .int .i64 0, .int .i64 0, .int .i64 0, .int .i64 0]) := by kernel_rfl
attribute [simp] Tryz.underlying34
@[simp] theorem sz37 : szOf Tryz.prog 37 = 1 := by kernel_rfl
@[simp] theorem ag37 : aggQ Tryz.prog 37 = some false := by kernel_rfl
@[simp] theorem by37 : bytesOf Tryz.prog 37 = 8 := by kernel_rfl
@[simp] theorem zo37 : zeroOf Tryz.prog 37 = some (.nilp) := by kernel_rfl
@[simp] theorem un37 : Tryz.prog.underlying 37 = some (.pointer 73) := by kernel_rfl
@[simp] theorem sz43 : szOf Tryz.prog 43 = 1 := by kernel_rfl
@[simp] theorem ag43 : aggQ Tryz.prog 43 = some false := by kernel_rfl
@[simp] theorem by43 : bytesOf Tryz.prog 43 = 24 := by kernel_rfl
@[simp] theorem zo43 : zeroOf Tryz.prog 43 = some (.vsl true [] 0) := by kernel_rfl
@[simp] theorem un43 : Tryz.prog.underlying 43 = some (.slice 5) := by kernel_rfl
@[simp] theorem sz49 : szOf Tryz.prog 49 = 1 := by kernel_rfl
@[simp] theorem ag49 : aggQ Tryz.prog 49 = some false := by kernel_rfl
@[simp] theorem by49 : bytesOf Tryz.prog 49 = 8 := by kernel_rfl
@[simp] theorem zo49 : zeroOf Tryz.prog 49 = some (.int .u64 0) := by kernel_rfl
@[simp] theorem cq49 : cmpQ Tryz.prog 49 = true := by kernel_rfl
@[simp] theorem un49 : Tryz.prog.underlying 49 = some (.int .u64) := by kernel_rfl
@[simp] theorem sz50 : szOf Tryz.prog 50 = 4 := by kernel_rfl
@[simp] theorem ag50 : aggQ Tryz.prog 50 = some true := by kernel_rfl
@[simp] theorem by50 : bytesOf Tryz.prog 50 = 56 := by kernel_rfl
@[simp] theorem zo50 : zeroOf Tryz.prog 50 = some (.agg [.str [], .int .u64 0, .int .u64 0, .vsl true [] 0]) := by kernel_rfl
attribute [simp] Tryz.underlying50
@[simp] theorem sz51 : szOf Tryz.prog 51 = 4 := by kernel_rfl
@[simp] theorem ag51 : aggQ Tryz.prog 51 = some true := by kernel_rfl
@[simp] theorem by51 : bytesOf Tryz.prog 51 = 56 := by kernel_rfl
@[simp] theorem zo51 : zeroOf Tryz.prog 51 = some (.agg [.str [], .int .u64 0, .int .u64 0, .vsl true [] 0]) := by kernel_rfl
attribute [simp] Tryz.underlying51
@[simp] theorem sz54 : szOf Tryz.prog 54 = 1 := by kernel_rfl
@[simp] theorem ag54 : aggQ Tryz.prog 54 = some false := by kernel_rfl
@[simp] theorem by54 : bytesOf Tryz.prog 54 = 8 := by kernel_rfl
@[simp] theorem zo54 : zeroOf Tryz.prog 54 = some (.nilp) := by kernel_rfl
@[simp] theorem un54 : Tryz.prog.underlying 54 = some (.pointer 105) := by kernel_rfl
@[simp] theorem sz58 : szOf Tryz.prog 58 = 1 := by kernel_rfl
@[simp] theorem ag58 : aggQ Tryz.prog 58 = some false := by kernel_rfl
@[simp] theorem by58 : bytesOf Tryz.prog 58 = 24 := by kernel_rfl
@[simp] theorem zo58 : zeroOf Tryz.prog 58 = some (.vsl true [] 0) := by kernel_rfl
@[simp] theorem un58 : Tryz.prog.underlying 58 = some (.slice 217) := by kernel_rfl
@[simp] theorem sz59 : szOf Tryz.prog 59 = 2 := by kernel_rfl
@[simp] theorem ag59 : aggQ Tryz.prog 59 = some true := by kernel_rfl
@[simp] theorem by59 : bytesOf Tryz.prog 59 = 32 := by kernel_rfl
@[simp] theorem zo59 : zeroOf Tryz.prog 59 = some (.agg [.int .u64 0, .vsl true [] 0]) := by kernel_rfl
attribute [simp] Tryz.underlying59
@[simp] theorem sz60 : szOf Tryz.prog 60 = 2 := by kernel_rfl
@[simp] theorem ag60 : aggQ Tryz.prog 60 = some true := by kernel_rfl
@[simp] theorem by60 : bytesOf Tryz.prog 60 = 32 := by kernel_rfl
@[simp] theorem zo60 : zeroOf Tryz.prog 60 = some (.agg [.int .u64 0, .vsl true [] 0]) := by kernel_rfl
attribute [simp] Tryz.underlying60
@[simp] theorem sz61 : szOf Tryz.prog 61 = 1 := by kernel_rfl
@[simp] theorem ag61 : aggQ Tryz.prog 61 = some false := by kernel_rfl
@[simp] theorem by61 : bytesOf Tryz.prog 61 = 24 := by kernel_rfl
@[simp] theorem zo61 : zeroOf Tryz.prog 61 = some (.vsl true [] 0) := by kernel_rfl
@[simp] theorem un61 : Tryz.prog.underlying 61 = some (.slice 167) := by kernel_rfl
@[simp] theorem sz62 : szOf Tryz.prog 62 = 4 := by kernel_rfl
@[simp] theorem ag62 : aggQ Tryz.prog 62 = some true := by kernel_rfl
@[simp] theorem by62 : bytesOf Tryz.prog 62 = 64 := by kernel_rfl
@[simp] theorem zo62 : zeroOf Tryz.prog 62 = some (.agg [.vsl true [] 0, .vsl true [] 0, .int .i64 0, .int .i64 0]) := by kernel_rfl
attribute [simp] Tryz.underlying62
@[simp] theorem sz63 : szOf Tryz.prog 63 = 4 := by kernel_rfl
@[simp] theorem ag63 : aggQ Tryz.prog 63 = some true := by kernel_rfl
@[simp] theorem by63 : bytesOf Tryz.prog 63 = 64 := by kernel_rfl
@[simp] theorem zo63 : zeroOf Tryz.prog 63 = some (.agg [.vsl true [] 0, .vsl true [] 0, .int .i64 0, .int .i64 0]) := by kernel_rfl
attribute [simp] Tryz.underlying63
@[simp] theorem sz64 : szOf Tryz.prog 64 = 15 := by kernel_rfl
@[simp] theorem ag64 : aggQ Tryz.prog 64 = some true := by kernel_rfl
@[simp] theorem by64 : bytesOf Tryz.prog 64 = 184 := by kernel_rfl
@[simp] theorem zo64 : zeroOf Tryz.prog 64 = some (.agg [.vsl true [] 0, .int .i64 0, .int .i64 0, .int .i64 0, .int .i64 0, .int .i64 0, .int .i64 0, .int .u64 0, .vsl true [] 0, .nilp, .int .u64 0, .vsl true [] 0, .vsl true [] 0, .int .i64 0, .int .i64 0]) := by kernel_rfl
attribute [simp] Tryz.underlying64
@[simp] theorem sz65 : szOf Tryz.prog 65 = 15 := by kernel_rfl
@[simp] theorem ag65 : aggQ Tryz.prog 65 = some true := by kernel_rfl
@[simp] theorem by65 : bytesOf Tryz.prog 65 = 184 := by kernel_rfl
@[simp] theorem zo65 : zeroOf Tryz.prog 65 = some (.agg [.vsl true [] 0, .int .i64 0, .int .i64 0, .int .i64 0, .int .i64 0, .int .i64 0, .int .i64 0, .int .u64 0, .vsl true [] 0, .nilp, .int .u64 0, .vsl true [] 0, .vsl true [] 0, .int .i64 0, .int .i64 0]) := by kernel_rfl
attribute [simp] Tryz.underlying65
@[simp] theorem sz66 : szOf Tryz.prog 66 = 1 := by kernel_rfl
@[simp] theorem ag66 : aggQ Tryz.prog 66 = some false := by kernel_rfl
@[simp] theorem by66 : bytesOf Tryz.prog 66 = 24 := by kernel_rfl
@[simp] theorem zo66 : zeroOf Tryz.prog 66 = some (.vsl true [] 0) := by kernel_rfl
@[simp] theorem un66 : Tryz.prog.underlying 66 = some (.slice 9) := by kernel_rfl
@[simp] theorem sz67 : szOf Tryz.prog 67 = 2 := by kernel_rfl
@[simp] theorem ag67 : aggQ Tryz.prog 67 = some true := by kernel_rfl
@[simp] theorem by67 : bytesOf Tryz.prog 67 = 40 := by kernel_rfl
@[simp] theorem zo67 : zeroOf Tryz.prog 67 = some (.agg [.str [], .vsl true [] 0]) := by kernel_rfl
attribute [simp] Tryz.underlying67
@[simp] theorem sz68 : szOf Tryz.prog 68 = 2 := by kernel_rfl
@[simp] theorem ag68 : aggQ Tryz.prog 68 = some true := by kernel_rfl
@[simp] theorem by68 : bytesOf Tryz.prog 68 = 40 := by kernel_rfl
@[simp] theorem zo68 : zeroOf Tryz.prog 68 = some (.agg [.str [], .vsl true [] 0]) := by kernel_rfl
attribute [simp] Tryz.underlying68
@[simp] theorem sz70 : szOf Tryz.prog 70 = 1 := by kernel_rfl
@[simp] theorem ag70 : aggQ Tryz.prog 70 = some false := by kernel_rfl
@[simp] theorem by70 : bytesOf Tryz.prog 70 = 24 := by kernel_rfl
@[simp] theorem zo70 : zeroOf Tryz.prog 70 = some (.vsl true [] 0) := by kernel_rfl
@[simp] theorem un70 : Tryz.prog.underlying 70 = some (.slice 80) := by kernel_rfl
@[simp] theorem sz71 : szOf Tryz.prog 71 = 1 := by kernel_rfl
@[simp] theorem ag71 : aggQ Tryz.prog 71 = some false := by kernel_rfl
@[simp] theorem by71 : bytesOf Tryz.prog 71 = 24 := by kernel_rfl
@[simp] theorem zo71 : zeroOf Tryz.prog 71 = some (.vsl true [] 0) := by kernel_rfl
@[simp] theorem un71 : Tryz.prog.underlying 71 = some (.slice 90) := by kernel_rfl
@[simp] theorem sz72 : szOf Tryz.prog 72 = 5 := by kernel_rfl
@[simp] theorem ag72 : aggQ Tryz.prog 72 = some true := by kernel_rfl
@[simp] theorem by72 : bytesOf Tryz.prog 72 = 72 := by kernel_rfl
@[simp] theorem zo72 : zeroOf Tryz.prog 72 = some (.agg [.int .i64 0, .int .i64 0, .bool false, .vsl true [] 0, .vsl true [] 0]) := by kernel_rfl
attribute [simp] Tryz.underlying72
@[simp] theorem sz73 : szOf Tryz.prog 73 = 5 := by kernel_rfl
@[simp] theorem ag73 : aggQ Tryz.prog 73 = some true := by kernel_rfl
@[simp] theorem by73 : bytesOf Tryz.prog 73 = 72 := by kernel_rfl
@[simp] theorem zo73 : zeroOf Tryz.prog 73 = some (.agg [.int .i64 0, .int .i64 0, .bool false, .vsl true [] 0, .vsl true [] 0]) := by kernel_rfl
attribute [simp] Tryz.underlying73
@[simp] theorem sz74 : szOf Tryz.prog 74 = 1 := by kernel_rfl
@[simp] theorem ag74 : aggQ Tryz.prog 74 = some false := by kernel_rfl
@[simp] theorem by74 : bytesOf Tryz.prog 74 = 8 := by kernel_rfl
@[simp] theorem zo74 : zeroOf Tryz.prog 74 = some (.nilp) := by kernel_rfl
@[simp] theorem un74 : Tryz.prog.underlying 74 = some (.pointer 76) := by kernel_rfl
@[simp] theorem sz75 : szOf Tryz.prog 75 = 2 := by kernel_rfl
@[simp] theorem ag75 : aggQ Tryz.prog 75 = some true := by kernel_rfl
@[simp] theorem by75 : bytesOf Tryz.prog 75 = 32 := by kernel_rfl
@[simp] theorem zo75 : zeroOf Tryz.prog 75 = some (.agg [.vsl true [] 0, .int .i64 0]) := by kernel_rfl
attribute [simp] Tryz.underlying75
@[simp] theorem sz76 : szOf Tryz.prog 76 = 2 := by kernel_rfl
@[simp] theorem ag76 : aggQ Tryz.prog 76 = some true := by kernel_rfl
@[simp] theorem by76 : bytesOf Tryz.prog 76 = 32 := by kernel_rfl
@[simp] theorem zo76 : zeroOf Tryz.prog 76 = some (.agg [.vsl true [] 0, .int .i64 0]) := by kernel_rfl
attribute [simp] Tryz.underlying76
@[simp] theorem sz80 : szOf Tryz.prog 80 = 1 := by kernel_rfl
@[simp] theorem ag80 : aggQ Tryz.prog 80 = some false := by kernel_rfl
@[simp] theorem by80 : bytesOf Tryz.prog 80 = 8 := by kernel_rfl
@[simp] theorem zo80 : zeroOf Tryz.prog 80 = some (.nilp) := by kernel_rfl
@[simp] theorem un80 : Tryz.prog.underlying 80 = some (.pointer 88) := by kernel_rfl
@[simp] theorem sz85 : szOf Tryz.prog 85 = 1 := by kernel_rfl
@[simp] theorem ag85 : aggQ Tryz.prog 85 = some false := by kernel_rfl
@[simp] theorem by85 : bytesOf Tryz.prog 85 = 8 := by kernel_rfl
@[simp] theorem zo85 : zeroOf Tryz.prog 85 = some (.nilp) := by kernel_rfl
@[simp] theorem un85 : Tryz.prog.underlying 85 = some (.pointer 114) := by kernel_rfl
@[simp] theorem sz87 : szOf Tryz.prog 87 = 3 := by kernel_rfl
@[simp] theorem ag87 : aggQ Tryz.prog 87 = some true := by kernel_rfl
@[simp] theorem by87 : bytesOf Tryz.prog 87 = 32 := by kernel_rfl
@[simp] theorem zo87 : zeroOf Tryz.prog 87 = some (.agg [.str [], .bool false, .nilp]) := by kernel_rfl
attribute [simp] Tryz.underlying87
@[simp] theorem sz88 : szOf Tryz.prog 88 = 3 := by kernel_rfl
@[simp] theorem ag88 : aggQ Tryz.prog 88 = some true := by kernel_rfl
@[simp] theorem by88 : bytesOf Tryz.prog 88 = 32 := by kernel_rfl
@[simp] theorem zo88 : zeroOf Tryz.prog 88 = some (.agg [.str [], .bool false, .nilp]) := by kernel_rfl
attribute [simp] Tryz.underlying88
@[simp] theorem sz89 : szOf Tryz.prog 89 = 4 := by kernel_rfl
@[simp] theorem ag89 : aggQ Tryz.prog 89 = some true := by kernel_rfl
@[simp] theorem by89 : bytesOf Tryz.prog 89 = 40 := by kernel_rfl
@[simp] theorem zo89 : zeroOf Tryz.prog 89 = some (.agg [.int .i64 0, .nilp, .str [], .nilp]) := by kernel_rfl
attribute [simp] Tryz.underlying89
@[simp] theorem sz90 : szOf Tryz.prog 90 = 4 := by kernel_rfl
@[simp] theorem ag90 : aggQ Tryz.prog 90 = some true := by kernel_rfl
@[simp] theorem by90 : bytesOf Tryz.prog 90 = 40 := by kernel_rfl
@[simp] theorem zo90 : zeroOf Tryz.prog 90 = some (.agg [.int .i64 0, .nilp, .str [], .nilp]) := by kernel_rfl
attribute [simp] Tryz.underlying90
@[simp] theorem sz96 : szOf Tryz.prog 96 = 1 := by kernel_rfl
@[simp] theorem ag96 : aggQ Tryz.prog 96 = some false := by kernel_rfl
@[simp] theorem by96 : bytesOf Tryz.prog 96 = 24 := by kernel_rfl
@[simp] theorem zo96 : zeroOf Tryz.prog 96 = some (.vsl true [] 0) := by kernel_rfl
@[simp] theorem un96 : Tryz.prog.underlying 96 = some (.slice 4) := by kernel_rfl
@[simp] theorem sz99 : szOf Tryz.prog 99 = 4 := by kernel_rfl
@[simp] theorem ag99 : aggQ Tryz.prog 99 = some true := by kernel_rfl
@[simp] theorem by99 : bytesOf Tryz.prog 99 = 48 := by kernel_rfl
@[simp] theorem zo99 : zeroOf Tryz.prog 99 = some (.agg [.int .i64 0, .int .u64 0, .int .u64 0, .vsl true [] 0]) := by kernel_rfl
attribute [simp] Tryz.underlying99
@[simp] theorem sz100 : szOf Tryz.prog 100 = 4 := by kernel_rfl
@[simp] theorem ag100 : aggQ Tryz.prog 100 = some true := by kernel_rfl
@[simp] theorem by100 : bytesOf Tryz.prog 100 = 48 := by kernel_rfl
@[simp] theorem zo100 : zeroOf Tryz.prog 100 = some (.agg [.int .i64 0, .int .u64 0, .int .u64 0, .vsl true [] 0]) := by kernel_rfl
attribute [simp] Tryz.underlying100
@[simp] theorem sz104 : szOf Tryz.prog 104 = 7 := by kernel_rfl
@[simp] theorem ag104 : aggQ Tryz.prog 104 = some true := by kernel_rfl
@[simp] theorem by104 : bytesOf Tryz.prog 104 = 72 := by kernel_rfl
@[simp] theorem zo104 : zeroOf Tryz.prog 104 = some (.agg [.int .i64 0, .int .i64 0, .vsl true [] 0, .bool false, .int .i64 0, .int .i64 0, .int .i64 0]) := by kernel_rfl
attribute [simp] Tryz.underlying104
@[simp] theorem sz105 : szOf Tryz.prog 105 = 7 := by kernel_rfl
@[simp] theorem ag105 : aggQ Tryz.prog 105 = some true := by kernel_rfl
@[simp] theorem by105 : bytesOf Tryz.prog 105 = 72 := by kernel_rfl
@[simp] theorem zo105 : zeroOf Tryz.prog 105 = some (.agg [.int .i64 0, .int .i64 0, .vsl true [] 0, .bool false, .int .i64 0, .int .i64 0, .int .i64 0]) := by kernel_rfl
attribute [simp] Tryz.underlying105
@[simp] theorem sz110 : szOf Tryz.prog 110 = 1 := by kernel_rfl
@[simp] theorem ag110 : aggQ Tryz.prog 110 = some false := by kernel_rfl
@[simp] theorem by110 : bytesOf Tryz.prog 110 = 24 := by kernel_rfl
@[simp] theorem zo110 : zeroOf Tryz.prog 110 = some (.vsl true [] 0) := by kernel_rfl
@[simp] theorem un110 : Tryz.prog.underlying 110 = some (.slice 66) := by kernel_rfl
@[simp] theorem sz113 : szOf Tryz.prog 113 = 2 := by kernel_rfl
@[simp] theorem ag113 : aggQ Tryz.prog 113 = some true := by kernel_rfl
@[simp] theorem by113 : bytesOf Tryz.prog 113 = 48 := by kernel_rfl
@[simp] theorem zo113 : zeroOf Tryz.prog 113 = some (.agg [.vsl true [] 0, .vsl true [] 0]) := by kernel_rfl
attribute [simp] Tryz.underlying113
@[simp] theorem sz114 : szOf Tryz.prog 114 = 2 := by kernel_rfl
@[simp] theorem ag114 : aggQ Tryz.prog 114 = some true := by kernel_rfl
@[simp] theorem by114 : bytesOf Tryz.prog 114 = 48 := by kernel_rfl
@[simp] theorem zo114 : zeroOf Tryz.prog 114 = some (.agg [.vsl true [] 0, .vsl true [] 0]) := by kernel_rfl
attribute [simp] Tryz.underlying114
@[simp] theorem sz132 : szOf Tryz.prog 132 = 1 := by kernel_rfl
@[simp] theorem ag132 : aggQ Tryz.prog 132 = some false := by kernel_rfl
@[simp] theorem by132 : bytesOf Tryz.prog 132 = 8 := by kernel_rfl
@[simp] theorem zo132 : zeroOf Tryz.prog 132 = some (.nilf) := by kernel_rfl
@[simp] theorem sz137 : szOf Tryz.prog 137 = 3 := by kernel_rfl
@[simp] theorem ag137 : aggQ Tryz.prog 137 = some true := by kernel_rfl
@[simp] theorem by137 : bytesOf Tryz.prog 137 = 24 := by kernel_rfl
@[simp] theorem zo137 : zeroOf Tryz.prog 137 = some (.agg [.int .u64 0, .int .u64 0, .int .u64 0]) := by kernel_rfl
@[simp] theorem un137 : Tryz.prog.underlying 137 = some (.array 3 49) := by kernel_rfl
@[simp] theorem sz140 : szOf Tryz.prog 140 = 2 := by kernel_rfl
@[simp] theorem ag140 : aggQ Tryz.prog 140 = some true := by kernel_rfl
@[simp] theorem by140 : bytesOf Tryz.prog 140 = 32 := by kernel_rfl
@[simp] theorem zo140 : zeroOf Tryz.prog 140 = some (.agg [.str [], .str []]) := by kernel_rfl
attribute [simp] Tryz.underlying140
@[simp] theorem sz141 : szOf Tryz.prog 141 = 2 := by kernel_rfl
@[simp] theorem ag141 : aggQ Tryz.prog 141 = some true := by kernel_rfl
@[simp] theorem by141 : bytesOf Tryz.prog 141 = 32 := by kernel_rfl
@[simp] theorem zo141 : zeroOf Tryz.prog 141 = some (.agg [.str [], .str []]) := by kernel_rfl
attribute [simp] Tryz.underlying141
@[simp] theorem sz149 : szOf Tryz.prog 149 = 16 := by kernel_rfl
@[simp] theorem ag149 : aggQ Tryz.prog 149 = some true := by kernel_rfl
@[simp] theorem by149 : bytesOf Tryz.prog 149 = 16 := by kernel_rfl
@[simp] theorem zo149 : zeroOf Tryz.prog 149 = some (.agg [.int .u8 0, .int .u8 0, .int .u8 0, .int .u8 0, .int .u8 0, .int .u8 0, .int .u8 0, .int .u8 0, .int .u8 0, .int .u8 0, .int .u8 0, .int .u8 0, .int .u8 0, .int .u8 0, .int .u8 0, .int .u8 0]) := by kernel_rfl
@[simp] theorem un149 : Tryz.prog.underlying 149 = some (.array 16 5) := by kernel_rfl
@[simp] theorem sz150 : szOf Tryz.prog 150 = 16 := by kernel_rfl
@[simp] theorem ag150 : aggQ Tryz.prog 150 = some true := by kernel_rfl
@[simp] theorem by150 : bytesOf Tryz.prog 150 = 16 := by kernel_rfl
@[simp] theorem zo150 : zeroOf Tryz.prog 150 = some (.agg [.int .u8 0, .int .u8 0, .int .u8 0, .int .u8 0, .int .u8 0, .int .u8 0, .int .u8 0, .int .u8 0, .int .u8 0, .int .u8 0, .int .u8 0, .int .u8 0, .int .u8 0, .int .u8 0, .int .u8 0, .int .u8 0]) := by kernel_rfl
@[simp] theorem un150 : Tryz.prog.underlying 150 = some (.array 16 5) := by kernel_rfl
@[simp] theorem sz163 : szOf Tryz.prog 163 = 1 := by kernel_rfl
@[simp] theorem ag163 : aggQ Tryz.prog 163 = some false := by kernel_rfl
@[simp] theorem by163 : bytesOf Tryz.prog 163 = 24 := by kernel_rfl
@[simp] theorem zo163 : zeroOf Tryz.prog 163 = some (.vsl true [] 0) := by kernel_rfl
@[simp] theorem un163 : Tryz.prog.underlying 163 = some (.slice 141) := by kernel_rfl
@[simp] theorem sz164 : szOf Tryz.prog 164 = 20 := by kernel_rfl
@[simp] theorem ag164 : aggQ Tryz.prog 164 = some true := by kernel_rfl
@[simp] theorem by164 : bytesOf Tryz.prog 164 = 64 := by kernel_rfl
@[simp] theorem zo164 : zeroOf Tryz.prog 164 = some (.agg [.int .u64 0, .int .u64 0, .int .u64 0, .int .u8 0, .int .u8 0, .int .u8 0, .int .u8 0, .int .u8 0, .int .u8 0, .int .u8 0, .int .u8 0, .int .u8 0, .int .u8 0, .int .u8 0, .int .u8 0, .int .u8 0, .int .u8 0, .int .u8 0, .int .u8 0, .vsl true [] 0]) := by kernel_rfl
attribute [simp] Tryz.underlying164
@[simp] theorem sz165 : szOf Tryz.prog 165 = 20 := by kernel_rfl
@[simp] theorem ag165 : aggQ Tryz.prog 165 = some true := by kernel_rfl
@[simp] theorem by165 : bytesOf Tryz.prog 165 = 64 := by kernel_rfl
@[simp] theorem zo165 : zeroOf Tryz.prog 165 = some (.agg [.int .u64 0, .int .u64 0, .int .u64 0, .int .u8 0, .int .u8 0, .int .u8 0, .int .u8 0, .int .u8 0, .int .u8 0, .int .u8 0, .int .u8 0, .int .u8 0, .int .u8 0, .int .u8 0, .int .u8 0, .int .u8 0, .int .u8 0, .int .u8 0, .int .u8 0, .vsl true [] 0]) := by kernel_rfl
attribute [simp] Tryz.underlying165
@[simp] theorem sz166 : szOf Tryz.prog 166 = 39 := by kernel_rfl
@[simp] theorem ag166 : aggQ Tryz.prog 166 = some true := by kernel_rfl
@[simp] theorem by166 : bytesOf Tryz.prog 166 = 104 := by kernel_rfl
@[simp] theorem zo166 : zeroOf Tryz.prog 166 = some (.agg [.int .u8 0, .int .u8 0, .int .u8 0, .int .u8 0, .int .u8 0, .int .u8 0, .int .u8 0, .int .u8 0, .int .u8 0, .int .u8 0, .int .u8 0, .int .u8 0, .int .u8 0, .int .u8 0, .int .u8 0, .int .u8 0, .bool false, .int .u64 0, .int .u64 0, .int .u64 0, .int .u64 0, .int .u64 0, .int .u8 0, .int .u8 0, .int .u8 0, .int .u8 0, .int .u8 0, .int .u8 0, .int .u8 0, .int .u8 0, .int .u8 0, .int .u8 0, .int .u8 0, .int .u8 0, .int .u8 0, .int .u8 0, .int .u8 0, .int .u8 0, .vsl true [] 0]) := by kernel_rfl
attribute [simp] Tryz.underlying166
@[simp] theorem sz167 : szOf Tryz.prog 167 = 39 := by kernel_rfl
@[simp] theorem ag167 : aggQ Tryz.prog 167 = some true := by kernel_rfl
@[simp] theorem by167 : bytesOf Tryz.prog 167 = 104 := by kernel_rfl
@[simp] theorem zo167 : zeroOf Tryz.prog 167 = some (.agg [.int .u8 0, .int .u8 0, .int .u8 0, .int .u8 0, .int .u8 0, .int .u8 0, .int .u8 0, .int .u8 0, .int .u8 0, .int .u8 0, .int .u8 0, .int .u8 0, .int .u8 0, .int .u8 0, .int .u8 0, .int .u8 0, .bool false, .int .u64 0, .int .u64 0, .int .u64 0, .int .u64 0, .int .u64 0, .int .u8 0, .int .u8 0, .int .u8 0, .int .u8 0, .int .u8 0, .int .u8 0, .int .u8 0, .int .u8 0, .int .u8 0, .int .u8 0, .int .u8 0, .int .u8 0, .int .u8 0, .int .u8 0, .int .u8 0, .int .u8 0, .vsl true [] 0]) := by kernel_rfl
attribute [simp] Tryz.underlying167
@[simp] theorem sz183 : szOf Tryz.prog 183 = 1 := by kernel_rfl
@[simp] theorem ag183 : aggQ Tryz.prog 183 = some false := by kernel_rfl
@[simp] theorem by183 : bytesOf Tryz.prog 183 = 8 := by kernel_rfl
@[simp] theorem zo183 : zeroOf Tryz.prog 183 = some (.int .u64 0) := by kernel_rfl
@[simp] theorem cq183 : cmpQ Tryz.prog 183 = true := by kernel_rfl
@[simp] theorem un183 : Tryz.prog.underlying 183 = some (.int .u64) := by kernel_rfl
@[simp] theorem sz188 : szOf Tryz.prog 188 = 1 := by kernel_rfl
@[simp] theorem ag188 : aggQ Tryz.prog 188 = some false := by kernel_rfl
@[simp] theorem by188 : bytesOf Tryz.prog 188 = 16 := by kernel_rfl
@[simp] theorem zo188 : zeroOf Tryz.prog 188 = some (.nili) := by kernel_rfl
attribute [simp] Tryz.underlying188
@[simp] theorem sz189 : szOf Tryz.prog 189 = 1 := by kernel_rfl
@[simp] theorem ag189 : aggQ Tryz.prog 189 = some false := by kernel_rfl
@[simp] theorem by189 : bytesOf Tryz.prog 189 = 16 := by kernel_rfl
@[simp] theorem zo189 : zeroOf Tryz.prog 189 = some (.nili) := by kernel_rfl
attribute [simp] Tryz.underlying189
@[simp] theorem sz211 : szOf Tryz.prog 211 = 1 := by kernel_rfl
@[simp] theorem ag211 : aggQ Tryz.prog 211 = some false := by kernel_rfl
@[simp] theorem by211 : bytesOf Tryz.prog 211 = 24 := by kernel_rfl
@[simp] theorem zo211 : zeroOf Tryz.prog 211 = some (.vsl true [] 0) := by kernel_rfl
@[simp] theorem un211 : Tryz.prog.underlying 211 = some (.slice 49) := by kernel_rfl
@[simp] theorem sz216 : szOf Tryz.prog 216 = 19 := by kernel_rfl
@[simp] theorem ag216 : aggQ Tryz.prog 216 = some true := by kernel_rfl
@[simp] theorem by216 : bytesOf Tryz.prog 216 = 40 := by kernel_rfl
@[simp] theorem zo216 : zeroOf Tryz.prog 216 = some (.agg [.int .u8 0, .int .u8 0, .int .u8 0, .int .u8 0, .int .u8 0, .int .u8 0, .int .u8 0, .int .u8 0, .int .u8 0, .int .u8 0, .int .u8 0, .int .u8 0, .int .u8 0, .int .u8 0, .int .u8 0, .int .u8 0, .int .u64 0, .int .u64 0, .int .u64 0]) := by kernel_rfl
attribute [simp] Tryz.underlying216
@[simp] theorem sz217 : szOf Tryz.prog 217 = 19 := by kernel_rfl
@[simp] theorem ag217 : aggQ Tryz.prog 217 = some true := by kernel_rfl
@[simp] theorem by217 : bytesOf Tryz.prog 217 = 40 := by kernel_rfl
@[simp] theorem zo217 : zeroOf Tryz.prog 217 = some (.agg [.int .u8 0, .int .u8 0, .int .u8 0, .int .u8 0, .int .u8 0, .int .u8 0, .int .u8 0, .int .u8 0, .int .u8 0, .int .u8 0, .int .u8 0, .int .u8 0, .int .u8 0, .int .u8 0, .int .u8 0, .int .u8 0, .int .u64 0, .int .u64 0, .int .u64 0]) := by kernel_rfl
attribute [simp] Tryz.underlying217
@[simp] theorem sz218 : szOf Tryz.prog 218 = 1 := by kernel_rfl
@[simp] theorem ag218 : aggQ Tryz.prog 218 = some false := by kernel_rfl
@[simp] theorem by218 : bytesOf Tryz.prog 218 = 4 := by kernel_rfl
@[simp] theorem zo218 : zeroOf Tryz.prog 218 = some (.int .u32 0) := by kernel_rfl
@[simp] theorem cq218 : cmpQ Tryz.prog 218 = true := by kernel_rfl
@[simp] theorem un218 : Tryz.prog.underlying 218 = some (.int .u32) := by kernel_rfl
@[simp] theorem sz301 : szOf Tryz.prog 301 = 1 := by kernel_rfl
@[simp] theorem ag301 : aggQ Tryz.prog 301 = some false := by kernel_rfl
@[simp] theorem by301 : bytesOf Tryz.prog 301 = 24 := by kernel_rfl
@[simp] theorem zo301 : zeroOf Tryz.prog 301 = some (.vsl true [] 0) := by kernel_rfl
@[simp] theorem un301 : Tryz.prog.underlying 301 = some (.slice 43) := by kernel_rfl
@[simp] theorem sz307 : szOf Tryz.prog 307 = 1 := by kernel_rfl
@[simp] theorem ag307 : aggQ Tryz.prog 307 = some false := by kernel_rfl
@[simp] theorem by307 : bytesOf Tryz.prog 307 = 8 := by kernel_rfl
@[simp] theorem zo307 : zeroOf Tryz.prog 307 = some (.int .i64 0) := by kernel_rfl
@[simp] theorem cq307 : cmpQ Tryz.prog 307 = true := by kernel_rfl
@[simp] theorem un307 : Tryz.prog.underlying 307 = some (.int .i64) := by kernel_rfl
@[simp] theorem sz309 : szOf Tryz.prog 309 = 1 := by kernel_rfl
@[simp] theorem ag309 : aggQ Tryz.prog 309 = some false := by kernel_rfl
@[simp] theorem by309 : bytesOf Tryz.prog 309 = 8 := by kernel_rfl
@[simp] theorem zo309 : zeroOf Tryz.prog 309 = some (.nilp) := by kernel_rfl
@[simp] theorem un309 : Tryz.prog.underlying 309 = some (.pointer 340) := by kernel_rfl
@[simp] theorem sz339 : szOf Tryz.prog 339 = 3 := by kernel_rfl
@[simp] theorem ag339 : aggQ Tryz.prog 339 = some true := by kernel_rfl
@[simp] theorem by339 : bytesOf Tryz.prog 339 = 48 := by kernel_rfl
@[simp] theorem zo339 : zeroOf Tryz.prog 339 = some (.agg [.str [], .str [], .nili]) := by kernel_rfl
attribute [simp] Tryz.underlying339
@[simp] theorem sz340 : szOf Tryz.prog 340 = 3 := by kernel_rfl
@[simp] theorem ag340 : aggQ Tryz.prog 340 = some true := by kernel_rfl
@[simp] theorem by340 : bytesOf Tryz.prog 340 = 48 := by kernel_rfl
@[simp] theorem zo340 : zeroOf Tryz.prog 340 = some (.agg [.str [], .str [], .nili]) := by kernel_rfl
attribute [simp] Tryz.underlying340
@[simp] theorem sz343 : szOf Tryz.prog 343 = 24 := by kernel_rfl
@[simp] theorem ag343 : aggQ Tryz.prog 343 = some true := by kernel_rfl
@[simp] theorem by343 : bytesOf Tryz.prog 343 = 24 := by kernel_rfl
@[simp] theorem zo343 : zeroOf Tryz.prog 343 = some (.agg [.int .u8 0, .int .u8 0, .int .u8 0, .int .u8 0, .int .u8 0, .int .u8 0, .int .u8 0, .int .u8 0, .int .u8 0, .int .u8 0, .int .u8 0, .int .u8 0, .int .u8 0, .int .u8 0, .int .u8 0, .int .u8 0, .int .u8 0, .int .u8 0, .int .u8 0, .int .u8 0, .int .u8 0, .int .u8 0, .int .u8 0, .int .u8 0]) := by kernel_rfl
@[simp] theorem un343 : Tryz.prog.underlying 343 = some (.array 24 5) := by kernel_rfl
@[simp] theorem sz387 : szOf Tryz.prog 387 = 1 := by kernel_rfl
@[simp] theorem ag387 : aggQ Tryz.prog 387 = some false := by kernel_rfl
@[simp] theorem by387 : bytesOf Tryz.prog 387 = 8 := by kernel_rfl
@[simp] theorem zo387 : zeroOf Tryz.prog 387 = some (.nilp) := by kernel_rfl
@[simp] theorem un387 : Tryz.prog.underlying 387 = some (.pointer 389) := by kernel_rfl
@[simp] theorem sz388 : szOf Tryz.prog 388 = 1 := by kernel_rfl
@[simp] theorem ag388 : aggQ Tryz.prog 388 = some true := by kernel_rfl
@[simp] theorem by388 : bytesOf Tryz.prog 388 = 16 := by kernel_rfl
@[simp] theorem zo388 : zeroOf Tryz.prog 388 = some (.agg [.str []]) := by kernel_rfl
attribute [simp] Tryz.underlying388
@[simp] theorem sz389 : szOf Tryz.prog 389 = 1 := by kernel_rfl
@[simp] theorem ag389 : aggQ Tryz.prog 389 = some true := by kernel_rfl
@[simp] theorem by389 : bytesOf Tryz.prog 389 = 16 := by kernel_rfl
@[simp] theorem zo389 : zeroOf Tryz.prog 389 = some (.agg [.str []]) := by kernel_rfl
attribute [simp] Tryz.underlying389
@[simp] theorem sz391 : szOf Tryz.prog 391 = 20 := by kernel_rfl
@[simp] theorem ag391 : aggQ Tryz.prog 391 = some true := by kernel_rfl
@[simp] theorem by391 : bytesOf Tryz.prog 391 = 160 := by kernel_rfl
@[simp] theorem zo391 : zeroOf Tryz.prog 391 = some (.agg [.int .u64 0, .int .u64 0, .int .u64 0, .int .u64 0, .int .u64 0, .int .u64 0, .int .u64 0, .int .u64 0, .int .u64 0, .int .u64 0, .int .u64 0, .int .u64 0, .int .u64 0, .int .u64 0, .int .u64 0, .int .u64 0, .int .u64 0, .int .u64 0, .int .u64 0, .int .u64 0]) := by kernel_rfl
@[simp] theorem un391 : Tryz.prog.underlying 391 = some (.array 20 49) := by kernel_rfl
@[simp] theorem sz392 : szOf Tryz.prog 392 = 65 := by kernel_rfl
@[simp] theorem ag392 : aggQ Tryz.prog 392 = some true := by kernel_rfl
@[simp] theorem by392 : bytesOf Tryz.prog 392 = 65 := by kernel_rfl
@[simp] theorem zo392 : zeroOf Tryz.prog 392 = some (.agg (List.replicate 65 (.int .u8 0))) := by kernel_rfl
@[simp] theorem un392 : Tryz.prog.underlying 392 = some (.array 65 5) := by kernel_rfl
@[simp] theorem sz423 : szOf Tryz.prog 423 = 32 := by kernel_rfl
@[simp] theorem ag423 : aggQ Tryz.prog 423 = some true := by kernel_rfl
@[simp] theorem by423 : bytesOf Tryz.prog 423 = 32 := by kernel_rfl
@[simp] theorem zo423 : zeroOf Tryz.prog 423 = some (.agg (List.replicate 32 (.int .u8 0))) := by kernel_rfl
@[simp] theorem un423 : Tryz.prog.underlying 423 = some (.array 32 5) := by kernel_rfl
@[simp] theorem sz424 : szOf Tryz.prog 424 = 64 := by kernel_rfl
@[simp] theorem ag424 : aggQ Tryz.prog 424 = some true := by kernel_rfl
@[simp] theorem by424 : bytesOf Tryz.prog 424 = 64 := by kernel_rfl
@[simp] theorem zo424 : zeroOf Tryz.prog 424 = some (.agg (List.replicate 64 (.int .u8 0))) := by kernel_rfl
@[simp] theorem un424 : Tryz.prog.underlying 424 = some (.array 64 5) := by kernel_rfl
@[simp] theorem pl3 : plainTy Tryz.prog 50 3 = some ([.i]) := by kernel_rfl
@[simp] theorem eg3 : Tryz.prog.eqGuardType Tryz.prog.depth 3 = false := by kernel_rfl
@[simp] theorem pl4 : plainTy Tryz.prog 50 4 = some ([.b]) := by kernel_rfl
@[simp] theorem eg4 : Tryz.prog.eqGuardType Tryz.prog.depth 4 = false := by kernel_rfl
@[simp] theorem pl5 : plainTy Tryz.prog 50 5 = some ([.i]) := by kernel_rfl
@[simp] theorem eg5 : Tryz.prog.eqGuardType Tryz.prog.depth 5 = false := by kernel_rfl
@[simp] theorem pl9 : plainTy Tryz.prog 50 9 = some ([.s]) := by kernel_rfl
@[simp] theorem eg9 : Tryz.prog.eqGuardType Tryz.prog.depth 9 = false := by kernel_rfl
@[simp] theorem pl21 : plainTy Tryz.prog 50 21 = some ([.i]) := by kernel_rfl
@[simp] theorem eg21 : Tryz.prog.eqGuardType Tryz.prog.depth 21 = false := by kernel_rfl
@[simp] theorem pl49 : plainTy Tryz.prog 50 49 = some ([.i]) := by kernel_rfl
@[simp] theorem eg49 : Tryz.prog.eqGuardType Tryz.prog.depth 49 = false := by kernel_rfl
@[simp] theorem pl150 : plainTy Tryz.prog 50 150 = some ([.i, .i, .i, .i, .i, .i, .i, .i, .i, .i, .i, .i, .i, .i, .i, .i]) := by kernel_rfl
@[simp] theorem eg150 : Tryz.prog.eqGuardType Tryz.prog.depth 150 = false := by kernel_rfl
@[simp] theorem pl218 : plainTy Tryz.prog 50 218 = some ([.i]) := by kernel_rfl
@[simp] theorem eg218 : Tryz.prog.eqGuardType Tryz.prog.depth 218 = false := by kernel_rfl
end Go.Ev.S
/- Names, marks. -/
namespace Go.Ev
open Go Go.Proofs
/-- A name of sixteen bytes. -/
structure ID where
  l : List UInt8
  h : l.length = 16
  deriving DecidableEq
@[simp] theorem ID.len (i : ID) : i.l.length = 16 := i.h
theorem ID.ext' {a b : ID} (h : a.l = b.l) : a = b := by cases a; cases b; simp at h; subst h; rfl
instance : Enc ID := ⟨16, fun i => ofBytes i.l, fun i => by simp, fun i => by simp⟩
theorem ID.cells (i : ID) : Enc.cells i = ofBytes i.l := rfl
def ID.zero : ID := ⟨List.replicate 16 0, by simp⟩
theorem cellsEq_bytes : ∀ (x y : List UInt8), x.length = y.length → cellsEq (List.replicate x.length .i) (ofBytes x) (ofBytes y) = some (x == y)
  | [], [], _ => rfl
  | a :: x, b :: y, h => by
    have ih := cellsEq_bytes x y (by simpa using h)
    simp only [List.length_cons, List.replicate_succ, ofBytes, List.map_cons, cellsEq, cellEq]
    simp only [ofBytes] at ih
    rw [ih]
    have : ((a.toNat : Int) == (b.toNat : Int)) = (a == b) := by
      rw [Bool.eq_iff_iff]
      simp only [beq_iff_eq, Int.natCast_inj]
      exact ⟨fun h => UInt8.toNat_inj.1 h, fun h => by rw [h]⟩
    simp [this]
  | [], _ :: _, h => by simp at h
  | _ :: _, [], h => by simp at h
theorem cellsEq_app : ∀ (k1 k2 : List CK) (a1 a2 b1 b2 : List D), k1.length = a1.length → k1.length = b1.length → cellsEq (k1 ++ k2) (a1 ++ a2) (b1 ++ b2) = match cellsEq k1 a1 b1, cellsEq k2 a2 b2 with
    | some x, some y => some (x && y)
    | _, _ => none
  | [], k2, [], a2, [], b2, _, _ => by
    simp only [List.nil_append, cellsEq]
    cases cellsEq k2 a2 b2 <;> simp
  | k :: k1, k2, a :: a1, a2, b :: b1, b2, h1, h2 => by
    simp only [List.cons_append, cellsEq, cellsEq_app k1 k2 a1 a2 b1 b2 (by simpa using h1) (by simpa using h2)]
    cases cellEq k a b <;> cases cellsEq k1 a1 b1 <;> cases cellsEq k2 a2 b2 <;> simp [Bool.and_assoc]
  | [], _, _ :: _, _, _, _, h, _ => by simp at h
  | [], _, [], _, _ :: _, _, _, h => by simp at h
  | _ :: _, _, [], _, _, _, h, _ => by simp at h
  | _ :: _, _, _ :: _, _, [], _, _, h => by simp at h
@[simp] theorem cellsEq16 (x y : ID) : cellsEq [.i, .i, .i, .i, .i, .i, .i, .i, .i, .i, .i, .i, .i, .i, .i, .i] (ofBytes x.l) (ofBytes y.l) = some (x == y) := by
  have := cellsEq_bytes x.l y.l (by simp)
  rw [x.h] at this
  have e : (x.l == y.l) = (x == y) := by
    rw [Bool.eq_iff_iff]
    simp only [beq_iff_eq]
    exact ⟨ID.ext', fun h => by rw [h]⟩
  rw [e] at this
  exact this
/-- A mark. -/
structure Mk where
  id : ID
  seq : Int
  lost : Int
  over : Int
  deriving DecidableEq
def isU64 (n : Int) : Prop := 0 ≤ n ∧ n < 18446744073709551616
structure Mk.Ok (m : Mk) : Prop where
  seq : isU64 m.seq
  lost : isU64 m.lost
  over : isU64 m.over
def Mk.tl (m : Mk) : List D := [.int .u64 m.seq, .int .u64 m.lost, .int .u64 m.over]
instance : Enc Mk := ⟨19, fun m => ofBytes m.id.l ++ m.tl, fun m => by simp [Mk.tl], fun m => by simp [Mk.tl, idFree]⟩
theorem Mk.cells (m : Mk) : Enc.cells m = ofBytes m.id.l ++ [.int .u64 m.seq, .int .u64 m.lost, .int .u64 m.over] := rfl
@[simp] theorem Mk.size : Enc.size Mk = 19 := rfl
@[simp] theorem ID.size : Enc.size ID = 16 := rfl
@[simp] theorem Mk.cl (a : Mk) : (Enc.cells a).length = 19 := Enc.len a
@[simp] theorem Mk.ct (a : Mk) (r : List D) : (Enc.cells a ++ r).take 19 = Enc.cells a := cells_take rfl a r
@[simp] theorem Mk.ct' (a : Mk) : (Enc.cells a).take 19 = Enc.cells a := cells_take' rfl a
@[simp] theorem Mk.cd (a : Mk) (r : List D) : (Enc.cells a ++ r).drop 19 = r := cells_drop rfl a r
@[simp] theorem Mk.el (l : List Mk) : (encs l).length = l.length * 19 := encs_len' rfl l
@[simp] theorem Mk.ed (l : List Mk) (i : Nat) : (encs l).drop (i * 19) = encs (l.drop i) := encs_drop rfl l i
@[simp] theorem Mk.et (l : List Mk) (i : Nat) : (encs l).take (i * 19) = encs (l.take i) := encs_take rfl l i
@[simp high] theorem Mk.ea {l : List Mk} {i : Nat} (h : i < l.length) : (encs l).drop (i * 19) = Enc.cells l[i] ++ encs (l.drop (i + 1)) := encs_at rfl h
@[simp high] theorem Mk.es (m : Mk) {l : List Mk} {j : Nat} (h : j < l.length) : setRange (encs l) (j * 19) (Enc.cells m) = encs (l.set j m) := encs_set rfl m l h
theorem drop_bytes {s : List UInt8} {n : Nat} (h : s.length ≤ n) : (ofBytes s).drop n = [] := List.drop_eq_nil_of_le (by simpa using h)
@[simp] theorem Mk.t16 (m : Mk) : (Enc.cells m).take 16 = ofBytes m.id.l := by simp [Mk.cells]
@[simp] theorem Mk.t16' (m : Mk) (r : List D) : (Enc.cells m ++ r).take 16 = ofBytes m.id.l := by simp [Mk.cells]
@[simp] theorem Mk.d16 (m : Mk) : (Enc.cells m).drop 16 = [.int .u64 m.seq, .int .u64 m.lost, .int .u64 m.over] := by simp [Mk.cells]
@[simp] theorem Mk.d17 (m : Mk) : (Enc.cells m).drop 17 = [.int .u64 m.lost, .int .u64 m.over] := by simp [Mk.cells, List.drop_append, drop_bytes]
@[simp] theorem Mk.d18 (m : Mk) : (Enc.cells m).drop 18 = [.int .u64 m.over] := by simp [Mk.cells, List.drop_append, drop_bytes]
@[simp] theorem Mk.d16' (m : Mk) (r : List D) : (Enc.cells m ++ r).drop 16 = [.int .u64 m.seq, .int .u64 m.lost, .int .u64 m.over] ++ r := by simp [Mk.cells]
@[simp] theorem Mk.d17' (m : Mk) (r : List D) : (Enc.cells m ++ r).drop 17 = [.int .u64 m.lost, .int .u64 m.over] ++ r := by simp [Mk.cells, List.drop_append, drop_bytes]
@[simp] theorem Mk.d18' (m : Mk) (r : List D) : (Enc.cells m ++ r).drop 18 = [.int .u64 m.over] ++ r := by simp [Mk.cells, List.drop_append, drop_bytes]
@[simp] theorem Mk.g16 (m : Mk) (h) : (Enc.cells m)[16]'h = .int .u64 m.seq := by simp [Mk.cells]
@[simp] theorem Mk.g17 (m : Mk) (h) : (Enc.cells m)[17]'h = .int .u64 m.lost := by simp [Mk.cells]
@[simp] theorem Mk.g18 (m : Mk) (h) : (Enc.cells m)[18]'h = .int .u64 m.over := by simp [Mk.cells]
@[simp] theorem Mk.s16 (m : Mk) (x : Int) : setRange (Enc.cells m) 16 [.int .u64 x] = Enc.cells { m with seq := x } := by simp [Mk.cells, List.drop_append, drop_bytes]
@[simp] theorem Mk.s17 (m : Mk) (x : Int) : setRange (Enc.cells m) 17 [.int .u64 x] = Enc.cells { m with lost := x } := by simp [Mk.cells, List.take_append, List.drop_append, drop_bytes, List.take_of_length_le]
@[simp] theorem Mk.s18 (m : Mk) (x : Int) : setRange (Enc.cells m) 18 [.int .u64 x] = Enc.cells { m with over := x } := by simp [Mk.cells, List.take_append, List.drop_append, drop_bytes, List.take_of_length_le]
theorem cellsEqMk (x y : Mk) : cellsEq [.i, .i, .i, .i, .i, .i, .i, .i, .i, .i, .i, .i, .i, .i, .i, .i, .i, .i, .i] (Enc.cells x) (Enc.cells y) = some (x == y) := by
  have h := cellsEq_app [.i, .i, .i, .i, .i, .i, .i, .i, .i, .i, .i, .i, .i, .i, .i, .i] [.i, .i, .i] (ofBytes x.id.l) x.tl (ofBytes y.id.l) y.tl (by simp) (by simp)
  rw [cellsEq16] at h
  have e : cellsEq [.i, .i, .i] x.tl y.tl = some (x.seq == y.seq && (x.lost == y.lost && x.over == y.over)) := by simp [Mk.tl, cellsEq]
  rw [e] at h
  have e2 : (x == y) = (x.id == y.id && (x.seq == y.seq && (x.lost == y.lost && x.over == y.over))) := by
    rw [Bool.eq_iff_iff]
    cases x; cases y
    simp [Mk.mk.injEq, beq_iff_eq]
  rw [e2]
  exact h
end Go.Ev
/- Fields, records, items. -/
namespace Go.Ev
open Go Go.Proofs
/-- A field. -/
structure Pr where
  name : List UInt8
  value : List UInt8
  deriving DecidableEq
instance : Enc Pr := ⟨2, fun p => [.str p.name, .str p.value], fun _ => rfl, fun _ => rfl⟩
theorem Pr.cells (p : Pr) : Enc.cells p = [.str p.name, .str p.value] := rfl
@[simp] theorem Pr.size : Enc.size Pr = 2 := rfl
@[simp] theorem Pr.cl (a : Pr) : (Enc.cells a).length = 2 := Enc.len a
@[simp] theorem Pr.ct (a : Pr) (r : List D) : (Enc.cells a ++ r).take 2 = Enc.cells a := cells_take rfl a r
@[simp] theorem Pr.ct' (a : Pr) : (Enc.cells a).take 2 = Enc.cells a := cells_take' rfl a
@[simp] theorem Pr.cd (a : Pr) (r : List D) : (Enc.cells a ++ r).drop 2 = r := cells_drop rfl a r
@[simp] theorem Pr.el (l : List Pr) : (encs l).length = l.length * 2 := encs_len' rfl l
@[simp] theorem Pr.ed (l : List Pr) (i : Nat) : (encs l).drop (i * 2) = encs (l.drop i) := encs_drop rfl l i
@[simp] theorem Pr.et (l : List Pr) (i : Nat) : (encs l).take (i * 2) = encs (l.take i) := encs_take rfl l i
@[simp high] theorem Pr.ea {l : List Pr} {i : Nat} (h : i < l.length) : (encs l).drop (i * 2) = Enc.cells l[i] ++ encs (l.drop (i + 1)) := encs_at rfl h
@[simp high] theorem Pr.es (m : Pr) {l : List Pr} {j : Nat} (h : j < l.length) : setRange (encs l) (j * 2) (Enc.cells m) = encs (l.set j m) := encs_set rfl m l h
/-- A record. -/
structure Rec where
  seq : Int
  real : Int
  mono : Int
  boot : ID
  fields : Sl Pr
instance : Enc Rec := ⟨20, fun r => [.int .u64 r.seq, .int .u64 r.real, .int .u64 r.mono] ++ (ofBytes r.boot.l ++ [(.vsl r.fields.nil (encs r.fields.l) r.fields.l.length)]), fun r => by simp, fun r => by simp [idFree]⟩
theorem Rec.cells (r : Rec) : Enc.cells r = [.int .u64 r.seq, .int .u64 r.real, .int .u64 r.mono] ++ (ofBytes r.boot.l ++ [(.vsl r.fields.nil (encs r.fields.l) r.fields.l.length)]) := rfl
@[simp] theorem Rec.size : Enc.size Rec = 20 := rfl
structure Rec.Ok (r : Rec) : Prop where
  seq : isU64 r.seq
  real : isU64 r.real
  mono : isU64 r.mono
@[simp] theorem Rec.cl (a : Rec) : (Enc.cells a).length = 20 := Enc.len a
@[simp] theorem Rec.ct (a : Rec) (r : List D) : (Enc.cells a ++ r).take 20 = Enc.cells a := cells_take rfl a r
@[simp] theorem Rec.ct' (a : Rec) : (Enc.cells a).take 20 = Enc.cells a := cells_take' rfl a
@[simp] theorem Rec.cd (a : Rec) (r : List D) : (Enc.cells a ++ r).drop 20 = r := cells_drop rfl a r
@[simp] theorem Rec.el (l : List Rec) : (encs l).length = l.length * 20 := encs_len' rfl l
@[simp] theorem Rec.ed (l : List Rec) (i : Nat) : (encs l).drop (i * 20) = encs (l.drop i) := encs_drop rfl l i
@[simp] theorem Rec.et (l : List Rec) (i : Nat) : (encs l).take (i * 20) = encs (l.take i) := encs_take rfl l i
@[simp high] theorem Rec.ea {l : List Rec} {i : Nat} (h : i < l.length) : (encs l).drop (i * 20) = Enc.cells l[i] ++ encs (l.drop (i + 1)) := encs_at rfl h
@[simp high] theorem Rec.es (m : Rec) {l : List Rec} {j : Nat} (h : j < l.length) : setRange (encs l) (j * 20) (Enc.cells m) = encs (l.set j m) := encs_set rfl m l h
/-- An item: an entry of a sequence, or numbers of it that are lost. -/
structure It where
  id : ID
  gap : Bool
  fr : Int
  til : Int
  rc : Rec
instance : Enc It := ⟨39, fun i => ofBytes i.id.l ++ ([.bool i.gap, .int .u64 i.fr, .int .u64 i.til] ++ Enc.cells i.rc), fun i => by simp, fun i => by simp [idFree]⟩
theorem It.cells (i : It) : Enc.cells i = ofBytes i.id.l ++ ([.bool i.gap, .int .u64 i.fr, .int .u64 i.til] ++ ([.int .u64 i.rc.seq, .int .u64 i.rc.real, .int .u64 i.rc.mono] ++ (ofBytes i.rc.boot.l ++ [(.vsl i.rc.fields.nil (encs i.rc.fields.l) i.rc.fields.l.length)]))) := rfl
@[simp] theorem It.size : Enc.size It = 39 := rfl
structure It.Ok (i : It) : Prop where
  fr : isU64 i.fr
  til : isU64 i.til
  rc : i.rc.Ok
@[simp] theorem It.cl (a : It) : (Enc.cells a).length = 39 := Enc.len a
@[simp] theorem It.ct (a : It) (r : List D) : (Enc.cells a ++ r).take 39 = Enc.cells a := cells_take rfl a r
@[simp] theorem It.ct' (a : It) : (Enc.cells a).take 39 = Enc.cells a := cells_take' rfl a
@[simp] theorem It.cd (a : It) (r : List D) : (Enc.cells a ++ r).drop 39 = r := cells_drop rfl a r
@[simp] theorem It.el (l : List It) : (encs l).length = l.length * 39 := encs_len' rfl l
@[simp] theorem It.ed (l : List It) (i : Nat) : (encs l).drop (i * 39) = encs (l.drop i) := encs_drop rfl l i
@[simp] theorem It.et (l : List It) (i : Nat) : (encs l).take (i * 39) = encs (l.take i) := encs_take rfl l i
@[simp high] theorem It.ea {l : List It} {i : Nat} (h : i < l.length) : (encs l).drop (i * 39) = Enc.cells l[i] ++ encs (l.drop (i + 1)) := encs_at rfl h
@[simp high] theorem It.es (m : It) {l : List It} {j : Nat} (h : j < l.length) : setRange (encs l) (j * 39) (Enc.cells m) = encs (l.set j m) := encs_set rfl m l h
@[simp] theorem It.t16 (i : It) : (Enc.cells i).take 16 = ofBytes i.id.l := by simp [It.cells]
@[simp] theorem It.t16' (i : It) (r : List D) : (Enc.cells i ++ r).take 16 = ofBytes i.id.l := by simp [It.cells]
@[simp] theorem It.d16 (i : It) : (Enc.cells i).drop 16 = .bool i.gap :: .int .u64 i.fr :: .int .u64 i.til :: .int .u64 i.rc.seq :: .int .u64 i.rc.real :: .int .u64 i.rc.mono :: (ofBytes i.rc.boot.l ++ [(.vsl i.rc.fields.nil (encs i.rc.fields.l) i.rc.fields.l.length)]) := by simp [It.cells]
@[simp] theorem It.d17 (i : It) : (Enc.cells i).drop 17 = .int .u64 i.fr :: .int .u64 i.til :: .int .u64 i.rc.seq :: .int .u64 i.rc.real :: .int .u64 i.rc.mono :: (ofBytes i.rc.boot.l ++ [(.vsl i.rc.fields.nil (encs i.rc.fields.l) i.rc.fields.l.length)]) := by simp [It.cells, List.drop_append, drop_bytes]
@[simp] theorem It.d18 (i : It) : (Enc.cells i).drop 18 = .int .u64 i.til :: .int .u64 i.rc.seq :: .int .u64 i.rc.real :: .int .u64 i.rc.mono :: (ofBytes i.rc.boot.l ++ [(.vsl i.rc.fields.nil (encs i.rc.fields.l) i.rc.fields.l.length)]) := by simp [It.cells, List.drop_append, drop_bytes]
@[simp] theorem It.d19 (i : It) : (Enc.cells i).drop 19 = .int .u64 i.rc.seq :: .int .u64 i.rc.real :: .int .u64 i.rc.mono :: (ofBytes i.rc.boot.l ++ [(.vsl i.rc.fields.nil (encs i.rc.fields.l) i.rc.fields.l.length)]) := by simp [It.cells, List.drop_append, drop_bytes]
@[simp] theorem It.d20 (i : It) : (Enc.cells i).drop 20 = .int .u64 i.rc.real :: .int .u64 i.rc.mono :: (ofBytes i.rc.boot.l ++ [(.vsl i.rc.fields.nil (encs i.rc.fields.l) i.rc.fields.l.length)]) := by simp [It.cells, List.drop_append, drop_bytes]
@[simp] theorem It.d21 (i : It) : (Enc.cells i).drop 21 = .int .u64 i.rc.mono :: (ofBytes i.rc.boot.l ++ [(.vsl i.rc.fields.nil (encs i.rc.fields.l) i.rc.fields.l.length)]) := by simp [It.cells, List.drop_append, drop_bytes]
@[simp] theorem It.d22 (i : It) : (Enc.cells i).drop 22 = ofBytes i.rc.boot.l ++ [(.vsl i.rc.fields.nil (encs i.rc.fields.l) i.rc.fields.l.length)] := by simp [It.cells, List.drop_append, drop_bytes]
@[simp] theorem It.d38 (i : It) : (Enc.cells i).drop 38 = [(.vsl i.rc.fields.nil (encs i.rc.fields.l) i.rc.fields.l.length)] := by simp [It.cells, List.drop_append, drop_bytes]
end Go.Ev
/- Numbers in bytes, the lowest first. -/
namespace Go.Ev
open Go Go.Proofs
/-- The number that bytes are. -/
def leN : List UInt8 → Nat
  | [] => 0
  | b :: l => b.toNat + 256 * leN l
/-- The lowest n bytes of a number. -/
def leB : Nat → Nat → List UInt8
  | 0, _ => []
  | n + 1, v => UInt8.ofNat (v % 256) :: leB n (v / 256)
@[simp] theorem leB_len : ∀ (n v : Nat), (leB n v).length = n
  | 0, _ => rfl
  | n + 1, v => by simp [leB, leB_len n]
theorem leN_lt : ∀ (l : List UInt8), leN l < 256 ^ l.length
  | [] => by simp [leN]
  | b :: l => by
    have h1 := leN_lt l
    have h2 := b.toNat_lt
    simp only [leN, List.length_cons, Nat.pow_succ]
    omega
theorem leN_leB : ∀ (n v : Nat), leN (leB n v) = v % 256 ^ n
  | 0, v => by simp [leB, leN, Nat.mod_one]
  | n + 1, v => by
    simp only [leB, leN, leN_leB n]
    rw [UInt8.toNat_ofNat_of_lt' (Nat.mod_lt _ (by decide)), Nat.pow_succ, Nat.mul_comm (256 ^ n) 256, Nat.mod_mul]
theorem leB_leN : ∀ (l : List UInt8), leB l.length (leN l) = l
  | [] => rfl
  | b :: l => by
    have h2 := b.toNat_lt
    have e1 : (b.toNat + 256 * leN l) % 256 = b.toNat := by omega
    have e2 : (b.toNat + 256 * leN l) / 256 = leN l := by omega
    simp only [List.length_cons, leN, leB, e1, e2, leB_leN l]
    simp
theorem leB_snoc : ∀ (n v : Nat), leB (n + 1) v = leB n v ++ [UInt8.ofNat (v / 256 ^ n % 256)]
  | 0, v => by simp [leB]
  | n + 1, v => by
    rw [leB, leB_snoc n (v / 256), leB, List.cons_append, Nat.div_div_eq_div_mul, Nat.pow_succ, Nat.mul_comm 256]
theorem leN_append : ∀ (a b : List UInt8), leN (a ++ b) = leN a + 256 ^ a.length * leN b
  | [], b => by simp [leN]
  | x :: a, b => by
    simp only [List.cons_append, leN, leN_append a b, List.length_cons, Nat.pow_succ]
    rw [Nat.mul_add, ← Nat.mul_assoc, Nat.mul_comm 256 (256 ^ a.length), Nat.add_assoc]
theorem ofBytes_append (a b : List UInt8) : ofBytes (a ++ b) = ofBytes a ++ ofBytes b := by simp [ofBytes]
theorem ofBytes_cons (a : UInt8) (b : List UInt8) : ofBytes (a :: b) = .int .u8 (a.toNat : Int) :: ofBytes b := rfl
theorem ofBytes_drop (l : List UInt8) (i : Nat) : (ofBytes l).drop i = ofBytes (l.drop i) := by simp [ofBytes]
theorem ofBytes_take (l : List UInt8) (i : Nat) : (ofBytes l).take i = ofBytes (l.take i) := by simp [ofBytes]
theorem ofBytes_at {l : List UInt8} {i : Nat} (h : i < l.length) : (ofBytes l).drop i = .int .u8 (l[i].toNat : Int) :: ofBytes (l.drop (i + 1)) := by
  rw [ofBytes_drop, List.drop_eq_getElem_cons h, ofBytes_cons]
theorem ofBytes_get {l : List UInt8} {i : Nat} (h : i < (ofBytes l).length) : (ofBytes l)[i] = .int .u8 ((l[i]'(by simpa using h)).toNat : Int) := by simp [ofBytes]
@[simp] theorem bytesD_of (s : List UInt8) : bytesD (ofBytes s) = some s := by
  induction s with
  | nil => rfl
  | cons a s ih =>
    have : bytesD (ofBytes (a :: s)) = (bytesD (ofBytes s)).map fun r => UInt8.ofNat ((a.toNat : Int)).toNat :: r := rfl
    rw [this, ih]
    simp
theorem or_shl (x y : Nat) (h : y < 256) : (x * 256) ||| y = x * 256 + y := by
  have := Nat.shiftLeft_add_eq_or_of_lt (b := y) (i := 8) (by simpa using h) x
  rw [Nat.shiftLeft_eq] at this
  simpa using this.symm
/-- A slice of one's own that grows, none at first. -/
def BufE {α : Type} [Enc α] (n : Nat) (d : D) (H : Heap) (l : List α) : Prop := (d = .vsl true [] 0 ∧ l = [] ∧ H = []) ∨ (d = .osl 0 (l.length * n) 0 l.length n ∧ H = [some (encs l)] ∧ l ≠ [])
theorem BufE.snoc {α : Type} [Enc α] {n : Nat} (l : List α) (a : α) : BufE n (.osl 0 (l.length * n + n) 0 (l.length + 1) n) [some (encs l ++ Enc.cells a)] (l ++ [a]) :=
  .inr ⟨by simp [Nat.add_mul], by simp [encs_snoc], by simp⟩
theorem BufE.one {α : Type} [Enc α] {n : Nat} (a : α) : BufE n (.osl 0 n 0 1 n) [some (Enc.cells a)] ([] ++ [a]) :=
  .inr ⟨by simp, by simp [encs_one], by simp⟩
/-- A list as a slice: none where it is empty. -/
def Sl.grown {α : Type} (l : List α) : Sl α := ⟨l.isEmpty, l, by simp⟩
@[simp] theorem Sl.grown_l {α : Type} (l : List α) : (Sl.grown l).l = l := rfl
def ID.mk' (l : List UInt8) : ID := if h : l.length = 16 then ⟨l, h⟩ else ID.zero
theorem ID.mk'_l {l : List UInt8} (h : l.length = 16) : (ID.mk' l).l = l := by unfold ID.mk'; rw [dif_pos h]
/-- The mark that bytes are. -/
def mkOf (r : List UInt8) : Mk := ⟨ID.mk' (r.take 16), leN ((r.drop 16).take 8), leN ((r.drop 24).take 8), leN ((r.drop 32).take 8)⟩
def lastGe (out : List Mk) (id : List UInt8) : Bool := match out.getLast? with
  | some m => decide (0 ≤ cmpB m.id.l id)
  | none => false
/-- Marks that are read one behind the other: what is read, the code. -/
def readGo : Nat → List UInt8 → List Mk → List Mk × Int
  | 0, _, out => (out, 0)
  | k + 1, r, out => if r.length < 16 then ([], 22) else if lastGe out (r.take 16) then ([], 13) else if r.length < 40 then ([], 22) else readGo k (r.drop 40) (out ++ [mkOf r])
def readM : List UInt8 → List Mk × Int
  | [] => ([], 22)
  | c :: r => if 4 < c.toNat then ([], 21) else readGo c.toNat r []
def readN (x : List Mk × Int) : Int := if x.2 = 0 then 1 + 40 * (x.1.length : Int) else 0
end Go.Ev
/- What arguments of plain data are, as data of one's own. -/
namespace Go.Ev
open Go Go.Proofs
section
variable {P : Program} {n : Nat} {t e : TypeId} {cs : List D}
theorem has_bool (hu : P.underlying t = some .bool) (h : HasT P (n + 1) t cs) : ∃ b, cs = [.bool b] := by
  unfold HasT at h; rw [hu] at h; exact h
theorem has_int {k : IntKind} (hu : P.underlying t = some (.int k)) (h : HasT P (n + 1) t cs) : ∃ x, cs = [.int k x] ∧ (Lit.int k x).wf = true := by
  unfold HasT at h; rw [hu] at h; exact h
theorem has_u64 (hu : P.underlying t = some (.int .u64)) (h : HasT P (n + 1) t cs) : ∃ x, cs = [.int .u64 x] ∧ isU64 x := by
  obtain ⟨x, h1, h2⟩ := has_int hu h
  refine ⟨x, h1, ?_⟩
  simp [Lit.wf, IntKind.min, IntKind.max, IntKind.signed, IntKind.bits] at h2
  unfold isU64
  omega
def isI64 (n : Int) : Prop := -9223372036854775808 ≤ n ∧ n < 9223372036854775808
theorem has_i64 (hu : P.underlying t = some (.int .i64)) (h : HasT P (n + 1) t cs) : ∃ x, cs = [.int .i64 x] ∧ isI64 x := by
  obtain ⟨x, h1, h2⟩ := has_int hu h
  refine ⟨x, h1, ?_⟩
  simp [Lit.wf, IntKind.min, IntKind.max, IntKind.signed, IntKind.bits] at h2
  unfold isI64
  omega
theorem has_u8 (hu : P.underlying t = some (.int .u8)) (h : HasT P (n + 1) t cs) : ∃ x : UInt8, cs = [.int .u8 x.toNat] := by
  obtain ⟨x, h1, h2⟩ := has_int hu h
  simp [Lit.wf, IntKind.min, IntKind.max, IntKind.signed, IntKind.bits] at h2
  refine ⟨UInt8.ofNat x.toNat, ?_⟩
  rw [h1, UInt8.toNat_ofNat_of_lt' (by simp; omega)]
  congr 2
  omega
theorem has_str (hu : P.underlying t = some .string) (h : HasT P (n + 1) t cs) : ∃ s, cs = [.str s] ∧ s.length ≤ maxLen := by
  unfold HasT at h; rw [hu] at h; exact h
theorem rows_bytes {e : TypeId} (hu : P.underlying e = some (.int .u8)) : ∀ (ls : List (List D)), (∀ l, l ∈ ls → l.length = P.cellsOf e ∧ HasT P (n + 1) e l) → ∃ s : List UInt8, ls.flatten = ofBytes s ∧ s.length = ls.length
  | [], _ => ⟨[], rfl, rfl⟩
  | l :: ls, h => by
    obtain ⟨x, hx⟩ := has_u8 hu (h l (List.mem_cons_self ..)).2
    obtain ⟨s, h1, h2⟩ := rows_bytes hu ls fun l' hl => h l' (List.mem_cons_of_mem _ hl)
    exact ⟨x :: s, by rw [List.flatten_cons, hx, h1]; rfl, by simp [h2]⟩
theorem has_id (hu : P.underlying t = some (.array 16 e)) (he : P.underlying e = some (.int .u8)) (h : HasT P (n + 2) t cs) : ∃ i : ID, cs = ofBytes i.l := by
  unfold HasT at h
  rw [hu] at h
  obtain ⟨ls, h1, h2, h3⟩ := h
  obtain ⟨s, s1, s2⟩ := rows_bytes he ls h3
  exact ⟨⟨s, by omega⟩, by rw [h1, s1]⟩
theorem has_bytes (hu : P.underlying t = some (.slice e)) (he : P.underlying e = some (.int .u8)) (h : HasT P (n + 2) t cs) : ∃ s : Sl UInt8, cs = [(.vsl s.nil (ofBytes s.l) s.l.length)] ∧ s.l.length ≤ maxLen := by
  unfold HasT at h
  rw [hu] at h
  rcases h with rfl | ⟨ls, h1, h2, h3⟩
  · exact ⟨.none, rfl, by simp⟩
  · obtain ⟨s, s1, s2⟩ := rows_bytes he ls h3
    exact ⟨.of s, by rw [h1, s1, ← s2]; rfl, by simp only [Sl.of_l]; have := h2.1; omega⟩
theorem rows_enc {α : Type} [Enc α] {R : α → Prop} {Q : List D → Prop} (hel : ∀ l, Q l → ∃ a : α, l = Enc.cells a ∧ R a) : ∀ (ls : List (List D)), (∀ l, l ∈ ls → Q l) → ∃ s : List α, ls.flatten = encs s ∧ s.length = ls.length ∧ ∀ a, a ∈ s → R a
  | [], _ => ⟨[], rfl, rfl, by simp⟩
  | l :: ls, h => by
    obtain ⟨x, hx, hr⟩ := hel l (h l (List.mem_cons_self ..))
    obtain ⟨s, h1, h2, h3⟩ := rows_enc hel ls fun l' hl => h l' (List.mem_cons_of_mem _ hl)
    refine ⟨x :: s, by rw [List.flatten_cons, hx, h1, encs_cons], by simp [h2], fun a ha => ?_⟩
    rcases List.mem_cons.1 ha with rfl | ha
    · exact hr
    · exact h3 a ha
theorem has_sliceB {α : Type} [Enc α] {R : α → Prop} (hu : P.underlying t = some (.slice e)) (hel : ∀ l, HasT P n e l → ∃ a : α, l = Enc.cells a ∧ R a) (h : HasT P (n + 1) t cs) : ∃ s : Sl α, cs = [(.vsl s.nil (encs s.l) s.l.length)] ∧ s.l.length * P.bytesOf e ≤ reachBytes ∧ ∀ a, a ∈ s.l → R a := by
  unfold HasT at h
  rw [hu] at h
  rcases h with rfl | ⟨ls, h1, h2, h3⟩
  · exact ⟨.none, rfl, by simp, by simp⟩
  · obtain ⟨s, s1, s2, s3⟩ := rows_enc hel ls fun l hl => (h3 l hl).2
    exact ⟨.of s, by rw [h1, s1, ← s2]; rfl, by simp only [Sl.of_l]; rw [s2]; exact h2.2, s3⟩
theorem has_slice {α : Type} [Enc α] {R : α → Prop} (hu : P.underlying t = some (.slice e)) (hel : ∀ l, HasT P n e l → ∃ a : α, l = Enc.cells a ∧ R a) (h : HasT P (n + 1) t cs) : ∃ s : Sl α, cs = [(.vsl s.nil (encs s.l) s.l.length)] ∧ s.l.length ≤ maxLen ∧ ∀ a, a ∈ s.l → R a := by
  unfold HasT at h
  rw [hu] at h
  rcases h with rfl | ⟨ls, h1, h2, h3⟩
  · exact ⟨.none, rfl, by simp, by simp⟩
  · obtain ⟨s, s1, s2, s3⟩ := rows_enc hel ls fun l hl => (h3 l hl).2
    exact ⟨.of s, by rw [h1, s1, ← s2]; rfl, by simp only [Sl.of_l]; have := h2.1; omega, s3⟩
theorem has_struct {fs : Array Field} (hu : P.underlying t = some (.struct fs)) (h : HasT P (n + 1) t cs) : HasFs P (HasT P n) fs.toList cs := by
  unfold HasT at h; rw [hu] at h; exact h
end
/-- Cells back to a value. -/
theorem cor_val {W : World} {d : D} {v : Value} (h : Cor W [d] v.cells.toList) (ho : v.oneCell' = true) : Rep (· < W.heap.size) W iota0 [] d v := by
  have hv : v.cells.toList = [v] := by
    cases v <;> first | rfl | simp [Value.oneCell'] at ho
  rw [hv] at h
  exact h.2.2 0 d rfl
theorem cor_agg {W : World} {ds : List D} {vs : Array Value} (h : Cor W ds vs.toList) : Rep (· < W.heap.size) W iota0 [] (.agg ds) (.agg vs) := by
  refine .agg (by simpa using h.1.symm) h.2.1 fun j d hj => ?_
  have := h.2.2 j d hj
  simpa [List.getD_eq_getElem?_getD, Array.getD_eq_getD_getElem?] using this
end Go.Ev
namespace Go.Ev
open Go Go.Proofs
theorem one_slice {P : Program} {W : World} {base : Nat} {t e : TypeId} {v : Value} (hu : P.underlying t = some (.slice e)) (h : Value.okWide P W .any base t v) : v.oneCell' = true := by
  simp only [Value.okWide, hu, Cell.okWide] at h
  cases v <;> first | rfl | simp [Cell.ok, hu] at h
theorem one_bool {P : Program} {W : World} {base : Nat} {t : TypeId} {v : Value} (hu : P.underlying t = some .bool) (h : Value.okWide P W .any base t v) : v.oneCell' = true := by
  simp only [Value.okWide, hu, Cell.okWide] at h
  cases v <;> first | rfl | simp [Cell.ok, hu] at h
theorem one_int {P : Program} {W : World} {base : Nat} {t : TypeId} {k : IntKind} {v : Value} (hu : P.underlying t = some (.int k)) (h : Value.okWide P W .any base t v) : v.oneCell' = true := by
  simp only [Value.okWide, hu, Cell.okWide] at h
  cases v <;> first | rfl | simp [Cell.ok, hu] at h
theorem one_str {P : Program} {W : World} {base : Nat} {t : TypeId} {v : Value} (hu : P.underlying t = some .string) (h : Value.okWide P W .any base t v) : v.oneCell' = true := by
  simp only [Value.okWide, hu, Cell.okWide] at h
  cases v <;> first | rfl | simp [Cell.ok, hu] at h
theorem agg_struct {P : Program} {W : World} {base : Nat} {t : TypeId} {fs : Array Field} {v : Value} (hu : P.underlying t = some (.struct fs)) (h : Value.okWide P W .any base t v) : ∃ vs, v = .agg vs := by
  simp only [Value.okWide, hu] at h
  obtain ⟨cs, h, _⟩ := h
  exact ⟨cs, h⟩
theorem agg_array {P : Program} {W : World} {base : Nat} {t e : TypeId} {n : Nat} {v : Value} (hu : P.underlying t = some (.array n e)) (h : Value.okWide P W .any base t v) : ∃ vs, v = .agg vs := by
  simp only [Value.okWide, hu] at h
  obtain ⟨cs, h, _⟩ := h
  exact ⟨cs, h⟩
section
variable {H : Type} {enc : TypeId × Value → H} {P : Program} {W : World} {base n : Nat} {t e : TypeId} {v : Value} {d : DataW H} {ps : List MemPlace}
theorem arg_bytes (hu : P.underlying t = some (.slice e)) (he : P.underlying e = some (.int .u8)) (hp : PlainT P (n + 2) t = true) (hv : Value.okWide P W .any base t v) (h : DataW.Trod enc P W 0 (fun _ => true) true t v d ps ∧ Wok P t d) :
    ∃ s : Sl UInt8, Rep (· < W.heap.size) W iota0 [] (.vsl s.nil (ofBytes s.l) s.l.length) v ∧ s.l.length ≤ maxLen := by
  obtain ⟨ds, h1, h2⟩ := read_plain hp h
  obtain ⟨s, rfl, hl⟩ := has_bytes hu he h1
  exact ⟨s, cor_val h2 (one_slice hu hv), hl⟩
theorem arg_slice {α : Type} [Enc α] {R : α → Prop} (hu : P.underlying t = some (.slice e)) (hel : ∀ l, HasT P n e l → ∃ a : α, l = Enc.cells a ∧ R a) (hp : PlainT P (n + 1) t = true) (hv : Value.okWide P W .any base t v) (h : DataW.Trod enc P W 0 (fun _ => true) true t v d ps ∧ Wok P t d) :
    ∃ s : Sl α, Rep (· < W.heap.size) W iota0 [] (.vsl s.nil (encs s.l) s.l.length) v ∧ s.l.length ≤ maxLen ∧ ∀ a, a ∈ s.l → R a := by
  obtain ⟨ds, h1, h2⟩ := read_plain hp h
  obtain ⟨s, rfl, hl, hr⟩ := has_slice hu hel h1
  exact ⟨s, cor_val h2 (one_slice hu hv), hl, hr⟩
theorem arg_struct {α : Type} [Enc α] {R : α → Prop} {fs : Array Field} (hu : P.underlying t = some (.struct fs)) (hel : ∀ l, HasT P n t l → ∃ a : α, l = Enc.cells a ∧ R a) (hp : PlainT P n t = true) (hv : Value.okWide P W .any base t v) (h : DataW.Trod enc P W 0 (fun _ => true) true t v d ps ∧ Wok P t d) :
    ∃ a : α, Rep (· < W.heap.size) W iota0 [] (.agg (Enc.cells a)) v ∧ R a := by
  obtain ⟨ds, h1, h2⟩ := read_plain hp h
  obtain ⟨a, rfl, hr⟩ := hel ds h1
  obtain ⟨vs, rfl⟩ := agg_struct hu hv
  exact ⟨a, cor_agg h2, hr⟩
theorem arg_bool (hu : P.underlying t = some .bool) (hp : PlainT P (n + 1) t = true) (hv : Value.okWide P W .any base t v) (h : DataW.Trod enc P W 0 (fun _ => true) true t v d ps ∧ Wok P t d) : ∃ b, Rep (· < W.heap.size) W iota0 [] (.bool b) v := by
  obtain ⟨ds, h1, h2⟩ := read_plain hp h
  obtain ⟨b, rfl⟩ := has_bool hu h1
  exact ⟨b, cor_val h2 (one_bool hu hv)⟩
theorem arg_i64 (hu : P.underlying t = some (.int .i64)) (hp : PlainT P (n + 1) t = true) (hv : Value.okWide P W .any base t v) (h : DataW.Trod enc P W 0 (fun _ => true) true t v d ps ∧ Wok P t d) : ∃ b, Rep (· < W.heap.size) W iota0 [] (.int .i64 b) v ∧ isI64 b := by
  obtain ⟨ds, h1, h2⟩ := read_plain hp h
  obtain ⟨b, rfl, hb⟩ := has_i64 hu h1
  exact ⟨b, cor_val h2 (one_int hu hv), hb⟩
theorem arg_str (hu : P.underlying t = some .string) (hp : PlainT P (n + 1) t = true) (hv : Value.okWide P W .any base t v) (h : DataW.Trod enc P W 0 (fun _ => true) true t v d ps ∧ Wok P t d) : ∃ s, Rep (· < W.heap.size) W iota0 [] (.str s) v ∧ s.length ≤ maxLen := by
  obtain ⟨ds, h1, h2⟩ := read_plain hp h
  obtain ⟨b, rfl, hb⟩ := has_str hu h1
  exact ⟨b, cor_val h2 (one_str hu hv), hb⟩
end
theorem repL_nil' {ok : Nat → Prop} {w : World} {ι : Iota} {H : Heap} : RepL ok w ι H [] [] := ⟨rfl, by simp⟩
theorem repL_cons' {ok : Nat → Prop} {w : World} {ι : Iota} {H : Heap} {d : D} {v : Value} {ds : List D} {vs : List Value} (h : Rep ok w ι H d v) (hs : RepL ok w ι H ds vs) : RepL ok w ι H (d :: ds) (v :: vs) := by
  refine ⟨by simp [hs.1], fun j x hj => ?_⟩
  cases j with
  | zero => simp at hj; subst hj; exact h
  | succ j => exact hs.2 j x (by simpa using hj)
/-- Fields as they may come in. -/
def Rec.Fit (r : Rec) : Prop := r.fields.l.length ≤ maxLen ∧ ∀ p, p ∈ r.fields.l → p.name.length ≤ maxLen ∧ p.value.length ≤ maxLen
end Go.Ev
/- Cursors. -/
namespace Go.Ev
open Go Go.Proofs
@[simp] theorem ID.ta (i : ID) (r : List D) : (ofBytes i.l ++ r).take 16 = ofBytes i.l := by simp
@[simp] theorem ID.da (i : ID) (r : List D) : (ofBytes i.l ++ r).drop 16 = r := by simp
structure Cur where
  seq : ID
  n : Int
  boot : ID
  mono : Int
  real : Int
  xor : Int
  deriving DecidableEq
instance : Enc Cur := ⟨36, fun m => (ofBytes m.seq.l ++ (.int .u64 m.n :: (ofBytes m.boot.l ++ (.int .u64 m.mono :: (.int .u64 m.real :: (.int .u64 m.xor :: ([] : List D))))))), fun m => by simp, fun m => by simp [idFree]⟩
theorem Cur.cells (m : Cur) : Enc.cells m = (ofBytes m.seq.l ++ (.int .u64 m.n :: (ofBytes m.boot.l ++ (.int .u64 m.mono :: (.int .u64 m.real :: (.int .u64 m.xor :: ([] : List D))))))) := rfl
@[simp] theorem Cur.size : Enc.size Cur = 36 := rfl
@[simp] theorem Cur.cl (a : Cur) : (Enc.cells a).length = 36 := Enc.len a
@[simp] theorem Cur.ct (a : Cur) (r : List D) : (Enc.cells a ++ r).take 36 = Enc.cells a := cells_take rfl a r
@[simp] theorem Cur.ct' (a : Cur) : (Enc.cells a).take 36 = Enc.cells a := cells_take' rfl a
@[simp] theorem Cur.cd (a : Cur) (r : List D) : (Enc.cells a ++ r).drop 36 = r := cells_drop rfl a r
@[simp] theorem Cur.el (l : List Cur) : (encs l).length = l.length * 36 := encs_len' rfl l
@[simp] theorem Cur.ed (l : List Cur) (i : Nat) : (encs l).drop (i * 36) = encs (l.drop i) := encs_drop rfl l i
@[simp] theorem Cur.et (l : List Cur) (i : Nat) : (encs l).take (i * 36) = encs (l.take i) := encs_take rfl l i
@[simp high] theorem Cur.ea {l : List Cur} {i : Nat} (h : i < l.length) : (encs l).drop (i * 36) = Enc.cells l[i] ++ encs (l.drop (i + 1)) := encs_at rfl h
@[simp high] theorem Cur.es (m : Cur) {l : List Cur} {j : Nat} (h : j < l.length) : setRange (encs l) (j * 36) (Enc.cells m) = encs (l.set j m) := encs_set rfl m l h
@[simp] theorem Cur.t0 (m : Cur) : (Enc.cells m).take 16 = ofBytes m.seq.l := by simp [Cur.cells]
@[simp] theorem Cur.t0' (m : Cur) (r : List D) : (Enc.cells m ++ r).take 16 = ofBytes m.seq.l := by simp [Cur.cells]
@[simp] theorem Cur.s0 (m : Cur) (x : ID) : setRange (Enc.cells m) 0 (ofBytes x.l) = Enc.cells { m with seq := x } := by simp [List.take_append, Cur.cells]
@[simp] theorem Cur.d16 (m : Cur) : (Enc.cells m).drop 16 = (.int .u64 m.n :: (ofBytes m.boot.l ++ (.int .u64 m.mono :: (.int .u64 m.real :: (.int .u64 m.xor :: ([] : List D)))))) := by simp [Cur.cells]
@[simp] theorem Cur.d16' (m : Cur) (r : List D) : (Enc.cells m ++ r).drop 16 = (.int .u64 m.n :: (ofBytes m.boot.l ++ (.int .u64 m.mono :: (.int .u64 m.real :: (.int .u64 m.xor :: ([] : List D)))))) ++ r := by simp [Cur.cells]
@[simp] theorem Cur.g16 (m : Cur) (h) : (Enc.cells m)[16]'h = .int .u64 m.n := by simp [Cur.cells]
@[simp] theorem Cur.q16 (m : Cur) : (Enc.cells m)[16]? = some (.int .u64 m.n) := by simp [Cur.cells]
@[simp] theorem Cur.s16 (m : Cur) (x : Int) : setRange (Enc.cells m) 16 [.int .u64 x] = Enc.cells { m with n := x } := by simp [List.drop_append, drop_bytes, Cur.cells]
@[simp] theorem Cur.d17 (m : Cur) : (Enc.cells m).drop 17 = (ofBytes m.boot.l ++ (.int .u64 m.mono :: (.int .u64 m.real :: (.int .u64 m.xor :: ([] : List D))))) := by simp [List.drop_append, drop_bytes, Cur.cells]
@[simp] theorem Cur.d17' (m : Cur) (r : List D) : (Enc.cells m ++ r).drop 17 = (ofBytes m.boot.l ++ (.int .u64 m.mono :: (.int .u64 m.real :: (.int .u64 m.xor :: ([] : List D))))) ++ r := by simp [List.drop_append, drop_bytes, Cur.cells]
@[simp] theorem Cur.s17 (m : Cur) (x : ID) : setRange (Enc.cells m) 17 (ofBytes x.l) = Enc.cells { m with boot := x } := by simp [List.take_append, List.drop_append, drop_bytes, List.take_of_length_le, Cur.cells]
@[simp] theorem Cur.d33 (m : Cur) : (Enc.cells m).drop 33 = (.int .u64 m.mono :: (.int .u64 m.real :: (.int .u64 m.xor :: ([] : List D)))) := by simp [List.drop_append, drop_bytes, Cur.cells]
@[simp] theorem Cur.d33' (m : Cur) (r : List D) : (Enc.cells m ++ r).drop 33 = (.int .u64 m.mono :: (.int .u64 m.real :: (.int .u64 m.xor :: ([] : List D)))) ++ r := by simp [List.drop_append, drop_bytes, Cur.cells]
@[simp] theorem Cur.g33 (m : Cur) (h) : (Enc.cells m)[33]'h = .int .u64 m.mono := by simp [Cur.cells]
@[simp] theorem Cur.q33 (m : Cur) : (Enc.cells m)[33]? = some (.int .u64 m.mono) := by simp [Cur.cells]
@[simp] theorem Cur.s33 (m : Cur) (x : Int) : setRange (Enc.cells m) 33 [.int .u64 x] = Enc.cells { m with mono := x } := by simp [List.take_append, List.drop_append, drop_bytes, List.take_of_length_le, Cur.cells]
@[simp] theorem Cur.d34 (m : Cur) : (Enc.cells m).drop 34 = (.int .u64 m.real :: (.int .u64 m.xor :: ([] : List D))) := by simp [List.drop_append, drop_bytes, Cur.cells]
@[simp] theorem Cur.d34' (m : Cur) (r : List D) : (Enc.cells m ++ r).drop 34 = (.int .u64 m.real :: (.int .u64 m.xor :: ([] : List D))) ++ r := by simp [List.drop_append, drop_bytes, Cur.cells]
@[simp] theorem Cur.g34 (m : Cur) (h) : (Enc.cells m)[34]'h = .int .u64 m.real := by simp [Cur.cells]
@[simp] theorem Cur.q34 (m : Cur) : (Enc.cells m)[34]? = some (.int .u64 m.real) := by simp [Cur.cells]
@[simp] theorem Cur.s34 (m : Cur) (x : Int) : setRange (Enc.cells m) 34 [.int .u64 x] = Enc.cells { m with real := x } := by simp [List.take_append, List.drop_append, drop_bytes, List.take_of_length_le, Cur.cells]
@[simp] theorem Cur.d35 (m : Cur) : (Enc.cells m).drop 35 = (.int .u64 m.xor :: ([] : List D)) := by simp [List.drop_append, drop_bytes, Cur.cells]
@[simp] theorem Cur.d35' (m : Cur) (r : List D) : (Enc.cells m ++ r).drop 35 = (.int .u64 m.xor :: ([] : List D)) ++ r := by simp [List.drop_append, drop_bytes, Cur.cells]
@[simp] theorem Cur.g35 (m : Cur) (h) : (Enc.cells m)[35]'h = .int .u64 m.xor := by simp [Cur.cells]
@[simp] theorem Cur.q35 (m : Cur) : (Enc.cells m)[35]? = some (.int .u64 m.xor) := by simp [Cur.cells]
@[simp] theorem Cur.s35 (m : Cur) (x : Int) : setRange (Enc.cells m) 35 [.int .u64 x] = Enc.cells { m with xor := x } := by simp [List.take_append, List.drop_append, drop_bytes, List.take_of_length_le, Cur.cells]
end Go.Ev
/- The order of bytes. -/
namespace Go.Ev
open Go Go.Proofs
theorem cmpB_self : ∀ (x : List UInt8), cmpB x x = 0
  | [] => rfl
  | a :: x => by simp [cmpB, cmpB_self x]
theorem cmpB_swap : ∀ (x y : List UInt8), cmpB y x = - cmpB x y
  | [], [] => rfl
  | [], _ :: _ => rfl
  | _ :: _, [] => rfl
  | a :: x, b :: y => by
    simp only [cmpB]
    by_cases h : a = b
    · subst h; simp [cmpB_swap x y]
    · have h' : ¬ b = a := fun e => h e.symm
      rw [if_neg h, if_neg h']
      by_cases hl : a < b
      · have : ¬ b < a := UInt8.not_lt.2 (UInt8.le_of_lt hl)
        rw [if_pos hl, if_neg this]; rfl
      · have : b < a := UInt8.lt_of_le_of_ne (UInt8.not_lt.1 hl) h'
        rw [if_neg hl, if_pos this]
theorem cmpB_eq : ∀ {x y : List UInt8}, cmpB x y = 0 → x = y
  | [], [], _ => rfl
  | [], _ :: _, h => by simp [cmpB] at h
  | _ :: _, [], h => by simp [cmpB] at h
  | a :: x, b :: y, h => by
    simp only [cmpB] at h
    by_cases e : a = b
    · rw [if_pos e] at h
      rw [e, cmpB_eq h]
    · rw [if_neg e] at h
      split at h <;> simp at h
theorem cmpB_rng : ∀ (x y : List UInt8), cmpB x y = -1 ∨ cmpB x y = 0 ∨ cmpB x y = 1
  | [], [] => by simp [cmpB]
  | [], _ :: _ => by simp [cmpB]
  | _ :: _, [] => by simp [cmpB]
  | a :: x, b :: y => by
    simp only [cmpB]
    split
    · exact cmpB_rng x y
    · split <;> simp
theorem cmpB_trans : ∀ {x y z : List UInt8}, cmpB x y < 0 → cmpB y z < 0 → cmpB x z < 0
  | [], [], _, h, _ => by simp [cmpB] at h
  | [], _ :: _, [], _, h => by simp [cmpB] at h
  | [], _ :: _, _ :: _, _, _ => by simp [cmpB]
  | _ :: _, [], _, h, _ => by simp [cmpB] at h
  | _ :: _, _ :: _, [], _, h => by simp [cmpB] at h
  | a :: x, b :: y, c :: z, h1, h2 => by
    simp only [cmpB] at h1 h2 ⊢
    by_cases e1 : a = b
    · subst e1
      rw [if_pos rfl] at h1
      by_cases e2 : a = c
      · subst e2
        rw [if_pos rfl] at h2 ⊢
        exact cmpB_trans h1 h2
      · rw [if_neg e2] at h2 ⊢
        exact h2
    · rw [if_neg e1] at h1
      have l1 : a < b := by
        by_cases l : a < b
        · exact l
        · rw [if_neg l] at h1; simp at h1
      by_cases e2 : b = c
      · subst e2
        rw [if_neg e1, if_pos l1]
        decide
      · rw [if_neg e2] at h2
        have l2 : b < c := by
          by_cases l : b < c
          · exact l
          · rw [if_neg l] at h2; simp at h2
        have l3 : a < c := UInt8.lt_trans l1 l2
        rw [if_neg (UInt8.ne_of_lt l3), if_pos l3]
        decide
theorem id_of_cmp {a b : ID} (h : cmpB a.l b.l = 0) : a = b := ID.ext' (cmpB_eq h)
end Go.Ev
/- Hexadecimal digits. -/
namespace Go.Ev
open Go Go.Proofs
def hexc (k : Nat) : UInt8 := if k < 10 then UInt8.ofNat (48 + k) else UInt8.ofNat (87 + k)
def hexF : Nat → Nat → List UInt8
  | 0, _ => []
  | f + 1, v => if v < 16 then [hexc v] else hexF f (v / 16) ++ [hexc (v % 16)]
/-- A number's digits, as few as can be. -/
def hx (v : Nat) : List UInt8 := hexF 16 v
def digL : List UInt8 := [48, 49, 50, 51, 52, 53, 54, 55, 56, 57, 97, 98, 99, 100, 101, 102]
def dig36 : List UInt8 := [48, 49, 50, 51, 52, 53, 54, 55, 56, 57, 97, 98, 99, 100, 101, 102, 103, 104, 105, 106, 107, 108, 109, 110, 111, 112, 113, 114, 115, 116, 117, 118, 119, 120, 121, 122]
theorem dig36_at : ∀ k, k < 16 → dig36[k]? = some (hexc k) := by decide
theorem digL_at : ∀ k, k < 16 → digL[k]? = some (hexc k) := by decide
theorem digL_idx : ∀ k, k < 16 → idxB (hexc k) digL 0 = (k : Int) := by decide
theorem hexF_len : ∀ (f v : Nat), (hexF f v).length ≤ f
  | 0, _ => Nat.le_refl _
  | f + 1, v => by
    rw [hexF]
    split
    · simp
    · have := hexF_len f (v / 16)
      simp
      omega
theorem hx_len (v : Nat) : (hx v).length ≤ 16 := hexF_len 16 v
theorem hx_pos (v : Nat) : 0 < (hx v).length := by
  unfold hx hexF
  split <;> simp
theorem hexc_ne : ∀ k, k < 16 → hexc k ≠ 59 ∧ hexc k ≠ 61 ∧ hexc k ≠ 45 := by decide
theorem hexF_ne : ∀ (f v : Nat), ∀ x ∈ hexF f v, x ≠ 59 ∧ x ≠ 61 ∧ x ≠ 45
  | 0, _ => by simp [hexF]
  | f + 1, v => by
    rw [hexF]
    split
    · intro x hx
      rw [List.mem_singleton.1 hx]
      exact hexc_ne v (by assumption)
    · intro x hx
      rcases List.mem_append.1 hx with h | h
      · exact hexF_ne f _ x h
      · rw [List.mem_singleton.1 h]
        exact hexc_ne _ (Nat.mod_lt _ (by decide))
theorem hx_ne (v : Nat) : ∀ x ∈ hx v, x ≠ 59 ∧ x ≠ 61 ∧ x ≠ 45 := hexF_ne 16 v
/-- A name's digits. -/
def hexs : List UInt8 → List UInt8
  | [] => []
  | b :: l => hexc (b.toNat / 16) :: hexc (b.toNat % 16) :: hexs l
theorem hexs_len : ∀ (l : List UInt8), (hexs l).length = 2 * l.length
  | [] => rfl
  | b :: l => by simp [hexs, hexs_len l]; omega
theorem hexs_append : ∀ (a b : List UInt8), hexs (a ++ b) = hexs a ++ hexs b
  | [], _ => rfl
  | x :: a, b => by simp [hexs, hexs_append a b]
theorem hexs_ne : ∀ (l : List UInt8), ∀ x ∈ hexs l, x ≠ 59 ∧ x ≠ 61 ∧ x ≠ 45
  | [] => by simp [hexs]
  | b :: l => by
    intro x hx
    simp only [hexs, List.mem_cons] at hx
    have hb := b.toNat_lt
    rcases hx with rfl | rfl | hx
    · exact hexc_ne _ (by omega)
    · exact hexc_ne _ (by omega)
    · exact hexs_ne l x hx
/-- A number in sixteen digits. -/
def fixed (v : Nat) : List UInt8 := List.replicate (16 - (hx v).length) 48 ++ hx v
theorem fixed_len (v : Nat) : (fixed v).length = 16 := by
  have := hx_len v
  simp [fixed]
  omega
/-- The name that digits are, one digit behind the other. -/
def idGo : List UInt8 → Nat → List UInt8 → Option (List UInt8)
  | [], _, st => some st
  | c :: l, i, st => if idxB c digL 0 < 0 then none else idGo l (i + 1) (st.set (i / 2) ((st.getD (i / 2) 0 <<< 4) ||| UInt8.ofNat (idxB c digL 0).toNat))
def zero16 : List UInt8 := List.replicate 16 0
def idP (s : List UInt8) : Option (List UInt8) := if s.length = 32 then idGo s 0 zero16 else none
theorem idGo_len : ∀ (s : List UInt8) (i : Nat) (st r : List UInt8), idGo s i st = some r → r.length = st.length
  | [], _, st, r, h => by simp only [idGo, Option.some.injEq] at h; rw [h]
  | c :: l, i, st, r, h => by
    simp only [idGo] at h
    split at h
    · cases h
    · have := idGo_len l _ _ r h
      simpa using this
theorem idP_len {s r : List UInt8} (h : idP s = some r) : r.length = 16 := by
  unfold idP at h
  split at h
  · have := idGo_len _ _ _ _ h
    simpa [zero16] using this
  · cases h
theorem idx_range (c : UInt8) : ∀ (l : List UInt8) (n : Nat), idxB c l n = -1 ∨ ∃ k, k < l.length ∧ idxB c l n = ((n + k : Nat) : Int)
  | [], _ => .inl rfl
  | b :: l, n => by
    unfold idxB
    split
    · exact .inr ⟨0, by simp, by simp⟩
    · rcases idx_range c l (n + 1) with h | ⟨k, h1, h2⟩
      · exact .inl h
      · exact .inr ⟨k + 1, by simp; omega, by rw [h2]; omega⟩
theorem nib_orN : ∀ n, n < 256 → (((0 : UInt8) <<< 4 ||| UInt8.ofNat (n / 16)) <<< 4) ||| UInt8.ofNat (n % 16) = UInt8.ofNat n := by decide +kernel
theorem nib_or (b : UInt8) : (((0 : UInt8) <<< 4 ||| UInt8.ofNat (b.toNat / 16)) <<< 4) ||| UInt8.ofNat (b.toNat % 16) = b := by
  rw [nib_orN b.toNat b.toNat_lt, UInt8.ofNat_toNat]
theorem idGo_hexs : ∀ (l done : List UInt8), idGo (hexs l) (2 * done.length) (done ++ List.replicate l.length 0) = some (done ++ l)
  | [], done => by simp [hexs, idGo]
  | b :: l, done => by
    have hb := b.toNat_lt
    have h1 := digL_idx (b.toNat / 16) (by omega)
    have h2 := digL_idx (b.toNat % 16) (by omega)
    simp only [hexs, idGo, h1, h2]
    rw [if_neg (by omega), if_neg (by omega)]
    have e1 : 2 * done.length / 2 = done.length := by omega
    have e2 : (2 * done.length + 1) / 2 = done.length := by omega
    have e3 : 2 * done.length + 1 + 1 = 2 * (done ++ [b]).length := by simp; omega
    have g1 : (done ++ List.replicate (b :: l).length 0).getD done.length 0 = (0 : UInt8) := by
      simp [List.getD, List.replicate_succ]
    rw [e1, e2, e3, g1]
    have s1 : ∀ x : UInt8, (done ++ List.replicate (b :: l).length (0 : UInt8)).set done.length x = done ++ x :: List.replicate l.length 0 := by
      intro x
      simp [List.replicate_succ]
    rw [s1]
    have g2 : ∀ x : UInt8, (done ++ x :: List.replicate l.length (0 : UInt8)).getD done.length 0 = x := by
      intro x
      simp [List.getD]
    rw [g2]
    have s2 : ∀ x y : UInt8, (done ++ x :: List.replicate l.length (0 : UInt8)).set done.length y = (done ++ [y]) ++ List.replicate l.length 0 := by
      intro x y
      simp
    have e4 : ((((b.toNat / 16 : Nat) : Int)).toNat) = b.toNat / 16 := by omega
    have e5 : ((((b.toNat % 16 : Nat) : Int)).toNat) = b.toNat % 16 := by omega
    rw [s2, e4, e5, nib_or b, idGo_hexs l (done ++ [b])]
    simp
theorem idP_hexs {l : List UInt8} (h : l.length = 16) : idP (hexs l) = some l := by
  unfold idP
  rw [if_pos (by rw [hexs_len, h])]
  have := idGo_hexs l []
  simpa [zero16, h] using this
theorem shl4_N : ∀ n : Nat, n < 256 → ∀ k : Nat, k < 16 → orI .u8 (IntKind.u8.wrap ((n : Int) * 16)) (k : Int) = ((UInt8.ofNat n <<< 4 ||| UInt8.ofNat k).toNat : Int) := by decide +kernel
theorem shl4_u8 (a : UInt8) (k : Nat) (hk : k < 16) : orI .u8 (IntKind.u8.wrap ((a.toNat : Int) * 16)) (k : Int) = ((a <<< 4 ||| UInt8.ofNat k).toNat : Int) := by
  rw [shl4_N a.toNat a.toNat_lt k hk, UInt8.ofNat_toNat]
theorem and15_u64 {n : Nat} (h : n < 18446744073709551616) : andI .u64 (n : Int) 15 = ((n % 16 : Nat) : Int) := by
  unfold andI
  have e : (BitVec.ofInt IntKind.u64.bits (n : Int) &&& BitVec.ofInt IntKind.u64.bits 15).toNat = n % 16 := by
    show (BitVec.ofInt 64 (n : Int) &&& BitVec.ofInt 64 ((15 : Nat) : Int)).toNat = n % 16
    rw [BitVec.ofInt_natCast, BitVec.ofInt_natCast, BitVec.toNat_and, BitVec.toNat_ofNat, BitVec.toNat_ofNat, Nat.mod_eq_of_lt (show n < 2 ^ 64 by omega)]
    exact Nat.and_two_pow_sub_one_eq_mod n 4
  rw [e, wrap_u64]
  omega
theorem and15_u8N : ∀ n : Nat, n < 256 → andI .u8 (n : Int) 15 = ((n % 16 : Nat) : Int) := by decide +kernel
theorem and15_u8 (b : UInt8) : andI .u8 (b.toNat : Int) 15 = ((b.toNat % 16 : Nat) : Int) := and15_u8N b.toNat b.toNat_lt
theorem fdiv16 (n : Nat) : Int.fdiv (n : Int) 16 = ((n / 16 : Nat) : Int) := by
  rw [Int.fdiv_eq_ediv_of_nonneg _ (by omega)]
  omega
/-- A row of zeros, filled from behind. -/
theorem fill_behind (i : Nat) (s : List UInt8) (c : UInt8) : setRange (List.replicate (i + 1) (D.int .u8 0) ++ ofBytes s) i [.int .u8 c.toNat] = List.replicate i (.int .u8 0) ++ ofBytes (c :: s) := by
  unfold setRange
  have h : (List.replicate (i + 1) (D.int .u8 0) ++ ofBytes s).drop (i + 1) = ofBytes s := List.drop_left' (by simp)
  have h2 : (List.replicate (i + 1) (D.int .u8 0) ++ ofBytes s).take i = List.replicate i (D.int .u8 0) := by
    rw [List.take_append_of_le_length (by simp), List.take_replicate]
    congr 1
    omega
  rw [h2, List.length_singleton, h]
  simp [ofBytes]
end Go.Ev
/- Requests, responses. -/
namespace Go.Ev
open Go Go.Proofs
structure Rq where
  path : List UInt8
  epoch : Int
  number : Int
  body : Sl UInt8
instance : Enc Rq := ⟨4, fun m => (.str m.path :: (.int .u64 m.epoch :: (.int .u64 m.number :: ((.vsl m.body.nil (ofBytes m.body.l) m.body.l.length) :: ([] : List D))))), fun m => by simp, fun m => by simp [idFree]⟩
theorem Rq.cells (m : Rq) : Enc.cells m = (.str m.path :: (.int .u64 m.epoch :: (.int .u64 m.number :: ((.vsl m.body.nil (ofBytes m.body.l) m.body.l.length) :: ([] : List D))))) := rfl
@[simp] theorem Rq.size : Enc.size Rq = 4 := rfl
@[simp] theorem Rq.cl (a : Rq) : (Enc.cells a).length = 4 := Enc.len a
@[simp] theorem Rq.ct (a : Rq) (r : List D) : (Enc.cells a ++ r).take 4 = Enc.cells a := cells_take rfl a r
@[simp] theorem Rq.ct' (a : Rq) : (Enc.cells a).take 4 = Enc.cells a := cells_take' rfl a
@[simp] theorem Rq.cd (a : Rq) (r : List D) : (Enc.cells a ++ r).drop 4 = r := cells_drop rfl a r
@[simp] theorem Rq.el (l : List Rq) : (encs l).length = l.length * 4 := encs_len' rfl l
@[simp] theorem Rq.ed (l : List Rq) (i : Nat) : (encs l).drop (i * 4) = encs (l.drop i) := encs_drop rfl l i
@[simp] theorem Rq.et (l : List Rq) (i : Nat) : (encs l).take (i * 4) = encs (l.take i) := encs_take rfl l i
@[simp high] theorem Rq.ea {l : List Rq} {i : Nat} (h : i < l.length) : (encs l).drop (i * 4) = Enc.cells l[i] ++ encs (l.drop (i + 1)) := encs_at rfl h
@[simp high] theorem Rq.es (m : Rq) {l : List Rq} {j : Nat} (h : j < l.length) : setRange (encs l) (j * 4) (Enc.cells m) = encs (l.set j m) := encs_set rfl m l h
@[simp] theorem Rq.g0 (m : Rq) (h) : (Enc.cells m)[0]'h = .str m.path := by simp [Rq.cells]
@[simp] theorem Rq.q0 (m : Rq) : (Enc.cells m)[0]? = some (.str m.path) := by simp [Rq.cells]
@[simp] theorem Rq.s0 (m : Rq) (x : List UInt8) : setRange (Enc.cells m) 0 [.str x] = Enc.cells { m with path := x } := by simp [Rq.cells]
@[simp] theorem Rq.d1 (m : Rq) : (Enc.cells m).drop 1 = (.int .u64 m.epoch :: (.int .u64 m.number :: ((.vsl m.body.nil (ofBytes m.body.l) m.body.l.length) :: ([] : List D)))) := by simp [Rq.cells]
@[simp] theorem Rq.d1' (m : Rq) (r : List D) : (Enc.cells m ++ r).drop 1 = (.int .u64 m.epoch :: (.int .u64 m.number :: ((.vsl m.body.nil (ofBytes m.body.l) m.body.l.length) :: ([] : List D)))) ++ r := by simp [Rq.cells]
@[simp] theorem Rq.g1 (m : Rq) (h) : (Enc.cells m)[1]'h = .int .u64 m.epoch := by simp [Rq.cells]
@[simp] theorem Rq.q1 (m : Rq) : (Enc.cells m)[1]? = some (.int .u64 m.epoch) := by simp [Rq.cells]
@[simp] theorem Rq.s1 (m : Rq) (x : Int) : setRange (Enc.cells m) 1 [.int .u64 x] = Enc.cells { m with epoch := x } := by simp [Rq.cells]
@[simp] theorem Rq.d2 (m : Rq) : (Enc.cells m).drop 2 = (.int .u64 m.number :: ((.vsl m.body.nil (ofBytes m.body.l) m.body.l.length) :: ([] : List D))) := by simp [Rq.cells]
@[simp] theorem Rq.d2' (m : Rq) (r : List D) : (Enc.cells m ++ r).drop 2 = (.int .u64 m.number :: ((.vsl m.body.nil (ofBytes m.body.l) m.body.l.length) :: ([] : List D))) ++ r := by simp [Rq.cells]
@[simp] theorem Rq.g2 (m : Rq) (h) : (Enc.cells m)[2]'h = .int .u64 m.number := by simp [Rq.cells]
@[simp] theorem Rq.q2 (m : Rq) : (Enc.cells m)[2]? = some (.int .u64 m.number) := by simp [Rq.cells]
@[simp] theorem Rq.s2 (m : Rq) (x : Int) : setRange (Enc.cells m) 2 [.int .u64 x] = Enc.cells { m with number := x } := by simp [Rq.cells]
@[simp] theorem Rq.d3 (m : Rq) : (Enc.cells m).drop 3 = ((.vsl m.body.nil (ofBytes m.body.l) m.body.l.length) :: ([] : List D)) := by simp [Rq.cells]
@[simp] theorem Rq.d3' (m : Rq) (r : List D) : (Enc.cells m ++ r).drop 3 = ((.vsl m.body.nil (ofBytes m.body.l) m.body.l.length) :: ([] : List D)) ++ r := by simp [Rq.cells]
@[simp] theorem Rq.g3 (m : Rq) (h) : (Enc.cells m)[3]'h = (.vsl m.body.nil (ofBytes m.body.l) m.body.l.length) := by simp [Rq.cells]
@[simp] theorem Rq.q3 (m : Rq) : (Enc.cells m)[3]? = some ((.vsl m.body.nil (ofBytes m.body.l) m.body.l.length)) := by simp [Rq.cells]
@[simp] theorem Rq.s3 (m : Rq) (x : Sl UInt8) : setRange (Enc.cells m) 3 [(.vsl x.nil (ofBytes x.l) x.l.length)] = Enc.cells { m with body := x } := by simp [Rq.cells]
structure Msg where
  kind : Int
  epoch : Int
  number : Int
  body : Sl UInt8
instance : Enc Msg := ⟨4, fun m => (.int .i64 m.kind :: (.int .u64 m.epoch :: (.int .u64 m.number :: ((.vsl m.body.nil (ofBytes m.body.l) m.body.l.length) :: ([] : List D))))), fun m => by simp, fun m => by simp [idFree]⟩
theorem Msg.cells (m : Msg) : Enc.cells m = (.int .i64 m.kind :: (.int .u64 m.epoch :: (.int .u64 m.number :: ((.vsl m.body.nil (ofBytes m.body.l) m.body.l.length) :: ([] : List D))))) := rfl
@[simp] theorem Msg.size : Enc.size Msg = 4 := rfl
@[simp] theorem Msg.cl (a : Msg) : (Enc.cells a).length = 4 := Enc.len a
@[simp] theorem Msg.ct (a : Msg) (r : List D) : (Enc.cells a ++ r).take 4 = Enc.cells a := cells_take rfl a r
@[simp] theorem Msg.ct' (a : Msg) : (Enc.cells a).take 4 = Enc.cells a := cells_take' rfl a
@[simp] theorem Msg.cd (a : Msg) (r : List D) : (Enc.cells a ++ r).drop 4 = r := cells_drop rfl a r
@[simp] theorem Msg.el (l : List Msg) : (encs l).length = l.length * 4 := encs_len' rfl l
@[simp] theorem Msg.ed (l : List Msg) (i : Nat) : (encs l).drop (i * 4) = encs (l.drop i) := encs_drop rfl l i
@[simp] theorem Msg.et (l : List Msg) (i : Nat) : (encs l).take (i * 4) = encs (l.take i) := encs_take rfl l i
@[simp high] theorem Msg.ea {l : List Msg} {i : Nat} (h : i < l.length) : (encs l).drop (i * 4) = Enc.cells l[i] ++ encs (l.drop (i + 1)) := encs_at rfl h
@[simp high] theorem Msg.es (m : Msg) {l : List Msg} {j : Nat} (h : j < l.length) : setRange (encs l) (j * 4) (Enc.cells m) = encs (l.set j m) := encs_set rfl m l h
@[simp] theorem Msg.g0 (m : Msg) (h) : (Enc.cells m)[0]'h = .int .i64 m.kind := by simp [Msg.cells]
@[simp] theorem Msg.q0 (m : Msg) : (Enc.cells m)[0]? = some (.int .i64 m.kind) := by simp [Msg.cells]
@[simp] theorem Msg.s0 (m : Msg) (x : Int) : setRange (Enc.cells m) 0 [.int .i64 x] = Enc.cells { m with kind := x } := by simp [Msg.cells]
@[simp] theorem Msg.d1 (m : Msg) : (Enc.cells m).drop 1 = (.int .u64 m.epoch :: (.int .u64 m.number :: ((.vsl m.body.nil (ofBytes m.body.l) m.body.l.length) :: ([] : List D)))) := by simp [Msg.cells]
@[simp] theorem Msg.d1' (m : Msg) (r : List D) : (Enc.cells m ++ r).drop 1 = (.int .u64 m.epoch :: (.int .u64 m.number :: ((.vsl m.body.nil (ofBytes m.body.l) m.body.l.length) :: ([] : List D)))) ++ r := by simp [Msg.cells]
@[simp] theorem Msg.g1 (m : Msg) (h) : (Enc.cells m)[1]'h = .int .u64 m.epoch := by simp [Msg.cells]
@[simp] theorem Msg.q1 (m : Msg) : (Enc.cells m)[1]? = some (.int .u64 m.epoch) := by simp [Msg.cells]
@[simp] theorem Msg.s1 (m : Msg) (x : Int) : setRange (Enc.cells m) 1 [.int .u64 x] = Enc.cells { m with epoch := x } := by simp [Msg.cells]
@[simp] theorem Msg.d2 (m : Msg) : (Enc.cells m).drop 2 = (.int .u64 m.number :: ((.vsl m.body.nil (ofBytes m.body.l) m.body.l.length) :: ([] : List D))) := by simp [Msg.cells]
@[simp] theorem Msg.d2' (m : Msg) (r : List D) : (Enc.cells m ++ r).drop 2 = (.int .u64 m.number :: ((.vsl m.body.nil (ofBytes m.body.l) m.body.l.length) :: ([] : List D))) ++ r := by simp [Msg.cells]
@[simp] theorem Msg.g2 (m : Msg) (h) : (Enc.cells m)[2]'h = .int .u64 m.number := by simp [Msg.cells]
@[simp] theorem Msg.q2 (m : Msg) : (Enc.cells m)[2]? = some (.int .u64 m.number) := by simp [Msg.cells]
@[simp] theorem Msg.s2 (m : Msg) (x : Int) : setRange (Enc.cells m) 2 [.int .u64 x] = Enc.cells { m with number := x } := by simp [Msg.cells]
@[simp] theorem Msg.d3 (m : Msg) : (Enc.cells m).drop 3 = ((.vsl m.body.nil (ofBytes m.body.l) m.body.l.length) :: ([] : List D)) := by simp [Msg.cells]
@[simp] theorem Msg.d3' (m : Msg) (r : List D) : (Enc.cells m ++ r).drop 3 = ((.vsl m.body.nil (ofBytes m.body.l) m.body.l.length) :: ([] : List D)) ++ r := by simp [Msg.cells]
@[simp] theorem Msg.g3 (m : Msg) (h) : (Enc.cells m)[3]'h = (.vsl m.body.nil (ofBytes m.body.l) m.body.l.length) := by simp [Msg.cells]
@[simp] theorem Msg.q3 (m : Msg) : (Enc.cells m)[3]? = some ((.vsl m.body.nil (ofBytes m.body.l) m.body.l.length)) := by simp [Msg.cells]
@[simp] theorem Msg.s3 (m : Msg) (x : Sl UInt8) : setRange (Enc.cells m) 3 [(.vsl x.nil (ofBytes x.l) x.l.length)] = Enc.cells { m with body := x } := by simp [Msg.cells]
structure Rs where
  status : Int
  epoch : Int
  number : Int
  body : Sl UInt8
instance : Enc Rs := ⟨4, fun m => (.int .i64 m.status :: (.int .u64 m.epoch :: (.int .u64 m.number :: ((.vsl m.body.nil (ofBytes m.body.l) m.body.l.length) :: ([] : List D))))), fun m => by simp, fun m => by simp [idFree]⟩
theorem Rs.cells (m : Rs) : Enc.cells m = (.int .i64 m.status :: (.int .u64 m.epoch :: (.int .u64 m.number :: ((.vsl m.body.nil (ofBytes m.body.l) m.body.l.length) :: ([] : List D))))) := rfl
@[simp] theorem Rs.size : Enc.size Rs = 4 := rfl
@[simp] theorem Rs.cl (a : Rs) : (Enc.cells a).length = 4 := Enc.len a
@[simp] theorem Rs.ct (a : Rs) (r : List D) : (Enc.cells a ++ r).take 4 = Enc.cells a := cells_take rfl a r
@[simp] theorem Rs.ct' (a : Rs) : (Enc.cells a).take 4 = Enc.cells a := cells_take' rfl a
@[simp] theorem Rs.cd (a : Rs) (r : List D) : (Enc.cells a ++ r).drop 4 = r := cells_drop rfl a r
@[simp] theorem Rs.el (l : List Rs) : (encs l).length = l.length * 4 := encs_len' rfl l
@[simp] theorem Rs.ed (l : List Rs) (i : Nat) : (encs l).drop (i * 4) = encs (l.drop i) := encs_drop rfl l i
@[simp] theorem Rs.et (l : List Rs) (i : Nat) : (encs l).take (i * 4) = encs (l.take i) := encs_take rfl l i
@[simp high] theorem Rs.ea {l : List Rs} {i : Nat} (h : i < l.length) : (encs l).drop (i * 4) = Enc.cells l[i] ++ encs (l.drop (i + 1)) := encs_at rfl h
@[simp high] theorem Rs.es (m : Rs) {l : List Rs} {j : Nat} (h : j < l.length) : setRange (encs l) (j * 4) (Enc.cells m) = encs (l.set j m) := encs_set rfl m l h
@[simp] theorem Rs.g0 (m : Rs) (h) : (Enc.cells m)[0]'h = .int .i64 m.status := by simp [Rs.cells]
@[simp] theorem Rs.q0 (m : Rs) : (Enc.cells m)[0]? = some (.int .i64 m.status) := by simp [Rs.cells]
@[simp] theorem Rs.s0 (m : Rs) (x : Int) : setRange (Enc.cells m) 0 [.int .i64 x] = Enc.cells { m with status := x } := by simp [Rs.cells]
@[simp] theorem Rs.d1 (m : Rs) : (Enc.cells m).drop 1 = (.int .u64 m.epoch :: (.int .u64 m.number :: ((.vsl m.body.nil (ofBytes m.body.l) m.body.l.length) :: ([] : List D)))) := by simp [Rs.cells]
@[simp] theorem Rs.d1' (m : Rs) (r : List D) : (Enc.cells m ++ r).drop 1 = (.int .u64 m.epoch :: (.int .u64 m.number :: ((.vsl m.body.nil (ofBytes m.body.l) m.body.l.length) :: ([] : List D)))) ++ r := by simp [Rs.cells]
@[simp] theorem Rs.g1 (m : Rs) (h) : (Enc.cells m)[1]'h = .int .u64 m.epoch := by simp [Rs.cells]
@[simp] theorem Rs.q1 (m : Rs) : (Enc.cells m)[1]? = some (.int .u64 m.epoch) := by simp [Rs.cells]
@[simp] theorem Rs.s1 (m : Rs) (x : Int) : setRange (Enc.cells m) 1 [.int .u64 x] = Enc.cells { m with epoch := x } := by simp [Rs.cells]
@[simp] theorem Rs.d2 (m : Rs) : (Enc.cells m).drop 2 = (.int .u64 m.number :: ((.vsl m.body.nil (ofBytes m.body.l) m.body.l.length) :: ([] : List D))) := by simp [Rs.cells]
@[simp] theorem Rs.d2' (m : Rs) (r : List D) : (Enc.cells m ++ r).drop 2 = (.int .u64 m.number :: ((.vsl m.body.nil (ofBytes m.body.l) m.body.l.length) :: ([] : List D))) ++ r := by simp [Rs.cells]
@[simp] theorem Rs.g2 (m : Rs) (h) : (Enc.cells m)[2]'h = .int .u64 m.number := by simp [Rs.cells]
@[simp] theorem Rs.q2 (m : Rs) : (Enc.cells m)[2]? = some (.int .u64 m.number) := by simp [Rs.cells]
@[simp] theorem Rs.s2 (m : Rs) (x : Int) : setRange (Enc.cells m) 2 [.int .u64 x] = Enc.cells { m with number := x } := by simp [Rs.cells]
@[simp] theorem Rs.d3 (m : Rs) : (Enc.cells m).drop 3 = ((.vsl m.body.nil (ofBytes m.body.l) m.body.l.length) :: ([] : List D)) := by simp [Rs.cells]
@[simp] theorem Rs.d3' (m : Rs) (r : List D) : (Enc.cells m ++ r).drop 3 = ((.vsl m.body.nil (ofBytes m.body.l) m.body.l.length) :: ([] : List D)) ++ r := by simp [Rs.cells]
@[simp] theorem Rs.g3 (m : Rs) (h) : (Enc.cells m)[3]'h = (.vsl m.body.nil (ofBytes m.body.l) m.body.l.length) := by simp [Rs.cells]
@[simp] theorem Rs.q3 (m : Rs) : (Enc.cells m)[3]? = some ((.vsl m.body.nil (ofBytes m.body.l) m.body.l.length)) := by simp [Rs.cells]
@[simp] theorem Rs.s3 (m : Rs) (x : Sl UInt8) : setRange (Enc.cells m) 3 [(.vsl x.nil (ofBytes x.l) x.l.length)] = Enc.cells { m with body := x } := by simp [Rs.cells]
@[simp] theorem ofBytes_nil : ofBytes [] = [] := rfl
def Msg.zero : Msg := ⟨0, 0, 0, .none⟩
def crlf : List UInt8 := [13, 10]
def epochL : List UInt8 := [88, 45, 69, 112, 111, 99, 104, 58, 32]
def numberL : List UInt8 := [88, 45, 78, 117, 109, 98, 101, 114, 58, 32]
def lengthL : List UInt8 := [67, 111, 110, 116, 101, 110, 116, 45, 76, 101, 110, 103, 116, 104, 58, 32]
def numsL (e n l : Nat) : List UInt8 := epochL ++ (dec e ++ (crlf ++ (numberL ++ (dec n ++ (crlf ++ (lengthL ++ (dec l ++ (crlf ++ crlf))))))))
theorem decF_len : ∀ (f v : Nat), (decF f v).length ≤ f
  | 0, _ => Nat.le_refl _
  | f + 1, v => by
    rw [decF]
    split
    · simp
    · have := decF_len f (v / 10)
      simp
      omega
theorem dec_len (v : Nat) : (dec v).length ≤ 20 := decF_len 20 v
theorem dec_pos (v : Nat) : 0 < (dec v).length := by
  unfold dec decF
  split <;> simp
theorem nums_len (e n l : Nat) : (numsL e n l).length ≤ 103 := by
  have h1 := dec_len e
  have h2 := dec_len n
  have h3 := dec_len l
  simp only [numsL, List.length_append, epochL, numberL, lengthL, crlf, List.length_cons, List.length_nil]
  omega
theorem cat_of {x y s : List UInt8} (e : s = x ++ y) (h : x.length + y.length ≤ 100000) : strD .add x y = some (.str s) := by
  simp only [strD, e]
  rw [if_pos (by omega)]
theorem strD_add {x y : List UInt8} (h : x.length + y.length ≤ 100000) : strD .add x y = some (.str (x ++ y)) := by
  simp only [strD]
  rw [if_pos (by omega)]
section
variable {H : Type} {enc : TypeId × Value → H} {P : Program} {W : World} {base n : Nat} {t e : TypeId} {v : Value} {d : DataW H} {ps : List MemPlace}
theorem arg_u64 (hu : P.underlying t = some (.int .u64)) (hp : PlainT P (n + 1) t = true) (hv : Value.okWide P W .any base t v) (h : DataW.Trod enc P W 0 (fun _ => true) true t v d ps ∧ Wok P t d) : ∃ b, Rep (· < W.heap.size) W iota0 [] (.int .u64 b) v ∧ isU64 b := by
  obtain ⟨ds, h1, h2⟩ := read_plain hp h
  obtain ⟨b, rfl, hb⟩ := has_u64 hu h1
  exact ⟨b, cor_val h2 (one_int hu hv), hb⟩
theorem arg_u8 (hu : P.underlying t = some (.int .u8)) (hp : PlainT P (n + 1) t = true) (hv : Value.okWide P W .any base t v) (h : DataW.Trod enc P W 0 (fun _ => true) true t v d ps ∧ Wok P t d) : ∃ b : UInt8, Rep (· < W.heap.size) W iota0 [] (.int .u8 b.toNat) v ∧ True := by
  obtain ⟨ds, h1, h2⟩ := read_plain hp h
  obtain ⟨b, rfl⟩ := has_u8 hu h1
  exact ⟨b, cor_val h2 (one_int hu hv), trivial⟩
end
end Go.Ev
/- A place as a text. -/
namespace Go.Ev
open Go Go.Proofs
def kS : List UInt8 := [115, 61]
def kI : List UInt8 := [59, 105, 61]
def kB : List UInt8 := [59, 98, 61]
def kM : List UInt8 := [59, 109, 61]
def kT : List UInt8 := [59, 116, 61]
def kX : List UInt8 := [59, 120, 61]
/-- A place as a text. -/
def showL (c : Cur) : List UInt8 := kS ++ (hexs c.seq.l ++ (kI ++ (hx c.n.toNat ++ (kB ++ (hexs c.boot.l ++ (kM ++ (hx c.mono.toNat ++ (kT ++ (hx c.real.toNat ++ (kX ++ hx c.xor.toNat))))))))))
theorem showL_len (c : Cur) : 80 ≤ (showL c).length ∧ (showL c).length ≤ 200 := by
  have h1 := hx_len c.n.toNat
  have h2 := hx_len c.mono.toNat
  have h3 := hx_len c.real.toNat
  have h4 := hx_len c.xor.toNat
  have g1 := hx_pos c.n.toNat
  have g2 := hx_pos c.mono.toNat
  have g3 := hx_pos c.real.toNat
  have g4 := hx_pos c.xor.toNat
  have i1 := hexs_len c.seq.l
  have i2 := hexs_len c.boot.l
  rw [c.seq.h] at i1
  rw [c.boot.h] at i2
  simp only [showL, List.length_append, kS, kI, kB, kM, kT, kX, List.length_cons, List.length_nil]
  omega
def Cur.zero : Cur := ⟨ID.zero, 0, ID.zero, 0, 0, 0⟩
/-- A text, parted at a byte, so many times at most. -/
def splitN (c : UInt8) : Nat → List UInt8 → List (List UInt8)
  | 0, s => [s]
  | n + 1, s => if idxN [c] s 0 = -1 then [s] else s.take (idxN [c] s 0).toNat :: splitN c n (s.drop ((idxN [c] s 0).toNat + 1))
def splitL (c : UInt8) (s : List UInt8) : List (List UInt8) := splitN c (s.count c) s
theorem splitN_pos (c : UInt8) : ∀ (n : Nat) (s : List UInt8), 0 < (splitN c n s).length
  | 0, _ => by simp [splitN]
  | n + 1, s => by
    rw [splitN]
    split <;> simp
def cutAt (c : UInt8) (s : List UInt8) : List UInt8 := if idxN [c] s 0 = -1 then [] else s.drop ((idxN [c] s 0).toNat + 1)
def idOf (s : List UInt8) : ID := ⟨(idP s).getD zero16, by
  cases h : idP s with
  | none => rfl
  | some r => exact idP_len h⟩
/-- Two places. -/
def curEq (a b : Cur) : Bool := a.seq == b.seq && (a.n == b.n && (a.boot == b.boot && (a.mono == b.mono && (a.real == b.real && a.xor == b.xor))))
theorem curEq_iff (a b : Cur) : curEq a b = true ↔ a = b := by
  obtain ⟨a1, a2, a3, a4, a5, a6⟩ := a
  obtain ⟨b1, b2, b3, b4, b5, b6⟩ := b
  simp [curEq]
@[simp] theorem Cur.eq36 (a b : Cur) : cellsEq [.i, .i, .i, .i, .i, .i, .i, .i, .i, .i, .i, .i, .i, .i, .i, .i, .i, .i, .i, .i, .i, .i, .i, .i, .i, .i, .i, .i, .i, .i, .i, .i, .i, .i, .i, .i] (Enc.cells a) (Enc.cells b) = some (curEq a b) := by
  have h1 := cellsEq16 a.seq b.seq
  have h2 := cellsEq16 a.boot b.boot
  rw [Cur.cells, Cur.cells]
  have e : ([.i, .i, .i, .i, .i, .i, .i, .i, .i, .i, .i, .i, .i, .i, .i, .i, .i, .i, .i, .i, .i, .i, .i, .i, .i, .i, .i, .i, .i, .i, .i, .i, .i, .i, .i, .i] : List CK) = [.i, .i, .i, .i, .i, .i, .i, .i, .i, .i, .i, .i, .i, .i, .i, .i] ++ (.i :: ([.i, .i, .i, .i, .i, .i, .i, .i, .i, .i, .i, .i, .i, .i, .i, .i] ++ [.i, .i, .i])) := rfl
  rw [e, cellsEq_app _ _ _ _ _ _ (by simp) (by simp), h1]
  simp only [cellsEq, cellEq, if_true]
  rw [cellsEq_app _ _ _ _ _ _ (by simp) (by simp), h2]
  simp only [cellsEq, cellEq, if_true, Bool.and_true]
  rfl
theorem idx_at (c : UInt8) : ∀ (A B : List UInt8) (n : Nat), (∀ x ∈ A, x ≠ c) → idxN [c] (A ++ c :: B) n = ((n + A.length : Nat) : Int)
  | [], B, n, _ => by simp [idxN, List.isPrefixOf]
  | x :: A, B, n, h => by
    have hx := h x (by simp)
    have hx2 : (c == x) = false := by simpa using Ne.symm hx
    rw [List.cons_append, idxN, if_neg (by simp [List.isPrefixOf, hx2]), idx_at c A B (n + 1) fun y hy => h y (by simp [hy])]
    simp
    omega
theorem idx_no (c : UInt8) : ∀ (A : List UInt8) (n : Nat), (∀ x ∈ A, x ≠ c) → idxN [c] A n = -1
  | [], n, _ => by simp [idxN]
  | x :: A, n, h => by
    have hx := h x (by simp)
    have hx2 : (c == x) = false := by simpa using Ne.symm hx
    rw [idxN, if_neg (by simp [List.isPrefixOf, hx2]), idx_no c A (n + 1) fun y hy => h y (by simp [hy])]
theorem split_at {c : UInt8} {A : List UInt8} (h : ∀ x ∈ A, x ≠ c) (B : List UInt8) : splitL c (A ++ c :: B) = A :: splitL c B := by
  have h0 : A.count c = 0 := List.count_eq_zero.2 fun hm => h c hm rfl
  have hc : (A ++ c :: B).count c = B.count c + 1 := by
    rw [List.count_append, h0, List.count_cons_self]
    omega
  unfold splitL
  rw [hc, splitN, idx_at c A B 0 h, Nat.zero_add, if_neg (by omega)]
  have e : ((A.length : Nat) : Int).toNat = A.length := by omega
  rw [e, List.take_left]
  congr 1
  rw [← List.drop_drop, List.drop_left]
  rfl
theorem split_no {c : UInt8} {A : List UInt8} (h : ∀ x ∈ A, x ≠ c) : splitL c A = [A] := by
  have h0 : A.count c = 0 := List.count_eq_zero.2 fun hm => h c hm rfl
  unfold splitL
  rw [h0, splitN]
theorem cut_at {c : UInt8} {A : List UInt8} (h : ∀ x ∈ A, x ≠ c) (B : List UInt8) : cutAt c (A ++ c :: B) = B := by
  unfold cutAt
  rw [idx_at c A B 0 h, Nat.zero_add, if_neg (by omega)]
  have e : ((A.length : Nat) : Int).toNat = A.length := by omega
  rw [e, ← List.drop_drop, List.drop_left]
  rfl
theorem ne59 {k : UInt8} {A : List UInt8} (hk : k ≠ 59) (h : ∀ x ∈ A, x ≠ 59 ∧ x ≠ 61 ∧ x ≠ 45) : ∀ x ∈ k :: 61 :: A, x ≠ 59 := by
  intro x hx
  simp only [List.mem_cons] at hx
  rcases hx with rfl | rfl | hx
  · exact hk
  · decide
  · exact (h x hx).1
theorem vals_show (c : Cur) : (splitL 59 (showL c)).map (cutAt 61) = [hexs c.seq.l, hx c.n.toNat, hexs c.boot.l, hx c.mono.toNat, hx c.real.toNat, hx c.xor.toNat] := by
  have e : showL c = (115 :: 61 :: hexs c.seq.l) ++ 59 :: ((105 :: 61 :: hx c.n.toNat) ++ 59 :: ((98 :: 61 :: hexs c.boot.l) ++ 59 :: ((109 :: 61 :: hx c.mono.toNat) ++ 59 :: ((116 :: 61 :: hx c.real.toNat) ++ 59 :: (120 :: 61 :: hx c.xor.toNat))))) := by
    simp [showL, kS, kI, kB, kM, kT, kX]
  have hc : ∀ (k : UInt8) (A : List UInt8), k ≠ 61 → cutAt 61 (k :: 61 :: A) = A := fun k A hk => cut_at (A := [k]) (by simpa using hk) A
  rw [e, split_at (ne59 (by decide) (hexs_ne _)), split_at (ne59 (by decide) (hx_ne _)), split_at (ne59 (by decide) (hexs_ne _)), split_at (ne59 (by decide) (hx_ne _)), split_at (ne59 (by decide) (hx_ne _)), split_no (ne59 (by decide) (hx_ne _))]
  simp only [List.map_cons, List.map_nil, hc 115 _ (by decide), hc 105 _ (by decide), hc 98 _ (by decide), hc 109 _ (by decide), hc 116 _ (by decide), hc 120 _ (by decide)]
theorem idOf_hexs (i : ID) : idOf (hexs i.l) = i := ID.ext' (by show (idP (hexs i.l)).getD zero16 = i.l; rw [idP_hexs i.h]; rfl)
end Go.Ev
/- An item's text: plain. -/
namespace Go.Ev
open Go Go.Proofs
def nameC (c : UInt8) : Bool := (decide (65 ≤ c.toNat) && decide (c.toNat ≤ 90)) || (decide (48 ≤ c.toNat) && decide (c.toNat ≤ 57)) || decide (c.toNat = 95)
def digC (c : UInt8) : Bool := decide (48 ≤ c.toNat) && decide (c.toNat ≤ 57)
def nameOk : List UInt8 → Bool
  | [] => false
  | c :: l => decide ((c :: l).length ≤ 64) && !digC c && (c :: l).all nameC
def prOk (p : Pr) : Bool := nameOk p.name && decide (p.value.length ≤ 256)
def plainC (c : UInt8) : Bool := !(decide (c.toNat < 32) && decide (c.toNat ≠ 9))
def plainV (s : List UInt8) : Bool := s.all plainC
def pairL (p : Pr) : List UInt8 := if plainV p.value then ((p.name ++ [61]) ++ p.value) ++ [10] else (((p.name ++ [10]) ++ leB 8 p.value.length) ++ p.value) ++ [10]
/-- An entry that may be shipped. -/
def recOk (it : It) : Bool := decide (it.fr = 0) && decide (it.til = 0) && decide (it.rc.seq ≠ 0) && decide (1 ≤ it.rc.fields.l.length) && decide (it.rc.fields.l.length ≤ 16) && it.rc.fields.l.all prOk
def gapOk (it : It) : Bool := decide (1 ≤ it.fr) && decide (it.fr ≤ it.til) && decide (it.rc.seq = 0) && decide (it.rc.real = 0) && decide (it.rc.mono = 0) && decide (it.rc.boot = ID.zero) && decide (it.rc.fields.l.length = 0)
def itOk (it : It) : Bool := if it.gap then gapOk it else recOk it
end Go.Ev
/- A field's name. -/
namespace Go.Ev.S
open Go Go.Proofs Go.Ev
theorem nameC_cases (c : UInt8) : (nameC c = true ∧ ((65 ≤ c.toNat ∧ c.toNat ≤ 90) ∨ (¬ (65 ≤ c.toNat ∧ c.toNat ≤ 90) ∧ 48 ≤ c.toNat ∧ c.toNat ≤ 57) ∨ c.toNat = 95)) ∨ (nameC c = false ∧ ¬ (65 ≤ c.toNat ∧ c.toNat ≤ 90) ∧ ¬ (48 ≤ c.toNat ∧ c.toNat ≤ 57) ∧ c.toNat ≠ 95) := by
  cases h : nameC c with
  | true =>
    simp [nameC] at h
    exact .inl ⟨rfl, by omega⟩
  | false =>
    simp [nameC] at h
    exact .inr ⟨rfl, by omega, by omega, by omega⟩
set_option maxHeartbeats 2000000 in
theorem fname_evX [MaxL] (s : List UInt8) : call cx 70 [.str s] [] = some (.bool (nameOk s), []) := by
  refine call_run Tryz.func70 rfl ⟨rfl, rfl⟩ ?_
  cases s with
  | nil => simp [Tryz.f70, nameOk]
  | cons c l =>
    have hl1 : ¬ (l.length : Int) + 1 < 1 := by omega
    by_cases h64 : 64 < l.length + 1
    · have h64' : (64 : Int) < (l.length : Int) + 1 := by omega
      have hN : nameOk (c :: l) = false := by simp [nameOk]; omega
      rw [hN]
      simp [Tryz.f70, hl1, h64']
    · have h64' : ¬ (64 : Int) < (l.length : Int) + 1 := by omega
      have hs : (c :: l).length < 1000000 := by simp; omega
      have hN : nameOk (c :: l) = (!digC c && (c :: l).all nameC) := by
        simp only [nameOk]
        rw [decide_eq_true (by simp; omega), Bool.true_and]
      rw [hN]
      by_cases hd : 48 ≤ c.toNat ∧ c.toNat ≤ 57
      · have hd1 : (48 : Int) ≤ (c.toNat : Int) := by omega
        have hd2 : (c.toNat : Int) ≤ 57 := by omega
        have hdc : digC c = true := by simp [digC, hd.1, hd.2]
        rw [hdc]
        simp [Tryz.f70, hl1, h64', hd1, hd2]
      · have hdc : digC c = false := by simp [digC]; omega
        rw [hdc]
        have hcond : (¬ (48 : Int) ≤ (c.toNat : Int)) ∨ ((48 : Int) ≤ (c.toNat : Int) ∧ ¬ (c.toNat : Int) ≤ 57) := by omega
        obtain ⟨r, hr⟩ : ∃ r, (c :: l).all nameC = r := ⟨_, rfl⟩
        rw [hr]
        obtain ⟨S, hS⟩ : ∃ S, S = c :: l := ⟨_, rfl⟩
        have hn : (l.length : Int) + 1 = (S.length : Int) := by rw [hS]; simp
        rw [← hS] at hr hs
        rcases hcond with h48 | ⟨h48, h57⟩
        · have h48n : ¬ 48 ≤ c.toNat := by omega
          simp [Tryz.f70, hl1, h64', h48]
          rw [hn, ← hS]
          clear hS hn hN
          refine Run.loopThen (fun (k : Nat) e H' => k ≤ S.length ∧ (S.drop k).all nameC = r ∧ look e 0 = some (.str S) ∧ look e 24 = some (.int .i64 S.length) ∧ look e 25 = some (.int .i64 k) ∧ H' = []) (fun k => S.length - k) 0 ?_ ?_
          · simpa using hr
          rintro k e H' ⟨hk, hR, k0, k24, k25, rfl⟩
          by_cases hlt : k < S.length
          · have hlt' : (k : Int) < (S.length : Int) := by omega
            have hw : IntKind.i64.wrap ((k : Int) + 1) = ((k + 1 : Nat) : Int) := by rw [wrap_i64] <;> omega
            have hat : S[k]? = some S[k] := List.getElem?_eq_getElem hlt
            rw [List.drop_eq_getElem_cons hlt, List.all_cons] at hR
            generalize S[k] = x at *
            rcases nameC_cases x with ⟨hx, h1 | ⟨h1, h2⟩ | h1⟩ | ⟨hx, h1, h2, h3⟩
            · rw [hx, Bool.true_and] at hR
              have g1 : (65 : Int) ≤ (x.toNat : Int) := by omega
              have g2 : (x.toNat : Int) ≤ 90 := by omega
              simp [k0, k24, k25, hlt', hat, hw, g1, g2]
              exact ⟨k + 1, by omega, by omega, by simpa using hR, by omega⟩
            · rw [hx, Bool.true_and] at hR
              have g1 : (48 : Int) ≤ (x.toNat : Int) := by omega
              have g2 : (x.toNat : Int) ≤ 57 := by omega
              have g3 : ¬ (65 : Int) ≤ (x.toNat : Int) := by omega
              have g4 : ¬ 65 ≤ x.toNat := by omega
              simp [k0, k24, k25, hlt', hat, hw, g1, g2, g3]
              exact ⟨k + 1, by omega, by omega, by simpa using hR, by omega⟩
            · rw [hx, Bool.true_and] at hR
              have g1 : (x.toNat : Int) = 95 := by omega
              simp [k0, k24, k25, hlt', hat, hw, h1]
              exact ⟨k + 1, by omega, by omega, by simpa using hR, by omega⟩
            · rw [hx, Bool.false_and] at hR
              subst hR
              have g0 : ¬ (x.toNat : Int) = 95 := by omega
              by_cases q1 : 65 ≤ x.toNat
              · have g1 : (65 : Int) ≤ (x.toNat : Int) := by omega
                have g2 : ¬ (x.toNat : Int) ≤ 90 := by omega
                have g2' : ¬ x.toNat ≤ 90 := by omega
                have g3 : (48 : Int) ≤ (x.toNat : Int) := by omega
                have g3' : 48 ≤ x.toNat := by omega
                have g4 : ¬ (x.toNat : Int) ≤ 57 := by omega
                have g4' : ¬ x.toNat ≤ 57 := by omega
                simp [k0, k24, k25, hlt', hat, g0, g1, g2, g3, g4]
              · have g1 : ¬ (65 : Int) ≤ (x.toNat : Int) := by omega
                by_cases q2 : 48 ≤ x.toNat
                · have g3 : (48 : Int) ≤ (x.toNat : Int) := by omega
                  have g4 : ¬ (x.toNat : Int) ≤ 57 := by omega
                  have g4' : ¬ x.toNat ≤ 57 := by omega
                  simp [k0, k24, k25, hlt', hat, g0, g1, g3, g4]
                · have g3 : ¬ (48 : Int) ≤ (x.toNat : Int) := by omega
                  simp [k0, k24, k25, hlt', hat, g0, g1, g3]
          · have hlt' : ¬ (k : Int) < (S.length : Int) := by omega
            rw [List.drop_eq_nil_of_le (by omega)] at hR
            have : r = true := hR.symm
            subst this
            simp [k0, k24, k25, hlt']
        · have h48n : 48 ≤ c.toNat := by omega
          have h57n : ¬ c.toNat ≤ 57 := by omega
          simp [Tryz.f70, hl1, h64', h48, h57]
          rw [hn, ← hS]
          clear hS hn hN
          refine Run.loopThen (fun (k : Nat) e H' => k ≤ S.length ∧ (S.drop k).all nameC = r ∧ look e 0 = some (.str S) ∧ look e 24 = some (.int .i64 S.length) ∧ look e 25 = some (.int .i64 k) ∧ H' = []) (fun k => S.length - k) 0 ?_ ?_
          · simpa using hr
          rintro k e H' ⟨hk, hR, k0, k24, k25, rfl⟩
          by_cases hlt : k < S.length
          · have hlt' : (k : Int) < (S.length : Int) := by omega
            have hw : IntKind.i64.wrap ((k : Int) + 1) = ((k + 1 : Nat) : Int) := by rw [wrap_i64] <;> omega
            have hat : S[k]? = some S[k] := List.getElem?_eq_getElem hlt
            rw [List.drop_eq_getElem_cons hlt, List.all_cons] at hR
            generalize S[k] = x at *
            rcases nameC_cases x with ⟨hx, h1 | ⟨h1, h2⟩ | h1⟩ | ⟨hx, h1, h2, h3⟩
            · rw [hx, Bool.true_and] at hR
              have g1 : (65 : Int) ≤ (x.toNat : Int) := by omega
              have g2 : (x.toNat : Int) ≤ 90 := by omega
              simp [k0, k24, k25, hlt', hat, hw, g1, g2]
              exact ⟨k + 1, by omega, by omega, by simpa using hR, by omega⟩
            · rw [hx, Bool.true_and] at hR
              have g1 : (48 : Int) ≤ (x.toNat : Int) := by omega
              have g2 : (x.toNat : Int) ≤ 57 := by omega
              have g3 : ¬ (65 : Int) ≤ (x.toNat : Int) := by omega
              have g4 : ¬ 65 ≤ x.toNat := by omega
              simp [k0, k24, k25, hlt', hat, hw, g1, g2, g3]
              exact ⟨k + 1, by omega, by omega, by simpa using hR, by omega⟩
            · rw [hx, Bool.true_and] at hR
              have g1 : (x.toNat : Int) = 95 := by omega
              simp [k0, k24, k25, hlt', hat, hw, h1]
              exact ⟨k + 1, by omega, by omega, by simpa using hR, by omega⟩
            · rw [hx, Bool.false_and] at hR
              subst hR
              have g0 : ¬ (x.toNat : Int) = 95 := by omega
              by_cases q1 : 65 ≤ x.toNat
              · have g1 : (65 : Int) ≤ (x.toNat : Int) := by omega
                have g2 : ¬ (x.toNat : Int) ≤ 90 := by omega
                have g2' : ¬ x.toNat ≤ 90 := by omega
                have g3 : (48 : Int) ≤ (x.toNat : Int) := by omega
                have g3' : 48 ≤ x.toNat := by omega
                have g4 : ¬ (x.toNat : Int) ≤ 57 := by omega
                have g4' : ¬ x.toNat ≤ 57 := by omega
                simp [k0, k24, k25, hlt', hat, g0, g1, g2, g3, g4]
              · have g1 : ¬ (65 : Int) ≤ (x.toNat : Int) := by omega
                by_cases q2 : 48 ≤ x.toNat
                · have g3 : (48 : Int) ≤ (x.toNat : Int) := by omega
                  have g4 : ¬ (x.toNat : Int) ≤ 57 := by omega
                  have g4' : ¬ x.toNat ≤ 57 := by omega
                  simp [k0, k24, k25, hlt', hat, g0, g1, g3, g4]
                · have g3 : ¬ (48 : Int) ≤ (x.toNat : Int) := by omega
                  simp [k0, k24, k25, hlt', hat, g0, g1, g3]
          · have hlt' : ¬ (k : Int) < (S.length : Int) := by omega
            rw [List.drop_eq_nil_of_le (by omega)] at hR
            have : r = true := hR.symm
            subst this
            simp [k0, k24, k25, hlt']
end Go.Ev.S
/- What arguments of this program's types are. -/
namespace Go.Ev.S
open Go Go.Proofs Go.Ev
theorem has_IDm {n : Nat} {cs : List D} (h : HasT Tryz.prog (n + 2) 150 cs) : ∃ i : ID, cs = ofBytes i.l := has_id un150 un5 h
theorem has_Mk {n : Nat} {cs : List D} (h : HasT Tryz.prog (n + 2 + 1) 217 cs) : ∃ m : Mk, cs = Enc.cells m ∧ m.Ok := by
  have h := has_struct (P := Tryz.prog) (n := n + 2) (t := 217) Tryz.underlying217 h
  simp only [HasFs] at h
  obtain ⟨a, b, rfl, -, ha, c, d, rfl, -, hc, e, f, rfl, -, he, g, k, rfl, -, hg, rfl⟩ := h
  obtain ⟨id, rfl⟩ := has_IDm ha
  obtain ⟨x1, rfl, w1⟩ := has_u64 un49 hc
  obtain ⟨x2, rfl, w2⟩ := has_u64 un49 he
  obtain ⟨x3, rfl, w3⟩ := has_u64 un49 hg
  exact ⟨⟨id, x1, x2, x3⟩, by simp [Mk.cells], ⟨w1, w2, w3⟩⟩
theorem has_Pr {n : Nat} {cs : List D} (h : HasT Tryz.prog (n + 1 + 1) 141 cs) : ∃ p : Pr, cs = Enc.cells p ∧ (p.name.length ≤ maxLen ∧ p.value.length ≤ maxLen) := by
  have h := has_struct (P := Tryz.prog) (n := n + 1) (t := 141) Tryz.underlying141 h
  simp only [HasFs] at h
  obtain ⟨a, b, rfl, -, ha, c, d, rfl, -, hc, rfl⟩ := h
  obtain ⟨x1, rfl, w1⟩ := has_str un9 ha
  obtain ⟨x2, rfl, w2⟩ := has_str un9 hc
  exact ⟨⟨x1, x2⟩, by simp [Pr.cells], w1, w2⟩
theorem has_Rec {n : Nat} {cs : List D} (h : HasT Tryz.prog (n + 3 + 1) 165 cs) : ∃ r : Rec, cs = Enc.cells r ∧ (r.Ok ∧ r.Fit) := by
  have h := has_struct (P := Tryz.prog) (n := n + 3) (t := 165) Tryz.underlying165 h
  simp only [HasFs] at h
  obtain ⟨a, b, rfl, -, ha, c, d, rfl, -, hc, e, f, rfl, -, he, g, k, rfl, -, hg, i, j, rfl, -, hi, rfl⟩ := h
  obtain ⟨x1, rfl, w1⟩ := has_u64 un49 ha
  obtain ⟨x2, rfl, w2⟩ := has_u64 un49 hc
  obtain ⟨x3, rfl, w3⟩ := has_u64 un49 he
  obtain ⟨id, rfl⟩ := has_IDm hg
  obtain ⟨s, rfl, s1, s2⟩ := has_slice (α := Pr) un163 (fun l => has_Pr) hi
  exact ⟨⟨x1, x2, x3, id, s⟩, by simp [Rec.cells], ⟨w1, w2, w3⟩, s1, s2⟩
theorem has_It {n : Nat} {cs : List D} (h : HasT Tryz.prog (n + 4 + 1) 167 cs) : ∃ i : It, cs = Enc.cells i ∧ (i.Ok ∧ i.rc.Fit) := by
  have h := has_struct (P := Tryz.prog) (n := n + 4) (t := 167) Tryz.underlying167 h
  simp only [HasFs] at h
  obtain ⟨a, b, rfl, -, ha, c, d, rfl, -, hc, e, f, rfl, -, he, g, k, rfl, -, hg, i, j, rfl, -, hi, rfl⟩ := h
  obtain ⟨id, rfl⟩ := has_IDm ha
  obtain ⟨gap, rfl⟩ := has_bool un4 hc
  obtain ⟨x1, rfl, w1⟩ := has_u64 un49 he
  obtain ⟨x2, rfl, w2⟩ := has_u64 un49 hg
  obtain ⟨r, rfl, r1, r2⟩ := has_Rec hi
  exact ⟨⟨id, gap, x1, x2, r⟩, by simp [It.cells, Rec.cells], ⟨w1, w2, r1⟩, r2⟩
end Go.Ev.S
/- A number of 32 bits as an argument. -/
namespace Go.Ev
open Go Go.Proofs
theorem arg_u32 {H : Type} {enc : TypeId × Value → H} {P : Program} {W : World} {base n : Nat} {t : TypeId} {v : Value} {d : DataW H} {ps : List MemPlace} (hu : P.underlying t = some (.int .u32)) (hp : PlainT P (n + 1) t = true) (hv : Value.okWide P W .any base t v) (h : DataW.Trod enc P W 0 (fun _ => true) true t v d ps ∧ Wok P t d) : ∃ b : BitVec 32, Rep (· < W.heap.size) W iota0 [] (.int .u32 (b.toNat : Int)) v ∧ b = b := by
  obtain ⟨ds, h1, h2⟩ := read_plain hp h
  obtain ⟨x, rfl, hx⟩ := has_int hu h1
  simp [Lit.wf, IntKind.min, IntKind.max, IntKind.signed, IntKind.bits] at hx
  refine ⟨BitVec.ofNat 32 x.toNat, ?_, rfl⟩
  have e : ((BitVec.ofNat 32 x.toNat).toNat : Int) = x := by
    rw [BitVec.toNat_ofNat, Nat.mod_eq_of_lt (by omega)]
    omega
  rw [e]
  exact cor_val h2 (one_int hu hv)
end Go.Ev
/- What is asked of entries: data, and when it is right, when it holds. -/
namespace Go.Ev
open Go Go.Proofs
/-- From a place on up to the end it is so. -/
def fromAll (p : Nat → Bool) : Nat → Nat → Bool
  | 0, _ => true
  | n + 1, k => p k && fromAll p n (k + 1)
def rangeAll (n : Nat) (p : Nat → Bool) (k : Nat) : Bool := fromAll p (n - k) k
theorem rangeAll_step {n : Nat} {p : Nat → Bool} {k : Nat} (h : k < n) : rangeAll n p k = (p k && rangeAll n p (k + 1)) := by
  unfold rangeAll
  obtain ⟨j, hj⟩ : ∃ j, n - k = j + 1 := ⟨n - k - 1, by omega⟩
  have hj2 : n - (k + 1) = j := by omega
  rw [hj, hj2, fromAll]
theorem rangeAll_end {n : Nat} {p : Nat → Bool} {k : Nat} (h : n ≤ k) : rangeAll n p k = true := by
  unfold rangeAll
  rw [show n - k = 0 by omega, fromAll]
/-- A text, as an element of a row. -/
structure Str where
  s : List UInt8
deriving DecidableEq
instance : Enc Str := ⟨1, fun x => [.str x.s], fun _ => rfl, fun _ => rfl⟩
@[simp] theorem Str.cells (x : Str) : Enc.cells x = [D.str x.s] := rfl
@[simp] theorem Str.size : Enc.size Str = 1 := rfl
@[simp] theorem Str.el (l : List Str) : (encs l).length = l.length := by rw [encs_len, Str.size, Nat.mul_one]
theorem Str.ea {l : List Str} {i : Nat} (h : i < l.length) : (encs l).drop i = .str l[i].s :: encs (l.drop (i + 1)) := by
  have := encs_at (n := 1) (α := Str) rfl h
  rw [Nat.mul_one] at this
  exact this
structure Alt where
  name : List UInt8
  vals : Sl Str
instance : Enc Alt := ⟨2, fun a => [.str a.name, .vsl a.vals.nil (encs a.vals.l) a.vals.l.length], fun _ => rfl, fun a => by simp [idFree]⟩
theorem Alt.cells (a : Alt) : Enc.cells a = [D.str a.name, .vsl a.vals.nil (encs a.vals.l) a.vals.l.length] := rfl
@[simp] theorem Alt.size : Enc.size Alt = 2 := rfl
@[simp] theorem Alt.el (l : List Alt) : (encs l).length = l.length * 2 := by rw [encs_len, Alt.size]
theorem Alt.ea {l : List Alt} {i : Nat} (h : i < l.length) : (encs l).drop (i * 2) = .str l[i].name :: .vsl l[i].vals.nil (encs l[i].vals.l) l[i].vals.l.length :: encs (l.drop (i + 1)) := encs_at (n := 2) (α := Alt) rfl h
/-- A row of alternatives. -/
structure Row where
  r : Sl Alt
instance : Enc Row := ⟨1, fun a => [.vsl a.r.nil (encs a.r.l) a.r.l.length], fun _ => rfl, fun a => by simp [idFree]⟩
theorem Row.cells (a : Row) : Enc.cells a = [.vsl a.r.nil (encs a.r.l) a.r.l.length] := rfl
@[simp] theorem Row.size : Enc.size Row = 1 := rfl
@[simp] theorem Row.el (l : List Row) : (encs l).length = l.length := by rw [encs_len, Row.size, Nat.mul_one]
theorem Row.ea {l : List Row} {i : Nat} (h : i < l.length) : (encs l).drop i = .vsl l[i].r.nil (encs l[i].r.l) l[i].r.l.length :: encs (l.drop (i + 1)) := by
  have := encs_at (n := 1) (α := Row) rfl h
  rw [Nat.mul_one] at this
  exact this
/-- What is asked. -/
structure Mat where
  rows : Sl Row
instance : Enc Mat := ⟨1, fun a => [.vsl a.rows.nil (encs a.rows.l) a.rows.l.length], fun _ => rfl, fun a => by simp [idFree]⟩
@[simp] theorem Mat.cells (a : Mat) : Enc.cells a = [.vsl a.rows.nil (encs a.rows.l) a.rows.l.length] := rfl
/-- Texts that rise, none too long: at one place. -/
def vOk (l : List Str) (i : Nat) : Bool := decide ((l.getD i ⟨[]⟩).s.length ≤ 256) && (decide (i = 0) || Op.bytesLess (l.getD (i - 1) ⟨[]⟩).s (l.getD i ⟨[]⟩).s)
def altOk (a : Alt) : Bool := nameOk a.name && (decide (a.vals.l ≠ []) && rangeAll a.vals.l.length (vOk a.vals.l) 0)
/-- Alternatives that are right, their names rise: at one place. -/
def aAt (l : List Alt) (i : Nat) : Alt := l.getD i ⟨[], .none⟩
def altsOk (l : List Alt) (i : Nat) : Bool := (decide (i = 0) || Op.bytesLess (aAt l (i - 1)).name (aAt l i).name) && altOk (aAt l i)
def rowOk (r : Row) : Bool := decide (r.r.l ≠ []) && rangeAll r.r.l.length (altsOk r.r.l) 0
def wordsA (l : List Alt) : Nat := (l.map fun a => a.vals.l.length).sum
def wordsR (l : List Row) : Nat := (l.map fun r => wordsA r.r.l).sum
theorem wordsA_cons (a : Alt) (l : List Alt) : wordsA (a :: l) = a.vals.l.length + wordsA l := rfl
theorem wordsR_cons (a : Row) (l : List Row) : wordsR (a :: l) = wordsA a.r.l + wordsR l := rfl
/-- What is asked may be asked. -/
def matOk (l : List Row) : Bool := l.all rowOk && decide (l.length - 1 + wordsR l ≤ 32)
/-- What is asked is small. -/
def MatB (l : List Row) : Prop := l.length ≤ 5 ∧ ∀ r ∈ l, r.r.l.length ≤ 20 ∧ ∀ a ∈ r.r.l, a.vals.l.length ≤ 40 ∧ a.name.length ≤ 9223372036854775807
def altHolds (a : Alt) (l : List Pr) : Bool := l.any fun p => decide (p.name = a.name) && a.vals.l.any fun v => decide (v.s = p.value)
def rowHolds (r : Row) (l : List Pr) : Bool := r.r.l.all fun a => altHolds a l
/-- What is asked holds of pairs. -/
def matHolds (m : List Row) (l : List Pr) : Bool := decide (m = []) || m.any fun r => rowHolds r l
/-- The other way round. -/
theorem altHolds_swap (a : Alt) (l : List Pr) : altHolds a l = a.vals.l.any fun v => l.any fun p => decide (p.name = a.name) && decide (p.value = v.s) := by
  unfold altHolds
  rw [Bool.eq_iff_iff]
  simp only [List.any_eq_true, Bool.and_eq_true, decide_eq_true_eq]
  constructor
  · rintro ⟨p, hp, h1, v, hv, h2⟩
    exact ⟨v, hv, p, hp, h1, h2.symm⟩
  · rintro ⟨v, hv, p, hp, h1, h2⟩
    exact ⟨p, hp, h1, v, hv, h2.symm⟩
end Go.Ev
/- What is asked may be asked: the program's. -/
namespace Go.Ev.S
open Go Go.Proofs Go.Ev
theorem vOk_at {l : List Str} {k : Nat} (hk : k < l.length) : vOk l k = (decide (l[k].s.length ≤ 256) && (decide (k = 0) || Op.bytesLess (l.getD (k - 1) ⟨[]⟩).s l[k].s)) := by
  have h : l.getD k ⟨[]⟩ = l[k] := by rw [List.getD_eq_getElem?_getD, List.getElem?_eq_getElem hk]; rfl
  unfold vOk
  rw [h]
theorem getD_str {l : List Str} {k : Nat} (hk : k < l.length) : l.getD k ⟨[]⟩ = l[k] := by rw [List.getD_eq_getElem?_getD, List.getElem?_eq_getElem hk]; rfl
theorem aAt_at {l : List Alt} {k : Nat} (hk : k < l.length) : aAt l k = l[k] := by unfold aAt; rw [List.getD_eq_getElem?_getD, List.getElem?_eq_getElem hk]; rfl
/-- The one ahead, as it lies there. -/
theorem alt_last {R : Sl Alt} {i : Nat} (hi : i < R.l.length) {o : Bool} (ho : (decide (i = 0) || Op.bytesLess (aAt R.l (i - 1)).name R.l[i].name) = o) :
    (i = 0 ∧ o = true) ∨ ∃ j z rest, i = j + 1 ∧ List.drop (j * 2) (encs (R.l.take i)) = D.str z :: rest ∧ List.drop (j * 2) (encs R.l) = D.str z :: (rest ++ encs (R.l.drop i)) ∧ Op.bytesLess z R.l[i].name = o := by
  cases i with
  | zero => exact .inl ⟨rfl, ho.symm⟩
  | succ j =>
    have hj : j < R.l.length := by omega
    have hj2 : j < (R.l.take (j + 1)).length := by rw [List.length_take]; omega
    have h1 := Alt.ea hj2
    have h2 := Alt.ea hj
    rw [List.getElem_take] at h1
    have h3 : (R.l.take (j + 1)).drop (j + 1) = [] := List.drop_eq_nil_of_le (by rw [List.length_take]; omega)
    rw [h3] at h1
    refine .inr ⟨j, R.l[j].name, _, rfl, h1, ?_, ?_⟩
    · rw [h2]; rfl
    · rw [Nat.add_sub_cancel, aAt_at hj] at ho
      rw [← ho]
      rfl
set_option maxHeartbeats 2000000 in
theorem malt_ev [MaxL] (R : Sl Alt) (i : Nat) (hi : i < R.l.length) (hR : R.l.length < 1000000) (hv : R.l[i].vals.l.length < 100000000000000) :
    call cx 40 [.agg [.str R.l[i].name, (.vsl (R.l[i].vals).nil (encs (R.l[i].vals).l) (R.l[i].vals).l.length)], .vsl R.nil (encs (R.l.take i)) i] [] = some (.bool (altsOk R.l i), []) := by
  have hn := fname_evX R.l[i].name
  have hnn := Sl.nn hi
  have hres : altsOk R.l i = ((decide (i = 0) || Op.bytesLess (aAt R.l (i - 1)).name R.l[i].name) && altOk R.l[i]) := by unfold altsOk; rw [aAt_at hi]
  rw [hres]
  obtain ⟨o, ho⟩ : ∃ o, (decide (i = 0) || Op.bytesLess (aAt R.l (i - 1)).name R.l[i].name) = o := ⟨_, rfl⟩
  have hlast := alt_last hi ho
  rw [ho]
  clear ho hres
  generalize R.l[i] = a at *
  generalize encs (R.l.take i) = cs at *
  unfold altOk
  refine call_run Tryz.func40 rfl ⟨rfl, rfl⟩ ?_
  cases hq : nameOk a.name with
  | false =>
    rw [hq] at hn
    simp [Tryz.f40, hn]
  | true =>
  rw [hq] at hn
  by_cases h0 : a.vals.l = []
  · have h0' : a.vals.l.length = 0 := by rw [h0]; rfl
    simp [Tryz.f40, hn, h0]
  have h0' : ¬ a.vals.l.length = 0 := fun h => h0 (List.eq_nil_of_length_eq_zero h)
  have h0i : ¬ (a.vals.l.length : Int) = 0 := by omega
  obtain ⟨r, hr⟩ : ∃ r, rangeAll a.vals.l.length (vOk a.vals.l) 0 = r := ⟨_, rfl⟩
  rw [hr, decide_eq_true h0, Bool.true_and, Bool.true_and]
  cases o with
  | false =>
    rcases hlast with ⟨h1, h2⟩ | ⟨j, z, rest, h1, h2, -, h3⟩
    · cases h2
    have hi0 : (0 : Int) < (i : Int) := by omega
    have hw : IntKind.i64.wrap ((i : Int) - 1) = (j : Int) := by rw [wrap_i64] <;> omega
    have hji : (j : Int) < (i : Int) := by omega
    have hjn : j < i := by omega
    have hin : 0 < i := by omega
    simp [Tryz.f40, hn, h0', hw, hji, hin, hnn, h2, h3]
  | true =>
  rcases hlast with ⟨h1, h2⟩ | ⟨j, z, rest, h1, h2, -, h3⟩
  · subst h1
    simp [Tryz.f40, hn, h0', hnn]
    refine Run.loopThen (fun (k : Nat) e H => k ≤ a.vals.l.length ∧ H = [some [.str a.name, (.vsl a.vals.nil (encs a.vals.l) a.vals.l.length)]] ∧ look e 2 = some (.optr 0 2 0) ∧ look e 35 = some (.vsl a.vals.nil (encs a.vals.l) a.vals.l.length) ∧ look e 36 = some (.int .i64 a.vals.l.length) ∧ look e 37 = some (.int .i64 k) ∧ rangeAll a.vals.l.length (vOk a.vals.l) k = r) (fun k => a.vals.l.length - k) 0 ⟨Nat.zero_le _, rfl, by simp, by simp, by simp, by simp, hr⟩ ?_
    rintro k e H ⟨hk, rfl, g2, g35, g36, g37, gr⟩
    by_cases hlt : k < a.vals.l.length
    case neg =>
      have hlt' : ¬ ((k : Int) < (a.vals.l.length : Int)) := by omega
      rw [rangeAll_end (by omega)] at gr
      subst gr
      simp [g2, g35, g36, g37, hlt']
    have hlt' : ((k : Int) < (a.vals.l.length : Int)) := by omega
    have hwk : IntKind.i64.wrap ((k : Int) + 1) = ((k + 1 : Nat) : Int) := by rw [wrap_i64] <;> omega
    have hea := Str.ea hlt
    have hnl := Sl.nn hlt
    rw [rangeAll_step hlt, vOk_at hlt] at gr
    by_cases h256 : a.vals.l[k].s.length ≤ 256
    case neg =>
      rw [decide_eq_false h256, Bool.false_and, Bool.false_and] at gr
      subst gr
      have h256' : (256 : Int) < (a.vals.l[k].s.length : Int) := by omega
      have h256n : 256 < a.vals.l[k].s.length := by omega
      generalize a.vals.l[k] = v at *
      simp [g2, g35, g36, g37, hlt', hnl, hea, h256']
    have h256' : ¬ (256 : Int) < (a.vals.l[k].s.length : Int) := by omega
    have h256n : ¬ 256 < a.vals.l[k].s.length := by omega
    rw [decide_eq_true h256, Bool.true_and] at gr
    cases k with
    | zero =>
      replace gr : rangeAll a.vals.l.length (vOk a.vals.l) 1 = r := gr
      generalize a.vals.l[0] = v at *
      rw [show ((0 : Nat) : Int) = 0 from rfl] at g37 hlt' hwk
      simp at hea
      simp [g2, g35, g36, g37, hlt, hnl, hea, h256']
      exact ⟨1, by omega, by omega, rfl, gr⟩
    | succ q =>
      have hq2 : q < a.vals.l.length := by omega
      have heb := Str.ea hq2
      rw [Nat.add_sub_cancel, getD_str hq2, decide_eq_false (by omega), Bool.false_or] at gr
      have hwq : IntKind.i64.wrap (((q + 1 : Nat) : Int) - 1) = (q : Int) := by rw [wrap_i64] <;> omega
      have hp0 : (0 : Int) < ((q + 1 : Nat) : Int) := by omega
      have hqi : (q : Int) < (a.vals.l.length : Int) := by omega
      have hp0n : 0 < q + 1 := by omega
      generalize a.vals.l[q + 1] = v at *
      generalize a.vals.l[q] = u at *
      generalize q + 1 = k at *
      cases hb : Op.bytesLess u.s v.s with
      | false =>
        rw [hb, Bool.false_and] at gr
        subst gr
        simp [g2, g35, g36, g37, hlt', hnl, hea, heb, h256', hwq, hp0n, hqi, hb]
      | true =>
        rw [hb, Bool.true_and] at gr
        simp [g2, g35, g36, g37, hlt', hnl, hea, heb, h256', hwq, hp0n, hqi, hb, hwk]
        exact ⟨k + 1, by omega, by omega, by omega, gr⟩
  · have hi0 : (0 : Int) < (i : Int) := by omega
    have hw : IntKind.i64.wrap ((i : Int) - 1) = (j : Int) := by rw [wrap_i64] <;> omega
    have hji : (j : Int) < (i : Int) := by omega
    have hjn : j < i := by omega
    have hin : 0 < i := by omega
    simp [Tryz.f40, hn, h0', hw, hji, hin, hnn, h2, h3]
    refine Run.loopThen (fun (k : Nat) e H => k ≤ a.vals.l.length ∧ H = [some [.str a.name, (.vsl a.vals.nil (encs a.vals.l) a.vals.l.length)]] ∧ look e 2 = some (.optr 0 2 0) ∧ look e 35 = some (.vsl a.vals.nil (encs a.vals.l) a.vals.l.length) ∧ look e 36 = some (.int .i64 a.vals.l.length) ∧ look e 37 = some (.int .i64 k) ∧ rangeAll a.vals.l.length (vOk a.vals.l) k = r) (fun k => a.vals.l.length - k) 0 ⟨Nat.zero_le _, rfl, by simp, by simp, by simp, by simp, hr⟩ ?_
    rintro k e H ⟨hk, rfl, g2, g35, g36, g37, gr⟩
    by_cases hlt : k < a.vals.l.length
    case neg =>
      have hlt' : ¬ ((k : Int) < (a.vals.l.length : Int)) := by omega
      rw [rangeAll_end (by omega)] at gr
      subst gr
      simp [g2, g35, g36, g37, hlt']
    have hlt' : ((k : Int) < (a.vals.l.length : Int)) := by omega
    have hwk : IntKind.i64.wrap ((k : Int) + 1) = ((k + 1 : Nat) : Int) := by rw [wrap_i64] <;> omega
    have hea := Str.ea hlt
    have hnl := Sl.nn hlt
    rw [rangeAll_step hlt, vOk_at hlt] at gr
    by_cases h256 : a.vals.l[k].s.length ≤ 256
    case neg =>
      rw [decide_eq_false h256, Bool.false_and, Bool.false_and] at gr
      subst gr
      have h256' : (256 : Int) < (a.vals.l[k].s.length : Int) := by omega
      have h256n : 256 < a.vals.l[k].s.length := by omega
      generalize a.vals.l[k] = v at *
      simp [g2, g35, g36, g37, hlt', hnl, hea, h256']
    have h256' : ¬ (256 : Int) < (a.vals.l[k].s.length : Int) := by omega
    have h256n : ¬ 256 < a.vals.l[k].s.length := by omega
    rw [decide_eq_true h256, Bool.true_and] at gr
    cases k with
    | zero =>
      replace gr : rangeAll a.vals.l.length (vOk a.vals.l) 1 = r := gr
      generalize a.vals.l[0] = v at *
      rw [show ((0 : Nat) : Int) = 0 from rfl] at g37 hlt' hwk
      simp at hea
      simp [g2, g35, g36, g37, hlt, hnl, hea, h256']
      exact ⟨1, by omega, by omega, rfl, gr⟩
    | succ q =>
      have hq2 : q < a.vals.l.length := by omega
      have heb := Str.ea hq2
      rw [Nat.add_sub_cancel, getD_str hq2, decide_eq_false (by omega), Bool.false_or] at gr
      have hwq : IntKind.i64.wrap (((q + 1 : Nat) : Int) - 1) = (q : Int) := by rw [wrap_i64] <;> omega
      have hp0 : (0 : Int) < ((q + 1 : Nat) : Int) := by omega
      have hqi : (q : Int) < (a.vals.l.length : Int) := by omega
      have hp0n : 0 < q + 1 := by omega
      generalize a.vals.l[q + 1] = v at *
      generalize a.vals.l[q] = u at *
      generalize q + 1 = k at *
      cases hb : Op.bytesLess u.s v.s with
      | false =>
        rw [hb, Bool.false_and] at gr
        subst gr
        simp [g2, g35, g36, g37, hlt', hnl, hea, heb, h256', hwq, hp0n, hqi, hb]
      | true =>
        rw [hb, Bool.true_and] at gr
        simp [g2, g35, g36, g37, hlt', hnl, hea, heb, h256', hwq, hp0n, hqi, hb, hwk]
        exact ⟨k + 1, by omega, by omega, by omega, gr⟩
end Go.Ev.S
/- What is asked may be asked: the program's. -/
namespace Go.Ev.S
open Go Go.Proofs Go.Ev
/-- What is asked is of a size that memory can have. -/
def MatC (l : List Row) : Prop := l.length ≤ 5 ∧ ∀ r ∈ l, r.r.l.length ≤ 20 ∧ ∀ a ∈ r.r.l, a.vals.l.length ≤ 10000000000000 ∧ a.name.length ≤ 9223372036854775807
theorem wordsA_le : ∀ {l : List Alt} (_ : ∀ a ∈ l, a.vals.l.length ≤ 10000000000000), wordsA l ≤ l.length * 10000000000000
  | [], _ => Nat.zero_le _
  | a :: l, h => by
    have h1 := h a (List.mem_cons_self ..)
    have h2 := wordsA_le fun x hx => h x (List.mem_cons_of_mem _ hx)
    rw [wordsA_cons, List.length_cons, Nat.add_mul]
    omega
theorem wordsR_le : ∀ {l : List Row} (_ : ∀ r ∈ l, r.r.l.length ≤ 20 ∧ ∀ a ∈ r.r.l, a.vals.l.length ≤ 10000000000000), wordsR l ≤ l.length * 200000000000000
  | [], _ => Nat.zero_le _
  | a :: l, h => by
    obtain ⟨h0, h1⟩ := h a (List.mem_cons_self ..)
    have h2 := wordsR_le fun x hx => h x (List.mem_cons_of_mem _ hx)
    have h3 := wordsA_le h1
    rw [wordsR_cons, List.length_cons, Nat.add_mul]
    omega
theorem matC_words {l : List Row} (h : MatC l) : wordsR l ≤ 1000000000000000 := by
  have h1 := wordsR_le fun r hr => ⟨(h.2 r hr).1, fun a ha => ((h.2 r hr).2 a ha).1⟩
  have h2 := h.1
  have h3 : l.length * 200000000000000 ≤ 5 * 200000000000000 := Nat.mul_le_mul_right _ h2
  omega
set_option maxHeartbeats 2000000 in
theorem mright_ev [MaxL] (m : Mat) (hm : MatC m.rows.l) : call cx 17 [.agg [(.vsl m.rows.nil (encs m.rows.l) m.rows.l.length)]] [] = some (.bool (matOk m.rows.l), []) := by
  obtain ⟨M⟩ := m
  simp only at hm ⊢
  refine call_run Tryz.func17 rfl ⟨rfl, rfl⟩ ?_
  obtain ⟨h5, hb⟩ := hm
  obtain ⟨r, hr⟩ : ∃ r, matOk M.l = r := ⟨_, rfl⟩
  rw [hr]
  unfold matOk at hr
  rcases Nat.eq_zero_or_pos M.l.length with h0 | hpos
  · obtain ⟨nil, l, hnil⟩ := M
    simp only at h0 hr ⊢
    obtain rfl := List.eq_nil_of_length_eq_zero h0
    replace hr : true = r := hr
    subst hr
    have hw : IntKind.i64.wrap ((0 : Int) - 1) = -1 := by rw [wrap_i64] <;> omega
    have hw' : IntKind.i64.wrap (-1) = -1 := by rw [wrap_i64] <;> omega
    simp [Tryz.f17, hw']
    refine run_loop1 ?_
    simp
  obtain ⟨w0, hw0⟩ : ∃ w0, M.l.length = w0 + 1 := ⟨M.l.length - 1, by omega⟩
  have hw : IntKind.i64.wrap ((M.l.length : Int) - 1) = (w0 : Int) := by rw [wrap_i64] <;> omega
  simp [Tryz.f17, hw]
  refine Run.loopThen (fun (q : Nat × Nat) e H' => q.1 ≤ M.l.length ∧ (H' = [] ∨ ∃ x, H' = [x]) ∧ look e 3 = some (.int .i64 (q.2 : Nat)) ∧ look e 14 = some (.vsl M.nil (encs M.l) M.l.length) ∧ look e 15 = some (.int .i64 M.l.length) ∧ look e 16 = some (.int .i64 (q.1 : Nat)) ∧ ((M.l.drop q.1).all rowOk && decide (q.2 + wordsR (M.l.drop q.1) ≤ 32)) = r ∧ q.2 ≤ 10000 ∧ (0 < q.1 → q.2 ≤ 32)) (fun q => M.l.length - q.1) (0, w0) ⟨Nat.zero_le _, .inr ⟨_, rfl⟩, (by simp; omega), by simp, by simp, by simp, ?_, ?_, fun h => absurd h (Nat.lt_irrefl _)⟩ ?_
  · rw [← hr, hw0, Nat.add_sub_cancel, List.drop_zero]
  · show w0 ≤ 10000
    omega
  rintro ⟨i, w⟩ e H ⟨hi, hH, g3, g14, g15, g16, gf, gw, gz⟩
  simp only at hi g3 g16 gf gw gz
  by_cases hlt : i < M.l.length
  case neg =>
    have hlt' : ¬ ((i : Int) < (M.l.length : Int)) := by omega
    rw [List.drop_eq_nil_of_le (by omega)] at gf
    simp only [List.all_nil, Bool.true_and, wordsR, List.map_nil, List.sum_nil, Nat.add_zero] at gf
    rw [decide_eq_true (gz (by omega))] at gf
    subst gf
    rcases hH with rfl | ⟨x, rfl⟩
    all_goals simp [g3, g14, g15, g16, hlt']
  have hlt' : ((i : Int) < (M.l.length : Int)) := by omega
  have hwi : IntKind.i64.wrap ((i : Int) + 1) = ((i + 1 : Nat) : Int) := by rw [wrap_i64] <;> omega
  have hea := Row.ea hlt
  have hnn := Sl.nn hlt
  obtain ⟨b1, b2⟩ := hb _ (List.getElem_mem hlt)
  rw [List.drop_eq_getElem_cons hlt, List.all_cons, wordsR_cons] at gf
  generalize M.l[i] = x at *
  obtain ⟨R⟩ := x
  simp only at b1 b2 hea gf
  by_cases h0 : R.l.length = 0
  · have h0i : (R.l.length : Int) = 0 := by omega
    have hro : rowOk ⟨R⟩ = false := by
      unfold rowOk
      simp [List.eq_nil_of_length_eq_zero h0]
    rw [hro, Bool.false_and, Bool.false_and] at gf
    subst gf
    rcases hH with rfl | ⟨x, rfl⟩
    all_goals simp [g3, g14, g15, g16, hlt', hnn, hea, h0]
  have h0i : ¬ (R.l.length : Int) = 0 := by omega
  have hro : rowOk ⟨R⟩ = rangeAll R.l.length (altsOk R.l) 0 := by
    have hne : R.l ≠ [] := fun h => h0 (by rw [h]; rfl)
    unfold rowOk
    simp [hne]
  rw [hro] at gf
  by_cases h32 : w ≤ 32
  case neg =>
    have h32' : (32 : Int) < (w : Int) := by omega
    have h32n : 32 < w := by omega
    rw [decide_eq_false (p := w + _ ≤ 32) (by omega), Bool.and_false] at gf
    subst gf
    rcases hH with rfl | ⟨x, rfl⟩
    all_goals simp [g3, g14, g15, g16, hlt', hnn, hea, h0, h32']
  have h32' : ¬ (32 : Int) < (w : Int) := by omega
  have h32n : ¬ 32 < w := by omega
  obtain ⟨T, hT⟩ : ∃ T, M.l.drop (i + 1) = T := ⟨_, rfl⟩
  rcases hH with rfl | ⟨x, rfl⟩
  all_goals
    simp [g3, g14, g15, g16, hlt', hnn, hea, h0, h32']
    refine Run.loopThen (fun (q : Nat × Nat) e H' => q.1 ≤ R.l.length ∧ (H' = [] ∨ ∃ x, H' = [x]) ∧ look e 3 = some (.int .i64 (q.2 : Nat)) ∧ look e 5 = some (.vsl R.nil (encs R.l) R.l.length) ∧ look e 14 = some (.vsl M.nil (encs M.l) M.l.length) ∧ look e 15 = some (.int .i64 M.l.length) ∧ look e 16 = some (.int .i64 (i : Nat)) ∧ look e 27 = some (.vsl R.nil (encs R.l) R.l.length) ∧ look e 28 = some (.int .i64 R.l.length) ∧ look e 29 = some (.int .i64 (q.1 : Nat)) ∧ (rangeAll R.l.length (altsOk R.l) q.1 && ((M.l.drop (i + 1)).all rowOk && decide (q.2 + (wordsA (R.l.drop q.1) + wordsR (M.l.drop (i + 1))) ≤ 32))) = r ∧ q.2 ≤ 32) (fun q => R.l.length - q.1) (0, w) ⟨Nat.zero_le _, ?_, by simp, by simp, by simp [hnn], by simp, by simp, by simp, by simp, by simp, ?_, h32⟩ ?_
    · first | exact .inl rfl | exact .inr ⟨_, rfl⟩
    · rw [List.drop_zero, ← Bool.and_assoc]
      exact gf
    rintro ⟨k, v⟩ e' H' ⟨hk, hH', k3, k5, k14, k15, k16, k27, k28, k29, kf, kv⟩
    simp only at hk k3 k29 kf kv
    by_cases hkt : k < R.l.length
    case neg =>
      have hkt' : ¬ ((k : Int) < (R.l.length : Int)) := by omega
      rw [rangeAll_end (by omega), Bool.true_and, List.drop_eq_nil_of_le (show R.l.length ≤ k by omega)] at kf
      simp only [wordsA, List.map_nil, List.sum_nil, Nat.zero_add] at kf
      rcases hH' with rfl | ⟨x', rfl⟩
      all_goals
        simp [k3, k5, k14, k15, k16, k27, k28, k29, hkt', hwi]
        exact ⟨i + 1, by omega, by omega, v, rfl, hnn, by omega, kf, by omega, fun _ => kv⟩
    have hkt' : ((k : Int) < (R.l.length : Int)) := by omega
    have hwk : IntKind.i64.wrap ((k : Int) + 1) = ((k + 1 : Nat) : Int) := by rw [wrap_i64] <;> omega
    have heb := Alt.ea hkt
    have hnl := Sl.nn hkt
    obtain ⟨c1, -⟩ := b2 _ (List.getElem_mem hkt)
    have hc := malt_ev R k hkt (by omega) (by omega)
    rw [rangeAll_step hkt, List.drop_eq_getElem_cons hkt, wordsA_cons] at kf
    have hte : List.take (k * 2) (encs R.l) = encs (R.l.take k) := encs_take (n := 2) (α := Alt) rfl _ _
    generalize R.l[k] = a at *
    have hwv : IntKind.i64.wrap ((v : Int) + (a.vals.l.length : Int)) = ((v + a.vals.l.length : Nat) : Int) := by rw [wrap_i64] <;> omega
    obtain ⟨z, hz⟩ : ∃ z, z = v + a.vals.l.length := ⟨_, rfl⟩
    rw [← hz] at hwv
    rw [hnl] at hc
    by_cases hz32 : z ≤ 32
    case neg =>
      have hz' : (32 : Int) < (z : Int) := by omega
      have hzn : 32 < z := by omega
      rw [decide_eq_false (p := v + _ ≤ 32) (by omega), Bool.and_false, Bool.and_false] at kf
      subst kf
      rcases hH' with rfl | ⟨x', rfl⟩
      all_goals simp [k3, k5, k14, k15, k16, k27, k28, k29, hkt', hnl, heb, hwv, hz']
    have hz' : ¬ (32 : Int) < (z : Int) := by omega
    have hzn : ¬ 32 < z := by omega
    cases hal : altsOk R.l k with
    | false =>
      rw [hal, Bool.false_and, Bool.false_and] at kf
      subst kf
      rw [hal] at hc
      rcases hH' with rfl | ⟨x', rfl⟩
      all_goals simp [k3, k5, k14, k15, k16, k27, k28, k29, hkt', hnl, heb, hwv, hz', hte, hk, hc]
    | true =>
      rw [hal, Bool.true_and] at kf
      rw [hal] at hc
      rcases hH' with rfl | ⟨x', rfl⟩
      all_goals
        simp [k3, k5, k14, k15, k16, k27, k28, k29, hkt', hnl, heb, hwv, hz', hte, hk, hc, hwk]
        exact ⟨k + 1, by omega, by omega, z, rfl, by omega, by rw [show z + (wordsA (R.l.drop (k + 1)) + wordsR (M.l.drop (i + 1))) = v + (a.vals.l.length + wordsA (R.l.drop (k + 1)) + wordsR (M.l.drop (i + 1))) by omega]; exact kf, hz32⟩
end Go.Ev.S
/- The library as it lies in this program: the shelf's layings, printed by its tool. -/
namespace Go.Proofs
open Go.Shelf
def Tryz.lays129_ren : Go.Shelf.Ren := ⟨fun | 129 => 218 | n => n, fun | 53 => 49 | 3 => 3 | 4 => 4 | 46 => 183 | 5 => 5 | 9 => 9 | n => n, fun | n => n⟩
theorem Tryz.lays129 : Go.Proofs.Lays.n129 Tryz.prog Tryz.lays129_ren := {
  mixed := by kernel_rfl
  f129 := Tryz.func218.trans (congrArg some (by kernel_rfl))
  t3 := Tryz.underlying3
  a3 := Tryz.isAgg3
  z3 := Tryz.sizeOf3
  v3 := Tryz.zeroValue3
  t4 := Tryz.underlying4
  a4 := Tryz.isAgg4
  z4 := Tryz.sizeOf4
  v4 := Tryz.zeroValue4
  t5 := Tryz.underlying5
  a5 := Tryz.isAgg5
  z5 := Tryz.sizeOf5
  v5 := Tryz.zeroValue5
  t9 := Tryz.underlying9
  a9 := Tryz.isAgg9
  z9 := Tryz.sizeOf9
  v9 := Tryz.zeroValue9
  t46 := Tryz.underlying183
  a46 := Tryz.isAgg183
  z46 := Tryz.sizeOf183
  v46 := Tryz.zeroValue183
  t53 := Tryz.underlying49
  a53 := Tryz.isAgg49
  z53 := Tryz.sizeOf49
  v53 := Tryz.zeroValue49 }
def Tryz.lays317_ren : Go.Shelf.Ren := ⟨fun | 317 => 286 | n => n, fun | 3 => 3 | 46 => 183 | n => n, fun | n => n⟩
theorem Tryz.lays317 : Go.Proofs.Lays.n317 Tryz.prog Tryz.lays317_ren := {
  mixed := by kernel_rfl
  f317 := Tryz.func286.trans (congrArg some (by kernel_rfl))
  t3 := Tryz.underlying3
  a3 := Tryz.isAgg3
  z3 := Tryz.sizeOf3
  v3 := Tryz.zeroValue3
  t46 := Tryz.underlying183
  a46 := Tryz.isAgg183
  z46 := Tryz.sizeOf183
  v46 := Tryz.zeroValue183 }
def Tryz.lays318_ren : Go.Shelf.Ren := ⟨fun | 318 => 287 | n => n, fun | 3 => 3 | 4 => 4 | n => n, fun | n => n⟩
theorem Tryz.lays318 : Go.Proofs.Lays.n318 Tryz.prog Tryz.lays318_ren := {
  mixed := by kernel_rfl
  f318 := Tryz.func287.trans (congrArg some (by kernel_rfl))
  t3 := Tryz.underlying3
  a3 := Tryz.isAgg3
  z3 := Tryz.sizeOf3
  v3 := Tryz.zeroValue3
  t4 := Tryz.underlying4
  a4 := Tryz.isAgg4
  z4 := Tryz.sizeOf4
  v4 := Tryz.zeroValue4 }
def Tryz.lays283_ren : Go.Shelf.Ren := ⟨fun | 283 => 243 | n => n, fun | 3 => 3 | 9 => 9 | 4 => 4 | n => n, fun | n => n⟩
theorem Tryz.lays283 : Go.Proofs.Lays.n283 Tryz.prog Tryz.lays283_ren := {
  mixed := by kernel_rfl
  f283 := Tryz.func243.trans (congrArg some (by kernel_rfl))
  t3 := Tryz.underlying3
  a3 := Tryz.isAgg3
  z3 := Tryz.sizeOf3
  v3 := Tryz.zeroValue3
  t4 := Tryz.underlying4
  a4 := Tryz.isAgg4
  z4 := Tryz.sizeOf4
  v4 := Tryz.zeroValue4
  t9 := Tryz.underlying9
  a9 := Tryz.isAgg9
  z9 := Tryz.sizeOf9
  v9 := Tryz.zeroValue9 }
def Tryz.laysM284_ren : Go.Shelf.Ren := ⟨fun | 284 => 244 | 129 => 218 | 317 => 286 | 318 => 287 | n => n, fun | 53 => 49 | 3 => 3 | 212 => 391 | 0 => 0 | 4 => 4 | 46 => 183 | 5 => 5 | 9 => 9 | n => n, fun | 17 => 3 | n => n⟩
theorem Tryz.laysM284 : Go.Proofs.LaysM.n284 Tryz.prog Tryz.laysM284_ren := {
  mixed := by kernel_rfl
  f129 := Tryz.func218.trans (congrArg some (by kernel_rfl))
  f284 := Tryz.func244.trans (congrArg some (by kernel_rfl))
  f317 := Tryz.func286.trans (congrArg some (by kernel_rfl))
  f318 := Tryz.func287.trans (congrArg some (by kernel_rfl))
  t0 := Tryz.underlying0
  a0 := Tryz.isAgg0
  z0 := Tryz.sizeOf0
  v0 := Tryz.zeroValue0
  t3 := Tryz.underlying3
  a3 := Tryz.isAgg3
  z3 := Tryz.sizeOf3
  v3 := Tryz.zeroValue3
  t4 := Tryz.underlying4
  a4 := Tryz.isAgg4
  z4 := Tryz.sizeOf4
  v4 := Tryz.zeroValue4
  t5 := Tryz.underlying5
  a5 := Tryz.isAgg5
  z5 := Tryz.sizeOf5
  v5 := Tryz.zeroValue5
  t9 := Tryz.underlying9
  a9 := Tryz.isAgg9
  z9 := Tryz.sizeOf9
  v9 := Tryz.zeroValue9
  t46 := Tryz.underlying183
  a46 := Tryz.isAgg183
  z46 := Tryz.sizeOf183
  v46 := Tryz.zeroValue183
  t53 := Tryz.underlying49
  a53 := Tryz.isAgg49
  z53 := Tryz.sizeOf49
  v53 := Tryz.zeroValue49
  t212 := Tryz.underlying391
  a212 := Tryz.isAgg391
  z212 := Tryz.sizeOf391
  v212 := Tryz.zeroValue391
  g17 := by kernel_rfl
  i0 := by kernel_rfl
  i3 := by kernel_rfl
  i4 := by kernel_rfl
  i5 := by kernel_rfl
  i9 := by kernel_rfl
  i46 := by kernel_rfl
  i53 := by kernel_rfl
  i212 := by kernel_rfl
  m17 := by kernel_rfl }
def Tryz.laysM316_ren : Go.Shelf.Ren := ⟨fun | 316 => 240 | n => n, fun | 9 => 9 | 3 => 3 | 4 => 4 | 37 => 43 | 0 => 0 | 127 => 303 | 5 => 5 | n => n, fun | n => n⟩
theorem Tryz.laysM316 : Go.Proofs.LaysM.n316 Tryz.prog Tryz.laysM316_ren := {
  mixed := by kernel_rfl
  f316 := Tryz.func240.trans (congrArg some (by kernel_rfl))
  t0 := Tryz.underlying0
  a0 := Tryz.isAgg0
  z0 := Tryz.sizeOf0
  v0 := Tryz.zeroValue0
  t3 := Tryz.underlying3
  a3 := Tryz.isAgg3
  z3 := Tryz.sizeOf3
  v3 := Tryz.zeroValue3
  t4 := Tryz.underlying4
  a4 := Tryz.isAgg4
  z4 := Tryz.sizeOf4
  v4 := Tryz.zeroValue4
  t9 := Tryz.underlying9
  a9 := Tryz.isAgg9
  z9 := Tryz.sizeOf9
  v9 := Tryz.zeroValue9
  t37 := Tryz.underlying43
  a37 := Tryz.isAgg43
  z37 := Tryz.sizeOf43
  v37 := Tryz.zeroValue43
  t127 := Tryz.underlying303
  a127 := Tryz.isAgg303
  z127 := Tryz.sizeOf303
  v127 := Tryz.zeroValue303
  t5 := Tryz.underlying5
  a5 := Tryz.isAgg5
  z5 := Tryz.sizeOf5
  v5 := Tryz.zeroValue5
  i0 := by kernel_rfl
  i3 := by kernel_rfl
  i4 := by kernel_rfl
  i5 := by kernel_rfl
  i9 := by kernel_rfl
  i37 := by kernel_rfl
  i127 := by kernel_rfl }
def Tryz.lays219_ren : Go.Shelf.Ren := ⟨fun | 219 => 200 | 217 => 222 | 225 => 238 | 224 => 100 | 267 => 239 | 266 => 256 | 314 => 284 | n => n, fun | 9 => 9 | 3 => 3 | 4 => 4 | 5 => 5 | 46 => 183 | 146 => 269 | 51 => 218 | n => n, fun | 1 => 0 | n => n⟩
theorem Tryz.lays219 : Go.Proofs.Lays.n219 Tryz.prog Tryz.lays219_ren := {
  mixed := by kernel_rfl
  f217 := Tryz.func222.trans (congrArg some (by kernel_rfl))
  f219 := Tryz.func200.trans (congrArg some (by kernel_rfl))
  f224 := Tryz.func100.trans (congrArg some (by kernel_rfl))
  f225 := Tryz.func238.trans (congrArg some (by kernel_rfl))
  f266 := Tryz.func256.trans (congrArg some (by kernel_rfl))
  f267 := Tryz.func239.trans (congrArg some (by kernel_rfl))
  f314 := Tryz.func284.trans (congrArg some (by kernel_rfl))
  t3 := Tryz.underlying3
  a3 := Tryz.isAgg3
  z3 := Tryz.sizeOf3
  v3 := Tryz.zeroValue3
  t4 := Tryz.underlying4
  a4 := Tryz.isAgg4
  z4 := Tryz.sizeOf4
  v4 := Tryz.zeroValue4
  t5 := Tryz.underlying5
  a5 := Tryz.isAgg5
  z5 := Tryz.sizeOf5
  v5 := Tryz.zeroValue5
  t9 := Tryz.underlying9
  a9 := Tryz.isAgg9
  z9 := Tryz.sizeOf9
  v9 := Tryz.zeroValue9
  t46 := Tryz.underlying183
  a46 := Tryz.isAgg183
  z46 := Tryz.sizeOf183
  v46 := Tryz.zeroValue183
  t51 := Tryz.underlying218
  a51 := Tryz.isAgg218
  z51 := Tryz.sizeOf218
  v51 := Tryz.zeroValue218
  t146 := Tryz.underlying269
  a146 := Tryz.isAgg269
  z146 := Tryz.sizeOf269
  v146 := Tryz.zeroValue269
  g1 := by kernel_rfl }
def Tryz.lays185_ren : Go.Shelf.Ren := ⟨fun | 185 => 68 | 187 => 98 | 115 => 64 | 253 => 99 | 224 => 100 | 254 => 101 | 255 => 155 | 291 => 156 | n => n, fun | 37 => 43 | 3 => 3 | 4 => 4 | 0 => 0 | 5 => 5 | 46 => 183 | 9 => 9 | 146 => 269 | 51 => 218 | n => n, fun | 1 => 0 | n => n⟩
theorem Tryz.lays185 : Go.Proofs.Lays.n185 Tryz.prog Tryz.lays185_ren := {
  mixed := by kernel_rfl
  f115 := Tryz.func64.trans (congrArg some (by kernel_rfl))
  f185 := Tryz.func68.trans (congrArg some (by kernel_rfl))
  f187 := Tryz.func98.trans (congrArg some (by kernel_rfl))
  f224 := Tryz.func100.trans (congrArg some (by kernel_rfl))
  f253 := Tryz.func99.trans (congrArg some (by kernel_rfl))
  f254 := Tryz.func101.trans (congrArg some (by kernel_rfl))
  f255 := Tryz.func155.trans (congrArg some (by kernel_rfl))
  f291 := Tryz.func156.trans (congrArg some (by kernel_rfl))
  t0 := Tryz.underlying0
  a0 := Tryz.isAgg0
  z0 := Tryz.sizeOf0
  v0 := Tryz.zeroValue0
  t3 := Tryz.underlying3
  a3 := Tryz.isAgg3
  z3 := Tryz.sizeOf3
  v3 := Tryz.zeroValue3
  t4 := Tryz.underlying4
  a4 := Tryz.isAgg4
  z4 := Tryz.sizeOf4
  v4 := Tryz.zeroValue4
  t5 := Tryz.underlying5
  a5 := Tryz.isAgg5
  z5 := Tryz.sizeOf5
  v5 := Tryz.zeroValue5
  t9 := Tryz.underlying9
  a9 := Tryz.isAgg9
  z9 := Tryz.sizeOf9
  v9 := Tryz.zeroValue9
  t37 := Tryz.underlying43
  a37 := Tryz.isAgg43
  z37 := Tryz.sizeOf43
  v37 := Tryz.zeroValue43
  t46 := Tryz.underlying183
  a46 := Tryz.isAgg183
  z46 := Tryz.sizeOf183
  v46 := Tryz.zeroValue183
  t51 := Tryz.underlying218
  a51 := Tryz.isAgg218
  z51 := Tryz.sizeOf218
  v51 := Tryz.zeroValue218
  t146 := Tryz.underlying269
  a146 := Tryz.isAgg269
  z146 := Tryz.sizeOf269
  v146 := Tryz.zeroValue269
  g1 := by kernel_rfl }
def Tryz.laysM185_ren : Go.Shelf.Ren := ⟨fun | 185 => 68 | 187 => 98 | 115 => 64 | 253 => 99 | 224 => 100 | 254 => 101 | 255 => 155 | 291 => 156 | n => n, fun | 37 => 43 | 3 => 3 | 4 => 4 | 0 => 0 | 5 => 5 | 46 => 183 | 9 => 9 | 146 => 269 | 51 => 218 | n => n, fun | 1 => 0 | n => n⟩
theorem Tryz.laysM185 : Go.Proofs.LaysM.n185 Tryz.prog Tryz.laysM185_ren := {
  mixed := by kernel_rfl
  f115 := Tryz.func64.trans (congrArg some (by kernel_rfl))
  f185 := Tryz.func68.trans (congrArg some (by kernel_rfl))
  f187 := Tryz.func98.trans (congrArg some (by kernel_rfl))
  f224 := Tryz.func100.trans (congrArg some (by kernel_rfl))
  f253 := Tryz.func99.trans (congrArg some (by kernel_rfl))
  f254 := Tryz.func101.trans (congrArg some (by kernel_rfl))
  f255 := Tryz.func155.trans (congrArg some (by kernel_rfl))
  f291 := Tryz.func156.trans (congrArg some (by kernel_rfl))
  t0 := Tryz.underlying0
  a0 := Tryz.isAgg0
  z0 := Tryz.sizeOf0
  v0 := Tryz.zeroValue0
  t3 := Tryz.underlying3
  a3 := Tryz.isAgg3
  z3 := Tryz.sizeOf3
  v3 := Tryz.zeroValue3
  t4 := Tryz.underlying4
  a4 := Tryz.isAgg4
  z4 := Tryz.sizeOf4
  v4 := Tryz.zeroValue4
  t5 := Tryz.underlying5
  a5 := Tryz.isAgg5
  z5 := Tryz.sizeOf5
  v5 := Tryz.zeroValue5
  t9 := Tryz.underlying9
  a9 := Tryz.isAgg9
  z9 := Tryz.sizeOf9
  v9 := Tryz.zeroValue9
  t37 := Tryz.underlying43
  a37 := Tryz.isAgg43
  z37 := Tryz.sizeOf43
  v37 := Tryz.zeroValue43
  t46 := Tryz.underlying183
  a46 := Tryz.isAgg183
  z46 := Tryz.sizeOf183
  v46 := Tryz.zeroValue183
  t51 := Tryz.underlying218
  a51 := Tryz.isAgg218
  z51 := Tryz.sizeOf218
  v51 := Tryz.zeroValue218
  t146 := Tryz.underlying269
  a146 := Tryz.isAgg269
  z146 := Tryz.sizeOf269
  v146 := Tryz.zeroValue269
  g1 := by kernel_rfl
  i0 := by kernel_rfl
  i3 := by kernel_rfl
  i4 := by kernel_rfl
  i5 := by kernel_rfl
  i9 := by kernel_rfl
  i37 := by kernel_rfl
  i46 := by kernel_rfl
  i51 := by kernel_rfl
  i146 := by kernel_rfl
  m1 := by kernel_rfl
  s1_3 := fun w h => Go.Proofs.cell_of_shapedOpen_int (zero := #[.int .i64 0]) (t := 3) h (of_decide_eq_true (by kernel_rfl)) (by kernel_rfl) rfl (by kernel_rfl) (by kernel_rfl) Tryz.underlying3 }
end Go.Proofs
/- The library as it lies in this program: the sort of texts. -/
namespace Go.Proofs
open Go.Shelf
def Tryz.laysN54_ren : Go.Shelf.Ren := ⟨fun | 54 => 113 | 64 => 165 | 65 => 164 | 78 => 217 | 79 => 218 | 80 => 208 | 81 => 209 | 82 => 210 | 83 => 211 | 84 => 212 | 85 => 213 | 61 => 214 | 86 => 215 | 87 => 216 | 93 => 247 | 89 => 248 | 90 => 249 | 94 => 250 | 95 => 251 | 69 => 252 | 97 => 290 | n => n, fun | 25 => 66 | 26 => 9 | 3 => 3 | 51 => 183 | 0 => 0 | 67 => 218 | 69 => 49 | 4 => 4 | 61 => 314 | 60 => 313 | 44 => 293 | 5 => 5 | 9 => 9 | 75 => 347 | 79 => 350 | 83 => 393 | 84 => 83 | n => n, fun n => n⟩
set_option maxRecDepth 100000 in
theorem Tryz.laysN54 : SlLaysN.n54 Tryz.prog Tryz.laysN54_ren := {
  mixed := by kernel_rfl
  f54 := ⟨"slices.Sort[[]string,string]", by decide, Tryz.func113.trans (congrArg some (by kernel_rfl))⟩
  f61 := ⟨"cmp.Less[string]", by decide, Tryz.func214.trans (congrArg some (by kernel_rfl))⟩
  f64 := Tryz.func165.trans (congrArg some (by kernel_rfl))
  f65 := ⟨"slices.pdqsortOrdered[string]", by decide, Tryz.func164.trans (congrArg some (by kernel_rfl))⟩
  f69 := ⟨"cmp.isNaN[string]", by decide, Tryz.func252.trans (congrArg some (by kernel_rfl))⟩
  f78 := Tryz.func217.trans (congrArg some (by kernel_rfl))
  f79 := Tryz.func218.trans (congrArg some (by kernel_rfl))
  f80 := ⟨"slices.insertionSortOrdered[string]", by decide, Tryz.func208.trans (congrArg some (by kernel_rfl))⟩
  f81 := ⟨"slices.heapSortOrdered[string]", by decide, Tryz.func209.trans (congrArg some (by kernel_rfl))⟩
  f82 := ⟨"slices.breakPatternsOrdered[string]", by decide, Tryz.func210.trans (congrArg some (by kernel_rfl))⟩
  f83 := ⟨"slices.choosePivotOrdered[string]", by decide, Tryz.func211.trans (congrArg some (by kernel_rfl))⟩
  f84 := ⟨"slices.reverseRangeOrdered[string]", by decide, Tryz.func212.trans (congrArg some (by kernel_rfl))⟩
  f85 := ⟨"slices.partialInsertionSortOrdered[string]", by decide, Tryz.func213.trans (congrArg some (by kernel_rfl))⟩
  f86 := ⟨"slices.partitionEqualOrdered[string]", by decide, Tryz.func215.trans (congrArg some (by kernel_rfl))⟩
  f87 := ⟨"slices.partitionOrdered[string]", by decide, Tryz.func216.trans (congrArg some (by kernel_rfl))⟩
  f89 := Tryz.func248.trans (congrArg some (by kernel_rfl))
  f90 := Tryz.func249.trans (congrArg some (by kernel_rfl))
  f93 := ⟨"slices.siftDownOrdered[string]", by decide, Tryz.func247.trans (congrArg some (by kernel_rfl))⟩
  f94 := ⟨"slices.medianAdjacentOrdered[string]", by decide, Tryz.func250.trans (congrArg some (by kernel_rfl))⟩
  f95 := ⟨"slices.medianOrdered[string]", by decide, Tryz.func251.trans (congrArg some (by kernel_rfl))⟩
  f97 := ⟨"slices.order2Ordered[string]", by decide, Tryz.func290.trans (congrArg some (by kernel_rfl))⟩
  t0 := Tryz.underlying0
  a0 := Tryz.isAgg0
  z0 := Tryz.sizeOf0
  v0 := Tryz.zeroValue0
  t3 := Tryz.underlying3
  a3 := Tryz.isAgg3
  z3 := Tryz.sizeOf3
  v3 := Tryz.zeroValue3
  t4 := Tryz.underlying4
  a4 := Tryz.isAgg4
  z4 := Tryz.sizeOf4
  v4 := Tryz.zeroValue4
  t5 := Tryz.underlying5
  a5 := Tryz.isAgg5
  z5 := Tryz.sizeOf5
  v5 := Tryz.zeroValue5
  t9 := Tryz.underlying9
  a9 := Tryz.isAgg9
  z9 := Tryz.sizeOf9
  v9 := Tryz.zeroValue9
  t25 := Tryz.underlying66
  a25 := Tryz.isAgg66
  z25 := Tryz.sizeOf66
  v25 := Tryz.zeroValue66
  t26 := Tryz.underlying9
  a26 := Tryz.isAgg9
  z26 := Tryz.sizeOf9
  v26 := Tryz.zeroValue9
  t44 := Tryz.underlying293
  a44 := Tryz.isAgg293
  z44 := Tryz.sizeOf293
  v44 := Tryz.zeroValue293
  t51 := Tryz.underlying183
  a51 := Tryz.isAgg183
  z51 := Tryz.sizeOf183
  v51 := Tryz.zeroValue183
  t60 := Tryz.underlying313
  a60 := Tryz.isAgg313
  z60 := Tryz.sizeOf313
  v60 := Tryz.zeroValue313
  t61 := Tryz.underlying314
  a61 := Tryz.isAgg314
  z61 := Tryz.sizeOf314
  v61 := Tryz.zeroValue314
  t67 := Tryz.underlying218
  a67 := Tryz.isAgg218
  z67 := Tryz.sizeOf218
  v67 := Tryz.zeroValue218
  t69 := Tryz.underlying49
  a69 := Tryz.isAgg49
  z69 := Tryz.sizeOf49
  v69 := Tryz.zeroValue49
  t75 := Tryz.underlying347
  a75 := Tryz.isAgg347
  z75 := Tryz.sizeOf347
  v75 := Tryz.zeroValue347
  t79 := Tryz.underlying350
  a79 := Tryz.isAgg350
  z79 := Tryz.sizeOf350
  v79 := Tryz.zeroValue350
  t83 := Tryz.underlying393
  a83 := Tryz.isAgg393
  z83 := Tryz.sizeOf393
  v83 := Tryz.zeroValue393
  t84 := Tryz.underlying83
  a84 := Tryz.isAgg83
  z84 := Tryz.sizeOf83
  v84 := Tryz.zeroValue83 }
end Go.Proofs
namespace Go.Ev.S
open Go Go.Proofs Go.Ev
theorem ok_0 [MaxL] : okRange cx 0 40 = true := by kernel_rfl
theorem ok_40 [MaxL] : okRange cx 40 40 = true := by kernel_rfl
theorem ok_80 [MaxL] : okRange cx 80 40 = true := by kernel_rfl
theorem ok_120 [MaxL] : okRange cx 120 40 = true := by kernel_rfl
theorem ok_160 [MaxL] : okRange cx 160 40 = true := by kernel_rfl
theorem ok_200 [MaxL] : okRange cx 200 40 = true := by kernel_rfl
theorem ok_240 [MaxL] : okRange cx 240 40 = true := by kernel_rfl
theorem ok_280 [MaxL] : okRange cx 280 40 = true := by kernel_rfl
theorem ok_320 [MaxL] : okRange cx 320 35 = true := by kernel_rfl
theorem fsize : Tryz.prog.funcs.size = 355 := by kernel_rfl
theorem all_ok [MaxL] (f : Nat) (h : f < 355) : okOne cx f = true := by
  rcases Nat.lt_or_ge f 40 with h0 | h0
  · exact okRange_get ok_0 (by omega) (by omega)
  rcases Nat.lt_or_ge f 80 with h1 | h1
  · exact okRange_get ok_40 (by omega) (by omega)
  rcases Nat.lt_or_ge f 120 with h2 | h2
  · exact okRange_get ok_80 (by omega) (by omega)
  rcases Nat.lt_or_ge f 160 with h3 | h3
  · exact okRange_get ok_120 (by omega) (by omega)
  rcases Nat.lt_or_ge f 200 with h4 | h4
  · exact okRange_get ok_160 (by omega) (by omega)
  rcases Nat.lt_or_ge f 240 with h5 | h5
  · exact okRange_get ok_200 (by omega) (by omega)
  rcases Nat.lt_or_ge f 280 with h6 | h6
  · exact okRange_get ok_240 (by omega) (by omega)
  rcases Nat.lt_or_ge f 320 with h7 | h7
  · exact okRange_get ok_280 (by omega) (by omega)
  exact okRange_get ok_320 (by omega) (by omega)
set_option maxHeartbeats 4000000 in
set_option maxRecDepth 100000 in
theorem good [MaxL] : Good cx where
  mixed := by kernel_rfl
  okc f fn c hf hc hb := (okOne_get (all_ok f (by rw [← fsize]; exact (Array.getElem?_eq_some_iff.1 hf).1)) hf).2 c hc hb
  ng f fn hf := (okOne_get (all_ok f (by rw [← fsize]; exact (Array.getElem?_eq_some_iff.1 hf).1)) hf).1
  ext f fn args d hf hn h ok w ι H vs hs hv := by
    by_cases h177 : f = 177
    · subst h177
      rw [ex177] at h
      have hff := Tryz.func177
      rw [show cx.P.funcs[177]? = Tryz.prog.funcs[177]? from rfl, hff] at hf
      injection hf with hf
      subst hf
      exact cmpExt_run (P := cx.P) hff rfl (by kernel_rfl) (by kernel_rfl) (by kernel_rfl) h hv
    · have : cx.ext f args = none := by
        show extT f args = none
        unfold extT
        split
        · exact absurd rfl h177
        · rfl
      rw [this] at h
      cases h
  con f args H r H' h ok w ι vs hs hv := by
    by_cases h200 : f = 200
    · subst h200
      rw [co200] at h
      exact conIdx_run (X := cx) (m := MaxL.m) Tryz.lays219 rfl h hs hv
    by_cases h68 : f = 68
    · subst h68
      rw [co68] at h
      exact conBIdx_run (X := cx) (m := MaxL.m) Tryz.lays185 rfl h hs hv
    by_cases h240 : f = 240
    · subst h240
      rw [co240] at h
      exact conClone_run (X := cx) Tryz.laysM316 h hs hv
    by_cases h218 : f = 218
    · subst h218
      rw [co218] at h
      exact conLen64_run (X := cx) Tryz.lays129 h hs hv
    by_cases h243 : f = 243
    · subst h243
      rw [co243] at h
      exact conSmall_run (X := cx) Tryz.lays283 h hs hv
    by_cases h113 : f = 113
    · subst h113
      rw [co113] at h
      exact conSort_run (X := cx) Tryz.laysN54 (Go.Proofs.enters_of rfl rfl rfl) h hs hv
    · have : cx.con f args H = none := by
        show conT f args H = none
        unfold conT
        split
        · exact absurd rfl h200
        · exact absurd rfl h68
        · exact absurd rfl h240
        · exact absurd rfl h218
        · exact absurd rfl h243
        · exact absurd rfl h113
        · rfl
      rw [this] at h
      cases h
end Go.Ev.S
namespace Go.Ev.S
open Go Go.Proofs Go.Ev
theorem globs [MaxL] {W : World} (h : laidMet Tryz.prog YtgbahhhhfgppjaaGreatDoor.Rows.agentArgsRow.laid W) (hm0 : W.cell? ⟨0, 0, none⟩ = some (.int .i64 MaxL.m)) : ∀ g cs, cx.glob g = some cs → Rep (· < W.heap.size) W iota0 [] (.vptr cs) (.pointer (some ⟨g, 0, none⟩)) := by
  unfold YtgbahhhhfgppjaaGreatDoor.Rows.agentArgsRow at h
  have t6 := rep_tab (g := 6) (zs := gz6) (Lib.tabIs_of_head (g := 6) (t := 423) (e := 5) (n := 32) (k := .u8) (by kernel_rfl) (by kernel_rfl) (by kernel_rfl) (by kernel_rfl) (by kernel_rfl) (by kernel_rfl) h) (by kernel_rfl)
  replace h := h.tail
  have t7 := rep_tab (g := 7) (zs := gz7) (Lib.tabIs_of_head (g := 7) (t := 424) (e := 5) (n := 64) (k := .u8) (by kernel_rfl) (by kernel_rfl) (by kernel_rfl) (by kernel_rfl) (by kernel_rfl) (by kernel_rfl) h) (by kernel_rfl)
  replace h := h.tail
  have t3 := rep_tab (g := 3) (zs := gz3) (Lib.tabIs_of_head (g := 3) (t := 391) (e := 49) (n := 20) (k := .u64) (by kernel_rfl) (by kernel_rfl) (by kernel_rfl) (by kernel_rfl) (by kernel_rfl) (by kernel_rfl) h) (by kernel_rfl)
  replace h := h.tail
  replace h := h.tail
  have t2 := rep_err (g := 2) (text := gs2) (by kernel_rfl) (laid_sentinel (g := 2) (ti := 189) (tp := 387) (te := 389) (ts := 9) h (by kernel_rfl) (by kernel_rfl) Tryz.underlying189 (err_row (base := "errors.errorString") (by decide) (by kernel_rfl) (by kernel_rfl) (by decide)) Tryz.underlying387 Tryz.underlying389 rfl rfl (by kernel_rfl) (by kernel_rfl) (by kernel_rfl))
  replace h := h.tail
  have t1 := rep_err (g := 1) (text := gs1) (by kernel_rfl) (laid_sentinel (g := 1) (ti := 189) (tp := 387) (te := 389) (ts := 9) h (by kernel_rfl) (by kernel_rfl) Tryz.underlying189 (err_row (base := "errors.errorString") (by decide) (by kernel_rfl) (by kernel_rfl) (by decide)) Tryz.underlying387 Tryz.underlying389 rfl rfl (by kernel_rfl) (by kernel_rfl) (by kernel_rfl))
  replace h := h.tail
  intro g cs hg
  have hgl : globT g = some cs := hg
  unfold globT at hgl
  split at hgl
  · cases hgl; exact t1
  · cases hgl; exact t2
  · cases hgl; exact t3
  · cases hgl; exact t6
  · cases hgl; exact t7
  · cases hgl; exact rep_one hm0
  · cases hgl
end Go.Ev.S
/- Small numbers. -/
namespace Go.Ev.S
open Go Go.Proofs Go.Ev
theorem mnumber_ev [MaxL] (n b : Int) : call cx 41 [.int .i64 n, .int .i64 b] [] = some (.int .i64 (if b < 1 then 0 else (IntKind.i64.wrap (n.tmod b + b)).tmod b), []) := by
  refine call_run Tryz.func41 rfl ⟨rfl, rfl⟩ ?_
  by_cases h1 : b < 1
  · simp [Tryz.f41, h1]
  · have h2 : b ≠ 0 := by omega
    simp [Tryz.f41, h1, h2]
/-- A number below b. -/
theorem num_ev [MaxL] (n : Int) (b : Nat) (hb : 1 ≤ b) (hb2 : b ≤ 1000000) : ∃ x : Nat, x < b ∧ call cx 41 [.int .i64 n, .int .i64 b] [] = some (.int .i64 x, []) := by
  have h1 : n.tmod b < b := Int.tmod_lt_of_pos _ (by omega)
  have h2 : -(b : Int) < n.tmod b := by
    have := Int.tmod_lt_of_pos (-n) (show (0 : Int) < b by omega)
    rw [Int.neg_tmod] at this
    omega
  have h := mnumber_ev n b
  rw [if_neg (by omega)] at h
  generalize n.tmod b = x at *
  have hw : IntKind.i64.wrap (x + b) = x + b := by rw [wrap_i64]; omega
  rw [hw] at h
  have h3 : 0 ≤ x + b := by omega
  have h4 := Int.tmod_nonneg (b : Int) h3
  have h5 := Int.tmod_lt_of_pos (x + b) (show (0 : Int) < b by omega)
  refine ⟨((x + b).tmod b).toNat, by omega, ?_⟩
  rw [h]
  congr 3
  omega
end Go.Ev.S
/- Numbers one by one; a pair, a name out of them. -/
namespace Go.Ev.S
open Go Go.Proofs Go.Ev
/-- A row of numbers, and how many of them are gone. -/
def seqD (nil : Bool) (zs : List Int) (k : Nat) : List D := [.vsl nil (intsK .i64 zs) zs.length, .int .i64 k]
theorem intsK_at {k : IntKind} {l : List Int} {i : Nat} (h : i < l.length) : (intsK k l).drop i = .int k l[i] :: intsK k (l.drop (i + 1)) := by
  unfold intsK
  rw [← List.map_drop, List.drop_eq_getElem_cons h]
  rfl
@[simp] theorem intsK_len (k : IntKind) (l : List Int) : (intsK k l).length = l.length := by simp [intsK]
theorem seqD_free (nil : Bool) (zs : List Int) (k : Nat) : (∀ x, x ∈ seqD nil zs k → idFree x = true) = True := eq_true (by
  unfold seqD
  simp)
theorem seqD_len (nil : Bool) (zs : List Int) (k : Nat) : (seqD nil zs k).length = 2 := rfl
theorem seqD_cl (nil : Bool) (zs : List Int) (k n : Nat) : (∀ x, x ∈ seqD nil zs k → closed n x = true) = True := eq_true (by
  unfold seqD
  simp)
theorem numI_ev [MaxL] (n b : Int) (hb : 1 ≤ b) (hb2 : b ≤ 1000000) : ∃ x : Nat, (x : Int) < b ∧ call cx 41 [.int .i64 n, .int .i64 b] [] = some (.int .i64 x, []) := by
  obtain ⟨x, h1, h2⟩ := num_ev n b.toNat (by omega) (by omega)
  rw [show ((b.toNat : Nat) : Int) = b by omega] at h2
  exact ⟨x, by omega, h2⟩
theorem n_ev [MaxL] (nil : Bool) (zs : List Int) (hnil : nil = true → zs = []) (hz : zs.length ≤ 1000000) (k : Nat) (b : Int) (hb : 1 ≤ b) (hb2 : b ≤ 1000000) :
    ∃ x k' : Nat, (x : Int) < b ∧ (k < zs.length → k < k') ∧ call cx 21 [.optr 0 2 0, .int .i64 b] [some (seqD nil zs k)] = some (.int .i64 x, [some (seqD nil zs k')]) := by
  unfold seqD
  by_cases hlt : k < zs.length
  · have hnf : nil = false := by
      cases nil with
      | false => rfl
      | true => rw [hnil rfl] at hlt; simp at hlt
    subst hnf
    have hlt' : ¬ (zs.length : Int) ≤ (k : Int) := by omega
    have hlt2 : (k : Int) < (zs.length : Int) := by omega
    have hw : IntKind.i64.wrap ((k : Int) + 1) = ((k + 1 : Nat) : Int) := by rw [wrap_i64] <;> omega
    have hw2 : IntKind.i64.wrap (((k + 1 : Nat) : Int) - 1) = (k : Int) := by rw [wrap_i64] <;> omega
    have hw3 : IntKind.i64.wrap (k : Int) = (k : Int) := by rw [wrap_i64]; omega
    obtain ⟨x, hx, hn⟩ := numI_ev zs[k] b hb hb2
    refine ⟨x, k + 1, hx, fun _ => Nat.lt_succ_self k, ?_⟩
    refine call_run Tryz.func21 rfl ⟨rfl, rfl⟩ ?_
    simp [Tryz.f21, hlt', hw, hlt2, hw3, intsK_at hlt, hn]
  · have hlt' : (zs.length : Int) ≤ (k : Int) := by omega
    refine ⟨0, k, by omega, fun h => absurd h hlt, ?_⟩
    refine call_run Tryz.func21 rfl ⟨rfl, rfl⟩ ?_
    simp [Tryz.f21, hlt']
end Go.Ev.S
/- What goes together: plain, for any way marks are taken. -/
namespace Go.Ev
structure Lim where
  count : Int
  bytes : Int
  hard : Int
instance : Enc Lim := ⟨3, fun m => [.int .i64 m.count, .int .i64 m.bytes, .int .i64 m.hard], fun _ => rfl, fun _ => rfl⟩
@[simp] theorem Lim.cells (m : Lim) : Enc.cells m = [.int .i64 m.count, .int .i64 m.bytes, .int .i64 m.hard] := rfl
/-- What goes together so far. -/
structure BatS where
  items : List It
  fin : List Mk
  used : Nat
  bytes : Nat
def BatS.none : BatS := ⟨[], [], 0, 0⟩
section
variable (tc : List Mk → It → Int) (tl : List Mk → It → Bool → List Mk) (hd : List Pr → Bool) (sz : It → Nat) (lim : Lim)
def askedB (x : It) : Bool := x.gap || hd x.rc.fields.l
def overB (x : It) : Bool := askedB hd x && (!x.gap && decide (lim.hard < (sz x : Int)))
def goesB (x : It) : Bool := askedB hd x && !overB hd sz lim x
def stopB (s : BatS) (x : It) : Bool := goesB hd sz lim x && (decide ((s.items.length : Int) = lim.count) || (decide (0 < s.items.length) && decide (lim.bytes < (s.bytes : Int) + (sz x : Int))))
def stepB (s : BatS) (x : It) : BatS := ⟨if goesB hd sz lim x then s.items ++ [x] else s.items, tl s.fin x (overB hd sz lim x), s.used + 1, if goesB hd sz lim x then s.bytes + sz x else s.bytes⟩
def bldGo : List It → BatS → BatS × Int
  | [], s => (s, 0)
  | x :: l, s => if stopB hd sz lim s x then (s, 0) else if tc s.fin x ≠ 0 then (if s.used = 0 then (BatS.none, tc s.fin x) else (s, 0)) else bldGo l (stepB tl hd sz lim s x)
/-- The marks behind items. -/
def finB (l : List It) (f : List Mk) : List Mk := l.foldl (fun f x => tl f x (overB hd sz lim x)) f
def sumB (l : List It) : Nat := (l.map sz).sum
/-- What a batch is, that was begun with s, of n items of l more. -/
structure BldIs (l : List It) (s r : BatS) (n : Nat) : Prop where
  le : n ≤ l.length
  used : r.used = s.used + n
  items : r.items = s.items ++ (l.take n).filter (goesB hd sz lim)
  bytes : r.bytes = s.bytes + sumB sz ((l.take n).filter (goesB hd sz lim))
  fin : r.fin = finB tl hd sz lim (l.take n) s.fin
  stop : ∀ h : n < l.length, stopB hd sz lim r l[n] = true ∨ tc r.fin l[n] ≠ 0
  went : ∀ k (_ : k < n) (h : k < l.length), tc (finB tl hd sz lim (l.take k) s.fin) l[k] = 0
theorem bldGo_is : ∀ (l : List It) (s : BatS), (bldGo tc tl hd sz lim l s).2 = 0 → ∃ n, BldIs tc tl hd sz lim l s (bldGo tc tl hd sz lim l s).1 n
  | [], s, _ => ⟨0, Nat.le_refl _, rfl, by simp [bldGo], by simp [bldGo, sumB], rfl, fun h => absurd h (Nat.not_lt_zero _), fun _ h _ => absurd h (Nat.not_lt_zero _)⟩
  | x :: l, s, h => by
    unfold bldGo at h ⊢
    by_cases h1 : stopB hd sz lim s x = true
    · rw [if_pos h1] at h ⊢
      exact ⟨0, Nat.zero_le _, rfl, by simp, by simp [sumB], rfl, fun _ => .inl h1, fun _ h _ => absurd h (Nat.not_lt_zero _)⟩
    · rw [if_neg h1] at h ⊢
      by_cases h2 : tc s.fin x ≠ 0
      · rw [if_pos h2] at h ⊢
        by_cases h3 : s.used = 0
        · rw [if_pos h3] at h
          exact absurd h h2
        · rw [if_neg h3] at h ⊢
          exact ⟨0, Nat.zero_le _, rfl, by simp, by simp [sumB], rfl, fun _ => .inr h2, fun _ h _ => absurd h (Nat.not_lt_zero _)⟩
      · rw [if_neg h2] at h ⊢
        obtain ⟨n, i1, i2, i3, i4, i5, i6, i7⟩ := bldGo_is l _ h
        refine ⟨n + 1, by simpa using i1, by rw [i2]; show s.used + 1 + n = _; omega, ?_, ?_, ?_, fun hn => ?_, fun k hk hkl => ?_⟩
        · rw [i3, List.take_succ_cons, List.filter_cons]
          unfold stepB
          by_cases hg : goesB hd sz lim x = true
          · simp only [hg, if_true]
            rw [List.append_assoc]
            rfl
          · simp only [hg, if_false, Bool.false_eq_true]
        · rw [i4, List.take_succ_cons, List.filter_cons]
          unfold stepB
          by_cases hg : goesB hd sz lim x = true
          · simp only [hg, if_true, sumB, List.map_cons, List.sum_cons]
            omega
          · simp only [hg, if_false, Bool.false_eq_true]
        · rw [i5, List.take_succ_cons]
          rfl
        · exact i6 (by simpa using hn)
        · cases k with
          | zero => exact Decidable.not_not.1 h2
          | succ k => exact i7 k (by omega) (by simpa using hkl)
/-- A batch is small. -/
theorem bldGo_small : ∀ (l : List It) (s : BatS), (bldGo tc tl hd sz lim l s).2 = 0 → (s.items.length : Int) ≤ lim.count → (s.items.length ≤ 1 ∨ (s.bytes : Int) ≤ lim.bytes) →
    ((bldGo tc tl hd sz lim l s).1.items.length : Int) ≤ lim.count ∧ ((bldGo tc tl hd sz lim l s).1.items.length ≤ 1 ∨ ((bldGo tc tl hd sz lim l s).1.bytes : Int) ≤ lim.bytes)
  | [], s, _, h1, h2 => ⟨h1, h2⟩
  | x :: l, s, h, h1, h2 => by
    unfold bldGo at h ⊢
    by_cases h3 : stopB hd sz lim s x = true
    · rw [if_pos h3]
      exact ⟨h1, h2⟩
    · rw [if_neg h3] at h ⊢
      by_cases h4 : tc s.fin x ≠ 0
      · rw [if_pos h4] at h ⊢
        by_cases h5 : s.used = 0
        · rw [if_pos h5] at h
          exact absurd h h4
        · rw [if_neg h5]
          exact ⟨h1, h2⟩
      · rw [if_neg h4] at h ⊢
        refine bldGo_small l _ h ?_ ?_
        · unfold stepB
          by_cases hg : goesB hd sz lim x = true
          · simp only [hg, if_true, List.length_append, List.length_singleton]
            unfold stopB at h3
            simp [hg] at h3
            omega
          · simp only [hg, if_false, Bool.false_eq_true]
            exact h1
        · unfold stepB
          by_cases hg : goesB hd sz lim x = true
          · simp only [hg, if_true, List.length_append, List.length_singleton]
            unfold stopB at h3
            simp [hg] at h3
            by_cases h0 : s.items.length = 0
            · exact .inl (by omega)
            · have := h3.2 (by omega)
              refine .inr ?_
              omega
          · simp only [hg, if_false, Bool.false_eq_true]
            exact h2
theorem bldGo_code : ∀ (l : List It) (s : BatS), (bldGo tc tl hd sz lim l s).2 ≠ 0 → s.used = 0 ∧ ∃ x l', l = x :: l' ∧ tc s.fin x ≠ 0 ∧ stopB hd sz lim s x = false ∧ bldGo tc tl hd sz lim l s = (BatS.none, tc s.fin x)
  | [], s, h => absurd rfl h
  | x :: l, s, h => by
    unfold bldGo at h
    by_cases h1 : stopB hd sz lim s x = true
    · rw [if_pos h1] at h
      exact absurd rfl h
    · rw [if_neg h1] at h
      by_cases h2 : tc s.fin x ≠ 0
      · rw [if_pos h2] at h
        by_cases h3 : s.used = 0
        · refine ⟨h3, x, l, rfl, h2, by simpa using h1, ?_⟩
          unfold bldGo
          rw [if_neg h1, if_pos h2, if_pos h3]
        · rw [if_neg h3] at h
          exact absurd rfl h
      · rw [if_neg h2] at h
        have := (bldGo_code l _ h).1
        exact absurd this (Nat.succ_ne_zero _)
/-- Each item goes on from the marks behind those ahead of it. -/
def GoesI (l : List It) (f : List Mk) : Prop := ∀ n (h : n < l.length), tc (finB tl hd sz lim (l.take n) f) l[n] = 0
theorem finB_app (a b : List It) (f : List Mk) : finB tl hd sz lim (a ++ b) f = finB tl hd sz lim b (finB tl hd sz lim a f) := by
  unfold finB
  rw [List.foldl_append]
theorem goesI_drop {l : List It} {f : List Mk} (h : GoesI tc tl hd sz lim l f) (k : Nat) : GoesI tc tl hd sz lim (l.drop k) (finB tl hd sz lim (l.take k) f) := by
  intro n hn
  rw [List.length_drop] at hn
  have := h (k + n) (by omega)
  rw [← finB_app, ← List.take_add, List.getElem_drop]
  exact this
theorem bld_goes {l : List It} {f : List Mk} (h : GoesI tc tl hd sz lim l f) (hc : 1 ≤ lim.count) : (bldGo tc tl hd sz lim l ⟨[], f, 0, 0⟩).2 = 0 ∧ ∃ n, BldIs tc tl hd sz lim l ⟨[], f, 0, 0⟩ (bldGo tc tl hd sz lim l ⟨[], f, 0, 0⟩).1 n ∧ (∀ h : n < l.length, stopB hd sz lim (bldGo tc tl hd sz lim l ⟨[], f, 0, 0⟩).1 l[n] = true) ∧ (0 < l.length → 1 ≤ n) := by
  have h0 : (bldGo tc tl hd sz lim l ⟨[], f, 0, 0⟩).2 = 0 := by
    by_cases hz : (bldGo tc tl hd sz lim l ⟨[], f, 0, 0⟩).2 = 0
    · exact hz
    · obtain ⟨-, x, l', rfl, h2, -⟩ := bldGo_code tc tl hd sz lim l _ hz
      have := h 0 (by simp)
      exact absurd this h2
  obtain ⟨n, hn⟩ := bldGo_is tc tl hd sz lim l _ h0
  have hst : ∀ h : n < l.length, stopB hd sz lim (bldGo tc tl hd sz lim l ⟨[], f, 0, 0⟩).1 l[n] = true := by
    intro hl
    rcases hn.stop hl with h1 | h1
    · exact h1
    · rw [hn.fin] at h1
      exact absurd (h n hl) h1
  refine ⟨h0, n, hn, hst, fun hl => ?_⟩
  by_cases hn0 : n = 0
  · subst hn0
    have h1 := hst hl
    unfold stopB at h1
    rw [hn.items] at h1
    simp at h1
    omega
  · omega
/-- Where there is room for all, all are used. -/
theorem bld_whole {l : List It} {f : List Mk} (h : GoesI tc tl hd sz lim l f) (hc : (l.length : Int) < lim.count) (hb : (sumB sz l : Int) ≤ lim.bytes) : ∃ r, bldGo tc tl hd sz lim l ⟨[], f, 0, 0⟩ = (r, 0) ∧ r.used = l.length ∧ r.items = l.filter (goesB hd sz lim) ∧ r.fin = finB tl hd sz lim l f := by
  obtain ⟨h0, n, hn, hst, -⟩ := bld_goes tc tl hd sz lim h (by omega)
  have hnl : n = l.length := by
    have hle := hn.le
    by_cases hlt : n < l.length
    · have h1 := hst hlt
      have hi : (bldGo tc tl hd sz lim l ⟨[], f, 0, 0⟩).1.items.length ≤ n := by
        rw [hn.items, List.nil_append]
        exact Nat.le_trans (List.length_filter_le _ _) (by rw [List.length_take]; omega)
      have hs : (bldGo tc tl hd sz lim l ⟨[], f, 0, 0⟩).1.bytes + sz l[n] ≤ sumB sz l := by
        rw [hn.bytes, Nat.zero_add]
        have e : l = l.take n ++ (l[n] :: l.drop (n + 1)) := by rw [← List.drop_eq_getElem_cons hlt, List.take_append_drop]
        have e2 : sumB sz l = sumB sz (l.take n) + (sz l[n] + sumB sz (l.drop (n + 1))) := by
          conv => lhs; rw [e]
          simp only [sumB, List.map_append, List.map_cons, List.sum_append, List.sum_cons]
        have e3 : ∀ (q : It → Bool) (a : List It), sumB sz (a.filter q) ≤ sumB sz a := by
          intro q a
          induction a with
          | nil => exact Nat.le_refl _
          | cons y a ih =>
            rw [List.filter_cons]
            unfold sumB at ih ⊢
            split
            · simp only [List.map_cons, List.sum_cons]
              omega
            · simp only [List.map_cons, List.sum_cons]
              omega
        have := e3 (goesB hd sz lim) (l.take n)
        omega
      unfold stopB at h1
      simp at h1
      omega
    · omega
  subst hnl
  refine ⟨_, Prod.ext rfl h0, by rw [hn.used, Nat.zero_add], ?_, ?_⟩
  · rw [hn.items, List.take_length, List.nil_append]
  · rw [hn.fin, List.take_length]
end
/-- Two ways of taking that are the same. -/
theorem bld_same2 {tc rc : List Mk → It → Int} {tl rl : List Mk → It → Bool → List Mk} {hd : List Pr → Bool} {sz : It → Nat} {lim : Lim} {G : List Mk → Prop} {O : It → Prop} (hc : ∀ f x, G f → O x → tc f x = rc f x) (hl : ∀ f x o, G f → O x → tc f x = 0 → tl f x o = rl f x o ∧ G (tl f x o)) :
    ∀ (l : List It) (s : BatS), G s.fin → (∀ x ∈ l, O x) → bldGo tc tl hd sz lim l s = bldGo rc rl hd sz lim l s
  | [], _, _, _ => rfl
  | x :: l, s, hs, ho => by
    have hx := ho x (List.mem_cons_self ..)
    unfold bldGo
    rw [← hc s.fin x hs hx]
    split
    · rfl
    · by_cases h0 : tc s.fin x = 0
      · obtain ⟨h1, h2⟩ := hl s.fin x (overB hd sz lim x) hs hx h0
        have e : stepB tl hd sz lim s x = stepB rl hd sz lim s x := by
          unfold stepB
          rw [h1]
        rw [if_neg (fun h => h h0), if_neg (fun h => h h0), ← e]
        exact bld_same2 hc hl l _ h2 fun y hy => ho y (List.mem_cons_of_mem _ hy)
      · rw [if_pos h0, if_pos h0]
theorem over_hard {hd : List Pr → Bool} {sz : It → Nat} {lim lim' : Lim} (h : lim.hard = lim'.hard) : overB hd sz lim = overB hd sz lim' := by
  funext x
  unfold overB
  rw [h]
theorem goes_hard {hd : List Pr → Bool} {sz : It → Nat} {lim lim' : Lim} (h : lim.hard = lim'.hard) : goesB hd sz lim = goesB hd sz lim' := by
  funext x
  unfold goesB
  rw [over_hard h]
theorem fin_hard {tl : List Mk → It → Bool → List Mk} {hd : List Pr → Bool} {sz : It → Nat} {lim lim' : Lim} (h : lim.hard = lim'.hard) (l : List It) (f : List Mk) : finB tl hd sz lim l f = finB tl hd sz lim' l f := by
  unfold finB
  rw [over_hard h]
end Go.Ev
/- What is asked, limits: what arguments of these types are. -/
namespace Go.Ev.S
open Go Go.Proofs Go.Ev
theorem has_Str {n : Nat} {cs : List D} (h : HasT Tryz.prog (n + 1) 9 cs) : ∃ a : Str, cs = Enc.cells a ∧ a.s.length ≤ maxLen := by
  obtain ⟨s, rfl, h2⟩ := has_str un9 h
  exact ⟨⟨s⟩, rfl, h2⟩
theorem has_Alt {n : Nat} {cs : List D} (h : HasT Tryz.prog (n + 2 + 1) 68 cs) : ∃ a : Alt, cs = Enc.cells a ∧ a.name.length ≤ maxLen := by
  have h := has_struct (P := Tryz.prog) (n := n + 2) (t := 68) Tryz.underlying68 h
  simp only [HasFs] at h
  obtain ⟨a, b, rfl, -, ha, c, d, rfl, -, hc, rfl⟩ := h
  obtain ⟨x1, rfl, w1⟩ := has_str un9 ha
  obtain ⟨s, rfl, s1, s2⟩ := has_slice (α := Str) un66 (fun l => has_Str) hc
  exact ⟨⟨x1, s⟩, by simp [Alt.cells], w1⟩
theorem has_Row {n : Nat} {cs : List D} (h : HasT Tryz.prog (n + 3 + 1) 29 cs) : ∃ r : Row, cs = Enc.cells r ∧ ∀ a ∈ r.r.l, a.name.length ≤ maxLen := by
  obtain ⟨s, rfl, s1, s2⟩ := has_slice (α := Alt) un29 (fun l => has_Alt) h
  exact ⟨⟨s⟩, rfl, s2⟩
theorem has_Mat {n : Nat} {cs : List D} (h : HasT Tryz.prog (n + 5 + 1) 24 cs) : ∃ m : Mat, cs = Enc.cells m ∧ ∀ r ∈ m.rows.l, ∀ a ∈ r.r.l, a.name.length ≤ maxLen := by
  have h := has_struct (P := Tryz.prog) (n := n + 5) (t := 24) Tryz.underlying24 h
  simp only [HasFs] at h
  obtain ⟨a, b, rfl, -, ha, rfl⟩ := h
  obtain ⟨s, rfl, s1, s2⟩ := has_slice (α := Row) un22 (fun l => has_Row) ha
  exact ⟨⟨s⟩, by simp, s2⟩
theorem has_Lim {n : Nat} {cs : List D} (h : HasT Tryz.prog (n + 1 + 1) 26 cs) : ∃ m : Lim, cs = Enc.cells m ∧ (isI64 m.count ∧ isI64 m.bytes ∧ isI64 m.hard) := by
  have h := has_struct (P := Tryz.prog) (n := n + 1) (t := 26) Tryz.underlying26 h
  simp only [HasFs] at h
  obtain ⟨a, b, rfl, -, ha, c, d, rfl, -, hc, e, f, rfl, -, he, rfl⟩ := h
  obtain ⟨x1, rfl, w1⟩ := has_i64 un3 ha
  obtain ⟨x2, rfl, w2⟩ := has_i64 un3 hc
  obtain ⟨x3, rfl, w3⟩ := has_i64 un3 he
  exact ⟨⟨x1, x2, x3⟩, by simp, w1, w2, w3⟩
end Go.Ev.S
/- Names, limits, what is asked out of numbers. -/
namespace Go.Ev.S
open Go Go.Proofs Go.Ev
def nameG : List UInt8 → Nat → Bool
  | [], _ => true
  | c :: l, k => (nameC c && (decide (0 < k) || !digC c)) && nameG l (k + 1)
theorem nameG_pos : ∀ (l : List UInt8) (k : Nat), 0 < k → nameG l k = l.all nameC
  | [], _, _ => rfl
  | c :: l, k, h => by rw [nameG, nameG_pos l (k + 1) (by omega)]; simp [h]
theorem nameOk_G (s : List UInt8) : nameOk s = (nameG s 0 && (decide (1 ≤ s.length) && decide (s.length ≤ 64))) := by
  cases s with
  | nil => rfl
  | cons c l =>
    rw [nameOk, nameG, nameG_pos l 1 (by omega), List.all_cons]
    simp
    cases nameC c <;> cases digC c <;> cases l.all nameC <;> simp
set_option maxHeartbeats 4000000 in
theorem rname_evX [MaxL] (s : List UInt8) (_ : s.length ≤ 9223372036854775807) : call cx 20 [.str s] [] = some (.bool (nameOk s), []) := by
  refine call_run Tryz.func20 rfl ⟨rfl, rfl⟩ ?_
  rw [nameOk_G]
  obtain ⟨r, hr⟩ : ∃ r, (nameG s 0 && (decide (1 ≤ s.length) && decide (s.length ≤ 64))) = r := ⟨_, rfl⟩
  rw [hr]
  simp [Tryz.f20]
  refine Run.loopThen (fun (k : Nat) e H' => k ≤ s.length ∧ (nameG (s.drop k) k && (decide (1 ≤ s.length) && decide (s.length ≤ 64))) = r ∧ look e 0 = some (.str s) ∧ look e 3 = some (.int .i64 k) ∧ H' = []) (fun k => s.length - k) 0 ?_ ?_
  · simpa using hr
  rintro k e H' ⟨hk, hR, k0, k3, rfl⟩
  by_cases hlt : k < s.length
  · have hlt' : (k : Int) < (s.length : Int) := by omega
    have hw : IntKind.i64.wrap ((k : Int) + 1) = ((k + 1 : Nat) : Int) := by rw [wrap_i64] <;> omega
    have hat : s[k]? = some s[k] := List.getElem?_eq_getElem hlt
    rw [List.drop_eq_getElem_cons hlt, nameG] at hR
    generalize s[k] = c at *
    have hnx : (nameC c && (decide (0 < k) || !digC c)) = true → ∃ j : Nat, s.length - j < s.length - k ∧ j ≤ s.length ∧ (nameG (s.drop j) j && (decide (1 ≤ s.length) && decide (s.length ≤ 64))) = r ∧ (j : Int) = (k : Int) + 1 := fun h => ⟨k + 1, by omega, by omega, by rw [h, Bool.true_and] at hR; exact hR, by omega⟩
    have hno : (nameC c && (decide (0 < k) || !digC c)) = false → r = false := fun h => by rw [h, Bool.false_and, Bool.false_and] at hR; exact hR.symm
    cases hb : (nameC c && (decide (0 < k) || !digC c)) with
    | true =>
      obtain ⟨j, j1, j2, j3, j4⟩ := hnx hb
      simp [nameC, digC] at hb
      by_cases h1 : (48 : Int) ≤ (c.toNat : Int) <;> by_cases h2 : (c.toNat : Int) ≤ 57 <;> rcases (show ((k = 0) = True ∧ (0 < k) = False) ∨ ((k = 0) = False ∧ (0 < k) = True) by by_cases hk0 : k = 0; exact .inl ⟨eq_true hk0, eq_false (by omega)⟩; exact .inr ⟨eq_false hk0, eq_true (by omega)⟩) with ⟨h3, h3'⟩ | ⟨h3, h3'⟩ <;> by_cases h4 : (65 : Int) ≤ (c.toNat : Int) <;> by_cases h5 : (c.toNat : Int) ≤ 90 <;> by_cases h6 : (c.toNat : Int) = 95 <;> try (exfalso; simp at h3; omega)
      all_goals simp [k0, k3, hlt', hat, hw, h1, h2, h3', h4, h5, h6]
      all_goals exact ⟨j, j1, j2, j3, by omega⟩
    | false =>
      have := hno hb
      subst this
      simp [nameC, digC] at hb
      by_cases h1 : (48 : Int) ≤ (c.toNat : Int) <;> by_cases h2 : (c.toNat : Int) ≤ 57 <;> rcases (show ((k = 0) = True ∧ (0 < k) = False) ∨ ((k = 0) = False ∧ (0 < k) = True) by by_cases hk0 : k = 0; exact .inl ⟨eq_true hk0, eq_false (by omega)⟩; exact .inr ⟨eq_false hk0, eq_true (by omega)⟩) with ⟨h3, h3'⟩ | ⟨h3, h3'⟩ <;> by_cases h4 : (65 : Int) ≤ (c.toNat : Int) <;> by_cases h5 : (c.toNat : Int) ≤ 90 <;> by_cases h6 : (c.toNat : Int) = 95 <;> try (exfalso; simp at h3; omega)
      all_goals simp [k0, k3, hlt', hat, h1, h2, h3', h4, h5, h6]
  · have hlt' : ¬ (k : Int) < (s.length : Int) := by omega
    rw [List.drop_eq_nil_of_le (by omega), nameG, Bool.true_and] at hR
    by_cases h1 : 1 ≤ s.length
    · have h1' : (1 : Int) ≤ (s.length : Int) := by omega
      by_cases h2 : s.length ≤ 64
      · have h2' : (s.length : Int) ≤ 64 := by omega
        simp only [h1, h2, decide_true, Bool.and_self] at hR
        subst hR
        simp [k0, k3, hlt', h1', h2']
      · have h2' : ¬ (s.length : Int) ≤ 64 := by omega
        simp only [h1, h2, decide_true, decide_false, Bool.and_false] at hR
        subst hR
        simp [k0, k3, hlt', h1', h2']
    · have h1' : ¬ (1 : Int) ≤ (s.length : Int) := by omega
      simp only [h1, decide_false, Bool.false_and] at hR
      subst hR
      simp [k0, k3, hlt', h1']
def limOk (lim : Lim) : Bool := (decide (1 ≤ lim.count) && decide (lim.count ≤ 64)) && ((decide (1 ≤ lim.bytes) && decide (lim.bytes ≤ 32768)) && (decide (1 ≤ lim.hard) && decide (lim.hard ≤ 16384)))
theorem blim_ev [MaxL] (m : Lim) : call cx 18 [.agg [.int .i64 m.count, .int .i64 m.bytes, .int .i64 m.hard]] [] = some (.bool (limOk m), []) := by
  obtain ⟨a, b, c⟩ := m
  refine call_run Tryz.func18 rfl ⟨rfl, rfl⟩ ?_
  unfold limOk
  simp only
  by_cases hal : 1 ≤ a
  case neg => simp [Tryz.f18, hal]
  by_cases hah : a ≤ 64
  case neg => simp [Tryz.f18, hal, hah]
  by_cases hbl : 1 ≤ b
  case neg => simp [Tryz.f18, hal, hah, hbl]
  by_cases hbh : b ≤ 32768
  case neg => simp [Tryz.f18, hal, hah, hbl, hbh]
  by_cases hcl : 1 ≤ c
  case neg => simp [Tryz.f18, hal, hah, hbl, hbh, hcl]
  by_cases hch : c ≤ 16384
  case neg => simp [Tryz.f18, hal, hah, hbl, hbh, hcl, hch]
  simp [Tryz.f18, hal, hah, hbl, hbh, hcl, hch]
theorem rlim_ev [MaxL] (m : Lim) : call cx 7 [.agg [.int .i64 m.count, .int .i64 m.bytes, .int .i64 m.hard]] [] = some (.bool (limOk m), []) := by
  obtain ⟨a, b, c⟩ := m
  refine call_run Tryz.func7 rfl ⟨rfl, rfl⟩ ?_
  unfold limOk
  simp only
  by_cases hal : 1 ≤ a
  case neg => simp [Tryz.f7, hal]
  by_cases hah : a ≤ 64
  case neg => simp [Tryz.f7, hal, hah]
  by_cases hbl : 1 ≤ b
  case neg => simp [Tryz.f7, hal, hah, hbl]
  by_cases hbh : b ≤ 32768
  case neg => simp [Tryz.f7, hal, hah, hbl, hbh]
  by_cases hcl : 1 ≤ c
  case neg => simp [Tryz.f7, hal, hah, hbl, hbh, hcl]
  by_cases hch : c ≤ 16384
  case neg => simp [Tryz.f7, hal, hah, hbl, hbh, hcl, hch]
  simp [Tryz.f7, hal, hah, hbl, hbh, hcl, hch]
def strsS (l : List (List UInt8)) : Sl Str := .of (l.map Str.mk)
def wordA : List (List UInt8) := [[65, 61], [65, 61, 48], [65, 61, 49], [65, 61, 50, 50], [65, 61, 97, 61, 98], [65, 61, 111, 110, 101, 10, 116, 119, 111], [65, 61, 116, 97, 98, 9, 104, 101, 114, 101], [65, 61, 0, 255], [43], [77, 69, 83, 83, 65, 71, 69, 61, 48], [77, 69, 83, 83, 65, 71, 69, 61, 49], [66, 61, 50, 50], [66, 61]]
def altA : Alt := ⟨[65], strsS [[], [0, 255], [48], [49], [50, 50], [97, 61, 98], [111, 110, 101, 10, 116, 119, 111], [116, 97, 98, 9, 104, 101, 114, 101]]⟩
def altB : Alt := ⟨[66], strsS [[], [50, 50]]⟩
def altM : Alt := ⟨[77, 69, 83, 83, 65, 71, 69], strsS [[48], [49]]⟩
def altP : Alt := ⟨[80, 82, 73, 79, 82, 73, 84, 89], strsS [[110, 111]]⟩
/-- The five that are asked for. -/
def asksL : Nat → List Row
  | 2 => [⟨.of [altA]⟩]
  | 3 => [⟨.of [altA]⟩, ⟨.of [altB, altM]⟩]
  | 4 => [⟨.of [altP]⟩]
  | _ => []
def asksM (i : Nat) : Mat := ⟨Sl.grown (asksL i)⟩
theorem asks_b (i : Nat) : MatC (asksM i).rows.l := by
  unfold asksM MatC
  rw [Sl.grown_l]
  match i with
  | 0 => simp [asksL]
  | 1 => simp [asksL]
  | 2 => simp [asksL, altA, strsS]
  | 3 => simp [asksL, altA, altB, altM, strsS]
  | 4 => simp [asksL, altP, strsS]
  | _ + 5 => simp [asksL]
theorem asks_ok : ∀ i < 5, matOk (asksM i).rows.l = true := by decide
def askD (l : List (List UInt8)) : D := .vsl l.isEmpty (l.map D.str) l.length
def askW : Nat → List (List UInt8)
  | 2 => wordA.take 8
  | 3 => wordA
  | 4 => [[80, 82, 73, 79, 82, 73, 84, 89, 61, 110, 111]]
  | _ => []
set_option maxRecDepth 100000 in
theorem compile_ev0 [MaxL] : call cx 42 [.vsl true [] 0] [] = some (.tup [.agg [.vsl true [] 0], .int .i64 0], []) := call_some.2 ⟨200, by kernel_rfl⟩
set_option maxRecDepth 100000 in
theorem compile_ev2 [MaxL] : call cx 42 [.vsl false [.str [65, 61], .str [65, 61, 48], .str [65, 61, 49], .str [65, 61, 50, 50], .str [65, 61, 97, 61, 98], .str [65, 61, 111, 110, 101, 10, 116, 119, 111], .str [65, 61, 116, 97, 98, 9, 104, 101, 114, 101], .str [65, 61, 0, 255]] 8] [] = some (.tup [.agg [.vsl false (encs (asksL 2)) 1], .int .i64 0], []) := call_some.2 ⟨2000, by kernel_rfl⟩
set_option maxRecDepth 100000 in
theorem compile_ev3 [MaxL] : call cx 42 [.vsl false [.str [65, 61], .str [65, 61, 48], .str [65, 61, 49], .str [65, 61, 50, 50], .str [65, 61, 97, 61, 98], .str [65, 61, 111, 110, 101, 10, 116, 119, 111], .str [65, 61, 116, 97, 98, 9, 104, 101, 114, 101], .str [65, 61, 0, 255], .str [43], .str [77, 69, 83, 83, 65, 71, 69, 61, 48], .str [77, 69, 83, 83, 65, 71, 69, 61, 49], .str [66, 61, 50, 50], .str [66, 61]] 13] [] = some (.tup [.agg [.vsl false (encs (asksL 3)) 2], .int .i64 0], []) := call_some.2 ⟨2000, by kernel_rfl⟩
set_option maxRecDepth 100000 in
theorem compile_ev4 [MaxL] : call cx 42 [.vsl false [.str [80, 82, 73, 79, 82, 73, 84, 89, 61, 110, 111]] 1] [] = some (.tup [.agg [.vsl false (encs (asksL 4)) 1], .int .i64 0], []) := call_some.2 ⟨2000, by kernel_rfl⟩
set_option maxHeartbeats 2000000 in
theorem asks_ev [MaxL] (nil : Bool) (zs : List Int) (hnil : nil = true → zs = []) (hz : zs.length ≤ 1000000) (k : Nat) :
    ∃ i k', i < 5 ∧ call cx 22 [.optr 0 2 0] [some (seqD nil zs k)] = some (.agg [(.vsl ((asksM i).rows).nil (encs ((asksM i).rows).l) ((asksM i).rows).l.length)], [some (seqD nil zs k')]) := by
  obtain ⟨x, k2, hx, -, c1⟩ := n_ev nil zs hnil hz k 5 (by decide) (by decide)
  have sf := seqD_free nil zs
  have sl := seqD_len nil zs
  have sc := seqD_cl nil zs
  refine ⟨x, k2, by omega, ?_⟩
  refine call_run Tryz.func22 rfl ⟨rfl, rfl⟩ ?_
  have e0 := compile_ev0
  have e2 := compile_ev2
  have e3 := compile_ev3
  have e4 := compile_ev4
  have l0 : (asksM 0).rows = Sl.none := rfl
  have l1 : (asksM 1).rows = Sl.none := rfl
  have l2 : (asksM 2).rows = .of (asksL 2) := rfl
  have l3 : (asksM 3).rows = .of (asksL 3) := rfl
  have l4 : (asksM 4).rows = .of (asksL 4) := rfl
  have n2 : (asksL 2).length = 1 := rfl
  have n3 : (asksL 3).length = 2 := rfl
  have n4 : (asksL 4).length = 1 := rfl
  generalize asksL 2 = r2 at *
  generalize asksL 3 = r3 at *
  generalize asksL 4 = r4 at *
  have hx5 : x = 0 ∨ x = 1 ∨ x = 2 ∨ x = 3 ∨ x = 4 := by omega
  rcases hx5 with rfl | rfl | rfl | rfl | rfl
  · simp [Tryz.f22, sf, sc, c1, e0, l0]
  · simp [Tryz.f22, sf, sc, c1, e0, l1]
  · simp [Tryz.f22, sf, sc, c1, e2, l2, n2]
  · simp [Tryz.f22, sf, sc, c1, e3, l3, n3]
  · simp [Tryz.f22, sf, sc, c1, e4, l4, n4]
theorem four1 {x : Nat} (h : x < 4) : ∃ v r, List.drop x [D.int .i64 1, .int .i64 300, .int .i64 900, .int .i64 32768] = D.int .i64 v :: r ∧ 1 ≤ v ∧ v ≤ 32768 := by
  have h4 : x = 0 ∨ x = 1 ∨ x = 2 ∨ x = 3 := by omega
  rcases h4 with rfl | rfl | rfl | rfl
  · exact ⟨1, _, rfl, by decide, by decide⟩
  · exact ⟨300, _, rfl, by decide, by decide⟩
  · exact ⟨900, _, rfl, by decide, by decide⟩
  · exact ⟨32768, _, rfl, by decide, by decide⟩
theorem four2 {x : Nat} (h : x < 4) : ∃ v r, List.drop x [D.int .i64 300, .int .i64 350, .int .i64 500, .int .i64 16384] = D.int .i64 v :: r ∧ 1 ≤ v ∧ v ≤ 16384 := by
  have h4 : x = 0 ∨ x = 1 ∨ x = 2 ∨ x = 3 := by omega
  rcases h4 with rfl | rfl | rfl | rfl
  · exact ⟨300, _, rfl, by decide, by decide⟩
  · exact ⟨350, _, rfl, by decide, by decide⟩
  · exact ⟨500, _, rfl, by decide, by decide⟩
  · exact ⟨16384, _, rfl, by decide, by decide⟩
theorem limits_ev [MaxL] (nil : Bool) (zs : List Int) (hnil : nil = true → zs = []) (hz : zs.length ≤ 1000000) (k : Nat) :
    ∃ (lim : Lim) (k' : Nat), limOk lim = true ∧ call cx 23 [.optr 0 2 0] [some (seqD nil zs k)] = some (.agg [.int .i64 lim.count, .int .i64 lim.bytes, .int .i64 lim.hard], [some (seqD nil zs k')]) := by
  obtain ⟨x1, k2, h1, -, c1⟩ := n_ev nil zs hnil hz k 5 (by decide) (by decide)
  obtain ⟨x2, k3, h2, -, c2⟩ := n_ev nil zs hnil hz k2 4 (by decide) (by decide)
  obtain ⟨x3, k4, h3, -, c3⟩ := n_ev nil zs hnil hz k3 4 (by decide) (by decide)
  have sf := seqD_free nil zs
  have sl := seqD_len nil zs
  have sc := seqD_cl nil zs
  obtain ⟨v2, r2, d2, d3, d4⟩ := four1 (x := x2) (by omega)
  obtain ⟨v3, r3, g2, g3, g4⟩ := four2 (x := x3) (by omega)
  have hw : IntKind.i64.wrap ((x1 : Int) + 1) = (x1 : Int) + 1 := by rw [wrap_i64] <;> omega
  have i2 : (x2 : Int) < 4 := by omega
  have i3 : (x3 : Int) < 4 := by omega
  have j2 : x2 < 4 := by omega
  have j3 : x3 < 4 := by omega
  refine ⟨⟨(x1 : Int) + 1, v2, v3⟩, k4, ?_, ?_⟩
  · unfold limOk
    simp only [Bool.and_eq_true, decide_eq_true_eq]
    omega
  · refine call_run Tryz.func23 rfl ⟨rfl, rfl⟩ ?_
    simp [Tryz.f23, sf, sc, c1, c2, c3, d2, g2, i2, i3, hw]
end Go.Ev.S
/- An agent is made. -/
namespace Go.Ev.S
open Go Go.Proofs Go.Ev
def sndD (f m : Int) : List D := [.int .i64 f, .int .i64 m, .vsl true [] 0, .bool false, .int .i64 0, .int .i64 0, .int .i64 0]
def sndOk (f m : Int) : Bool := decide (1 ≤ f) && (decide (m ≤ 1000) && decide (f ≤ m))
theorem sender_ok [MaxL] {f m : Int} (h : sndOk f m = true) : call cx 16 [.int .i64 f, .int .i64 m] [] = some (.tup [.optr 0 7 0, .int .i64 0], [some (sndD f m)]) := by
  unfold sndOk at h
  simp only [Bool.and_eq_true, decide_eq_true_eq] at h
  obtain ⟨h1, h2, h3⟩ := h
  have h1' : ¬ f < 1 := by omega
  have h2' : ¬ 1000 < m := by omega
  have h3' : ¬ m < f := by omega
  refine call_run Tryz.func16 rfl ⟨rfl, rfl⟩ ?_
  simp [Tryz.f16, h1', h2', h3', sndD]
theorem sender_bad [MaxL] {f m : Int} (h : sndOk f m = false) : call cx 16 [.int .i64 f, .int .i64 m] [] = some (.tup [.nilp, .int .i64 1], []) := by
  unfold sndOk at h
  refine call_run Tryz.func16 rfl ⟨rfl, rfl⟩ ?_
  by_cases h1 : f < 1
  · simp [Tryz.f16, h1]
  by_cases h2 : 1000 < m
  · simp [Tryz.f16, h1, h2]
  by_cases h3 : m < f
  · simp [Tryz.f16, h1, h2, h3]
  · exfalso
    have a : 1 ≤ f := by omega
    have b : m ≤ 1000 := by omega
    have c : f ≤ m := by omega
    simp [a, b, c] at h
theorem vals_le : ∀ {l : List Alt} {a : Alt}, a ∈ l → a.vals.l.length ≤ wordsA l
  | [], _, h => by cases h
  | b :: l, a, h => by
    rw [wordsA_cons]
    rcases List.mem_cons.1 h with rfl | h
    · omega
    · have := vals_le h; omega
theorem valsR_le : ∀ {l : List Row} {r : Row} {a : Alt}, r ∈ l → a ∈ r.r.l → a.vals.l.length ≤ wordsR l
  | [], _, _, h, _ => by cases h
  | b :: l, r, a, h, ha => by
    rw [wordsR_cons]
    rcases List.mem_cons.1 h with rfl | h
    · have := vals_le ha; omega
    · have := valsR_le h ha; omega
/-- What is asked is small enough to be copied. -/
def CpB (l : List Row) : Prop := l.length ≤ 5 ∧ ∀ r ∈ l, r.r.l.length ≤ 20 ∧ ∀ a ∈ r.r.l, a.vals.l.length ≤ 32
theorem cpB_of {l : List Row} (h : MatC l) (ho : matOk l = true) : CpB l := by
  unfold matOk at ho
  simp only [Bool.and_eq_true, decide_eq_true_eq] at ho
  exact ⟨h.1, fun r hr => ⟨(h.2 r hr).1, fun a ha => by have := valsR_le hr ha; omega⟩⟩
def CpQ (q : D × Heap) : Prop := ∃ nl xs k, q = (.agg [.vsl nl xs k], []) ∧ xs.all idFree = true
/-- The rows so far. -/
def CpO (R : List D) (H : Heap) : Prop := (R = [] ∧ H = [some [.vsl true [] 0], some [.vsl true [] 0]]) ∨ (R ≠ [] ∧ ∃ k, k = R.length ∧ H = [some [.vsl true [] 0], some [.osl 2 k 0 k 1], some R])
/-- The row so far. -/
def CpI (R L : List D) (j : Nat) (d : D) (H : Heap) : Prop :=
  (L = [] ∧ j = 0 ∧ d = .vsl true [] 0 ∧ CpO R H) ∨ (L ≠ [] ∧ ∃ n, n = L.length ∧ n = j * 2 ∧ d = .osl 2 n 0 j 2 ∧ ((R = [] ∧ H = [some [.vsl true [] 0], some [.vsl true [] 0], some L]) ∨ (R ≠ [] ∧ ∃ k, k = R.length ∧ H = [some [.vsl true [] 0], some [.osl 3 k 0 k 1], some L, some R])))
theorem stayL_iteA {k : D → Option (D × List Nat)} : ∀ {l : List D}, idFree.idFreeL l = true → stayL (fun x => if idFree x = true then some (x, []) else k x) l = some (l, [])
  | [], _ => rfl
  | d :: l, h => by
    simp only [idFree.idFreeL, Bool.and_eq_true] at h
    simp only [stayL, h.1, if_true, stayL_iteA h.2, List.append_nil]
theorem allA {L : List D} {x y : D} (h : L.all idFree = true) (hx : idFree x = true) (hy : idFree y = true) : ∀ z, z ∈ L ++ [x, y] → idFree z = true := by
  intro z hz
  rcases List.mem_append.1 hz with hz | hz
  · exact List.all_eq_true.1 h z hz
  · rcases List.mem_cons.1 hz with rfl | hz
    · exact hx
    · rw [List.mem_singleton.1 hz]; exact hy
theorem allA1 {L : List D} {x : D} (h : L.all idFree = true) (hx : idFree x = true) : ∀ z, z ∈ L ++ [x] → idFree z = true := by
  intro z hz
  rcases List.mem_append.1 hz with hz | hz
  · exact List.all_eq_true.1 h z hz
  · rw [List.mem_singleton.1 hz]; exact hx
theorem all_aI {R : List D} (h : R.all idFree = true) : (∀ x, x ∈ R → idFree x = true) = True := eq_true (List.all_eq_true.1 h)
theorem all_aL {R : List D} (h : R.all idFree = true) : idFree.idFreeL R = true := by rw [idFreeL_all]; exact h
theorem all_aC {R : List D} (h : R.all idFree = true) (n : Nat) : (∀ x, x ∈ R → closed n x = true) = True := eq_true fun x hx => closed_free n x (List.all_eq_true.1 h x hx)
set_option maxHeartbeats 4000000 in
theorem copied_ev [MaxL] (m : Mat) (hm : CpB m.rows.l) : ∃ q, call cx 19 [.agg [(.vsl m.rows.nil (encs m.rows.l) m.rows.l.length)]] [] = some q ∧ CpQ q := by
  obtain ⟨M⟩ := m
  simp only at hm ⊢
  obtain ⟨h5, hb⟩ := hm
  refine call_runE (X := cx) (f := 19) (args := [.agg [(.vsl M.nil (encs M.l) M.l.length)]]) (H := []) CpQ Tryz.func19 rfl ⟨rfl, rfl⟩ ?_
  simp [Tryz.f19]
  refine Run.loopThen (fun (i : Nat) e H => i ≤ M.l.length ∧ ∃ (e' : Env) (R : List D) (T : Heap), enter cx 19 0 3 e H = some (e', T) ∧ R.all idFree = true ∧ R.length = i ∧ CpO R T ∧ look e' 2 = some (.optr 0 1 0) ∧ look e' 3 = some (.optr 1 1 0) ∧ look e' 10 = some (.vsl M.nil (encs M.l) M.l.length) ∧ look e' 11 = some (.int .i64 M.l.length) ∧ look e' 12 = some (.int .i64 i)) (fun i => M.l.length - i) 0 ?_ ?_
  · refine ⟨Nat.zero_le _, ?_⟩
    simp
    exact ⟨_, [], _, ⟨rfl, rfl⟩, by simp, rfl, .inl ⟨rfl, rfl⟩, rfl, rfl, rfl, rfl, rfl⟩
  rintro i e H ⟨hi, e', R, T, hen, hRf, hRl, hO, p2, p3, p10, p11, p12⟩
  have rI := all_aI hRf
  have rL := all_aL hRf
  have rC := all_aC hRf
  by_cases hlt : i < M.l.length
  case neg =>
    have hlt' : ¬ (i : Int) < (M.l.length : Int) := by omega
    rcases hO with ⟨rfl, rfl⟩ | ⟨hR, k, hk, rfl⟩
    · simp [-en19_3, hen, p2, p3, p11, p12, hlt']
      exact ⟨_, _, _, rfl, rfl⟩
    · have hk' := hk.symm
      simp [-en19_3, hen, p2, p3, p11, p12, hlt', rL, hk']
      exact ⟨_, _, _, rfl, by rw [List.take_of_length_le (by omega)]; exact hRf⟩
  have hlt' : (i : Int) < (M.l.length : Int) := by omega
  have hwi : IntKind.i64.wrap ((i : Int) + 1) = ((i + 1 : Nat) : Int) := by rw [wrap_i64] <;> omega
  have hea := Row.ea hlt
  have hnn := Sl.nn hlt
  obtain ⟨b1, b2⟩ := hb _ (List.getElem_mem hlt)
  generalize M.l[i] = x at *
  obtain ⟨A⟩ := x
  simp only at b1 b2 hea
  rcases hO with ⟨hR0, rfl⟩ | ⟨hR, k, hk, rfl⟩
  all_goals
    simp [-en19_3, hen, p2, p3, p10, p11, p12, hlt', hnn, hea]
    refine Run.loopThen (fun (j : Nat) e H => j ≤ A.l.length ∧ ∃ (e' : Env) (L : List D) (d : D) (T : Heap), enter cx 19 0 7 e H = some (e', T) ∧ L.all idFree = true ∧ CpI R L j d T ∧ look e' 2 = some (.optr 0 1 0) ∧ look e' 3 = some (.optr 1 1 0) ∧ look e' 6 = some d ∧ look e' 10 = some (.vsl false (encs M.l) M.l.length) ∧ look e' 11 = some (.int .i64 M.l.length) ∧ look e' 12 = some (.int .i64 i) ∧ look e' 16 = some (.vsl A.nil (encs A.l) A.l.length) ∧ look e' 17 = some (.int .i64 A.l.length) ∧ look e' 18 = some (.int .i64 j)) (fun j => A.l.length - j) 0 ?_ ?_
    · refine ⟨Nat.zero_le _, ?_⟩
      simp [rL]
      first
        | exact ⟨_, [], _, _, ⟨rfl, rfl⟩, by simp, .inl ⟨rfl, rfl, rfl, .inl ⟨hR0, rfl⟩⟩, rfl, rfl, rfl, rfl, rfl, rfl, rfl, rfl, rfl⟩
        | exact ⟨_, [], _, _, ⟨rfl, rfl⟩, by simp, .inl ⟨rfl, rfl, rfl, .inr ⟨hR, k, hk, rfl⟩⟩, rfl, rfl, rfl, rfl, rfl, rfl, rfl, rfl, rfl⟩
    rintro j e2 H2 ⟨hj, e3, L, d, T, hen2, hLf, hI, q2, q3, q6, q10, q11, q12, q16, q17, q18⟩
    have lI := all_aI hLf
    have lL := all_aL hLf
    have lC := all_aC hLf
    by_cases hjt : j < A.l.length
    · have hjt' : (j : Int) < (A.l.length : Int) := by omega
      have hwj : IntKind.i64.wrap ((j : Int) + 1) = ((j + 1 : Nat) : Int) := by rw [wrap_i64] <;> omega
      have heb := Alt.ea hjt
      have hAn := Sl.nn hjt
      have b3 := b2 _ (List.getElem_mem hjt)
      generalize A.l[j] = a at *
      have htk : List.take a.vals.l.length (encs a.vals.l) = encs a.vals.l := List.take_of_length_le (by simp)
      have c1 : a.vals.l.length * 16 ≤ 140737488355328 := by omega
      have c2 : a.vals.l.length ≤ 140737488355328 := by omega
      have c3 : (j + 1) * 40 ≤ 140737488355328 := by omega
      have c4 : j + 1 ≤ 140737488355328 := by omega
      have hvs : ∃ v : D, idFree v = true ∧ v = if a.vals.l = [] then .vsl true [] 0 else .vsl false (encs a.vals.l) a.vals.l.length := ⟨_, by split <;> simp [idFree], rfl⟩
      rcases hI with ⟨rfl, rfl, rfl, hO2⟩ | ⟨hL, n, hn, hn2, rfl, hI⟩
      · rcases hO2 with ⟨hR1, rfl⟩ | ⟨hR1, k1, hk1, rfl⟩
        all_goals
          by_cases hv : a.vals.l = []
          all_goals
            simp [-en19_7, hen2, q2, q3, q6, q10, q11, q12, q16, q17, q18, hjt, hAn, heb, c1, c2, c3, c4, maxBytes, hv]
            try rw [htk]
            refine ⟨1, by omega, by omega, ?_⟩
            simp [rL]
            first
              | exact ⟨_, _, _, _, ⟨rfl, rfl⟩, by simp [idFree], .inr ⟨by simp, 2, rfl, rfl, rfl, .inl ⟨hR1, rfl⟩⟩, rfl, rfl, rfl, rfl, rfl, rfl, rfl, rfl, rfl⟩
              | exact ⟨_, _, _, _, ⟨rfl, rfl⟩, by simp [idFree], .inr ⟨by simp, 2, rfl, rfl, rfl, .inr ⟨hR1, k1, hk1, rfl⟩⟩, rfl, rfl, rfl, rfl, rfl, rfl, rfl, rfl, rfl⟩
      · rcases hI with ⟨hR1, rfl⟩ | ⟨hR1, k1, hk1, rfl⟩
        all_goals
          by_cases hv : a.vals.l = []
          all_goals
            simp [-en19_7, hen2, q2, q3, q6, q10, q11, q12, q16, q17, q18, hjt', hAn, heb, c1, c2, c3, c4, hwj, lI, hn.symm, hn2, maxBytes, hv, stayL_iteA lL]
            try rw [htk]
            refine ⟨j + 1, by omega, by omega, ?_⟩
            simp [rL, lI, lL]
            first
              | exact ⟨_, _, _, _, ⟨rfl, rfl⟩, by exact allA hLf rfl rfl, .inr ⟨by simp, j * 2 + 2, by simp; omega, by omega, rfl, .inl ⟨hR1, rfl⟩⟩, rfl, rfl, rfl, rfl, rfl, rfl, rfl, rfl, by simp⟩
              | exact ⟨_, _, _, _, ⟨rfl, rfl⟩, by exact allA hLf rfl rfl, .inr ⟨by simp, j * 2 + 2, by simp; omega, by omega, rfl, .inr ⟨hR1, k1, hk1, rfl⟩⟩, rfl, rfl, rfl, rfl, rfl, rfl, rfl, rfl, by simp⟩
    · have hjt' : ¬ (j : Int) < (A.l.length : Int) := by omega
      have c5 : (i + 1) * 24 ≤ 140737488355328 := by omega
      have c6 : i + 1 ≤ 140737488355328 := by omega
      rcases hI with ⟨rfl, rfl, rfl, hO2⟩ | ⟨hL, n, hn, hn2, rfl, hI⟩
      · have h0 : A.l.length = 0 := by omega
        rcases hO2 with ⟨hR1, rfl⟩ | ⟨hR1, k1, hk1, rfl⟩
        · have hi0 : i = 0 := by rw [← hRl, hR1]; rfl
          simp [-en19_7, hen2, q2, q3, q6, q10, q11, q12, q17, q18, h0, hwi, maxBytes]
          exact ⟨i + 1, by omega, by omega, _, [_], _, ⟨rfl, rfl⟩, by simp [idFree], by simp; omega, .inr ⟨by simp, 1, rfl, rfl⟩, rfl, rfl, rfl, rfl, by simp⟩
        · have hk2 := hk1.symm
          have c7 : (k1 + 1) * 24 ≤ 140737488355328 := by omega
          have c8 : k1 ≤ 140737488355327 := by omega
          simp [-en19_7, hen2, q2, q3, q6, q10, q11, q12, q17, q18, h0, hwi, c7, c8, hk2, maxBytes, rL]
          exact ⟨i + 1, by omega, by omega, _, R ++ [_], _, ⟨rfl, rfl⟩, by exact allA1 hRf rfl, by simp; omega, .inr ⟨by simp, k1 + 1, by simp; omega, rfl⟩, rfl, rfl, rfl, rfl, by simp⟩
      · rcases hI with ⟨hR1, rfl⟩ | ⟨hR1, k1, hk1, rfl⟩
        · have hi0 : i = 0 := by rw [← hRl, hR1]; rfl
          simp [-en19_7, hen2, q2, q3, q6, q10, q11, q12, q17, q18, hjt', hwi, maxBytes, lL, hn.symm, hn2]
          exact ⟨i + 1, by omega, by omega, _, [_], _, ⟨rfl, rfl⟩, by simp [idFree], by simp; omega, .inr ⟨by simp, 1, rfl, rfl⟩, rfl, rfl, rfl, rfl, by simp⟩
        · have hk2 := hk1.symm
          have c7 : (k1 + 1) * 24 ≤ 140737488355328 := by omega
          have c8 : k1 ≤ 140737488355327 := by omega
          simp [-en19_7, hen2, q2, q3, q6, q10, q11, q12, q17, q18, hjt', hwi, c7, c8, hk2, maxBytes, rL, lL, hn.symm, hn2]
          exact ⟨i + 1, by omega, by omega, _, R ++ [_], _, ⟨rfl, rfl⟩, by exact allA1 hRf rfl, by simp; omega, .inr ⟨by simp, k1 + 1, by simp; omega, rfl⟩, rfl, rfl, rfl, rfl, by simp⟩
/-- What is asked of an agent. -/
def cfgD (m : Mat) (l : Lim) (f k : Int) : List D := [(.vsl m.rows.nil (encs m.rows.l) m.rows.l.length), .int .i64 l.count, .int .i64 l.bytes, .int .i64 l.hard, .int .i64 f, .int .i64 k]
/-- An agent. -/
def agtD (nl : Bool) (xs : List D) (n : Nat) (l : Lim) (f k : Int) (st : Int) (ep : Int) (o : Nat) : List D := [.vsl nl xs n, .int .i64 l.count, .int .i64 l.bytes, .int .i64 l.hard, .int .i64 f, .int .i64 k, .int .i64 st, .int .u64 ep, .vsl true [] 0, .optr o 7 0, .int .u64 0, .vsl true [] 0, .vsl true [] 0, .int .i64 0, .int .i64 0]
def newOk (m : Mat) (l : Lim) (f k : Int) : Bool := sndOk f k && (matOk m.rows.l && limOk l)
theorem newOk_cases {m : Mat} {l : Lim} {f k : Int} : (sndOk f k = false ∧ newOk m l f k = false) ∨ (sndOk f k = true ∧ matOk m.rows.l = false ∧ newOk m l f k = false) ∨ (sndOk f k = true ∧ matOk m.rows.l = true ∧ limOk l = false ∧ newOk m l f k = false) ∨ (sndOk f k = true ∧ matOk m.rows.l = true ∧ limOk l = true ∧ newOk m l f k = true) := by
  unfold newOk
  cases sndOk f k <;> cases matOk m.rows.l <;> cases limOk l <;> simp
/-- What is made: an agent, or none. -/
def NewQ (b : Bool) (A B : List D) (q : D × Heap) : Prop := ∃ T, q.2 = some A :: some B :: T ∧ q.1 = if b then .tup [.optr 4 15 0, .int .i64 0] else .tup [.nilp, .int .i64 1]
set_option maxHeartbeats 1000000 in
theorem agent_new [MaxL] (m : Mat) (hm : MatC m.rows.l) (l : Lim) (f k : Int) (A B : List D) : ∃ q, call cx 5 [.agg (cfgD m l f k)] [some A, some B] = some q ∧ NewQ (newOk m l f k) A B q := by
  have h2 := mright_ev m hm
  have h3 := blim_ev l
  obtain ⟨M⟩ := m
  refine call_runG (X := cx) (f := 5) (NewQ _ A B) Tryz.func5 rfl ⟨rfl, rfl⟩ ?_
  rcases newOk_cases (m := ⟨M⟩) (l := l) (f := f) (k := k) with ⟨a1, a4⟩ | ⟨a1, a2, a4⟩ | ⟨a1, a2, a3, a4⟩ | ⟨a1, a2, a3, a4⟩
  · have s := sender_bad a1
    rw [a4]
    simp [Tryz.f5, cfgD, s]
    exact ⟨_, rfl, rfl⟩
  · have s := sender_ok a1
    rw [a2] at h2
    rw [a4]
    simp [Tryz.f5, cfgD, s, h2, sndD]
    exact ⟨_, rfl, rfl⟩
  · have s := sender_ok a1
    rw [a2] at h2
    rw [a3] at h3
    rw [a4]
    simp [Tryz.f5, cfgD, s, h2, h3, sndD]
    exact ⟨_, rfl, rfl⟩
  · have s := sender_ok a1
    obtain ⟨q, hc, nl, xs, n, rfl, hx⟩ := copied_ev ⟨M⟩ (cpB_of hm a2)
    rw [a2] at h2
    rw [a3] at h3
    rw [a4]
    simp [Tryz.f5, cfgD, s, h2, h3, sndD, hc]
    exact ⟨_, rfl, rfl⟩
/-- The memory with a directory and an agent. -/
def lawH (F : List D) (nl : Bool) (xs : List D) (n : Nat) (l : Lim) (f k : Int) : Heap := [some F, some [.vsl nl xs n, .int .i64 l.count, .int .i64 l.bytes, .int .i64 l.hard, .int .i64 f, .int .i64 k], some (sndD f k), some (agtD nl xs n l f k 0 0 2)]
set_option maxHeartbeats 1000000 in
theorem agent_newF [MaxL] (m : Mat) (hm : MatC m.rows.l) (l : Lim) (f k : Int) (a1 : sndOk f k = true) (a2 : matOk m.rows.l = true) (a3 : limOk l = true) (F : List D) : ∃ nl xs n, call cx 5 [.agg (cfgD m l f k)] [some F] = some (.tup [.optr 3 15 0, .int .i64 0], lawH F nl xs n l f k) := by
  have h2 := mright_ev m hm
  have h3 := blim_ev l
  have s := sender_ok a1
  obtain ⟨M⟩ := m
  obtain ⟨q, hc, nl, xs, n, rfl, hx⟩ := copied_ev ⟨M⟩ (cpB_of hm a2)
  rw [a2] at h2
  rw [a3] at h3
  refine ⟨nl, xs, n, call_runH Tryz.func5 rfl ⟨rfl, rfl⟩ ?_⟩
  simp [Tryz.f5, cfgD, s, h2, h3, sndD, hc, lawH, agtD]
set_option maxHeartbeats 1000000 in
theorem conf_ev [MaxL] (nil : Bool) (zs : List Int) (hnil : nil = true → zs = []) (hz : zs.length ≤ 1000000) :
    ∃ i lim f k, i < 5 ∧ limOk lim = true ∧ sndOk f k = true ∧ call cx 9 [.vsl nil (intsK .i64 zs) zs.length] [] = some (.agg (cfgD (asksM i) lim f k), []) := by
  obtain ⟨x1, k1, h1, -, c1⟩ := n_ev nil zs hnil hz 0 4 (by decide) (by decide)
  obtain ⟨i, k2, h2, c2⟩ := asks_ev nil zs hnil hz k1
  obtain ⟨lim, k3, h3, c3⟩ := limits_ev nil zs hnil hz k2
  obtain ⟨x4, k4, h4, -, c4⟩ := n_ev nil zs hnil hz k3 9 (by decide) (by decide)
  have sf := seqD_free nil zs
  have sl := seqD_len nil zs
  have sc := seqD_cl nil zs
  have w1 : IntKind.i64.wrap ((x1 : Int) + 1) = (x1 : Int) + 1 := by rw [wrap_i64] <;> omega
  have w2 : IntKind.i64.wrap ((x1 : Int) + 1 + (x4 : Int)) = (x1 : Int) + 1 + (x4 : Int) := by rw [wrap_i64] <;> omega
  refine ⟨i, lim, (x1 : Int) + 1, (x1 : Int) + 1 + x4, h2, h3, ?_, ?_⟩
  · unfold sndOk
    simp only [Bool.and_eq_true, decide_eq_true_eq]
    omega
  · refine call_run Tryz.func9 rfl ⟨rfl, rfl⟩ ?_
    replace c1 : call cx 21 [.optr 0 2 0, .int .i64 4] [some [.vsl nil (intsK .i64 zs) zs.length, .int .i64 0]] = some (.int .i64 x1, [some (seqD nil zs k1)]) := c1
    simp [Tryz.f9, c1, c2, c3, c4, sf, w1, w2, cfgD]
end Go.Ev.S
/-
  Runs that the kernel can reckon: the places that no order binds are looked at by a test; some calls are told ahead.
-/
namespace Go.Ev
open Go Go.Proofs
mutual
def beqD : D → D → Bool
  | .bool a, .bool b => a == b
  | .int k a, .int l b => decide (k = l) && decide (a = b)
  | .str s, .str t => decide (s = t)
  | .nilp, .nilp => true
  | .nilf, .nilf => true
  | .nili, .nili => true
  | .agg a, .agg b => beqDs a b
  | .tup a, .tup b => beqDs a b
  | .vptr a, .vptr b => beqDs a b
  | .optr i s o, .optr j t p => decide (i = j) && (decide (s = t) && decide (o = p))
  | .vsl m a n, .vsl k b l => (m == k) && (beqDs a b && decide (n = l))
  | .osl i s o l k, .osl j t p m n => decide (i = j) && (decide (s = t) && (decide (o = p) && (decide (l = m) && decide (k = n))))
  | .fn f a, .fn g b => decide (f = g) && beqDs a b
  | .iface t a, .iface u b => decide (t = u) && beqD a b
  | _, _ => false
def beqDs : List D → List D → Bool
  | [], [] => true
  | a :: l, b :: m => beqD a b && beqDs l m
  | _, _ => false
end
mutual
theorem beqD_eq : ∀ (a b : D), beqD a b = true → a = b
  | .bool a, b, h => by cases b <;> simp [beqD] at h; rw [h]
  | .int k a, b, h => by cases b <;> simp [beqD] at h; rw [h.1, h.2]
  | .str s, b, h => by cases b <;> simp [beqD] at h; rw [h]
  | .nilp, b, h => by cases b <;> simp [beqD] at h; rfl
  | .nilf, b, h => by cases b <;> simp [beqD] at h; rfl
  | .nili, b, h => by cases b <;> simp [beqD] at h; rfl
  | .agg a, b, h => by cases b <;> simp [beqD] at h; rw [beqDs_eq _ _ h]
  | .tup a, b, h => by cases b <;> simp [beqD] at h; rw [beqDs_eq _ _ h]
  | .vptr a, b, h => by cases b <;> simp [beqD] at h; rw [beqDs_eq _ _ h]
  | .optr i s o, b, h => by cases b <;> simp [beqD] at h; rw [h.1, h.2.1, h.2.2]
  | .vsl m a n, b, h => by cases b <;> simp [beqD] at h; rw [h.1, beqDs_eq _ _ h.2.1, h.2.2]
  | .osl i s o l k, b, h => by cases b <;> simp [beqD] at h; rw [h.1, h.2.1, h.2.2.1, h.2.2.2.1, h.2.2.2.2]
  | .fn f a, b, h => by cases b <;> simp [beqD] at h; rw [h.1, beqDs_eq _ _ h.2]
  | .iface t a, b, h => by cases b <;> simp [beqD] at h; rw [h.1, beqD_eq _ _ h.2]
  | .raw v, b, h => by cases b <;> simp [beqD] at h
theorem beqDs_eq : ∀ (a b : List D), beqDs a b = true → a = b
  | [], b, h => by cases b <;> simp [beqDs] at h; rfl
  | a :: l, b, h => by
    cases b with
    | nil => simp [beqDs] at h
    | cons c m =>
      simp only [beqDs, Bool.and_eq_true] at h
      rw [beqD_eq _ _ h.1, beqDs_eq _ _ h.2]
end
def beqB : Option (List D) → Option (List D) → Bool
  | some a, some b => beqDs a b
  | none, none => true
  | _, _ => false
theorem beqB_eq {a b : Option (List D)} (h : beqB a b = true) : a = b := by
  cases a <;> cases b <;> simp only [beqB] at h
  · rfl
  · exact absurd h (by decide)
  · exact absurd h (by decide)
  · rw [beqDs_eq _ _ h]
def apartRB (L : Pairs) (k : Nat) (bs : List Nat) : List (Nat × Heap × Heap) → Bool
  | [] => true
  | (i, A, B) :: l => (!L.contains (i, k) || bs.all fun b => beqB (hget B b) (hget A b)) && apartRB L k bs l
def apartWB (L : Pairs) (k : Nat) (A B : Heap) : List (Nat × List Nat) → Bool
  | [] => true
  | (j, bs) :: l => (!L.contains (k, j) || bs.all fun b => beqB (hget B b) (hget A b)) && apartWB L k A B l
theorem apartRB_ok {L : Pairs} {k : Nat} {bs : List Nat} : ∀ {l : List (Nat × Heap × Heap)}, apartRB L k bs l = true → apartR L k bs l
  | [], _ => trivial
  | (i, A, B) :: l, h => by
    simp only [apartRB, Bool.and_eq_true, Bool.or_eq_true, Bool.not_eq_true'] at h
    refine ⟨fun hc b hb => ?_, apartRB_ok h.2⟩
    rcases h.1 with h1 | h1
    · rw [hc] at h1; cases h1
    · exact beqB_eq (List.all_eq_true.1 h1 b hb)
theorem apartWB_ok {L : Pairs} {k : Nat} {A B : Heap} : ∀ {l : List (Nat × List Nat)}, apartWB L k A B l = true → apartW L k A B l
  | [], _ => trivial
  | (j, bs) :: l, h => by
    simp only [apartWB, Bool.and_eq_true, Bool.or_eq_true, Bool.not_eq_true'] at h
    refine ⟨fun hc b hb => ?_, apartWB_ok h.2⟩
    rcases h.1 with h1 | h1
    · rw [hc] at h1; cases h1
    · exact beqB_eq (List.all_eq_true.1 h1 b hb)
def kOpsL (X : Cx) (F : CallF) (nt : Nat) (ow : List Nat) (ops : Array Oper) (L : Pairs) : Nat → List (Nat × Heap × Heap) → List (Nat × List Nat) → List Oper → Env → Heap → Option (Env × Heap)
  | _, _, _, [], e, H => some (e, H)
  | k, ws, rs, o :: l, e, H => match dstOk nt o.dst, guardQ ops e o.guard with
    | true, some true => match evOpW X F (bwD ow o.dst) o.op e H with
      | some (d, H') =>
        if (!rIn L k || apartRB L k (idsL (o.op.operands.toList.map (opd X e))) ws) && (!wIn L k || (decide (H.length ≤ H'.length) && apartWB L k H H' rs)) then
          kOpsL X F nt ow ops L (k + 1) (if wIn L k then (k, H, H') :: ws else ws) (if rIn L k then (k, idsL (o.op.operands.toList.map (opd X e))) :: rs else rs) l (putE e o.dst d) H'
        else none
      | none => none
    | true, some false => kOpsL X F nt ow ops L (k + 1) ws rs l (putE e o.dst (.tup [])) H
    | _, _ => none
theorem kOpsL_ok {X : Cx} {F : CallF} {nt : Nat} {ow : List Nat} {ops : Array Oper} {L : Pairs} : ∀ {l : List Oper} {k : Nat} {ws : List (Nat × Heap × Heap)} {rs : List (Nat × List Nat)} {e : Env} {H : Heap} {r : Env × Heap}, kOpsL X F nt ow ops L k ws rs l e H = some r → evOpsL X F nt ow ops L k ws rs l e H = some r
  | [], _, _, _, _, _, _, h => by simpa only [kOpsL, evOpsL] using h
  | o :: l, k, ws, rs, e, H, r, h => by
    simp only [kOpsL] at h
    simp only [evOpsL]
    cases h1 : dstOk nt o.dst with
    | false => rw [h1] at h; simp at h
    | true =>
    cases h2 : guardQ ops e o.guard with
    | none => rw [h1, h2] at h; simp at h
    | some b =>
    rw [h1, h2] at h
    cases b with
    | false => exact kOpsL_ok h
    | true =>
      simp only at h ⊢
      cases h3 : evOpW X F (bwD ow o.dst) o.op e H with
      | none => rw [h3] at h; simp at h
      | some q =>
        obtain ⟨d, H'⟩ := q
        rw [h3] at h
        simp only at h ⊢
        split at h
        · rename_i hc
          simp only [Bool.and_eq_true, Bool.or_eq_true, Bool.not_eq_true', decide_eq_true_eq] at hc
          refine (if_pos ⟨fun hr => ?_, fun hw => ?_⟩).trans (kOpsL_ok h)
          · rcases hc.1 with h4 | h4
            · rw [hr] at h4; cases h4
            · exact apartRB_ok h4
          · rcases hc.2 with h4 | h4
            · rw [hw] at h4; cases h4
            · exact ⟨h4.1, apartWB_ok h4.2⟩
        · cases h
def kR (X : Cx) (F : CallF) (f nt id : Nat) (draw : Bool) (ops : Array Oper) (e : Env) (H : Heap) : Option (Env × Heap) :=
  match draw, X.lp f id with
  | true, some (L, ow) => kOpsL X F nt ow ops L 0 [] [] ops.toList e H
  | _, _ => evOps X F nt (regW X f id draw ops) ops ops.toList e H
theorem kR_ok {X : Cx} {F : CallF} {f nt id : Nat} {draw : Bool} {ops : Array Oper} {e : Env} {H : Heap} {r : Env × Heap} (h : kR X F f nt id draw ops e H = some r) : evR X F f nt id draw ops e H = some r := by
  unfold kR at h
  unfold evR
  cases draw with
  | false => exact h
  | true =>
    cases hl : X.lp f id with
    | none => rw [hl] at h; exact h
    | some q =>
      obtain ⟨L, ow⟩ := q
      rw [hl] at h
      exact kOpsL_ok h
mutual
def kC (X : Cx) (T : CallF) : Nat → Nat → Nat → Nat → Code → Env → Heap → Option (Ex × Env × Heap)
  | 0, _, _, _, _, _, _ => none
  | n + 1, f, nt, n0, c, e, H => match c with
    | .skip => some (.normal, e, H)
    | .label _ => some (.normal, e, H)
    | .region id ops draw => match enter X f n0 id e H with
      | none => none
      | some (e, H) => (kR X (kF X T n) f nt id draw ops e H).map fun (e, H) => (.normal, e, H)
    | .seq a b => match kC X T n f nt n0 a e H with
      | some (.normal, e, H) => kC X T n f nt n0 b e H
      | r => r
    | .cond c a b => match opd X e c with
      | some (.bool t) => kC X T n f nt n0 (if t then a else b) e H
      | _ => none
    | .block id c => match kC X T n f nt n0 c e H with
      | some (.exit i, e, H) => if i = id then some (.normal, e, H) else some (.exit i, e, H)
      | r => r
    | .loop c => match kC X T n f nt n0 c e H with
      | some (.normal, e, H) => kC X T n f nt n0 (.loop c) e H
      | r => r
    | .exit id => some (.exit id, e, H)
    | .scope c => kC X T n f nt n0 c e H
    | .ret => some (.ret, e, H)
    | _ => none
def kF (X : Cx) (T : CallF) : Nat → CallF
  | 0, _, _, _ => none
  | n + 1, f, args, H => match T f args H with
   | some r => some r
   | none => match X.con f args H with
    | some r => some r
    | none => match X.P.funcs[f]? with
     | none => none
     | some fn => match fn.body with
       | none => (X.ext f args).map (·, H)
       | some c => if X.bad f then none else match kC X T n f fn.ntmps H.length c (argEnv 0 args) H with
         | some (.normal, e, H') | some (.ret, e, H') => match resD X e H' fn.results.toList with
           | some ds => packS (X.gr f && X.byRef f) (X.fzr f) H.length H' (oneOrTup ds)
           | none => none
         | _ => none
end
theorem k_ok {X : Cx} {T : CallF} (hT : FLe T (call X)) : ∀ n, FLe (kF X T n) (call X) ∧ ∀ f nt n0 c e H r, kC X T n f nt n0 c e H = some r → code X f nt n0 c e H = some r
  | 0 => ⟨fun _ _ _ _ h => by simp [kF] at h, fun _ _ _ _ _ _ _ h => by simp [kC] at h⟩
  | n + 1 => by
    obtain ⟨ihF, ihC⟩ := k_ok hT n
    refine ⟨fun f args H r h => ?_, fun f nt n0 c e H r h => ?_⟩
    · simp only [kF] at h
      cases ht : T f args H with
      | some q => rw [ht] at h; simp only [Option.some.injEq] at h; subst h; exact hT _ _ _ _ ht
      | none =>
      rw [ht] at h
      simp only at h
      cases hc : X.con f args H with
      | some q => rw [hc] at h; simp only [Option.some.injEq] at h; subst h; exact call_con hc
      | none =>
      rw [hc] at h
      simp only at h
      cases hf : X.P.funcs[f]? with
      | none => rw [hf] at h; simp at h
      | some fn =>
      rw [hf] at h
      simp only at h
      cases hb : fn.body with
      | none =>
        rw [hb] at h
        rw [call_ext hc hf hb]
        exact h
      | some c =>
        rw [hb] at h
        simp only at h
        cases hbad : X.bad f with
        | true => rw [hbad] at h; simp at h
        | false =>
        rw [hbad] at h
        simp only [Bool.false_eq_true, if_false] at h
        rw [call_body hc hf hb hbad]
        cases hk : kC X T n f fn.ntmps H.length c (argEnv 0 args) H with
        | none => rw [hk] at h; simp at h
        | some q =>
          obtain ⟨ex, e1, H1⟩ := q
          rw [ihC _ _ _ _ _ _ _ hk]
          rw [hk] at h
          cases ex with
          | exit i => simp at h
          | normal =>
            cases hr : resD X e1 H1 fn.results.toList with
            | none => simp [hr] at h
            | some ds => simpa [hr] using h
          | ret =>
            cases hr : resD X e1 H1 fn.results.toList with
            | none => simp [hr] at h
            | some ds => simpa [hr] using h
    · cases c with
      | skip => simp only [kC] at h; rw [← h]; exact code_skip
      | label l => simp only [kC] at h; rw [← h]; exact code_label
      | exit i => simp only [kC] at h; rw [← h]; exact code_exit
      | ret => simp only [kC] at h; rw [← h]; exact code_ret
      | region id ops draw =>
        simp only [kC] at h
        rw [code_region]
        cases he : enter X f n0 id e H with
        | none => rw [he] at h; simp at h
        | some q =>
          obtain ⟨e1, H1⟩ := q
          rw [he] at h
          simp only at h ⊢
          cases hk : kR X (kF X T n) f nt id draw ops e1 H1 with
          | none => rw [hk] at h; simp at h
          | some q =>
            rw [hk] at h
            rw [evR_mono ihF (kR_ok hk)]
            exact h
      | seq a b =>
        simp only [kC] at h
        rw [code_seq]
        cases ha : kC X T n f nt n0 a e H with
        | none => rw [ha] at h; simp at h
        | some q =>
          obtain ⟨ex, e1, H1⟩ := q
          rw [ihC _ _ _ _ _ _ _ ha]
          rw [ha] at h
          cases ex with
          | normal => exact ihC _ _ _ _ _ _ _ h
          | exit i => exact h
          | ret => exact h
      | cond c a b =>
        simp only [kC] at h
        rw [code_cond]
        split at h
        · rename_i t ht
          rw [ht]
          exact ihC _ _ _ _ _ _ _ h
        · cases h
      | block id c =>
        simp only [kC] at h
        rw [code_block]
        cases ha : kC X T n f nt n0 c e H with
        | none => rw [ha] at h; simp at h
        | some q =>
          obtain ⟨ex, e1, H1⟩ := q
          rw [ihC _ _ _ _ _ _ _ ha]
          rw [ha] at h
          exact h
      | loop c =>
        simp only [kC] at h
        rw [code_loop]
        cases ha : kC X T n f nt n0 c e H with
        | none => rw [ha] at h; simp at h
        | some q =>
          obtain ⟨ex, e1, H1⟩ := q
          rw [ihC _ _ _ _ _ _ _ ha]
          rw [ha] at h
          cases ex with
          | normal => exact ihC _ _ _ _ _ _ _ h
          | exit i => exact h
          | ret => exact h
      | scope c =>
        simp only [kC] at h
        rw [code_scope]
        exact ihC _ _ _ _ _ _ _ h
      | _ => simp [kC] at h
def noT : CallF := fun _ _ _ => none
theorem call_k {X : Cx} {f : Nat} {args : List D} {H : Heap} {r : D × Heap} (n : Nat) (h : kF X noT n f args H = some r) : call X f args H = some r :=
  (k_ok (fun _ _ _ _ h => by cases h) n).1 f args H r h
end Go.Ev
/- The chapter's example. -/
namespace Go.Ev.S
open Go Go.Proofs Go.Ev
set_option maxRecDepth 100000 in
theorem first32_ev [MaxL] : call cx 4 [] [] = some (.bool true, []) := call_k 3000 (by kernel_rfl)
end Go.Ev.S
/- An agent in a directory without power. -/
namespace Go.Ev.S
open Go Go.Proofs Go.Ev
def fsZ : List D := [.int .i64 4096, .int .i64 (-1), .bool false, .vsl true [] 0, .vsl true [] 0]
def kT (X : Cx) (g : Nat) (args : List D) (H : Heap) : Heap := ((kF X noT 400 g args H).getD (.nilp, [])).2
section
variable (nl : Bool) (xs : List D) (n : Nat) (l : Lim) (f k : Int)
noncomputable def lH1 [MaxL] : Heap := kT cx 10 [.optr 0 5 0, .str [120]] (lawH fsZ nl xs n l f k)
noncomputable def lH2 [MaxL] : Heap := kT cx 11 [.optr 0 5 0, .int .i64 0] (lH1 nl xs n l f k)
noncomputable def lH3 [MaxL] : Heap := kT cx 10 [.optr 0 5 0, .str [121]] (lH2 nl xs n l f k)
noncomputable def lH4 [MaxL] : Heap := kT cx 12 [.optr 3 15 0, .optr 0 5 0, .int .i64 0] (lH3 nl xs n l f k)
noncomputable def lH5 [MaxL] : Heap := kT cx 12 [.optr 3 15 0, .optr 0 5 0, .int .i64 (-1)] (lH4 nl xs n l f k)
noncomputable def lH6 [MaxL] : Heap := kT cx 13 [.optr 0 5 0, .vsl true [] 0, .int .i64 0] (lH5 nl xs n l f k)
noncomputable def lH7 [MaxL] : Heap := kT cx 29 [.optr 3 15 0, .optr 0 5 0] (lH6 nl xs n l f k)
set_option maxRecDepth 100000
theorem law_1 [MaxL] : call cx 10 [.optr 0 5 0, .str [120]] (lawH fsZ nl xs n l f k) = some (.int .i64 0, lH1 nl xs n l f k) := call_k 400 (by kernel_rfl)
theorem law_2 [MaxL] : call cx 11 [.optr 0 5 0, .int .i64 0] (lH1 nl xs n l f k) = some (.tup [], lH2 nl xs n l f k) := call_k 400 (by kernel_rfl)
theorem law_3 [MaxL] : call cx 10 [.optr 0 5 0, .str [121]] (lH2 nl xs n l f k) = some (.int .i64 18, lH3 nl xs n l f k) := call_k 400 (by kernel_rfl)
theorem law_4 [MaxL] : call cx 12 [.optr 3 15 0, .optr 0 5 0, .int .i64 0] (lH3 nl xs n l f k) = some (.tup [.vsl true [] 0, .int .i64 18], lH4 nl xs n l f k) := call_k 400 (by kernel_rfl)
theorem law_5 [MaxL] : call cx 12 [.optr 3 15 0, .optr 0 5 0, .int .i64 (-1)] (lH4 nl xs n l f k) = some (.tup [.vsl true [] 0, .int .i64 1], lH5 nl xs n l f k) := call_k 400 (by kernel_rfl)
theorem law_6 [MaxL] : call cx 13 [.optr 0 5 0, .vsl true [] 0, .int .i64 0] (lH5 nl xs n l f k) = some (.tup [], lH6 nl xs n l f k) := call_k 400 (by kernel_rfl)
theorem law_7 [MaxL] : call cx 28 [.optr 0 5 0] (lH6 nl xs n l f k) = some (.bool false, lH6 nl xs n l f k) := call_k 400 (by kernel_rfl)
theorem law_8 [MaxL] : call cx 29 [.optr 3 15 0, .optr 0 5 0] (lH6 nl xs n l f k) = some (.tup [], lH7 nl xs n l f k) := call_k 400 (by kernel_rfl)
theorem law_9 [MaxL] : hget (lH6 nl xs n l f k) 3 = some (agtD nl xs n l f k 0 0 2) := by kernel_rfl
theorem law_10 [MaxL] : call cx 14 [.optr 3 15 0] (lH6 nl xs n l f k) = some (.int .i64 0, lH6 nl xs n l f k) := call_k 400 (by kernel_rfl)
theorem law_11 [MaxL] : call cx 14 [.optr 3 15 0] (lH7 nl xs n l f k) = some (.int .i64 1, lH7 nl xs n l f k) := call_k 400 (by kernel_rfl)
theorem fs_new [MaxL] : call cx 8 [.int .i64 4096] [] = some (.tup [.optr 0 5 0, .int .i64 0], [some fsZ]) := call_k 400 (by kernel_rfl)
end
/-- A step at any time. -/
theorem step_late [MaxL] (nl : Bool) (xs : List D) (n : Nat) (l : Lim) (f k : Int) {now : Int} (h : now < 0 ∨ 1099511627776 < now) : call cx 12 [.optr 3 15 0, .optr 0 5 0, .int .i64 now] (lH6 nl xs n l f k) = some (.tup [.vsl true [] 0, .int .i64 1], lH6 nl xs n l f k) := by
  refine call_runH Tryz.func12 rfl ⟨rfl, rfl⟩ ?_
  by_cases h1 : now < 0
  · simp [Tryz.f12, h1]
  · have h2 : 1099511627776 < now := by omega
    simp [Tryz.f12, h1, h2]
theorem step_now [MaxL] (nl : Bool) (xs : List D) (n : Nat) (l : Lim) (f k : Int) {now : Int} (h : ¬ (now < 0 ∨ 1099511627776 < now)) : call cx 12 [.optr 3 15 0, .optr 0 5 0, .int .i64 now] (lH6 nl xs n l f k) = some (.tup [.vsl true [] 0, .int .i64 0], lH7 nl xs n l f k) := by
  have h1 : ¬ now < 0 := by omega
  have h2 : ¬ 1099511627776 < now := by omega
  have e7 := law_7 nl xs n l f k
  have e8 := law_8 nl xs n l f k
  have e9 := law_9 nl xs n l f k
  refine call_runH Tryz.func12 rfl ⟨rfl, rfl⟩ ?_
  unfold agtD at e9
  simp [-hget, Tryz.f12, h1, h2, e7, e8, e9]
end Go.Ev.S
