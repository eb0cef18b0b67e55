import Derived.Test.YtdmkldmbjclifaaGreatDoorC4
import Derived.Shelf.Strings.Search2
import Derived.Shelf.Strconv.Clone
import Derived.WalkSmall
import Derived.Shelf.Strings.Repeat
import Derived.Lib.Bytealg
import Derived.Shelf.Strings.BuilderF
import Derived.Shelf.Strconv.Itoa0
import Derived.Shelf.Strconv.Itoa1
import Derived.Shelf.LaysM
import Derived.Test.YtdmkldmbjclifaaGreatDoorProg
import Derived.Lib.ItoaMem
namespace Go.Ev.S
open Go Go.Proofs Go.Ev
@[simp] theorem sz3:szOf Tryz.prog 3 = 1:=by kernel_rfl
@[simp] theorem ag3:aggQ Tryz.prog 3 = some false:=by kernel_rfl
@[simp] theorem by3:bytesOf Tryz.prog 3 = 8:=by kernel_rfl
@[simp] theorem zo3:zeroOf Tryz.prog 3 = some (.int .i64 0):=by kernel_rfl
@[simp] theorem cq3:cmpQ Tryz.prog 3 = true:=by kernel_rfl
@[simp] theorem un3:Tryz.prog.underlying 3 = some (.int .i64):=by kernel_rfl
@[simp] theorem sz4:szOf Tryz.prog 4 = 1:=by kernel_rfl
@[simp] theorem ag4:aggQ Tryz.prog 4 = some false:=by kernel_rfl
@[simp] theorem by4:bytesOf Tryz.prog 4 = 1:=by kernel_rfl
@[simp] theorem zo4:zeroOf Tryz.prog 4 = some (.bool false):=by kernel_rfl
@[simp] theorem un4:Tryz.prog.underlying 4 = some .bool:=by kernel_rfl
@[simp] theorem sz5:szOf Tryz.prog 5 = 1:=by kernel_rfl
@[simp] theorem ag5:aggQ Tryz.prog 5 = some false:=by kernel_rfl
@[simp] theorem by5:bytesOf Tryz.prog 5 = 1:=by kernel_rfl
@[simp] theorem zo5:zeroOf Tryz.prog 5 = some (.int .u8 0):=by kernel_rfl
@[simp] theorem cq5:cmpQ Tryz.prog 5 = true:=by kernel_rfl
@[simp] theorem un5:Tryz.prog.underlying 5 = some (.int .u8):=by kernel_rfl
@[simp] theorem sz9:szOf Tryz.prog 9 = 1:=by kernel_rfl
@[simp] theorem ag9:aggQ Tryz.prog 9 = some false:=by kernel_rfl
@[simp] theorem by9:bytesOf Tryz.prog 9 = 16:=by kernel_rfl
@[simp] theorem zo9:zeroOf Tryz.prog 9 = some (.str []):=by kernel_rfl
@[simp] theorem un9:Tryz.prog.underlying 9 = some .string:=by kernel_rfl
@[simp] theorem sz22:szOf Tryz.prog 22 = 1:=by kernel_rfl
@[simp] theorem ag22:aggQ Tryz.prog 22 = some false:=by kernel_rfl
@[simp] theorem by22:bytesOf Tryz.prog 22 = 24:=by kernel_rfl
@[simp] theorem zo22:zeroOf Tryz.prog 22 = some (.vsl true [] 0):=by kernel_rfl
@[simp] theorem un22:Tryz.prog.underlying 22 = some (.slice 3):=by kernel_rfl
@[simp] theorem sz23:szOf Tryz.prog 23 = 3:=by kernel_rfl
@[simp] theorem ag23:aggQ Tryz.prog 23 = some true:=by kernel_rfl
@[simp] theorem by23:bytesOf Tryz.prog 23 = 24:=by kernel_rfl
@[simp] theorem zo23:zeroOf Tryz.prog 23 = some (.agg [.int .i64 0,.int .i64 0,.int .i64 0]):=by kernel_rfl
attribute [simp] Tryz.underlying23
@[simp] theorem sz24:szOf Tryz.prog 24 = 3:=by kernel_rfl
@[simp] theorem ag24:aggQ Tryz.prog 24 = some true:=by kernel_rfl
@[simp] theorem by24:bytesOf Tryz.prog 24 = 24:=by kernel_rfl
@[simp] theorem zo24:zeroOf Tryz.prog 24 = some (.agg [.int .i64 0,.int .i64 0,.int .i64 0]):=by kernel_rfl
attribute [simp] Tryz.underlying24
@[simp] theorem sz25:szOf Tryz.prog 25 = 1:=by kernel_rfl
@[simp] theorem ag25:aggQ Tryz.prog 25 = some false:=by kernel_rfl
@[simp] theorem by25:bytesOf Tryz.prog 25 = 24:=by kernel_rfl
@[simp] theorem zo25:zeroOf Tryz.prog 25 = some (.vsl true [] 0):=by kernel_rfl
@[simp] theorem un25:Tryz.prog.underlying 25 = some (.slice 77):=by kernel_rfl
@[simp] theorem sz26:szOf Tryz.prog 26 = 1:=by kernel_rfl
@[simp] theorem ag26:aggQ Tryz.prog 26 = some false:=by kernel_rfl
@[simp] theorem by26:bytesOf Tryz.prog 26 = 24:=by kernel_rfl
@[simp] theorem zo26:zeroOf Tryz.prog 26 = some (.vsl true [] 0):=by kernel_rfl
@[simp] theorem un26:Tryz.prog.underlying 26 = some (.slice 35):=by kernel_rfl
@[simp] theorem sz28:szOf Tryz.prog 28 = 1:=by kernel_rfl
@[simp] theorem ag28:aggQ Tryz.prog 28 = some false:=by kernel_rfl
@[simp] theorem by28:bytesOf Tryz.prog 28 = 8:=by kernel_rfl
@[simp] theorem zo28:zeroOf Tryz.prog 28 = some (.int .u64 0):=by kernel_rfl
@[simp] theorem cq28:cmpQ Tryz.prog 28 = true:=by kernel_rfl
@[simp] theorem un28:Tryz.prog.underlying 28 = some (.int .u64):=by kernel_rfl
@[simp] theorem sz29:szOf Tryz.prog 29 = 16:=by kernel_rfl
@[simp] theorem ag29:aggQ Tryz.prog 29 = some true:=by kernel_rfl
@[simp] theorem by29:bytesOf Tryz.prog 29 = 16:=by kernel_rfl
@[simp] theorem zo29:zeroOf Tryz.prog 29 = some (.agg [.int .u8 0,.int .u8 0,.int .u8 0,.int .u8 0,.int .u8 0,.int .u8 0,.int .u8 0,.int .u8 0,.int .u8 0,.int .u8 0,.int .u8 0,.int .u8 0,.int .u8 0,.int .u8 0,.int .u8 0,.int .u8 0]):=by kernel_rfl
@[simp] theorem un29:Tryz.prog.underlying 29 = some (.array 16 5):=by kernel_rfl
@[simp] theorem sz30:szOf Tryz.prog 30 = 16:=by kernel_rfl
@[simp] theorem ag30:aggQ Tryz.prog 30 = some true:=by kernel_rfl
@[simp] theorem by30:bytesOf Tryz.prog 30 = 16:=by kernel_rfl
@[simp] theorem zo30:zeroOf Tryz.prog 30 = some (.agg [.int .u8 0,.int .u8 0,.int .u8 0,.int .u8 0,.int .u8 0,.int .u8 0,.int .u8 0,.int .u8 0,.int .u8 0,.int .u8 0,.int .u8 0,.int .u8 0,.int .u8 0,.int .u8 0,.int .u8 0,.int .u8 0]):=by kernel_rfl
@[simp] theorem un30:Tryz.prog.underlying 30 = some (.array 16 5):=by kernel_rfl
@[simp] theorem sz31:szOf Tryz.prog 31 = 1:=by kernel_rfl
@[simp] theorem ag31:aggQ Tryz.prog 31 = some false:=by kernel_rfl
@[simp] theorem by31:bytesOf Tryz.prog 31 = 24:=by kernel_rfl
@[simp] theorem zo31:zeroOf Tryz.prog 31 = some (.vsl true [] 0):=by kernel_rfl
@[simp] theorem un31:Tryz.prog.underlying 31 = some (.slice 92):=by kernel_rfl
@[simp] theorem sz32:szOf Tryz.prog 32 = 20:=by kernel_rfl
@[simp] theorem ag32:aggQ Tryz.prog 32 = some true:=by kernel_rfl
@[simp] theorem by32:bytesOf Tryz.prog 32 = 64:=by kernel_rfl
@[simp] theorem zo32:zeroOf Tryz.prog 32 = some (.agg [.int .u64 0,.int .u64 0,.int .u64 0,.int .u8 0,.int .u8 0,.int .u8 0,.int .u8 0,.int .u8 0,.int .u8 0,.int .u8 0,.int .u8 0,.int .u8 0,.int .u8 0,.int .u8 0,.int .u8 0,.int .u8 0,.int .u8 0,.int .u8 0,.int .u8 0,.vsl true [] 0]):=by kernel_rfl
attribute [simp] Tryz.underlying32
@[simp] theorem sz33:szOf Tryz.prog 33 = 20:=by kernel_rfl
@[simp] theorem ag33:aggQ Tryz.prog 33 = some true:=by kernel_rfl
@[simp] theorem by33:bytesOf Tryz.prog 33 = 64:=by kernel_rfl
@[simp] theorem zo33:zeroOf Tryz.prog 33 = some (.agg [.int .u64 0,.int .u64 0,.int .u64 0,.int .u8 0,.int .u8 0,.int .u8 0,.int .u8 0,.int .u8 0,.int .u8 0,.int .u8 0,.int .u8 0,.int .u8 0,.int .u8 0,.int .u8 0,.int .u8 0,.int .u8 0,.int .u8 0,.int .u8 0,.int .u8 0,.vsl true [] 0]):=by kernel_rfl
attribute [simp] Tryz.underlying33
@[simp] theorem sz34:szOf Tryz.prog 34 = 39:=by kernel_rfl
@[simp] theorem ag34:aggQ Tryz.prog 34 = some true:=by kernel_rfl
@[simp] theorem by34:bytesOf Tryz.prog 34 = 104:=by kernel_rfl
@[simp] theorem zo34:zeroOf Tryz.prog 34 = some (.agg [.int .u8 0,.int .u8 0,.int .u8 0,.int .u8 0,.int .u8 0,.int .u8 0,.int .u8 0,.int .u8 0,.int .u8 0,.int .u8 0,.int .u8 0,.int .u8 0,.int .u8 0,.int .u8 0,.int .u8 0,.int .u8 0,.bool false,.int .u64 0,.int .u64 0,.int .u64 0,.int .u64 0,.int .u64 0,.int .u8 0,.int .u8 0,.int .u8 0,.int .u8 0,.int .u8 0,.int .u8 0,.int .u8 0,.int .u8 0,.int .u8 0,.int .u8 0,.int .u8 0,.int .u8 0,.int .u8 0,.int .u8 0,.int .u8 0,.int .u8 0,.vsl true [] 0]):=by kernel_rfl
attribute [simp] Tryz.underlying34
@[simp] theorem sz35:szOf Tryz.prog 35 = 39:=by kernel_rfl
@[simp] theorem ag35:aggQ Tryz.prog 35 = some true:=by kernel_rfl
@[simp] theorem by35:bytesOf Tryz.prog 35 = 104:=by kernel_rfl
@[simp] theorem zo35:zeroOf Tryz.prog 35 = some (.agg [.int .u8 0,.int .u8 0,.int .u8 0,.int .u8 0,.int .u8 0,.int .u8 0,.int .u8 0,.int .u8 0,.int .u8 0,.int .u8 0,.int .u8 0,.int .u8 0,.int .u8 0,.int .u8 0,.int .u8 0,.int .u8 0,.bool false,.int .u64 0,.int .u64 0,.int .u64 0,.int .u64 0,.int .u64 0,.int .u8 0,.int .u8 0,.int .u8 0,.int .u8 0,.int .u8 0,.int .u8 0,.int .u8 0,.int .u8 0,.int .u8 0,.int .u8 0,.int .u8 0,.int .u8 0,.int .u8 0,.int .u8 0,.int .u8 0,.int .u8 0,.vsl true [] 0]):=by kernel_rfl
attribute [simp] Tryz.underlying35
@[simp] theorem sz36:szOf Tryz.prog 36 = 1:=by kernel_rfl
@[simp] theorem ag36:aggQ Tryz.prog 36 = some false:=by kernel_rfl
@[simp] theorem by36:bytesOf Tryz.prog 36 = 8:=by kernel_rfl
@[simp] theorem zo36:zeroOf Tryz.prog 36 = some (.nilp):=by kernel_rfl
@[simp] theorem un36:Tryz.prog.underlying 36 = some (.pointer 38):=by kernel_rfl
@[simp] theorem sz37:szOf Tryz.prog 37 = 2:=by kernel_rfl
@[simp] theorem ag37:aggQ Tryz.prog 37 = some true:=by kernel_rfl
@[simp] theorem by37:bytesOf Tryz.prog 37 = 32:=by kernel_rfl
@[simp] theorem zo37:zeroOf Tryz.prog 37 = some (.agg [.vsl true [] 0,.int .i64 0]):=by kernel_rfl
attribute [simp] Tryz.underlying37
@[simp] theorem sz38:szOf Tryz.prog 38 = 2:=by kernel_rfl
@[simp] theorem ag38:aggQ Tryz.prog 38 = some true:=by kernel_rfl
@[simp] theorem by38:bytesOf Tryz.prog 38 = 32:=by kernel_rfl
@[simp] theorem zo38:zeroOf Tryz.prog 38 = some (.agg [.vsl true [] 0,.int .i64 0]):=by kernel_rfl
attribute [simp] Tryz.underlying38
@[simp] theorem sz39:szOf Tryz.prog 39 = 1:=by kernel_rfl
@[simp] theorem ag39:aggQ Tryz.prog 39 = some false:=by kernel_rfl
@[simp] theorem by39:bytesOf Tryz.prog 39 = 24:=by kernel_rfl
@[simp] theorem zo39:zeroOf Tryz.prog 39 = some (.vsl true [] 0):=by kernel_rfl
@[simp] theorem un39:Tryz.prog.underlying 39 = some (.slice 57):=by kernel_rfl
@[simp] theorem sz40:szOf Tryz.prog 40 = 1:=by kernel_rfl
@[simp] theorem ag40:aggQ Tryz.prog 40 = some true:=by kernel_rfl
@[simp] theorem by40:bytesOf Tryz.prog 40 = 24:=by kernel_rfl
@[simp] theorem zo40:zeroOf Tryz.prog 40 = some (.agg [.vsl true [] 0]):=by kernel_rfl
attribute [simp] Tryz.underlying40
@[simp] theorem sz41:szOf Tryz.prog 41 = 1:=by kernel_rfl
@[simp] theorem ag41:aggQ Tryz.prog 41 = some true:=by kernel_rfl
@[simp] theorem by41:bytesOf Tryz.prog 41 = 24:=by kernel_rfl
@[simp] theorem zo41:zeroOf Tryz.prog 41 = some (.agg [.vsl true [] 0]):=by kernel_rfl
attribute [simp] Tryz.underlying41
@[simp] theorem sz46:szOf Tryz.prog 46 = 1:=by kernel_rfl
@[simp] theorem ag46:aggQ Tryz.prog 46 = some false:=by kernel_rfl
@[simp] theorem by46:bytesOf Tryz.prog 46 = 24:=by kernel_rfl
@[simp] theorem zo46:zeroOf Tryz.prog 46 = some (.vsl true [] 0):=by kernel_rfl
@[simp] theorem un46:Tryz.prog.underlying 46 = some (.slice 26):=by kernel_rfl
@[simp] theorem sz47:szOf Tryz.prog 47 = 4:=by kernel_rfl
@[simp] theorem ag47:aggQ Tryz.prog 47 = some true:=by kernel_rfl
@[simp] theorem by47:bytesOf Tryz.prog 47 = 64:=by kernel_rfl
@[simp] theorem zo47:zeroOf Tryz.prog 47 = some (.agg [.vsl true [] 0,.vsl true [] 0,.int .i64 0,.int .i64 0]):=by kernel_rfl
attribute [simp] Tryz.underlying47
@[simp] theorem sz48:szOf Tryz.prog 48 = 4:=by kernel_rfl
@[simp] theorem ag48:aggQ Tryz.prog 48 = some true:=by kernel_rfl
@[simp] theorem by48:bytesOf Tryz.prog 48 = 64:=by kernel_rfl
@[simp] theorem zo48:zeroOf Tryz.prog 48 = some (.agg [.vsl true [] 0,.vsl true [] 0,.int .i64 0,.int .i64 0]):=by kernel_rfl
attribute [simp] Tryz.underlying48
@[simp] theorem sz51:szOf Tryz.prog 51 = 4:=by kernel_rfl
@[simp] theorem ag51:aggQ Tryz.prog 51 = some true:=by kernel_rfl
@[simp] theorem by51:bytesOf Tryz.prog 51 = 64:=by kernel_rfl
@[simp] theorem zo51:zeroOf Tryz.prog 51 = some (.agg [.vsl true [] 0,.vsl true [] 0,.int .i64 0,.int .i64 0]):=by kernel_rfl
attribute [simp] Tryz.underlying51
@[simp] theorem sz57:szOf Tryz.prog 57 = 1:=by kernel_rfl
@[simp] theorem ag57:aggQ Tryz.prog 57 = some false:=by kernel_rfl
@[simp] theorem by57:bytesOf Tryz.prog 57 = 24:=by kernel_rfl
@[simp] theorem zo57:zeroOf Tryz.prog 57 = some (.vsl true [] 0):=by kernel_rfl
@[simp] theorem un57:Tryz.prog.underlying 57 = some (.slice 60):=by kernel_rfl
@[simp] theorem sz58:szOf Tryz.prog 58 = 1:=by kernel_rfl
@[simp] theorem ag58:aggQ Tryz.prog 58 = some false:=by kernel_rfl
@[simp] theorem by58:bytesOf Tryz.prog 58 = 24:=by kernel_rfl
@[simp] theorem zo58:zeroOf Tryz.prog 58 = some (.vsl true [] 0):=by kernel_rfl
@[simp] theorem un58:Tryz.prog.underlying 58 = some (.slice 9):=by kernel_rfl
@[simp] theorem sz59:szOf Tryz.prog 59 = 2:=by kernel_rfl
@[simp] theorem ag59:aggQ Tryz.prog 59 = some true:=by kernel_rfl
@[simp] theorem by59:bytesOf Tryz.prog 59 = 40:=by kernel_rfl
@[simp] theorem zo59:zeroOf Tryz.prog 59 = some (.agg [.str [],.vsl true [] 0]):=by kernel_rfl
attribute [simp] Tryz.underlying59
@[simp] theorem sz60:szOf Tryz.prog 60 = 2:=by kernel_rfl
@[simp] theorem ag60:aggQ Tryz.prog 60 = some true:=by kernel_rfl
@[simp] theorem by60:bytesOf Tryz.prog 60 = 40:=by kernel_rfl
@[simp] theorem zo60:zeroOf Tryz.prog 60 = some (.agg [.str [],.vsl true [] 0]):=by kernel_rfl
attribute [simp] Tryz.underlying60
@[simp] theorem sz65:szOf Tryz.prog 65 = 1:=by kernel_rfl
@[simp] theorem ag65:aggQ Tryz.prog 65 = some false:=by kernel_rfl
@[simp] theorem by65:bytesOf Tryz.prog 65 = 24:=by kernel_rfl
@[simp] theorem zo65:zeroOf Tryz.prog 65 = some (.vsl true [] 0):=by kernel_rfl
@[simp] theorem un65:Tryz.prog.underlying 65 = some (.slice 5):=by kernel_rfl
@[simp] theorem sz76:szOf Tryz.prog 76 = 19:=by kernel_rfl
@[simp] theorem ag76:aggQ Tryz.prog 76 = some true:=by kernel_rfl
@[simp] theorem by76:bytesOf Tryz.prog 76 = 40:=by kernel_rfl
@[simp] theorem zo76:zeroOf Tryz.prog 76 = some (.agg [.int .u8 0,.int .u8 0,.int .u8 0,.int .u8 0,.int .u8 0,.int .u8 0,.int .u8 0,.int .u8 0,.int .u8 0,.int .u8 0,.int .u8 0,.int .u8 0,.int .u8 0,.int .u8 0,.int .u8 0,.int .u8 0,.int .u64 0,.int .u64 0,.int .u64 0]):=by kernel_rfl
attribute [simp] Tryz.underlying76
@[simp] theorem sz77:szOf Tryz.prog 77 = 19:=by kernel_rfl
@[simp] theorem ag77:aggQ Tryz.prog 77 = some true:=by kernel_rfl
@[simp] theorem by77:bytesOf Tryz.prog 77 = 40:=by kernel_rfl
@[simp] theorem zo77:zeroOf Tryz.prog 77 = some (.agg [.int .u8 0,.int .u8 0,.int .u8 0,.int .u8 0,.int .u8 0,.int .u8 0,.int .u8 0,.int .u8 0,.int .u8 0,.int .u8 0,.int .u8 0,.int .u8 0,.int .u8 0,.int .u8 0,.int .u8 0,.int .u8 0,.int .u64 0,.int .u64 0,.int .u64 0]):=by kernel_rfl
attribute [simp] Tryz.underlying77
@[simp] theorem sz80:szOf Tryz.prog 80 = 1:=by kernel_rfl
@[simp] theorem ag80:aggQ Tryz.prog 80 = some false:=by kernel_rfl
@[simp] theorem by80:bytesOf Tryz.prog 80 = 24:=by kernel_rfl
@[simp] theorem zo80:zeroOf Tryz.prog 80 = some (.vsl true [] 0):=by kernel_rfl
@[simp] theorem un80:Tryz.prog.underlying 80 = some (.slice 58):=by kernel_rfl
@[simp] theorem sz83:szOf Tryz.prog 83 = 3:=by kernel_rfl
@[simp] theorem ag83:aggQ Tryz.prog 83 = some true:=by kernel_rfl
@[simp] theorem by83:bytesOf Tryz.prog 83 = 24:=by kernel_rfl
@[simp] theorem zo83:zeroOf Tryz.prog 83 = some (.agg [.int .u64 0,.int .u64 0,.int .u64 0]):=by kernel_rfl
@[simp] theorem un83:Tryz.prog.underlying 83 = some (.array 3 28):=by kernel_rfl
@[simp] theorem sz91:szOf Tryz.prog 91 = 2:=by kernel_rfl
@[simp] theorem ag91:aggQ Tryz.prog 91 = some true:=by kernel_rfl
@[simp] theorem by91:bytesOf Tryz.prog 91 = 32:=by kernel_rfl
@[simp] theorem zo91:zeroOf Tryz.prog 91 = some (.agg [.str [],.str []]):=by kernel_rfl
attribute [simp] Tryz.underlying91
@[simp] theorem sz92:szOf Tryz.prog 92 = 2:=by kernel_rfl
@[simp] theorem ag92:aggQ Tryz.prog 92 = some true:=by kernel_rfl
@[simp] theorem by92:bytesOf Tryz.prog 92 = 32:=by kernel_rfl
@[simp] theorem zo92:zeroOf Tryz.prog 92 = some (.agg [.str [],.str []]):=by kernel_rfl
attribute [simp] Tryz.underlying92
@[simp] theorem sz96:szOf Tryz.prog 96 = 36:=by kernel_rfl
@[simp] theorem ag96:aggQ Tryz.prog 96 = some true:=by kernel_rfl
@[simp] theorem by96:bytesOf Tryz.prog 96 = 64:=by kernel_rfl
@[simp] theorem zo96:zeroOf Tryz.prog 96 = some (.agg [.int .u8 0,.int .u8 0,.int .u8 0,.int .u8 0,.int .u8 0,.int .u8 0,.int .u8 0,.int .u8 0,.int .u8 0,.int .u8 0,.int .u8 0,.int .u8 0,.int .u8 0,.int .u8 0,.int .u8 0,.int .u8 0,.int .u64 0,.int .u8 0,.int .u8 0,.int .u8 0,.int .u8 0,.int .u8 0,.int .u8 0,.int .u8 0,.int .u8 0,.int .u8 0,.int .u8 0,.int .u8 0,.int .u8 0,.int .u8 0,.int .u8 0,.int .u8 0,.int .u8 0,.int .u64 0,.int .u64 0,.int .u64 0]):=by kernel_rfl
attribute [simp] Tryz.underlying96
@[simp] theorem sz97:szOf Tryz.prog 97 = 36:=by kernel_rfl
@[simp] theorem ag97:aggQ Tryz.prog 97 = some true:=by kernel_rfl
@[simp] theorem by97:bytesOf Tryz.prog 97 = 64:=by kernel_rfl
@[simp] theorem zo97:zeroOf Tryz.prog 97 = some (.agg [.int .u8 0,.int .u8 0,.int .u8 0,.int .u8 0,.int .u8 0,.int .u8 0,.int .u8 0,.int .u8 0,.int .u8 0,.int .u8 0,.int .u8 0,.int .u8 0,.int .u8 0,.int .u8 0,.int .u8 0,.int .u8 0,.int .u64 0,.int .u8 0,.int .u8 0,.int .u8 0,.int .u8 0,.int .u8 0,.int .u8 0,.int .u8 0,.int .u8 0,.int .u8 0,.int .u8 0,.int .u8 0,.int .u8 0,.int .u8 0,.int .u8 0,.int .u8 0,.int .u8 0,.int .u64 0,.int .u64 0,.int .u64 0]):=by kernel_rfl
attribute [simp] Tryz.underlying97
@[simp] theorem sz111:szOf Tryz.prog 111 = 1:=by kernel_rfl
@[simp] theorem ag111:aggQ Tryz.prog 111 = some false:=by kernel_rfl
@[simp] theorem by111:bytesOf Tryz.prog 111 = 8:=by kernel_rfl
@[simp] theorem zo111:zeroOf Tryz.prog 111 = some (.nilp):=by kernel_rfl
@[simp] theorem un111:Tryz.prog.underlying 111 = some (.pointer 113):=by kernel_rfl
@[simp] theorem sz112:szOf Tryz.prog 112 = 2:=by kernel_rfl
@[simp] theorem ag112:aggQ Tryz.prog 112 = some true:=by kernel_rfl
@[simp] theorem by112:bytesOf Tryz.prog 112 = 32:=by kernel_rfl
@[simp] theorem zo112:zeroOf Tryz.prog 112 = some (.agg [.nilp,.vsl true [] 0]):=by kernel_rfl
attribute [simp] Tryz.underlying112
@[simp] theorem sz113:szOf Tryz.prog 113 = 2:=by kernel_rfl
@[simp] theorem ag113:aggQ Tryz.prog 113 = some true:=by kernel_rfl
@[simp] theorem by113:bytesOf Tryz.prog 113 = 32:=by kernel_rfl
@[simp] theorem zo113:zeroOf Tryz.prog 113 = some (.agg [.nilp,.vsl true [] 0]):=by kernel_rfl
attribute [simp] Tryz.underlying113
@[simp] theorem sz115:szOf Tryz.prog 115 = 36:=by kernel_rfl
@[simp] theorem ag115:aggQ Tryz.prog 115 = some true:=by kernel_rfl
@[simp] theorem by115:bytesOf Tryz.prog 115 = 64:=by kernel_rfl
@[simp] theorem zo115:zeroOf Tryz.prog 115 = some (.agg [.int .u8 0,.int .u8 0,.int .u8 0,.int .u8 0,.int .u8 0,.int .u8 0,.int .u8 0,.int .u8 0,.int .u8 0,.int .u8 0,.int .u8 0,.int .u8 0,.int .u8 0,.int .u8 0,.int .u8 0,.int .u8 0,.int .u64 0,.int .u8 0,.int .u8 0,.int .u8 0,.int .u8 0,.int .u8 0,.int .u8 0,.int .u8 0,.int .u8 0,.int .u8 0,.int .u8 0,.int .u8 0,.int .u8 0,.int .u8 0,.int .u8 0,.int .u8 0,.int .u8 0,.int .u64 0,.int .u64 0,.int .u64 0]):=by kernel_rfl
attribute [simp] Tryz.underlying115
@[simp] theorem sz125:szOf Tryz.prog 125 = 1:=by kernel_rfl
@[simp] theorem ag125:aggQ Tryz.prog 125 = some false:=by kernel_rfl
@[simp] theorem by125:bytesOf Tryz.prog 125 = 8:=by kernel_rfl
@[simp] theorem zo125:zeroOf Tryz.prog 125 = some (.nilf):=by kernel_rfl
@[simp] theorem sz132:szOf Tryz.prog 132 = 1:=by kernel_rfl
@[simp] theorem ag132:aggQ Tryz.prog 132 = some false:=by kernel_rfl
@[simp] theorem by132:bytesOf Tryz.prog 132 = 24:=by kernel_rfl
@[simp] theorem zo132:zeroOf Tryz.prog 132 = some (.vsl true [] 0):=by kernel_rfl
@[simp] theorem un132:Tryz.prog.underlying 132 = some (.slice 28):=by kernel_rfl
@[simp] theorem sz141:szOf Tryz.prog 141 = 1:=by kernel_rfl
@[simp] theorem ag141:aggQ Tryz.prog 141 = some false:=by kernel_rfl
@[simp] theorem by141:bytesOf Tryz.prog 141 = 8:=by kernel_rfl
@[simp] theorem zo141:zeroOf Tryz.prog 141 = some (.int .u64 0):=by kernel_rfl
@[simp] theorem cq141:cmpQ Tryz.prog 141 = true:=by kernel_rfl
@[simp] theorem un141:Tryz.prog.underlying 141 = some (.int .u64):=by kernel_rfl
@[simp] theorem sz142:szOf Tryz.prog 142 = 1:=by kernel_rfl
@[simp] theorem ag142:aggQ Tryz.prog 142 = some false:=by kernel_rfl
@[simp] theorem by142:bytesOf Tryz.prog 142 = 24:=by kernel_rfl
@[simp] theorem zo142:zeroOf Tryz.prog 142 = some (.vsl true [] 0):=by kernel_rfl
@[simp] theorem un142:Tryz.prog.underlying 142 = some (.slice 65):=by kernel_rfl
@[simp] theorem sz150:szOf Tryz.prog 150 = 1:=by kernel_rfl
@[simp] theorem ag150:aggQ Tryz.prog 150 = some false:=by kernel_rfl
@[simp] theorem by150:bytesOf Tryz.prog 150 = 8:=by kernel_rfl
@[simp] theorem zo150:zeroOf Tryz.prog 150 = some (.nilf):=by kernel_rfl
@[simp] theorem sz160:szOf Tryz.prog 160 = 1:=by kernel_rfl
@[simp] theorem ag160:aggQ Tryz.prog 160 = some false:=by kernel_rfl
@[simp] theorem by160:bytesOf Tryz.prog 160 = 8:=by kernel_rfl
@[simp] theorem zo160:zeroOf Tryz.prog 160 = some (.nilf):=by kernel_rfl
@[simp] theorem sz164:szOf Tryz.prog 164 = 24:=by kernel_rfl
@[simp] theorem ag164:aggQ Tryz.prog 164 = some true:=by kernel_rfl
@[simp] theorem by164:bytesOf Tryz.prog 164 = 24:=by kernel_rfl
@[simp] theorem zo164:zeroOf Tryz.prog 164 = some (.agg [.int .u8 0,.int .u8 0,.int .u8 0,.int .u8 0,.int .u8 0,.int .u8 0,.int .u8 0,.int .u8 0,.int .u8 0,.int .u8 0,.int .u8 0,.int .u8 0,.int .u8 0,.int .u8 0,.int .u8 0,.int .u8 0,.int .u8 0,.int .u8 0,.int .u8 0,.int .u8 0,.int .u8 0,.int .u8 0,.int .u8 0,.int .u8 0]):=by kernel_rfl
@[simp] theorem un164:Tryz.prog.underlying 164 = some (.array 24 5):=by kernel_rfl
@[simp] theorem sz169:szOf Tryz.prog 169 = 1:=by kernel_rfl
@[simp] theorem ag169:aggQ Tryz.prog 169 = some false:=by kernel_rfl
@[simp] theorem by169:bytesOf Tryz.prog 169 = 4:=by kernel_rfl
@[simp] theorem zo169:zeroOf Tryz.prog 169 = some (.int .u32 0):=by kernel_rfl
@[simp] theorem cq169:cmpQ Tryz.prog 169 = true:=by kernel_rfl
@[simp] theorem un169:Tryz.prog.underlying 169 = some (.int .u32):=by kernel_rfl
@[simp] theorem sz172:szOf Tryz.prog 172 = 3:=by kernel_rfl
@[simp] theorem ag172:aggQ Tryz.prog 172 = some true:=by kernel_rfl
@[simp] theorem by172:bytesOf Tryz.prog 172 = 12:=by kernel_rfl
@[simp] theorem zo172:zeroOf Tryz.prog 172 = some (.agg [.int .u32 0,.int .u32 0,.int .u32 0]):=by kernel_rfl
attribute [simp] Tryz.underlying172
@[simp] theorem sz173:szOf Tryz.prog 173 = 3:=by kernel_rfl
@[simp] theorem ag173:aggQ Tryz.prog 173 = some true:=by kernel_rfl
@[simp] theorem by173:bytesOf Tryz.prog 173 = 12:=by kernel_rfl
@[simp] theorem zo173:zeroOf Tryz.prog 173 = some (.agg [.int .u32 0,.int .u32 0,.int .u32 0]):=by kernel_rfl
attribute [simp] Tryz.underlying173
@[simp] theorem sz175:szOf Tryz.prog 175 = 12:=by kernel_rfl
@[simp] theorem ag175:aggQ Tryz.prog 175 = some true:=by kernel_rfl
@[simp] theorem by175:bytesOf Tryz.prog 175 = 12:=by kernel_rfl
@[simp] theorem zo175:zeroOf Tryz.prog 175 = some (.agg [.int .u8 0,.int .u8 0,.int .u8 0,.int .u8 0,.int .u8 0,.int .u8 0,.int .u8 0,.int .u8 0,.int .u8 0,.int .u8 0,.int .u8 0,.int .u8 0]):=by kernel_rfl
@[simp] theorem un175:Tryz.prog.underlying 175 = some (.array 12 5):=by kernel_rfl
@[simp] theorem sz177:szOf Tryz.prog 177 = 1:=by kernel_rfl
@[simp] theorem ag177:aggQ Tryz.prog 177 = some false:=by kernel_rfl
@[simp] theorem by177:bytesOf Tryz.prog 177 = 8:=by kernel_rfl
@[simp] theorem zo177:zeroOf Tryz.prog 177 = some (.int .i64 0):=by kernel_rfl
@[simp] theorem cq177:cmpQ Tryz.prog 177 = true:=by kernel_rfl
@[simp] theorem un177:Tryz.prog.underlying 177 = some (.int .i64):=by kernel_rfl
@[simp] theorem sz186:szOf Tryz.prog 186 = 20:=by kernel_rfl
@[simp] theorem ag186:aggQ Tryz.prog 186 = some true:=by kernel_rfl
@[simp] theorem by186:bytesOf Tryz.prog 186 = 160:=by kernel_rfl
@[simp] theorem zo186:zeroOf Tryz.prog 186 = some (.agg [.int .u64 0,.int .u64 0,.int .u64 0,.int .u64 0,.int .u64 0,.int .u64 0,.int .u64 0,.int .u64 0,.int .u64 0,.int .u64 0,.int .u64 0,.int .u64 0,.int .u64 0,.int .u64 0,.int .u64 0,.int .u64 0,.int .u64 0,.int .u64 0,.int .u64 0,.int .u64 0]):=by kernel_rfl
@[simp] theorem un186:Tryz.prog.underlying 186 = some (.array 20 28):=by kernel_rfl
@[simp] theorem sz187:szOf Tryz.prog 187 = 65:=by kernel_rfl
@[simp] theorem ag187:aggQ Tryz.prog 187 = some true:=by kernel_rfl
@[simp] theorem by187:bytesOf Tryz.prog 187 = 65:=by kernel_rfl
@[simp] theorem zo187:zeroOf Tryz.prog 187 = some (.agg (List.replicate 65 (.int .u8 0))):=by kernel_rfl
@[simp] theorem un187:Tryz.prog.underlying 187 = some (.array 65 5):=by kernel_rfl
@[simp] theorem sz192:szOf Tryz.prog 192 = 1:=by kernel_rfl
@[simp] theorem ag192:aggQ Tryz.prog 192 = some false:=by kernel_rfl
@[simp] theorem by192:bytesOf Tryz.prog 192 = 8:=by kernel_rfl
@[simp] theorem zo192:zeroOf Tryz.prog 192 = some (.int .u64 0):=by kernel_rfl
@[simp] theorem cq192:cmpQ Tryz.prog 192 = true:=by kernel_rfl
@[simp] theorem un192:Tryz.prog.underlying 192 = some (.int .u64):=by kernel_rfl
@[simp] theorem sz196:szOf Tryz.prog 196 = 1:=by kernel_rfl
@[simp] theorem ag196:aggQ Tryz.prog 196 = some false:=by kernel_rfl
@[simp] theorem by196:bytesOf Tryz.prog 196 = 8:=by kernel_rfl
@[simp] theorem zo196:zeroOf Tryz.prog 196 = some (.nilp):=by kernel_rfl
@[simp] theorem un196:Tryz.prog.underlying 196 = some (.pointer 3):=by kernel_rfl
@[simp] theorem sz201:szOf Tryz.prog 201 = 32:=by kernel_rfl
@[simp] theorem ag201:aggQ Tryz.prog 201 = some true:=by kernel_rfl
@[simp] theorem by201:bytesOf Tryz.prog 201 = 32:=by kernel_rfl
@[simp] theorem zo201:zeroOf Tryz.prog 201 = some (.agg (List.replicate 32 (.int .u8 0))):=by kernel_rfl
@[simp] theorem un201:Tryz.prog.underlying 201 = some (.array 32 5):=by kernel_rfl
@[simp] theorem sz202:szOf Tryz.prog 202 = 64:=by kernel_rfl
@[simp] theorem ag202:aggQ Tryz.prog 202 = some true:=by kernel_rfl
@[simp] theorem by202:bytesOf Tryz.prog 202 = 64:=by kernel_rfl
@[simp] theorem zo202:zeroOf Tryz.prog 202 = some (.agg (List.replicate 64 (.int .u8 0))):=by kernel_rfl
@[simp] theorem un202:Tryz.prog.underlying 202 = some (.array 64 5):=by kernel_rfl
@[simp] theorem pl3:plainTy Tryz.prog 50 3 = some ([.i]):=by kernel_rfl
@[simp] theorem eg3:Tryz.prog.eqGuardType Tryz.prog.depth 3 = false:=by kernel_rfl
@[simp] theorem pl4:plainTy Tryz.prog 50 4 = some ([.b]):=by kernel_rfl
@[simp] theorem eg4:Tryz.prog.eqGuardType Tryz.prog.depth 4 = false:=by kernel_rfl
@[simp] theorem pl5:plainTy Tryz.prog 50 5 = some ([.i]):=by kernel_rfl
@[simp] theorem eg5:Tryz.prog.eqGuardType Tryz.prog.depth 5 = false:=by kernel_rfl
@[simp] theorem pl9:plainTy Tryz.prog 50 9 = some ([.s]):=by kernel_rfl
@[simp] theorem eg9:Tryz.prog.eqGuardType Tryz.prog.depth 9 = false:=by kernel_rfl
@[simp] theorem pl28:plainTy Tryz.prog 50 28 = some ([.i]):=by kernel_rfl
@[simp] theorem eg28:Tryz.prog.eqGuardType Tryz.prog.depth 28 = false:=by kernel_rfl
@[simp] theorem pl30:plainTy Tryz.prog 50 30 = some ([.i,.i,.i,.i,.i,.i,.i,.i,.i,.i,.i,.i,.i,.i,.i,.i]):=by kernel_rfl
@[simp] theorem eg30:Tryz.prog.eqGuardType Tryz.prog.depth 30 = false:=by kernel_rfl
@[simp] theorem pl77:plainTy Tryz.prog 50 77 = some ([.i,.i,.i,.i,.i,.i,.i,.i,.i,.i,.i,.i,.i,.i,.i,.i,.i,.i,.i]):=by kernel_rfl
@[simp] theorem eg77:Tryz.prog.eqGuardType Tryz.prog.depth 77 = false:=by kernel_rfl
@[simp] theorem pl92:plainTy Tryz.prog 50 92 = some ([.s,.s]):=by kernel_rfl
@[simp] theorem eg92:Tryz.prog.eqGuardType Tryz.prog.depth 92 = false:=by kernel_rfl
@[simp] theorem pl169:plainTy Tryz.prog 50 169 = some ([.i]):=by kernel_rfl
@[simp] theorem eg169:Tryz.prog.eqGuardType Tryz.prog.depth 169 = false:=by kernel_rfl
@[simp] theorem pl177:plainTy Tryz.prog 50 177 = some ([.i]):=by kernel_rfl
@[simp] theorem eg177:Tryz.prog.eqGuardType Tryz.prog.depth 177 = false:=by kernel_rfl
end Go.Ev.S
namespace Go.Ev.S
open Go Go.Proofs Go.Ev
theorem keqid_ev [TxtC] (m:Mk) (id:ID):call cx 111 [.agg (Enc.cells m),.vptr (ofBytes id.l)] [] = some (.bool (m.id == id),[]):=by
 refine call_run Tryz.func111 rfl ⟨rfl,rfl⟩ ?_
 simp [Tryz.f111,Mk.cells]

def find? {α:Type} (p:α→Bool):List α→Int→Int
 | [],_=>-1
 | m :: l,i=>if p m then i else find? p l (i+1)

theorem kindex_ev [TxtC] (s:Sl Mk) (hn:s.l.length < 4611686018427387904) (f:Nat) (caps:List D) (p:Mk→Bool) (hb:cx.byRef f = false) (hpm:cx.perm f = false) (hcaps:∀ x∈caps,idFree x = true)
  (hg:∀ m∈s.l,call cx f (.agg (Enc.cells m) :: caps) [] = some (.bool (p m),[])):call cx 110 [(.vsl s.nil (encs s.l) s.l.length),.fn f caps] [] = some (.int .i64 (find? p s.l 0),[]):=by
 have hcaps':=eq_true hcaps
 refine call_run Tryz.func110 rfl ⟨rfl,rfl⟩ ?_
 simp [Tryz.f110]
 refine Run.loopThen (fun (i:Nat) e H=>i≤s.l.length∧H = []∧look e 0 = some (.vsl s.nil (encs s.l) s.l.length)∧look e 1 = some (.fn f caps)∧look e 7 = some (.int .i64 s.l.length)∧look e 8 = some (.int .i64 i)∧find? p s.l 0 = find? p (s.l.drop i) i) (fun i=>s.l.length - i) 0 (by simp) ?_
 rintro i e H ⟨hi,rfl,h0,h1,h7,h8,hf⟩
 by_cases hlt:i < s.l.length
 ·have hlt':((i:Int) < (s.l.length:Int)):=by omega
  have hd:s.l.drop i = s.l[i] :: s.l.drop (i+1):=List.drop_eq_getElem_cons hlt
  have hc:=hg s.l[i] (List.getElem_mem hlt)
  have hw:IntKind.i64.wrap ((i:Int)+1) = ((i+1:Nat):Int):=by rw [wrap_i64] <;> omega
  rw [hd,find?] at hf
  cases hp:p s.l[i] with
  | true =>
   rw [hp,if_pos rfl] at hf
   simp [h0,h1,h7,h8,hlt',hlt,Sl.nn hlt,hc,hb,hpm,hp,hf,hcaps']
  | false =>
   rw [hp,if_neg (by decide)] at hf
   simp [h0,h1,h7,h8,hlt',hlt,Sl.nn hlt,hc,hb,hpm,hp,hf,hcaps',hw]
   exact ⟨i+1,by omega,by omega,rfl,rfl⟩
 ·have hlt':¬ ((i:Int) < (s.l.length:Int)):=by omega
  have hd:s.l.drop i = []:=List.drop_eq_nil_of_le (by omega)
  rw [hd] at hf
  simp [h0,h1,h7,h8,hlt',hf,find?]

theorem kfind_ev [TxtC] (s:Sl Mk) (hn:s.l.length < 4611686018427387904) (id:ID) :
  call cx 93 [(.vsl s.nil (encs s.l) s.l.length),.agg (ofBytes id.l)] [] = some (.int .i64 (find? (fun m=>m.id == id) s.l 0),[]):=by
 have h:=kindex_ev s hn 111 [.vptr (ofBytes id.l)] (fun m=>m.id == id) rfl rfl (by simp [idFree]) (fun m hm=>keqid_ev m id)
 refine call_run Tryz.func93 rfl ⟨rfl,rfl⟩ ?_
 simp [Tryz.f93,h]

theorem find?_spec {α:Type} (p:α→Bool):∀ (l:List α) (k:Int),(∃ (i:Nat) (m:α),l[i]? = some m∧i < l.length∧p m = true∧find? p l k = k+i∧l.find? p = some m)∨(find? p l k = -1∧l.find? p = none)
 | [],k=>.inr ⟨rfl,rfl⟩
 | m :: l,k=>by
  cases hp:p m with
  | true=>exact .inl ⟨0,m,rfl,by simp,hp,by simp [find?,hp],by simp [hp]⟩
  | false =>
   rcases find?_spec p l (k+1) with ⟨i,m',h1,h2,h3,h4,h5⟩ | ⟨h1,h2⟩
   ·exact .inl ⟨i+1,m',by simpa using h1,by simpa using h2,h3,by simp [find?,hp,h4];omega,by simp [hp,h5]⟩
   ·exact .inr ⟨by simp [find?,hp,h1],by simp [hp,h2]⟩

def getM (l:List Mk) (id:ID):Mk:=(l.find? fun m=>m.id == id).getD ⟨id,0,0,0⟩
theorem kget_ev [TxtC] (s:Sl Mk) (hn:s.l.length < 4611686018427387904) (id:ID) :
  call cx 69 [(.vsl s.nil (encs s.l) s.l.length),.agg (ofBytes id.l)] [] = some (.agg (Enc.cells (getM s.l id)),[]):=by
 have h:=kfind_ev s hn id
 refine call_run Tryz.func69 rfl ⟨rfl,rfl⟩ ?_
 rcases find?_spec (fun m=>m.id == id) s.l 0 with ⟨i,m,h1,h2,h3,h4,h5⟩ | ⟨h1,h2⟩
 ·rw [h4,Sl.nn h2] at h
  have hg:s.l[i] = m:=by rw [List.getElem?_eq_getElem h2] at h1;exact Option.some.inj h1
  simp [Tryz.f69,h,h2,Sl.nn h2,hg,getM,h5]
 ·rw [h1] at h
  simp [Tryz.f69,h,getM,h2,Mk.cells,List.take_of_length_le]
theorem getM_id (l:List Mk) (id:ID):(getM l id).id = id:=by
 unfold getM
 cases h:l.find? (fun m=>m.id == id) with
 | none=>rfl
 | some m=>simpa using List.find?_some h
theorem getM_ok {l:List Mk} (hl:∀ m∈l,m.Ok) (id:ID):(getM l id).Ok:=by
 unfold getM
 cases h:l.find? (fun m=>m.id == id) with
 | none=>exact ⟨by simp [isU64],by simp [isU64],by simp [isU64]⟩
 | some m=>exact hl m (List.mem_of_find?_eq_some h)
end Go.Ev.S
namespace Go.Ev
open Go Go.Proofs
structure Pr where
 name:List UInt8
 value:List UInt8
 deriving DecidableEq
instance:Enc Pr:=⟨2,fun p=>[.str p.name,.str p.value],fun _=>rfl,fun _=>rfl⟩
theorem Pr.cells (p:Pr):Enc.cells p = [.str p.name,.str p.value]:=rfl
@[simp] theorem Pr.size:Enc.size Pr = 2:=rfl
@[simp] theorem Pr.cl (a:Pr):(Enc.cells a).length = 2:=Enc.len a
@[simp] theorem Pr.ct (a:Pr) (r:List D):(Enc.cells a ++ r).take 2 = Enc.cells a:=cells_take rfl a r
@[simp] theorem Pr.ct' (a:Pr):(Enc.cells a).take 2 = Enc.cells a:=cells_take' rfl a
@[simp] theorem Pr.cd (a:Pr) (r:List D):(Enc.cells a ++ r).drop 2 = r:=cells_drop rfl a r
@[simp] theorem Pr.el (l:List Pr):(encs l).length = l.length * 2:=encs_len' rfl l
@[simp] theorem Pr.ed (l:List Pr) (i:Nat):(encs l).drop (i * 2) = encs (l.drop i):=encs_drop rfl l i
@[simp] theorem Pr.et (l:List Pr) (i:Nat):(encs l).take (i * 2) = encs (l.take i):=encs_take rfl l i
@[simp high] theorem Pr.ea {l:List Pr} {i:Nat} (h:i < l.length):(encs l).drop (i * 2) = Enc.cells l[i] ++ encs (l.drop (i+1)):=encs_at rfl h
@[simp high] theorem Pr.es (m:Pr) {l:List Pr} {j:Nat} (h:j < l.length):setRange (encs l) (j * 2) (Enc.cells m) = encs (l.set j m):=encs_set rfl m l h
structure Rec where
 seq:Int
 real:Int
 mono:Int
 boot:ID
 fields:Sl Pr
instance:Enc Rec:=⟨20,fun r=>[.int .u64 r.seq,.int .u64 r.real,.int .u64 r.mono] ++ (ofBytes r.boot.l ++ [(.vsl r.fields.nil (encs r.fields.l) r.fields.l.length)]),fun r=>by simp,fun r=>by simp [idFree]⟩
theorem Rec.cells (r:Rec):Enc.cells r = [.int .u64 r.seq,.int .u64 r.real,.int .u64 r.mono] ++ (ofBytes r.boot.l ++ [(.vsl r.fields.nil (encs r.fields.l) r.fields.l.length)]):=rfl
@[simp] theorem Rec.size:Enc.size Rec = 20:=rfl
structure Rec.Ok (r:Rec):Prop where
 seq:isU64 r.seq
 real:isU64 r.real
 mono:isU64 r.mono
@[simp] theorem Rec.cl (a:Rec):(Enc.cells a).length = 20:=Enc.len a
@[simp] theorem Rec.ct (a:Rec) (r:List D):(Enc.cells a ++ r).take 20 = Enc.cells a:=cells_take rfl a r
@[simp] theorem Rec.ct' (a:Rec):(Enc.cells a).take 20 = Enc.cells a:=cells_take' rfl a
@[simp] theorem Rec.cd (a:Rec) (r:List D):(Enc.cells a ++ r).drop 20 = r:=cells_drop rfl a r
@[simp] theorem Rec.el (l:List Rec):(encs l).length = l.length * 20:=encs_len' rfl l
@[simp] theorem Rec.ed (l:List Rec) (i:Nat):(encs l).drop (i * 20) = encs (l.drop i):=encs_drop rfl l i
@[simp] theorem Rec.et (l:List Rec) (i:Nat):(encs l).take (i * 20) = encs (l.take i):=encs_take rfl l i
@[simp high] theorem Rec.ea {l:List Rec} {i:Nat} (h:i < l.length):(encs l).drop (i * 20) = Enc.cells l[i] ++ encs (l.drop (i+1)):=encs_at rfl h
@[simp high] theorem Rec.es (m:Rec) {l:List Rec} {j:Nat} (h:j < l.length):setRange (encs l) (j * 20) (Enc.cells m) = encs (l.set j m):=encs_set rfl m l h
structure It where
 id:ID
 gap:Bool
 fr:Int
 til:Int
 rc:Rec
instance:Enc It:=⟨39,fun i=>ofBytes i.id.l ++ ([.bool i.gap,.int .u64 i.fr,.int .u64 i.til] ++ Enc.cells i.rc),fun i=>by simp,fun i=>by simp [idFree]⟩
theorem It.cells (i:It):Enc.cells i = ofBytes i.id.l ++ ([.bool i.gap,.int .u64 i.fr,.int .u64 i.til] ++ ([.int .u64 i.rc.seq,.int .u64 i.rc.real,.int .u64 i.rc.mono] ++ (ofBytes i.rc.boot.l ++ [(.vsl i.rc.fields.nil (encs i.rc.fields.l) i.rc.fields.l.length)]))):=rfl
@[simp] theorem It.size:Enc.size It = 39:=rfl
structure It.Ok (i:It):Prop where
 fr:isU64 i.fr
 til:isU64 i.til
 rc:i.rc.Ok
@[simp] theorem It.cl (a:It):(Enc.cells a).length = 39:=Enc.len a
@[simp] theorem It.ct (a:It) (r:List D):(Enc.cells a ++ r).take 39 = Enc.cells a:=cells_take rfl a r
@[simp] theorem It.ct' (a:It):(Enc.cells a).take 39 = Enc.cells a:=cells_take' rfl a
@[simp] theorem It.cd (a:It) (r:List D):(Enc.cells a ++ r).drop 39 = r:=cells_drop rfl a r
@[simp] theorem It.el (l:List It):(encs l).length = l.length * 39:=encs_len' rfl l
@[simp] theorem It.ed (l:List It) (i:Nat):(encs l).drop (i * 39) = encs (l.drop i):=encs_drop rfl l i
@[simp] theorem It.et (l:List It) (i:Nat):(encs l).take (i * 39) = encs (l.take i):=encs_take rfl l i
@[simp high] theorem It.ea {l:List It} {i:Nat} (h:i < l.length):(encs l).drop (i * 39) = Enc.cells l[i] ++ encs (l.drop (i+1)):=encs_at rfl h
@[simp high] theorem It.es (m:It) {l:List It} {j:Nat} (h:j < l.length):setRange (encs l) (j * 39) (Enc.cells m) = encs (l.set j m):=encs_set rfl m l h
@[simp] theorem It.t16 (i:It):(Enc.cells i).take 16 = ofBytes i.id.l:=by simp [It.cells]
@[simp] theorem It.t16' (i:It) (r:List D):(Enc.cells i ++ r).take 16 = ofBytes i.id.l:=by simp [It.cells]
@[simp] theorem It.d16 (i:It):(Enc.cells i).drop 16 = .bool i.gap :: .int .u64 i.fr :: .int .u64 i.til :: .int .u64 i.rc.seq :: .int .u64 i.rc.real :: .int .u64 i.rc.mono :: (ofBytes i.rc.boot.l ++ [(.vsl i.rc.fields.nil (encs i.rc.fields.l) i.rc.fields.l.length)]):=by simp [It.cells]
@[simp] theorem It.d17 (i:It):(Enc.cells i).drop 17 = .int .u64 i.fr :: .int .u64 i.til :: .int .u64 i.rc.seq :: .int .u64 i.rc.real :: .int .u64 i.rc.mono :: (ofBytes i.rc.boot.l ++ [(.vsl i.rc.fields.nil (encs i.rc.fields.l) i.rc.fields.l.length)]):=by simp [It.cells,List.drop_append,drop_bytes]
@[simp] theorem It.d18 (i:It):(Enc.cells i).drop 18 = .int .u64 i.til :: .int .u64 i.rc.seq :: .int .u64 i.rc.real :: .int .u64 i.rc.mono :: (ofBytes i.rc.boot.l ++ [(.vsl i.rc.fields.nil (encs i.rc.fields.l) i.rc.fields.l.length)]):=by simp [It.cells,List.drop_append,drop_bytes]
@[simp] theorem It.d19 (i:It):(Enc.cells i).drop 19 = .int .u64 i.rc.seq :: .int .u64 i.rc.real :: .int .u64 i.rc.mono :: (ofBytes i.rc.boot.l ++ [(.vsl i.rc.fields.nil (encs i.rc.fields.l) i.rc.fields.l.length)]):=by simp [It.cells,List.drop_append,drop_bytes]
@[simp] theorem It.d20 (i:It):(Enc.cells i).drop 20 = .int .u64 i.rc.real :: .int .u64 i.rc.mono :: (ofBytes i.rc.boot.l ++ [(.vsl i.rc.fields.nil (encs i.rc.fields.l) i.rc.fields.l.length)]):=by simp [It.cells,List.drop_append,drop_bytes]
@[simp] theorem It.d21 (i:It):(Enc.cells i).drop 21 = .int .u64 i.rc.mono :: (ofBytes i.rc.boot.l ++ [(.vsl i.rc.fields.nil (encs i.rc.fields.l) i.rc.fields.l.length)]):=by simp [It.cells,List.drop_append,drop_bytes]
@[simp] theorem It.d22 (i:It):(Enc.cells i).drop 22 = ofBytes i.rc.boot.l ++ [(.vsl i.rc.fields.nil (encs i.rc.fields.l) i.rc.fields.l.length)]:=by simp [It.cells,List.drop_append,drop_bytes]
@[simp] theorem It.d38 (i:It):(Enc.cells i).drop 38 = [(.vsl i.rc.fields.nil (encs i.rc.fields.l) i.rc.fields.l.length)]:=by simp [It.cells,List.drop_append,drop_bytes]
end Go.Ev
namespace Go.Ev
open Go Go.Proofs
def leN:List UInt8→Nat
 | []=>0
 | b :: l=>b.toNat+256 * leN l
def leB:Nat→Nat→List UInt8
 | 0,_=>[]
 | n+1,v=>UInt8.ofNat (v % 256) :: leB n (v / 256)
@[simp] theorem leB_len:∀ (n v:Nat),(leB n v).length = n
 | 0,_=>rfl
 | n+1,v=>by simp [leB,leB_len n]
theorem leN_lt:∀ (l:List UInt8),leN l < 256 ^ l.length
 | []=>by simp [leN]
 | b :: l=>by
  have h1:=leN_lt l
  have h2:=b.toNat_lt
  simp only [leN,List.length_cons,Nat.pow_succ]
  omega
theorem leB_snoc:∀ (n v:Nat),leB (n+1) v = leB n v ++ [UInt8.ofNat (v / 256 ^ n % 256)]
 | 0,v=>by simp [leB]
 | n+1,v=>by
  rw [leB,leB_snoc n (v / 256),leB,List.cons_append,Nat.div_div_eq_div_mul,Nat.pow_succ,Nat.mul_comm 256]
theorem ofBytes_cons (a:UInt8) (b:List UInt8):ofBytes (a :: b) = .int .u8 (a.toNat:Int) :: ofBytes b:=rfl
theorem ofBytes_drop (l:List UInt8) (i:Nat):(ofBytes l).drop i = ofBytes (l.drop i):=by simp [ofBytes]
theorem ofBytes_take (l:List UInt8) (i:Nat):(ofBytes l).take i = ofBytes (l.take i):=by simp [ofBytes]
theorem ofBytes_at {l:List UInt8} {i:Nat} (h:i < l.length):(ofBytes l).drop i = .int .u8 (l[i].toNat:Int) :: ofBytes (l.drop (i+1)):=by
 rw [ofBytes_drop,List.drop_eq_getElem_cons h,ofBytes_cons]
theorem ofBytes_get {l:List UInt8} {i:Nat} (h:i < (ofBytes l).length):(ofBytes l)[i] = .int .u8 ((l[i]'(by simpa using h)).toNat:Int):=by simp [ofBytes]
@[simp] theorem bytesD_of (s:List UInt8):bytesD (ofBytes s) = some s:=by
 induction s with
 | nil=>rfl
 | cons a s ih =>
  have:bytesD (ofBytes (a :: s)) = (bytesD (ofBytes s)).map fun r=>UInt8.ofNat ((a.toNat:Int)).toNat :: r:=rfl
  rw [this,ih]
  simp
theorem or_shl (x y:Nat) (h:y < 256):(x * 256) ||| y = x * 256+y:=by
 have:=Nat.shiftLeft_add_eq_or_of_lt (b:=y) (i:=8) (by simpa using h) x
 rw [Nat.shiftLeft_eq] at this
 simpa using this.symm
def BufE {α:Type} [Enc α] (n:Nat) (d:D) (H:Heap) (l:List α):Prop:=(d = .vsl true [] 0∧l = []∧H = [])∨(d = .osl 0 (l.length * n) 0 l.length n∧H = [some (encs l)]∧l≠[])
theorem BufE.one {α:Type} [Enc α] {n:Nat} (a:α):BufE n (.osl 0 n 0 1 n) [some (Enc.cells a)] ([] ++ [a]) :=
 .inr ⟨by simp,by simp [encs_one],by simp⟩
def Sl.grown {α:Type} (l:List α):Sl α:=⟨l.isEmpty,l,by simp⟩
@[simp] theorem Sl.grown_l {α:Type} (l:List α):(Sl.grown l).l = l:=rfl
end Go.Ev
namespace Go.Ev
open Go Go.Proofs
section
variable {P:Program} {n:Nat} {t e:TypeId} {cs:List D}
theorem has_bool (hu:P.underlying t = some .bool) (h:HasT P (n+1) t cs):∃ b,cs = [.bool b]:=by
 unfold HasT at h;rw [hu] at h;exact h
theorem has_int {k:IntKind} (hu:P.underlying t = some (.int k)) (h:HasT P (n+1) t cs):∃ x,cs = [.int k x]∧(Lit.int k x).wf = true:=by
 unfold HasT at h;rw [hu] at h;exact h
theorem has_u64 (hu:P.underlying t = some (.int .u64)) (h:HasT P (n+1) t cs):∃ x,cs = [.int .u64 x]∧isU64 x:=by
 obtain ⟨x,h1,h2⟩:=has_int hu h
 refine ⟨x,h1,?_⟩
 simp [Lit.wf,IntKind.min,IntKind.max,IntKind.signed,IntKind.bits] at h2
 unfold isU64
 omega
def isI64 (n:Int):Prop:= -9223372036854775808≤n∧n < 9223372036854775808
theorem has_i64 (hu:P.underlying t = some (.int .i64)) (h:HasT P (n+1) t cs):∃ x,cs = [.int .i64 x]∧isI64 x:=by
 obtain ⟨x,h1,h2⟩:=has_int hu h
 refine ⟨x,h1,?_⟩
 simp [Lit.wf,IntKind.min,IntKind.max,IntKind.signed,IntKind.bits] at h2
 unfold isI64
 omega
theorem has_u8 (hu:P.underlying t = some (.int .u8)) (h:HasT P (n+1) t cs):∃ x:UInt8,cs = [.int .u8 x.toNat]:=by
 obtain ⟨x,h1,h2⟩:=has_int hu h
 simp [Lit.wf,IntKind.min,IntKind.max,IntKind.signed,IntKind.bits] at h2
 refine ⟨UInt8.ofNat x.toNat,?_⟩
 rw [h1,UInt8.toNat_ofNat_of_lt' (by simp;omega)]
 congr 2
 omega
theorem has_str (hu:P.underlying t = some .string) (h:HasT P (n+1) t cs):∃ s,cs = [.str s]∧s.length≤maxLen:=by
 unfold HasT at h;rw [hu] at h;exact h
theorem rows_bytes {e:TypeId} (hu:P.underlying e = some (.int .u8)):∀ (ls:List (List D)),(∀ l,l∈ls→l.length = P.cellsOf e∧HasT P (n+1) e l)→∃ s:List UInt8,ls.flatten = ofBytes s∧s.length = ls.length
 | [],_=>⟨[],rfl,rfl⟩
 | l :: ls,h=>by
  obtain ⟨x,hx⟩:=has_u8 hu (h l (List.mem_cons_self ..)).2
  obtain ⟨s,h1,h2⟩:=rows_bytes hu ls fun l' hl=>h l' (List.mem_cons_of_mem _ hl)
  exact ⟨x :: s,by rw [List.flatten_cons,hx,h1];rfl,by simp [h2]⟩
theorem has_id (hu:P.underlying t = some (.array 16 e)) (he:P.underlying e = some (.int .u8)) (h:HasT P (n+2) t cs):∃ i:ID,cs = ofBytes i.l:=by
 unfold HasT at h
 rw [hu] at h
 obtain ⟨ls,h1,h2,h3⟩:=h
 obtain ⟨s,s1,s2⟩:=rows_bytes he ls h3
 exact ⟨⟨s,by omega⟩,by rw [h1,s1]⟩
theorem rows_enc {α:Type} [Enc α] {R:α→Prop} {Q:List D→Prop} (hel:∀ l,Q l→∃ a:α,l = Enc.cells a∧R a):∀ (ls:List (List D)),(∀ l,l∈ls→Q l)→∃ s:List α,ls.flatten = encs s∧s.length = ls.length∧∀ a,a∈s→R a
 | [],_=>⟨[],rfl,rfl,by simp⟩
 | l :: ls,h=>by
  obtain ⟨x,hx,hr⟩:=hel l (h l (List.mem_cons_self ..))
  obtain ⟨s,h1,h2,h3⟩:=rows_enc hel ls fun l' hl=>h l' (List.mem_cons_of_mem _ hl)
  refine ⟨x :: s,by rw [List.flatten_cons,hx,h1,encs_cons],by simp [h2],fun a ha=>?_⟩
  rcases List.mem_cons.1 ha with rfl | ha
  ·exact hr
  ·exact h3 a ha
theorem has_slice {α:Type} [Enc α] {R:α→Prop} (hu:P.underlying t = some (.slice e)) (hel:∀ l,HasT P n e l→∃ a:α,l = Enc.cells a∧R a) (h:HasT P (n+1) t cs):∃ s:Sl α,cs = [(.vsl s.nil (encs s.l) s.l.length)]∧s.l.length≤maxLen∧∀ a,a∈s.l→R a:=by
 unfold HasT at h
 rw [hu] at h
 rcases h with rfl | ⟨ls,h1,h2,h3⟩
 ·exact ⟨.none,rfl,by simp,by simp⟩
 ·obtain ⟨s,s1,s2,s3⟩:=rows_enc hel ls fun l hl=>(h3 l hl).2
  exact ⟨.of s,by rw [h1,s1,← s2];rfl,by simp only [Sl.of_l];omega,s3⟩
theorem has_struct {fs:Array Field} (hu:P.underlying t = some (.struct fs)) (h:HasT P (n+1) t cs):HasFs P (HasT P n) fs.toList cs:=by
 unfold HasT at h;rw [hu] at h;exact h
end
theorem cor_val {W:World} {d:D} {v:Value} (h:Cor W [d] v.cells.toList) (ho:v.oneCell' = true):Rep (· < W.heap.size) W iota0 [] d v:=by
 have hv:v.cells.toList = [v]:=by
  cases v <;> first | rfl | simp [Value.oneCell'] at ho
 rw [hv] at h
 exact h.2.2 0 d rfl
theorem cor_agg {W:World} {ds:List D} {vs:Array Value} (h:Cor W ds vs.toList):Rep (· < W.heap.size) W iota0 [] (.agg ds) (.agg vs):=by
 refine .agg (by simpa using h.1.symm) h.2.1 fun j d hj=>?_
 have:=h.2.2 j d hj
 simpa [List.getD_eq_getElem?_getD,Array.getD_eq_getD_getElem?] using this
end Go.Ev
namespace Go.Ev
open Go Go.Proofs
theorem one_slice {P:Program} {W:World} {base:Nat} {t e:TypeId} {v:Value} (hu:P.underlying t = some (.slice e)) (h:Value.okWide P W .any base t v):v.oneCell' = true:=by
 simp only [Value.okWide,hu,Cell.okWide] at h
 cases v <;> first | rfl | simp [Cell.ok,hu] at h
theorem one_bool {P:Program} {W:World} {base:Nat} {t:TypeId} {v:Value} (hu:P.underlying t = some .bool) (h:Value.okWide P W .any base t v):v.oneCell' = true:=by
 simp only [Value.okWide,hu,Cell.okWide] at h
 cases v <;> first | rfl | simp [Cell.ok,hu] at h
theorem agg_struct {P:Program} {W:World} {base:Nat} {t:TypeId} {fs:Array Field} {v:Value} (hu:P.underlying t = some (.struct fs)) (h:Value.okWide P W .any base t v):∃ vs,v = .agg vs:=by
 simp only [Value.okWide,hu] at h
 obtain ⟨cs,h,_⟩:=h
 exact ⟨cs,h⟩
section
variable {H:Type} {enc:TypeId × Value→H} {P:Program} {W:World} {base n:Nat} {t e:TypeId} {v:Value} {d:DataW H} {ps:List MemPlace}
theorem arg_slice {α:Type} [Enc α] {R:α→Prop} (hu:P.underlying t = some (.slice e)) (hel:∀ l,HasT P n e l→∃ a:α,l = Enc.cells a∧R a) (hp:PlainT P (n+1) t = true) (hv:Value.okWide P W .any base t v) (h:DataW.Trod enc P W 0 (fun _=>true) true t v d ps) :
  ∃ s:Sl α,Rep (· < W.heap.size) W iota0 [] (.vsl s.nil (encs s.l) s.l.length) v∧s.l.length≤maxLen∧∀ a,a∈s.l→R a:=by
 obtain ⟨ds,h1,h2⟩:=read_plain hp h
 obtain ⟨s,rfl,hl,hr⟩:=has_slice hu hel h1
 exact ⟨s,cor_val h2 (one_slice hu hv),hl,hr⟩
theorem arg_struct {α:Type} [Enc α] {R:α→Prop} {fs:Array Field} (hu:P.underlying t = some (.struct fs)) (hel:∀ l,HasT P n t l→∃ a:α,l = Enc.cells a∧R a) (hp:PlainT P n t = true) (hv:Value.okWide P W .any base t v) (h:DataW.Trod enc P W 0 (fun _=>true) true t v d ps) :
  ∃ a:α,Rep (· < W.heap.size) W iota0 [] (.agg (Enc.cells a)) v∧R a:=by
 obtain ⟨ds,h1,h2⟩:=read_plain hp h
 obtain ⟨a,rfl,hr⟩:=hel ds h1
 obtain ⟨vs,rfl⟩:=agg_struct hu hv
 exact ⟨a,cor_agg h2,hr⟩
theorem arg_bool (hu:P.underlying t = some .bool) (hp:PlainT P (n+1) t = true) (hv:Value.okWide P W .any base t v) (h:DataW.Trod enc P W 0 (fun _=>true) true t v d ps):∃ b,Rep (· < W.heap.size) W iota0 [] (.bool b) v:=by
 obtain ⟨ds,h1,h2⟩:=read_plain hp h
 obtain ⟨b,rfl⟩:=has_bool hu h1
 exact ⟨b,cor_val h2 (one_bool hu hv)⟩
end
theorem repL_nil' {ok:Nat→Prop} {w:World} {ι:Iota} {H:Heap}:RepL ok w ι H [] []:=⟨rfl,by simp⟩
theorem repL_cons' {ok:Nat→Prop} {w:World} {ι:Iota} {H:Heap} {d:D} {v:Value} {ds:List D} {vs:List Value} (h:Rep ok w ι H d v) (hs:RepL ok w ι H ds vs):RepL ok w ι H (d :: ds) (v :: vs):=by
 refine ⟨by simp [hs.1],fun j x hj=>?_⟩
 cases j with
 | zero=>simp at hj;subst hj;exact h
 | succ j=>exact hs.2 j x (by simpa using hj)
def Rec.Fit (r:Rec):Prop:=r.fields.l.length≤maxLen∧∀ p,p∈r.fields.l→p.name.length≤maxLen∧p.value.length≤maxLen
end Go.Ev
namespace Go.Ev
open Go Go.Proofs
end Go.Ev
namespace Go.Ev
open Go Go.Proofs
@[simp] theorem ID.ta (i:ID) (r:List D):(ofBytes i.l ++ r).take 16 = ofBytes i.l:=by simp
@[simp] theorem ID.da (i:ID) (r:List D):(ofBytes i.l ++ r).drop 16 = r:=by simp
structure Cur where
 seq:ID
 n:Int
 boot:ID
 mono:Int
 real:Int
 xor:Int
 deriving DecidableEq
instance:Enc Cur:=⟨36,fun m=>(ofBytes m.seq.l ++ (.int .u64 m.n :: (ofBytes m.boot.l ++ (.int .u64 m.mono :: (.int .u64 m.real :: (.int .u64 m.xor :: ([]:List D))))))),fun m=>by simp,fun m=>by simp [idFree]⟩
theorem Cur.cells (m:Cur):Enc.cells m = (ofBytes m.seq.l ++ (.int .u64 m.n :: (ofBytes m.boot.l ++ (.int .u64 m.mono :: (.int .u64 m.real :: (.int .u64 m.xor :: ([]:List D))))))):=rfl
@[simp] theorem Cur.size:Enc.size Cur = 36:=rfl
@[simp] theorem Cur.cl (a:Cur):(Enc.cells a).length = 36:=Enc.len a
@[simp] theorem Cur.ct (a:Cur) (r:List D):(Enc.cells a ++ r).take 36 = Enc.cells a:=cells_take rfl a r
@[simp] theorem Cur.ct' (a:Cur):(Enc.cells a).take 36 = Enc.cells a:=cells_take' rfl a
@[simp] theorem Cur.cd (a:Cur) (r:List D):(Enc.cells a ++ r).drop 36 = r:=cells_drop rfl a r
@[simp] theorem Cur.el (l:List Cur):(encs l).length = l.length * 36:=encs_len' rfl l
@[simp] theorem Cur.ed (l:List Cur) (i:Nat):(encs l).drop (i * 36) = encs (l.drop i):=encs_drop rfl l i
@[simp] theorem Cur.et (l:List Cur) (i:Nat):(encs l).take (i * 36) = encs (l.take i):=encs_take rfl l i
@[simp high] theorem Cur.ea {l:List Cur} {i:Nat} (h:i < l.length):(encs l).drop (i * 36) = Enc.cells l[i] ++ encs (l.drop (i+1)):=encs_at rfl h
@[simp high] theorem Cur.es (m:Cur) {l:List Cur} {j:Nat} (h:j < l.length):setRange (encs l) (j * 36) (Enc.cells m) = encs (l.set j m):=encs_set rfl m l h
@[simp] theorem Cur.t0 (m:Cur):(Enc.cells m).take 16 = ofBytes m.seq.l:=by simp [Cur.cells]
@[simp] theorem Cur.t0' (m:Cur) (r:List D):(Enc.cells m ++ r).take 16 = ofBytes m.seq.l:=by simp [Cur.cells]
@[simp] theorem Cur.s0 (m:Cur) (x:ID):setRange (Enc.cells m) 0 (ofBytes x.l) = Enc.cells { m with seq:=x }:=by simp [List.take_append,Cur.cells]
@[simp] theorem Cur.d16 (m:Cur):(Enc.cells m).drop 16 = (.int .u64 m.n :: (ofBytes m.boot.l ++ (.int .u64 m.mono :: (.int .u64 m.real :: (.int .u64 m.xor :: ([]:List D)))))):=by simp [Cur.cells]
@[simp] theorem Cur.d16' (m:Cur) (r:List D):(Enc.cells m ++ r).drop 16 = (.int .u64 m.n :: (ofBytes m.boot.l ++ (.int .u64 m.mono :: (.int .u64 m.real :: (.int .u64 m.xor :: ([]:List D)))))) ++ r:=by simp [Cur.cells]
@[simp] theorem Cur.g16 (m:Cur) (h):(Enc.cells m)[16]'h = .int .u64 m.n:=by simp [Cur.cells]
@[simp] theorem Cur.q16 (m:Cur):(Enc.cells m)[16]? = some (.int .u64 m.n):=by simp [Cur.cells]
@[simp] theorem Cur.s16 (m:Cur) (x:Int):setRange (Enc.cells m) 16 [.int .u64 x] = Enc.cells { m with n:=x }:=by simp [List.drop_append,drop_bytes,Cur.cells]
@[simp] theorem Cur.d17 (m:Cur):(Enc.cells m).drop 17 = (ofBytes m.boot.l ++ (.int .u64 m.mono :: (.int .u64 m.real :: (.int .u64 m.xor :: ([]:List D))))):=by simp [List.drop_append,drop_bytes,Cur.cells]
@[simp] theorem Cur.d17' (m:Cur) (r:List D):(Enc.cells m ++ r).drop 17 = (ofBytes m.boot.l ++ (.int .u64 m.mono :: (.int .u64 m.real :: (.int .u64 m.xor :: ([]:List D))))) ++ r:=by simp [List.drop_append,drop_bytes,Cur.cells]
@[simp] theorem Cur.s17 (m:Cur) (x:ID):setRange (Enc.cells m) 17 (ofBytes x.l) = Enc.cells { m with boot:=x }:=by simp [List.take_append,List.drop_append,drop_bytes,List.take_of_length_le,Cur.cells]
@[simp] theorem Cur.d33 (m:Cur):(Enc.cells m).drop 33 = (.int .u64 m.mono :: (.int .u64 m.real :: (.int .u64 m.xor :: ([]:List D)))):=by simp [List.drop_append,drop_bytes,Cur.cells]
@[simp] theorem Cur.d33' (m:Cur) (r:List D):(Enc.cells m ++ r).drop 33 = (.int .u64 m.mono :: (.int .u64 m.real :: (.int .u64 m.xor :: ([]:List D)))) ++ r:=by simp [List.drop_append,drop_bytes,Cur.cells]
@[simp] theorem Cur.g33 (m:Cur) (h):(Enc.cells m)[33]'h = .int .u64 m.mono:=by simp [Cur.cells]
@[simp] theorem Cur.q33 (m:Cur):(Enc.cells m)[33]? = some (.int .u64 m.mono):=by simp [Cur.cells]
@[simp] theorem Cur.s33 (m:Cur) (x:Int):setRange (Enc.cells m) 33 [.int .u64 x] = Enc.cells { m with mono:=x }:=by simp [List.take_append,List.drop_append,drop_bytes,List.take_of_length_le,Cur.cells]
@[simp] theorem Cur.d34 (m:Cur):(Enc.cells m).drop 34 = (.int .u64 m.real :: (.int .u64 m.xor :: ([]:List D))):=by simp [List.drop_append,drop_bytes,Cur.cells]
@[simp] theorem Cur.d34' (m:Cur) (r:List D):(Enc.cells m ++ r).drop 34 = (.int .u64 m.real :: (.int .u64 m.xor :: ([]:List D))) ++ r:=by simp [List.drop_append,drop_bytes,Cur.cells]
@[simp] theorem Cur.g34 (m:Cur) (h):(Enc.cells m)[34]'h = .int .u64 m.real:=by simp [Cur.cells]
@[simp] theorem Cur.q34 (m:Cur):(Enc.cells m)[34]? = some (.int .u64 m.real):=by simp [Cur.cells]
@[simp] theorem Cur.s34 (m:Cur) (x:Int):setRange (Enc.cells m) 34 [.int .u64 x] = Enc.cells { m with real:=x }:=by simp [List.take_append,List.drop_append,drop_bytes,List.take_of_length_le,Cur.cells]
@[simp] theorem Cur.d35 (m:Cur):(Enc.cells m).drop 35 = (.int .u64 m.xor :: ([]:List D)):=by simp [List.drop_append,drop_bytes,Cur.cells]
@[simp] theorem Cur.d35' (m:Cur) (r:List D):(Enc.cells m ++ r).drop 35 = (.int .u64 m.xor :: ([]:List D)) ++ r:=by simp [List.drop_append,drop_bytes,Cur.cells]
@[simp] theorem Cur.g35 (m:Cur) (h):(Enc.cells m)[35]'h = .int .u64 m.xor:=by simp [Cur.cells]
@[simp] theorem Cur.q35 (m:Cur):(Enc.cells m)[35]? = some (.int .u64 m.xor):=by simp [Cur.cells]
@[simp] theorem Cur.s35 (m:Cur) (x:Int):setRange (Enc.cells m) 35 [.int .u64 x] = Enc.cells { m with xor:=x }:=by simp [List.take_append,List.drop_append,drop_bytes,List.take_of_length_le,Cur.cells]
end Go.Ev
namespace Go.Ev
open Go Go.Proofs
theorem cmpB_self:∀ (x:List UInt8),cmpB x x = 0
 | []=>rfl
 | a :: x=>by simp [cmpB,cmpB_self x]
theorem cmpB_swap:∀ (x y:List UInt8),cmpB y x = - cmpB x y
 | [],[]=>rfl
 | [],_ :: _=>rfl
 | _ :: _,[]=>rfl
 | a :: x,b :: y=>by
  simp only [cmpB]
  by_cases h:a = b
  ·subst h;simp [cmpB_swap x y]
  ·have h':¬ b = a:=fun e=>h e.symm
   rw [if_neg h,if_neg h']
   by_cases hl:a < b
   ·have:¬ b < a:=UInt8.not_lt.2 (UInt8.le_of_lt hl)
    rw [if_pos hl,if_neg this];rfl
   ·have:b < a:=UInt8.lt_of_le_of_ne (UInt8.not_lt.1 hl) h'
    rw [if_neg hl,if_pos this]
theorem cmpB_eq:∀ {x y:List UInt8},cmpB x y = 0→x = y
 | [],[],_=>rfl
 | [],_ :: _,h=>by simp [cmpB] at h
 | _ :: _,[],h=>by simp [cmpB] at h
 | a :: x,b :: y,h=>by
  simp only [cmpB] at h
  by_cases e:a = b
  ·rw [if_pos e] at h
   rw [e,cmpB_eq h]
  ·rw [if_neg e] at h
   split at h <;> simp at h
theorem cmpB_rng:∀ (x y:List UInt8),cmpB x y = -1∨cmpB x y = 0∨cmpB x y = 1
 | [],[]=>by simp [cmpB]
 | [],_ :: _=>by simp [cmpB]
 | _ :: _,[]=>by simp [cmpB]
 | a :: x,b :: y=>by
  simp only [cmpB]
  split
  ·exact cmpB_rng x y
  ·split <;> simp
theorem cmpB_trans:∀ {x y z:List UInt8},cmpB x y < 0→cmpB y z < 0→cmpB x z < 0
 | [],[],_,h,_=>by simp [cmpB] at h
 | [],_ :: _,[],_,h=>by simp [cmpB] at h
 | [],_ :: _,_ :: _,_,_=>by simp [cmpB]
 | _ :: _,[],_,h,_=>by simp [cmpB] at h
 | _ :: _,_ :: _,[],_,h=>by simp [cmpB] at h
 | a :: x,b :: y,c :: z,h1,h2=>by
  simp only [cmpB] at h1 h2 ⊢
  by_cases e1:a = b
  ·subst e1
   rw [if_pos rfl] at h1
   by_cases e2:a = c
   ·subst e2
    rw [if_pos rfl] at h2 ⊢
    exact cmpB_trans h1 h2
   ·rw [if_neg e2] at h2 ⊢
    exact h2
  ·rw [if_neg e1] at h1
   have l1:a < b:=by
    by_cases l:a < b
    ·exact l
    ·rw [if_neg l] at h1;simp at h1
   by_cases e2:b = c
   ·subst e2
    rw [if_neg e1,if_pos l1]
    decide
   ·rw [if_neg e2] at h2
    have l2:b < c:=by
     by_cases l:b < c
     ·exact l
     ·rw [if_neg l] at h2;simp at h2
    have l3:a < c:=UInt8.lt_trans l1 l2
    rw [if_neg (UInt8.ne_of_lt l3),if_pos l3]
    decide
theorem id_of_cmp {a b:ID} (h:cmpB a.l b.l = 0):a = b:=ID.ext' (cmpB_eq h)
end Go.Ev
namespace Go.Ev
open Go Go.Proofs Go.RowKit Go.Shelf
section
variable {X:Cx} {ρ:Ren} {ok:Nat→Prop} {w:World} {ι:Iota} {H H':Heap} {r:D} {args:List D} {vs:List Value}
end
end Go.Ev
namespace Go.Ev
open Go Go.Proofs Go.RowKit Go.Shelf
section
variable {X:Cx} {ρ:Ren} {ok:Nat→Prop} {w:World} {ι:Iota} {H H':Heap} {r:D} {args:List D} {vs:List Value}
end
end Go.Ev
namespace Go.Ev
open Go Go.Proofs
def hexc (k:Nat):UInt8:=if k < 10 then UInt8.ofNat (48+k) else UInt8.ofNat (87+k)
def hexF:Nat→Nat→List UInt8
 | 0,_=>[]
 | f+1,v=>if v < 16 then [hexc v] else hexF f (v / 16) ++ [hexc (v % 16)]
def hx (v:Nat):List UInt8:=hexF 16 v
def digL:List UInt8:=[48,49,50,51,52,53,54,55,56,57,97,98,99,100,101,102]
def dig36:List UInt8:=[48,49,50,51,52,53,54,55,56,57,97,98,99,100,101,102,103,104,105,106,107,108,109,110,111,112,113,114,115,116,117,118,119,120,121,122]
theorem dig36_at:∀ k,k < 16→dig36[k]? = some (hexc k):=by decide
theorem digL_at:∀ k,k < 16→digL[k]? = some (hexc k):=by decide
theorem hexF_len:∀ (f v:Nat),(hexF f v).length≤f
 | 0,_=>Nat.le_refl _
 | f+1,v=>by
  rw [hexF]
  split
  ·simp
  ·have:=hexF_len f (v / 16)
   simp
   omega
theorem hx_len (v:Nat):(hx v).length≤16:=hexF_len 16 v
theorem hx_pos (v:Nat):0 < (hx v).length:=by
 unfold hx hexF
 split <;> simp
def hexs:List UInt8→List UInt8
 | []=>[]
 | b :: l=>hexc (b.toNat / 16) :: hexc (b.toNat % 16) :: hexs l
theorem hexs_len:∀ (l:List UInt8),(hexs l).length = 2 * l.length
 | []=>rfl
 | b :: l=>by simp [hexs,hexs_len l];omega
theorem hexs_append:∀ (a b:List UInt8),hexs (a ++ b) = hexs a ++ hexs b
 | [],_=>rfl
 | x :: a,b=>by simp [hexs,hexs_append a b]
def fixed (v:Nat):List UInt8:=List.replicate (16 - (hx v).length) 48 ++ hx v
theorem and15_u64 {n:Nat} (h:n < 18446744073709551616):andI .u64 (n:Int) 15 = ((n % 16:Nat):Int):=by
 unfold andI
 have e:(BitVec.ofInt IntKind.u64.bits (n:Int) &&& BitVec.ofInt IntKind.u64.bits 15).toNat = n % 16:=by
  show (BitVec.ofInt 64 (n:Int) &&& BitVec.ofInt 64 ((15:Nat):Int)).toNat = n % 16
  rw [BitVec.ofInt_natCast,BitVec.ofInt_natCast,BitVec.toNat_and,BitVec.toNat_ofNat,BitVec.toNat_ofNat,Nat.mod_eq_of_lt (show n < 2 ^ 64 by omega)]
  exact Nat.and_two_pow_sub_one_eq_mod n 4
 rw [e,wrap_u64]
 omega
theorem and15_u8N:∀ n:Nat,n < 256→andI .u8 (n:Int) 15 = ((n % 16:Nat):Int):=by decide +kernel
theorem and15_u8 (b:UInt8):andI .u8 (b.toNat:Int) 15 = ((b.toNat % 16:Nat):Int):=and15_u8N b.toNat b.toNat_lt
theorem fdiv16 (n:Nat):Int.fdiv (n:Int) 16 = ((n / 16:Nat):Int):=by
 rw [Int.fdiv_eq_ediv_of_nonneg _ (by omega)]
 omega
theorem fill_behind (i:Nat) (s:List UInt8) (c:UInt8):setRange (List.replicate (i+1) (D.int .u8 0) ++ ofBytes s) i [.int .u8 c.toNat] = List.replicate i (.int .u8 0) ++ ofBytes (c :: s):=by
 unfold setRange
 have h:(List.replicate (i+1) (D.int .u8 0) ++ ofBytes s).drop (i+1) = ofBytes s:=List.drop_left' (by simp)
 have h2:(List.replicate (i+1) (D.int .u8 0) ++ ofBytes s).take i = List.replicate i (D.int .u8 0):=by
  rw [List.take_append_of_le_length (by simp),List.take_replicate]
  congr 1
  omega
 rw [h2,List.length_singleton,h]
 simp [ofBytes]
end Go.Ev
namespace Go.Ev
open Go Go.Proofs
structure Rq where
 path:List UInt8
 epoch:Int
 number:Int
 body:Sl UInt8
instance:Enc Rq:=⟨4,fun m=>(.str m.path :: (.int .u64 m.epoch :: (.int .u64 m.number :: ((.vsl m.body.nil (ofBytes m.body.l) m.body.l.length) :: ([]:List D))))),fun m=>by simp,fun m=>by simp [idFree]⟩
theorem Rq.cells (m:Rq):Enc.cells m = (.str m.path :: (.int .u64 m.epoch :: (.int .u64 m.number :: ((.vsl m.body.nil (ofBytes m.body.l) m.body.l.length) :: ([]:List D))))):=rfl
@[simp] theorem Rq.size:Enc.size Rq = 4:=rfl
@[simp] theorem Rq.cl (a:Rq):(Enc.cells a).length = 4:=Enc.len a
@[simp] theorem Rq.ct (a:Rq) (r:List D):(Enc.cells a ++ r).take 4 = Enc.cells a:=cells_take rfl a r
@[simp] theorem Rq.ct' (a:Rq):(Enc.cells a).take 4 = Enc.cells a:=cells_take' rfl a
@[simp] theorem Rq.cd (a:Rq) (r:List D):(Enc.cells a ++ r).drop 4 = r:=cells_drop rfl a r
@[simp] theorem Rq.el (l:List Rq):(encs l).length = l.length * 4:=encs_len' rfl l
@[simp] theorem Rq.ed (l:List Rq) (i:Nat):(encs l).drop (i * 4) = encs (l.drop i):=encs_drop rfl l i
@[simp] theorem Rq.et (l:List Rq) (i:Nat):(encs l).take (i * 4) = encs (l.take i):=encs_take rfl l i
@[simp high] theorem Rq.ea {l:List Rq} {i:Nat} (h:i < l.length):(encs l).drop (i * 4) = Enc.cells l[i] ++ encs (l.drop (i+1)):=encs_at rfl h
@[simp high] theorem Rq.es (m:Rq) {l:List Rq} {j:Nat} (h:j < l.length):setRange (encs l) (j * 4) (Enc.cells m) = encs (l.set j m):=encs_set rfl m l h
@[simp] theorem Rq.g0 (m:Rq) (h):(Enc.cells m)[0]'h = .str m.path:=by simp [Rq.cells]
@[simp] theorem Rq.q0 (m:Rq):(Enc.cells m)[0]? = some (.str m.path):=by simp [Rq.cells]
@[simp] theorem Rq.s0 (m:Rq) (x:List UInt8):setRange (Enc.cells m) 0 [.str x] = Enc.cells { m with path:=x }:=by simp [Rq.cells]
@[simp] theorem Rq.d1 (m:Rq):(Enc.cells m).drop 1 = (.int .u64 m.epoch :: (.int .u64 m.number :: ((.vsl m.body.nil (ofBytes m.body.l) m.body.l.length) :: ([]:List D)))):=by simp [Rq.cells]
@[simp] theorem Rq.d1' (m:Rq) (r:List D):(Enc.cells m ++ r).drop 1 = (.int .u64 m.epoch :: (.int .u64 m.number :: ((.vsl m.body.nil (ofBytes m.body.l) m.body.l.length) :: ([]:List D)))) ++ r:=by simp [Rq.cells]
@[simp] theorem Rq.g1 (m:Rq) (h):(Enc.cells m)[1]'h = .int .u64 m.epoch:=by simp [Rq.cells]
@[simp] theorem Rq.q1 (m:Rq):(Enc.cells m)[1]? = some (.int .u64 m.epoch):=by simp [Rq.cells]
@[simp] theorem Rq.s1 (m:Rq) (x:Int):setRange (Enc.cells m) 1 [.int .u64 x] = Enc.cells { m with epoch:=x }:=by simp [Rq.cells]
@[simp] theorem Rq.d2 (m:Rq):(Enc.cells m).drop 2 = (.int .u64 m.number :: ((.vsl m.body.nil (ofBytes m.body.l) m.body.l.length) :: ([]:List D))):=by simp [Rq.cells]
@[simp] theorem Rq.d2' (m:Rq) (r:List D):(Enc.cells m ++ r).drop 2 = (.int .u64 m.number :: ((.vsl m.body.nil (ofBytes m.body.l) m.body.l.length) :: ([]:List D))) ++ r:=by simp [Rq.cells]
@[simp] theorem Rq.g2 (m:Rq) (h):(Enc.cells m)[2]'h = .int .u64 m.number:=by simp [Rq.cells]
@[simp] theorem Rq.q2 (m:Rq):(Enc.cells m)[2]? = some (.int .u64 m.number):=by simp [Rq.cells]
@[simp] theorem Rq.s2 (m:Rq) (x:Int):setRange (Enc.cells m) 2 [.int .u64 x] = Enc.cells { m with number:=x }:=by simp [Rq.cells]
@[simp] theorem Rq.d3 (m:Rq):(Enc.cells m).drop 3 = ((.vsl m.body.nil (ofBytes m.body.l) m.body.l.length) :: ([]:List D)):=by simp [Rq.cells]
@[simp] theorem Rq.d3' (m:Rq) (r:List D):(Enc.cells m ++ r).drop 3 = ((.vsl m.body.nil (ofBytes m.body.l) m.body.l.length) :: ([]:List D)) ++ r:=by simp [Rq.cells]
@[simp] theorem Rq.g3 (m:Rq) (h):(Enc.cells m)[3]'h = (.vsl m.body.nil (ofBytes m.body.l) m.body.l.length):=by simp [Rq.cells]
@[simp] theorem Rq.q3 (m:Rq):(Enc.cells m)[3]? = some ((.vsl m.body.nil (ofBytes m.body.l) m.body.l.length)):=by simp [Rq.cells]
@[simp] theorem Rq.s3 (m:Rq) (x:Sl UInt8):setRange (Enc.cells m) 3 [(.vsl x.nil (ofBytes x.l) x.l.length)] = Enc.cells { m with body:=x }:=by simp [Rq.cells]
structure Msg where
 kind:Int
 epoch:Int
 number:Int
 body:Sl UInt8
instance:Enc Msg:=⟨4,fun m=>(.int .i64 m.kind :: (.int .u64 m.epoch :: (.int .u64 m.number :: ((.vsl m.body.nil (ofBytes m.body.l) m.body.l.length) :: ([]:List D))))),fun m=>by simp,fun m=>by simp [idFree]⟩
theorem Msg.cells (m:Msg):Enc.cells m = (.int .i64 m.kind :: (.int .u64 m.epoch :: (.int .u64 m.number :: ((.vsl m.body.nil (ofBytes m.body.l) m.body.l.length) :: ([]:List D))))):=rfl
@[simp] theorem Msg.size:Enc.size Msg = 4:=rfl
@[simp] theorem Msg.cl (a:Msg):(Enc.cells a).length = 4:=Enc.len a
@[simp] theorem Msg.ct (a:Msg) (r:List D):(Enc.cells a ++ r).take 4 = Enc.cells a:=cells_take rfl a r
@[simp] theorem Msg.ct' (a:Msg):(Enc.cells a).take 4 = Enc.cells a:=cells_take' rfl a
@[simp] theorem Msg.cd (a:Msg) (r:List D):(Enc.cells a ++ r).drop 4 = r:=cells_drop rfl a r
@[simp] theorem Msg.el (l:List Msg):(encs l).length = l.length * 4:=encs_len' rfl l
@[simp] theorem Msg.ed (l:List Msg) (i:Nat):(encs l).drop (i * 4) = encs (l.drop i):=encs_drop rfl l i
@[simp] theorem Msg.et (l:List Msg) (i:Nat):(encs l).take (i * 4) = encs (l.take i):=encs_take rfl l i
@[simp high] theorem Msg.ea {l:List Msg} {i:Nat} (h:i < l.length):(encs l).drop (i * 4) = Enc.cells l[i] ++ encs (l.drop (i+1)):=encs_at rfl h
@[simp high] theorem Msg.es (m:Msg) {l:List Msg} {j:Nat} (h:j < l.length):setRange (encs l) (j * 4) (Enc.cells m) = encs (l.set j m):=encs_set rfl m l h
@[simp] theorem Msg.g0 (m:Msg) (h):(Enc.cells m)[0]'h = .int .i64 m.kind:=by simp [Msg.cells]
@[simp] theorem Msg.q0 (m:Msg):(Enc.cells m)[0]? = some (.int .i64 m.kind):=by simp [Msg.cells]
@[simp] theorem Msg.s0 (m:Msg) (x:Int):setRange (Enc.cells m) 0 [.int .i64 x] = Enc.cells { m with kind:=x }:=by simp [Msg.cells]
@[simp] theorem Msg.d1 (m:Msg):(Enc.cells m).drop 1 = (.int .u64 m.epoch :: (.int .u64 m.number :: ((.vsl m.body.nil (ofBytes m.body.l) m.body.l.length) :: ([]:List D)))):=by simp [Msg.cells]
@[simp] theorem Msg.d1' (m:Msg) (r:List D):(Enc.cells m ++ r).drop 1 = (.int .u64 m.epoch :: (.int .u64 m.number :: ((.vsl m.body.nil (ofBytes m.body.l) m.body.l.length) :: ([]:List D)))) ++ r:=by simp [Msg.cells]
@[simp] theorem Msg.g1 (m:Msg) (h):(Enc.cells m)[1]'h = .int .u64 m.epoch:=by simp [Msg.cells]
@[simp] theorem Msg.q1 (m:Msg):(Enc.cells m)[1]? = some (.int .u64 m.epoch):=by simp [Msg.cells]
@[simp] theorem Msg.s1 (m:Msg) (x:Int):setRange (Enc.cells m) 1 [.int .u64 x] = Enc.cells { m with epoch:=x }:=by simp [Msg.cells]
@[simp] theorem Msg.d2 (m:Msg):(Enc.cells m).drop 2 = (.int .u64 m.number :: ((.vsl m.body.nil (ofBytes m.body.l) m.body.l.length) :: ([]:List D))):=by simp [Msg.cells]
@[simp] theorem Msg.d2' (m:Msg) (r:List D):(Enc.cells m ++ r).drop 2 = (.int .u64 m.number :: ((.vsl m.body.nil (ofBytes m.body.l) m.body.l.length) :: ([]:List D))) ++ r:=by simp [Msg.cells]
@[simp] theorem Msg.g2 (m:Msg) (h):(Enc.cells m)[2]'h = .int .u64 m.number:=by simp [Msg.cells]
@[simp] theorem Msg.q2 (m:Msg):(Enc.cells m)[2]? = some (.int .u64 m.number):=by simp [Msg.cells]
@[simp] theorem Msg.s2 (m:Msg) (x:Int):setRange (Enc.cells m) 2 [.int .u64 x] = Enc.cells { m with number:=x }:=by simp [Msg.cells]
@[simp] theorem Msg.d3 (m:Msg):(Enc.cells m).drop 3 = ((.vsl m.body.nil (ofBytes m.body.l) m.body.l.length) :: ([]:List D)):=by simp [Msg.cells]
@[simp] theorem Msg.d3' (m:Msg) (r:List D):(Enc.cells m ++ r).drop 3 = ((.vsl m.body.nil (ofBytes m.body.l) m.body.l.length) :: ([]:List D)) ++ r:=by simp [Msg.cells]
@[simp] theorem Msg.g3 (m:Msg) (h):(Enc.cells m)[3]'h = (.vsl m.body.nil (ofBytes m.body.l) m.body.l.length):=by simp [Msg.cells]
@[simp] theorem Msg.q3 (m:Msg):(Enc.cells m)[3]? = some ((.vsl m.body.nil (ofBytes m.body.l) m.body.l.length)):=by simp [Msg.cells]
@[simp] theorem Msg.s3 (m:Msg) (x:Sl UInt8):setRange (Enc.cells m) 3 [(.vsl x.nil (ofBytes x.l) x.l.length)] = Enc.cells { m with body:=x }:=by simp [Msg.cells]
structure Rs where
 status:Int
 epoch:Int
 number:Int
 body:Sl UInt8
instance:Enc Rs:=⟨4,fun m=>(.int .i64 m.status :: (.int .u64 m.epoch :: (.int .u64 m.number :: ((.vsl m.body.nil (ofBytes m.body.l) m.body.l.length) :: ([]:List D))))),fun m=>by simp,fun m=>by simp [idFree]⟩
theorem Rs.cells (m:Rs):Enc.cells m = (.int .i64 m.status :: (.int .u64 m.epoch :: (.int .u64 m.number :: ((.vsl m.body.nil (ofBytes m.body.l) m.body.l.length) :: ([]:List D))))):=rfl
@[simp] theorem Rs.size:Enc.size Rs = 4:=rfl
@[simp] theorem Rs.cl (a:Rs):(Enc.cells a).length = 4:=Enc.len a
@[simp] theorem Rs.ct (a:Rs) (r:List D):(Enc.cells a ++ r).take 4 = Enc.cells a:=cells_take rfl a r
@[simp] theorem Rs.ct' (a:Rs):(Enc.cells a).take 4 = Enc.cells a:=cells_take' rfl a
@[simp] theorem Rs.cd (a:Rs) (r:List D):(Enc.cells a ++ r).drop 4 = r:=cells_drop rfl a r
@[simp] theorem Rs.el (l:List Rs):(encs l).length = l.length * 4:=encs_len' rfl l
@[simp] theorem Rs.ed (l:List Rs) (i:Nat):(encs l).drop (i * 4) = encs (l.drop i):=encs_drop rfl l i
@[simp] theorem Rs.et (l:List Rs) (i:Nat):(encs l).take (i * 4) = encs (l.take i):=encs_take rfl l i
@[simp high] theorem Rs.ea {l:List Rs} {i:Nat} (h:i < l.length):(encs l).drop (i * 4) = Enc.cells l[i] ++ encs (l.drop (i+1)):=encs_at rfl h
@[simp high] theorem Rs.es (m:Rs) {l:List Rs} {j:Nat} (h:j < l.length):setRange (encs l) (j * 4) (Enc.cells m) = encs (l.set j m):=encs_set rfl m l h
@[simp] theorem Rs.g0 (m:Rs) (h):(Enc.cells m)[0]'h = .int .i64 m.status:=by simp [Rs.cells]
@[simp] theorem Rs.q0 (m:Rs):(Enc.cells m)[0]? = some (.int .i64 m.status):=by simp [Rs.cells]
@[simp] theorem Rs.s0 (m:Rs) (x:Int):setRange (Enc.cells m) 0 [.int .i64 x] = Enc.cells { m with status:=x }:=by simp [Rs.cells]
@[simp] theorem Rs.d1 (m:Rs):(Enc.cells m).drop 1 = (.int .u64 m.epoch :: (.int .u64 m.number :: ((.vsl m.body.nil (ofBytes m.body.l) m.body.l.length) :: ([]:List D)))):=by simp [Rs.cells]
@[simp] theorem Rs.d1' (m:Rs) (r:List D):(Enc.cells m ++ r).drop 1 = (.int .u64 m.epoch :: (.int .u64 m.number :: ((.vsl m.body.nil (ofBytes m.body.l) m.body.l.length) :: ([]:List D)))) ++ r:=by simp [Rs.cells]
@[simp] theorem Rs.g1 (m:Rs) (h):(Enc.cells m)[1]'h = .int .u64 m.epoch:=by simp [Rs.cells]
@[simp] theorem Rs.q1 (m:Rs):(Enc.cells m)[1]? = some (.int .u64 m.epoch):=by simp [Rs.cells]
@[simp] theorem Rs.s1 (m:Rs) (x:Int):setRange (Enc.cells m) 1 [.int .u64 x] = Enc.cells { m with epoch:=x }:=by simp [Rs.cells]
@[simp] theorem Rs.d2 (m:Rs):(Enc.cells m).drop 2 = (.int .u64 m.number :: ((.vsl m.body.nil (ofBytes m.body.l) m.body.l.length) :: ([]:List D))):=by simp [Rs.cells]
@[simp] theorem Rs.d2' (m:Rs) (r:List D):(Enc.cells m ++ r).drop 2 = (.int .u64 m.number :: ((.vsl m.body.nil (ofBytes m.body.l) m.body.l.length) :: ([]:List D))) ++ r:=by simp [Rs.cells]
@[simp] theorem Rs.g2 (m:Rs) (h):(Enc.cells m)[2]'h = .int .u64 m.number:=by simp [Rs.cells]
@[simp] theorem Rs.q2 (m:Rs):(Enc.cells m)[2]? = some (.int .u64 m.number):=by simp [Rs.cells]
@[simp] theorem Rs.s2 (m:Rs) (x:Int):setRange (Enc.cells m) 2 [.int .u64 x] = Enc.cells { m with number:=x }:=by simp [Rs.cells]
@[simp] theorem Rs.d3 (m:Rs):(Enc.cells m).drop 3 = ((.vsl m.body.nil (ofBytes m.body.l) m.body.l.length) :: ([]:List D)):=by simp [Rs.cells]
@[simp] theorem Rs.d3' (m:Rs) (r:List D):(Enc.cells m ++ r).drop 3 = ((.vsl m.body.nil (ofBytes m.body.l) m.body.l.length) :: ([]:List D)) ++ r:=by simp [Rs.cells]
@[simp] theorem Rs.g3 (m:Rs) (h):(Enc.cells m)[3]'h = (.vsl m.body.nil (ofBytes m.body.l) m.body.l.length):=by simp [Rs.cells]
@[simp] theorem Rs.q3 (m:Rs):(Enc.cells m)[3]? = some ((.vsl m.body.nil (ofBytes m.body.l) m.body.l.length)):=by simp [Rs.cells]
@[simp] theorem Rs.s3 (m:Rs) (x:Sl UInt8):setRange (Enc.cells m) 3 [(.vsl x.nil (ofBytes x.l) x.l.length)] = Enc.cells { m with body:=x }:=by simp [Rs.cells]
@[simp] theorem ofBytes_nil:ofBytes [] = []:=rfl
def Msg.zero:Msg:=⟨0,0,0,.none⟩
theorem decF_len:∀ (f v:Nat),(decF f v).length≤f
 | 0,_=>Nat.le_refl _
 | f+1,v=>by
  rw [decF]
  split
  ·simp
  ·have:=decF_len f (v / 10)
   simp
   omega
theorem dec_len (v:Nat):(dec v).length≤20:=decF_len 20 v
theorem cat_of {x y s:List UInt8} (e:s = x ++ y) (h:x.length+y.length≤100000):strD .add x y = some (.str s):=by
 simp only [strD,e]
 rw [if_pos (by omega)]
section
variable {H:Type} {enc:TypeId × Value→H} {P:Program} {W:World} {base n:Nat} {t e:TypeId} {v:Value} {d:DataW H} {ps:List MemPlace}
end
end Go.Ev
namespace Go.Ev
open Go Go.Proofs
def kS:List UInt8:=[115,61]
def kI:List UInt8:=[59,105,61]
def kB:List UInt8:=[59,98,61]
def kM:List UInt8:=[59,109,61]
def kT:List UInt8:=[59,116,61]
def kX:List UInt8:=[59,120,61]
def showL (c:Cur):List UInt8:=kS ++ (hexs c.seq.l ++ (kI ++ (hx c.n.toNat ++ (kB ++ (hexs c.boot.l ++ (kM ++ (hx c.mono.toNat ++ (kT ++ (hx c.real.toNat ++ (kX ++ hx c.xor.toNat))))))))))
theorem showL_len (c:Cur):80≤(showL c).length∧(showL c).length≤200:=by
 have h1:=hx_len c.n.toNat
 have h2:=hx_len c.mono.toNat
 have h3:=hx_len c.real.toNat
 have h4:=hx_len c.xor.toNat
 have g1:=hx_pos c.n.toNat
 have g2:=hx_pos c.mono.toNat
 have g3:=hx_pos c.real.toNat
 have g4:=hx_pos c.xor.toNat
 have i1:=hexs_len c.seq.l
 have i2:=hexs_len c.boot.l
 rw [c.seq.h] at i1
 rw [c.boot.h] at i2
 simp only [showL,List.length_append,kS,kI,kB,kM,kT,kX,List.length_cons,List.length_nil]
 omega
def Cur.zero:Cur:=⟨ID.zero,0,ID.zero,0,0,0⟩
def curEq (a b:Cur):Bool:=a.seq == b.seq && (a.n == b.n && (a.boot == b.boot && (a.mono == b.mono && (a.real == b.real && a.xor == b.xor))))
@[simp] theorem Cur.eq36 (a b:Cur):cellsEq [.i,.i,.i,.i,.i,.i,.i,.i,.i,.i,.i,.i,.i,.i,.i,.i,.i,.i,.i,.i,.i,.i,.i,.i,.i,.i,.i,.i,.i,.i,.i,.i,.i,.i,.i,.i] (Enc.cells a) (Enc.cells b) = some (curEq a b):=by
 have h1:=cellsEq16 a.seq b.seq
 have h2:=cellsEq16 a.boot b.boot
 rw [Cur.cells,Cur.cells]
 have e:([.i,.i,.i,.i,.i,.i,.i,.i,.i,.i,.i,.i,.i,.i,.i,.i,.i,.i,.i,.i,.i,.i,.i,.i,.i,.i,.i,.i,.i,.i,.i,.i,.i,.i,.i,.i]:List CK) = [.i,.i,.i,.i,.i,.i,.i,.i,.i,.i,.i,.i,.i,.i,.i,.i] ++ (.i :: ([.i,.i,.i,.i,.i,.i,.i,.i,.i,.i,.i,.i,.i,.i,.i,.i] ++ [.i,.i,.i])):=rfl
 rw [e,cellsEq_app _ _ _ _ _ _ (by simp) (by simp),h1]
 simp only [cellsEq,cellEq,if_true]
 rw [cellsEq_app _ _ _ _ _ _ (by simp) (by simp),h2]
 simp only [cellsEq,cellEq,if_true,Bool.and_true]
 rfl
end Go.Ev
namespace Go.Ev
open Go Go.Proofs
def nameC (c:UInt8):Bool:=(decide (65≤c.toNat) && decide (c.toNat≤90)) || (decide (48≤c.toNat) && decide (c.toNat≤57)) || decide (c.toNat = 95)
def digC (c:UInt8):Bool:=decide (48≤c.toNat) && decide (c.toNat≤57)
def nameOk:List UInt8→Bool
 | []=>false
 | c :: l=>decide ((c :: l).length≤64) && !digC c && (c :: l).all nameC
def prOk (p:Pr):Bool:=nameOk p.name && decide (p.value.length≤256)
def plainC (c:UInt8):Bool:= !(decide (c.toNat < 32) && decide (c.toNat≠9))
def plainV (s:List UInt8):Bool:=s.all plainC
def pairL (p:Pr):List UInt8:=if plainV p.value then ((p.name ++ [61]) ++ p.value) ++ [10] else (((p.name ++ [10]) ++ leB 8 p.value.length) ++ p.value) ++ [10]
def recOk (it:It):Bool:=decide (it.fr = 0) && decide (it.til = 0) && decide (it.rc.seq≠0) && decide (1≤it.rc.fields.l.length) && decide (it.rc.fields.l.length≤16) && it.rc.fields.l.all prOk
def gapOk (it:It):Bool:=decide (1≤it.fr) && decide (it.fr≤it.til) && decide (it.rc.seq = 0) && decide (it.rc.real = 0) && decide (it.rc.mono = 0) && decide (it.rc.boot = ID.zero) && decide (it.rc.fields.l.length = 0)
def itOk (it:It):Bool:=if it.gap then gapOk it else recOk it
end Go.Ev
namespace Go.Ev
open Go Go.Proofs
def fromAll (p:Nat→Bool):Nat→Nat→Bool
 | 0,_=>true
 | n+1,k=>p k && fromAll p n (k+1)
def rangeAll (n:Nat) (p:Nat→Bool) (k:Nat):Bool:=fromAll p (n - k) k
theorem rangeAll_step {n:Nat} {p:Nat→Bool} {k:Nat} (h:k < n):rangeAll n p k = (p k && rangeAll n p (k+1)):=by
 unfold rangeAll
 obtain ⟨j,hj⟩:∃ j,n - k = j+1:=⟨n - k - 1,by omega⟩
 have hj2:n - (k+1) = j:=by omega
 rw [hj,hj2,fromAll]
theorem rangeAll_end {n:Nat} {p:Nat→Bool} {k:Nat} (h:n≤k):rangeAll n p k = true:=by
 unfold rangeAll
 rw [show n - k = 0 by omega,fromAll]
structure Str where
 s:List UInt8
deriving DecidableEq
instance:Enc Str:=⟨1,fun x=>[.str x.s],fun _=>rfl,fun _=>rfl⟩
@[simp] theorem Str.cells (x:Str):Enc.cells x = [D.str x.s]:=rfl
@[simp] theorem Str.size:Enc.size Str = 1:=rfl
@[simp] theorem Str.el (l:List Str):(encs l).length = l.length:=by rw [encs_len,Str.size,Nat.mul_one]
theorem Str.ea {l:List Str} {i:Nat} (h:i < l.length):(encs l).drop i = .str l[i].s :: encs (l.drop (i+1)):=by
 have:=encs_at (n:=1) (α:=Str) rfl h
 rw [Nat.mul_one] at this
 exact this
structure Alt where
 name:List UInt8
 vals:Sl Str
instance:Enc Alt:=⟨2,fun a=>[.str a.name,.vsl a.vals.nil (encs a.vals.l) a.vals.l.length],fun _=>rfl,fun a=>by simp [idFree]⟩
theorem Alt.cells (a:Alt):Enc.cells a = [D.str a.name,.vsl a.vals.nil (encs a.vals.l) a.vals.l.length]:=rfl
@[simp] theorem Alt.size:Enc.size Alt = 2:=rfl
@[simp] theorem Alt.el (l:List Alt):(encs l).length = l.length * 2:=by rw [encs_len,Alt.size]
theorem Alt.ea {l:List Alt} {i:Nat} (h:i < l.length):(encs l).drop (i * 2) = .str l[i].name :: .vsl l[i].vals.nil (encs l[i].vals.l) l[i].vals.l.length :: encs (l.drop (i+1)):=encs_at (n:=2) (α:=Alt) rfl h
structure Row where
 r:Sl Alt
instance:Enc Row:=⟨1,fun a=>[.vsl a.r.nil (encs a.r.l) a.r.l.length],fun _=>rfl,fun a=>by simp [idFree]⟩
theorem Row.cells (a:Row):Enc.cells a = [.vsl a.r.nil (encs a.r.l) a.r.l.length]:=rfl
@[simp] theorem Row.size:Enc.size Row = 1:=rfl
@[simp] theorem Row.el (l:List Row):(encs l).length = l.length:=by rw [encs_len,Row.size,Nat.mul_one]
theorem Row.ea {l:List Row} {i:Nat} (h:i < l.length):(encs l).drop i = .vsl l[i].r.nil (encs l[i].r.l) l[i].r.l.length :: encs (l.drop (i+1)):=by
 have:=encs_at (n:=1) (α:=Row) rfl h
 rw [Nat.mul_one] at this
 exact this
structure Mat where
 rows:Sl Row
instance:Enc Mat:=⟨1,fun a=>[.vsl a.rows.nil (encs a.rows.l) a.rows.l.length],fun _=>rfl,fun a=>by simp [idFree]⟩
@[simp] theorem Mat.cells (a:Mat):Enc.cells a = [.vsl a.rows.nil (encs a.rows.l) a.rows.l.length]:=rfl
def vOk (l:List Str) (i:Nat):Bool:=decide ((l.getD i ⟨[]⟩).s.length≤256) && (decide (i = 0) || Op.bytesLess (l.getD (i - 1) ⟨[]⟩).s (l.getD i ⟨[]⟩).s)
def altOk (a:Alt):Bool:=nameOk a.name && (decide (a.vals.l≠[]) && rangeAll a.vals.l.length (vOk a.vals.l) 0)
def aAt (l:List Alt) (i:Nat):Alt:=l.getD i ⟨[],.none⟩
def altsOk (l:List Alt) (i:Nat):Bool:=(decide (i = 0) || Op.bytesLess (aAt l (i - 1)).name (aAt l i).name) && altOk (aAt l i)
def rowOk (r:Row):Bool:=decide (r.r.l≠[]) && rangeAll r.r.l.length (altsOk r.r.l) 0
def wordsA (l:List Alt):Nat:=(l.map fun a=>a.vals.l.length).sum
def wordsR (l:List Row):Nat:=(l.map fun r=>wordsA r.r.l).sum
theorem wordsA_cons (a:Alt) (l:List Alt):wordsA (a :: l) = a.vals.l.length+wordsA l:=rfl
theorem wordsR_cons (a:Row) (l:List Row):wordsR (a :: l) = wordsA a.r.l+wordsR l:=rfl
def matOk (l:List Row):Bool:=l.all rowOk && decide (l.length - 1+wordsR l≤32)
def MatB (l:List Row):Prop:=l.length≤5∧∀ r∈l,r.r.l.length≤20∧∀ a∈r.r.l,a.vals.l.length≤40∧a.name.length≤9223372036854775807
def altHolds (a:Alt) (l:List Pr):Bool:=l.any fun p=>decide (p.name = a.name) && a.vals.l.any fun v=>decide (v.s = p.value)
def rowHolds (r:Row) (l:List Pr):Bool:=r.r.l.all fun a=>altHolds a l
def matHolds (m:List Row) (l:List Pr):Bool:=decide (m = []) || m.any fun r=>rowHolds r l
theorem altHolds_swap (a:Alt) (l:List Pr):altHolds a l = a.vals.l.any fun v=>l.any fun p=>decide (p.name = a.name) && decide (p.value = v.s):=by
 unfold altHolds
 rw [Bool.eq_iff_iff]
 simp only [List.any_eq_true,Bool.and_eq_true,decide_eq_true_eq]
 constructor
 ·rintro ⟨p,hp,h1,v,hv,h2⟩
  exact ⟨v,hv,p,hp,h1,h2.symm⟩
 ·rintro ⟨v,hv,p,hp,h1,h2⟩
  exact ⟨p,hp,h1,v,hv,h2.symm⟩
end Go.Ev
namespace Go.Ev.S
open Go Go.Proofs Go.Ev
theorem has_IDm {n:Nat} {cs:List D} (h:HasT Tryz.prog (n+2) 30 cs):∃ i:ID,cs = ofBytes i.l:=has_id un30 un5 h
theorem has_Mk {n:Nat} {cs:List D} (h:HasT Tryz.prog (n+2+1) 77 cs):∃ m:Mk,cs = Enc.cells m∧m.Ok:=by
 have h:=has_struct (P:=Tryz.prog) (n:=n+2) (t:=77) Tryz.underlying77 h
 simp only [HasFs] at h
 obtain ⟨a,b,rfl,-,ha,c,d,rfl,-,hc,e,f,rfl,-,he,g,k,rfl,-,hg,rfl⟩:=h
 obtain ⟨id,rfl⟩:=has_IDm ha
 obtain ⟨x1,rfl,w1⟩:=has_u64 un28 hc
 obtain ⟨x2,rfl,w2⟩:=has_u64 un28 he
 obtain ⟨x3,rfl,w3⟩:=has_u64 un28 hg
 exact ⟨⟨id,x1,x2,x3⟩,by simp [Mk.cells],⟨w1,w2,w3⟩⟩
theorem has_Pr {n:Nat} {cs:List D} (h:HasT Tryz.prog (n+1+1) 92 cs):∃ p:Pr,cs = Enc.cells p∧(p.name.length≤maxLen∧p.value.length≤maxLen):=by
 have h:=has_struct (P:=Tryz.prog) (n:=n+1) (t:=92) Tryz.underlying92 h
 simp only [HasFs] at h
 obtain ⟨a,b,rfl,-,ha,c,d,rfl,-,hc,rfl⟩:=h
 obtain ⟨x1,rfl,w1⟩:=has_str un9 ha
 obtain ⟨x2,rfl,w2⟩:=has_str un9 hc
 exact ⟨⟨x1,x2⟩,by simp [Pr.cells],w1,w2⟩
theorem has_Rec {n:Nat} {cs:List D} (h:HasT Tryz.prog (n+3+1) 33 cs):∃ r:Rec,cs = Enc.cells r∧(r.Ok∧r.Fit):=by
 have h:=has_struct (P:=Tryz.prog) (n:=n+3) (t:=33) Tryz.underlying33 h
 simp only [HasFs] at h
 obtain ⟨a,b,rfl,-,ha,c,d,rfl,-,hc,e,f,rfl,-,he,g,k,rfl,-,hg,i,j,rfl,-,hi,rfl⟩:=h
 obtain ⟨x1,rfl,w1⟩:=has_u64 un28 ha
 obtain ⟨x2,rfl,w2⟩:=has_u64 un28 hc
 obtain ⟨x3,rfl,w3⟩:=has_u64 un28 he
 obtain ⟨id,rfl⟩:=has_IDm hg
 obtain ⟨s,rfl,s1,s2⟩:=has_slice (α:=Pr) un31 (fun l=>has_Pr) hi
 exact ⟨⟨x1,x2,x3,id,s⟩,by simp [Rec.cells],⟨w1,w2,w3⟩,s1,s2⟩
theorem has_It {n:Nat} {cs:List D} (h:HasT Tryz.prog (n+4+1) 35 cs):∃ i:It,cs = Enc.cells i∧(i.Ok∧i.rc.Fit):=by
 have h:=has_struct (P:=Tryz.prog) (n:=n+4) (t:=35) Tryz.underlying35 h
 simp only [HasFs] at h
 obtain ⟨a,b,rfl,-,ha,c,d,rfl,-,hc,e,f,rfl,-,he,g,k,rfl,-,hg,i,j,rfl,-,hi,rfl⟩:=h
 obtain ⟨id,rfl⟩:=has_IDm ha
 obtain ⟨gap,rfl⟩:=has_bool un4 hc
 obtain ⟨x1,rfl,w1⟩:=has_u64 un28 he
 obtain ⟨x2,rfl,w2⟩:=has_u64 un28 hg
 obtain ⟨r,rfl,r1,r2⟩:=has_Rec hi
 exact ⟨⟨id,gap,x1,x2,r⟩,by simp [It.cells,Rec.cells],⟨w1,w2,r1⟩,r2⟩
end Go.Ev.S
namespace Go.Ev.S
open Go Go.Proofs Go.Ev
theorem sindex_ev [TxtC] (s:Sl Str) (v:List UInt8) (hn:s.l.length < 4611686018427387904) :
  call cx 109 [(.vsl s.nil (encs s.l) s.l.length),.str v] [] = some (.int .i64 (find? (fun x=>decide (v = x.s)) s.l 0),[]):=by
 refine call_run Tryz.func109 rfl ⟨rfl,rfl⟩ ?_
 simp [Tryz.f109]
 refine Run.loopThen (fun (i:Nat) e H=>i≤s.l.length∧H = []∧look e 0 = some (.vsl s.nil (encs s.l) s.l.length)∧look e 1 = some (.str v)∧look e 7 = some (.int .i64 s.l.length)∧look e 8 = some (.int .i64 i)∧find? (fun x=>decide (v = x.s)) s.l 0 = find? (fun x=>decide (v = x.s)) (s.l.drop i) i) (fun i=>s.l.length - i) 0 (by simp) ?_
 rintro i e H ⟨hi,rfl,h0,h1,h7,h8,hf⟩
 by_cases hlt:i < s.l.length
 ·have hlt':((i:Int) < (s.l.length:Int)):=by omega
  have hd:s.l.drop i = s.l[i] :: s.l.drop (i+1):=List.drop_eq_getElem_cons hlt
  have hea:=Str.ea hlt
  have hw:IntKind.i64.wrap ((i:Int)+1) = ((i+1:Nat):Int):=by rw [wrap_i64] <;> omega
  rw [hd,find?] at hf
  generalize s.l[i] = x at *
  by_cases hp:v = x.s
  ·rw [decide_eq_true hp,if_pos rfl] at hf
   simp [h0,h1,h7,h8,hlt',Sl.nn hlt,hea,← hp,hf]
  ·rw [decide_eq_false hp,if_neg (by decide)] at hf
   have hp':(v == x.s) = false:=beq_eq_false_iff_ne.2 hp
   simp [h0,h1,h7,h8,hlt',Sl.nn hlt,hea,hp',hf,hw]
   exact ⟨i+1,by omega,by omega,rfl,rfl⟩
 ·have hlt':¬ ((i:Int) < (s.l.length:Int)):=by omega
  have hd:s.l.drop i = []:=List.drop_eq_nil_of_le (by omega)
  rw [hd] at hf
  simp [h0,h1,h7,h8,hlt',hf,find?]
theorem find?_any {α:Type} (p:α→Bool):∀ (l:List α) (k:Int),0≤k→(0≤find? p l k↔l.any p = true)
 | [],k,_=>by simp [find?]
 | a :: l,k,h=>by
  rw [find?,List.any_cons]
  cases hp:p a with
  | true=>simp [h]
  | false =>
   rw [if_neg (by decide),Bool.false_or]
   exact find?_any p l (k+1) (by omega)
theorem scontains_ev [TxtC] (s:Sl Str) (v:List UInt8) (hn:s.l.length < 4611686018427387904) :
  call cx 92 [(.vsl s.nil (encs s.l) s.l.length),.str v] [] = some (.bool (s.l.any fun x=>decide (v = x.s)),[]):=by
 have h:=sindex_ev s v hn
 have hf:=find?_any (fun x:Str=>decide (v = x.s)) s.l 0 (by decide)
 refine call_run Tryz.func92 rfl ⟨rfl,rfl⟩ ?_
 generalize find? (fun x:Str=>decide (v = x.s)) s.l 0 = n at *
 generalize s.l.any (fun x:Str=>decide (v = x.s)) = b at *
 cases b with
 | true =>
  have h0:0≤n:=hf.2 rfl
  simp [Tryz.f92,h,h0]
 | false =>
  have h0:¬ 0≤n:=fun h=>by have:=hf.1 h;cases this
  simp [Tryz.f92,h,h0]
theorem mhas_ev [TxtC] (a:Alt) (l:Sl Pr) (ha:a.vals.l.length < 4611686018427387904) (hl:l.l.length < 4611686018427387904) :
  call cx 67 [.agg [.str a.name,(.vsl a.vals.nil (encs a.vals.l) a.vals.l.length)],(.vsl l.nil (encs l.l) l.l.length)] [] = some (.bool (altHolds a l.l),[]):=by
 refine call_run Tryz.func67 rfl ⟨rfl,rfl⟩ ?_
 obtain ⟨r,hr⟩:∃ r,altHolds a l.l = r:=⟨_,rfl⟩
 rw [hr]
 unfold altHolds at hr
 simp [Tryz.f67]
 refine Run.loopThen (fun (i:Nat) e H=>i≤l.l.length∧(H = [some [.str a.name,(.vsl a.vals.nil (encs a.vals.l) a.vals.l.length)]]∨∃ p:Pr,H = [some [.str a.name,(.vsl a.vals.nil (encs a.vals.l) a.vals.l.length)],some [.str p.name,.str p.value]])∧look e 2 = some (.optr 0 2 0)∧look e 7 = some (.vsl l.nil (encs l.l) l.l.length)∧look e 8 = some (.int .i64 l.l.length)∧look e 9 = some (.int .i64 i)∧((l.l.drop i).any fun p=>decide (p.name = a.name) && a.vals.l.any fun v=>decide (v.s = p.value)) = r) (fun i=>l.l.length - i) 0 (by simpa using hr) ?_
 rintro i e H ⟨hi,hH,h2,h7,h8,h9,hf⟩
 by_cases hlt:i < l.l.length
 ·have hlt':((i:Int) < (l.l.length:Int)):=by omega
  have hw:IntKind.i64.wrap ((i:Int)+1) = ((i+1:Nat):Int):=by rw [wrap_i64] <;> omega
  have hea:List.drop (i * 2) (encs l.l) = Enc.cells l.l[i] ++ encs (l.l.drop (i+1)):=Pr.ea hlt
  rw [List.drop_eq_getElem_cons hlt,List.any_cons] at hf
  have hnn:=Sl.nn hlt
  have hc:=scontains_ev a.vals l.l[i].value ha
  generalize l.l[i] = p at *
  rw [Pr.cells] at hea
  by_cases hp:p.name = a.name
  ·have hca:(a.vals.l.any fun v=>decide (v.s = p.value)) = a.vals.l.any fun x=>decide (p.value = x.s):=by
    congr 1
    funext x
    rw [decide_eq_decide]
    exact ⟨Eq.symm,Eq.symm⟩
   rw [hca] at hf
   generalize a.vals.l.any (fun x=>decide (p.value = x.s)) = b at *
   cases b with
   | true =>
    rw [decide_eq_true hp] at hf
    have hr:r = true:=by rw [← hf];rfl
    subst hr
    rcases hH with rfl | ⟨p',rfl⟩
    all_goals
     simp [-Pr.ea,h2,h7,h8,h9,hlt',hnn,hea,hp,hc]
   | false =>
    rw [Bool.and_false,Bool.false_or] at hf
    rcases hH with rfl | ⟨p',rfl⟩
    all_goals
     simp [-Pr.ea,h2,h7,h8,h9,hlt',hnn,hea,hp,hc,hw]
     exact ⟨i+1,by omega,by omega,⟨⟨a.name,p.value⟩,rfl,rfl⟩,by omega,by simpa using hf⟩
  ·have hp':(p.name == a.name) = false:=beq_eq_false_iff_ne.2 hp
   rw [decide_eq_false hp,Bool.false_and,Bool.false_or] at hf
   rcases hH with rfl | ⟨p',rfl⟩
   all_goals
    simp [-Pr.ea,h2,h7,h8,h9,hlt',hnn,hea,hp',hw]
    exact ⟨i+1,by omega,by omega,⟨p,rfl,rfl⟩,by omega,by simpa using hf⟩
 ·have hlt':¬ ((i:Int) < (l.l.length:Int)):=by omega
  rw [List.drop_eq_nil_of_le (by omega)] at hf
  replace hf:false = r:=hf
  subst hf
  rcases hH with rfl | ⟨p',rfl⟩
  all_goals
   simp [h2,h7,h8,h9,hlt']
theorem holds1_ev [TxtC] (a:Alt) (l:Sl Pr) (ha:a.vals.l.length < 4611686018427387904) (hl:l.l.length < 4611686018427387904) :
  call cx 66 [.agg [.str a.name,(.vsl a.vals.nil (encs a.vals.l) a.vals.l.length)],.vptr [(.vsl l.nil (encs l.l) l.l.length)]] [] = some (.bool (!altHolds a l.l),[]):=by
 have h:=mhas_ev a l ha hl
 refine call_run Tryz.func66 rfl ⟨rfl,rfl⟩ ?_
 simp [Tryz.f66,h]
theorem aindex_ev [TxtC] (s:Sl Alt) (l:Sl Pr) (hn:s.l.length < 4611686018427387904) (ha:∀ a∈s.l,a.vals.l.length < 4611686018427387904) (hl:l.l.length < 4611686018427387904) :
  call cx 91 [(.vsl s.nil (encs s.l) s.l.length),.fn 66 [.vptr [(.vsl l.nil (encs l.l) l.l.length)]]] [] = some (.int .i64 (find? (fun a=>!altHolds a l.l) s.l 0),[]):=by
 refine call_run Tryz.func91 rfl ⟨rfl,rfl⟩ ?_
 obtain ⟨r,hr⟩:∃ r,find? (fun a=>!altHolds a l.l) s.l 0 = r:=⟨_,rfl⟩
 rw [hr]
 simp [Tryz.f91]
 refine Run.loopThen (fun (i:Nat) e H=>i≤s.l.length∧H = []∧look e 0 = some (.vsl s.nil (encs s.l) s.l.length)∧look e 1 = some (.fn 66 [.vptr [(.vsl l.nil (encs l.l) l.l.length)]])∧look e 7 = some (.int .i64 s.l.length)∧look e 8 = some (.int .i64 i)∧find? (fun a=>!altHolds a l.l) (s.l.drop i) i = r) (fun i=>s.l.length - i) 0 (by simpa using hr) ?_
 rintro i e H ⟨hi,rfl,h0,h1,h7,h8,hf⟩
 by_cases hlt:i < s.l.length
 ·have hlt':((i:Int) < (s.l.length:Int)):=by omega
  have hd:s.l.drop i = s.l[i] :: s.l.drop (i+1):=List.drop_eq_getElem_cons hlt
  have hw:IntKind.i64.wrap ((i:Int)+1) = ((i+1:Nat):Int):=by rw [wrap_i64] <;> omega
  have hea:=Alt.ea hlt
  have hc:=holds1_ev s.l[i] l (ha _ (List.getElem_mem hlt)) hl
  have hnn:=Sl.nn hlt
  rw [hd,find?] at hf
  generalize s.l[i] = x at *
  cases hp:altHolds x l.l with
  | false =>
   rw [hp] at hc hf
   replace hf:(i:Int) = r:=hf
   subst hf
   simp [h0,h1,h7,h8,hlt',hnn,hea,hc]
  | true =>
   rw [hp] at hc hf
   rw [Bool.not_true,if_neg (by decide)] at hf
   simp [h0,h1,h7,h8,hlt',hnn,hea,hc,hw]
   exact ⟨i+1,by omega,by omega,rfl,by simpa using hf⟩
 ·have hlt':¬ ((i:Int) < (s.l.length:Int)):=by omega
  rw [List.drop_eq_nil_of_le (by omega)] at hf
  replace hf:(-1:Int) = r:=hf
  simp [h0,h1,h7,h8,hlt',hf]
theorem any_not_all {α:Type} (p:α→Bool):∀ l:List α,(l.any fun a=>!p a) = !l.all p
 | []=>rfl
 | a :: l=>by rw [List.any_cons,List.all_cons,any_not_all p l,Bool.not_and]
theorem acontains_ev [TxtC] (s:Row) (l:Sl Pr) (hn:s.r.l.length < 4611686018427387904) (ha:∀ a∈s.r.l,a.vals.l.length < 4611686018427387904) (hl:l.l.length < 4611686018427387904) :
  call cx 65 [(.vsl s.r.nil (encs s.r.l) s.r.l.length),.fn 66 [.vptr [(.vsl l.nil (encs l.l) l.l.length)]]] [] = some (.bool (!rowHolds s l.l),[]):=by
 have h:=aindex_ev s.r l hn ha hl
 have hf:=find?_any (fun a=>!altHolds a l.l) s.r.l 0 (by decide)
 rw [any_not_all] at hf
 refine call_run Tryz.func65 rfl ⟨rfl,rfl⟩ ?_
 unfold rowHolds
 generalize find? (fun a=>!altHolds a l.l) s.r.l 0 = n at *
 generalize s.r.l.all (fun a=>altHolds a l.l) = b at *
 cases b with
 | false =>
  have h0:0≤n:=hf.2 rfl
  simp [Tryz.f65,h,h0]
 | true =>
  have h0:¬ 0≤n:=fun h=>by have:=hf.1 h;cases this
  simp [Tryz.f65,h,h0]
theorem mholds_ev [TxtC] (m:Mat) (hm:MatB m.rows.l) (l:Sl Pr) (hl:l.l.length < 4611686018427387904) :
  call cx 35 [.agg [(.vsl m.rows.nil (encs m.rows.l) m.rows.l.length)],(.vsl l.nil (encs l.l) l.l.length)] [] = some (.bool (matHolds m.rows.l l.l),[]):=by
 obtain ⟨M⟩:=m
 simp only at hm ⊢
 refine call_run Tryz.func35 rfl ⟨rfl,rfl⟩ ?_
 obtain ⟨r,hr⟩:∃ r,matHolds M.l l.l = r:=⟨_,rfl⟩
 rw [hr]
 unfold matHolds at hr
 simp [Tryz.f35]
 refine Run.loopThen (fun (i:Nat) e H=>i≤M.l.length∧H = [some [(.vsl M.nil (encs M.l) M.l.length)],some [(.vsl l.nil (encs l.l) l.l.length)]]∧look e 2 = some (.optr 0 1 0)∧look e 3 = some (.optr 1 1 0)∧look e 8 = some (.vsl M.nil (encs M.l) M.l.length)∧look e 9 = some (.int .i64 M.l.length)∧look e 10 = some (.int .i64 i)∧(decide (M.l = []) || (M.l.drop i).any fun x=>rowHolds x l.l) = r) (fun i=>M.l.length - i) 0 (by simpa using hr) ?_
 rintro i e H ⟨hi,rfl,h2,h3,h8,h9,h10,hf⟩
 have h5:=hm.1
 by_cases hlt:i < M.l.length
 ·have hlt':((i:Int) < (M.l.length:Int)):=by omega
  have hw:IntKind.i64.wrap ((i:Int)+1) = ((i+1:Nat):Int):=by rw [wrap_i64] <;> omega
  have hea:=Row.ea hlt
  obtain ⟨b1,b2⟩:=hm.2 _ (List.getElem_mem hlt)
  have hc:=acontains_ev M.l[i] l (by omega) (fun a h=>by have:=(b2 a h).1;omega) hl
  have hnn:=Sl.nn hlt
  rw [List.drop_eq_getElem_cons hlt,List.any_cons] at hf
  generalize M.l[i] = x at *
  cases hp:rowHolds x l.l with
  | true =>
   rw [hp] at hc hf
   have hr:r = true:=by rw [← hf];simp
   subst hr
   simp [h2,h3,h8,h9,h10,hlt',hnn,hea,hc]
  | false =>
   rw [hp] at hc hf
   rw [Bool.false_or] at hf
   simp [h2,h3,h8,h9,h10,hlt',hnn,hea,hc,hw]
   exact ⟨i+1,by omega,by omega,by first | exact hf | simp,by omega⟩
 ·have hlt':¬ ((i:Int) < (M.l.length:Int)):=by omega
  rw [List.drop_eq_nil_of_le (by omega)] at hf
  by_cases h0:M.l = []
  ·have h0':M.l.length = 0:=by rw [h0];rfl
   obtain rfl:i = 0:=by omega
   clear hlt'
   rw [decide_eq_true h0] at hf
   replace hf:true = r:=hf
   subst hf
   simp [h2,h3,h8,h9,h10,h0']
  ·have h0':¬ M.l.length = 0:=fun h=>h0 (List.eq_nil_of_length_eq_zero h)
   have h0i:¬ (M.l.length:Int) = 0:=by omega
   rw [decide_eq_false h0] at hf
   replace hf:false = r:=hf
   subst hf
   simp [h2,h3,h8,h9,h10,hlt',h0']
end Go.Ev.S
namespace Go.Ev.S
open Go Go.Proofs Go.Ev
theorem ralt_ev [TxtC] (a:Alt) (l:Sl Pr) (ha:a.vals.l.length < 4611686018427387904) (hl:l.l.length < 4611686018427387904) :
  call cx 72 [.agg [.str a.name,(.vsl a.vals.nil (encs a.vals.l) a.vals.l.length)],(.vsl l.nil (encs l.l) l.l.length)] [] = some (.bool (altHolds a l.l),[]):=by
 rw [altHolds_swap]
 refine call_run Tryz.func72 rfl ⟨rfl,rfl⟩ ?_
 obtain ⟨r,hr⟩:∃ r,(a.vals.l.any fun v=>l.l.any fun p=>decide (p.name = a.name) && decide (p.value = v.s)) = r:=⟨_,rfl⟩
 rw [hr]
 simp [Tryz.f72]
 refine Run.loopThen (fun (i:Nat) e H=>i≤a.vals.l.length∧H = [some [.str a.name,(.vsl a.vals.nil (encs a.vals.l) a.vals.l.length)]]∧look e 1 = some (.vsl l.nil (encs l.l) l.l.length)∧look e 2 = some (.optr 0 2 0)∧look e 5 = some (.int .i64 i)∧((a.vals.l.drop i).any fun v=>l.l.any fun p=>decide (p.name = a.name) && decide (p.value = v.s)) = r) (fun i=>a.vals.l.length - i) 0 (by simpa using hr) ?_
 rintro i e H ⟨hi,rfl,h1,h2,h5,hf⟩
 by_cases hlt:i < a.vals.l.length
 ·have hlt':((i:Int) < (a.vals.l.length:Int)):=by omega
  have hw:IntKind.i64.wrap ((i:Int)+1) = ((i+1:Nat):Int):=by rw [wrap_i64] <;> omega
  have hea:=Str.ea hlt
  have hnn:=Sl.nn hlt
  rw [List.drop_eq_getElem_cons hlt,List.any_cons] at hf
  generalize a.vals.l[i] = v at *
  simp [h1,h2,h5,hlt']
  refine Run.loopThen (fun (k:Nat) e H=>k≤l.l.length∧H = [some [.str a.name,(.vsl a.vals.nil (encs a.vals.l) a.vals.l.length)]]∧look e 1 = some (.vsl l.nil (encs l.l) l.l.length)∧look e 2 = some (.optr 0 2 0)∧look e 5 = some (.int .i64 i)∧look e 6 = some (.int .i64 k)∧(((l.l.drop k).any fun p=>decide (p.name = a.name) && decide (p.value = v.s)) || ((a.vals.l.drop (i+1)).any fun v=>l.l.any fun p=>decide (p.name = a.name) && decide (p.value = v.s))) = r) (fun k=>l.l.length - k) 0 ⟨Nat.zero_le _,rfl,by simp,by simp,by simp,by simp,by simpa using hf⟩ ?_
  rintro k e H ⟨hk,rfl,g1,g2,g5,g6,gf⟩
  by_cases hkt:k < l.l.length
  ·have hkt':((k:Int) < (l.l.length:Int)):=by omega
   have hwk:IntKind.i64.wrap ((k:Int)+1) = ((k+1:Nat):Int):=by rw [wrap_i64] <;> omega
   have heb:List.drop (k * 2) (encs l.l) = Enc.cells l.l[k] ++ encs (l.l.drop (k+1)):=Pr.ea hkt
   have hnl:=Sl.nn hkt
   rw [List.drop_eq_getElem_cons hkt,List.any_cons] at gf
   generalize l.l[k] = p at *
   rw [Pr.cells] at heb
   by_cases hp:p.name = a.name
   ·rw [decide_eq_true hp,Bool.true_and] at gf
    by_cases hq:p.value = v.s
    ·rw [decide_eq_true hq,Bool.true_or,Bool.true_or] at gf
     subst gf
     simp [-Pr.ea,g1,g2,g5,g6,hkt',hlt',hnn,hnl,hea,heb,hp,hq]
    ·have hq':(p.value == v.s) = false:=beq_eq_false_iff_ne.2 hq
     rw [decide_eq_false hq,Bool.false_or] at gf
     simp [-Pr.ea,g1,g2,g5,g6,hkt',hlt',hnn,hnl,hea,heb,hp,hq',hwk]
     exact ⟨k+1,by omega,by omega,by omega,by simpa using gf⟩
   ·have hp':(p.name == a.name) = false:=beq_eq_false_iff_ne.2 hp
    rw [decide_eq_false hp,Bool.false_and,Bool.false_or] at gf
    simp [-Pr.ea,g1,g2,g5,g6,hkt',hnn,hnl,heb,hp',hwk]
    exact ⟨k+1,by omega,by omega,by omega,by simpa using gf⟩
  ·have hkt':¬ ((k:Int) < (l.l.length:Int)):=by omega
   rw [List.drop_eq_nil_of_le (show l.l.length≤k by omega)] at gf
   simp [g1,g2,g5,g6,hkt',hw]
   exact ⟨i+1,by omega,by omega,by omega,by simpa using gf⟩
 ·have hlt':¬ ((i:Int) < (a.vals.l.length:Int)):=by omega
  rw [List.drop_eq_nil_of_le (by omega)] at hf
  replace hf:false = r:=hf
  subst hf
  simp [h1,h2,h5,hlt']
theorem rholds_ev [TxtC] (m:Mat) (hm:MatB m.rows.l) (l:Sl Pr) (hl:l.l.length < 4611686018427387904) :
  call cx 37 [.agg [(.vsl m.rows.nil (encs m.rows.l) m.rows.l.length)],(.vsl l.nil (encs l.l) l.l.length)] [] = some (.bool (matHolds m.rows.l l.l),[]):=by
 obtain ⟨M⟩:=m
 simp only at hm ⊢
 refine call_run Tryz.func37 rfl ⟨rfl,rfl⟩ ?_
 obtain ⟨r,hr⟩:∃ r,matHolds M.l l.l = r:=⟨_,rfl⟩
 rw [hr]
 unfold matHolds at hr
 simp [Tryz.f37]
 refine Run.loopThen (fun (i:Nat) e H=>i≤M.l.length∧H = [some [(.vsl M.nil (encs M.l) M.l.length)]]∧look e 1 = some (.vsl l.nil (encs l.l) l.l.length)∧look e 2 = some (.optr 0 1 0)∧look e 5 = some (.int .i64 i)∧(decide (M.l = []) || (M.l.drop i).any fun x=>rowHolds x l.l) = r) (fun i=>M.l.length - i) 0 (by simpa using hr) ?_
 rintro i e H ⟨hi,rfl,h1,h2,h5,hf⟩
 have h50:=hm.1
 by_cases hlt:i < M.l.length
 ·have hlt':((i:Int) < (M.l.length:Int)):=by omega
  have hw:IntKind.i64.wrap ((i:Int)+1) = ((i+1:Nat):Int):=by rw [wrap_i64] <;> omega
  have hea:=Row.ea hlt
  obtain ⟨b1,b2⟩:=hm.2 _ (List.getElem_mem hlt)
  have hnn:=Sl.nn hlt
  rw [List.drop_eq_getElem_cons hlt,List.any_cons] at hf
  generalize M.l[i] = x at *
  obtain ⟨R⟩:=x
  simp only at b1 b2 hea
  simp [h1,h2,h5,hlt']
  refine Run.loopThen (fun (q:Nat × Bool) e H=>q.1≤R.l.length∧H = [some [(.vsl M.nil (encs M.l) M.l.length)]]∧look e 1 = some (.vsl l.nil (encs l.l) l.l.length)∧look e 2 = some (.optr 0 1 0)∧look e 5 = some (.int .i64 i)∧look e 6 = some (.bool q.2)∧look e 7 = some (.int .i64 (q.1:Nat))∧(q.2 && (R.l.drop q.1).all fun a=>altHolds a l.l) = rowHolds ⟨R⟩ l.l) (fun q=>R.l.length - q.1) (0,true) ⟨Nat.zero_le _,rfl,by simp,by simp,by simp,by simp,by simp,by simp [rowHolds]⟩ ?_
  rintro ⟨k,b⟩ e H ⟨hk,rfl,g1,g2,g5,g6,g7,gf⟩
  simp only at hk g6 g7 gf
  by_cases hkt:k < R.l.length
  ·have hkt':((k:Int) < (R.l.length:Int)):=by omega
   have hwk:IntKind.i64.wrap ((k:Int)+1) = ((k+1:Nat):Int):=by rw [wrap_i64] <;> omega
   have heb:=Alt.ea hkt
   have hnl:=Sl.nn hkt
   have hc:=ralt_ev R.l[k] l (by have:=(b2 _ (List.getElem_mem hkt)).1;omega) hl
   rw [List.drop_eq_getElem_cons hkt,List.all_cons,← Bool.and_assoc] at gf
   generalize R.l[k] = a at *
   cases b with
   | false =>
    simp [g1,g2,g5,g6,g7,hkt',hlt',hnn,hnl,hea,hwk]
    rw [Bool.false_and,Bool.false_and] at gf
    exact ⟨k+1,by omega,by omega,by omega,gf.symm⟩
   | true =>
    cases hv:altHolds a l.l with
    | true =>
     rw [hv] at hc gf
     simp [g1,g2,g5,g6,g7,hkt',hlt',hnn,hnl,hea,heb,hc,hwk]
     exact ⟨k+1,by omega,by omega,by omega,by simpa using gf⟩
    | false =>
     rw [hv] at hc gf
     simp [g1,g2,g5,g6,g7,hkt',hlt',hnn,hnl,hea,heb,hc,hwk]
     rw [Bool.and_false,Bool.false_and] at gf
     exact ⟨k+1,by omega,by omega,by omega,gf.symm⟩
  ·have hkt':¬ ((k:Int) < (R.l.length:Int)):=by omega
   rw [List.drop_eq_nil_of_le (show R.l.length≤k by omega),List.all_nil,Bool.and_true] at gf
   subst gf
   cases hb:rowHolds ⟨R⟩ l.l with
   | true =>
    rw [hb,Bool.true_or,Bool.or_true] at hf
    subst hf
    rw [hb] at g6
    simp [g1,g2,g5,g6,g7,hkt',hlt',hnn,hea]
   | false =>
    rw [hb,Bool.false_or] at hf
    rw [hb] at g6
    simp [g1,g2,g5,g6,g7,hkt',hlt',hnn,hea,hw]
    exact ⟨i+1,by omega,by omega,by omega,by simpa using hf⟩
 ·have hlt':¬ ((i:Int) < (M.l.length:Int)):=by omega
  rw [List.drop_eq_nil_of_le (by omega)] at hf
  by_cases h0:M.l = []
  ·have h0':M.l.length = 0:=by rw [h0];rfl
   obtain rfl:i = 0:=by omega
   clear hlt'
   rw [decide_eq_true h0] at hf
   replace hf:true = r:=hf
   subst hf
   simp [h1,h2,h5,h0']
  ·have h0':¬ M.l.length = 0:=fun h=>h0 (List.eq_nil_of_length_eq_zero h)
   have h0i:¬ (M.l.length:Int) = 0:=by omega
   rw [decide_eq_false h0] at hf
   replace hf:false = r:=hf
   subst hf
   simp [h1,h2,h5,hlt',h0']
end Go.Ev.S
namespace Go.Proofs
open Go.Shelf
def Tryz.lays169_ren:Go.Shelf.Ren:=⟨fun | 169=>64 | n=>n,fun | 70=>111 | 9=>9 | 0=>0 | 72=>113 | 37=>65 | 127=>145 | 3=>3 | 5=>5 | n=>n,fun | n=>n⟩
theorem Tryz.lays169:Go.Proofs.Lays.n169 Tryz.prog Tryz.lays169_ren:={
 mixed:=by kernel_rfl
 f169:=Tryz.func64.trans (congrArg some (by kernel_rfl))
 t0:=Tryz.underlying0
 a0:=Tryz.isAgg0
 z0:=Tryz.sizeOf0
 v0:=Tryz.zeroValue0
 t3:=Tryz.underlying3
 a3:=Tryz.isAgg3
 z3:=Tryz.sizeOf3
 v3:=Tryz.zeroValue3
 t9:=Tryz.underlying9
 a9:=Tryz.isAgg9
 z9:=Tryz.sizeOf9
 v9:=Tryz.zeroValue9
 t37:=Tryz.underlying65
 a37:=Tryz.isAgg65
 z37:=Tryz.sizeOf65
 v37:=Tryz.zeroValue65
 t70:=Tryz.underlying111
 a70:=Tryz.isAgg111
 z70:=Tryz.sizeOf111
 v70:=Tryz.zeroValue111
 t72:=Tryz.underlying113
 a72:=Tryz.isAgg113
 z72:=Tryz.sizeOf113
 v72:=Tryz.zeroValue113
 t127:=Tryz.underlying145
 a127:=Tryz.isAgg145
 z127:=Tryz.sizeOf145
 v127:=Tryz.zeroValue145 }
theorem Tryz.Builder_Extra_169:Builder.Extra Tryz.prog Tryz.lays169_ren:={
 sizeBuilder:=by kernel_rfl
 liesBuilder:=by kernel_rfl
 t5:=Tryz.underlying5
 a5:=Tryz.isAgg5
 z5:=Tryz.sizeOf5
 v5:=Tryz.zeroValue5
 infoByte:=by kernel_rfl
 cellsByte:=by kernel_rfl
 sizeByte:=by kernel_rfl
 neB5:=by decide }
def Tryz.lays129_ren:Go.Shelf.Ren:=⟨fun | 129=>132 | n=>n,fun | 53=>28 | 3=>3 | 4=>4 | 46=>141 | 5=>5 | 9=>9 | n=>n,fun | n=>n⟩
theorem Tryz.lays129:Go.Proofs.Lays.n129 Tryz.prog Tryz.lays129_ren:={
 mixed:=by kernel_rfl
 f129:=Tryz.func132.trans (congrArg some (by kernel_rfl))
 t3:=Tryz.underlying3
 a3:=Tryz.isAgg3
 z3:=Tryz.sizeOf3
 v3:=Tryz.zeroValue3
 t4:=Tryz.underlying4
 a4:=Tryz.isAgg4
 z4:=Tryz.sizeOf4
 v4:=Tryz.zeroValue4
 t5:=Tryz.underlying5
 a5:=Tryz.isAgg5
 z5:=Tryz.sizeOf5
 v5:=Tryz.zeroValue5
 t9:=Tryz.underlying9
 a9:=Tryz.isAgg9
 z9:=Tryz.sizeOf9
 v9:=Tryz.zeroValue9
 t46:=Tryz.underlying141
 a46:=Tryz.isAgg141
 z46:=Tryz.sizeOf141
 v46:=Tryz.zeroValue141
 t53:=Tryz.underlying28
 a53:=Tryz.isAgg28
 z53:=Tryz.sizeOf28
 v53:=Tryz.zeroValue28 }
def Tryz.lays283_ren:Go.Shelf.Ren:=⟨fun | 283=>114 | n=>n,fun | 3=>3 | 9=>9 | 4=>4 | n=>n,fun | n=>n⟩
theorem Tryz.lays283:Go.Proofs.Lays.n283 Tryz.prog Tryz.lays283_ren:={
 mixed:=by kernel_rfl
 f283:=Tryz.func114.trans (congrArg some (by kernel_rfl))
 t3:=Tryz.underlying3
 a3:=Tryz.isAgg3
 z3:=Tryz.sizeOf3
 v3:=Tryz.zeroValue3
 t4:=Tryz.underlying4
 a4:=Tryz.isAgg4
 z4:=Tryz.sizeOf4
 v4:=Tryz.zeroValue4
 t9:=Tryz.underlying9
 a9:=Tryz.isAgg9
 z9:=Tryz.sizeOf9
 v9:=Tryz.zeroValue9 }
end Go.Proofs
namespace Go.Ev.S
open Go Go.Proofs Go.Ev
theorem ok_0 [TxtC]:okRange cx 0 40 = true:=by kernel_rfl
theorem ok_40 [TxtC]:okRange cx 40 40 = true:=by kernel_rfl
theorem ok_80 [TxtC]:okRange cx 80 40 = true:=by kernel_rfl
theorem ok_120 [TxtC]:okRange cx 120 40 = true:=by kernel_rfl
theorem ok_160 [TxtC]:okRange cx 160 10 = true:=by kernel_rfl
theorem fsize:Tryz.prog.funcs.size = 170:=by kernel_rfl
theorem all_ok [TxtC] (f:Nat) (h:f < 170):okOne cx f = true:=by
 rcases Nat.lt_or_ge f 40 with h0 | h0
 ·exact okRange_get ok_0 (by omega) (by omega)
 rcases Nat.lt_or_ge f 80 with h1 | h1
 ·exact okRange_get ok_40 (by omega) (by omega)
 rcases Nat.lt_or_ge f 120 with h2 | h2
 ·exact okRange_get ok_80 (by omega) (by omega)
 rcases Nat.lt_or_ge f 160 with h3 | h3
 ·exact okRange_get ok_120 (by omega) (by omega)
 exact okRange_get ok_160 (by omega) (by omega)
set_option maxRecDepth 100000 in
theorem good [TxtC] (hT:TxtRun):Good cx where
 mixed:=by kernel_rfl
 okc f fn c hf hc hb:=(okOne_get (all_ok f (by rw [← fsize];exact (Array.getElem?_eq_some_iff.1 hf).1)) hf).2 c hc hb
 ng f fn hf:=(okOne_get (all_ok f (by rw [← fsize];exact (Array.getElem?_eq_some_iff.1 hf).1)) hf).1
 ext f fn args d hf hn h ok w ι H vs hs hv:=by
  by_cases h104:f = 104
  ·subst h104
   rw [ex104] at h
   have hff:=Tryz.func104
   rw [show cx.P.funcs[104]? = Tryz.prog.funcs[104]? from rfl,hff] at hf
   injection hf with hf
   subst hf
   exact cmpExt_run (P:=cx.P) hff rfl (by kernel_rfl) (by kernel_rfl) (by kernel_rfl) h hv
  ·have:cx.ext f args = none:=by
    show extT f args = none
    unfold extT
    split
    ·exact absurd rfl h104
    ·rfl
   rw [this] at h
   cases h
 con f args H r H' h ok w ι vs hs hv:=by
  by_cases h132:f = 132
  ·subst h132
   rw [co132] at h
   exact conLen64_run (X:=cx) Tryz.lays129 h hs hv
  by_cases h114:f = 114
  ·subst h114
   rw [co114] at h
   exact conSmall_run (X:=cx) Tryz.lays283 h hs hv
  by_cases h34:f = 34
  ·subst h34
   rw [co34] at h
   exact hT (f:=34) h hs hv
  ·have:cx.con f args H = none:=by
    show conT f args H = none
    unfold conT
    split
    ·exact absurd rfl h132
    ·exact absurd rfl h114
    ·exact absurd rfl h34
    ·rfl
   rw [this] at h
   cases h
end Go.Ev.S
namespace Go.Ev.S
open Go Go.Proofs Go.Ev
theorem globs [TxtC] {W:World} (h:laidMet Tryz.prog YtdmkldmbjclifaaGreatDoor.Rows.batchSaysRow.laid W):∀ g cs,cx.glob g = some cs→Rep (· < W.heap.size) W iota0 [] (.vptr cs) (.pointer (some ⟨g,0,none⟩)):=by
 unfold YtdmkldmbjclifaaGreatDoor.Rows.batchSaysRow at h
 have t2:=rep_tab (g:=2) (zs:=gz2) (Lib.tabIs_of_head (g:=2) (t:=201) (e:=5) (n:=32) (k:=.u8) (by kernel_rfl) (by kernel_rfl) (by kernel_rfl) (by kernel_rfl) (by kernel_rfl) (by kernel_rfl) h) (by kernel_rfl)
 replace h:=h.tail
 have t3:=rep_tab (g:=3) (zs:=gz3) (Lib.tabIs_of_head (g:=3) (t:=202) (e:=5) (n:=64) (k:=.u8) (by kernel_rfl) (by kernel_rfl) (by kernel_rfl) (by kernel_rfl) (by kernel_rfl) (by kernel_rfl) h) (by kernel_rfl)
 replace h:=h.tail
 have t1:=rep_tab (g:=1) (zs:=gz1) (Lib.tabIs_of_head (g:=1) (t:=186) (e:=28) (n:=20) (k:=.u64) (by kernel_rfl) (by kernel_rfl) (by kernel_rfl) (by kernel_rfl) (by kernel_rfl) (by kernel_rfl) h) (by kernel_rfl)
 intro g cs hg
 have hgl:globT g = some cs:=hg
 unfold globT at hgl
 split at hgl
 ·cases hgl;exact t1
 ·cases hgl;exact t2
 ·cases hgl;exact t3
 ·cases hgl
end Go.Ev.S
namespace Go.Ev.S
open Go Go.Proofs Go.Ev
theorem len64_ev [TxtC] (v:Nat) (h:v < 18446744073709551616):call cx 132 [.int .u64 v] [] = some (.int .i64 (Lib.bitLen v),[]):=by
 refine call_con ?_
 rw [co132,conLen64,if_pos (by omega)]
 rfl
theorem small_ev [TxtC] (v:Nat) (h:v < 100):call cx 114 [.int .i64 v] [] = some (.str (dec v),[]):=by
 refine call_con ?_
 rw [co114,conSmall,if_pos (by omega)]
 rfl
theorem bool2_ev [TxtC] (b:Bool):call cx 134 [.bool b] [] = some (.int .i64 (if b then 1 else 0),[]):=by
 refine call_run Tryz.func134 rfl ⟨rfl,rfl⟩ ?_
 cases b <;> simp [Tryz.f134]
theorem l10_ev [TxtC] (v:Nat) (h:v≤64):call cx 133 [.int .i64 v] [] = some (.int .i64 (Lib.l10 v),[]):=by
 refine call_run Tryz.func133 rfl ⟨rfl,rfl⟩ ?_
 have h1:IntKind.i64.wrap ((v:Int) * 78913) = ((v * 78913:Nat):Int):=by rw [wrap_i64] <;> omega
 simp [Tryz.f133,h1]
 unfold Lib.l10
 have:(2:Int) ^ min 18 IntKind.i64.bits = 262144:=by decide
 rw [this,Int.fdiv_eq_ediv_of_nonneg _ (by omega)]
 omega
theorem pow10_at {t:Nat} (h:t≤19):∃ r,gd1.drop t = .int .u64 ((10 ^ t:Nat):Int) :: r:=by
 have ht:t = 0∨t = 1∨t = 2∨t = 3∨t = 4∨t = 5∨t = 6∨t = 7∨t = 8∨t = 9∨t = 10∨t = 11∨t = 12∨t = 13∨t = 14∨t = 15∨t = 16∨t = 17∨t = 18∨t = 19:=by omega
 rcases ht with rfl | rfl | rfl | rfl | rfl | rfl | rfl | rfl | rfl | rfl | rfl | rfl | rfl | rfl | rfl | rfl | rfl | rfl | rfl | rfl <;> exact ⟨_,rfl⟩
theorem ndig_ev [TxtC] (v:Nat) (h1:1≤v) (h:v < 18446744073709551616):call cx 115 [.int .u64 v] [] = some (.int .i64 (Lib.nDigits v),[]):=by
 obtain ⟨e1,e2⟩:=Lib.numDigits_eq v h1 h
 have hb:Lib.bitLen v≤64:=Lib.bitLen_le v 64 (Nat.le_refl _) h
 have g1:=len64_ev v h
 have g2:=l10_ev (Lib.bitLen v) hb
 generalize Lib.l10 (Lib.bitLen v) = t at *
 obtain ⟨r,hr⟩:=pow10_at e2
 generalize 10 ^ t = p at *
 have g3:=bool2_ev (decide ((p:Int)≤(v:Int)))
 have ht:(t:Int) < 20:=by omega
 have hw:∀ k:Int,0≤k→k≤1→IntKind.i64.wrap ((t:Int)+k) = (t:Int)+k:=fun k _ _=>by rw [wrap_i64];omega
 have hw0:IntKind.i64.wrap (t:Int) = t:=by rw [wrap_i64];omega
 refine call_run Tryz.func115 rfl ⟨rfl,rfl⟩ ?_
 by_cases hc:p≤v
 ·rw [if_pos hc] at e1
  rw [decide_eq_true (by omega)] at g3
  simp [Tryz.f115,g1,g2,g3,hr,ht,hc,hw]
  omega
 ·rw [if_neg hc] at e1
  rw [decide_eq_false (by omega)] at g3
  simp [Tryz.f115,g1,g2,g3,hr,ht,hc,hw0]
  omega
end Go.Ev.S
namespace Go.Ev.S
open Go Go.Proofs Go.Ev Go.Lib
theorem ofVal_int (k:IntKind) (n:Int):ofVal (.int k n) = some (.int k n):=rfl
theorem set_bytes {l:List UInt8} {i:Nat} (x:UInt8) (h:i < l.length):setRange (ofBytes l) i [.int .u8 (x.toNat:Int)] = ofBytes (l.set i x):=by
 rw [setRange,List.set_eq_take_append_cons_drop,if_pos h]
 simp [ofBytes,List.map_take,List.map_drop]
theorem set_arr {d:Array UInt8} {tl:List UInt8} {i:Nat} (x:UInt8) (h:i < d.size):(d.toList ++ tl).set i x = (d.setIfInBounds i x).toList ++ tl:=by
 rw [List.set_append_left _ _ (by simpa using h)]
 simp
def smL:List UInt8:=smalls.data.toList
theorem sm_at {k:Nat} (h:k < 200):smL[k]? = some (sm k):=by
 have hl:smL.length = 200:=by decide +kernel
 unfold sm
 rw [List.getD_eq_getElem?_getD]
 have:smL[k]? = some (smL[k]'(by omega)):=List.getElem?_eq_getElem (by omega)
 rw [this]
 show _ = some ((smL[k]?).getD 0)
 rw [this]
 rfl
theorem wk {nd j:Nat} (a:Int) (h:(nd:Int) - a = (j:Int)) (hj:j≤24):IntKind.i64.wrap ((nd:Int) - a) = (j:Int):=by
 rw [h,wrap_i64]
 omega
structure Fb8 (v p q x6 x7 y8 y9 y10 y11 t8 t9 t10 t11 z8 z9 z10 z11:Nat):Prop where
 a1:(v:Int).tmod 100000000 = (p:Int)
 a2:(v:Int).tdiv 100000000 = (q:Int)
 a3:(p:Int).tdiv 10000 = (x6:Int)
 a4:(p:Int).tmod 10000 = (x7:Int)
 a5:(x7:Int).tdiv 100 = (y8:Int)
 a6:(x7:Int).tmod 100 = (y9:Int)
 a7:(x6:Int).tdiv 100 = (y10:Int)
 a8:(x6:Int).tmod 100 = (y11:Int)
 w1:IntKind.u32.wrap (p:Int) = (p:Int)
 w2:IntKind.u64.wrap (q:Int) = (q:Int)
 w3:IntKind.u32.wrap (x6:Int) = (x6:Int)
 v8:IntKind.u32.wrap (y8:Int) = (y8:Int)
 v10:IntKind.u32.wrap (y10:Int) = (y10:Int)
 u8:IntKind.u32.wrap ((y8:Int) * 2) = (t8:Int)
 u9:IntKind.u32.wrap ((y9:Int) * 2) = (t9:Int)
 u10:IntKind.u32.wrap ((y10:Int) * 2) = (t10:Int)
 u11:IntKind.u32.wrap ((y11:Int) * 2) = (t11:Int)
 w8:IntKind.u32.wrap ((t8:Int)+1) = (z8:Int)
 w9:IntKind.u32.wrap ((t9:Int)+1) = (z9:Int)
 w10:IntKind.u32.wrap ((t10:Int)+1) = (z10:Int)
 w11:IntKind.u32.wrap ((t11:Int)+1) = (z11:Int)
 s1:smL[z9]? = some (sm (v % 100 * 2+1))
 s2:smL[t9]? = some (sm (v % 100 * 2))
 s3:smL[z8]? = some (sm (v / 100 % 100 * 2+1))
 s4:smL[t8]? = some (sm (v / 100 % 100 * 2))
 s5:smL[z11]? = some (sm (v / 100 / 100 % 100 * 2+1))
 s6:smL[t11]? = some (sm (v / 100 / 100 % 100 * 2))
 s7:smL[z10]? = some (sm (v / 100 / 100 / 100 % 100 * 2+1))
 s8:smL[t10]? = some (sm (v / 100 / 100 / 100 % 100 * 2))
 fq:v / 100 / 100 / 100 / 100 = q
theorem dv (a b c:Nat) (h:c = a / b):(a:Int).tdiv (b:Int) = (c:Int):=by rw [h];exact (Int.ofNat_tdiv a b).symm
theorem md (a b c:Nat) (h:c = a % b):(a:Int).tmod (b:Int) = (c:Int):=by rw [h];exact (Int.ofNat_tmod a b).symm
theorem wu32 {a:Int} {c:Nat} (h:a = (c:Int)) (hc:c < 4294967296):IntKind.u32.wrap a = (c:Int):=by rw [h,wrap_u32];omega
theorem fb8 (v:Nat) (hv:v < 18446744073709551616):∃ p q x6 x7 y8 y9 y10 y11 t8 t9 t10 t11 z8 z9 z10 z11,Fb8 v p q x6 x7 y8 y9 y10 y11 t8 t9 t10 t11 z8 z9 z10 z11:=by
 have w2:IntKind.u64.wrap ((v / 100000000:Nat):Int) = ((v / 100000000:Nat):Int):=by rw [wrap_u64];omega
 clear hv
 obtain ⟨p,hp⟩:∃ p,p = v % 100000000:=⟨_,rfl⟩
 have f9:v % 100 = p % 10000 % 100:=by omega
 have f8:v / 100 % 100 = p % 10000 / 100:=by omega
 have f11:v / 100 / 100 % 100 = p / 10000 % 100:=by omega
 have f10:v / 100 / 100 / 100 % 100 = p / 10000 / 100:=by omega
 have fq:v / 100 / 100 / 100 / 100 = v / 100000000:=by omega
 have bp:p < 100000000:=by omega
 refine ⟨p,v / 100000000,p / 10000,p % 10000,p % 10000 / 100,p % 10000 % 100,p / 10000 / 100,p / 10000 % 100,p % 10000 / 100 * 2,p % 10000 % 100 * 2,p / 10000 / 100 * 2,p / 10000 % 100 * 2,p % 10000 / 100 * 2+1,p % 10000 % 100 * 2+1,p / 10000 / 100 * 2+1,p / 10000 % 100 * 2+1,?_⟩
 have b6:p / 10000 < 10000:=by omega
 have b7:p % 10000 < 10000:=by omega
 have b8:p % 10000 / 100 < 100:=by omega
 have b9:p % 10000 % 100 < 100:=by omega
 have b10:p / 10000 / 100 < 100:=by omega
 have b11:p / 10000 % 100 < 100:=by omega
 constructor
 case a1=>exact md v 100000000 p hp
 case a2=>exact dv v 100000000 _ rfl
 case a3=>exact dv p 10000 _ rfl
 case a4=>exact md p 10000 _ rfl
 case a5=>exact dv _ 100 _ rfl
 case a6=>exact md _ 100 _ rfl
 case a7=>exact dv _ 100 _ rfl
 case a8=>exact md _ 100 _ rfl
 case w1=>exact wu32 rfl (by omega)
 case w2=>exact w2
 case w3=>exact wu32 rfl (by omega)
 case v8=>exact wu32 rfl (by omega)
 case v10=>exact wu32 rfl (by omega)
 case u8=>exact wu32 (by omega) (by omega)
 case u9=>exact wu32 (by omega) (by omega)
 case u10=>exact wu32 (by omega) (by omega)
 case u11=>exact wu32 (by omega) (by omega)
 case w8=>exact wu32 (by omega) (by omega)
 case w9=>exact wu32 (by omega) (by omega)
 case w10=>exact wu32 (by omega) (by omega)
 case w11=>exact wu32 (by omega) (by omega)
 case s1=>rw [f9];exact sm_at (by omega)
 case s2=>rw [f9];exact sm_at (by omega)
 case s3=>rw [f8];exact sm_at (by omega)
 case s4=>rw [f8];exact sm_at (by omega)
 case s5=>rw [f11];exact sm_at (by omega)
 case s6=>rw [f11];exact sm_at (by omega)
 case s7=>rw [f10];exact sm_at (by omega)
 case s8=>rw [f10];exact sm_at (by omega)
 case fq=>exact fq
structure Fb4 (v q x7 y8 y9 t8 t9 z8 z9:Nat):Prop where
 a1:(v:Int).tmod 10000 = (x7:Int)
 a2:(v:Int).tdiv 10000 = (q:Int)
 a5:(x7:Int).tdiv 100 = (y8:Int)
 a6:(x7:Int).tmod 100 = (y9:Int)
 w2:IntKind.u32.wrap (q:Int) = (q:Int)
 v8:IntKind.u32.wrap (y8:Int) = (y8:Int)
 u8:IntKind.u32.wrap ((y8:Int) * 2) = (t8:Int)
 u9:IntKind.u32.wrap ((y9:Int) * 2) = (t9:Int)
 w8:IntKind.u32.wrap ((t8:Int)+1) = (z8:Int)
 w9:IntKind.u32.wrap ((t9:Int)+1) = (z9:Int)
 s1:smL[z9]? = some (sm (v % 100 * 2+1))
 s2:smL[t9]? = some (sm (v % 100 * 2))
 s3:smL[z8]? = some (sm (v / 100 % 100 * 2+1))
 s4:smL[t8]? = some (sm (v / 100 % 100 * 2))
 fq:v / 100 / 100 = q
theorem fb4 (v:Nat) (hv:v < 100000000):∃ q x7 y8 y9 t8 t9 z8 z9,Fb4 v q x7 y8 y9 t8 t9 z8 z9:=by
 have f9:v % 100 = v % 10000 % 100:=by omega
 have f8:v / 100 % 100 = v % 10000 / 100:=by omega
 have fq:v / 100 / 100 = v / 10000:=by omega
 refine ⟨v / 10000,v % 10000,v % 10000 / 100,v % 10000 % 100,v % 10000 / 100 * 2,v % 10000 % 100 * 2,v % 10000 / 100 * 2+1,v % 10000 % 100 * 2+1,?_⟩
 have b8:v % 10000 / 100 < 100:=by omega
 have b9:v % 10000 % 100 < 100:=by omega
 constructor
 case a1=>exact md v 10000 _ rfl
 case a2=>exact dv v 10000 _ rfl
 case a5=>exact dv _ 100 _ rfl
 case a6=>exact md _ 100 _ rfl
 case w2=>exact wu32 rfl (by omega)
 case v8=>exact wu32 rfl (by omega)
 case u8=>exact wu32 (by omega) (by omega)
 case u9=>exact wu32 (by omega) (by omega)
 case w8=>exact wu32 (by omega) (by omega)
 case w9=>exact wu32 (by omega) (by omega)
 case s1=>rw [f9];exact sm_at (by omega)
 case s2=>rw [f9];exact sm_at (by omega)
 case s3=>rw [f8];exact sm_at (by omega)
 case s4=>rw [f8];exact sm_at (by omega)
 case fq=>exact fq
structure Fb2 (v q y9 t9 z9:Nat):Prop where
 a1:(v:Int).tmod 100 = (y9:Int)
 a2:(v:Int).tdiv 100 = (q:Int)
 w2:IntKind.u32.wrap (q:Int) = (q:Int)
 u9:IntKind.u32.wrap ((y9:Int) * 2) = (t9:Int)
 w9:IntKind.u32.wrap ((t9:Int)+1) = (z9:Int)
 s1:smL[z9]? = some (sm (v % 100 * 2+1))
 s2:smL[t9]? = some (sm (v % 100 * 2))
 fq:v / 100 = q
theorem fb2 (v:Nat) (hv:v < 100000000):∃ q y9 t9 z9,Fb2 v q y9 t9 z9:=by
 refine ⟨v / 100,v % 100,v % 100 * 2,v % 100 * 2+1,?_⟩
 constructor
 case a1=>exact md v 100 _ rfl
 case a2=>exact dv v 100 _ rfl
 case w2=>exact wu32 rfl (by omega)
 case u9=>exact wu32 (by omega) (by omega)
 case w9=>exact wu32 (by omega) (by omega)
 case s1=>exact sm_at (by omega)
 case s2=>exact sm_at (by omega)
 case fq=>rfl
theorem fb1 (v:Nat) (hv:v < 10):IntKind.u32.wrap (48+(v:Int)) = ((UInt8.ofNat (48+v)).toNat:Int)∧IntKind.u8.wrap ((UInt8.ofNat (48+v)).toNat:Int) = ((UInt8.ofNat (48+v)).toNat:Int):=by
 have h:(UInt8.ofNat (48+v)).toNat = 48+v:=UInt8.toNat_ofNat_of_lt' (show 48+v < 256 by omega)
 rw [h,wrap_u32 (by omega),wrap_u8 (by omega)]
 omega
theorem lt8 {n u nd v:Nat} {d:Array UInt8} (h:FmtInv n u nd v d) (h8:nd < 8):v < 100000000 :=
 Nat.lt_of_lt_of_le h.small (Nat.le_trans (Nat.pow_le_pow_right (by decide) (show nd≤7 by omega)) (by decide))
set_option maxHeartbeats 4000000 in
theorem fb10_ev [TxtC] (n u:Nat) (hn:n≤24) (hu:u < 10 ^ n) (hu64:u < 18446744073709551616) (tl:List UInt8) (htl:tl.length = 24 - n) (d:Array UInt8) (hd:d.size = n) (H:Heap) (b:Nat) (hb:b < H.length)
  (hcl:H.all (blkClosed H.length) = true) (hg:H[b] = some (ofBytes (d.toList ++ tl))) :
  ∃ v' dk,FmtInv n u 0 v' dk∧call cx 116 [.osl b 24 0 n 1,.int .u64 u] H = some (.tup [],H.set b (some (ofBytes (dk.toList ++ tl)))):=by
 suffices hs:∃ r,call cx 116 [.osl b 24 0 n 1,.int .u64 u] H = some r∧∃ v' dk,FmtInv n u 0 v' dk∧r = (.tup [],H.set b (some (ofBytes (dk.toList ++ tl)))) by
  obtain ⟨r,h1,v',dk,h2,rfl⟩:=hs
  exact ⟨v',dk,h2,h1⟩
 have hset:H.set b (some (ofBytes (d.toList ++ tl))) = H:=by rw [← hg,List.set_getElem_self]
 refine call_runE (fun r=>∃ v' dk,FmtInv n u 0 v' dk∧r = (D.tup [],H.set b (some (ofBytes (dk.toList ++ tl))))) Tryz.func116 rfl ⟨rfl,rfl⟩ ?_
 unfold Tryz.f116
 generalize hS:Value.string _ = S
 have hv:ofVal S = some (.str smL):=by rw [← hS];kernel_rfl
 clear hS
 simp
 refine Run.loopThen (fun (nd:Nat) e H'=>∃ v dk,FmtInv n u nd v dk∧H' = H.set b (some (ofBytes (dk.toList ++ tl)))∧look e 0 = some (.osl b 24 0 n 1)∧look e 1 = some (.int .u64 (v:Nat))∧look e 4 = some (.int .i64 nd)) (fun nd=>nd) n ?_ ?_
 ·exact ⟨u,d,by rw [← hd];exact FmtInv.start d u (by rw [hd];exact hu),hset.symm,by simp,by simp,by simp⟩
 rintro nd e H' ⟨v,dk,hi,rfl,h0,h1,h4⟩
 have hv64:v < 18446744073709551616:=by
  have:=hi.rest
  have:=Nat.div_le_self u (10 ^ (n - nd))
  omega
 have hle:=hi.le
 have hsz:=hi.size
 have hlen:∀ (a:Array UInt8),a.size = n→(a.toList ++ tl).length = 24:=fun a ha=>by simp [ha,htl];omega
 have fin:∀ (a:Array UInt8) (v':Nat),FmtInv n u 0 v' a→∃ x y,((∀ z,z∈(H.set b (some (ofBytes (a.toList ++ tl)))).take H.length→blkClosed H.length z = true)∧D.tup [] = x∧(H.set b (some (ofBytes (a.toList ++ tl)))).take H.length = y) ∧
   ∃ v' dk,FmtInv n u 0 v' dk∧x = D.tup []∧y = H.set b (some (ofBytes (dk.toList ++ tl))):=fun a v' ha=>by
  refine ⟨_,_,⟨fun z hz=>?_,rfl,rfl⟩,v',a,ha,rfl,List.take_of_length_le (by simp)⟩
  have hz':=List.mem_of_mem_take hz
  rcases List.mem_or_eq_of_mem_set hz' with h | rfl
  ·exact List.all_eq_true.1 hcl z h
  ·simp [blkClosed]
 have hnn:n+(24 - n) = 24:=by omega
 have sb:∀ (a:Array UInt8) (j:Nat) (x:UInt8),a.size = n→j < n→setRange (ofBytes (a.toList ++ tl)) j [.int .u8 (x.toNat:Int)] = ofBytes ((a.setIfInBounds j x).toList ++ tl):=fun a j x ha hj=>by
  rw [set_bytes x (by simp [ha,htl];omega),set_arr x (by omega)]
 by_cases h8:8≤nd
 ·obtain ⟨m,hm⟩:∃ m,nd = m+8:=⟨nd - 8,by omega⟩
  have i1:=FmtInv.step2' (k:=m+6) (by rw [hm] at hi;exact hi)
  have i2:=FmtInv.step2' (k:=m+4) i1
  have i3:=FmtInv.step2' (k:=m+2) i2
  have i4:=FmtInv.step2' (k:=m) i3
  obtain ⟨j1,hj1⟩:∃ y,y = m+7:=⟨_,rfl⟩
  obtain ⟨j2,hj2⟩:∃ y,y = m+6:=⟨_,rfl⟩
  obtain ⟨j3,hj3⟩:∃ y,y = m+5:=⟨_,rfl⟩
  obtain ⟨j4,hj4⟩:∃ y,y = m+4:=⟨_,rfl⟩
  obtain ⟨j5,hj5⟩:∃ y,y = m+3:=⟨_,rfl⟩
  obtain ⟨j6,hj6⟩:∃ y,y = m+2:=⟨_,rfl⟩
  obtain ⟨j7,hj7⟩:∃ y,y = m+1:=⟨_,rfl⟩
  rw [show m+6+1 = j1 by omega,show m+4+1 = j3 by omega,show m+2+1 = j5 by omega,← hj2,← hj4,← hj6,← hj7] at i4
  have e1:(nd:Int) - 1 = ((j1:Nat):Int):=by omega
  have e2:(nd:Int) - 2 = ((j2:Nat):Int):=by omega
  have e3:(nd:Int) - 3 = ((j3:Nat):Int):=by omega
  have e4:(nd:Int) - 4 = ((j4:Nat):Int):=by omega
  have e5:(nd:Int) - 5 = ((j5:Nat):Int):=by omega
  have e6:(nd:Int) - 6 = ((j6:Nat):Int):=by omega
  have e7:(nd:Int) - 7 = ((j7:Nat):Int):=by omega
  have e8:(nd:Int) - 8 = ((m:Nat):Int):=by omega
  have h8':(8:Int)≤(nd:Int):=by omega
  have hbd:∀ j:Nat,j < nd→((j:Int) < (n:Int))∧j < n∧j < 24:=fun j hj=>by omega
  have l1:=hbd j1 (by omega)
  have l2:=hbd j2 (by omega)
  have l3:=hbd j3 (by omega)
  have l4:=hbd j4 (by omega)
  have l5:=hbd j5 (by omega)
  have l6:=hbd j6 (by omega)
  have l7:=hbd j7 (by omega)
  have l8:=hbd m (by omega)
  have hmn:m < nd:=by omega
  clear hbd
  have k1:=wk 1 e1 (Nat.le_of_lt l1.2.2)
  have k2:=wk 2 e2 (Nat.le_of_lt l2.2.2)
  have k3:=wk 3 e3 (Nat.le_of_lt l3.2.2)
  have k4:=wk 4 e4 (Nat.le_of_lt l4.2.2)
  have k5:=wk 5 e5 (Nat.le_of_lt l5.2.2)
  have k6:=wk 6 e6 (Nat.le_of_lt l6.2.2)
  have k7:=wk 7 e7 (Nat.le_of_lt l7.2.2)
  have k8:=wk 8 e8 (Nat.le_of_lt l8.2.2)
  clear e1 e2 e3 e4 e5 e6 e7 e8
  obtain ⟨p,q,x6,x7,y8,y9,y10,y11,t8,t9,t10,t11,z8,z9,z10,z11,⟨a1,a2,a3,a4,a5,a6,a7,a8,w1,w2,w3,v8,v10,u8,u9,u10,u11,w8,w9,w10,w11,s1,s2,s3,s4,s5,s6,s7,s8,fq⟩⟩:=fb8 v hv64
  rw [fq] at i4
  clear i1 i2 i3 hi hv64 fq hu64 hu
  generalize sm (v % 100 * 2+1) = c1 at *
  generalize sm (v % 100 * 2) = c2 at *
  generalize sm (v / 100 % 100 * 2+1) = c3 at *
  generalize sm (v / 100 % 100 * 2) = c4 at *
  generalize sm (v / 100 / 100 % 100 * 2+1) = c5 at *
  generalize sm (v / 100 / 100 % 100 * 2) = c6 at *
  generalize sm (v / 100 / 100 / 100 % 100 * 2+1) = c7 at *
  generalize sm (v / 100 / 100 / 100 % 100 * 2) = c8 at *
  simp [-ofVal,ofVal_int,h0,h1,h4,hv,a1,a2,a3,a4,a5,a6,a7,a8,w1,w2,w3,w8,w9,w10,w11,u8,u9,u10,u11,v8,v10,k1,k2,k3,k4,k5,k6,k7,k8,s1,s2,s3,s4,s5,s6,s7,s8,h8',hb,l1,l2,l3,l4,l5,l6,l7,l8,hsz,htl,hnn,sb,Nat.succ_le_of_lt]
  exact ⟨m,hmn,q,_,i4,by simp,rfl,rfl⟩
 ·have h8':¬ (8:Int)≤(nd:Int):=by omega
  have q0:v < 100000000:=lt8 hi (by omega)
  have wv:IntKind.u32.wrap (v:Int) = (v:Int):=wu32 rfl (by omega)
  clear hv64 hu64 hu
  by_cases h4':4≤nd
  ·obtain ⟨m,hm⟩:∃ m,nd = m+4:=⟨nd - 4,by omega⟩
   have i1:=FmtInv.step2' (k:=m+2) (by rw [hm] at hi;exact hi)
   have i2:=FmtInv.step2' (k:=m) i1
   obtain ⟨j1,hj1⟩:∃ y,y = m+3:=⟨_,rfl⟩
   obtain ⟨j2,hj2⟩:∃ y,y = m+2:=⟨_,rfl⟩
   obtain ⟨j3,hj3⟩:∃ y,y = m+1:=⟨_,rfl⟩
   rw [show m+2+1 = j1 by omega,← hj2,← hj3] at i2
   have g4:(4:Int)≤(nd:Int):=by omega
   have e1:(nd:Int) - 1 = (j1:Int):=by omega
   have e2:(nd:Int) - 2 = (j2:Int):=by omega
   have e3:(nd:Int) - 3 = (j3:Int):=by omega
   have e4:(nd:Int) - 4 = (m:Int):=by omega
   have hbd:∀ j:Nat,j < nd→((j:Int) < (n:Int))∧j < n∧j < 24:=fun j hj=>by omega
   have l1:=hbd j1 (by omega)
   have l2:=hbd j2 (by omega)
   have l3:=hbd j3 (by omega)
   have l4:=hbd m (by omega)
   have hm4:m < 4:=by omega
   have k1:=wk 1 e1 (Nat.le_of_lt l1.2.2)
   have k2:=wk 2 e2 (Nat.le_of_lt l2.2.2)
   have k3:=wk 3 e3 (Nat.le_of_lt l3.2.2)
   have k4:=wk 4 e4 (Nat.le_of_lt l4.2.2)
   clear hbd e1 e2 e3 e4
   obtain ⟨q,x7,y8,y9,t8,t9,z8,z9,⟨a1,a2,a5,a6,w2,v8,u8,u9,w8,w9,s1,s2,s3,s4,fq⟩⟩:=fb4 v q0
   rw [fq] at i2
   clear i1 hi fq
   generalize sm (v % 100 * 2+1) = c1 at *
   generalize sm (v % 100 * 2) = c2 at *
   generalize sm (v / 100 % 100 * 2+1) = c3 at *
   generalize sm (v / 100 % 100 * 2) = c4 at *
   simp [-Array.toList_setIfInBounds,-ofVal,ofVal_int,h0,h1,h4,hv,h8',g4,wv,a1,a2,a5,a6,w2,v8,u8,u9,w8,w9,k1,k2,k3,k4,s1,s2,s3,s4,hb,l1,l2,l3,l4,hsz,htl,hnn,sb,Nat.succ_le_of_lt]
   clear a1 a2 a5 a6 w2 v8 u8 u9 w8 w9 s1 s2 s3 s4 k1 k2 k3 k4 wv
   obtain ⟨dk1,hdk1⟩:∃ a,a = (((dk.setIfInBounds j1 c1).setIfInBounds j2 c2).setIfInBounds j3 c3).setIfInBounds m c4:=⟨_,rfl⟩
   rw [← hdk1] at i2 ⊢
   clear hdk1
   by_cases x2:2≤m
   ·obtain ⟨m2,hm2⟩:∃ mm,m = mm+2:=⟨m - 2,by omega⟩
    have i6:=FmtInv.step2' (k:=m2) (by rw [hm2] at i2;exact i2)
    obtain ⟨p1,hp1⟩:∃ y,y = m2+1:=⟨_,rfl⟩
    have g2:(2:Int)≤(m:Int):=by omega
    have e1:(m:Int) - 1 = (p1:Int):=by omega
    have e2:(m:Int) - 2 = (m2:Int):=by omega
    have hle2:=i2.le
    have r1:(p1:Int) < (n:Int)∧p1 < n∧p1 < 24:=by omega
    have r2:(m2:Int) < (n:Int)∧m2 < n∧m2 < 24:=by omega
    have m2lt:m2 < 2:=by omega
    have q1:q < 100000000:=lt8 i2 (by omega)
    rw [← hp1] at i6
    have j1':=wk 1 e1 (Nat.le_of_lt r1.2.2)
    have j2':=wk 2 e2 (Nat.le_of_lt r2.2.2)
    clear e1 e2
    obtain ⟨v2,y9,t9,z9,⟨a1,a2,w2,u9,w9,s1,s2,fq⟩⟩:=fb2 q q1
    rw [fq] at i6
    generalize sm (q % 100 * 2+1) = c5 at *
    generalize sm (q % 100 * 2) = c6 at *
    simp [-Array.toList_setIfInBounds,-ofVal,ofVal_int,hv,g2,r1,r2,j1',j2',a1,a2,w2,u9,w9,s1,s2,hb,i2.size,htl,hnn,sb,Nat.succ_le_of_lt]
    clear a1 a2 w2 u9 w9 s1 s2 j1' j2' fq
    obtain ⟨dk2,hdk2⟩:∃ a,a = (dk1.setIfInBounds p1 c5).setIfInBounds m2 c6:=⟨_,rfl⟩
    rw [← hdk2] at i6 ⊢
    clear hdk2
    by_cases y1:m2 = 1
    ·have z1:v2 < 10:=by have:=i6.small;rw [y1] at this;simpa using this
     have i5:=FmtInv.step1 (by rw [y1] at i6;exact i6)
     obtain ⟨d1,d2⟩:=fb1 v2 z1
     have g0:(0:Int) < (m2:Int):=by omega
     have gn:0 < m2:=by omega
     have g1:0 < n:=by have:=i6.le;omega
     generalize UInt8.ofNat (48+v2) = c9 at *
     simp [-Array.toList_setIfInBounds,-ofVal,-blkClosed,ofVal_int,gn,g1,d1,d2,hb,i6.size,htl,hnn,sb]
     exact fin _ _ i5
    ·have z0:m2 = 0:=by omega
     rw [z0] at i6
     simp [-Array.toList_setIfInBounds,-ofVal,-blkClosed,z0]
     exact fin _ _ i6
   ·have g2:¬ (2:Int)≤(m:Int):=by omega
    simp [-Array.toList_setIfInBounds,-ofVal,ofVal_int,g2]
    by_cases y1:m = 1
    ·have z1:q < 10:=by have:=i2.small;rw [y1] at this;simpa using this
     have i5:=FmtInv.step1 (by rw [y1] at i2;exact i2)
     obtain ⟨d1,d2⟩:=fb1 q z1
     have g0:(0:Int) < (m:Int):=by omega
     have gn:0 < m:=by omega
     have g1:0 < n:=by have:=i2.le;omega
     generalize UInt8.ofNat (48+q) = c9 at *
     simp [-Array.toList_setIfInBounds,-ofVal,-blkClosed,ofVal_int,gn,g1,d1,d2,hb,i2.size,htl,hnn,sb]
     exact fin _ _ i5
    ·have z0:m = 0:=by omega
     rw [z0] at i2
     simp [-Array.toList_setIfInBounds,-ofVal,-blkClosed,z0]
     exact fin _ _ i2
  ·have g4:¬ (4:Int)≤(nd:Int):=by omega
   simp [-ofVal,ofVal_int,h0,h1,h4,h8',g4,wv]
   clear wv
   by_cases x2:2≤nd
   ·obtain ⟨m2,hm2⟩:∃ mm,nd = mm+2:=⟨nd - 2,by omega⟩
    have i6:=FmtInv.step2' (k:=m2) (by rw [hm2] at hi;exact hi)
    obtain ⟨p1,hp1⟩:∃ y,y = m2+1:=⟨_,rfl⟩
    have g2:(2:Int)≤(nd:Int):=by omega
    have e1:(nd:Int) - 1 = (p1:Int):=by omega
    have e2:(nd:Int) - 2 = (m2:Int):=by omega
    have hle2:=hi.le
    have r1:(p1:Int) < (n:Int)∧p1 < n∧p1 < 24:=by omega
    have r2:(m2:Int) < (n:Int)∧m2 < n∧m2 < 24:=by omega
    have m2lt:m2 < 2:=by omega
    have q1:v < 100000000:=lt8 hi (by omega)
    rw [← hp1] at i6
    have j1':=wk 1 e1 (Nat.le_of_lt r1.2.2)
    have j2':=wk 2 e2 (Nat.le_of_lt r2.2.2)
    clear e1 e2
    obtain ⟨v2,y9,t9,z9,⟨a1,a2,w2,u9,w9,s1,s2,fq⟩⟩:=fb2 v q1
    rw [fq] at i6
    generalize sm (v % 100 * 2+1) = c5 at *
    generalize sm (v % 100 * 2) = c6 at *
    simp [-Array.toList_setIfInBounds,-ofVal,ofVal_int,hv,g2,r1,r2,j1',j2',a1,a2,w2,u9,w9,s1,s2,hb,hi.size,htl,hnn,sb,Nat.succ_le_of_lt]
    clear a1 a2 w2 u9 w9 s1 s2 j1' j2' fq
    obtain ⟨dk2,hdk2⟩:∃ a,a = (dk.setIfInBounds p1 c5).setIfInBounds m2 c6:=⟨_,rfl⟩
    rw [← hdk2] at i6 ⊢
    clear hdk2
    by_cases y1:m2 = 1
    ·have z1:v2 < 10:=by have:=i6.small;rw [y1] at this;simpa using this
     have i5:=FmtInv.step1 (by rw [y1] at i6;exact i6)
     obtain ⟨d1,d2⟩:=fb1 v2 z1
     have g0:(0:Int) < (m2:Int):=by omega
     have gn:0 < m2:=by omega
     have g1:0 < n:=by have:=i6.le;omega
     generalize UInt8.ofNat (48+v2) = c9 at *
     simp [-Array.toList_setIfInBounds,-ofVal,-blkClosed,ofVal_int,gn,g1,d1,d2,hb,i6.size,htl,hnn,sb]
     exact fin _ _ i5
    ·have z0:m2 = 0:=by omega
     rw [z0] at i6
     simp [-Array.toList_setIfInBounds,-ofVal,-blkClosed,z0]
     exact fin _ _ i6
   ·have g2:¬ (2:Int)≤(nd:Int):=by omega
    simp [-Array.toList_setIfInBounds,-ofVal,ofVal_int,g2]
    by_cases y1:nd = 1
    ·have z1:v < 10:=by have:=hi.small;rw [y1] at this;simpa using this
     have i5:=FmtInv.step1 (by rw [y1] at hi;exact hi)
     obtain ⟨d1,d2⟩:=fb1 v z1
     have g0:(0:Int) < (nd:Int):=by omega
     have gn:0 < nd:=by omega
     have g1:0 < n:=by have:=hi.le;omega
     generalize UInt8.ofNat (48+v) = c9 at *
     simp [-Array.toList_setIfInBounds,-ofVal,-blkClosed,ofVal_int,gn,g1,d1,d2,hb,hi.size,htl,hnn,sb]
     exact fin _ _ i5
    ·have z0:nd = 0:=by omega
     rw [z0] at hi
     simp [-Array.toList_setIfInBounds,-ofVal,-blkClosed,z0]
     exact fin _ _ hi
end Go.Ev.S
namespace Go.Ev.S
open Go Go.Proofs Go.Ev Go.Lib
theorem row_dec {u v':Nat} {dk:Array UInt8} (h:FmtInv (nDigits u) u 0 v' dk):dk.toList = decDigits u:=by
 apply List.ext_getElem
 ·rw [decDigits_length,Array.length_toList,h.size]
 ·intro j h1 h2
  rw [row_is_numeral h j h2,getElem!_pos dk j (by simpa using h1)]
  simp
set_option maxHeartbeats 1000000 in
theorem fui_ev [TxtC] (v:Nat) (hv:v < 18446744073709551616):call cx 97 [.int .u64 v,.int .i64 10] [] = some (.str (dec v),[]):=by
 refine call_run Tryz.func97 rfl ⟨rfl,rfl⟩ ?_
 by_cases hs:v < 100
 ·have hs':(v:Int) < 100:=by omega
  have h1:=small_ev v hs
  have hw:IntKind.i64.wrap (v:Int) = (v:Int):=by rw [wrap_i64];omega
  simp [Tryz.f97,hs',h1,hw]
 ·have hs':¬ (v:Int) < 100:=by omega
  have h1:=ndig_ev v (by omega) hv
  have hn:nDigits v≤20:=by
   have:=numDigits_eq v (by omega) hv
   split at this <;> omega
  obtain ⟨v',dk,i1,i2⟩:=fb10_ev (nDigits v) v (by omega) (lt_pow_nDigits v) hv (List.replicate (24 - nDigits v) 0) (by simp) (Array.replicate (nDigits v) 0) (by simp) [some (ofBytes (List.replicate 24 0))] 0 (by simp) (by simp) (by
   simp only [List.getElem_cons_zero,Array.toList_replicate,List.replicate_append_replicate]
   congr 3
   omega)
  have hr:=row_dec i1
  have hsz:=i1.size
  have hl:(decDigits v).length = nDigits v:=decDigits_length v
  rw [hr] at i2
  rw [dec_lib hv]
  generalize nDigits v = n at *
  generalize decDigits v = w at *
  have hn':(n:Int)≤24:=by omega
  have hn2:n≤24:=by omega
  clear hv
  have e24:ofBytes (List.replicate 24 0) = [D.int .u8 0,D.int .u8 0,D.int .u8 0,D.int .u8 0,D.int .u8 0,D.int .u8 0,D.int .u8 0,D.int .u8 0,D.int .u8 0,D.int .u8 0,D.int .u8 0,D.int .u8 0,D.int .u8 0,D.int .u8 0,D.int .u8 0,D.int .u8 0,D.int .u8 0,D.int .u8 0,D.int .u8 0,D.int .u8 0,D.int .u8 0,D.int .u8 0,D.int .u8 0,D.int .u8 0]:=rfl
  rw [e24] at i2
  have hd:dk.toList = w:=hr
  have k1:w.length+(24 - n) = 24:=by omega
  have k2:n≤w.length+(24 - n):=by omega
  have k3:List.take n (ofBytes (w ++ List.replicate (24 - n) 0)) = ofBytes w:=by
   rw [ofBytes_take,← hl,List.take_left]
  have k4:n≤24:=hn2
  simp [Tryz.f97,hs',h1,hn',hn2,i2,k1,k3]
theorem fu_ev [TxtC] (v:Nat) (hv:v < 18446744073709551616):call cx 74 [.int .u64 v,.int .i64 10] [] = some (.str (dec v),[]):=by
 have h:=fui_ev v hv
 refine call_run Tryz.func74 rfl ⟨rfl,rfl⟩ ?_
 simp [Tryz.f74,h]
end Go.Ev.S
namespace Go.Ev.S
open Go Go.Proofs Go.Ev
theorem hexs_take {l:List UInt8} {k:Nat} (h:k < l.length):hexs (l.take (k+1)) = hexs (l.take k) ++ [hexc (l[k].toNat / 16),hexc (l[k].toNat % 16)]:=by
 rw [List.take_succ_eq_append_getElem h,hexs_append]
 rfl
set_option maxHeartbeats 2000000 in
theorem hex_ev [TxtC] (l:List UInt8) (hl:l.length = 16):call cx 59 [.agg (ofBytes l)] [] = some (.str (hexs l),[]):=by
 refine call_run Tryz.func59 rfl ⟨rfl,rfl⟩ ?_
 have ht:List.take 16 (ofBytes l) = ofBytes l:=List.take_of_length_le (by simp;omega)
 have hl2:16≤l.length:=by omega
 simp [Tryz.f59,ht,hl2]
 refine Run.loopThen (fun (k:Nat) e H'=>k≤16∧look e 6 = some (.agg (ofBytes l))∧look e 7 = some (.int .i64 k) ∧
   ((k = 0∧look e 3 = some (.vsl true [] 0)∧H' = [some (ofBytes l)]) ∨
   (∃ w,look e 3 = some (.osl 1 (hexs (l.take k)).length 0 (hexs (l.take k)).length 1)∧H' = [w,some (ofBytes (hexs (l.take k)))]) ∨
   (∃ w,look e 3 = some (.osl 0 (hexs (l.take k)).length 0 (hexs (l.take k)).length 1)∧H' = [some (ofBytes (hexs (l.take k))),w]))) (fun k=>16 - k) 0 ?_ ?_
 ·simp
 rintro k e H' ⟨hk,k6,k7,hH⟩
 by_cases hlt:k < 16
 ·have hlt':(k:Int) < 16:=by omega
  have hkl:k < l.length:=by omega
  have hw:IntKind.i64.wrap ((k:Int)+1) = ((k+1:Nat):Int):=by rw [wrap_i64] <;> omega
  have hat:=ofBytes_at hkl
  have hsn:=hexs_take hkl
  have hb:=l[k].toNat_lt
  have ha:=and15_u8 l[k]
  have hp4:(2:Int) ^ min 4 IntKind.u8.bits = 16:=by decide
  have hf:=fdiv16 l[k].toNat
  have d1:=digL_at (l[k].toNat / 16) (by omega)
  have d2:=digL_at (l[k].toNat % 16) (by omega)
  simp only [digL] at d1 d2
  have hget:(ofBytes l)[k]? = some (.int .u8 l[k].toNat):=by
   rw [List.getElem?_eq_getElem (by simpa using hkl),ofBytes_get]
  have hlen:(hexs (l.take k)).length = 2 * k:=by rw [hexs_len,List.length_take];omega
  generalize l[k] = b at *
  generalize hexc (b.toNat / 16) = c1 at *
  generalize hexc (b.toNat % 16) = c2 at *
  obtain ⟨m1,hm1⟩:∃ m,m = b.toNat / 16:=⟨_,rfl⟩
  obtain ⟨m2,hm2⟩:∃ m,m = b.toNat % 16:=⟨_,rfl⟩
  rw [← hm1] at hf d1
  rw [← hm2] at ha d2
  have hXl:(hexs (l.take (k+1))).length = (hexs (l.take k)).length+2:=by rw [hsn];simp
  have hap:ofBytes (hexs (l.take k)) ++ [.int .u8 c1.toNat,.int .u8 c2.toNat] = ofBytes (hexs (l.take (k+1))):=by rw [hsn];simp [ofBytes]
  have hmx:(hexs (l.take k)).length+2≤maxBytes:=Nat.le_trans (show _≤100 by omega) (by decide)
  rcases hH with ⟨rfl,k3,rfl⟩ | ⟨w,k3,rfl⟩ | ⟨w,k3,rfl⟩
  ·simp at hap hXl
   have hm2:2≤maxBytes:=by decide
   simp [k3,k6,k7,hget,ha,hp4,hf,d1,d2,hm2]
   exact ⟨1,by omega,by omega,by simp,by rw [hXl];simp [hexs],by rw [← hap];simp [hexs,ofBytes]⟩
  ·generalize hexs (l.take k) = X at *
   simp [k3,k6,k7,hlt',hw,hget,ha,hp4,hf,d1,d2,hap,hmx]
   exact ⟨k+1,by omega,by omega,by simp,by rw [hXl],rfl⟩
  ·generalize hexs (l.take k) = X at *
   simp [k3,k6,k7,hlt',hw,hget,ha,hp4,hf,d1,d2,hap,hmx]
   exact ⟨k+1,by omega,by omega,by simp,by rw [hXl],rfl⟩
 ·have hlt':¬ (k:Int) < 16:=by omega
  have hke:k = 16:=by omega
  subst hke
  have htk:l.take 16 = l:=List.take_of_length_le (by omega)
  rw [htk] at hH
  rcases hH with ⟨h,_⟩ | ⟨w,k3,rfl⟩ | ⟨w,k3,rfl⟩
  ·omega
  ·simp [k3,k6,k7]
  ·simp [k3,k6,k7]
end Go.Ev.S
namespace Go.Ev.S
open Go Go.Proofs Go.Ev
theorem pow2_ev [TxtC]:call cx 135 [.int .i64 16] [] = some (.bool true,[]):=call_some.2 ⟨60,by kernel_rfl⟩
theorem tz_ev [TxtC]:call cx 136 [.int .u64 16] [] = some (.int .i64 4,[]):=call_some.2 ⟨100,by kernel_rfl⟩
def HexI (v i u:Nat) (s:List UInt8):Prop:= ∃ g,1≤g∧g≤16∧i = 49+g∧s.length+g = 16∧u < 16 ^ g∧hexF g u ++ s = hx v
theorem hexI_step {v i u:Nat} {s:List UInt8} (h:HexI v i u s) (hu:16≤u):51≤i∧HexI v (i - 1) (u / 16) (hexc (u % 16) :: s):=by
 obtain ⟨g,h1,h2,rfl,h4,h5,h6⟩:=h
 obtain ⟨f,rfl⟩:∃ f,g = f+1:=⟨g - 1,by omega⟩
 have hf:1≤f:=by
  rcases f with _ | f
  ·simp at h5;omega
  ·omega
 refine ⟨by omega,f,hf,by omega,by omega,by simp;omega,by rw [Nat.pow_succ] at h5;omega,?_⟩
 rw [hexF,if_neg (by omega)] at h6
 simpa using h6
theorem hexI_end {v i u:Nat} {s:List UInt8} (h:HexI v i u s) (hu:u < 16):hexc u :: s = hx v∧50≤i∧i≤65∧i+s.length = 65:=by
 obtain ⟨g,h1,h2,rfl,h4,h5,h6⟩:=h
 obtain ⟨f,rfl⟩:∃ f,g = f+1:=⟨g - 1,by omega⟩
 rw [hexF,if_pos hu] at h6
 exact ⟨by simpa using h6,by omega,by omega,by omega⟩
theorem hexI_len {v i u:Nat} {s:List UInt8} (h:HexI v i u s):i+s.length = 65∧50≤i:=by
 obtain ⟨g,h1,h2,rfl,h4,h5,h6⟩:=h
 omega
theorem fill_of {i j:Nat} (hi:i = j+1) (s:List UInt8) (c:UInt8):setRange (List.replicate i (D.int .u8 0) ++ ofBytes s) j [.int .u8 c.toNat] = List.replicate j (.int .u8 0) ++ ofBytes (c :: s):=by
 rw [hi];exact fill_behind j s c
set_option maxHeartbeats 2000000 in
theorem fb16_ev [TxtC] (v:Nat) (hv:v < 18446744073709551616):call cx 117 [.vsl true [] 0,.int .u64 v,.int .i64 16,.bool false,.bool false] [] = some (.tup [.vsl true [] 0,.str (hx v)],[]):=by
 have h1:=pow2_ev
 have h2:=tz_ev
 have w16:IntKind.u64.wrap 16 = 16:=by decide
 have w15:IntKind.u64.wrap 15 = 15:=by decide
 have w4:IntKind.u64.wrap 4 = 4:=by decide
 refine call_run Tryz.func117 rfl ⟨rfl,rfl⟩ ?_
 simp [-List.reduceReplicate,Tryz.f117,h1,h2,w16,w15,w4]
 refine Run.loopThen (fun (q:Nat × Nat × List UInt8) e H'=>HexI v q.1 q.2.1 q.2.2∧q.2.1 < 18446744073709551616∧H' = [some (List.replicate q.1 (.int .u8 0) ++ ofBytes q.2.2)] ∧
   look e 0 = some (.vsl true [] 0)∧look e 1 = some (.int .u64 (q.2.1:Nat))∧look e 3 = some (.bool false)∧look e 4 = some (.bool false)∧look e 10 = some (.vsl true [] 0)∧look e 11 = some (.str [])∧look e 12 = some (.optr 0 65 0) ∧
   look e 13 = some (.int .i64 (q.1:Nat))∧look e 14 = some (.int .u64 4)∧look e 15 = some (.int .u64 16)∧look e 16 = some (.int .u64 15)) (fun q=>q.2.1) (65,v,[]) ?_ ?_
 ·refine ⟨⟨16,by omega,by omega,by omega,by simp,by omega,by simp [hx]⟩,hv,?_,?_⟩
  ·show [some (List.replicate 65 (D.int .u8 0))] = [some (List.replicate 65 (D.int .u8 0) ++ [])]
   rw [List.append_nil]
  ·simp
 rintro ⟨i,u,s⟩ e H' ⟨hI,hu,rfl,k0,k1,k3,k4,k10,k11,k12,k13,k14,k15,k16⟩
 simp only at hI hu k1 k13
 obtain ⟨hl,h50⟩:=hexI_len hI
 obtain ⟨j,hj⟩:∃ j,i = j+1:=⟨i - 1,by omega⟩
 have hw:IntKind.i64.wrap ((i:Int) - 1) = (j:Int):=by rw [wrap_i64] <;> omega
 have hj65:(j:Int) < 65:=by omega
 have hj1:j+1≤i+s.length:=by omega
 have hj64:j≤64:=by omega
 by_cases h16:16≤u
 ·have h16':(16:Int)≤(u:Int):=by omega
  obtain ⟨h51,hS⟩:=hexI_step hI h16
  have ha:=and15_u64 hu
  have hd:=dig36_at (u % 16) (Nat.mod_lt _ (by decide))
  simp only [dig36] at hd
  have hf:=fdiv16 u
  have hst:=fill_of hj s (hexc (u % 16))
  have e1:i - 1 = j:=by omega
  rw [e1] at hS
  have hu2:u / 16 < u:=by omega
  have hu3:u / 16 < 18446744073709551616:=by omega
  generalize u / 16 = u2 at *
  generalize hexc (u % 16) = c at *
  obtain ⟨m,hm⟩:∃ m,m = u % 16:=⟨_,rfl⟩
  rw [← hm] at ha hd
  simp [-setRange_eq,k0,k1,k3,k4,k10,k11,k12,k13,k14,k15,k16,h16',hw,hj65,hj64,hl,ha,hd,hst]
  have hp4:(2:Int) ^ min 4 IntKind.u64.bits = 16:=by decide
  exact ⟨j,u2,hu2,c :: s,hS,hu3,by simp [hp4,hf]⟩
 ·have h16':¬ (16:Int)≤(u:Int):=by omega
  obtain ⟨hE,_,_,_⟩:=hexI_end hI (by omega)
  have hd:=dig36_at u (by omega)
  simp only [dig36] at hd
  have hst:=fill_of hj s (hexc u)
  have hdr:List.take (65 - j) (List.drop j (List.replicate j (D.int .u8 0) ++ ofBytes (hexc u :: s))) = ofBytes (hx v):=by
   rw [List.drop_left' (by simp),hE]
   refine List.take_of_length_le ?_
   rw [← hE]
   simp
   omega
  have hj2:(j:Int)≤65:=by omega
  have hj3:j≤65:=by omega
  have hj4:j < 65:=by omega
  have hl3:j+(65 - j) = 65:=by omega
  have hl4:j+(hx v).length = 65:=by rw [← hE];simp;omega
  have hlh:(hx v).length = 65 - j:=by rw [← hE];simp;omega
  have hl2:j+(ofBytes (hexc u :: s)).length = 65:=by simp;omega
  simp only [hE] at hst hdr hl2
  generalize hexc u = c at *
  simp [-setRange_eq,k0,k1,k3,k4,k10,k11,k12,k13,k14,k15,k16,h16',hw,hj65,hj64,hl,hd,hst,hj2,hj4,hl3,hlh]
theorem fui16_ev [TxtC] (v:Nat) (hv:v < 18446744073709551616):call cx 97 [.int .u64 v,.int .i64 16] [] = some (.str (hx v),[]):=by
 have h:=fb16_ev v hv
 refine call_run Tryz.func97 rfl ⟨rfl,rfl⟩ ?_
 simp [Tryz.f97,h]
theorem fu16_ev [TxtC] (v:Nat) (hv:v < 18446744073709551616):call cx 74 [.int .u64 v,.int .i64 16] [] = some (.str (hx v),[]):=by
 have h:=fui16_ev v hv
 refine call_run Tryz.func74 rfl ⟨rfl,rfl⟩ ?_
 simp [Tryz.f74,h]
end Go.Ev.S
namespace Go.Ev.S
open Go Go.Proofs Go.Ev
structure CurOk (c:Cur):Prop where
 n:isU64 c.n
 mono:isU64 c.mono
 real:isU64 c.real
 xor:isU64 c.xor
end Go.Ev.S
namespace Go.Ev.S
open Go Go.Proofs Go.Ev
theorem show1_ev [TxtC] (v:Nat) (hv:v < 18446744073709551616):call cx 86 [.int .u64 v] [] = some (.str (hx v),[]):=by
 have h:=fu16_ev v hv
 refine call_run Tryz.func86 rfl ⟨rfl,rfl⟩ ?_
 simp [Tryz.f86,h]
set_option maxHeartbeats 2000000 in
theorem show_ev [TxtC] (c:Cur) (h:CurOk c):call cx 60 [.agg (Enc.cells c)] [] = some (.str (showL c),[]):=by
 obtain ⟨w1,w2,w3,w4⟩:=h
 unfold isU64 at w1 w2 w3 w4
 have e1:((c.n.toNat:Nat):Int) = c.n:=by omega
 have e2:((c.mono.toNat:Nat):Int) = c.mono:=by omega
 have e3:((c.real.toNat:Nat):Int) = c.real:=by omega
 have e4:((c.xor.toNat:Nat):Int) = c.xor:=by omega
 have h1:=hex_ev c.seq.l c.seq.h
 have h2:=show1_ev c.n.toNat (by omega)
 have h3:=hex_ev c.boot.l c.boot.h
 have h4:=show1_ev c.mono.toNat (by omega)
 have h5:=show1_ev c.real.toNat (by omega)
 have h6:=show1_ev c.xor.toNat (by omega)
 rw [e1] at h2
 rw [e2] at h4
 rw [e3] at h5
 rw [e4] at h6
 have l1:=hexs_len c.seq.l
 have l2:=hx_len c.n.toNat
 have l3:=hexs_len c.boot.l
 have l4:=hx_len c.mono.toNat
 have l5:=hx_len c.real.toNat
 have l6:=hx_len c.xor.toNat
 rw [c.seq.h] at l1
 rw [c.boot.h] at l3
 unfold showL
 generalize hexs c.seq.l = a1 at *
 generalize hx c.n.toNat = a2 at *
 generalize hexs c.boot.l = a3 at *
 generalize hx c.mono.toNat = a4 at *
 generalize hx c.real.toNat = a5 at *
 generalize hx c.xor.toNat = a6 at *
 clear e1 e2 e3 e4 w1 w2 w3 w4
 obtain ⟨s1,es1⟩:∃ s,s = kS ++ a1:=⟨_,rfl⟩
 have ls1:s1.length = kS.length+a1.length:=by rw [es1,List.length_append]
 obtain ⟨s2,es2⟩:∃ s,s = s1 ++ kI:=⟨_,rfl⟩
 have ls2:s2.length = s1.length+kI.length:=by rw [es2,List.length_append]
 obtain ⟨s3,es3⟩:∃ s,s = s2 ++ a2:=⟨_,rfl⟩
 have ls3:s3.length = s2.length+a2.length:=by rw [es3,List.length_append]
 obtain ⟨s4,es4⟩:∃ s,s = s3 ++ kB:=⟨_,rfl⟩
 have ls4:s4.length = s3.length+kB.length:=by rw [es4,List.length_append]
 obtain ⟨s5,es5⟩:∃ s,s = s4 ++ a3:=⟨_,rfl⟩
 have ls5:s5.length = s4.length+a3.length:=by rw [es5,List.length_append]
 obtain ⟨s6,es6⟩:∃ s,s = s5 ++ kM:=⟨_,rfl⟩
 have ls6:s6.length = s5.length+kM.length:=by rw [es6,List.length_append]
 obtain ⟨s7,es7⟩:∃ s,s = s6 ++ a4:=⟨_,rfl⟩
 have ls7:s7.length = s6.length+a4.length:=by rw [es7,List.length_append]
 obtain ⟨s8,es8⟩:∃ s,s = s7 ++ kT:=⟨_,rfl⟩
 have ls8:s8.length = s7.length+kT.length:=by rw [es8,List.length_append]
 obtain ⟨s9,es9⟩:∃ s,s = s8 ++ a5:=⟨_,rfl⟩
 have ls9:s9.length = s8.length+a5.length:=by rw [es9,List.length_append]
 obtain ⟨s10,es10⟩:∃ s,s = s9 ++ kX:=⟨_,rfl⟩
 have ls10:s10.length = s9.length+kX.length:=by rw [es10,List.length_append]
 obtain ⟨s11,es11⟩:∃ s,s = s10 ++ a6:=⟨_,rfl⟩
 have ls11:s11.length = s10.length+a6.length:=by rw [es11,List.length_append]
 simp only [kS,kI,kB,kM,kT,kX,List.length_cons,List.length_nil] at ls1 ls2 ls3 ls4 ls5 ls6 ls7 ls8 ls9 ls10 ls11
 have cs1:=cat_of es1 (by (try simp only [kS,List.length_cons,List.length_nil]);omega)
 have cs2:=cat_of es2 (by (try simp only [kI,List.length_cons,List.length_nil]);omega)
 have cs3:=cat_of es3 (by (try simp only [kS,kI,kB,kM,kT,kX,List.length_cons,List.length_nil]);omega)
 have cs4:=cat_of es4 (by (try simp only [kB,List.length_cons,List.length_nil]);omega)
 have cs5:=cat_of es5 (by (try simp only [kS,kI,kB,kM,kT,kX,List.length_cons,List.length_nil]);omega)
 have cs6:=cat_of es6 (by (try simp only [kM,List.length_cons,List.length_nil]);omega)
 have cs7:=cat_of es7 (by (try simp only [kS,kI,kB,kM,kT,kX,List.length_cons,List.length_nil]);omega)
 have cs8:=cat_of es8 (by (try simp only [kT,List.length_cons,List.length_nil]);omega)
 have cs9:=cat_of es9 (by (try simp only [kS,kI,kB,kM,kT,kX,List.length_cons,List.length_nil]);omega)
 have cs10:=cat_of es10 (by (try simp only [kX,List.length_cons,List.length_nil]);omega)
 have cs11:=cat_of es11 (by (try simp only [kS,kI,kB,kM,kT,kX,List.length_cons,List.length_nil]);omega)
 simp only [kS,kI,kB,kM,kT,kX] at cs1 cs2 cs3 cs4 cs5 cs6 cs7 cs8 cs9 cs10 cs11
 have hfin:kS ++ (a1 ++ (kI ++ (a2 ++ (kB ++ (a3 ++ (kM ++ (a4 ++ (kT ++ (a5 ++ (kX ++ a6)))))))))) = s11:=by
  simp [es11,es10,es9,es8,es7,es6,es5,es4,es3,es2,es1]
 rw [hfin]
 clear hfin es1 es2 es3 es4 es5 es6 es7 es8 es9 es10 es11 ls1 ls2 ls3 ls4 ls5 ls6 ls7 ls8 ls9 ls10 ls11 l1 l2 l3 l4 l5 l6
 refine call_run Tryz.func60 rfl ⟨rfl,rfl⟩ ?_
 simp [Tryz.f60,h1,h2,h3,h4,h5,h6,-strD,cs1,cs2,cs3,cs4,cs5,cs6,cs7,cs8,cs9,cs10,cs11]
end Go.Ev.S
namespace Go.Ev.S
open Go Go.Proofs Go.Ev
def szOk (n:Int):Bool:=n == 1 || n == 2 || n == 4 || n == 8
theorem lesize_ev [TxtC] (n:Int):call cx 108 [.int .i64 n] [] = some (.bool (szOk n),[]):=by
 refine call_run Tryz.func108 rfl ⟨rfl,rfl⟩ ?_
 unfold szOk
 by_cases h1:n = 1
 ·subst h1;simp [Tryz.f108]
 ·by_cases h2:n = 2
  ·subst h2;simp [Tryz.f108]
  ·by_cases h3:n = 4
   ·subst h3;simp [Tryz.f108]
   ·simp [Tryz.f108,h1,h2,h3]
theorem szOk_le {n:Int} (h:szOk n = true):1≤n∧n≤8:=by
 simp [szOk] at h
 omega
def leGet (l:List UInt8) (at_ n:Int):Option Nat :=
 if szOk n = true∧0≤at_∧at_+n≤l.length then some (leN ((l.drop at_.toNat).take n.toNat)) else none
def optN (o:Option Nat):D:=.tup [.int .u64 ((o.getD 0:Nat):Int),.bool o.isSome]
theorem bits64:2 ^ IntKind.u64.bits = 18446744073709551616:=by simp only [IntKind.bits]
theorem leget_step (x y:Nat) (hy:y < 256) (hx:x * 256+y < 18446744073709551616) :
  orI .u64 (IntKind.u64.wrap ((x:Int) * 256)) (y:Int) = ((x * 256+y:Nat):Int):=by
 have e3:x * 256 < 2 ^ IntKind.u64.bits:=Nat.lt_of_lt_of_eq (Nat.lt_of_le_of_lt (Nat.le_add_right _ _) hx) bits64.symm
 have e4:y < 2 ^ IntKind.u64.bits:=Nat.lt_of_lt_of_eq (Nat.lt_of_lt_of_le hy (by decide)) bits64.symm
 have e1:IntKind.u64.wrap ((x:Int) * 256) = ((x * 256:Nat):Int):=by clear e3 e4;rw [wrap_u64] <;> omega
 rw [e1,orI_nat rfl e3 e4,or_shl x y hy]
set_option maxHeartbeats 1000000 in
theorem leget_ev [TxtC] (s:Sl UInt8) (at_ n:Int) (hat:-9223372036854775808≤at_∧at_ < 9223372036854775808) (hl:s.l.length < 4611686018427387904) :
  call cx 137 [(.vsl s.nil (ofBytes s.l) s.l.length),.int .i64 at_,.int .i64 n] [] = some (optN (leGet s.l at_ n),[]):=by
 have hs:=lesize_ev n
 refine call_run Tryz.func137 rfl ⟨rfl,rfl⟩ ?_
 cases hz:szOk n with
 | false =>
  rw [hz] at hs
  simp [Tryz.f137,hs,leGet,hz,optN]
 | true =>
  rw [hz] at hs
  have hb:=szOk_le hz
  by_cases h0:at_ < 0
  ·have h0':¬ 0≤at_:=by omega
   simp [Tryz.f137,hs,leGet,hz,optN,h0,h0']
  ·have h0':0≤at_:=by omega
   have hw:IntKind.i64.wrap ((s.l.length:Int) - n) = (s.l.length:Int) - n:=by rw [wrap_i64];omega
   by_cases hle:at_+n≤s.l.length
   ·have hle':¬ ((s.l.length:Int) - n < at_):=by omega
    obtain ⟨a,rfl⟩:∃ a:Nat,at_ = a:=⟨at_.toNat,by omega⟩
    obtain ⟨k,rfl⟩:∃ k:Nat,n = k:=⟨n.toNat,by omega⟩
    have hw1:IntKind.i64.wrap ((k:Int) - 1) = (k:Int) - 1:=by rw [wrap_i64];omega
    have hnn:s.nil = false:=Sl.nn (i:=a) (by omega)
    simp [Tryz.f137,hs,leGet,hz,optN,h0,h0',hw,hle,hle',hw1,hnn]
    refine Run.loopThen (fun (i:Nat) e H=>i≤k∧H = []∧look e 0 = some (.vsl s.nil (ofBytes s.l) s.l.length)∧look e 1 = some (.int .i64 a)∧look e 8 = some (.int .u64 (leN ((s.l.drop (a+i)).take (k - i)):Nat))∧look e 9 = some (.int .i64 ((i:Int) - 1))) (fun i=>i) k (by simp [leN,hnn]) ?_
    rintro i e H ⟨hi,rfl,h0,h1,h8,h9⟩
    cases i with
    | zero=>simp [h0,h1,h8,h9]
    | succ j =>
     have hj:(0:Int)≤(j:Int):=by omega
     have hwj:IntKind.i64.wrap ((a:Int)+(j:Int)) = ((a+j:Nat):Int):=by rw [wrap_i64] <;> omega
     have hwk:IntKind.i64.wrap ((j:Int) - 1) = (j:Int) - 1:=by rw [wrap_i64];omega
     have hlt:a+j < s.l.length:=by omega
     have hlt':((a+j:Nat):Int) < (s.l.length:Int):=by omega
     have e1:((j+1:Nat):Int) - 1 = (j:Int):=by omega
     rw [e1] at h9
     have hd:(s.l.drop (a+j)).take (k - j) = s.l[a+j] :: (s.l.drop (a+(j+1))).take (k - (j+1)):=by
      rw [List.drop_eq_getElem_cons hlt,show k - j = (k - (j+1))+1 by omega,List.take_succ_cons,Nat.add_assoc]
     have hn8:leN ((s.l.drop (a+(j+1))).take (k - (j+1))) < 256 ^ 7:=by
      refine Nat.lt_of_lt_of_le (leN_lt _) (Nat.pow_le_pow_right (by decide) ?_)
      rw [List.length_take]
      omega
     have hst:=leget_step (leN ((s.l.drop (a+(j+1))).take (k - (j+1)))) s.l[a+j].toNat s.l[a+j].toNat_lt (by have:=s.l[a+j].toNat_lt;omega)
     have hwu:IntKind.u64.wrap (s.l[a+j].toNat:Int) = (s.l[a+j].toNat:Int):=by rw [wrap_u64];have:=s.l[a+j].toNat_lt;omega
     have g1:(0:Int)≤(a:Int)+(j:Int):=by omega
     have g2:(a:Int)+(j:Int) < (s.l.length:Int):=by omega
     have g3:((a:Int)+(j:Int)).toNat = a+j:=by omega
     simp [h0,h1,h8,h9,hj,hwj,hwk,hwu,hnn,g1,g2,g3,ofBytes_at hlt,IntKind.bits]
     rw [hst]
     exact ⟨j,by omega,by omega,by rw [hd,leN,Nat.mul_comm,Nat.add_comm],rfl⟩
   ·have hle':(s.l.length:Int) - n < at_:=by omega
    simp [Tryz.f137,hs,leGet,hz,optN,h0,h0',hw,hle,hle']
end Go.Ev.S
namespace Go.Ev
open Go Go.Proofs
def rolI (x:Int) (k:Nat):Int:=orI .u32 (IntKind.u32.wrap (x * 2 ^ k)) (x.fdiv (2 ^ (32 - k)))
def add32 (a b:Int):Int:=IntKind.u32.wrap (a+b)
def sub32 (a b:Int):Int:=IntKind.u32.wrap (a - b)
def stpM (k:Nat):Int × Int × Int→Int × Int × Int
 | (a,b,c)=>(b,add32 c b,xorI .u32 (sub32 a c) (rolI c k))
def mixI (t:Int × Int × Int):Int × Int × Int:=stpM 4 (stpM 19 (stpM 16 (stpM 8 (stpM 6 (stpM 4 t)))))
def stpF (k:Nat):Int × Int × Int→Int × Int × Int
 | (p,q,r)=>(r,sub32 (xorI .u32 p q) (rolI q k),q)
def finI:Int × Int × Int→Int × Int × Int
 | (x,y,z)=>stpF 24 (stpF 14 (stpF 4 (stpF 16 (stpF 25 (stpF 11 (stpF 14 (z,y,x)))))))
theorem mix_at {x y z x1 z1 y1 x2 z2 y2 x3 z3 y3 x4 z4 y4 a1 a2 a3 a4 a5 a6:Int}
  (h1:sub32 x z = a1) (h2:xorI .u32 a1 (rolI z 4) = x1) (h3:add32 z y = z1)
  (h4:sub32 y x1 = a2) (h5:xorI .u32 a2 (rolI x1 6) = y1) (h6:add32 x1 z1 = x2)
  (h7:sub32 z1 y1 = a3) (h8:xorI .u32 a3 (rolI y1 8) = z2) (h9:add32 y1 x2 = y2)
  (g1:sub32 x2 z2 = a4) (g2:xorI .u32 a4 (rolI z2 16) = x3) (g3:add32 z2 y2 = z3)
  (g4:sub32 y2 x3 = a5) (g5:xorI .u32 a5 (rolI x3 19) = y3) (g6:add32 x3 z3 = x4)
  (g7:sub32 z3 y3 = a6) (g8:xorI .u32 a6 (rolI y3 4) = z4) (g9:add32 y3 x4 = y4):mixI (x,y,z) = (x4,y4,z4):=by
 unfold mixI
 have e1:stpM 4 (x,y,z) = (y,z1,x1):=by simp only [stpM,h1,h2,h3]
 have e2:stpM 6 (y,z1,x1) = (z1,x2,y1):=by simp only [stpM,h4,h5,h6]
 have e3:stpM 8 (z1,x2,y1) = (x2,y2,z2):=by simp only [stpM,h7,h8,h9]
 have e4:stpM 16 (x2,y2,z2) = (y2,z3,x3):=by simp only [stpM,g1,g2,g3]
 have e5:stpM 19 (y2,z3,x3) = (z3,x4,y3):=by simp only [stpM,g4,g5,g6]
 have e6:stpM 4 (z3,x4,y3) = (x4,y4,z4):=by simp only [stpM,g7,g8,g9]
 rw [e1,e2,e3,e4,e5,e6]
theorem fin_at {x y z a1 z1 a2 x1 a3 y1 a4 z2 a5 x2 a6 y2 a7 z3:Int}
  (h1:xorI .u32 z y = a1) (h2:sub32 a1 (rolI y 14) = z1)
  (h3:xorI .u32 x z1 = a2) (h4:sub32 a2 (rolI z1 11) = x1)
  (h5:xorI .u32 y x1 = a3) (h6:sub32 a3 (rolI x1 25) = y1)
  (h7:xorI .u32 z1 y1 = a4) (h8:sub32 a4 (rolI y1 16) = z2)
  (g1:xorI .u32 x1 z2 = a5) (g2:sub32 a5 (rolI z2 4) = x2)
  (g3:xorI .u32 y1 x2 = a6) (g4:sub32 a6 (rolI x2 14) = y2)
  (g5:xorI .u32 z2 y2 = a7) (g6:sub32 a7 (rolI y2 24) = z3):finI (x,y,z) = (x2,z3,y2):=by
 unfold finI
 have e1:stpF 14 (z,y,x) = (x,z1,y):=by simp only [stpF,h1,h2]
 have e2:stpF 11 (x,z1,y) = (y,x1,z1):=by simp only [stpF,h3,h4]
 have e3:stpF 25 (y,x1,z1) = (z1,y1,x1):=by simp only [stpF,h5,h6]
 have e4:stpF 16 (z1,y1,x1) = (x1,z2,y1):=by simp only [stpF,h7,h8]
 have e5:stpF 4 (x1,z2,y1) = (y1,x2,z2):=by simp only [stpF,g1,g2]
 have e6:stpF 14 (y1,x2,z2) = (z2,y2,x2):=by simp only [stpF,g3,g4]
 have e7:stpF 24 (z2,y2,x2) = (x2,z3,y2):=by simp only [stpF,g5,g6]
 simp only [e1,e2,e3,e4,e5,e6,e7]
def wordL (l:List UInt8) (a:Nat):Nat:=leN ((l.drop a).take 4)
theorem wordL_lt (l:List UInt8) (a:Nat):wordL l a < 4294967296:=by
 refine Nat.lt_of_lt_of_le (leN_lt _) ?_
 have:((l.drop a).take 4).length≤4:=by rw [List.length_take];omega
 exact Nat.le_trans (Nat.pow_le_pow_right (by decide) this) (by decide)
def addT (l:List UInt8):Int × Int × Int→Int × Int × Int
 | (x,y,z)=>(add32 x (wordL l 0:Nat),add32 y (wordL l 4:Nat),add32 z (wordL l 8:Nat))
def outT:Int × Int × Int→Int
 | (_,y,z)=>orI .u64 (IntKind.u64.wrap (IntKind.u64.wrap z * 4294967296)) (IntKind.u64.wrap y)
def lookR (l:List UInt8) (t:Int × Int × Int):Int :=
 if 12 < l.length then lookR (l.drop 12) (mixI (addT l t)) else if l.length = 0 then outT t else match finI (addT l t) with | (_,z,y)=>outT (0,y,z)
termination_by l.length
decreasing_by simp;omega
def lookN (l:List UInt8):Int:=lookR l (add32 3735928559 (IntKind.u32.wrap (l.length:Nat)),add32 3735928559 (IntKind.u32.wrap (l.length:Nat)),add32 3735928559 (IntKind.u32.wrap (l.length:Nat)))
theorem lookR_more {l:List UInt8} (h:12 < l.length) (t:Int × Int × Int):lookR l t = lookR (l.drop 12) (mixI (addT l t)):=by
 rw [lookR,if_pos h]
theorem lookR_end {l:List UInt8} (h:¬ 12 < l.length) (h0:l.length≠0) {t:Int × Int × Int} {x y z:Int} (hf:finI (addT l t) = (x,z,y)):lookR l t = outT (0,y,z):=by
 rw [lookR,if_neg h,if_neg h0,hf]
theorem lookR_nil {l:List UInt8} (h0:l.length = 0) (t:Int × Int × Int):lookR l t = outT t:=by
 rw [lookR,if_neg (by omega),if_pos h0]
theorem and31:∀ k:Nat,k < 32→andI .u64 (k:Int) 31 = (k:Int):=by decide
end Go.Ev
namespace Go.Ev.S
open Go Go.Proofs Go.Ev
theorem rotl_ev [TxtC] (x:Int) (k:Nat) (hk:k < 32):call cx 138 [.int .u32 x,.int .i64 k] [] = some (.int .u32 (rolI x k),[]):=by
 have h:=and31 k hk
 have hw:IntKind.u64.wrap (k:Int) = (k:Int):=by rw [wrap_u64] <;> omega
 have hw2:IntKind.u64.wrap (32 - (k:Int)) = ((32 - k:Nat):Int):=by rw [wrap_u64] <;> omega
 have m1:min k 32 = k:=by omega
 have hn:¬ (k:Int) < 0:=by omega
 refine call_run Tryz.func138 rfl ⟨rfl,rfl⟩ ?_
 unfold rolI
 obtain ⟨j,hj⟩:∃ j,j = 32 - k:=⟨_,rfl⟩
 rw [← hj] at hw2 ⊢
 have m2:min j 32 = j:=by omega
 have hn2:¬ (j:Int) < 0:=by omega
 simp [Tryz.f138,h,hw,hw2,IntKind.bits,m1,m2,hn,hn2]
theorem rol_at [TxtC] {x r:Int} {k:Nat} (hk:k < 32) (e:rolI x k = r) {kk:Int} (hkk:kk = k):call cx 138 [.int .u32 x,.int .i64 kk] [] = some (.int .u32 r,[]):=by
 rw [hkk,← e]
 exact rotl_ev x k hk
set_option maxHeartbeats 4000000 in
set_option maxRecDepth 4000 in
theorem mix_ev [TxtC] (x y z:Int) (R:Heap) (hR:R = []∨R = [none]):call cx 121 [.optr 0 3 0] (some [.int .u32 x,.int .u32 y,.int .u32 z] :: R) = some (.tup [],some [.int .u32 (mixI (x,y,z)).1,.int .u32 (mixI (x,y,z)).2.1,.int .u32 (mixI (x,y,z)).2.2] :: R):=by
 obtain ⟨a1,h1⟩:∃ v,sub32 x z = v:=⟨_,rfl⟩
 have e0:IntKind.u32.wrap (x - z) = a1:=h1
 obtain ⟨r0,q0⟩:∃ v,rolI z 4 = v:=⟨_,rfl⟩
 have e1:=rol_at (by omega) q0 (kk:=4) rfl
 obtain ⟨x1,f0⟩:∃ v,xorI .u32 a1 r0 = v:=⟨_,rfl⟩
 have h2:xorI .u32 a1 (rolI z 4) = x1:=by rw [q0];exact f0
 obtain ⟨z1,h3⟩:∃ v,add32 z y = v:=⟨_,rfl⟩
 have e2:IntKind.u32.wrap (z+y) = z1:=h3
 obtain ⟨a2,h4⟩:∃ v,sub32 y x1 = v:=⟨_,rfl⟩
 have e3:IntKind.u32.wrap (y - x1) = a2:=h4
 obtain ⟨r1,q1⟩:∃ v,rolI x1 6 = v:=⟨_,rfl⟩
 have e4:=rol_at (by omega) q1 (kk:=6) rfl
 obtain ⟨y1,f1⟩:∃ v,xorI .u32 a2 r1 = v:=⟨_,rfl⟩
 have h5:xorI .u32 a2 (rolI x1 6) = y1:=by rw [q1];exact f1
 obtain ⟨x2,h6⟩:∃ v,add32 x1 z1 = v:=⟨_,rfl⟩
 have e5:IntKind.u32.wrap (x1+z1) = x2:=h6
 obtain ⟨a3,h7⟩:∃ v,sub32 z1 y1 = v:=⟨_,rfl⟩
 have e6:IntKind.u32.wrap (z1 - y1) = a3:=h7
 obtain ⟨r2,q2⟩:∃ v,rolI y1 8 = v:=⟨_,rfl⟩
 have e7:=rol_at (by omega) q2 (kk:=8) rfl
 obtain ⟨z2,f2⟩:∃ v,xorI .u32 a3 r2 = v:=⟨_,rfl⟩
 have h8:xorI .u32 a3 (rolI y1 8) = z2:=by rw [q2];exact f2
 obtain ⟨y2,h9⟩:∃ v,add32 y1 x2 = v:=⟨_,rfl⟩
 have e8:IntKind.u32.wrap (y1+x2) = y2:=h9
 obtain ⟨a4,g1⟩:∃ v,sub32 x2 z2 = v:=⟨_,rfl⟩
 have e9:IntKind.u32.wrap (x2 - z2) = a4:=g1
 obtain ⟨r3,q3⟩:∃ v,rolI z2 16 = v:=⟨_,rfl⟩
 have e10:=rol_at (by omega) q3 (kk:=16) rfl
 obtain ⟨x3,f3⟩:∃ v,xorI .u32 a4 r3 = v:=⟨_,rfl⟩
 have g2:xorI .u32 a4 (rolI z2 16) = x3:=by rw [q3];exact f3
 obtain ⟨z3,g3⟩:∃ v,add32 z2 y2 = v:=⟨_,rfl⟩
 have e11:IntKind.u32.wrap (z2+y2) = z3:=g3
 obtain ⟨a5,g4⟩:∃ v,sub32 y2 x3 = v:=⟨_,rfl⟩
 have e12:IntKind.u32.wrap (y2 - x3) = a5:=g4
 obtain ⟨r4,q4⟩:∃ v,rolI x3 19 = v:=⟨_,rfl⟩
 have e13:=rol_at (by omega) q4 (kk:=19) rfl
 obtain ⟨y3,f4⟩:∃ v,xorI .u32 a5 r4 = v:=⟨_,rfl⟩
 have g5:xorI .u32 a5 (rolI x3 19) = y3:=by rw [q4];exact f4
 obtain ⟨x4,g6⟩:∃ v,add32 x3 z3 = v:=⟨_,rfl⟩
 have e14:IntKind.u32.wrap (x3+z3) = x4:=g6
 obtain ⟨a6,g7⟩:∃ v,sub32 z3 y3 = v:=⟨_,rfl⟩
 have e15:IntKind.u32.wrap (z3 - y3) = a6:=g7
 obtain ⟨r5,q5⟩:∃ v,rolI y3 4 = v:=⟨_,rfl⟩
 have e16:=rol_at (by omega) q5 (kk:=4) rfl
 obtain ⟨z4,f5⟩:∃ v,xorI .u32 a6 r5 = v:=⟨_,rfl⟩
 have g8:xorI .u32 a6 (rolI y3 4) = z4:=by rw [q5];exact f5
 obtain ⟨y4,g9⟩:∃ v,add32 y3 x4 = v:=⟨_,rfl⟩
 have e17:IntKind.u32.wrap (y3+x4) = y4:=g9
 have hm:=mix_at h1 h2 h3 h4 h5 h6 h7 h8 h9 g1 g2 g3 g4 g5 g6 g7 g8 g9
 rw [hm]
 clear g9 g8 g7 g6 g5 g4 g3 g2 g1 h9 h8 h7 h6 h5 h4 h3 h2 h1 hm q0 q1 q2 q3 q4 q5
 rcases hR with rfl | rfl
 ·refine call_run Tryz.func121 rfl ⟨rfl,rfl⟩ ?_
  simp [Tryz.f121,e0,e1,f0,e2,e3,e4,f1,e5,e6,e7,f2,e8,e9,e10,f3,e11,e12,e13,f4,e14,e15,e16,f5,e17]
 ·refine call_run Tryz.func121 rfl ⟨rfl,rfl⟩ ?_
  simp [Tryz.f121,e0,e1,f0,e2,e3,e4,f1,e5,e6,e7,f2,e8,e9,e10,f3,e11,e12,e13,f4,e14,e15,e16,f5,e17]
set_option maxHeartbeats 4000000 in
set_option maxRecDepth 4000 in
theorem last_ev [TxtC] (x y z:Int) {x' y' z':Int} (hm:finI (x,y,z) = (x',z',y')) (R:Heap) (hR:R = []∨R = [none]):call cx 122 [.optr 0 3 0] (some [.int .u32 x,.int .u32 y,.int .u32 z] :: R) = some (.tup [],some [.int .u32 x',.int .u32 y',.int .u32 z'] :: R):=by
 obtain ⟨a1,h1⟩:∃ v,xorI .u32 z y = v:=⟨_,rfl⟩
 obtain ⟨r0,q0⟩:∃ v,rolI y 14 = v:=⟨_,rfl⟩
 have e1:=rol_at (by omega) q0 (kk:=14) rfl
 obtain ⟨z1,f0⟩:∃ v,sub32 a1 r0 = v:=⟨_,rfl⟩
 have d0:IntKind.u32.wrap (a1 - r0) = z1:=f0
 have h2:sub32 a1 (rolI y 14) = z1:=by rw [q0];exact f0
 obtain ⟨a2,h3⟩:∃ v,xorI .u32 x z1 = v:=⟨_,rfl⟩
 obtain ⟨r1,q1⟩:∃ v,rolI z1 11 = v:=⟨_,rfl⟩
 have e3:=rol_at (by omega) q1 (kk:=11) rfl
 obtain ⟨x1,f1⟩:∃ v,sub32 a2 r1 = v:=⟨_,rfl⟩
 have d1:IntKind.u32.wrap (a2 - r1) = x1:=f1
 have h4:sub32 a2 (rolI z1 11) = x1:=by rw [q1];exact f1
 obtain ⟨a3,h5⟩:∃ v,xorI .u32 y x1 = v:=⟨_,rfl⟩
 obtain ⟨r2,q2⟩:∃ v,rolI x1 25 = v:=⟨_,rfl⟩
 have e5:=rol_at (by omega) q2 (kk:=25) rfl
 obtain ⟨y1,f2⟩:∃ v,sub32 a3 r2 = v:=⟨_,rfl⟩
 have d2:IntKind.u32.wrap (a3 - r2) = y1:=f2
 have h6:sub32 a3 (rolI x1 25) = y1:=by rw [q2];exact f2
 obtain ⟨a4,h7⟩:∃ v,xorI .u32 z1 y1 = v:=⟨_,rfl⟩
 obtain ⟨r3,q3⟩:∃ v,rolI y1 16 = v:=⟨_,rfl⟩
 have e7:=rol_at (by omega) q3 (kk:=16) rfl
 obtain ⟨z2,f3⟩:∃ v,sub32 a4 r3 = v:=⟨_,rfl⟩
 have d3:IntKind.u32.wrap (a4 - r3) = z2:=f3
 have h8:sub32 a4 (rolI y1 16) = z2:=by rw [q3];exact f3
 obtain ⟨a5,g1⟩:∃ v,xorI .u32 x1 z2 = v:=⟨_,rfl⟩
 obtain ⟨r4,q4⟩:∃ v,rolI z2 4 = v:=⟨_,rfl⟩
 have e9:=rol_at (by omega) q4 (kk:=4) rfl
 obtain ⟨x2,f4⟩:∃ v,sub32 a5 r4 = v:=⟨_,rfl⟩
 have d4:IntKind.u32.wrap (a5 - r4) = x2:=f4
 have g2:sub32 a5 (rolI z2 4) = x2:=by rw [q4];exact f4
 obtain ⟨a6,g3⟩:∃ v,xorI .u32 y1 x2 = v:=⟨_,rfl⟩
 obtain ⟨r5,q5⟩:∃ v,rolI x2 14 = v:=⟨_,rfl⟩
 have e11:=rol_at (by omega) q5 (kk:=14) rfl
 obtain ⟨y2,f5⟩:∃ v,sub32 a6 r5 = v:=⟨_,rfl⟩
 have d5:IntKind.u32.wrap (a6 - r5) = y2:=f5
 have g4:sub32 a6 (rolI x2 14) = y2:=by rw [q5];exact f5
 obtain ⟨a7,g5⟩:∃ v,xorI .u32 z2 y2 = v:=⟨_,rfl⟩
 obtain ⟨r6,q6⟩:∃ v,rolI y2 24 = v:=⟨_,rfl⟩
 have e13:=rol_at (by omega) q6 (kk:=24) rfl
 obtain ⟨z3,f6⟩:∃ v,sub32 a7 r6 = v:=⟨_,rfl⟩
 have d6:IntKind.u32.wrap (a7 - r6) = z3:=f6
 have g6:sub32 a7 (rolI y2 24) = z3:=by rw [q6];exact f6
 have hn:=fin_at h1 h2 h3 h4 h5 h6 h7 h8 g1 g2 g3 g4 g5 g6
 rw [hm] at hn
 clear hm
 obtain ⟨hn1,hn⟩:=Prod.mk.inj hn
 obtain ⟨hn2,hn3⟩:=Prod.mk.inj hn
 clear g6 g4 g2 h8 h6 h4 h2 f0 q0 f1 q1 f2 q2 f3 q3 f4 q4 f5 q5 f6 q6
 rw [hn1,hn2,hn3]
 clear hn1 hn2 hn3
 rcases hR with rfl | rfl
 ·refine call_run Tryz.func122 rfl ⟨rfl,rfl⟩ ?_
  simp [Tryz.f122,h1,e1,d0,h3,e3,d1,h5,e5,d2,h7,e7,d3,g1,e9,d4,g3,e11,d5,g5,e13,d6]
 ·refine call_run Tryz.func122 rfl ⟨rfl,rfl⟩ ?_
  simp [Tryz.f122,h1,e1,d0,h3,e3,d1,h5,e5,d2,h7,e7,d3,g1,e9,d4,g3,e11,d5,g5,e13,d6]
end Go.Ev.S
namespace Go.Ev.S
open Go Go.Proofs Go.Ev
theorem get12 [TxtC] (l:List UInt8) (hl:l.length = 12) (a:Nat) (ha:a≤8) {at_:Int} (hat:at_ = a):call cx 137 [.vsl false (ofBytes l) 12,.int .i64 at_,.int .i64 4] [] = some (.tup [.int .u64 (wordL l a:Nat),.bool true],[]):=by
 have h:=leget_ev (Sl.of l) at_ 4 (by omega) (by show l.length < _;omega)
 have e:leGet l at_ 4 = some (wordL l a):=by
  unfold leGet
  rw [if_pos ⟨by decide,by omega,by omega⟩]
  have e1:at_.toNat = a:=by omega
  rw [e1]
  rfl
 have e2:(Sl.of l).l = l:=rfl
 rw [e2,e] at h
 have e4:(Sl.of l).nil = false:=rfl
 rw [e4,hl] at h
 exact h
set_option maxHeartbeats 2000000 in
theorem add_ev [TxtC] (l:List UInt8) (hl:l.length = 12) (x y z:Int) {x' y' z':Int} (hm:addT l (x,y,z) = (x',y',z')) (R:Heap) (hR:R = []∨R = [none]) :
  call cx 120 [.optr 0 3 0,.vsl false (ofBytes l) 12] (some [.int .u32 x,.int .u32 y,.int .u32 z] :: R) = some (.tup [],some [.int .u32 x',.int .u32 y',.int .u32 z'] :: R):=by
 have h0:=get12 l hl 0 (by omega) (at_:=0) rfl
 have h4:=get12 l hl 4 (by omega) (at_:=4) rfl
 have h8:=get12 l hl 8 (by omega) (at_:=8) rfl
 have w0:=wordL_lt l 0
 have w4:=wordL_lt l 4
 have w8:=wordL_lt l 8
 unfold addT add32 at hm
 obtain ⟨e1,hm⟩:=Prod.mk.inj hm
 obtain ⟨e2,e3⟩:=Prod.mk.inj hm
 generalize wordL l 0 = a at *
 generalize wordL l 4 = b at *
 generalize wordL l 8 = c at *
 have v0:IntKind.u32.wrap (a:Int) = a:=by rw [wrap_u32] <;> omega
 have v4:IntKind.u32.wrap (b:Int) = b:=by rw [wrap_u32] <;> omega
 have v8:IntKind.u32.wrap (c:Int) = c:=by rw [wrap_u32] <;> omega
 rcases hR with rfl | rfl
 ·refine call_run Tryz.func120 rfl ⟨rfl,rfl⟩ ?_
  simp [Tryz.f120,h0,h4,h8,v0,v4,v8,e1,e2,e3]
 ·refine call_run Tryz.func120 rfl ⟨rfl,rfl⟩ ?_
  simp [Tryz.f120,h0,h4,h8,v0,v4,v8,e1,e2,e3]
theorem leN_zeros:∀ (l:List UInt8) (k:Nat),leN (l ++ List.replicate k 0) = leN l
 | [],0=>rfl
 | [],k+1=>by
  have h:=leN_zeros [] k
  simp only [List.nil_append] at h ⊢
  rw [List.replicate_succ,leN.eq_2]
  rw [h]
  rfl
 | c :: l,k=>by rw [List.cons_append,leN,leN,leN_zeros l k]
theorem wordL_zeros (l:List UInt8) (k a:Nat):wordL (l ++ List.replicate k 0) a = wordL l a:=by
 unfold wordL
 rw [List.drop_append,List.take_append,List.drop_replicate,List.take_replicate,leN_zeros]
theorem addT_zeros (l:List UInt8) (k:Nat) (t:Int × Int × Int):addT (l ++ List.replicate k 0) t = addT l t:=by
 obtain ⟨x,y,z⟩:=t
 simp only [addT,wordL_zeros]
set_option maxHeartbeats 4000000 in
theorem lookup_ev [TxtC] (s:Sl UInt8) (_:s.l.length < 4611686018427387904):call cx 105 [(.vsl s.nil (ofBytes s.l) s.l.length)] [] = some (.int .u64 (lookN s.l),[]):=by
 refine call_run Tryz.func105 rfl ⟨rfl,rfl⟩ ?_
 have hN:lookN s.l = lookR s.l (add32 3735928559 (IntKind.u32.wrap (s.l.length:Nat)),add32 3735928559 (IntKind.u32.wrap (s.l.length:Nat)),add32 3735928559 (IntKind.u32.wrap (s.l.length:Nat))):=rfl
 obtain ⟨n,hn⟩:∃ n,IntKind.u32.wrap (3735928559+IntKind.u32.wrap (s.l.length:Nat)) = n:=⟨_,rfl⟩
 have hn2:add32 3735928559 (IntKind.u32.wrap (s.l.length:Nat)) = n:=hn
 rw [hn2] at hN
 clear hn2
 generalize lookN s.l = res at *
 simp [Tryz.f105,hn]
 refine Run.loopThen (fun (q:List UInt8 × Int × Int × Int) e H'=>q.1.length≤s.l.length∧(s.nil = true→q.1 = [])∧lookR q.1 q.2 = res∧look e 0 = some (.vsl s.nil (ofBytes q.1) q.1.length)∧look e 4 = some (.optr 0 3 0)∧H' = [some [.int .u32 q.2.1,.int .u32 q.2.2.1,.int .u32 q.2.2.2]]) (fun q=>q.1.length) (s.l,n,n,n) ?_ ?_
 ·simp [hN]
  exact s.h
 rintro ⟨l,x,y,z⟩ e H' ⟨hl,hnl,hR,k0,k4,rfl⟩
 simp only at hl hnl hR k0 k4
 by_cases h12:12 < l.length
 ·have h12':(12:Int) < (l.length:Int):=by omega
  have hnn:s.nil = false:=by
   cases hq:s.nil with
   | false=>rfl
   | true=>rw [hnl hq] at h12;simp at h12
  rw [hnn] at k0
  rw [lookR_more h12] at hR
  obtain ⟨⟨x1,y1,z1⟩,ha⟩:∃ t,addT (l.take 12) (x,y,z) = t:=⟨_,rfl⟩
  have hA:=add_ev (l.take 12) (by rw [List.length_take];omega) x y z ha [] (.inl rfl)
  have ha2:addT l (x,y,z) = (x1,y1,z1):=by
   rw [← ha]
   simp only [addT,wordL,List.drop_take,List.take_take]
   rfl
  rw [ha2] at hR
  have hM:=mix_ev x1 y1 z1 [] (.inl rfl)
  have t12:List.take 12 (ofBytes l) = ofBytes (l.take 12):=by simp [ofBytes,List.map_take]
  have d12:List.drop 12 (ofBytes l) = ofBytes (l.drop 12):=by simp [ofBytes,List.map_drop]
  have h12a:(12:Int)≤(l.length:Int):=by omega
  have hdl:(l.drop 12).length = l.length - 12:=List.length_drop
  have htk:List.take (l.length - 12) (ofBytes (l.drop 12)) = ofBytes (l.drop 12):=List.take_of_length_le (by simp)
  generalize l.take 12 = p at *
  generalize l.drop 12 = l' at *
  simp [k0,k4,h12',hA,hM,h12a,t12,d12,htk]
  exact ⟨l',by omega,by omega,by simp [hnn],_,_,_,hR,⟨hnn,rfl,by omega⟩,rfl,rfl,rfl⟩
 ·have h12':¬ (12:Int) < (l.length:Int):=by omega
  by_cases h0:l.length = 0
  ·have h0':¬ (0:Int) < (l.length:Int):=by omega
   rw [lookR_nil h0] at hR
   subst hR
   have hp64:(2:Int) ^ min 32 IntKind.u64.bits = 4294967296:=by decide
   simp [k0,k4,h0,outT,hp64]
  ·have h0':(0:Int) < (l.length:Int):=by omega
   have hnn:s.nil = false:=by
    cases hq:s.nil with
    | false=>rfl
    | true=>rw [hnl hq] at h0;simp at h0
   rw [hnn] at k0
   have hp:(l ++ List.replicate (12 - l.length) 0).length = 12:=by rw [List.length_append,List.length_replicate];omega
   have ha0:=addT_zeros l (12 - l.length) (x,y,z)
   obtain ⟨⟨x1,y1,z1⟩,ha⟩:∃ t,addT l (x,y,z) = t:=⟨_,rfl⟩
   rw [ha] at ha0
   obtain ⟨⟨x2,z2,y2⟩,hf⟩:∃ t,finI (x1,y1,z1) = t:=⟨_,rfl⟩
   rw [lookR_end h12 h0 (x:=x2) (y:=y2) (z:=z2) (by rw [ha];exact hf)] at hR
   subst hR
   have hA:=add_ev _ hp x y z ha0 [none] (.inr rfl)
   have hF:=last_ev x1 y1 z1 hf [none] (.inr rfl)
   have hp64:(2:Int) ^ min 32 IntKind.u64.bits = 4294967296:=by decide
   have h0n:0 < l.length:=by omega
   have hmin:min l.length 12 = l.length:=by omega
   have hset:setRange [D.int .u8 0,D.int .u8 0,D.int .u8 0,D.int .u8 0,D.int .u8 0,D.int .u8 0,D.int .u8 0,D.int .u8 0,D.int .u8 0,D.int .u8 0,D.int .u8 0,D.int .u8 0] 0 (ofBytes l) = ofBytes (l ++ List.replicate (12 - l.length) 0):=by
    show setRange (List.replicate 12 (D.int .u8 0)) 0 (ofBytes l) = _
    unfold setRange
    rw [List.take_zero,Nat.zero_add,ofBytes_len,List.drop_replicate]
    simp [ofBytes]
   have htk:List.take l.length (ofBytes l) = ofBytes l:=List.take_of_length_le (by simp)
   generalize l ++ List.replicate (12 - l.length) 0 = p at *
   simp [-setRange_eq,k0,k4,h12',h0n,hA,hF,outT,hp64,hmin,hset,htk,hp]
end Go.Ev.S
namespace Go.Ev.S
open Go Go.Proofs Go.Ev
theorem z36:[.int .u8 0,.int .u8 0,.int .u8 0,.int .u8 0,.int .u8 0,.int .u8 0,.int .u8 0,.int .u8 0,.int .u8 0,.int .u8 0,.int .u8 0,.int .u8 0,.int .u8 0,.int .u8 0,.int .u8 0,.int .u8 0,.int .u64 0,.int .u8 0,.int .u8 0,.int .u8 0,.int .u8 0,.int .u8 0,.int .u8 0,.int .u8 0,.int .u8 0,.int .u8 0,.int .u8 0,.int .u8 0,.int .u8 0,.int .u8 0,.int .u8 0,.int .u8 0,.int .u8 0,.int .u64 0,.int .u64 0,.int .u64 0] = Enc.cells Cur.zero:=rfl
def payL (p:Pr):List UInt8:=(p.name ++ [61]) ++ p.value
theorem pay_ev [TxtC] (p:Pr) (h1:p.name.length < 1000000) (h2:p.value.length < 1000000):call cx 81 [.agg (Enc.cells p)] [] = some (.str (payL p),[]):=by
 refine call_run Tryz.func81 rfl ⟨rfl,rfl⟩ ?_
 have x1:p.name.length+1≤4611686018427387904:=by omega
 have x2:p.name.length+1+p.value.length≤4611686018427387904:=by omega
 have x3:p.name.length+(p.value.length+1)≤4611686018427387904:=by omega
 unfold payL
 simp [Tryz.f81,Pr.cells,x1,x2]
def xorP:List (List UInt8)→Int→Int
 | [],v=>v
 | b :: l,v=>xorP l (xorI .u64 v (lookN b))
def bD (b:List UInt8):D:=.vsl false (ofBytes b) b.length
theorem bDs_at {L:List (List UInt8)} {k:Nat} (h:k < L.length):List.drop k (L.map bD) = bD L[k] :: List.drop (k+1) (L.map bD):=by
 rw [List.drop_eq_getElem_cons (by simpa using h)]
 simp
set_option maxHeartbeats 1000000 in
theorem xor_ev [TxtC] (nl:Bool) (L:List (List UInt8)) (hnl:nl = true→L = []) (hL:L.length < 1000000) (hb:∀ b∈L,b.length < 3000000):call cx 87 [.vsl nl (L.map bD) L.length] [] = some (.int .u64 (xorP L 0),[]):=by
 refine call_run Tryz.func87 rfl ⟨rfl,rfl⟩ ?_
 obtain ⟨r,hr⟩:∃ r,xorP L 0 = r:=⟨_,rfl⟩
 rw [hr]
 simp [Tryz.f87]
 refine Run.loopThen (fun (q:Nat × Int) e H'=>q.1≤L.length∧xorP (L.drop q.1) q.2 = r∧look e 3 = some (.int .u64 q.2)∧look e 6 = some (.vsl nl (L.map bD) L.length)∧look e 7 = some (.int .i64 L.length)∧look e 8 = some (.int .i64 (q.1:Nat))∧H' = []) (fun q=>L.length - q.1) (0,0) ?_ ?_
 ·simp [hr]
 rintro ⟨k,v⟩ e H' ⟨hk,hR,k3,k6,k7,k8,rfl⟩
 simp only at hk hR k3 k8
 by_cases hlt:k < L.length
 ·have hlt':(k:Int) < (L.length:Int):=by omega
  have hw:IntKind.i64.wrap ((k:Int)+1) = ((k+1:Nat):Int):=by rw [wrap_i64] <;> omega
  have hnn:nl = false:=by
   cases hq:nl with
   | false=>rfl
   | true=>rw [hnl hq] at hlt;simp at hlt
  have hat:=bDs_at hlt
  rw [List.drop_eq_getElem_cons hlt,xorP] at hR
  have hl:=lookup_ev (.of L[k]) (by have:=hb _ (List.getElem_mem hlt);show L[k].length < _;omega)
  replace hl:call cx 105 [.vsl false (ofBytes L[k]) L[k].length] [] = some (.int .u64 (lookN L[k]),[]):=hl
  generalize L[k] = b at *
  generalize lookN b = z at *
  simp [k3,k6,k7,k8,hlt',hw,hnn,hat,bD,hl]
  exact ⟨k+1,by omega,by omega,_,hR,rfl,by omega⟩
 ·have hlt':¬ (k:Int) < (L.length:Int):=by omega
  rw [List.drop_eq_nil_of_le (by omega),xorP] at hR
  subst hR
  simp [k3,k6,k7,k8,hlt']
def PrB (p:Pr):Prop:=p.name.length < 1000000∧p.value.length < 1000000
theorem payL_len {p:Pr} (h:PrB p):(payL p).length < 3000000:=by
 obtain ⟨h1,h2⟩:=h
 unfold payL
 simp
 omega
def cOfP (q:ID) (r:Rec):Cur:=⟨q,r.seq,r.boot,r.mono,r.real,xorP (r.fields.l.map payL) 0⟩
def paysB (l:List Pr):List D:=(l.map payL).map bD
theorem paysB_len (l:List Pr):(paysB l).length = l.length:=by simp [paysB]
theorem paysB_idFree (l:List Pr):(paysB l).all idFree = true:=by
 rw [List.all_eq_true]
 intro x hx
 obtain ⟨b,_,rfl⟩:=List.mem_map.1 hx
 rfl
@[simp] theorem paysB_idFree' (l:List Pr):(paysB l).all idFree = true:=paysB_idFree l
@[simp] theorem paysB_idFreeL (l:List Pr):idFree.idFreeL (paysB l) = true:=by rw [idFreeL_all];exact paysB_idFree l
@[simp] theorem paysB_closedL (n:Nat) (l:List Pr):closed.closedL n (paysB l) = true:=closedL_free n _ (paysB_idFreeL l)
@[simp] theorem paysB_closed (n:Nat) (l:List Pr):(paysB l).all (closed n) = true:=by rw [← closedL_all];exact paysB_closedL n l
@[simp] theorem paysB_aI (l:List Pr):(∀ x,x∈paysB l→idFree x = true) = True:=eq_true (List.all_eq_true.1 (paysB_idFree l))
@[simp] theorem paysB_aC (n:Nat) (l:List Pr):(∀ x,x∈paysB l→closed n x = true) = True:=eq_true (List.all_eq_true.1 (paysB_closed n l))
theorem paysB_snoc {l:List Pr} {k:Nat} (h:k < l.length):paysB (l.take k) ++ [bD (payL l[k])] = paysB (l.take (k+1)):=by
 unfold paysB
 rw [List.take_succ_eq_append_getElem h,List.map_append,List.map_append]
 rfl
set_option maxHeartbeats 4000000 in
theorem cof_ev [TxtC] (q:ID) (r:Rec) (hn:r.fields.l.length < 1000000) (hb:∀ p∈r.fields.l,PrB p):call cx 61 [.agg (ofBytes q.l),.agg (Enc.cells r)] [] = some (.agg (Enc.cells (cOfP q r)),[]):=by
 have hL:Enc.cells r = .int .u64 r.seq :: .int .u64 r.real :: .int .u64 r.mono :: (ofBytes r.boot.l ++ [(.vsl r.fields.nil (encs r.fields.l) r.fields.l.length)]):=Rec.cells r
 have hC:Enc.cells (cOfP q r) = ofBytes q.l ++ ([.int .u64 r.seq] ++ (ofBytes r.boot.l ++ [.int .u64 r.mono,.int .u64 r.real,.int .u64 (xorP (r.fields.l.map payL) 0)])):=rfl
 have hbl:∀ b∈r.fields.l.map payL,b.length < 3000000:=by
  intro b hm
  obtain ⟨p,hp,rfl⟩:=List.mem_map.1 hm
  exact payL_len (hb p hp)
 have hxe:=fun nl h=>xor_ev nl (r.fields.l.map payL) h (by simpa using hn) hbl
 rw [hL,hC]
 have hz:=z36
 clear hL hC
 generalize r.fields = F at *
 refine call_run Tryz.func61 rfl ⟨rfl,rfl⟩ ?_
 simp [Tryz.f61,hz]
 refine Run.loopThen (fun (k:Nat) e H'=>k≤F.l.length∧look e 2 = some (.optr 0 16 0)∧look e 3 = some (.optr 1 20 0)∧look e 4 = some (.optr 2 36 0)∧look e 9 = some (.vsl F.nil (encs F.l) F.l.length)∧look e 10 = some (.int .i64 F.l.length)∧look e 11 = some (.int .i64 k) ∧
   ((k = 0∧look e 5 = some (.vsl true [] 0)∧H' = [some (ofBytes q.l),some (.int .u64 r.seq :: .int .u64 r.real :: .int .u64 r.mono :: (ofBytes r.boot.l ++ [(.vsl F.nil (encs F.l) F.l.length)])),some (Enc.cells Cur.zero)]) ∨
   (∃ n1 v1,0 < k∧look e 5 = some (.osl 4 k 0 k 1)∧H' = [some (ofBytes q.l),some (.int .u64 r.seq :: .int .u64 r.real :: .int .u64 r.mono :: (ofBytes r.boot.l ++ [(.vsl F.nil (encs F.l) F.l.length)])),some (Enc.cells Cur.zero),some [.str n1,.str v1],some (paysB (F.l.take k))]) ∨
   (∃ n1 v1 n2 v2,0 < k∧look e 5 = some (.osl 4 k 0 k 1)∧H' = [some (ofBytes q.l),some (.int .u64 r.seq :: .int .u64 r.real :: .int .u64 r.mono :: (ofBytes r.boot.l ++ [(.vsl F.nil (encs F.l) F.l.length)])),some (Enc.cells Cur.zero),some [.str n1,.str v1],some (paysB (F.l.take k)),some [.str n2,.str v2]]))) (fun k=>F.l.length - k) 0 (by simp) ?_
 rintro k e H' ⟨hk,k2,k3,k4,k9,k10,k11,hH⟩
 by_cases hlt:k < F.l.length
 ·have hlt':(k:Int) < (F.l.length:Int):=by omega
  have hw:IntKind.i64.wrap ((k:Int)+1) = ((k+1:Nat):Int):=by rw [wrap_i64] <;> omega
  have hpb:=hb F.l[k] (List.getElem_mem hlt)
  have hsn:=paysB_snoc hlt
  have hpl:=paysB_len (F.l.take k)
  rw [List.length_take,Nat.min_eq_left (by omega)] at hpl
  have hpy:payL F.l[k] = F.l[k].name ++ 61 :: F.l[k].value:=by simp [payL]
  have hnn:=Sl.nn hlt
  obtain ⟨x1,x2⟩:=hpb
  have x3:F.l[k].name.length+1≤4611686018427387904:=by omega
  have x4:F.l[k].name.length+1+F.l[k].value.length≤4611686018427387904:=by omega
  have x5:F.l[k].name.length+(F.l[k].value.length+1)≤4611686018427387904:=by omega
  have hbD:bD (payL F.l[k]) = .vsl false (ofBytes (F.l[k].name ++ 61 :: F.l[k].value)) (F.l[k].name.length+(F.l[k].value.length+1)):=by
   unfold bD
   rw [hpy]
   simp
  rw [hbD] at hsn
  have hm1:24≤maxBytes:=by decide
  have hm2:1≤maxBytes:=by decide
  have hmx:(k+1) * 24≤maxBytes:=Nat.le_trans (show _≤30000000 by omega) (by decide)
  have hmx2:k+1≤maxBytes:=Nat.le_trans (show _≤30000000 by omega) (by decide)
  rcases hH with ⟨rfl,k5,rfl⟩ | ⟨n1,v1,hk0,k5,rfl⟩ | ⟨n1,v1,n2,v2,hk0,k5,rfl⟩
  ·have hc0:List.take 2 (encs F.l) = [.str F.l[0].name,.str F.l[0].value]:=by
    rw [encs_at0 hlt,Pr.cells]
    rfl
   have hc1:2≤F.l.length * 2:=by omega
   simp [k2,k3,k4,k5,k9,k10,k11,hlt,hnn,x3,x4,hc0,hc1,hm1,hm2]
   exact ⟨1,by omega,by omega,by simp,by omega,rfl,hsn⟩
  ·simp [k2,k3,k4,k5,k9,k10,k11,hlt',hlt,hw,hnn,x3,x4,Pr.cells,hmx,hmx2,hpl,hsn]
   exact ⟨k+1,by omega,by omega,by omega,by omega,rfl,rfl⟩
  ·simp [k2,k3,k4,k5,k9,k10,k11,hlt',hlt,hw,hnn,x3,x4,Pr.cells,hmx,hmx2,hpl,hsn]
   exact ⟨k+1,by omega,by omega,by omega,by omega,rfl,rfl⟩
 ·have hlt':¬ (k:Int) < (F.l.length:Int):=by omega
  have hke:k = F.l.length:=by omega
  have htk:F.l.take k = F.l:=List.take_of_length_le (by omega)
  rw [htk] at hH
  have hpl:=paysB_len F.l
  have htp:List.take F.l.length (paysB F.l) = paysB F.l:=List.take_of_length_le (by omega)
  rcases hH with ⟨rfl,k5,rfl⟩ | ⟨n1,v1,hk0,k5,rfl⟩ | ⟨n1,v1,n2,v2,hk0,k5,rfl⟩
  ·have hl0:F.l = []:=List.length_eq_zero_iff.1 hke.symm
   have hx:=hxe true (fun _=>by rw [hl0];rfl)
   rw [hl0] at hx
   simp at hx
   simp [k2,k3,k4,k5,k9,k10,k11,hl0,hx,List.drop_append,List.take_append,drop_bytes]
  ·have hx:=hxe false (fun h=>by cases h)
   replace hx:call cx 87 [.vsl false (paysB F.l) F.l.length] [] = some (.int .u64 (xorP (F.l.map payL) 0),[]):=by
    simpa [paysB] using hx
   subst hke
   generalize xorP (F.l.map payL) 0 = z at *
   simp [k2,k3,k4,k5,k9,k10,k11,hlt',hx,hpl,htp,List.drop_append,List.take_append,drop_bytes]
  ·have hx:=hxe false (fun h=>by cases h)
   replace hx:call cx 87 [.vsl false (paysB F.l) F.l.length] [] = some (.int .u64 (xorP (F.l.map payL) 0),[]):=by
    simpa [paysB] using hx
   subst hke
   generalize xorP (F.l.map payL) 0 = z at *
   simp [k2,k3,k4,k5,k9,k10,k11,hlt',hx,hpl,htp,List.drop_append,List.take_append,drop_bytes]
end Go.Ev.S
namespace Go.Ev.S
open Go Go.Proofs Go.Ev
theorem plain_ev [TxtC] (s:List UInt8) (_:s.length < 1000000):call cx 89 [.str s] [] = some (.bool (plainV s),[]):=by
 refine call_run Tryz.func89 rfl ⟨rfl,rfl⟩ ?_
 unfold plainV
 obtain ⟨r,hr⟩:∃ r,s.all plainC = r:=⟨_,rfl⟩
 rw [hr]
 simp [Tryz.f89]
 refine Run.loopThen (fun (k:Nat) e H'=>k≤s.length∧(s.drop k).all plainC = r∧look e 0 = some (.str s)∧look e 5 = some (.int .i64 s.length)∧look e 6 = some (.int .i64 k)∧H' = []) (fun k=>s.length - k) 0 ?_ ?_
 ·simpa using hr
 rintro k e H' ⟨hk,hR,k0,k5,k6,rfl⟩
 by_cases hlt:k < s.length
 ·have hlt':(k:Int) < (s.length:Int):=by omega
  have hw:IntKind.i64.wrap ((k:Int)+1) = ((k+1:Nat):Int):=by rw [wrap_i64] <;> omega
  have hat:s[k]? = some s[k]:=List.getElem?_eq_getElem hlt
  rw [List.drop_eq_getElem_cons hlt,List.all_cons] at hR
  generalize s[k] = c at *
  by_cases h1:c.toNat < 32
  ·have h1':(c.toNat:Int) < 32:=by omega
   by_cases h2:c.toNat = 9
   ·have h2':(c.toNat:Int) = 9:=by omega
    have hc:plainC c = true:=by simp [plainC,h2]
    rw [hc,Bool.true_and] at hR
    simp [k0,k5,k6,hlt',hat,hw,h2]
    exact ⟨k+1,by omega,by omega,by simpa using hR,by omega⟩
   ·have h2':¬ (c.toNat:Int) = 9:=by omega
    have hc:plainC c = false:=by simp [plainC,h1,h2]
    rw [hc,Bool.false_and] at hR
    subst hR
    simp [k0,k5,k6,hlt',hat,h1',h2']
  ·have h1':¬ (c.toNat:Int) < 32:=by omega
   have hc:plainC c = true:=by simp [plainC,h1]
   rw [hc,Bool.true_and] at hR
   simp [k0,k5,k6,hlt',hat,hw,h1']
   exact ⟨k+1,by omega,by omega,by simpa using hR,by omega⟩
 ·have hlt':¬ (k:Int) < (s.length:Int):=by omega
  rw [List.drop_eq_nil_of_le (by omega)] at hR
  have:r = true:=hR.symm
  subst this
  simp [k0,k5,k6,hlt']
theorem nameC_cases (c:UInt8):(nameC c = true∧((65≤c.toNat∧c.toNat≤90)∨(¬ (65≤c.toNat∧c.toNat≤90)∧48≤c.toNat∧c.toNat≤57)∨c.toNat = 95))∨(nameC c = false∧¬ (65≤c.toNat∧c.toNat≤90)∧¬ (48≤c.toNat∧c.toNat≤57)∧c.toNat≠95):=by
 cases h:nameC c with
 | true =>
  simp [nameC] at h
  exact .inl ⟨rfl,by omega⟩
 | false =>
  simp [nameC] at h
  exact .inr ⟨rfl,by omega,by omega,by omega⟩
set_option maxHeartbeats 2000000 in
theorem fname_evX [TxtC] (s:List UInt8):call cx 103 [.str s] [] = some (.bool (nameOk s),[]):=by
 refine call_run Tryz.func103 rfl ⟨rfl,rfl⟩ ?_
 cases s with
 | nil=>simp [Tryz.f103,nameOk]
 | cons c l =>
  have hl1:¬ (l.length:Int)+1 < 1:=by omega
  by_cases h64:64 < l.length+1
  ·have h64':(64:Int) < (l.length:Int)+1:=by omega
   have hN:nameOk (c :: l) = false:=by simp [nameOk];omega
   rw [hN]
   simp [Tryz.f103,hl1,h64']
  ·have h64':¬ (64:Int) < (l.length:Int)+1:=by omega
   have hs:(c :: l).length < 1000000:=by simp;omega
   have hN:nameOk (c :: l) = (!digC c && (c :: l).all nameC):=by
    simp only [nameOk]
    rw [decide_eq_true (by simp;omega),Bool.true_and]
   rw [hN]
   by_cases hd:48≤c.toNat∧c.toNat≤57
   ·have hd1:(48:Int)≤(c.toNat:Int):=by omega
    have hd2:(c.toNat:Int)≤57:=by omega
    have hdc:digC c = true:=by simp [digC,hd.1,hd.2]
    rw [hdc]
    simp [Tryz.f103,hl1,h64',hd1,hd2]
   ·have hdc:digC c = false:=by simp [digC];omega
    rw [hdc]
    have hcond:(¬ (48:Int)≤(c.toNat:Int))∨((48:Int)≤(c.toNat:Int)∧¬ (c.toNat:Int)≤57):=by omega
    obtain ⟨r,hr⟩:∃ r,(c :: l).all nameC = r:=⟨_,rfl⟩
    rw [hr]
    obtain ⟨S,hS⟩:∃ S,S = c :: l:=⟨_,rfl⟩
    have hn:(l.length:Int)+1 = (S.length:Int):=by rw [hS];simp
    rw [← hS] at hr hs
    rcases hcond with h48 | ⟨h48,h57⟩
    ·have h48n:¬ 48≤c.toNat:=by omega
     simp [Tryz.f103,hl1,h64',h48]
     rw [hn,← hS]
     clear hS hn hN
     refine Run.loopThen (fun (k:Nat) e H'=>k≤S.length∧(S.drop k).all nameC = r∧look e 0 = some (.str S)∧look e 24 = some (.int .i64 S.length)∧look e 25 = some (.int .i64 k)∧H' = []) (fun k=>S.length - k) 0 ?_ ?_
     ·simpa using hr
     rintro k e H' ⟨hk,hR,k0,k24,k25,rfl⟩
     by_cases hlt:k < S.length
     ·have hlt':(k:Int) < (S.length:Int):=by omega
      have hw:IntKind.i64.wrap ((k:Int)+1) = ((k+1:Nat):Int):=by rw [wrap_i64] <;> omega
      have hat:S[k]? = some S[k]:=List.getElem?_eq_getElem hlt
      rw [List.drop_eq_getElem_cons hlt,List.all_cons] at hR
      generalize S[k] = x at *
      rcases nameC_cases x with ⟨hx,h1 | ⟨h1,h2⟩ | h1⟩ | ⟨hx,h1,h2,h3⟩
      ·rw [hx,Bool.true_and] at hR
       have g1:(65:Int)≤(x.toNat:Int):=by omega
       have g2:(x.toNat:Int)≤90:=by omega
       simp [k0,k24,k25,hlt',hat,hw,g1,g2]
       exact ⟨k+1,by omega,by omega,by simpa using hR,by omega⟩
      ·rw [hx,Bool.true_and] at hR
       have g1:(48:Int)≤(x.toNat:Int):=by omega
       have g2:(x.toNat:Int)≤57:=by omega
       have g3:¬ (65:Int)≤(x.toNat:Int):=by omega
       have g4:¬ 65≤x.toNat:=by omega
       simp [k0,k24,k25,hlt',hat,hw,g1,g2,g3]
       exact ⟨k+1,by omega,by omega,by simpa using hR,by omega⟩
      ·rw [hx,Bool.true_and] at hR
       have g1:(x.toNat:Int) = 95:=by omega
       simp [k0,k24,k25,hlt',hat,hw,h1]
       exact ⟨k+1,by omega,by omega,by simpa using hR,by omega⟩
      ·rw [hx,Bool.false_and] at hR
       subst hR
       have g0:¬ (x.toNat:Int) = 95:=by omega
       by_cases q1:65≤x.toNat
       ·have g1:(65:Int)≤(x.toNat:Int):=by omega
        have g2:¬ (x.toNat:Int)≤90:=by omega
        have g2':¬ x.toNat≤90:=by omega
        have g3:(48:Int)≤(x.toNat:Int):=by omega
        have g3':48≤x.toNat:=by omega
        have g4:¬ (x.toNat:Int)≤57:=by omega
        have g4':¬ x.toNat≤57:=by omega
        simp [k0,k24,k25,hlt',hat,g0,g1,g2,g3,g4]
       ·have g1:¬ (65:Int)≤(x.toNat:Int):=by omega
        by_cases q2:48≤x.toNat
        ·have g3:(48:Int)≤(x.toNat:Int):=by omega
         have g4:¬ (x.toNat:Int)≤57:=by omega
         have g4':¬ x.toNat≤57:=by omega
         simp [k0,k24,k25,hlt',hat,g0,g1,g3,g4]
        ·have g3:¬ (48:Int)≤(x.toNat:Int):=by omega
         simp [k0,k24,k25,hlt',hat,g0,g1,g3]
     ·have hlt':¬ (k:Int) < (S.length:Int):=by omega
      rw [List.drop_eq_nil_of_le (by omega)] at hR
      have:r = true:=hR.symm
      subst this
      simp [k0,k24,k25,hlt']
    ·have h48n:48≤c.toNat:=by omega
     have h57n:¬ c.toNat≤57:=by omega
     simp [Tryz.f103,hl1,h64',h48,h57]
     rw [hn,← hS]
     clear hS hn hN
     refine Run.loopThen (fun (k:Nat) e H'=>k≤S.length∧(S.drop k).all nameC = r∧look e 0 = some (.str S)∧look e 24 = some (.int .i64 S.length)∧look e 25 = some (.int .i64 k)∧H' = []) (fun k=>S.length - k) 0 ?_ ?_
     ·simpa using hr
     rintro k e H' ⟨hk,hR,k0,k24,k25,rfl⟩
     by_cases hlt:k < S.length
     ·have hlt':(k:Int) < (S.length:Int):=by omega
      have hw:IntKind.i64.wrap ((k:Int)+1) = ((k+1:Nat):Int):=by rw [wrap_i64] <;> omega
      have hat:S[k]? = some S[k]:=List.getElem?_eq_getElem hlt
      rw [List.drop_eq_getElem_cons hlt,List.all_cons] at hR
      generalize S[k] = x at *
      rcases nameC_cases x with ⟨hx,h1 | ⟨h1,h2⟩ | h1⟩ | ⟨hx,h1,h2,h3⟩
      ·rw [hx,Bool.true_and] at hR
       have g1:(65:Int)≤(x.toNat:Int):=by omega
       have g2:(x.toNat:Int)≤90:=by omega
       simp [k0,k24,k25,hlt',hat,hw,g1,g2]
       exact ⟨k+1,by omega,by omega,by simpa using hR,by omega⟩
      ·rw [hx,Bool.true_and] at hR
       have g1:(48:Int)≤(x.toNat:Int):=by omega
       have g2:(x.toNat:Int)≤57:=by omega
       have g3:¬ (65:Int)≤(x.toNat:Int):=by omega
       have g4:¬ 65≤x.toNat:=by omega
       simp [k0,k24,k25,hlt',hat,hw,g1,g2,g3]
       exact ⟨k+1,by omega,by omega,by simpa using hR,by omega⟩
      ·rw [hx,Bool.true_and] at hR
       have g1:(x.toNat:Int) = 95:=by omega
       simp [k0,k24,k25,hlt',hat,hw,h1]
       exact ⟨k+1,by omega,by omega,by simpa using hR,by omega⟩
      ·rw [hx,Bool.false_and] at hR
       subst hR
       have g0:¬ (x.toNat:Int) = 95:=by omega
       by_cases q1:65≤x.toNat
       ·have g1:(65:Int)≤(x.toNat:Int):=by omega
        have g2:¬ (x.toNat:Int)≤90:=by omega
        have g2':¬ x.toNat≤90:=by omega
        have g3:(48:Int)≤(x.toNat:Int):=by omega
        have g3':48≤x.toNat:=by omega
        have g4:¬ (x.toNat:Int)≤57:=by omega
        have g4':¬ x.toNat≤57:=by omega
        simp [k0,k24,k25,hlt',hat,g0,g1,g2,g3,g4]
       ·have g1:¬ (65:Int)≤(x.toNat:Int):=by omega
        by_cases q2:48≤x.toNat
        ·have g3:(48:Int)≤(x.toNat:Int):=by omega
         have g4:¬ (x.toNat:Int)≤57:=by omega
         have g4':¬ x.toNat≤57:=by omega
         simp [k0,k24,k25,hlt',hat,g0,g1,g3,g4]
        ·have g3:¬ (48:Int)≤(x.toNat:Int):=by omega
         simp [k0,k24,k25,hlt',hat,g0,g1,g3]
     ·have hlt':¬ (k:Int) < (S.length:Int):=by omega
      rw [List.drop_eq_nil_of_le (by omega)] at hR
      have:r = true:=hR.symm
      subst this
      simp [k0,k24,k25,hlt']
end Go.Ev.S
namespace Go.Ev.S
open Go Go.Proofs Go.Ev
theorem vOk_at {l:List Str} {k:Nat} (hk:k < l.length):vOk l k = (decide (l[k].s.length≤256) && (decide (k = 0) || Op.bytesLess (l.getD (k - 1) ⟨[]⟩).s l[k].s)):=by
 have h:l.getD k ⟨[]⟩ = l[k]:=by rw [List.getD_eq_getElem?_getD,List.getElem?_eq_getElem hk];rfl
 unfold vOk
 rw [h]
theorem getD_str {l:List Str} {k:Nat} (hk:k < l.length):l.getD k ⟨[]⟩ = l[k]:=by rw [List.getD_eq_getElem?_getD,List.getElem?_eq_getElem hk];rfl
theorem aAt_at {l:List Alt} {k:Nat} (hk:k < l.length):aAt l k = l[k]:=by unfold aAt;rw [List.getD_eq_getElem?_getD,List.getElem?_eq_getElem hk];rfl
theorem alt_last {R:Sl Alt} {i:Nat} (hi:i < R.l.length) {o:Bool} (ho:(decide (i = 0) || Op.bytesLess (aAt R.l (i - 1)).name R.l[i].name) = o) :
  (i = 0∧o = true)∨∃ j z rest,i = j+1∧List.drop (j * 2) (encs (R.l.take i)) = D.str z :: rest∧List.drop (j * 2) (encs R.l) = D.str z :: (rest ++ encs (R.l.drop i))∧Op.bytesLess z R.l[i].name = o:=by
 cases i with
 | zero=>exact .inl ⟨rfl,ho.symm⟩
 | succ j =>
  have hj:j < R.l.length:=by omega
  have hj2:j < (R.l.take (j+1)).length:=by rw [List.length_take];omega
  have h1:=Alt.ea hj2
  have h2:=Alt.ea hj
  rw [List.getElem_take] at h1
  have h3:(R.l.take (j+1)).drop (j+1) = []:=List.drop_eq_nil_of_le (by rw [List.length_take];omega)
  rw [h3] at h1
  refine .inr ⟨j,R.l[j].name,_,rfl,h1,?_,?_⟩
  ·rw [h2];rfl
  ·rw [Nat.add_sub_cancel,aAt_at hj] at ho
   rw [← ho]
   rfl
set_option maxHeartbeats 2000000 in
theorem malt_ev [TxtC] (R:Sl Alt) (i:Nat) (hi:i < R.l.length) (hR:R.l.length < 1000000) (hv:R.l[i].vals.l.length < 1000000) :
  call cx 83 [.agg [.str R.l[i].name,(.vsl (R.l[i].vals).nil (encs (R.l[i].vals).l) (R.l[i].vals).l.length)],.vsl R.nil (encs (R.l.take i)) i] [] = some (.bool (altsOk R.l i),[]):=by
 have hn:=fname_evX R.l[i].name
 have hnn:=Sl.nn hi
 have hres:altsOk R.l i = ((decide (i = 0) || Op.bytesLess (aAt R.l (i - 1)).name R.l[i].name) && altOk R.l[i]):=by unfold altsOk;rw [aAt_at hi]
 rw [hres]
 obtain ⟨o,ho⟩:∃ o,(decide (i = 0) || Op.bytesLess (aAt R.l (i - 1)).name R.l[i].name) = o:=⟨_,rfl⟩
 have hlast:=alt_last hi ho
 rw [ho]
 clear ho hres
 generalize R.l[i] = a at *
 generalize encs (R.l.take i) = cs at *
 unfold altOk
 refine call_run Tryz.func83 rfl ⟨rfl,rfl⟩ ?_
 cases hq:nameOk a.name with
 | false =>
  rw [hq] at hn
  simp [Tryz.f83,hn]
 | true =>
 rw [hq] at hn
 by_cases h0:a.vals.l = []
 ·have h0':a.vals.l.length = 0:=by rw [h0];rfl
  simp [Tryz.f83,hn,h0]
 have h0':¬ a.vals.l.length = 0:=fun h=>h0 (List.eq_nil_of_length_eq_zero h)
 have h0i:¬ (a.vals.l.length:Int) = 0:=by omega
 obtain ⟨r,hr⟩:∃ r,rangeAll a.vals.l.length (vOk a.vals.l) 0 = r:=⟨_,rfl⟩
 rw [hr,decide_eq_true h0,Bool.true_and,Bool.true_and]
 cases o with
 | false =>
  rcases hlast with ⟨h1,h2⟩ | ⟨j,z,rest,h1,h2,-,h3⟩
  ·cases h2
  have hi0:(0:Int) < (i:Int):=by omega
  have hw:IntKind.i64.wrap ((i:Int) - 1) = (j:Int):=by rw [wrap_i64] <;> omega
  have hji:(j:Int) < (i:Int):=by omega
  have hjn:j < i:=by omega
  have hin:0 < i:=by omega
  simp [Tryz.f83,hn,h0',hw,hji,hin,hnn,h2,h3]
 | true =>
 rcases hlast with ⟨h1,h2⟩ | ⟨j,z,rest,h1,h2,-,h3⟩
 ·subst h1
  simp [Tryz.f83,hn,h0',hnn]
  refine Run.loopThen (fun (k:Nat) e H=>k≤a.vals.l.length∧H = [some [.str a.name,(.vsl a.vals.nil (encs a.vals.l) a.vals.l.length)]]∧look e 2 = some (.optr 0 2 0)∧look e 35 = some (.vsl a.vals.nil (encs a.vals.l) a.vals.l.length)∧look e 36 = some (.int .i64 a.vals.l.length)∧look e 37 = some (.int .i64 k)∧rangeAll a.vals.l.length (vOk a.vals.l) k = r) (fun k=>a.vals.l.length - k) 0 ⟨Nat.zero_le _,rfl,by simp,by simp,by simp,by simp,hr⟩ ?_
  rintro k e H ⟨hk,rfl,g2,g35,g36,g37,gr⟩
  by_cases hlt:k < a.vals.l.length
  case neg =>
   have hlt':¬ ((k:Int) < (a.vals.l.length:Int)):=by omega
   rw [rangeAll_end (by omega)] at gr
   subst gr
   simp [g2,g35,g36,g37,hlt']
  have hlt':((k:Int) < (a.vals.l.length:Int)):=by omega
  have hwk:IntKind.i64.wrap ((k:Int)+1) = ((k+1:Nat):Int):=by rw [wrap_i64] <;> omega
  have hea:=Str.ea hlt
  have hnl:=Sl.nn hlt
  rw [rangeAll_step hlt,vOk_at hlt] at gr
  by_cases h256:a.vals.l[k].s.length≤256
  case neg =>
   rw [decide_eq_false h256,Bool.false_and,Bool.false_and] at gr
   subst gr
   have h256':(256:Int) < (a.vals.l[k].s.length:Int):=by omega
   have h256n:256 < a.vals.l[k].s.length:=by omega
   generalize a.vals.l[k] = v at *
   simp [g2,g35,g36,g37,hlt',hnl,hea,h256']
  have h256':¬ (256:Int) < (a.vals.l[k].s.length:Int):=by omega
  have h256n:¬ 256 < a.vals.l[k].s.length:=by omega
  rw [decide_eq_true h256,Bool.true_and] at gr
  cases k with
  | zero =>
   replace gr:rangeAll a.vals.l.length (vOk a.vals.l) 1 = r:=gr
   generalize a.vals.l[0] = v at *
   rw [show ((0:Nat):Int) = 0 from rfl] at g37 hlt' hwk
   simp at hea
   simp [g2,g35,g36,g37,hlt,hnl,hea,h256']
   exact ⟨1,by omega,by omega,rfl,gr⟩
  | succ q =>
   have hq2:q < a.vals.l.length:=by omega
   have heb:=Str.ea hq2
   rw [Nat.add_sub_cancel,getD_str hq2,decide_eq_false (by omega),Bool.false_or] at gr
   have hwq:IntKind.i64.wrap (((q+1:Nat):Int) - 1) = (q:Int):=by rw [wrap_i64] <;> omega
   have hp0:(0:Int) < ((q+1:Nat):Int):=by omega
   have hqi:(q:Int) < (a.vals.l.length:Int):=by omega
   have hp0n:0 < q+1:=by omega
   generalize a.vals.l[q+1] = v at *
   generalize a.vals.l[q] = u at *
   generalize q+1 = k at *
   cases hb:Op.bytesLess u.s v.s with
   | false =>
    rw [hb,Bool.false_and] at gr
    subst gr
    simp [g2,g35,g36,g37,hlt',hnl,hea,heb,h256',hwq,hp0n,hqi,hb]
   | true =>
    rw [hb,Bool.true_and] at gr
    simp [g2,g35,g36,g37,hlt',hnl,hea,heb,h256',hwq,hp0n,hqi,hb,hwk]
    exact ⟨k+1,by omega,by omega,by omega,gr⟩
 ·have hi0:(0:Int) < (i:Int):=by omega
  have hw:IntKind.i64.wrap ((i:Int) - 1) = (j:Int):=by rw [wrap_i64] <;> omega
  have hji:(j:Int) < (i:Int):=by omega
  have hjn:j < i:=by omega
  have hin:0 < i:=by omega
  simp [Tryz.f83,hn,h0',hw,hji,hin,hnn,h2,h3]
  refine Run.loopThen (fun (k:Nat) e H=>k≤a.vals.l.length∧H = [some [.str a.name,(.vsl a.vals.nil (encs a.vals.l) a.vals.l.length)]]∧look e 2 = some (.optr 0 2 0)∧look e 35 = some (.vsl a.vals.nil (encs a.vals.l) a.vals.l.length)∧look e 36 = some (.int .i64 a.vals.l.length)∧look e 37 = some (.int .i64 k)∧rangeAll a.vals.l.length (vOk a.vals.l) k = r) (fun k=>a.vals.l.length - k) 0 ⟨Nat.zero_le _,rfl,by simp,by simp,by simp,by simp,hr⟩ ?_
  rintro k e H ⟨hk,rfl,g2,g35,g36,g37,gr⟩
  by_cases hlt:k < a.vals.l.length
  case neg =>
   have hlt':¬ ((k:Int) < (a.vals.l.length:Int)):=by omega
   rw [rangeAll_end (by omega)] at gr
   subst gr
   simp [g2,g35,g36,g37,hlt']
  have hlt':((k:Int) < (a.vals.l.length:Int)):=by omega
  have hwk:IntKind.i64.wrap ((k:Int)+1) = ((k+1:Nat):Int):=by rw [wrap_i64] <;> omega
  have hea:=Str.ea hlt
  have hnl:=Sl.nn hlt
  rw [rangeAll_step hlt,vOk_at hlt] at gr
  by_cases h256:a.vals.l[k].s.length≤256
  case neg =>
   rw [decide_eq_false h256,Bool.false_and,Bool.false_and] at gr
   subst gr
   have h256':(256:Int) < (a.vals.l[k].s.length:Int):=by omega
   have h256n:256 < a.vals.l[k].s.length:=by omega
   generalize a.vals.l[k] = v at *
   simp [g2,g35,g36,g37,hlt',hnl,hea,h256']
  have h256':¬ (256:Int) < (a.vals.l[k].s.length:Int):=by omega
  have h256n:¬ 256 < a.vals.l[k].s.length:=by omega
  rw [decide_eq_true h256,Bool.true_and] at gr
  cases k with
  | zero =>
   replace gr:rangeAll a.vals.l.length (vOk a.vals.l) 1 = r:=gr
   generalize a.vals.l[0] = v at *
   rw [show ((0:Nat):Int) = 0 from rfl] at g37 hlt' hwk
   simp at hea
   simp [g2,g35,g36,g37,hlt,hnl,hea,h256']
   exact ⟨1,by omega,by omega,rfl,gr⟩
  | succ q =>
   have hq2:q < a.vals.l.length:=by omega
   have heb:=Str.ea hq2
   rw [Nat.add_sub_cancel,getD_str hq2,decide_eq_false (by omega),Bool.false_or] at gr
   have hwq:IntKind.i64.wrap (((q+1:Nat):Int) - 1) = (q:Int):=by rw [wrap_i64] <;> omega
   have hp0:(0:Int) < ((q+1:Nat):Int):=by omega
   have hqi:(q:Int) < (a.vals.l.length:Int):=by omega
   have hp0n:0 < q+1:=by omega
   generalize a.vals.l[q+1] = v at *
   generalize a.vals.l[q] = u at *
   generalize q+1 = k at *
   cases hb:Op.bytesLess u.s v.s with
   | false =>
    rw [hb,Bool.false_and] at gr
    subst gr
    simp [g2,g35,g36,g37,hlt',hnl,hea,heb,h256',hwq,hp0n,hqi,hb]
   | true =>
    rw [hb,Bool.true_and] at gr
    simp [g2,g35,g36,g37,hlt',hnl,hea,heb,h256',hwq,hp0n,hqi,hb,hwk]
    exact ⟨k+1,by omega,by omega,by omega,gr⟩
end Go.Ev.S
namespace Go.Ev.S
open Go Go.Proofs Go.Ev
theorem wordsA_le:∀ {l:List Alt} (_:∀ a∈l,a.vals.l.length≤40),wordsA l≤l.length * 40
 | [],_=>Nat.zero_le _
 | a :: l,h=>by
  have h1:=h a (List.mem_cons_self ..)
  have h2:=wordsA_le fun x hx=>h x (List.mem_cons_of_mem _ hx)
  rw [wordsA_cons,List.length_cons,Nat.add_mul]
  omega
theorem wordsR_le:∀ {l:List Row} (_:∀ r∈l,r.r.l.length≤20∧∀ a∈r.r.l,a.vals.l.length≤40),wordsR l≤l.length * 800
 | [],_=>Nat.zero_le _
 | a :: l,h=>by
  obtain ⟨h0,h1⟩:=h a (List.mem_cons_self ..)
  have h2:=wordsR_le fun x hx=>h x (List.mem_cons_of_mem _ hx)
  have h3:=wordsA_le h1
  rw [wordsR_cons,List.length_cons,Nat.add_mul]
  omega
theorem matB_words {l:List Row} (h:MatB l):wordsR l≤4000:=by
 have h1:=wordsR_le fun r hr=>⟨(h.2 r hr).1,fun a ha=>((h.2 r hr).2 a ha).1⟩
 have h2:=h.1
 have h3:l.length * 800≤5 * 800:=Nat.mul_le_mul_right _ h2
 omega
set_option maxHeartbeats 2000000 in
theorem mright_ev [TxtC] (m:Mat) (hm:MatB m.rows.l):call cx 55 [.agg [(.vsl m.rows.nil (encs m.rows.l) m.rows.l.length)]] [] = some (.bool (matOk m.rows.l),[]):=by
 obtain ⟨M⟩:=m
 simp only at hm ⊢
 refine call_run Tryz.func55 rfl ⟨rfl,rfl⟩ ?_
 obtain ⟨h5,hb⟩:=hm
 obtain ⟨r,hr⟩:∃ r,matOk M.l = r:=⟨_,rfl⟩
 rw [hr]
 unfold matOk at hr
 rcases Nat.eq_zero_or_pos M.l.length with h0 | hpos
 ·obtain ⟨nil,l,hnil⟩:=M
  simp only at h0 hr ⊢
  obtain rfl:=List.eq_nil_of_length_eq_zero h0
  replace hr:true = r:=hr
  subst hr
  have hw:IntKind.i64.wrap ((0:Int) - 1) = -1:=by rw [wrap_i64] <;> omega
  have hw':IntKind.i64.wrap (-1) = -1:=by rw [wrap_i64] <;> omega
  simp [Tryz.f55,hw']
  refine run_loop1 ?_
  simp
 obtain ⟨w0,hw0⟩:∃ w0,M.l.length = w0+1:=⟨M.l.length - 1,by omega⟩
 have hw:IntKind.i64.wrap ((M.l.length:Int) - 1) = (w0:Int):=by rw [wrap_i64] <;> omega
 simp [Tryz.f55,hw]
 refine Run.loopThen (fun (q:Nat × Nat) e H'=>q.1≤M.l.length∧(H' = []∨∃ x,H' = [x])∧look e 3 = some (.int .i64 (q.2:Nat))∧look e 14 = some (.vsl M.nil (encs M.l) M.l.length)∧look e 15 = some (.int .i64 M.l.length)∧look e 16 = some (.int .i64 (q.1:Nat))∧((M.l.drop q.1).all rowOk && decide (q.2+wordsR (M.l.drop q.1)≤32)) = r∧q.2≤10000∧(0 < q.1→q.2≤32)) (fun q=>M.l.length - q.1) (0,w0) ⟨Nat.zero_le _,.inr ⟨_,rfl⟩,(by simp;omega),by simp,by simp,by simp,?_,?_,fun h=>absurd h (Nat.lt_irrefl _)⟩ ?_
 ·rw [← hr,hw0,Nat.add_sub_cancel,List.drop_zero]
 ·show w0≤10000
  omega
 rintro ⟨i,w⟩ e H ⟨hi,hH,g3,g14,g15,g16,gf,gw,gz⟩
 simp only at hi g3 g16 gf gw gz
 by_cases hlt:i < M.l.length
 case neg =>
  have hlt':¬ ((i:Int) < (M.l.length:Int)):=by omega
  rw [List.drop_eq_nil_of_le (by omega)] at gf
  simp only [List.all_nil,Bool.true_and,wordsR,List.map_nil,List.sum_nil,Nat.add_zero] at gf
  rw [decide_eq_true (gz (by omega))] at gf
  subst gf
  rcases hH with rfl | ⟨x,rfl⟩
  all_goals simp [g3,g14,g15,g16,hlt']
 have hlt':((i:Int) < (M.l.length:Int)):=by omega
 have hwi:IntKind.i64.wrap ((i:Int)+1) = ((i+1:Nat):Int):=by rw [wrap_i64] <;> omega
 have hea:=Row.ea hlt
 have hnn:=Sl.nn hlt
 obtain ⟨b1,b2⟩:=hb _ (List.getElem_mem hlt)
 rw [List.drop_eq_getElem_cons hlt,List.all_cons,wordsR_cons] at gf
 generalize M.l[i] = x at *
 obtain ⟨R⟩:=x
 simp only at b1 b2 hea gf
 by_cases h0:R.l.length = 0
 ·have h0i:(R.l.length:Int) = 0:=by omega
  have hro:rowOk ⟨R⟩ = false:=by
   unfold rowOk
   simp [List.eq_nil_of_length_eq_zero h0]
  rw [hro,Bool.false_and,Bool.false_and] at gf
  subst gf
  rcases hH with rfl | ⟨x,rfl⟩
  all_goals simp [g3,g14,g15,g16,hlt',hnn,hea,h0]
 have h0i:¬ (R.l.length:Int) = 0:=by omega
 have hro:rowOk ⟨R⟩ = rangeAll R.l.length (altsOk R.l) 0:=by
  have hne:R.l≠[]:=fun h=>h0 (by rw [h];rfl)
  unfold rowOk
  simp [hne]
 rw [hro] at gf
 by_cases h32:w≤32
 case neg =>
  have h32':(32:Int) < (w:Int):=by omega
  have h32n:32 < w:=by omega
  rw [decide_eq_false (p:=w+_≤32) (by omega),Bool.and_false] at gf
  subst gf
  rcases hH with rfl | ⟨x,rfl⟩
  all_goals simp [g3,g14,g15,g16,hlt',hnn,hea,h0,h32']
 have h32':¬ (32:Int) < (w:Int):=by omega
 have h32n:¬ 32 < w:=by omega
 obtain ⟨T,hT⟩:∃ T,M.l.drop (i+1) = T:=⟨_,rfl⟩
 rcases hH with rfl | ⟨x,rfl⟩
 all_goals
  simp [g3,g14,g15,g16,hlt',hnn,hea,h0,h32']
  refine Run.loopThen (fun (q:Nat × Nat) e H'=>q.1≤R.l.length∧(H' = []∨∃ x,H' = [x])∧look e 3 = some (.int .i64 (q.2:Nat))∧look e 5 = some (.vsl R.nil (encs R.l) R.l.length)∧look e 14 = some (.vsl M.nil (encs M.l) M.l.length)∧look e 15 = some (.int .i64 M.l.length)∧look e 16 = some (.int .i64 (i:Nat))∧look e 27 = some (.vsl R.nil (encs R.l) R.l.length)∧look e 28 = some (.int .i64 R.l.length)∧look e 29 = some (.int .i64 (q.1:Nat))∧(rangeAll R.l.length (altsOk R.l) q.1 && ((M.l.drop (i+1)).all rowOk && decide (q.2+(wordsA (R.l.drop q.1)+wordsR (M.l.drop (i+1)))≤32))) = r∧q.2≤32) (fun q=>R.l.length - q.1) (0,w) ⟨Nat.zero_le _,?_,by simp,by simp,by simp [hnn],by simp,by simp,by simp,by simp,by simp,?_,h32⟩ ?_
  ·first | exact .inl rfl | exact .inr ⟨_,rfl⟩
  ·rw [List.drop_zero,← Bool.and_assoc]
   exact gf
  rintro ⟨k,v⟩ e' H' ⟨hk,hH',k3,k5,k14,k15,k16,k27,k28,k29,kf,kv⟩
  simp only at hk k3 k29 kf kv
  by_cases hkt:k < R.l.length
  case neg =>
   have hkt':¬ ((k:Int) < (R.l.length:Int)):=by omega
   rw [rangeAll_end (by omega),Bool.true_and,List.drop_eq_nil_of_le (show R.l.length≤k by omega)] at kf
   simp only [wordsA,List.map_nil,List.sum_nil,Nat.zero_add] at kf
   rcases hH' with rfl | ⟨x',rfl⟩
   all_goals
    simp [k3,k5,k14,k15,k16,k27,k28,k29,hkt',hwi]
    exact ⟨i+1,by omega,by omega,v,rfl,hnn,by omega,kf,by omega,fun _=>kv⟩
  have hkt':((k:Int) < (R.l.length:Int)):=by omega
  have hwk:IntKind.i64.wrap ((k:Int)+1) = ((k+1:Nat):Int):=by rw [wrap_i64] <;> omega
  have heb:=Alt.ea hkt
  have hnl:=Sl.nn hkt
  obtain ⟨c1,-⟩:=b2 _ (List.getElem_mem hkt)
  have hc:=malt_ev R k hkt (by omega) (by omega)
  rw [rangeAll_step hkt,List.drop_eq_getElem_cons hkt,wordsA_cons] at kf
  have hte:List.take (k * 2) (encs R.l) = encs (R.l.take k):=encs_take (n:=2) (α:=Alt) rfl _ _
  generalize R.l[k] = a at *
  have hwv:IntKind.i64.wrap ((v:Int)+(a.vals.l.length:Int)) = ((v+a.vals.l.length:Nat):Int):=by rw [wrap_i64] <;> omega
  obtain ⟨z,hz⟩:∃ z,z = v+a.vals.l.length:=⟨_,rfl⟩
  rw [← hz] at hwv
  rw [hnl] at hc
  by_cases hz32:z≤32
  case neg =>
   have hz':(32:Int) < (z:Int):=by omega
   have hzn:32 < z:=by omega
   rw [decide_eq_false (p:=v+_≤32) (by omega),Bool.and_false,Bool.and_false] at kf
   subst kf
   rcases hH' with rfl | ⟨x',rfl⟩
   all_goals simp [k3,k5,k14,k15,k16,k27,k28,k29,hkt',hnl,heb,hwv,hz']
  have hz':¬ (32:Int) < (z:Int):=by omega
  have hzn:¬ 32 < z:=by omega
  cases hal:altsOk R.l k with
  | false =>
   rw [hal,Bool.false_and,Bool.false_and] at kf
   subst kf
   rw [hal] at hc
   rcases hH' with rfl | ⟨x',rfl⟩
   all_goals simp [k3,k5,k14,k15,k16,k27,k28,k29,hkt',hnl,heb,hwv,hz',hte,hk,hc]
  | true =>
   rw [hal,Bool.true_and] at kf
   rw [hal] at hc
   rcases hH' with rfl | ⟨x',rfl⟩
   all_goals
    simp [k3,k5,k14,k15,k16,k27,k28,k29,hkt',hnl,heb,hwv,hz',hte,hk,hc,hwk]
    exact ⟨k+1,by omega,by omega,z,rfl,by omega,by rw [show z+(wordsA (R.l.drop (k+1))+wordsR (M.l.drop (i+1))) = v+(a.vals.l.length+wordsA (R.l.drop (k+1))+wordsR (M.l.drop (i+1))) by omega];exact kf,hz32⟩
end Go.Ev.S
namespace Go.Ev.S
open Go Go.Proofs Go.Ev
theorem turn_at [TxtC] {x r:Int} {k:Nat} (hk:k < 32) (e:rolI x k = r) {kk:Int} (hkk:kk = k):call cx 119 [.int .u32 x,.int .u64 kk] [] = some (.int .u32 r,[]):=by
 rw [hkk,← e]
 have hw2:IntKind.u64.wrap (32 - (k:Int)) = ((32 - k:Nat):Int):=by rw [wrap_u64] <;> omega
 have m1:min k 32 = k:=by omega
 have hn:¬ (k:Int) < 0:=by omega
 refine call_run Tryz.func119 rfl ⟨rfl,rfl⟩ ?_
 unfold rolI
 obtain ⟨j,hj⟩:∃ j,j = 32 - k:=⟨_,rfl⟩
 rw [← hj] at hw2 ⊢
 have m2:min j 32 = j:=by omega
 have hn2:¬ (j:Int) < 0:=by omega
 simp [Tryz.f119,hw2,IntKind.bits,m1,m2,hn,hn2]
theorem bits32:2 ^ IntKind.u32.bits = 4294967296:=by simp only [IntKind.bits]
theorem word_step (x y:Nat) (hy:y < 256) (hx:x * 256+y < 4294967296):orI .u32 ((x:Int) * 256) (y:Int) = ((x * 256+y:Nat):Int):=by
 have e3:x * 256 < 2 ^ IntKind.u32.bits:=Nat.lt_of_lt_of_eq (Nat.lt_of_le_of_lt (Nat.le_add_right _ _) hx) bits32.symm
 have e4:y < 2 ^ IntKind.u32.bits:=Nat.lt_of_lt_of_eq (Nat.lt_of_lt_of_le hy (by decide)) bits32.symm
 have e1:(x:Int) * 256 = ((x * 256:Nat):Int):=by omega
 rw [e1,orI_nat rfl e3 e4,or_shl x y hy]
set_option maxHeartbeats 1000000 in
theorem word_ev [TxtC] (nl:Bool) (l:List UInt8) (hnl:nl = true→l = []) (a:Nat) (ha:a < 5611686018427387904) (_:l.length < 4611686018427387904) {at_:Int} (hat:at_ = a):call cx 118 [.vsl nl (ofBytes l) l.length,.int .i64 at_] [] = some (.int .u32 (wordL l a:Nat),[]):=by
 subst hat
 refine call_run Tryz.func118 rfl ⟨rfl,rfl⟩ ?_
 simp [Tryz.f118]
 refine Run.loopThen (fun (k:Nat) e H=>k≤4∧H = []∧look e 0 = some (.vsl nl (ofBytes l) l.length)∧look e 1 = some (.int .i64 a)∧look e 5 = some (.int .u32 (leN ((l.drop (a+k)).take (4 - k)):Nat))∧look e 6 = some (.int .i64 ((k:Int) - 1))) (fun k=>k) 4 (by simp [leN]) ?_
 rintro k e H ⟨hk,rfl,h0,h1,h5,h6⟩
 cases k with
 | zero =>
  simp [h0,h1,h5,h6]
  rfl
 | succ j =>
  have hj:(0:Int)≤(j:Int):=by omega
  have e1:((j+1:Nat):Int) - 1 = (j:Int):=by omega
  rw [e1] at h6
  have hwk:IntKind.i64.wrap ((j:Int) - 1) = (j:Int) - 1:=by rw [wrap_i64];omega
  have hwj:IntKind.i64.wrap ((a:Int)+(j:Int)) = ((a+j:Nat):Int):=by rw [wrap_i64] <;> omega
  have hp8:(2:Int) ^ min 8 IntKind.u32.bits = 256:=by decide
  have hn8:leN ((l.drop (a+(j+1))).take (4 - (j+1))) < 256 ^ 3:=by
   refine Nat.lt_of_lt_of_le (leN_lt _) (Nat.pow_le_pow_right (by decide) ?_)
   rw [List.length_take]
   omega
  obtain ⟨v,hv⟩:∃ v,leN ((l.drop (a+(j+1))).take (4 - (j+1))) = v:=⟨_,rfl⟩
  rw [hv] at h5 hn8
  have hwv:IntKind.u32.wrap ((v:Int) * 256) = (v:Int) * 256:=by rw [wrap_u32] <;> omega
  by_cases hlt:a+j < l.length
  ·have hlt':((a+j:Nat):Int) < (l.length:Int):=by omega
   have hnn:nl = false:=by
    cases hq:nl with
    | false=>rfl
    | true=>rw [hnl hq] at hlt;simp at hlt
   have hd:(l.drop (a+j)).take (4 - j) = l[a+j] :: (l.drop (a+(j+1))).take (4 - (j+1)):=by
    rw [List.drop_eq_getElem_cons hlt,show 4 - j = (4 - (j+1))+1 by omega,List.take_succ_cons,Nat.add_assoc]
   have hb:=l[a+j].toNat_lt
   have hst:=word_step v l[a+j].toNat hb (by omega)
   have hwu:IntKind.u32.wrap (l[a+j].toNat:Int) = (l[a+j].toNat:Int):=by rw [wrap_u32];omega
   have g1:(0:Int)≤(a:Int)+(j:Int):=by omega
   have g2:(a:Int)+(j:Int) < (l.length:Int):=by omega
   have g3:((a:Int)+(j:Int)).toNat = a+j:=by omega
   have hat:=ofBytes_at hlt
   simp [h0,h1,h5,h6,hj,hwj,hwk,hwu,hnn,g1,g2,g3,hat,hp8,hwv,hst]
   exact ⟨j,by omega,by omega,by rw [hd,leN,hv];omega,rfl⟩
  ·have hlt':¬ ((a+j:Nat):Int) < (l.length:Int):=by omega
   have g2:¬ (a:Int)+(j:Int) < (l.length:Int):=by omega
   have hv0:v = 0:=by
    rw [← hv,List.drop_eq_nil_of_le (by omega)]
    simp [leN]
   subst hv0
   simp [h0,h1,h5,h6,hj,hwj,hwk,g2,hp8]
   exact ⟨j,by omega,by omega,by rw [List.drop_eq_nil_of_le (by omega)];simp [leN],rfl⟩
theorem wordL_drop (l:List UInt8) (a k:Nat):wordL (l.drop a) k = wordL l (a+k):=by
 unfold wordL
 rw [List.drop_drop]
set_option maxHeartbeats 4000000 in
set_option maxRecDepth 4000 in
theorem rlookup_ev [TxtC] (s:Sl UInt8) (hs:s.l.length < 4611686018427387904):call cx 99 [(.vsl s.nil (ofBytes s.l) s.l.length)] [] = some (.int .u64 (lookN s.l),[]):=by
 refine call_run Tryz.func99 rfl ⟨rfl,rfl⟩ ?_
 have hN:lookN s.l = lookR s.l (add32 3735928559 (IntKind.u32.wrap (s.l.length:Nat)),add32 3735928559 (IntKind.u32.wrap (s.l.length:Nat)),add32 3735928559 (IntKind.u32.wrap (s.l.length:Nat))):=rfl
 obtain ⟨n,hn⟩:∃ n,IntKind.u32.wrap (3735928559+IntKind.u32.wrap (s.l.length:Nat)) = n:=⟨_,rfl⟩
 have hn2:add32 3735928559 (IntKind.u32.wrap (s.l.length:Nat)) = n:=hn
 rw [hn2] at hN
 clear hn2
 have hp64:(2:Int) ^ min 32 IntKind.u64.bits = 4294967296:=by decide
 generalize lookN s.l = res at *
 by_cases h0:s.l.length = 0
 ·have h0':(s.l.length:Int) = 0:=by omega
  rw [lookR_nil h0] at hN
  subst hN
  rw [h0] at hn
  replace hn:IntKind.u32.wrap (3735928559+IntKind.u32.wrap (0:Int)) = n:=hn
  have hn0:n = 3735928559:=by rw [← hn];decide
  subst hn0
  simp [Tryz.f99,h0,outT,hp64]
 have h0':¬ (s.l.length:Int) = 0:=by omega
 simp [Tryz.f99,hn,h0]
 refine Run.loopThen (fun (q:Nat × Int × Int × Int) e H'=>q.1 < s.l.length∧lookR (s.l.drop q.1) q.2 = res∧look e 0 = some (.vsl s.nil (ofBytes s.l) s.l.length)∧look e 3 = some (.int .u32 q.2.1)∧look e 4 = some (.int .u32 q.2.2.1)∧look e 5 = some (.int .u32 q.2.2.2)∧look e 6 = some (.int .i64 q.1)∧H' = []) (fun q=>s.l.length - q.1) (0,n,n,n) ?_ ?_
 ·simp [hN]
  omega
 rintro ⟨at_,x,y,z⟩ e H' ⟨hat,hR,k0,k3,k4,k5,k6,rfl⟩
 simp only at hat hR k3 k4 k5 k6
 have hsub:IntKind.i64.wrap ((s.l.length:Int) - (at_:Int)) = ((s.l.length - at_:Nat):Int):=by rw [wrap_i64] <;> omega
 have hdl:(s.l.drop at_).length = s.l.length - at_:=List.length_drop
 by_cases h12:12 < s.l.length - at_
 ·have h12':(12:Int) < ((s.l.length - at_:Nat):Int):=by omega
  rw [lookR_more (by omega),List.drop_drop] at hR
  have w0:=word_ev s.nil s.l s.h (at_+0) (by omega) hs (at_:=(at_:Int)) (by omega)
  obtain ⟨x0,p0⟩:∃ v,add32 x (wordL s.l (at_+0):Nat) = v:=⟨_,rfl⟩
  have w4:=word_ev s.nil s.l s.h (at_+4) (by omega) hs (at_:=(at_:Int)+4) (by omega)
  obtain ⟨y0,p4⟩:∃ v,add32 y (wordL s.l (at_+4):Nat) = v:=⟨_,rfl⟩
  have w8:=word_ev s.nil s.l s.h (at_+8) (by omega) hs (at_:=(at_:Int)+8) (by omega)
  obtain ⟨z0,p8⟩:∃ v,add32 z (wordL s.l (at_+8):Nat) = v:=⟨_,rfl⟩
  have ha:addT (s.l.drop at_) (x,y,z) = (x0,y0,z0):=by simp only [addT,wordL_drop,p0,p4,p8]
  have c0:IntKind.u32.wrap (x+(wordL s.l (at_+0):Nat)) = x0:=p0
  generalize wordL s.l (at_+0) = u0 at *
  have c4:IntKind.u32.wrap (y+(wordL s.l (at_+4):Nat)) = y0:=p4
  generalize wordL s.l (at_+4) = u4 at *
  have c8:IntKind.u32.wrap (z+(wordL s.l (at_+8):Nat)) = z0:=p8
  generalize wordL s.l (at_+8) = u8 at *
  clear p0 p4 p8
  have i4:IntKind.i64.wrap ((at_:Int)+4) = (at_:Int)+4:=by rw [wrap_i64] <;> omega
  have i8:IntKind.i64.wrap ((at_:Int)+8) = (at_:Int)+8:=by rw [wrap_i64] <;> omega
  rw [ha] at hR
  obtain ⟨a1,h1⟩:∃ v,sub32 x0 z0 = v:=⟨_,rfl⟩
  have e0:IntKind.u32.wrap (x0 - z0) = a1:=h1
  obtain ⟨r0,q0⟩:∃ v,rolI z0 4 = v:=⟨_,rfl⟩
  have e1:=turn_at (by omega) q0 (kk:=4) rfl
  obtain ⟨x1,f0⟩:∃ v,xorI .u32 a1 r0 = v:=⟨_,rfl⟩
  have h2:xorI .u32 a1 (rolI z0 4) = x1:=by rw [q0];exact f0
  obtain ⟨z1,h3⟩:∃ v,add32 z0 y0 = v:=⟨_,rfl⟩
  have e2:IntKind.u32.wrap (z0+y0) = z1:=h3
  obtain ⟨a2,h4⟩:∃ v,sub32 y0 x1 = v:=⟨_,rfl⟩
  have e3:IntKind.u32.wrap (y0 - x1) = a2:=h4
  obtain ⟨r1,q1⟩:∃ v,rolI x1 6 = v:=⟨_,rfl⟩
  have e4:=turn_at (by omega) q1 (kk:=6) rfl
  obtain ⟨y1,f1⟩:∃ v,xorI .u32 a2 r1 = v:=⟨_,rfl⟩
  have h5:xorI .u32 a2 (rolI x1 6) = y1:=by rw [q1];exact f1
  obtain ⟨x2,h6⟩:∃ v,add32 x1 z1 = v:=⟨_,rfl⟩
  have e5:IntKind.u32.wrap (x1+z1) = x2:=h6
  obtain ⟨a3,h7⟩:∃ v,sub32 z1 y1 = v:=⟨_,rfl⟩
  have e6:IntKind.u32.wrap (z1 - y1) = a3:=h7
  obtain ⟨r2,q2⟩:∃ v,rolI y1 8 = v:=⟨_,rfl⟩
  have e7:=turn_at (by omega) q2 (kk:=8) rfl
  obtain ⟨z2,f2⟩:∃ v,xorI .u32 a3 r2 = v:=⟨_,rfl⟩
  have h8:xorI .u32 a3 (rolI y1 8) = z2:=by rw [q2];exact f2
  obtain ⟨y2,h9⟩:∃ v,add32 y1 x2 = v:=⟨_,rfl⟩
  have e8:IntKind.u32.wrap (y1+x2) = y2:=h9
  obtain ⟨a4,g1⟩:∃ v,sub32 x2 z2 = v:=⟨_,rfl⟩
  have e9:IntKind.u32.wrap (x2 - z2) = a4:=g1
  obtain ⟨r3,q3⟩:∃ v,rolI z2 16 = v:=⟨_,rfl⟩
  have e10:=turn_at (by omega) q3 (kk:=16) rfl
  obtain ⟨x3,f3⟩:∃ v,xorI .u32 a4 r3 = v:=⟨_,rfl⟩
  have g2:xorI .u32 a4 (rolI z2 16) = x3:=by rw [q3];exact f3
  obtain ⟨z3,g3⟩:∃ v,add32 z2 y2 = v:=⟨_,rfl⟩
  have e11:IntKind.u32.wrap (z2+y2) = z3:=g3
  obtain ⟨a5,g4⟩:∃ v,sub32 y2 x3 = v:=⟨_,rfl⟩
  have e12:IntKind.u32.wrap (y2 - x3) = a5:=g4
  obtain ⟨r4,q4⟩:∃ v,rolI x3 19 = v:=⟨_,rfl⟩
  have e13:=turn_at (by omega) q4 (kk:=19) rfl
  obtain ⟨y3,f4⟩:∃ v,xorI .u32 a5 r4 = v:=⟨_,rfl⟩
  have g5:xorI .u32 a5 (rolI x3 19) = y3:=by rw [q4];exact f4
  obtain ⟨x4,g6⟩:∃ v,add32 x3 z3 = v:=⟨_,rfl⟩
  have e14:IntKind.u32.wrap (x3+z3) = x4:=g6
  obtain ⟨a6,g7⟩:∃ v,sub32 z3 y3 = v:=⟨_,rfl⟩
  have e15:IntKind.u32.wrap (z3 - y3) = a6:=g7
  obtain ⟨r5,q5⟩:∃ v,rolI y3 4 = v:=⟨_,rfl⟩
  have e16:=turn_at (by omega) q5 (kk:=4) rfl
  obtain ⟨z4,f5⟩:∃ v,xorI .u32 a6 r5 = v:=⟨_,rfl⟩
  have g8:xorI .u32 a6 (rolI y3 4) = z4:=by rw [q5];exact f5
  obtain ⟨y4,g9⟩:∃ v,add32 y3 x4 = v:=⟨_,rfl⟩
  have e17:IntKind.u32.wrap (y3+x4) = y4:=g9
  have hm:=mix_at h1 h2 h3 h4 h5 h6 h7 h8 h9 g1 g2 g3 g4 g5 g6 g7 g8 g9
  rw [hm] at hR
  clear g9 g8 g7 g6 g5 g4 g3 g2 g1 h9 h8 h7 h6 h5 h4 h3 h2 h1 hm q0 q1 q2 q3 q4 q5
  have i12:IntKind.i64.wrap ((at_:Int)+12) = ((at_+12:Nat):Int):=by rw [wrap_i64] <;> omega
  clear ha hN
  generalize hjj:s.l.length - at_ = j at *
  simp [k0,k3,k4,k5,k6,hsub,h12',i12,w0,w4,w8,c0,c4,c8,i4,i8,e0,e1,f0,e2,e3,e4,f1,e5,e6,e7,f2,e8,e9,e10,f3,e11,e12,e13,f4,e14,e15,e16,f5,e17]
  exact ⟨at_+12,by omega,by omega,_,_,_,hR,by omega,rfl,rfl,by omega⟩
 ·have h12':¬ (12:Int) < ((s.l.length - at_:Nat):Int):=by omega
  have w0:=word_ev s.nil s.l s.h (at_+0) (by omega) hs (at_:=(at_:Int)) (by omega)
  obtain ⟨x0,p0⟩:∃ v,add32 x (wordL s.l (at_+0):Nat) = v:=⟨_,rfl⟩
  have w4:=word_ev s.nil s.l s.h (at_+4) (by omega) hs (at_:=(at_:Int)+4) (by omega)
  obtain ⟨y0,p4⟩:∃ v,add32 y (wordL s.l (at_+4):Nat) = v:=⟨_,rfl⟩
  have w8:=word_ev s.nil s.l s.h (at_+8) (by omega) hs (at_:=(at_:Int)+8) (by omega)
  obtain ⟨z0,p8⟩:∃ v,add32 z (wordL s.l (at_+8):Nat) = v:=⟨_,rfl⟩
  have ha:addT (s.l.drop at_) (x,y,z) = (x0,y0,z0):=by simp only [addT,wordL_drop,p0,p4,p8]
  have c0:IntKind.u32.wrap (x+(wordL s.l (at_+0):Nat)) = x0:=p0
  generalize wordL s.l (at_+0) = u0 at *
  have c4:IntKind.u32.wrap (y+(wordL s.l (at_+4):Nat)) = y0:=p4
  generalize wordL s.l (at_+4) = u4 at *
  have c8:IntKind.u32.wrap (z+(wordL s.l (at_+8):Nat)) = z0:=p8
  generalize wordL s.l (at_+8) = u8 at *
  clear p0 p4 p8
  have i4:IntKind.i64.wrap ((at_:Int)+4) = (at_:Int)+4:=by rw [wrap_i64] <;> omega
  have i8:IntKind.i64.wrap ((at_:Int)+8) = (at_:Int)+8:=by rw [wrap_i64] <;> omega
  obtain ⟨a1,h1⟩:∃ v,xorI .u32 z0 y0 = v:=⟨_,rfl⟩
  obtain ⟨r0,q0⟩:∃ v,rolI y0 14 = v:=⟨_,rfl⟩
  have e1:=turn_at (by omega) q0 (kk:=14) rfl
  obtain ⟨z1,f0⟩:∃ v,sub32 a1 r0 = v:=⟨_,rfl⟩
  have d0:IntKind.u32.wrap (a1 - r0) = z1:=f0
  have h2:sub32 a1 (rolI y0 14) = z1:=by rw [q0];exact f0
  obtain ⟨a2,h3⟩:∃ v,xorI .u32 x0 z1 = v:=⟨_,rfl⟩
  obtain ⟨r1,q1⟩:∃ v,rolI z1 11 = v:=⟨_,rfl⟩
  have e3:=turn_at (by omega) q1 (kk:=11) rfl
  obtain ⟨x1,f1⟩:∃ v,sub32 a2 r1 = v:=⟨_,rfl⟩
  have d1:IntKind.u32.wrap (a2 - r1) = x1:=f1
  have h4:sub32 a2 (rolI z1 11) = x1:=by rw [q1];exact f1
  obtain ⟨a3,h5⟩:∃ v,xorI .u32 y0 x1 = v:=⟨_,rfl⟩
  obtain ⟨r2,q2⟩:∃ v,rolI x1 25 = v:=⟨_,rfl⟩
  have e5:=turn_at (by omega) q2 (kk:=25) rfl
  obtain ⟨y1,f2⟩:∃ v,sub32 a3 r2 = v:=⟨_,rfl⟩
  have d2:IntKind.u32.wrap (a3 - r2) = y1:=f2
  have h6:sub32 a3 (rolI x1 25) = y1:=by rw [q2];exact f2
  obtain ⟨a4,h7⟩:∃ v,xorI .u32 z1 y1 = v:=⟨_,rfl⟩
  obtain ⟨r3,q3⟩:∃ v,rolI y1 16 = v:=⟨_,rfl⟩
  have e7:=turn_at (by omega) q3 (kk:=16) rfl
  obtain ⟨z2,f3⟩:∃ v,sub32 a4 r3 = v:=⟨_,rfl⟩
  have d3:IntKind.u32.wrap (a4 - r3) = z2:=f3
  have h8:sub32 a4 (rolI y1 16) = z2:=by rw [q3];exact f3
  obtain ⟨a5,g1⟩:∃ v,xorI .u32 x1 z2 = v:=⟨_,rfl⟩
  obtain ⟨r4,q4⟩:∃ v,rolI z2 4 = v:=⟨_,rfl⟩
  have e9:=turn_at (by omega) q4 (kk:=4) rfl
  obtain ⟨x2,f4⟩:∃ v,sub32 a5 r4 = v:=⟨_,rfl⟩
  have d4:IntKind.u32.wrap (a5 - r4) = x2:=f4
  have g2:sub32 a5 (rolI z2 4) = x2:=by rw [q4];exact f4
  obtain ⟨a6,g3⟩:∃ v,xorI .u32 y1 x2 = v:=⟨_,rfl⟩
  obtain ⟨r5,q5⟩:∃ v,rolI x2 14 = v:=⟨_,rfl⟩
  have e11:=turn_at (by omega) q5 (kk:=14) rfl
  obtain ⟨y2,f5⟩:∃ v,sub32 a6 r5 = v:=⟨_,rfl⟩
  have d5:IntKind.u32.wrap (a6 - r5) = y2:=f5
  have g4:sub32 a6 (rolI x2 14) = y2:=by rw [q5];exact f5
  obtain ⟨a7,g5⟩:∃ v,xorI .u32 z2 y2 = v:=⟨_,rfl⟩
  obtain ⟨r6,q6⟩:∃ v,rolI y2 24 = v:=⟨_,rfl⟩
  have e13:=turn_at (by omega) q6 (kk:=24) rfl
  obtain ⟨z3,f6⟩:∃ v,sub32 a7 r6 = v:=⟨_,rfl⟩
  have d6:IntKind.u32.wrap (a7 - r6) = z3:=f6
  have g6:sub32 a7 (rolI y2 24) = z3:=by rw [q6];exact f6
  have hn:=fin_at h1 h2 h3 h4 h5 h6 h7 h8 g1 g2 g3 g4 g5 g6
  clear g6 g4 g2 h8 h6 h4 h2 f0 q0 f1 q1 f2 q2 f3 q3 f4 q4 f5 q5 f6 q6
  rw [lookR_end (by omega) (by omega) (x:=x2) (y:=y2) (z:=z3) (by rw [ha];exact hn)] at hR
  subst hR
  clear ha hn
  generalize hjj:s.l.length - at_ = j at *
  simp [k0,k3,k4,k5,k6,hsub,h12',outT,hp64,w0,w4,w8,c0,c4,c8,i4,i8,h1,e1,d0,h3,e3,d1,h5,e5,d2,h7,e7,d3,g1,e9,d4,g3,e11,d5,g5,e13,d6]
end Go.Ev.S
namespace Go.Ev.S
end Go.Ev.S
namespace Go.Ev.S
open Go Go.Proofs Go.Ev
end Go.Ev.S
namespace Go.Ev
open Go Go.Proofs
def fxN:Nat→Nat→List UInt8
 | 0,_=>[]
 | n+1,v=>fxN n (v / 16) ++ [hexc (v % 16)]
theorem fxN_len:∀ (n v:Nat),(fxN n v).length = n
 | 0,_=>rfl
 | n+1,v=>by rw [fxN,List.length_append,fxN_len n];rfl
theorem fxN_zero:∀ (n:Nat),fxN n 0 = List.replicate n 48
 | 0=>rfl
 | n+1=>by
  rw [fxN,Nat.zero_div,fxN_zero n,Nat.zero_mod]
  have:hexc 0 = 48:=by decide
  rw [this,List.replicate_succ']
theorem fxN_hexF:∀ (f n v:Nat),v < 16 ^ f→1≤f→f≤n→List.replicate (n - (hexF f v).length) 48 ++ hexF f v = fxN n v
 | 0,_,_,_,h,_=>by omega
 | f+1,0,_,_,_,h=>by omega
 | f+1,n+1,v,h,_,hn=>by
  rw [hexF,fxN]
  by_cases hv:v < 16
  ·rw [if_pos hv,show v / 16 = 0 by omega,fxN_zero,Nat.mod_eq_of_lt hv]
   rfl
  ·rw [if_neg hv]
   have hf:1≤f:=by
    rcases f with _ | f
    ·simp at h;omega
    ·omega
   have ih:=fxN_hexF f n (v / 16) (by rw [Nat.pow_succ] at h;omega) hf (by omega)
   have hl:n+1 - (hexF f (v / 16) ++ [hexc (v % 16)]).length = n - (hexF f (v / 16)).length:=by
    rw [List.length_append]
    simp
   rw [hl,← List.append_assoc,ih]
theorem fixed_fxN {v:Nat} (h:v < 18446744073709551616):fixed v = fxN 16 v:=fxN_hexF 16 16 v (by omega) (by omega) (by omega)
def strip0:List UInt8→List UInt8
 | []=>[]
 | [c]=>[c]
 | c :: d :: l=>if c = 48 then strip0 (d :: l) else c :: d :: l
theorem hexF_head:∀ (f v:Nat),v < 16 ^ f→1≤f→∃ k l,hexF f v = hexc k :: l∧k < 16∧(k = 0→l = [])
 | 0,_,_,h=>by omega
 | f+1,v,h,_=>by
  rw [hexF]
  by_cases hv:v < 16
  ·rw [if_pos hv]
   exact ⟨v,[],rfl,hv,fun _=>rfl⟩
  ·rw [if_neg hv]
   have hf:1≤f:=by
    rcases f with _ | f
    ·simp at h;omega
    ·omega
   obtain ⟨k,l,e,hk,h0⟩:=hexF_head f (v / 16) (by rw [Nat.pow_succ] at h;omega) hf
   refine ⟨k,l ++ [hexc (v % 16)],by rw [e];rfl,hk,fun hk0=>?_⟩
   exfalso
   have hl:=h0 hk0
   rw [hl,hk0] at e
   have:∀ (f w:Nat),1≤f→hexF f w = [hexc 0]→w = 0∨16≤w∨0 < w:=by intro _ w _ _;omega
   have h16:1≤v / 16:=by omega
   have hz:∀ (f w:Nat),1≤w→w < 16 ^ f→hexF f w≠[hexc 0]:=by
    intro f w hw hlt
    rcases f with _ | f
    ·simp at hlt;omega
    ·rw [hexF]
     by_cases hw16:w < 16
     ·rw [if_pos hw16]
      intro e
      have e1:=List.head_eq_of_cons_eq e
      have hinj:∀ a,a < 16→hexc a = hexc 0→a = 0:=by decide
      exact absurd (hinj w hw16 e1) (by omega)
     ·rw [if_neg hw16]
      intro e
      have e1:=congrArg List.length e
      simp at e1
      have hp:0 < (hexF f (w / 16)).length:=by
       rcases f with _ | f
       ·simp at hlt;omega
       ·rw [hexF];split <;> simp
      rw [e1] at hp
      simp at hp
   exact hz f (v / 16) h16 (by rw [Nat.pow_succ] at h;omega) e
theorem strip0_rep {l:List UInt8} (h:l≠[]):∀ n,strip0 (List.replicate n 48 ++ l) = strip0 l
 | 0=>rfl
 | n+1=>by
  have ih:=strip0_rep h n
  rw [List.replicate_succ,List.cons_append]
  cases hq:List.replicate n (48:UInt8) ++ l with
  | nil=>simp at hq;exact absurd hq.2 h
  | cons d r =>
   rw [hq] at ih
   rw [strip0,if_pos rfl,ih]
theorem strip0_fixed {v:Nat} (h:v < 18446744073709551616):strip0 (fxN 16 v) = hx v:=by
 rw [← fixed_fxN h]
 unfold fixed
 have hp:=hx_pos v
 rw [strip0_rep (by intro e;rw [e] at hp;simp at hp)]
 obtain ⟨k,l,e,hk,h0⟩:=hexF_head 16 v (by omega) (by omega)
 have e':hx v = hexc k :: l:=e
 rw [e']
 cases l with
 | nil=>rfl
 | cons d r =>
  rw [strip0,if_neg]
  intro hc
  have hinj:∀ a,a < 16→hexc a = 48→a = 0:=by decide
  have:=h0 (hinj k hk hc)
  cases this
end Go.Ev
namespace Go.Ev.S
open Go Go.Proofs Go.Ev
theorem dig_cut (k:Nat) (h:k < 16):List.take 1 (List.drop k digL) = [hexc k]:=by
 have:∀ k,k < 16→List.take 1 (List.drop k digL) = [hexc k]:=by decide
 exact this k h
set_option maxHeartbeats 2000000 in
theorem rhex_ev [TxtC] (l:List UInt8) (hl:l.length = 16):call cx 42 [.agg (ofBytes l)] [] = some (.str (hexs l),[]):=by
 refine call_run Tryz.func42 rfl ⟨rfl,rfl⟩ ?_
 simp [Tryz.f42,hl]
 refine Run.loopThen (fun (k:Nat) e H'=>k≤16∧look e 1 = some (.optr 0 16 0)∧look e 3 = some (.str (hexs (l.take k)))∧look e 4 = some (.int .i64 k)∧H' = [some (ofBytes l)]) (fun k=>16 - k) 0 ?_ ?_
 ·simp [hexs]
 rintro k e H' ⟨hk,k1,k3,k4,rfl⟩
 by_cases hlt:k < 16
 ·have hlt':(k:Int) < 16:=by omega
  have hkl:k < l.length:=by omega
  have hw:IntKind.i64.wrap ((k:Int)+1) = ((k+1:Nat):Int):=by rw [wrap_i64] <;> omega
  have hat:=ofBytes_at hkl
  have hsn:=hexs_take hkl
  have hb:=l[k].toNat_lt
  have hlen:(hexs (l.take k)).length = 2 * k:=by rw [hexs_len,List.length_take];omega
  generalize l[k] = b at *
  have d1:=dig_cut (b.toNat / 16) (by omega)
  have d2:=dig_cut (b.toNat % 16) (by omega)
  generalize hexc (b.toNat / 16) = c1 at *
  generalize hexc (b.toNat % 16) = c2 at *
  obtain ⟨m1,hm1⟩:∃ m,m = b.toNat / 16:=⟨_,rfl⟩
  obtain ⟨m2,hm2⟩:∃ m,m = b.toNat % 16:=⟨_,rfl⟩
  rw [← hm1] at d1
  rw [← hm2] at d2
  have q1:IntKind.u8.wrap ((b.toNat:Int) / 16) = (m1:Int):=by rw [wrap_u8] <;> omega
  have q2:(b.toNat:Int).tmod 16 = (m2:Int):=by rw [hm2];exact (Int.ofNat_tmod b.toNat 16).symm
  have w1:IntKind.u8.wrap ((m1:Int)+1) = ((m1+1:Nat):Int):=by rw [wrap_u8] <;> omega
  have w2:IntKind.u8.wrap ((m2:Int)+1) = ((m2+1:Nat):Int):=by rw [wrap_u8] <;> omega
  have t1:m1≤15:=by omega
  have t2:m2≤15:=by omega
  have n1:((m1:Int)+1).toNat = m1+1:=by omega
  have n2:((m2:Int)+1).toNat = m2+1:=by omega
  have u1:(m1:Int)+1≤16:=by omega
  have u2:(m2:Int)+1≤16:=by omega
  have v1:(0:Int)≤(m1:Int)+1:=by omega
  have v2:(0:Int)≤(m2:Int)+1:=by omega
  have y1:(m1:Int)≤(m1:Int)+1:=by omega
  have y2:(m2:Int)≤(m2:Int)+1:=by omega
  simp only [digL] at d1 d2
  generalize hexs (l.take k) = X at *
  have x1:X.length+1≤4611686018427387904:=by omega
  have x2:X.length+1+1≤4611686018427387904:=by omega
  simp [k1,k3,k4,hlt',hw,hat,hl,q1,q2,w1,w2,d1,d2,n1,n2,u1,u2,v1,v2,x1,x2,y1,y2]
  exact ⟨k+1,by omega,by omega,by rw [hsn],by omega⟩
 ·have hlt':¬ (k:Int) < 16:=by omega
  have hke:k = 16:=by omega
  subst hke
  have htk:l.take 16 = l:=List.take_of_length_le (by omega)
  rw [htk] at k3
  simp [k1,k3,k4]
end Go.Ev.S
namespace Go.Ev.S
open Go Go.Proofs Go.Ev
set_option maxHeartbeats 2000000 in
theorem rfixed_ev [TxtC] (v:Nat) (hv:v < 18446744073709551616):call cx 98 [.int .u64 v] [] = some (.str (fxN 16 v),[]):=by
 refine call_run Tryz.func98 rfl ⟨rfl,rfl⟩ ?_
 obtain ⟨r,hr⟩:∃ r,fxN 16 v = r:=⟨_,rfl⟩
 rw [hr]
 simp [Tryz.f98]
 refine Run.loopThen (fun (q:Nat × Nat × List UInt8) e H'=>q.1≤16∧q.2.1 < 18446744073709551616∧q.2.2.length = q.1∧fxN (16 - q.1) q.2.1 ++ q.2.2 = r∧look e 0 = some (.int .u64 (q.2.1:Nat))∧look e 3 = some (.str q.2.2)∧look e 4 = some (.int .i64 (q.1:Nat))∧H' = []) (fun q=>16 - q.1) (0,v,[]) ?_ ?_
 ·simp [hr,hv]
 rintro ⟨k,u,w⟩ e H' ⟨hk,hu,hwl,hR,k0,k3,k4,rfl⟩
 simp only at hk hu hwl hR k0 k3 k4
 by_cases hlt:k < 16
 ·have hlt':(k:Int) < 16:=by omega
  have hw:IntKind.i64.wrap ((k:Int)+1) = ((k+1:Nat):Int):=by rw [wrap_i64] <;> omega
  obtain ⟨m,hm⟩:∃ m,16 - k = m+1:=⟨15 - k,by omega⟩
  rw [hm,fxN] at hR
  have d1:=dig_cut (u % 16) (by omega)
  generalize hexc (u % 16) = c1 at *
  obtain ⟨m1,hm1⟩:∃ m1,m1 = u % 16:=⟨_,rfl⟩
  rw [← hm1] at d1
  have q2:(u:Int).tmod 16 = (m1:Int):=by rw [hm1];exact (Int.ofNat_tmod u 16).symm
  obtain ⟨u',hu'⟩:∃ u',u' = u / 16:=⟨_,rfl⟩
  rw [← hu'] at hR
  have q1:IntKind.u64.wrap ((u:Int) / 16) = (u':Int):=by rw [wrap_u64] <;> omega
  have w1:IntKind.u64.wrap ((m1:Int)+1) = (m1:Int)+1:=by rw [wrap_u64];omega
  have t1:m1≤15:=by omega
  have n1:((m1:Int)+1).toNat = m1+1:=by omega
  have u1:(m1:Int)+1≤16:=by omega
  have v1:(0:Int)≤(m1:Int)+1:=by omega
  have y1:(m1:Int)≤(m1:Int)+1:=by omega
  have x1:1+w.length≤4611686018427387904:=by omega
  have x2:w.length+1≤4611686018427387904:=by omega
  simp only [digL] at d1
  simp [k0,k3,k4,hlt',hw,q1,q2,w1,d1,n1,u1,v1,y1,x1]
  exact ⟨k+1,by omega,by omega,u',by omega,c1 :: w,by simp [hwl],by rw [show 16 - (k+1) = m by omega,← hR];simp,rfl,rfl,by omega⟩
 ·have hlt':¬ (k:Int) < 16:=by omega
  have hke:k = 16:=by omega
  subst hke
  simp only [Nat.sub_self,fxN,List.nil_append] at hR
  subst hR
  simp [k0,k3,k4]
theorem rsmall_ev [TxtC] (v:Nat) (hv:v < 18446744073709551616):call cx 75 [.int .u64 v] [] = some (.str (hx v),[]):=by
 have h:=rfixed_ev v hv
 have hr:=strip0_fixed hv
 have hl:=fxN_len 16 v
 generalize hx v = r at *
 generalize fxN 16 v = s at *
 refine call_run Tryz.func75 rfl ⟨rfl,rfl⟩ ?_
 simp [Tryz.f75,h]
 refine Run.loopThen (fun (w:List UInt8) e H'=>strip0 w = r∧look e 3 = some (.str w)∧H' = []) (fun w=>w.length) s ?_ ?_
 ·simp [hr]
 rintro w e H' ⟨hR,k3,rfl⟩
 match w,hR,k3 with
 | [],hR,k3 =>
  rw [strip0] at hR
  subst hR
  simp [k3]
 | [c],hR,k3 =>
  rw [strip0] at hR
  subst hR
  simp [k3]
 | c :: d :: l,hR,k3 =>
  rw [strip0] at hR
  have hl1:(1:Int) < (l.length:Int)+1+1:=by omega
  by_cases hc:c = 48
  ·rw [if_pos hc] at hR
   subst hc
   have hl2:(1:Int)≤(l.length:Int)+1+1:=by omega
   simp [k3,hl1,hl2]
   exact hR
  ·rw [if_neg hc] at hR
   subst hR
   have hc2:¬ (c.toNat:Int) = 48:=by
    intro h
    exact hc (UInt8.toNat.inj (by show c.toNat = 48;omega))
   simp [k3,hl1,hc2]
set_option maxHeartbeats 2000000 in
theorem rshow_ev [TxtC] (c:Cur) (h:CurOk c):call cx 43 [.agg (Enc.cells c)] [] = some (.str (showL c),[]):=by
 obtain ⟨w1,w2,w3,w4⟩:=h
 unfold isU64 at w1 w2 w3 w4
 have e1:((c.n.toNat:Nat):Int) = c.n:=by omega
 have e2:((c.mono.toNat:Nat):Int) = c.mono:=by omega
 have e3:((c.real.toNat:Nat):Int) = c.real:=by omega
 have e4:((c.xor.toNat:Nat):Int) = c.xor:=by omega
 have h1:=rhex_ev c.seq.l c.seq.h
 have h2:=rsmall_ev c.n.toNat (by omega)
 have h3:=rhex_ev c.boot.l c.boot.h
 have h4:=rsmall_ev c.mono.toNat (by omega)
 have h5:=rsmall_ev c.real.toNat (by omega)
 have h6:=rsmall_ev c.xor.toNat (by omega)
 rw [e1] at h2
 rw [e2] at h4
 rw [e3] at h5
 rw [e4] at h6
 have l1:=hexs_len c.seq.l
 have l2:=hx_len c.n.toNat
 have l3:=hexs_len c.boot.l
 have l4:=hx_len c.mono.toNat
 have l5:=hx_len c.real.toNat
 have l6:=hx_len c.xor.toNat
 rw [c.seq.h] at l1
 rw [c.boot.h] at l3
 unfold showL
 generalize hexs c.seq.l = a1 at *
 generalize hx c.n.toNat = a2 at *
 generalize hexs c.boot.l = a3 at *
 generalize hx c.mono.toNat = a4 at *
 generalize hx c.real.toNat = a5 at *
 generalize hx c.xor.toNat = a6 at *
 clear e1 e2 e3 e4 w1 w2 w3 w4
 obtain ⟨s1,es1⟩:∃ s,s = kS ++ a1:=⟨_,rfl⟩
 have ls1:s1.length = kS.length+a1.length:=by rw [es1,List.length_append]
 obtain ⟨s2,es2⟩:∃ s,s = s1 ++ kI:=⟨_,rfl⟩
 have ls2:s2.length = s1.length+kI.length:=by rw [es2,List.length_append]
 obtain ⟨s3,es3⟩:∃ s,s = s2 ++ a2:=⟨_,rfl⟩
 have ls3:s3.length = s2.length+a2.length:=by rw [es3,List.length_append]
 obtain ⟨s4,es4⟩:∃ s,s = s3 ++ kB:=⟨_,rfl⟩
 have ls4:s4.length = s3.length+kB.length:=by rw [es4,List.length_append]
 obtain ⟨s5,es5⟩:∃ s,s = s4 ++ a3:=⟨_,rfl⟩
 have ls5:s5.length = s4.length+a3.length:=by rw [es5,List.length_append]
 obtain ⟨s6,es6⟩:∃ s,s = s5 ++ kM:=⟨_,rfl⟩
 have ls6:s6.length = s5.length+kM.length:=by rw [es6,List.length_append]
 obtain ⟨s7,es7⟩:∃ s,s = s6 ++ a4:=⟨_,rfl⟩
 have ls7:s7.length = s6.length+a4.length:=by rw [es7,List.length_append]
 obtain ⟨s8,es8⟩:∃ s,s = s7 ++ kT:=⟨_,rfl⟩
 have ls8:s8.length = s7.length+kT.length:=by rw [es8,List.length_append]
 obtain ⟨s9,es9⟩:∃ s,s = s8 ++ a5:=⟨_,rfl⟩
 have ls9:s9.length = s8.length+a5.length:=by rw [es9,List.length_append]
 obtain ⟨s10,es10⟩:∃ s,s = s9 ++ kX:=⟨_,rfl⟩
 have ls10:s10.length = s9.length+kX.length:=by rw [es10,List.length_append]
 obtain ⟨s11,es11⟩:∃ s,s = s10 ++ a6:=⟨_,rfl⟩
 have ls11:s11.length = s10.length+a6.length:=by rw [es11,List.length_append]
 simp only [kS,kI,kB,kM,kT,kX,List.length_cons,List.length_nil] at ls1 ls2 ls3 ls4 ls5 ls6 ls7 ls8 ls9 ls10 ls11
 have cs1:=cat_of es1 (by (try simp only [kS,List.length_cons,List.length_nil]);omega)
 have cs2:=cat_of es2 (by (try simp only [kI,List.length_cons,List.length_nil]);omega)
 have cs3:=cat_of es3 (by (try simp only [kS,kI,kB,kM,kT,kX,List.length_cons,List.length_nil]);omega)
 have cs4:=cat_of es4 (by (try simp only [kB,List.length_cons,List.length_nil]);omega)
 have cs5:=cat_of es5 (by (try simp only [kS,kI,kB,kM,kT,kX,List.length_cons,List.length_nil]);omega)
 have cs6:=cat_of es6 (by (try simp only [kM,List.length_cons,List.length_nil]);omega)
 have cs7:=cat_of es7 (by (try simp only [kS,kI,kB,kM,kT,kX,List.length_cons,List.length_nil]);omega)
 have cs8:=cat_of es8 (by (try simp only [kT,List.length_cons,List.length_nil]);omega)
 have cs9:=cat_of es9 (by (try simp only [kS,kI,kB,kM,kT,kX,List.length_cons,List.length_nil]);omega)
 have cs10:=cat_of es10 (by (try simp only [kX,List.length_cons,List.length_nil]);omega)
 have cs11:=cat_of es11 (by (try simp only [kS,kI,kB,kM,kT,kX,List.length_cons,List.length_nil]);omega)
 simp only [kS,kI,kB,kM,kT,kX] at cs1 cs2 cs3 cs4 cs5 cs6 cs7 cs8 cs9 cs10 cs11
 have hfin:kS ++ (a1 ++ (kI ++ (a2 ++ (kB ++ (a3 ++ (kM ++ (a4 ++ (kT ++ (a5 ++ (kX ++ a6)))))))))) = s11:=by
  simp [es11,es10,es9,es8,es7,es6,es5,es4,es3,es2,es1]
 rw [hfin]
 clear hfin es1 es2 es3 es4 es5 es6 es7 es8 es9 es10 es11 ls1 ls2 ls3 ls4 ls5 ls6 ls7 ls8 ls9 ls10 ls11 l1 l2 l3 l4 l5 l6
 refine call_run Tryz.func43 rfl ⟨rfl,rfl⟩ ?_
 simp [Tryz.f43,h1,h2,h3,h4,h5,h6,-strD,cs1,cs2,cs3,cs4,cs5,cs6,cs7,cs8,cs9,cs10,cs11]
end Go.Ev.S
