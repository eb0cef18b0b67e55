/-
  No cell of these rows narrows 'for every input' (looked for: loops, veiled, ifaces, maps, wideKeys, modest, calm, conditions, laid).
  DERIVED. THE GIVEN ROWS OF THIS SEAT. 4 by the template 'for every input the law returns true; each argument reads behind the call as it read before'; 0 by the template 'total and deterministic' (their statements: YtaponndjgdfkbaaTotals.lean).
  GIVEN WITH THE SEED: the statements are not yours to turn. If you find one false, say at which input.
  Laid BY PROGRAM, IN A SANDBOX (cutbox-rows.mjs): the forced cells as the released guide's own fill.sh prints them over the translation e230bd9f2cea646a… (all of the seat's roots in one cut). By AI agents, Wed Nov 11 2026. No macro, syntax, notation, axiom, sorry.
-/
import Derived.Test.YtaponndjgdfkbaaChecked
import GoSem.Claim
import GoSem.ClaimJoined
import GoSem.ClaimMapViews
import Derived.JoinedTies
import Derived.KernelRfl
namespace Go.Proofs.Ytaponndjgdfkbaa
/- THE CELL 'sum', in the pinned program and in every row, IS THE sha256 OF THE DUMP (.gsa) THAT YtaponndjgdfkbaaProg.lean LOADS. Nothing in Lean hashes anything: it is a label: what it is worth is what the hold of that sum in a sandbox is worth. -/
noncomputable def Try.pinned : Pinned := { name := "ytaponndjgdfkbaa", sum := "e230bd9f2cea646a0babc99a7bf56234652ef97fcf94abdf3788b4068f4ac36b", checked := Try.checked }
namespace Rows
def none {H : Type} : Left H := { results := [], args := [] }

/-- 'diurnallaw20.MarksTake': WHATEVER THE INPUT: true; the input reads as it did. -/
def marksTakeSpec : ChangeSpec := { name := "marksTake", fn := fun _ => fun
  | [d1, d2] => { results := [.lit (.bool true)], args := [d1, d2] }
  | _ => none }
def marksTakeRow : OpenClaim := { program := "ytaponndjgdfkbaa", sum := "e230bd9f2cea646a0babc99a7bf56234652ef97fcf94abdf3788b4068f4ac36b", func := "diurnal/diurnallaw20.MarksTake", spec := "marksTake", inPlace := ["internal/bytealg.Compare"], unfollowed := true, recurses := true, apart := false }
def MarksTakeSaid : Prop := marksTakeRow.holds Try.pinned (OpenSpec.ofChange marksTakeSpec)

/-- ITS FALSE NEIGHBOUR: 'it returns false'. Refute it at one input. -/
def marksTakeWrong : ChangeSpec := { name := "marksTake", fn := fun _ => fun
  | [d1, d2] => { results := [.lit (.bool false)], args := [d1, d2] }
  | _ => none }
def MarksTakeWrongFalsely : Prop := marksTakeRow.holds Try.pinned (OpenSpec.ofChange marksTakeWrong)

/-- 'diurnallaw20.MarksMax': WHATEVER THE INPUT: true; the input reads as it did. -/
def marksMaxSpec : ChangeSpec := { name := "marksMax", fn := fun _ => fun
  | [d1, d2] => { results := [.lit (.bool true)], args := [d1, d2] }
  | _ => none }
def marksMaxRow : OpenClaim := { program := "ytaponndjgdfkbaa", sum := "e230bd9f2cea646a0babc99a7bf56234652ef97fcf94abdf3788b4068f4ac36b", func := "diurnal/diurnallaw20.MarksMax", spec := "marksMax", inPlace := ["internal/bytealg.Compare"], unfollowed := true, recurses := true, apart := false }
def MarksMaxSaid : Prop := marksMaxRow.holds Try.pinned (OpenSpec.ofChange marksMaxSpec)

/-- ITS FALSE NEIGHBOUR: 'it returns false'. Refute it at one input. -/
def marksMaxWrong : ChangeSpec := { name := "marksMax", fn := fun _ => fun
  | [d1, d2] => { results := [.lit (.bool false)], args := [d1, d2] }
  | _ => none }
def MarksMaxWrongFalsely : Prop := marksMaxRow.holds Try.pinned (OpenSpec.ofChange marksMaxWrong)

/-- 'diurnallaw20.MarksBack': WHATEVER THE INPUT: true; the input reads as it did. -/
def marksBackSpec : ChangeSpec := { name := "marksBack", fn := fun _ => fun
  | [d1, d2, d3] => { results := [.lit (.bool true)], args := [d1, d2, d3] }
  | _ => none }
def marksBackRow : OpenClaim := { program := "ytaponndjgdfkbaa", sum := "e230bd9f2cea646a0babc99a7bf56234652ef97fcf94abdf3788b4068f4ac36b", func := "diurnal/diurnallaw20.MarksBack", spec := "marksBack", inPlace := ["internal/bytealg.Compare"], unfollowed := true, recurses := true, apart := false }
def MarksBackSaid : Prop := marksBackRow.holds Try.pinned (OpenSpec.ofChange marksBackSpec)

/-- ITS FALSE NEIGHBOUR: 'it returns false'. Refute it at one input. -/
def marksBackWrong : ChangeSpec := { name := "marksBack", fn := fun _ => fun
  | [d1, d2, d3] => { results := [.lit (.bool false)], args := [d1, d2, d3] }
  | _ => none }
def MarksBackWrongFalsely : Prop := marksBackRow.holds Try.pinned (OpenSpec.ofChange marksBackWrong)

/-- 'diurnallaw20.MarksSay': WHATEVER THE INPUT: true; the input reads as it did. -/
def marksSaySpec : ChangeSpec := { name := "marksSay", fn := fun _ => fun
  | [d1, d2, d3, d4, d5, d6] => { results := [.lit (.bool true)], args := [d1, d2, d3, d4, d5, d6] }
  | _ => none }
def marksSayRow : OpenClaim := { program := "ytaponndjgdfkbaa", sum := "e230bd9f2cea646a0babc99a7bf56234652ef97fcf94abdf3788b4068f4ac36b", func := "diurnal/diurnallaw20.MarksSay", spec := "marksSay", inPlace := ["internal/bytealg.Compare"], unfollowed := true, recurses := true, apart := false }
def MarksSaySaid : Prop := marksSayRow.holds Try.pinned (OpenSpec.ofChange marksSaySpec)

/-- ITS FALSE NEIGHBOUR: 'it returns false'. Refute it at one input. -/
def marksSayWrong : ChangeSpec := { name := "marksSay", fn := fun _ => fun
  | [d1, d2, d3, d4, d5, d6] => { results := [.lit (.bool false)], args := [d1, d2, d3, d4, d5, d6] }
  | _ => none }
def MarksSayWrongFalsely : Prop := marksSayRow.holds Try.pinned (OpenSpec.ofChange marksSayWrong)

/- THE SECOND FORM. 'bulk': how many values and letters a reading holds, each counted each time it is reached (what is shared counts as often as it is met; a slice's spare places count too). A statement '..UptoSaid' is the law's where the arguments, and the package variables that the reading takes, are together of bulk at most 1048576: NARROWER than '..Said'. Prove '..Said' where nothing that the law and all that it calls make is longer than what came in: it says more and counts as full. Else prove '..UptoSaid'. A law counts once. -/
mutual
def uptoBulk {H : Type} : DataW H → Nat
  | .lit (.string bytes) => bytes.length + 1
  | .lit _ => 1
  | .nil => 1
  | .ptr d => uptoBulk d + 1
  | .slice elems spare => uptoBulkAll elems + uptoBulkAll spare + 1
  | .agg parts => uptoBulkAll parts + 1
  | .iface _ d => uptoBulk d + 1
  | .map entries => uptoBulkEntries entries + 1
  | .held _ => 1
def uptoBulkAll {H : Type} : List (DataW H) → Nat
  | [] => 0
  | d :: r => uptoBulk d + uptoBulkAll r
def uptoBulkEntries {H : Type} : List (Lit × DataW H) → Nat
  | [] => 0
  | x :: r => uptoBulkEntry x + uptoBulkEntries r
def uptoBulkEntry {H : Type} : Lit × DataW H → Nat
  | (.string bytes, d) => bytes.length + uptoBulk d + 1
  | (_, d) => uptoBulk d + 1
 end
def uptoSmall : (H : Type) → List (DataW H) → Bool := fun _ ds => decide (uptoBulkAll ds ≤ 1048576)
def OpenSpec.upto (s : _root_.Go.ChangeSpec) : _root_.Go.OpenSpec := { _root_.Go.OpenSpec.ofChange s with cond := some uptoSmall }

/-- 'diurnallaw20.MarksTake', WHERE WHAT IT READS IS OF BULK AT MOST 1048576: true; the input reads as it did. -/
def marksTakeUptoRow : OpenClaim := { program := "ytaponndjgdfkbaa", sum := "e230bd9f2cea646a0babc99a7bf56234652ef97fcf94abdf3788b4068f4ac36b", func := "diurnal/diurnallaw20.MarksTake", spec := "marksTake", inPlace := ["internal/bytealg.Compare"], unfollowed := true, recurses := true, apart := false, narrowed := true }
def MarksTakeUptoSaid : Prop := marksTakeUptoRow.holds Try.pinned (OpenSpec.upto marksTakeSpec)

/-- 'diurnallaw20.MarksMax', WHERE WHAT IT READS IS OF BULK AT MOST 1048576: true; the input reads as it did. -/
def marksMaxUptoRow : OpenClaim := { program := "ytaponndjgdfkbaa", sum := "e230bd9f2cea646a0babc99a7bf56234652ef97fcf94abdf3788b4068f4ac36b", func := "diurnal/diurnallaw20.MarksMax", spec := "marksMax", inPlace := ["internal/bytealg.Compare"], unfollowed := true, recurses := true, apart := false, narrowed := true }
def MarksMaxUptoSaid : Prop := marksMaxUptoRow.holds Try.pinned (OpenSpec.upto marksMaxSpec)

/-- 'diurnallaw20.MarksBack', WHERE WHAT IT READS IS OF BULK AT MOST 1048576: true; the input reads as it did. -/
def marksBackUptoRow : OpenClaim := { program := "ytaponndjgdfkbaa", sum := "e230bd9f2cea646a0babc99a7bf56234652ef97fcf94abdf3788b4068f4ac36b", func := "diurnal/diurnallaw20.MarksBack", spec := "marksBack", inPlace := ["internal/bytealg.Compare"], unfollowed := true, recurses := true, apart := false, narrowed := true }
def MarksBackUptoSaid : Prop := marksBackUptoRow.holds Try.pinned (OpenSpec.upto marksBackSpec)

/-- 'diurnallaw20.MarksSay', WHERE WHAT IT READS IS OF BULK AT MOST 1048576: true; the input reads as it did. -/
def marksSayUptoRow : OpenClaim := { program := "ytaponndjgdfkbaa", sum := "e230bd9f2cea646a0babc99a7bf56234652ef97fcf94abdf3788b4068f4ac36b", func := "diurnal/diurnallaw20.MarksSay", spec := "marksSay", inPlace := ["internal/bytealg.Compare"], unfollowed := true, recurses := true, apart := false, narrowed := true }
def MarksSayUptoSaid : Prop := marksSayUptoRow.holds Try.pinned (OpenSpec.upto marksSaySpec)

end Rows
end Go.Proofs.Ytaponndjgdfkbaa
