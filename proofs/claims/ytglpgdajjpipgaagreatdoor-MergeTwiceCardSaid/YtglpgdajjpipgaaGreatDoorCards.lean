/-
  DERIVED. GIVEN WITH THE SEED: THE CARDS: each row of YtglpgdajjpipgaaGreatDoorRows.lean that lists a variable, with what it lists TIED to the program's text (the seventh form; the later family's looks); each row that meets fmt, with fmt's text TOLD by the authors' own Lean function (tested against real Go, not proved from fmt's source: count such statements apart). THE CARD IS WHAT COUNTS. Prove the row's statement (the work); the ties are given (YtglpgdajjpipgaaGreatDoorTie.lean); close each card by the builder's one call (the guide's Derived/Test/ToyasCard.lean, 'card_holds'). Laid BY PROGRAM, IN A SANDBOX (cutbox-door.mjs). By AI agents, Wed Nov 11 2026. No macro, syntax, notation, axiom, sorry.
-/
import Derived.Test.YtglpgdajjpipgaaGreatDoorRows
import GoSem.ClaimSeven
namespace Go.Proofs.YtglpgdajjpipgaaGreatDoor
namespace Rows

/-- THE TIED CARD OF 'diurnallaw23.MergeWhole'. -/
def mergeWholeCard : Claim7 := { stood := { row := mergeWholeRow, standIns := [], harness := (true, "f50d624c20eddaab1e45cdf946a5e8061b9ec9f5054759f1783e1b5927c6b470"), looks := true }, kinds := [], alts := [], laidByText := true, laidKinds := [.data, .data, .data, .data, .sentinel, .sentinel, .pinned], laidTests := true, laidLooks := .later }
def MergeWholeCardSaid : Prop := Claim7.holds Tryz.pinned (.plain (OpenSpec.ofChange mergeWholeSpec)) mergeWholeCard

/-- THE TIED CARD OF 'diurnallaw23.MergeTwice'. -/
def mergeTwiceCard : Claim7 := { stood := { row := mergeTwiceRow, standIns := [], harness := (true, "f50d624c20eddaab1e45cdf946a5e8061b9ec9f5054759f1783e1b5927c6b470"), looks := true }, kinds := [], alts := [], laidByText := true, laidKinds := [.data, .data, .data, .data, .sentinel, .sentinel, .pinned], laidTests := true, laidLooks := .later }
def MergeTwiceCardSaid : Prop := Claim7.holds Tryz.pinned (.plain (OpenSpec.ofChange mergeTwiceSpec)) mergeTwiceCard

/-- THE SECOND FORM's CARD OF 'diurnallaw23.MergeWhole'. -/
def mergeWholeUptoCard : Claim7 := { stood := { row := mergeWholeUptoRow, standIns := [], harness := (true, "f50d624c20eddaab1e45cdf946a5e8061b9ec9f5054759f1783e1b5927c6b470"), looks := true }, kinds := [], alts := [], laidByText := true, laidKinds := [.data, .data, .data, .data, .sentinel, .sentinel, .pinned], laidTests := true, laidLooks := .later }
def MergeWholeUptoCardSaid : Prop := Claim7.holds Tryz.pinned (.plain (OpenSpec.upto mergeWholeSpec)) mergeWholeUptoCard

/-- THE SECOND FORM's CARD OF 'diurnallaw23.MergeTwice'. -/
def mergeTwiceUptoCard : Claim7 := { stood := { row := mergeTwiceUptoRow, standIns := [], harness := (true, "f50d624c20eddaab1e45cdf946a5e8061b9ec9f5054759f1783e1b5927c6b470"), looks := true }, kinds := [], alts := [], laidByText := true, laidKinds := [.data, .data, .data, .data, .sentinel, .sentinel, .pinned], laidTests := true, laidLooks := .later }
def MergeTwiceUptoCardSaid : Prop := Claim7.holds Tryz.pinned (.plain (OpenSpec.upto mergeTwiceSpec)) mergeTwiceUptoCard
end Rows
end Go.Proofs.YtglpgdajjpipgaaGreatDoor
