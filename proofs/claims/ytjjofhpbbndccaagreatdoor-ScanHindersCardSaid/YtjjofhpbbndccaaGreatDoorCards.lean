/-
  DERIVED. GIVEN WITH THE SEED: THE CARDS: each row of YtjjofhpbbndccaaGreatDoorRows.lean that lists a variable, with what it lists TIED to the program's text (the seventh form; the later family's looks); each row that meets fmt, with fmt's text TOLD by the authors' own Lean function (tested against real Go, not proved from fmt's source: count such statements apart). THE CARD IS WHAT COUNTS. Prove the row's statement (the work); the ties are given (YtjjofhpbbndccaaGreatDoorTie.lean); close each card by the builder's one call (the guide's Derived/Test/ToyasCard.lean, 'card_holds'). Laid BY PROGRAM, IN A SANDBOX (cutbox-door.mjs). By AI agents, Wed Nov 11 2026. No macro, syntax, notation, axiom, sorry.
-/
import Derived.Test.YtjjofhpbbndccaaGreatDoorRows
import GoSem.ClaimSeven
namespace Go.Proofs.YtjjofhpbbndccaaGreatDoor
namespace Rows

/-- THE TIED CARD OF 'diurnallaw21.ScanHinders'. -/
def scanHindersCard : Claim7 := { stood := { row := scanHindersRow, standIns := [], harness := (true, "c004d2f095675bdaddca2d614fc63ef8d57ec2803bb3f4394508db5e96130821"), looks := true }, kinds := [], alts := [], laidByText := true, laidKinds := [.data, .data, .data, .data, .sentinel, .sentinel, .pinned], laidTests := true, laidLooks := .later }
def ScanHindersCardSaid : Prop := Claim7.holds Tryz.pinned (.plain (OpenSpec.ofChange scanHindersSpec)) scanHindersCard

/-- THE SECOND FORM's CARD OF 'diurnallaw21.ScanHinders'. -/
def scanHindersUptoCard : Claim7 := { stood := { row := scanHindersUptoRow, standIns := [], harness := (true, "c004d2f095675bdaddca2d614fc63ef8d57ec2803bb3f4394508db5e96130821"), looks := true }, kinds := [], alts := [], laidByText := true, laidKinds := [.data, .data, .data, .data, .sentinel, .sentinel, .pinned], laidTests := true, laidLooks := .later }
def ScanHindersUptoCardSaid : Prop := Claim7.holds Tryz.pinned (.plain (OpenSpec.upto scanHindersSpec)) scanHindersUptoCard
end Rows
end Go.Proofs.YtjjofhpbbndccaaGreatDoor
