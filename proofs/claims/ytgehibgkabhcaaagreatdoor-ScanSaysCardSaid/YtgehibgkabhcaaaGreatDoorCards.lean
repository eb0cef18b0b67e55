/-
  DERIVED. GIVEN WITH THE SEED: THE CARDS: each row of YtgehibgkabhcaaaGreatDoorRows.lean that lists a variable, with what it lists TIED to the program's text (the seventh form; the later family's looks); each row that meets fmt, with fmt's text TOLD by the authors' own Lean function (tested against real Go, not proved from fmt's source: count such statements apart). THE CARD IS WHAT COUNTS. Prove the row's statement (the work); the ties are given (YtgehibgkabhcaaaGreatDoorTie.lean); close each card by the builder's one call (the guide's Derived/Test/ToyasCard.lean, 'card_holds'). Laid BY PROGRAM, IN A SANDBOX (cutbox-door.mjs). By AI agents, Wed Nov 11 2026. No macro, syntax, notation, axiom, sorry.
-/
import Derived.Test.YtgehibgkabhcaaaGreatDoorRows
import GoSem.ClaimSeven
namespace Go.Proofs.YtgehibgkabhcaaaGreatDoor
namespace Rows

/-- THE TIED CARD OF 'diurnallaw21.ScanSays'. -/
def scanSaysCard : Claim7 := { stood := { row := scanSaysRow, standIns := [], harness := (true, "31fb7d2651b82c4a1ec56ee5530ed68e3e184f567e2da65a8a1951394ad4f2d1"), looks := true }, kinds := [], alts := [], laidByText := true, laidKinds := [.data, .data, .data, .data, .sentinel, .sentinel, .pinned], laidTests := true, laidLooks := .later }
def ScanSaysCardSaid : Prop := Claim7.holds Tryz.pinned (.plain (OpenSpec.ofChange scanSaysSpec)) scanSaysCard

/-- THE SECOND FORM's CARD OF 'diurnallaw21.ScanSays'. -/
def scanSaysUptoCard : Claim7 := { stood := { row := scanSaysUptoRow, standIns := [], harness := (true, "31fb7d2651b82c4a1ec56ee5530ed68e3e184f567e2da65a8a1951394ad4f2d1"), looks := true }, kinds := [], alts := [], laidByText := true, laidKinds := [.data, .data, .data, .data, .sentinel, .sentinel, .pinned], laidTests := true, laidLooks := .later }
def ScanSaysUptoCardSaid : Prop := Claim7.holds Tryz.pinned (.plain (OpenSpec.upto scanSaysSpec)) scanSaysUptoCard
end Rows
end Go.Proofs.YtgehibgkabhcaaaGreatDoor
