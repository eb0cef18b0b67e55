/-
  DERIVED. GIVEN WITH THE SEED: THE CARDS: each row of YtknidmbkmglfaaaGreatDoorRows.lean that lists a variable, with what it lists TIED to the program's text (the seventh form; the later family's looks); each row that meets fmt, with fmt's text TOLD by the authors' own Lean function (tested against real Go, not proved from fmt's source: count such statements apart). THE CARD IS WHAT COUNTS. Prove the row's statement (the work); the ties are given (YtknidmbkmglfaaaGreatDoorTie.lean); close each card by the builder's one call (the guide's Derived/Test/ToyasCard.lean, 'card_holds'). Laid BY PROGRAM, IN A SANDBOX (cutbox-door.mjs). By AI agents, Wed Nov 11 2026. No macro, syntax, notation, axiom, sorry.
-/
import Derived.Test.YtknidmbkmglfaaaGreatDoorRows
import GoSem.ClaimSeven
namespace Go.Proofs.YtknidmbkmglfaaaGreatDoor
namespace Rows

/-- THE TIED CARD OF 'diurnallaw19.CursorSays'. -/
def cursorSaysCard : Claim7 := { stood := { row := cursorSaysRow, standIns := [], harness := (true, "7431abfd3bfa26f5eb48526db862355f40c1ee2a325cd3bebcc87e14625d1d6b"), looks := true }, kinds := [], alts := [], laidByText := true, laidKinds := [.data, .data, .data, .data, .sentinel, .sentinel, .pinned], laidTests := true, laidLooks := .later }
def CursorSaysCardSaid : Prop := Claim7.holds Tryz.pinned (.plain (OpenSpec.ofChange cursorSaysSpec)) cursorSaysCard

/-- THE SECOND FORM's CARD OF 'diurnallaw19.CursorSays'. -/
def cursorSaysUptoCard : Claim7 := { stood := { row := cursorSaysUptoRow, standIns := [], harness := (true, "7431abfd3bfa26f5eb48526db862355f40c1ee2a325cd3bebcc87e14625d1d6b"), looks := true }, kinds := [], alts := [], laidByText := true, laidKinds := [.data, .data, .data, .data, .sentinel, .sentinel, .pinned], laidTests := true, laidLooks := .later }
def CursorSaysUptoCardSaid : Prop := Claim7.holds Tryz.pinned (.plain (OpenSpec.upto cursorSaysSpec)) cursorSaysUptoCard
end Rows
end Go.Proofs.YtknidmbkmglfaaaGreatDoor
