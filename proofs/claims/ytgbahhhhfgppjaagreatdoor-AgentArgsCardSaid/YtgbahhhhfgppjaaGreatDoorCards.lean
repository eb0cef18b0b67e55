/-
  DERIVED. GIVEN WITH THE SEED: THE CARDS: each row of YtgbahhhhfgppjaaGreatDoorRows.lean that lists a variable, with what it lists TIED to the program's text (the seventh form; the later family's looks); each row that meets fmt, with fmt's text TOLD by the authors' own Lean function (tested against real Go, not proved from fmt's source: count such statements apart). THE CARD IS WHAT COUNTS. Prove the row's statement (the work); the ties are given (YtgbahhhhfgppjaaGreatDoorTie.lean); close each card by the builder's one call (the guide's Derived/Test/ToyasCard.lean, 'card_holds'). Laid BY PROGRAM, IN A SANDBOX (cutbox-door.mjs). By AI agents, Wed Nov 11 2026. No macro, syntax, notation, axiom, sorry.
-/
import Derived.Test.YtgbahhhhfgppjaaGreatDoorRows
import GoSem.ClaimSeven
namespace Go.Proofs.YtgbahhhhfgppjaaGreatDoor
namespace Rows

/-- THE TIED CARD OF 'diurnallaw32.AgentArgs'. -/
def agentArgsCard : Claim7 := { stood := { row := agentArgsRow, standIns := [], harness := (true, "3806bbddcdd7235e07d0fd64aeea219a1fb8d590bec6816bad2fe0b7ffda7e5c"), looks := true }, kinds := [], alts := [], laidByText := true, laidKinds := [.data, .data, .data, .data, .sentinel, .sentinel, .pinned], laidTests := true, laidLooks := .later }
def AgentArgsCardSaid : Prop := Claim7.holds Tryz.pinned (.plain (OpenSpec.ofChange agentArgsSpec)) agentArgsCard

/-- THE SECOND FORM's CARD OF 'diurnallaw32.AgentArgs'. -/
def agentArgsUptoCard : Claim7 := { stood := { row := agentArgsUptoRow, standIns := [], harness := (true, "3806bbddcdd7235e07d0fd64aeea219a1fb8d590bec6816bad2fe0b7ffda7e5c"), looks := true }, kinds := [], alts := [], laidByText := true, laidKinds := [.data, .data, .data, .data, .sentinel, .sentinel, .pinned], laidTests := true, laidLooks := .later }
def AgentArgsUptoCardSaid : Prop := Claim7.holds Tryz.pinned (.plain (OpenSpec.upto agentArgsSpec)) agentArgsUptoCard
end Rows
end Go.Proofs.YtgbahhhhfgppjaaGreatDoor
