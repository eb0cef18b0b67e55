/-
  DERIVED. GIVEN WITH THE SEED: THE CARDS: each row of YtkfojmihnjnhfaaGreatDoorRows.lean that lists a variable, with what it lists TIED to the program's text (the seventh form; the later family's looks); each row that meets fmt, with fmt's text TOLD by the authors' own Lean function (tested against real Go, not proved from fmt's source: count such statements apart). THE CARD IS WHAT COUNTS. Prove the row's statement (the work); the ties are given (YtkfojmihnjnhfaaGreatDoorTie.lean); close each card by the builder's one call (the guide's Derived/Test/ToyasCard.lean, 'card_holds'). Laid BY PROGRAM, IN A SANDBOX (cutbox-door.mjs). By AI agents, Wed Nov 11 2026. No macro, syntax, notation, axiom, sorry.
-/
import Derived.Test.YtkfojmihnjnhfaaGreatDoorRows
import GoSem.ClaimSeven
namespace Go.Proofs.YtkfojmihnjnhfaaGreatDoor
namespace Rows

/-- THE TIED CARD OF 'diurnallaw30.RecvRises'. -/
def recvRisesCard : Claim7 := { stood := { row := recvRisesRow, standIns := [], harness := (true, "83a89a9f473413a60ae4499c327119c151f9163a6dc08cb28e21407669f12c50"), looks := true }, kinds := [], alts := [], laidByText := true, laidKinds := [.data, .data, .data, .data, .sentinel, .sentinel, .pinned], laidTests := true, laidLooks := .later }
def RecvRisesCardSaid : Prop := Claim7.holds Tryz.pinned (.plain (OpenSpec.ofChange recvRisesSpec)) recvRisesCard

/-- THE TIED CARD OF 'diurnallaw30.RecvAgain'. -/
def recvAgainCard : Claim7 := { stood := { row := recvAgainRow, standIns := [], harness := (true, "83a89a9f473413a60ae4499c327119c151f9163a6dc08cb28e21407669f12c50"), looks := true }, kinds := [], alts := [], laidByText := true, laidKinds := [.data, .data, .data, .data, .sentinel, .sentinel, .pinned], laidTests := true, laidLooks := .later }
def RecvAgainCardSaid : Prop := Claim7.holds Tryz.pinned (.plain (OpenSpec.ofChange recvAgainSpec)) recvAgainCard

/-- THE TIED CARD OF 'diurnallaw30.RecvPlays'. -/
def recvPlaysCard : Claim7 := { stood := { row := recvPlaysRow, standIns := [], harness := (true, "83a89a9f473413a60ae4499c327119c151f9163a6dc08cb28e21407669f12c50"), looks := true }, kinds := [], alts := [], laidByText := true, laidKinds := [.data, .data, .data, .data, .sentinel, .sentinel, .pinned], laidTests := true, laidLooks := .later }
def RecvPlaysCardSaid : Prop := Claim7.holds Tryz.pinned (.plain (OpenSpec.ofChange recvPlaysSpec)) recvPlaysCard

/-- THE TIED CARD OF 'diurnallaw30.RecvFences'. -/
def recvFencesCard : Claim7 := { stood := { row := recvFencesRow, standIns := [], harness := (true, "83a89a9f473413a60ae4499c327119c151f9163a6dc08cb28e21407669f12c50"), looks := true }, kinds := [], alts := [], laidByText := true, laidKinds := [.data, .data, .data, .data, .sentinel, .sentinel, .pinned], laidTests := true, laidLooks := .later }
def RecvFencesCardSaid : Prop := Claim7.holds Tryz.pinned (.plain (OpenSpec.ofChange recvFencesSpec)) recvFencesCard

/-- THE TIED CARD OF 'diurnallaw30.RecvWhole'. -/
def recvWholeCard : Claim7 := { stood := { row := recvWholeRow, standIns := [], harness := (true, "83a89a9f473413a60ae4499c327119c151f9163a6dc08cb28e21407669f12c50"), looks := true }, kinds := [], alts := [], laidByText := true, laidKinds := [.data, .data, .data, .data, .sentinel, .sentinel, .pinned], laidTests := true, laidLooks := .later }
def RecvWholeCardSaid : Prop := Claim7.holds Tryz.pinned (.plain (OpenSpec.ofChange recvWholeSpec)) recvWholeCard

/-- THE SECOND FORM's CARD OF 'diurnallaw30.RecvRises'. -/
def recvRisesUptoCard : Claim7 := { stood := { row := recvRisesUptoRow, standIns := [], harness := (true, "83a89a9f473413a60ae4499c327119c151f9163a6dc08cb28e21407669f12c50"), looks := true }, kinds := [], alts := [], laidByText := true, laidKinds := [.data, .data, .data, .data, .sentinel, .sentinel, .pinned], laidTests := true, laidLooks := .later }
def RecvRisesUptoCardSaid : Prop := Claim7.holds Tryz.pinned (.plain (OpenSpec.upto recvRisesSpec)) recvRisesUptoCard

/-- THE SECOND FORM's CARD OF 'diurnallaw30.RecvAgain'. -/
def recvAgainUptoCard : Claim7 := { stood := { row := recvAgainUptoRow, standIns := [], harness := (true, "83a89a9f473413a60ae4499c327119c151f9163a6dc08cb28e21407669f12c50"), looks := true }, kinds := [], alts := [], laidByText := true, laidKinds := [.data, .data, .data, .data, .sentinel, .sentinel, .pinned], laidTests := true, laidLooks := .later }
def RecvAgainUptoCardSaid : Prop := Claim7.holds Tryz.pinned (.plain (OpenSpec.upto recvAgainSpec)) recvAgainUptoCard

/-- THE SECOND FORM's CARD OF 'diurnallaw30.RecvPlays'. -/
def recvPlaysUptoCard : Claim7 := { stood := { row := recvPlaysUptoRow, standIns := [], harness := (true, "83a89a9f473413a60ae4499c327119c151f9163a6dc08cb28e21407669f12c50"), looks := true }, kinds := [], alts := [], laidByText := true, laidKinds := [.data, .data, .data, .data, .sentinel, .sentinel, .pinned], laidTests := true, laidLooks := .later }
def RecvPlaysUptoCardSaid : Prop := Claim7.holds Tryz.pinned (.plain (OpenSpec.upto recvPlaysSpec)) recvPlaysUptoCard

/-- THE SECOND FORM's CARD OF 'diurnallaw30.RecvFences'. -/
def recvFencesUptoCard : Claim7 := { stood := { row := recvFencesUptoRow, standIns := [], harness := (true, "83a89a9f473413a60ae4499c327119c151f9163a6dc08cb28e21407669f12c50"), looks := true }, kinds := [], alts := [], laidByText := true, laidKinds := [.data, .data, .data, .data, .sentinel, .sentinel, .pinned], laidTests := true, laidLooks := .later }
def RecvFencesUptoCardSaid : Prop := Claim7.holds Tryz.pinned (.plain (OpenSpec.upto recvFencesSpec)) recvFencesUptoCard

/-- THE SECOND FORM's CARD OF 'diurnallaw30.RecvWhole'. -/
def recvWholeUptoCard : Claim7 := { stood := { row := recvWholeUptoRow, standIns := [], harness := (true, "83a89a9f473413a60ae4499c327119c151f9163a6dc08cb28e21407669f12c50"), looks := true }, kinds := [], alts := [], laidByText := true, laidKinds := [.data, .data, .data, .data, .sentinel, .sentinel, .pinned], laidTests := true, laidLooks := .later }
def RecvWholeUptoCardSaid : Prop := Claim7.holds Tryz.pinned (.plain (OpenSpec.upto recvWholeSpec)) recvWholeUptoCard
end Rows
end Go.Proofs.YtkfojmihnjnhfaaGreatDoor
