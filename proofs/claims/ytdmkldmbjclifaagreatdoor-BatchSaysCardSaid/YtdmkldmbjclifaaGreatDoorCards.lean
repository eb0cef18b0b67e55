/-
  DERIVED. GIVEN WITH THE SEED: THE CARDS: each row of YtdmkldmbjclifaaGreatDoorRows.lean that lists a variable, with what it lists TIED to the program's text (the seventh form; the later family's looks); each row that meets fmt, with fmt's text TOLD by the authors' own Lean function (tested against real Go, not proved from fmt's source: count such statements apart). THE CARD IS WHAT COUNTS. Prove the row's statement (the work); the ties are given (YtdmkldmbjclifaaGreatDoorTie.lean); close each card by the builder's one call (the guide's Derived/Test/ToyasCard.lean, 'card_holds'). Laid BY PROGRAM, IN A SANDBOX (cutbox-door.mjs). By AI agents, Wed Nov 11 2026. No macro, syntax, notation, axiom, sorry.
-/
import Derived.Test.YtdmkldmbjclifaaGreatDoorRows
import GoSem.ClaimSeven
namespace Go.Proofs.YtdmkldmbjclifaaGreatDoor
namespace Rows

/-- THE TIED CARD OF 'diurnallaw26.BatchSays'. -/
def batchSaysCard : Claim7 := { stood := { row := batchSaysRow, standIns := [], harness := (true, "797e7492f7f5330f6eed3085d276748173a9af8480bfd3436780ec2f203974a5"), looks := false }, kinds := [], alts := [], laidByText := true, laidKinds := [.data, .data, .data], laidTests := true, laidLooks := .later }
def BatchSaysCardSaid : Prop := Claim7.holds Tryz.pinned (.plain (OpenSpec.ofChange batchSaysSpec)) batchSaysCard

/-- THE TIED CARD OF 'diurnallaw26.BatchArgs'. -/
def batchArgsCard : Claim7 := { stood := { row := batchArgsRow, standIns := [], harness := (true, "797e7492f7f5330f6eed3085d276748173a9af8480bfd3436780ec2f203974a5"), looks := false }, kinds := [], alts := [], laidByText := true, laidKinds := [.data, .data, .data], laidTests := true, laidLooks := .later }
def BatchArgsCardSaid : Prop := Claim7.holds Tryz.pinned (.plain (OpenSpec.ofChange batchArgsSpec)) batchArgsCard

/-- THE TIED CARD OF 'diurnallaw26.BatchSmall'. -/
def batchSmallCard : Claim7 := { stood := { row := batchSmallRow, standIns := [], harness := (true, "797e7492f7f5330f6eed3085d276748173a9af8480bfd3436780ec2f203974a5"), looks := false }, kinds := [], alts := [], laidByText := true, laidKinds := [.data, .data, .data], laidTests := true, laidLooks := .later }
def BatchSmallCardSaid : Prop := Claim7.holds Tryz.pinned (.plain (OpenSpec.ofChange batchSmallSpec)) batchSmallCard

/-- THE TIED CARD OF 'diurnallaw26.BatchUses'. -/
def batchUsesCard : Claim7 := { stood := { row := batchUsesRow, standIns := [], harness := (true, "797e7492f7f5330f6eed3085d276748173a9af8480bfd3436780ec2f203974a5"), looks := false }, kinds := [], alts := [], laidByText := true, laidKinds := [.data, .data, .data], laidTests := true, laidLooks := .later }
def BatchUsesCardSaid : Prop := Claim7.holds Tryz.pinned (.plain (OpenSpec.ofChange batchUsesSpec)) batchUsesCard

/-- THE TIED CARD OF 'diurnallaw26.BatchOnAndOn'. -/
def batchOnAndOnCard : Claim7 := { stood := { row := batchOnAndOnRow, standIns := [], harness := (true, "797e7492f7f5330f6eed3085d276748173a9af8480bfd3436780ec2f203974a5"), looks := false }, kinds := [], alts := [], laidByText := true, laidKinds := [.data, .data, .data], laidTests := true, laidLooks := .later }
def BatchOnAndOnCardSaid : Prop := Claim7.holds Tryz.pinned (.plain (OpenSpec.ofChange batchOnAndOnSpec)) batchOnAndOnCard

/-- THE TIED CARD OF 'diurnallaw26.BatchStops'. -/
def batchStopsCard : Claim7 := { stood := { row := batchStopsRow, standIns := [], harness := (true, "797e7492f7f5330f6eed3085d276748173a9af8480bfd3436780ec2f203974a5"), looks := false }, kinds := [], alts := [], laidByText := true, laidKinds := [.data, .data, .data], laidTests := true, laidLooks := .later }
def BatchStopsCardSaid : Prop := Claim7.holds Tryz.pinned (.plain (OpenSpec.ofChange batchStopsSpec)) batchStopsCard

/-- THE SECOND FORM's CARD OF 'diurnallaw26.BatchSays'. -/
def batchSaysUptoCard : Claim7 := { stood := { row := batchSaysUptoRow, standIns := [], harness := (true, "797e7492f7f5330f6eed3085d276748173a9af8480bfd3436780ec2f203974a5"), looks := false }, kinds := [], alts := [], laidByText := true, laidKinds := [.data, .data, .data], laidTests := true, laidLooks := .later }
def BatchSaysUptoCardSaid : Prop := Claim7.holds Tryz.pinned (.plain (OpenSpec.upto batchSaysSpec)) batchSaysUptoCard

/-- THE SECOND FORM's CARD OF 'diurnallaw26.BatchArgs'. -/
def batchArgsUptoCard : Claim7 := { stood := { row := batchArgsUptoRow, standIns := [], harness := (true, "797e7492f7f5330f6eed3085d276748173a9af8480bfd3436780ec2f203974a5"), looks := false }, kinds := [], alts := [], laidByText := true, laidKinds := [.data, .data, .data], laidTests := true, laidLooks := .later }
def BatchArgsUptoCardSaid : Prop := Claim7.holds Tryz.pinned (.plain (OpenSpec.upto batchArgsSpec)) batchArgsUptoCard

/-- THE SECOND FORM's CARD OF 'diurnallaw26.BatchSmall'. -/
def batchSmallUptoCard : Claim7 := { stood := { row := batchSmallUptoRow, standIns := [], harness := (true, "797e7492f7f5330f6eed3085d276748173a9af8480bfd3436780ec2f203974a5"), looks := false }, kinds := [], alts := [], laidByText := true, laidKinds := [.data, .data, .data], laidTests := true, laidLooks := .later }
def BatchSmallUptoCardSaid : Prop := Claim7.holds Tryz.pinned (.plain (OpenSpec.upto batchSmallSpec)) batchSmallUptoCard

/-- THE SECOND FORM's CARD OF 'diurnallaw26.BatchUses'. -/
def batchUsesUptoCard : Claim7 := { stood := { row := batchUsesUptoRow, standIns := [], harness := (true, "797e7492f7f5330f6eed3085d276748173a9af8480bfd3436780ec2f203974a5"), looks := false }, kinds := [], alts := [], laidByText := true, laidKinds := [.data, .data, .data], laidTests := true, laidLooks := .later }
def BatchUsesUptoCardSaid : Prop := Claim7.holds Tryz.pinned (.plain (OpenSpec.upto batchUsesSpec)) batchUsesUptoCard

/-- THE SECOND FORM's CARD OF 'diurnallaw26.BatchOnAndOn'. -/
def batchOnAndOnUptoCard : Claim7 := { stood := { row := batchOnAndOnUptoRow, standIns := [], harness := (true, "797e7492f7f5330f6eed3085d276748173a9af8480bfd3436780ec2f203974a5"), looks := false }, kinds := [], alts := [], laidByText := true, laidKinds := [.data, .data, .data], laidTests := true, laidLooks := .later }
def BatchOnAndOnUptoCardSaid : Prop := Claim7.holds Tryz.pinned (.plain (OpenSpec.upto batchOnAndOnSpec)) batchOnAndOnUptoCard

/-- THE SECOND FORM's CARD OF 'diurnallaw26.BatchStops'. -/
def batchStopsUptoCard : Claim7 := { stood := { row := batchStopsUptoRow, standIns := [], harness := (true, "797e7492f7f5330f6eed3085d276748173a9af8480bfd3436780ec2f203974a5"), looks := false }, kinds := [], alts := [], laidByText := true, laidKinds := [.data, .data, .data], laidTests := true, laidLooks := .later }
def BatchStopsUptoCardSaid : Prop := Claim7.holds Tryz.pinned (.plain (OpenSpec.upto batchStopsSpec)) batchStopsUptoCard
end Rows
end Go.Proofs.YtdmkldmbjclifaaGreatDoor
