/-
  DERIVED. GIVEN WITH THE SEED: THE CARDS: each row of YtaponndjgdfkbaaDoorRows.lean that lists a variable, with what it lists TIED to the program's text (the seventh form; the later family's looks); each row that meets fmt, with fmt's text TOLD by the authors' own Lean function (tested against real Go, not proved from fmt's source: count such statements apart). THE CARD IS WHAT COUNTS. Prove the row's statement (the work); the ties are given (YtaponndjgdfkbaaDoorTie.lean); close each card by the builder's one call (the guide's Derived/Test/ToyasCard.lean, 'card_holds'). Laid BY PROGRAM, IN A SANDBOX (cutbox-door.mjs). By AI agents, Wed Nov 11 2026. No macro, syntax, notation, axiom, sorry.
-/
import Derived.Test.YtaponndjgdfkbaaDoorRows
import GoSem.ClaimSeven
namespace Go.Proofs.YtaponndjgdfkbaaDoor
namespace Rows

/-- THE TIED CARD OF 'diurnallaw19.CursorOrder'. -/
def cursorOrderCard : Claim7 := { stood := { row := cursorOrderRow, standIns := [], harness := (true, "6f5c495f2ffcaec959e0722974f20f8f7c7931837ecaa311f24edb2580f198ca"), looks := true }, kinds := [], alts := [], laidByText := true, laidKinds := [.data, .data, .data], laidTests := true, laidLooks := .later }
def CursorOrderCardSaid : Prop := Claim7.holds Tryd.pinned (.plain (OpenSpec.ofChange cursorOrderSpec)) cursorOrderCard

/-- THE TIED CARD OF 'diurnallaw27.HttpTooLong'. -/
def httpTooLongCard : Claim7 := { stood := { row := httpTooLongRow, standIns := [], harness := (true, "6f5c495f2ffcaec959e0722974f20f8f7c7931837ecaa311f24edb2580f198ca"), looks := true }, kinds := [], alts := [], laidByText := true, laidKinds := [.data, .data, .data, .sentinel, .sentinel], laidTests := true, laidLooks := .later }
def HttpTooLongCardSaid : Prop := Claim7.holds Tryd.pinned (.plain (OpenSpec.ofChange httpTooLongSpec)) httpTooLongCard

/-- THE TIED CARD OF 'diurnallaw27.HttpRefuses'. -/
def httpRefusesCard : Claim7 := { stood := { row := httpRefusesRow, standIns := [], harness := (true, "6f5c495f2ffcaec959e0722974f20f8f7c7931837ecaa311f24edb2580f198ca"), looks := true }, kinds := [], alts := [], laidByText := true, laidKinds := [.data, .data, .data, .sentinel, .sentinel], laidTests := true, laidLooks := .later }
def HttpRefusesCardSaid : Prop := Claim7.holds Tryd.pinned (.plain (OpenSpec.ofChange httpRefusesSpec)) httpRefusesCard

/-- THE TIED CARD OF 'diurnallaw27.HttpSays'. -/
def httpSaysCard : Claim7 := { stood := { row := httpSaysRow, standIns := [], harness := (true, "6f5c495f2ffcaec959e0722974f20f8f7c7931837ecaa311f24edb2580f198ca"), looks := true }, kinds := [], alts := [], laidByText := true, laidKinds := [.data, .data, .data, .sentinel, .sentinel], laidTests := true, laidLooks := .later }
def HttpSaysCardSaid : Prop := Claim7.holds Tryd.pinned (.plain (OpenSpec.ofChange httpSaysSpec)) httpSaysCard

/-- THE TIED CARD OF 'diurnallaw27.HttpBack'. -/
def httpBackCard : Claim7 := { stood := { row := httpBackRow, standIns := [], harness := (true, "6f5c495f2ffcaec959e0722974f20f8f7c7931837ecaa311f24edb2580f198ca"), looks := true }, kinds := [], alts := [], laidByText := true, laidKinds := [.data, .data, .data, .sentinel, .sentinel], laidTests := true, laidLooks := .later }
def HttpBackCardSaid : Prop := Claim7.holds Tryd.pinned (.plain (OpenSpec.ofChange httpBackSpec)) httpBackCard

/-- THE TIED CARD OF 'diurnallaw27.HttpCut'. -/
def httpCutCard : Claim7 := { stood := { row := httpCutRow, standIns := [], harness := (true, "6f5c495f2ffcaec959e0722974f20f8f7c7931837ecaa311f24edb2580f198ca"), looks := true }, kinds := [], alts := [], laidByText := true, laidKinds := [.data, .data, .data, .sentinel, .sentinel], laidTests := true, laidLooks := .later }
def HttpCutCardSaid : Prop := Claim7.holds Tryd.pinned (.plain (OpenSpec.ofChange httpCutSpec)) httpCutCard

/-- THE TIED CARD OF 'diurnallaw27.HttpOne'. -/
def httpOneCard : Claim7 := { stood := { row := httpOneRow, standIns := [], harness := (true, "6f5c495f2ffcaec959e0722974f20f8f7c7931837ecaa311f24edb2580f198ca"), looks := true }, kinds := [], alts := [], laidByText := true, laidKinds := [.data, .data, .data, .sentinel, .sentinel], laidTests := true, laidLooks := .later }
def HttpOneCardSaid : Prop := Claim7.holds Tryd.pinned (.plain (OpenSpec.ofChange httpOneSpec)) httpOneCard

/-- THE TIED CARD OF 'diurnallaw19.CursorBack'. -/
def cursorBackCard : Claim7 := { stood := { row := cursorBackRow, standIns := [], harness := (true, "6f5c495f2ffcaec959e0722974f20f8f7c7931837ecaa311f24edb2580f198ca"), looks := true }, kinds := [], alts := [], laidByText := true, laidKinds := [.data, .data, .data, .data, .sentinel, .sentinel, .pinned], laidTests := true, laidLooks := .later }
def CursorBackCardSaid : Prop := Claim7.holds Tryd.pinned (.plain (OpenSpec.ofChange cursorBackSpec)) cursorBackCard

/-- THE SECOND FORM's CARD OF 'diurnallaw19.CursorOrder'. -/
def cursorOrderUptoCard : Claim7 := { stood := { row := cursorOrderUptoRow, standIns := [], harness := (true, "6f5c495f2ffcaec959e0722974f20f8f7c7931837ecaa311f24edb2580f198ca"), looks := true }, kinds := [], alts := [], laidByText := true, laidKinds := [.data, .data, .data], laidTests := true, laidLooks := .later }
def CursorOrderUptoCardSaid : Prop := Claim7.holds Tryd.pinned (.plain (OpenSpec.upto cursorOrderSpec)) cursorOrderUptoCard

/-- THE SECOND FORM's CARD OF 'diurnallaw27.HttpTooLong'. -/
def httpTooLongUptoCard : Claim7 := { stood := { row := httpTooLongUptoRow, standIns := [], harness := (true, "6f5c495f2ffcaec959e0722974f20f8f7c7931837ecaa311f24edb2580f198ca"), looks := true }, kinds := [], alts := [], laidByText := true, laidKinds := [.data, .data, .data, .sentinel, .sentinel], laidTests := true, laidLooks := .later }
def HttpTooLongUptoCardSaid : Prop := Claim7.holds Tryd.pinned (.plain (OpenSpec.upto httpTooLongSpec)) httpTooLongUptoCard

/-- THE SECOND FORM's CARD OF 'diurnallaw27.HttpRefuses'. -/
def httpRefusesUptoCard : Claim7 := { stood := { row := httpRefusesUptoRow, standIns := [], harness := (true, "6f5c495f2ffcaec959e0722974f20f8f7c7931837ecaa311f24edb2580f198ca"), looks := true }, kinds := [], alts := [], laidByText := true, laidKinds := [.data, .data, .data, .sentinel, .sentinel], laidTests := true, laidLooks := .later }
def HttpRefusesUptoCardSaid : Prop := Claim7.holds Tryd.pinned (.plain (OpenSpec.upto httpRefusesSpec)) httpRefusesUptoCard

/-- THE SECOND FORM's CARD OF 'diurnallaw27.HttpSays'. -/
def httpSaysUptoCard : Claim7 := { stood := { row := httpSaysUptoRow, standIns := [], harness := (true, "6f5c495f2ffcaec959e0722974f20f8f7c7931837ecaa311f24edb2580f198ca"), looks := true }, kinds := [], alts := [], laidByText := true, laidKinds := [.data, .data, .data, .sentinel, .sentinel], laidTests := true, laidLooks := .later }
def HttpSaysUptoCardSaid : Prop := Claim7.holds Tryd.pinned (.plain (OpenSpec.upto httpSaysSpec)) httpSaysUptoCard

/-- THE SECOND FORM's CARD OF 'diurnallaw27.HttpBack'. -/
def httpBackUptoCard : Claim7 := { stood := { row := httpBackUptoRow, standIns := [], harness := (true, "6f5c495f2ffcaec959e0722974f20f8f7c7931837ecaa311f24edb2580f198ca"), looks := true }, kinds := [], alts := [], laidByText := true, laidKinds := [.data, .data, .data, .sentinel, .sentinel], laidTests := true, laidLooks := .later }
def HttpBackUptoCardSaid : Prop := Claim7.holds Tryd.pinned (.plain (OpenSpec.upto httpBackSpec)) httpBackUptoCard

/-- THE SECOND FORM's CARD OF 'diurnallaw27.HttpCut'. -/
def httpCutUptoCard : Claim7 := { stood := { row := httpCutUptoRow, standIns := [], harness := (true, "6f5c495f2ffcaec959e0722974f20f8f7c7931837ecaa311f24edb2580f198ca"), looks := true }, kinds := [], alts := [], laidByText := true, laidKinds := [.data, .data, .data, .sentinel, .sentinel], laidTests := true, laidLooks := .later }
def HttpCutUptoCardSaid : Prop := Claim7.holds Tryd.pinned (.plain (OpenSpec.upto httpCutSpec)) httpCutUptoCard

/-- THE SECOND FORM's CARD OF 'diurnallaw27.HttpOne'. -/
def httpOneUptoCard : Claim7 := { stood := { row := httpOneUptoRow, standIns := [], harness := (true, "6f5c495f2ffcaec959e0722974f20f8f7c7931837ecaa311f24edb2580f198ca"), looks := true }, kinds := [], alts := [], laidByText := true, laidKinds := [.data, .data, .data, .sentinel, .sentinel], laidTests := true, laidLooks := .later }
def HttpOneUptoCardSaid : Prop := Claim7.holds Tryd.pinned (.plain (OpenSpec.upto httpOneSpec)) httpOneUptoCard

/-- THE SECOND FORM's CARD OF 'diurnallaw19.CursorBack'. -/
def cursorBackUptoCard : Claim7 := { stood := { row := cursorBackUptoRow, standIns := [], harness := (true, "6f5c495f2ffcaec959e0722974f20f8f7c7931837ecaa311f24edb2580f198ca"), looks := true }, kinds := [], alts := [], laidByText := true, laidKinds := [.data, .data, .data, .data, .sentinel, .sentinel, .pinned], laidTests := true, laidLooks := .later }
def CursorBackUptoCardSaid : Prop := Claim7.holds Tryd.pinned (.plain (OpenSpec.upto cursorBackSpec)) cursorBackUptoCard
end Rows
end Go.Proofs.YtaponndjgdfkbaaDoor
