/-
  DERIVED. GIVEN WITH THE SEED: THE CARDS: each row of YtbdlkofldmhoaaaGreatDoorRows.lean that lists a variable, with what it lists TIED to the program's text (the seventh form; the later family's looks); each row that meets fmt, with fmt's text TOLD by the authors' own Lean function (tested against real Go, not proved from fmt's source: count such statements apart). THE CARD IS WHAT COUNTS. Prove the row's statement (the work); the ties are given (YtbdlkofldmhoaaaGreatDoorTie.lean); close each card by the builder's one call (the guide's Derived/Test/ToyasCard.lean, 'card_holds'). Laid BY PROGRAM, IN A SANDBOX (cutbox-door.mjs). By AI agents, Wed Nov 11 2026. No macro, syntax, notation, axiom, sorry.
-/
import Derived.Test.YtbdlkofldmhoaaaGreatDoorRows
import GoSem.ClaimSeven
namespace Go.Proofs.YtbdlkofldmhoaaaGreatDoor
namespace Rows

/-- THE TIED CARD OF 'whisklaw19.FilesKnown'. -/
def filesKnownCard : Claim7 := { stood := { row := filesKnownRow, standIns := [], harness := (true, "a58329e19a892060ff26b5278e40eb4dbc5beb90c69db5982ecd0e868781bc98"), looks := true }, kinds := [], alts := [], laidByText := true, laidKinds := [.data, .data, .data, .data, .sentinel, .sentinel, .pinned], laidTests := true, laidLooks := .later }
def FilesKnownCardSaid : Prop := Claim7.holds Tryz.pinned (.plain (OpenSpec.ofChange filesKnownSpec)) filesKnownCard

/-- THE TIED CARD OF 'whisklaw19.FilesDo'. -/
def filesDoCard : Claim7 := { stood := { row := filesDoRow, standIns := [], harness := (true, "a58329e19a892060ff26b5278e40eb4dbc5beb90c69db5982ecd0e868781bc98"), looks := true }, kinds := [], alts := [], laidByText := true, laidKinds := [.data, .data, .data, .data, .sentinel, .sentinel, .pinned], laidTests := true, laidLooks := .later }
def FilesDoCardSaid : Prop := Claim7.holds Tryz.pinned (.plain (OpenSpec.ofChange filesDoSpec)) filesDoCard

/-- THE TIED CARD OF 'whisklaw19.FilesCopy'. -/
def filesCopyCard : Claim7 := { stood := { row := filesCopyRow, standIns := [], harness := (true, "a58329e19a892060ff26b5278e40eb4dbc5beb90c69db5982ecd0e868781bc98"), looks := true }, kinds := [], alts := [], laidByText := true, laidKinds := [.data, .data, .data, .data, .sentinel, .sentinel, .pinned], laidTests := true, laidLooks := .later }
def FilesCopyCardSaid : Prop := Claim7.holds Tryz.pinned (.plain (OpenSpec.ofChange filesCopySpec)) filesCopyCard

/-- THE TIED CARD OF 'whisklaw19.FilesMove'. -/
def filesMoveCard : Claim7 := { stood := { row := filesMoveRow, standIns := [], harness := (true, "a58329e19a892060ff26b5278e40eb4dbc5beb90c69db5982ecd0e868781bc98"), looks := true }, kinds := [], alts := [], laidByText := true, laidKinds := [.data, .data, .data, .data, .sentinel, .sentinel, .pinned], laidTests := true, laidLooks := .later }
def FilesMoveCardSaid : Prop := Claim7.holds Tryz.pinned (.plain (OpenSpec.ofChange filesMoveSpec)) filesMoveCard

/-- THE TIED CARD OF 'whisklaw19.FilesMake'. -/
def filesMakeCard : Claim7 := { stood := { row := filesMakeRow, standIns := [], harness := (true, "a58329e19a892060ff26b5278e40eb4dbc5beb90c69db5982ecd0e868781bc98"), looks := true }, kinds := [], alts := [], laidByText := true, laidKinds := [.data, .data, .data, .data, .sentinel, .sentinel, .pinned], laidTests := true, laidLooks := .later }
def FilesMakeCardSaid : Prop := Claim7.holds Tryz.pinned (.plain (OpenSpec.ofChange filesMakeSpec)) filesMakeCard

/-- THE SECOND FORM's CARD OF 'whisklaw19.FilesKnown'. -/
def filesKnownUptoCard : Claim7 := { stood := { row := filesKnownUptoRow, standIns := [], harness := (true, "a58329e19a892060ff26b5278e40eb4dbc5beb90c69db5982ecd0e868781bc98"), looks := true }, kinds := [], alts := [], laidByText := true, laidKinds := [.data, .data, .data, .data, .sentinel, .sentinel, .pinned], laidTests := true, laidLooks := .later }
def FilesKnownUptoCardSaid : Prop := Claim7.holds Tryz.pinned (.plain (OpenSpec.upto filesKnownSpec)) filesKnownUptoCard

/-- THE SECOND FORM's CARD OF 'whisklaw19.FilesDo'. -/
def filesDoUptoCard : Claim7 := { stood := { row := filesDoUptoRow, standIns := [], harness := (true, "a58329e19a892060ff26b5278e40eb4dbc5beb90c69db5982ecd0e868781bc98"), looks := true }, kinds := [], alts := [], laidByText := true, laidKinds := [.data, .data, .data, .data, .sentinel, .sentinel, .pinned], laidTests := true, laidLooks := .later }
def FilesDoUptoCardSaid : Prop := Claim7.holds Tryz.pinned (.plain (OpenSpec.upto filesDoSpec)) filesDoUptoCard

/-- THE SECOND FORM's CARD OF 'whisklaw19.FilesCopy'. -/
def filesCopyUptoCard : Claim7 := { stood := { row := filesCopyUptoRow, standIns := [], harness := (true, "a58329e19a892060ff26b5278e40eb4dbc5beb90c69db5982ecd0e868781bc98"), looks := true }, kinds := [], alts := [], laidByText := true, laidKinds := [.data, .data, .data, .data, .sentinel, .sentinel, .pinned], laidTests := true, laidLooks := .later }
def FilesCopyUptoCardSaid : Prop := Claim7.holds Tryz.pinned (.plain (OpenSpec.upto filesCopySpec)) filesCopyUptoCard

/-- THE SECOND FORM's CARD OF 'whisklaw19.FilesMove'. -/
def filesMoveUptoCard : Claim7 := { stood := { row := filesMoveUptoRow, standIns := [], harness := (true, "a58329e19a892060ff26b5278e40eb4dbc5beb90c69db5982ecd0e868781bc98"), looks := true }, kinds := [], alts := [], laidByText := true, laidKinds := [.data, .data, .data, .data, .sentinel, .sentinel, .pinned], laidTests := true, laidLooks := .later }
def FilesMoveUptoCardSaid : Prop := Claim7.holds Tryz.pinned (.plain (OpenSpec.upto filesMoveSpec)) filesMoveUptoCard

/-- THE SECOND FORM's CARD OF 'whisklaw19.FilesMake'. -/
def filesMakeUptoCard : Claim7 := { stood := { row := filesMakeUptoRow, standIns := [], harness := (true, "a58329e19a892060ff26b5278e40eb4dbc5beb90c69db5982ecd0e868781bc98"), looks := true }, kinds := [], alts := [], laidByText := true, laidKinds := [.data, .data, .data, .data, .sentinel, .sentinel, .pinned], laidTests := true, laidLooks := .later }
def FilesMakeUptoCardSaid : Prop := Claim7.holds Tryz.pinned (.plain (OpenSpec.upto filesMakeSpec)) filesMakeUptoCard
end Rows
end Go.Proofs.YtbdlkofldmhoaaaGreatDoor
