/-
  DERIVED. GIVEN WITH THE SEED: THE CARDS: each row of YtbjbeajbckcecaaGreatDoorRows.lean that lists a variable, with what it lists TIED to the program's text (the seventh form; the later family's looks); each row that meets fmt, with fmt's text TOLD by the authors' own Lean function (tested against real Go, not proved from fmt's source: count such statements apart). THE CARD IS WHAT COUNTS. Prove the row's statement (the work); the ties are given (YtbjbeajbckcecaaGreatDoorTie.lean); close each card by the builder's one call (the guide's Derived/Test/ToyasCard.lean, 'card_holds'). Laid BY PROGRAM, IN A SANDBOX (cutbox-door.mjs). By AI agents, Wed Nov 11 2026. No macro, syntax, notation, axiom, sorry.
-/
import Derived.Test.YtbjbeajbckcecaaGreatDoorRows
import GoSem.ClaimSeven
namespace Go.Proofs.YtbjbeajbckcecaaGreatDoor
namespace Rows

/-- THE TIED CARD OF 'whisklaw16.FieldRises'. -/
def fieldRisesCard : Claim7 := { stood := { row := fieldRisesRow, standIns := [], harness := (true, "dd7e060ae7f54e7b44507a23df3c3c3cecf20060e7d573498d465d02823ca637"), looks := false }, kinds := [], alts := [], laidByText := true, laidKinds := [.data, .pinned], laidTests := true, laidLooks := .later }
def FieldRisesCardSaid : Prop := Claim7.holds Tryz.pinned (.plain (OpenSpec.ofChange fieldRisesSpec)) fieldRisesCard

/-- THE TIED CARD OF 'whisklaw16.FieldSplits'. -/
def fieldSplitsCard : Claim7 := { stood := { row := fieldSplitsRow, standIns := [], harness := (true, "dd7e060ae7f54e7b44507a23df3c3c3cecf20060e7d573498d465d02823ca637"), looks := false }, kinds := [], alts := [], laidByText := true, laidKinds := [.data, .pinned], laidTests := true, laidLooks := .later }
def FieldSplitsCardSaid : Prop := Claim7.holds Tryz.pinned (.plain (OpenSpec.ofChange fieldSplitsSpec)) fieldSplitsCard

/-- THE TIED CARD OF 'whisklaw16.FieldKeeps'. -/
def fieldKeepsCard : Claim7 := { stood := { row := fieldKeepsRow, standIns := [], harness := (true, "dd7e060ae7f54e7b44507a23df3c3c3cecf20060e7d573498d465d02823ca637"), looks := false }, kinds := [], alts := [], laidByText := true, laidKinds := [.data, .pinned], laidTests := true, laidLooks := .later }
def FieldKeepsCardSaid : Prop := Claim7.holds Tryz.pinned (.plain (OpenSpec.ofChange fieldKeepsSpec)) fieldKeepsCard

/-- THE TIED CARD OF 'whisklaw16.FieldApart'. -/
def fieldApartCard : Claim7 := { stood := { row := fieldApartRow, standIns := [], harness := (true, "dd7e060ae7f54e7b44507a23df3c3c3cecf20060e7d573498d465d02823ca637"), looks := false }, kinds := [], alts := [], laidByText := true, laidKinds := [.data, .pinned], laidTests := true, laidLooks := .later }
def FieldApartCardSaid : Prop := Claim7.holds Tryz.pinned (.plain (OpenSpec.ofChange fieldApartSpec)) fieldApartCard

/-- THE TIED CARD OF 'whisklaw10.CanonIs'. -/
def canonIsCard : Claim7 := { stood := { row := canonIsRow, standIns := [], harness := (true, "dd7e060ae7f54e7b44507a23df3c3c3cecf20060e7d573498d465d02823ca637"), looks := false }, kinds := [], alts := [], laidByText := true, laidKinds := [.data, .pinned], laidTests := true, laidLooks := .later }
def CanonIsCardSaid : Prop := Claim7.holds Tryz.pinned (.plain (OpenSpec.ofChange canonIsSpec)) canonIsCard

/-- THE TIED CARD OF 'whisklaw16.FieldKnown'. -/
def fieldKnownCard : Claim7 := { stood := { row := fieldKnownRow, standIns := [], harness := (true, "dd7e060ae7f54e7b44507a23df3c3c3cecf20060e7d573498d465d02823ca637"), looks := false }, kinds := [], alts := [], laidByText := true, laidKinds := [.data, .pinned], laidTests := true, laidLooks := .later }
def FieldKnownCardSaid : Prop := Claim7.holds Tryz.pinned (.plain (OpenSpec.ofChange fieldKnownSpec)) fieldKnownCard

/-- THE TIED CARD OF 'whisklaw10.CanonKnown'. -/
def canonKnownCard : Claim7 := { stood := { row := canonKnownRow, standIns := [], harness := (true, "dd7e060ae7f54e7b44507a23df3c3c3cecf20060e7d573498d465d02823ca637"), looks := false }, kinds := [], alts := [], laidByText := true, laidKinds := [.data, .pinned], laidTests := true, laidLooks := .later }
def CanonKnownCardSaid : Prop := Claim7.holds Tryz.pinned (.plain (OpenSpec.ofChange canonKnownSpec)) canonKnownCard

/-- THE TIED CARD OF 'whisklaw08.FsKnown'. -/
def fsKnownCard : Claim7 := { stood := { row := fsKnownRow, standIns := [], harness := (true, "dd7e060ae7f54e7b44507a23df3c3c3cecf20060e7d573498d465d02823ca637"), looks := false }, kinds := [], alts := [], laidByText := true, laidKinds := [.data, .pinned], laidTests := true, laidLooks := .later }
def FsKnownCardSaid : Prop := Claim7.holds Tryz.pinned (.plain (OpenSpec.ofChange fsKnownSpec)) fsKnownCard

/-- THE SECOND FORM's CARD OF 'whisklaw16.FieldRises'. -/
def fieldRisesUptoCard : Claim7 := { stood := { row := fieldRisesUptoRow, standIns := [], harness := (true, "dd7e060ae7f54e7b44507a23df3c3c3cecf20060e7d573498d465d02823ca637"), looks := false }, kinds := [], alts := [], laidByText := true, laidKinds := [.data, .pinned], laidTests := true, laidLooks := .later }
def FieldRisesUptoCardSaid : Prop := Claim7.holds Tryz.pinned (.plain (OpenSpec.upto fieldRisesSpec)) fieldRisesUptoCard

/-- THE SECOND FORM's CARD OF 'whisklaw16.FieldSplits'. -/
def fieldSplitsUptoCard : Claim7 := { stood := { row := fieldSplitsUptoRow, standIns := [], harness := (true, "dd7e060ae7f54e7b44507a23df3c3c3cecf20060e7d573498d465d02823ca637"), looks := false }, kinds := [], alts := [], laidByText := true, laidKinds := [.data, .pinned], laidTests := true, laidLooks := .later }
def FieldSplitsUptoCardSaid : Prop := Claim7.holds Tryz.pinned (.plain (OpenSpec.upto fieldSplitsSpec)) fieldSplitsUptoCard

/-- THE SECOND FORM's CARD OF 'whisklaw16.FieldKeeps'. -/
def fieldKeepsUptoCard : Claim7 := { stood := { row := fieldKeepsUptoRow, standIns := [], harness := (true, "dd7e060ae7f54e7b44507a23df3c3c3cecf20060e7d573498d465d02823ca637"), looks := false }, kinds := [], alts := [], laidByText := true, laidKinds := [.data, .pinned], laidTests := true, laidLooks := .later }
def FieldKeepsUptoCardSaid : Prop := Claim7.holds Tryz.pinned (.plain (OpenSpec.upto fieldKeepsSpec)) fieldKeepsUptoCard

/-- THE SECOND FORM's CARD OF 'whisklaw16.FieldApart'. -/
def fieldApartUptoCard : Claim7 := { stood := { row := fieldApartUptoRow, standIns := [], harness := (true, "dd7e060ae7f54e7b44507a23df3c3c3cecf20060e7d573498d465d02823ca637"), looks := false }, kinds := [], alts := [], laidByText := true, laidKinds := [.data, .pinned], laidTests := true, laidLooks := .later }
def FieldApartUptoCardSaid : Prop := Claim7.holds Tryz.pinned (.plain (OpenSpec.upto fieldApartSpec)) fieldApartUptoCard

/-- THE SECOND FORM's CARD OF 'whisklaw10.CanonIs'. -/
def canonIsUptoCard : Claim7 := { stood := { row := canonIsUptoRow, standIns := [], harness := (true, "dd7e060ae7f54e7b44507a23df3c3c3cecf20060e7d573498d465d02823ca637"), looks := false }, kinds := [], alts := [], laidByText := true, laidKinds := [.data, .pinned], laidTests := true, laidLooks := .later }
def CanonIsUptoCardSaid : Prop := Claim7.holds Tryz.pinned (.plain (OpenSpec.upto canonIsSpec)) canonIsUptoCard

/-- THE SECOND FORM's CARD OF 'whisklaw16.FieldKnown'. -/
def fieldKnownUptoCard : Claim7 := { stood := { row := fieldKnownUptoRow, standIns := [], harness := (true, "dd7e060ae7f54e7b44507a23df3c3c3cecf20060e7d573498d465d02823ca637"), looks := false }, kinds := [], alts := [], laidByText := true, laidKinds := [.data, .pinned], laidTests := true, laidLooks := .later }
def FieldKnownUptoCardSaid : Prop := Claim7.holds Tryz.pinned (.plain (OpenSpec.upto fieldKnownSpec)) fieldKnownUptoCard

/-- THE SECOND FORM's CARD OF 'whisklaw10.CanonKnown'. -/
def canonKnownUptoCard : Claim7 := { stood := { row := canonKnownUptoRow, standIns := [], harness := (true, "dd7e060ae7f54e7b44507a23df3c3c3cecf20060e7d573498d465d02823ca637"), looks := false }, kinds := [], alts := [], laidByText := true, laidKinds := [.data, .pinned], laidTests := true, laidLooks := .later }
def CanonKnownUptoCardSaid : Prop := Claim7.holds Tryz.pinned (.plain (OpenSpec.upto canonKnownSpec)) canonKnownUptoCard

/-- THE SECOND FORM's CARD OF 'whisklaw08.FsKnown'. -/
def fsKnownUptoCard : Claim7 := { stood := { row := fsKnownUptoRow, standIns := [], harness := (true, "dd7e060ae7f54e7b44507a23df3c3c3cecf20060e7d573498d465d02823ca637"), looks := false }, kinds := [], alts := [], laidByText := true, laidKinds := [.data, .pinned], laidTests := true, laidLooks := .later }
def FsKnownUptoCardSaid : Prop := Claim7.holds Tryz.pinned (.plain (OpenSpec.upto fsKnownSpec)) fsKnownUptoCard
end Rows
end Go.Proofs.YtbjbeajbckcecaaGreatDoor
