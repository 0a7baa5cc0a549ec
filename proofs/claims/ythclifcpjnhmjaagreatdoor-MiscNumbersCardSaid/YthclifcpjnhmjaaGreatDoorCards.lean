/-
  DERIVED. GIVEN WITH THE SEED: THE CARDS: each row of YthclifcpjnhmjaaGreatDoorRows.lean that lists a variable, with what it lists TIED to the program's text (the seventh form; the later family's looks); each row that meets fmt, with fmt's text TOLD by the authors' own Lean function (tested against real Go, not proved from fmt's source: count such statements apart). THE CARD IS WHAT COUNTS. Prove the row's statement (the work); the ties are given (YthclifcpjnhmjaaGreatDoorTie.lean); close each card by the builder's one call (the guide's Derived/Test/ToyasCard.lean, 'card_holds'). Laid BY PROGRAM, IN A SANDBOX (cutbox-door.mjs). By AI agents, Wed Nov 11 2026. No macro, syntax, notation, axiom, sorry.
-/
import Derived.Test.YthclifcpjnhmjaaGreatDoorRows
import GoSem.ClaimSeven
namespace Go.Proofs.YthclifcpjnhmjaaGreatDoor
namespace Rows

/-- THE TIED CARD OF 'whisklaw20.MiscPaths'. -/
def miscPathsCard : Claim7 := { stood := { row := miscPathsRow, standIns := [], harness := (true, "385c0c7ea3df2c1bd9c5108a454b9c5b4e5ee069d6ecf0c6229b1f43b80a43a9"), looks := true }, kinds := [], alts := [], laidByText := true, laidKinds := [.data, .data, .data, .data, .sentinel, .sentinel, .pinned], laidTests := true, laidLooks := .later }
def MiscPathsCardSaid : Prop := Claim7.holds Tryz.pinned (.plain (OpenSpec.ofChange miscPathsSpec)) miscPathsCard

/-- THE TIED CARD OF 'whisklaw20.MiscNumbers'. -/
def miscNumbersCard : Claim7 := { stood := { row := miscNumbersRow, standIns := [], harness := (true, "385c0c7ea3df2c1bd9c5108a454b9c5b4e5ee069d6ecf0c6229b1f43b80a43a9"), looks := true }, kinds := [], alts := [], laidByText := true, laidKinds := [.data, .data, .data, .data, .sentinel, .sentinel, .pinned], laidTests := true, laidLooks := .later }
def MiscNumbersCardSaid : Prop := Claim7.holds Tryz.pinned (.plain (OpenSpec.ofChange miscNumbersSpec)) miscNumbersCard

/-- THE TIED CARD OF 'whisklaw20.MiscKnown'. -/
def miscKnownCard : Claim7 := { stood := { row := miscKnownRow, standIns := [], harness := (true, "385c0c7ea3df2c1bd9c5108a454b9c5b4e5ee069d6ecf0c6229b1f43b80a43a9"), looks := true }, kinds := [], alts := [], laidByText := true, laidKinds := [.data, .data, .data, .data, .sentinel, .sentinel, .pinned], laidTests := true, laidLooks := .later }
def MiscKnownCardSaid : Prop := Claim7.holds Tryz.pinned (.plain (OpenSpec.ofChange miscKnownSpec)) miscKnownCard

/-- THE TIED CARD OF 'whisklaw20.MiscTests'. -/
def miscTestsCard : Claim7 := { stood := { row := miscTestsRow, standIns := [], harness := (true, "385c0c7ea3df2c1bd9c5108a454b9c5b4e5ee069d6ecf0c6229b1f43b80a43a9"), looks := true }, kinds := [], alts := [], laidByText := true, laidKinds := [.data, .data, .data, .data, .sentinel, .sentinel, .pinned], laidTests := true, laidLooks := .later }
def MiscTestsCardSaid : Prop := Claim7.holds Tryz.pinned (.plain (OpenSpec.ofChange miscTestsSpec)) miscTestsCard

/-- THE TIED CARD OF 'whisklaw20.MiscRuns'. -/
def miscRunsCard : Claim7 := { stood := { row := miscRunsRow, standIns := [], harness := (true, "385c0c7ea3df2c1bd9c5108a454b9c5b4e5ee069d6ecf0c6229b1f43b80a43a9"), looks := true }, kinds := [], alts := [], laidByText := true, laidKinds := [.data, .data, .data, .data, .sentinel, .sentinel, .pinned], laidTests := true, laidLooks := .later }
def MiscRunsCardSaid : Prop := Claim7.holds Tryz.pinned (.plain (OpenSpec.ofChange miscRunsSpec)) miscRunsCard

/-- THE TIED CARD OF 'whisklaw20.MiscSays'. -/
def miscSaysCard : Claim7 := { stood := { row := miscSaysRow, standIns := [], harness := (true, "385c0c7ea3df2c1bd9c5108a454b9c5b4e5ee069d6ecf0c6229b1f43b80a43a9"), looks := true }, kinds := [], alts := [], laidByText := true, laidKinds := [.data, .data, .data, .data, .sentinel, .sentinel, .pinned], laidTests := true, laidLooks := .later }
def MiscSaysCardSaid : Prop := Claim7.holds Tryz.pinned (.plain (OpenSpec.ofChange miscSaysSpec)) miscSaysCard

/-- THE SECOND FORM's CARD OF 'whisklaw20.MiscPaths'. -/
def miscPathsUptoCard : Claim7 := { stood := { row := miscPathsUptoRow, standIns := [], harness := (true, "385c0c7ea3df2c1bd9c5108a454b9c5b4e5ee069d6ecf0c6229b1f43b80a43a9"), looks := true }, kinds := [], alts := [], laidByText := true, laidKinds := [.data, .data, .data, .data, .sentinel, .sentinel, .pinned], laidTests := true, laidLooks := .later }
def MiscPathsUptoCardSaid : Prop := Claim7.holds Tryz.pinned (.plain (OpenSpec.upto miscPathsSpec)) miscPathsUptoCard

/-- THE SECOND FORM's CARD OF 'whisklaw20.MiscNumbers'. -/
def miscNumbersUptoCard : Claim7 := { stood := { row := miscNumbersUptoRow, standIns := [], harness := (true, "385c0c7ea3df2c1bd9c5108a454b9c5b4e5ee069d6ecf0c6229b1f43b80a43a9"), looks := true }, kinds := [], alts := [], laidByText := true, laidKinds := [.data, .data, .data, .data, .sentinel, .sentinel, .pinned], laidTests := true, laidLooks := .later }
def MiscNumbersUptoCardSaid : Prop := Claim7.holds Tryz.pinned (.plain (OpenSpec.upto miscNumbersSpec)) miscNumbersUptoCard

/-- THE SECOND FORM's CARD OF 'whisklaw20.MiscKnown'. -/
def miscKnownUptoCard : Claim7 := { stood := { row := miscKnownUptoRow, standIns := [], harness := (true, "385c0c7ea3df2c1bd9c5108a454b9c5b4e5ee069d6ecf0c6229b1f43b80a43a9"), looks := true }, kinds := [], alts := [], laidByText := true, laidKinds := [.data, .data, .data, .data, .sentinel, .sentinel, .pinned], laidTests := true, laidLooks := .later }
def MiscKnownUptoCardSaid : Prop := Claim7.holds Tryz.pinned (.plain (OpenSpec.upto miscKnownSpec)) miscKnownUptoCard

/-- THE SECOND FORM's CARD OF 'whisklaw20.MiscTests'. -/
def miscTestsUptoCard : Claim7 := { stood := { row := miscTestsUptoRow, standIns := [], harness := (true, "385c0c7ea3df2c1bd9c5108a454b9c5b4e5ee069d6ecf0c6229b1f43b80a43a9"), looks := true }, kinds := [], alts := [], laidByText := true, laidKinds := [.data, .data, .data, .data, .sentinel, .sentinel, .pinned], laidTests := true, laidLooks := .later }
def MiscTestsUptoCardSaid : Prop := Claim7.holds Tryz.pinned (.plain (OpenSpec.upto miscTestsSpec)) miscTestsUptoCard

/-- THE SECOND FORM's CARD OF 'whisklaw20.MiscRuns'. -/
def miscRunsUptoCard : Claim7 := { stood := { row := miscRunsUptoRow, standIns := [], harness := (true, "385c0c7ea3df2c1bd9c5108a454b9c5b4e5ee069d6ecf0c6229b1f43b80a43a9"), looks := true }, kinds := [], alts := [], laidByText := true, laidKinds := [.data, .data, .data, .data, .sentinel, .sentinel, .pinned], laidTests := true, laidLooks := .later }
def MiscRunsUptoCardSaid : Prop := Claim7.holds Tryz.pinned (.plain (OpenSpec.upto miscRunsSpec)) miscRunsUptoCard

/-- THE SECOND FORM's CARD OF 'whisklaw20.MiscSays'. -/
def miscSaysUptoCard : Claim7 := { stood := { row := miscSaysUptoRow, standIns := [], harness := (true, "385c0c7ea3df2c1bd9c5108a454b9c5b4e5ee069d6ecf0c6229b1f43b80a43a9"), looks := true }, kinds := [], alts := [], laidByText := true, laidKinds := [.data, .data, .data, .data, .sentinel, .sentinel, .pinned], laidTests := true, laidLooks := .later }
def MiscSaysUptoCardSaid : Prop := Claim7.holds Tryz.pinned (.plain (OpenSpec.upto miscSaysSpec)) miscSaysUptoCard
end Rows
end Go.Proofs.YthclifcpjnhmjaaGreatDoor
