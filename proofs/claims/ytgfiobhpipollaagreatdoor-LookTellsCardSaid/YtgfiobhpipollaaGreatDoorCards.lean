/-
  DERIVED. GIVEN WITH THE SEED: THE CARDS: each row of YtgfiobhpipollaaGreatDoorRows.lean that lists a variable, with what it lists TIED to the program's text (the seventh form; the later family's looks); each row that meets fmt, with fmt's text TOLD by the authors' own Lean function (tested against real Go, not proved from fmt's source: count such statements apart). THE CARD IS WHAT COUNTS. Prove the row's statement (the work); the ties are given (YtgfiobhpipollaaGreatDoorTie.lean); close each card by the builder's one call (the guide's Derived/Test/ToyasCard.lean, 'card_holds'). Laid BY PROGRAM, IN A SANDBOX (cutbox-door.mjs). By AI agents, Wed Nov 11 2026. No macro, syntax, notation, axiom, sorry.
-/
import Derived.Test.YtgfiobhpipollaaGreatDoorRows
import GoSem.ClaimSeven
namespace Go.Proofs.YtgfiobhpipollaaGreatDoor
namespace Rows

/-- THE TIED CARD OF 'whisklaw30.LookTells'. -/
def lookTellsCard : Claim7 := { stood := { row := lookTellsRow, standIns := [], harness := (true, "e7eba082acadbb63f50a8ba4122b87d75411238e7a32216674d0ba510004e6b2"), looks := true }, kinds := [], alts := [], laidByText := true, laidKinds := [.data, .pinned], laidTests := true, laidLooks := .later }
def LookTellsCardSaid : Prop := Claim7.holds Tryz.pinned (.plain (OpenSpec.ofChange lookTellsSpec)) lookTellsCard

/-- THE TIED CARD OF 'whisklaw30.LookLives'. -/
def lookLivesCard : Claim7 := { stood := { row := lookLivesRow, standIns := [], harness := (true, "e7eba082acadbb63f50a8ba4122b87d75411238e7a32216674d0ba510004e6b2"), looks := true }, kinds := [], alts := [], laidByText := true, laidKinds := [.data, .pinned], laidTests := true, laidLooks := .later }
def LookLivesCardSaid : Prop := Claim7.holds Tryz.pinned (.plain (OpenSpec.ofChange lookLivesSpec)) lookLivesCard

/-- THE TIED CARD OF 'whisklaw30.LookCompares'. -/
def lookComparesCard : Claim7 := { stood := { row := lookComparesRow, standIns := [], harness := (true, "e7eba082acadbb63f50a8ba4122b87d75411238e7a32216674d0ba510004e6b2"), looks := true }, kinds := [], alts := [], laidByText := true, laidKinds := [.data, .pinned], laidTests := true, laidLooks := .later }
def LookComparesCardSaid : Prop := Claim7.holds Tryz.pinned (.plain (OpenSpec.ofChange lookComparesSpec)) lookComparesCard

/-- THE TIED CARD OF 'whisklaw30.LookSame'. -/
def lookSameCard : Claim7 := { stood := { row := lookSameRow, standIns := [], harness := (true, "e7eba082acadbb63f50a8ba4122b87d75411238e7a32216674d0ba510004e6b2"), looks := true }, kinds := [], alts := [], laidByText := true, laidKinds := [.data, .pinned], laidTests := true, laidLooks := .later }
def LookSameCardSaid : Prop := Claim7.holds Tryz.pinned (.plain (OpenSpec.ofChange lookSameSpec)) lookSameCard

/-- THE TIED CARD OF 'whisklaw30.LookKnown'. -/
def lookKnownCard : Claim7 := { stood := { row := lookKnownRow, standIns := [], harness := (true, "e7eba082acadbb63f50a8ba4122b87d75411238e7a32216674d0ba510004e6b2"), looks := true }, kinds := [], alts := [], laidByText := true, laidKinds := [.data, .pinned], laidTests := true, laidLooks := .later }
def LookKnownCardSaid : Prop := Claim7.holds Tryz.pinned (.plain (OpenSpec.ofChange lookKnownSpec)) lookKnownCard

/-- THE SECOND FORM's CARD OF 'whisklaw30.LookTells'. -/
def lookTellsUptoCard : Claim7 := { stood := { row := lookTellsUptoRow, standIns := [], harness := (true, "e7eba082acadbb63f50a8ba4122b87d75411238e7a32216674d0ba510004e6b2"), looks := true }, kinds := [], alts := [], laidByText := true, laidKinds := [.data, .pinned], laidTests := true, laidLooks := .later }
def LookTellsUptoCardSaid : Prop := Claim7.holds Tryz.pinned (.plain (OpenSpec.upto lookTellsSpec)) lookTellsUptoCard

/-- THE SECOND FORM's CARD OF 'whisklaw30.LookLives'. -/
def lookLivesUptoCard : Claim7 := { stood := { row := lookLivesUptoRow, standIns := [], harness := (true, "e7eba082acadbb63f50a8ba4122b87d75411238e7a32216674d0ba510004e6b2"), looks := true }, kinds := [], alts := [], laidByText := true, laidKinds := [.data, .pinned], laidTests := true, laidLooks := .later }
def LookLivesUptoCardSaid : Prop := Claim7.holds Tryz.pinned (.plain (OpenSpec.upto lookLivesSpec)) lookLivesUptoCard

/-- THE SECOND FORM's CARD OF 'whisklaw30.LookCompares'. -/
def lookComparesUptoCard : Claim7 := { stood := { row := lookComparesUptoRow, standIns := [], harness := (true, "e7eba082acadbb63f50a8ba4122b87d75411238e7a32216674d0ba510004e6b2"), looks := true }, kinds := [], alts := [], laidByText := true, laidKinds := [.data, .pinned], laidTests := true, laidLooks := .later }
def LookComparesUptoCardSaid : Prop := Claim7.holds Tryz.pinned (.plain (OpenSpec.upto lookComparesSpec)) lookComparesUptoCard

/-- THE SECOND FORM's CARD OF 'whisklaw30.LookSame'. -/
def lookSameUptoCard : Claim7 := { stood := { row := lookSameUptoRow, standIns := [], harness := (true, "e7eba082acadbb63f50a8ba4122b87d75411238e7a32216674d0ba510004e6b2"), looks := true }, kinds := [], alts := [], laidByText := true, laidKinds := [.data, .pinned], laidTests := true, laidLooks := .later }
def LookSameUptoCardSaid : Prop := Claim7.holds Tryz.pinned (.plain (OpenSpec.upto lookSameSpec)) lookSameUptoCard

/-- THE SECOND FORM's CARD OF 'whisklaw30.LookKnown'. -/
def lookKnownUptoCard : Claim7 := { stood := { row := lookKnownUptoRow, standIns := [], harness := (true, "e7eba082acadbb63f50a8ba4122b87d75411238e7a32216674d0ba510004e6b2"), looks := true }, kinds := [], alts := [], laidByText := true, laidKinds := [.data, .pinned], laidTests := true, laidLooks := .later }
def LookKnownUptoCardSaid : Prop := Claim7.holds Tryz.pinned (.plain (OpenSpec.upto lookKnownSpec)) lookKnownUptoCard
end Rows
end Go.Proofs.YtgfiobhpipollaaGreatDoor
