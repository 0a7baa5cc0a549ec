/-
  DERIVED. GIVEN WITH THE SEED: THE CARDS: each row of YtpfkfphjigcdeaaGreatDoorRows.lean that lists a variable, with what it lists TIED to the program's text (the seventh form; the later family's looks); each row that meets fmt, with fmt's text TOLD by the authors' own Lean function (tested against real Go, not proved from fmt's source: count such statements apart). THE CARD IS WHAT COUNTS. Prove the row's statement (the work); the ties are given (YtpfkfphjigcdeaaGreatDoorTie.lean); close each card by the builder's one call (the guide's Derived/Test/ToyasCard.lean, 'card_holds'). Laid BY PROGRAM, IN A SANDBOX (cutbox-door.mjs). By AI agents, Wed Nov 11 2026. No macro, syntax, notation, axiom, sorry.
-/
import Derived.Test.YtpfkfphjigcdeaaGreatDoorRows
import GoSem.ClaimSeven
namespace Go.Proofs.YtpfkfphjigcdeaaGreatDoor
namespace Rows

/-- THE TIED CARD OF 'whisklaw18.TextSorts'. -/
def textSortsCard : Claim7 := { stood := { row := textSortsRow, standIns := [], harness := (true, "653c36f5c3e34b3e74563c9196def6911d946e80f1bcaa9acb85d006da60fad6"), looks := true }, kinds := [], alts := [], laidByText := true, laidKinds := [.data, .data, .widerDeep, .widerDeep, .data, .data, .data, .data, .data, .data, .sentinel, .sentinel, .pinned, .pinned, .pinned], laidTests := true, laidLooks := .later }
def TextSortsCardSaid : Prop := Claim7.holds Tryz.pinned (.plain (OpenSpec.ofChange textSortsSpec)) textSortsCard

/-- THE TIED CARD OF 'whisklaw18.TextParts'. -/
def textPartsCard : Claim7 := { stood := { row := textPartsRow, standIns := [], harness := (true, "653c36f5c3e34b3e74563c9196def6911d946e80f1bcaa9acb85d006da60fad6"), looks := true }, kinds := [], alts := [], laidByText := true, laidKinds := [.data, .data, .widerDeep, .widerDeep, .data, .data, .data, .data, .data, .data, .sentinel, .sentinel, .pinned, .pinned, .pinned], laidTests := true, laidLooks := .later }
def TextPartsCardSaid : Prop := Claim7.holds Tryz.pinned (.plain (OpenSpec.ofChange textPartsSpec)) textPartsCard

/-- THE TIED CARD OF 'whisklaw18.TextCounts'. -/
def textCountsCard : Claim7 := { stood := { row := textCountsRow, standIns := [], harness := (true, "653c36f5c3e34b3e74563c9196def6911d946e80f1bcaa9acb85d006da60fad6"), looks := true }, kinds := [], alts := [], laidByText := true, laidKinds := [.data, .data, .widerDeep, .widerDeep, .data, .data, .data, .data, .data, .data, .sentinel, .sentinel, .pinned, .pinned, .pinned], laidTests := true, laidLooks := .later }
def TextCountsCardSaid : Prop := Claim7.holds Tryz.pinned (.plain (OpenSpec.ofChange textCountsSpec)) textCountsCard

/-- THE SECOND FORM's CARD OF 'whisklaw18.TextSorts'. -/
def textSortsUptoCard : Claim7 := { stood := { row := textSortsUptoRow, standIns := [], harness := (true, "653c36f5c3e34b3e74563c9196def6911d946e80f1bcaa9acb85d006da60fad6"), looks := true }, kinds := [], alts := [], laidByText := true, laidKinds := [.data, .data, .widerDeep, .widerDeep, .data, .data, .data, .data, .data, .data, .sentinel, .sentinel, .pinned, .pinned, .pinned], laidTests := true, laidLooks := .later }
def TextSortsUptoCardSaid : Prop := Claim7.holds Tryz.pinned (.plain (OpenSpec.upto textSortsSpec)) textSortsUptoCard

/-- THE SECOND FORM's CARD OF 'whisklaw18.TextParts'. -/
def textPartsUptoCard : Claim7 := { stood := { row := textPartsUptoRow, standIns := [], harness := (true, "653c36f5c3e34b3e74563c9196def6911d946e80f1bcaa9acb85d006da60fad6"), looks := true }, kinds := [], alts := [], laidByText := true, laidKinds := [.data, .data, .widerDeep, .widerDeep, .data, .data, .data, .data, .data, .data, .sentinel, .sentinel, .pinned, .pinned, .pinned], laidTests := true, laidLooks := .later }
def TextPartsUptoCardSaid : Prop := Claim7.holds Tryz.pinned (.plain (OpenSpec.upto textPartsSpec)) textPartsUptoCard

/-- THE SECOND FORM's CARD OF 'whisklaw18.TextCounts'. -/
def textCountsUptoCard : Claim7 := { stood := { row := textCountsUptoRow, standIns := [], harness := (true, "653c36f5c3e34b3e74563c9196def6911d946e80f1bcaa9acb85d006da60fad6"), looks := true }, kinds := [], alts := [], laidByText := true, laidKinds := [.data, .data, .widerDeep, .widerDeep, .data, .data, .data, .data, .data, .data, .sentinel, .sentinel, .pinned, .pinned, .pinned], laidTests := true, laidLooks := .later }
def TextCountsUptoCardSaid : Prop := Claim7.holds Tryz.pinned (.plain (OpenSpec.upto textCountsSpec)) textCountsUptoCard
end Rows
end Go.Proofs.YtpfkfphjigcdeaaGreatDoor
