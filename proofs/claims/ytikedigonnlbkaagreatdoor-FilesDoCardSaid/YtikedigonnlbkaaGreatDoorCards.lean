/-
  DERIVED. GIVEN WITH THE SEED: THE CARDS: each row of YtikedigonnlbkaaGreatDoorRows.lean that lists a variable, with what it lists TIED to the program's text (the seventh form; the later family's looks); each row that meets fmt, with fmt's text TOLD by the authors' own Lean function (tested against real Go, not proved from fmt's source: count such statements apart). THE CARD IS WHAT COUNTS. Prove the row's statement (the work); the ties are given (YtikedigonnlbkaaGreatDoorTie.lean); close each card by the builder's one call (the guide's Derived/Test/ToyasCard.lean, 'card_holds'). Laid BY PROGRAM, IN A SANDBOX (cutbox-door.mjs). By AI agents, Wed Nov 11 2026. No macro, syntax, notation, axiom, sorry.
-/
import Derived.Test.YtikedigonnlbkaaGreatDoorRows
import GoSem.ClaimSeven
namespace Go.Proofs.YtikedigonnlbkaaGreatDoor
namespace Rows

/-- THE TIED CARD OF 'whisklaw19.FilesDo'. -/
def filesDoCard : Claim7 := { stood := { row := filesDoRow, standIns := [], harness := (true, "fd7c9a22eea305869754e2597220ff3d33ca869b264beabcdc0a15999364081d"), looks := true }, kinds := [], alts := [], laidByText := true, laidKinds := [.data, .data, .data, .data, .sentinel, .sentinel, .pinned], laidTests := true, laidLooks := .later }
def FilesDoCardSaid : Prop := Claim7.holds Tryz.pinned (.plain (OpenSpec.ofChange filesDoSpec)) filesDoCard

/-- THE SECOND FORM's CARD OF 'whisklaw19.FilesDo'. -/
def filesDoUptoCard : Claim7 := { stood := { row := filesDoUptoRow, standIns := [], harness := (true, "fd7c9a22eea305869754e2597220ff3d33ca869b264beabcdc0a15999364081d"), looks := true }, kinds := [], alts := [], laidByText := true, laidKinds := [.data, .data, .data, .data, .sentinel, .sentinel, .pinned], laidTests := true, laidLooks := .later }
def FilesDoUptoCardSaid : Prop := Claim7.holds Tryz.pinned (.plain (OpenSpec.upto filesDoSpec)) filesDoUptoCard
end Rows
end Go.Proofs.YtikedigonnlbkaaGreatDoor
