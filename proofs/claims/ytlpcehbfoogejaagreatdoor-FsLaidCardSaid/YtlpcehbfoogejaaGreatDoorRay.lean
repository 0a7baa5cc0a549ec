/- A part of the proof: whisklaw08.FsLaid: what Lay lays lies there, just so, or nothing was laid. -/
import Derived.Test.YtlpcehbfoogejaaGreatDoorRax
import Derived.Test.YtlpcehbfoogejaaGreatDoorCards
import Derived.Test.YtlpcehbfoogejaaGreatDoorTie
import Derived.WalkKit
import Derived.ProofKit
import Derived.OpenShut
import Derived.Deep.DeepHandedRow
import Derived.Lib.LaidTab
/- THE CARDS: what they have in common. -/
set_option maxRecDepth 100000
namespace Go.Proofs.YtlpcehbfoogejaaGreatDoor
open Go Go.HL Go.Wk Go.ChangeShapes Go.WideShapes Go.ChangeAt Go.RowKit
theorem own : ownKnob Tryz.prog.godebug = none := by kernel_rfl
theorem laidOut : laidOutB Tryz.prog = true := by kernel_rfl
def accCells : Array Value := #[.int .u8 128, .int .u8 191, .int .u8 160, .int .u8 191, .int .u8 128, .int .u8 159, .int .u8 144, .int .u8 191, .int .u8 128, .int .u8 143, .int .u8 0, .int .u8 0, .int .u8 0, .int .u8 0, .int .u8 0, .int .u8 0, .int .u8 0, .int .u8 0, .int .u8 0, .int .u8 0, .int .u8 0, .int .u8 0, .int .u8 0, .int .u8 0, .int .u8 0, .int .u8 0, .int .u8 0, .int .u8 0, .int .u8 0, .int .u8 0, .int .u8 0, .int .u8 0]
def firstCells : Array Value := ⟨Go.Pinned.utf8FirstZ.map fun (n : Nat) => .int .u8 (n : Int)⟩
def setC (cs : Array Value) : Obj → Obj
  | .cells _ t frozen => .cells cs t frozen
  | o => o
/-- a world for the witness: the two tables hold what they must -/
noncomputable def laidWorld (os : Os) : World :=
  { World.holding Tryz.prog os ⟨#[], #[], []⟩ with heap := ((World.holding Tryz.prog os ⟨#[], #[], []⟩).heap.modify 1 (setC firstCells)).modify 2 (setC accCells) }
end Go.Proofs.YtlpcehbfoogejaaGreatDoor

