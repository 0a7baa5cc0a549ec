/- A part of the proof: FilesKnown holds. -/
import Derived.Test.YtbdlkofldmhoaaaGreatDoorNav
import Derived.Lib.Builder
import Derived.Lib.AppendStr
import Derived.Lib.UnsafeStr
import Derived.Lib.MakeNoZero
import Derived.Laws.IdiomCopy
import Derived.Laws.StandIn
namespace Go.HL
open Go
def brows (l:List UInt8):List (List Value):=l.map fun c=>[Value.int .u8 c.toNat]
theorem brows_len (l:List UInt8):(brows l).length=l.length:=by simp[brows]
section
variable {P : Program} {σ : H}
end
end Go.HL

