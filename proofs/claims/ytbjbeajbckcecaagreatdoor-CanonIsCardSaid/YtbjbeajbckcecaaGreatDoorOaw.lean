/- A part of the proof: CanonIs holds. -/
import Derived.Test.YtbjbeajbckcecaaGreatDoorOav
import Derived.Lib.Builder
import Derived.Lib.AppendStr
import Derived.Lib.UnsafeStr
import Derived.Lib.MakeNoZero
import Derived.Laws.IdiomCopy
import Derived.Laws.StandIn
namespace Go.HL
open Go
def brows (l : List UInt8) : List (List Value) := l.map fun c => [Value.int .u8 c.toNat]
section
variable {P : Program} {σ : H}
end
end Go.HL

