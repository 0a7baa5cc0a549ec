/- A part of the proof: CanonKnown holds. -/
import Derived.Test.YtbjbeajbckcecaaGreatDoorTav
import Derived.Lib.Builder
import Derived.Lib.AppendStr
import Derived.Lib.UnsafeStr
import Derived.Lib.MakeNoZero
import Derived.Laws.IdiomCopy
import Derived.Laws.StandIn
namespace Go.HL
open Go
section
variable {P : Program} {σ : H}
end
end Go.HL

