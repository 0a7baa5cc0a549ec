/- A part of a proof. -/
import Derived.Test.YtpfkfphjigcdeaaGreatDoorVbd
namespace Go.HL
open Go Go.Wk
section
variable {P : Program}
end
end Go.HL

