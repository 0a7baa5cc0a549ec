/- A part of a proof. -/
import Derived.Test.YtpfkfphjigcdeaaGreatDoorVas
import Derived.Shelf.SlIter.Nil
import Derived.Test.YtpfkfphjigcdeaaGreatDoorChecked

