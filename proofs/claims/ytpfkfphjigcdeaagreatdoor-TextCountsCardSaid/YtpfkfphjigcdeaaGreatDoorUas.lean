/- A part of a proof. -/
import Derived.Test.YtpfkfphjigcdeaaGreatDoorUar
import Derived.Shelf.SlIter.Nil
import Derived.Test.YtpfkfphjigcdeaaGreatDoorChecked

