/- A part of a proof. -/
import Derived.Test.YtpfkfphjigcdeaaGreatDoorTar
import Derived.Shelf.SlIter.Nil
import Derived.Test.YtpfkfphjigcdeaaGreatDoorChecked

