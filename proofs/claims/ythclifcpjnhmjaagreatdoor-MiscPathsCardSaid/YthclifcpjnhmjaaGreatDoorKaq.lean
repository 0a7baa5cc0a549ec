/- A part of the proof: MiscPaths holds. -/
import Derived.Test.YthclifcpjnhmjaaGreatDoorKap
import Derived.Shelf.SlIter.Nil
import Derived.Test.YthclifcpjnhmjaaGreatDoorChecked

