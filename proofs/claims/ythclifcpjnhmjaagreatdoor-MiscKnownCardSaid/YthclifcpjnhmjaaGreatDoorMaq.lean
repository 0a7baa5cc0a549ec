/- A part of the proof: MiscKnown holds. -/
import Derived.Test.YthclifcpjnhmjaaGreatDoorMap
import Derived.Shelf.SlIter.Nil
import Derived.Test.YthclifcpjnhmjaaGreatDoorChecked

