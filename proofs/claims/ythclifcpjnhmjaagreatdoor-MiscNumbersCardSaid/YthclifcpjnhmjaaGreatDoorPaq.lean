/- A part of the proof: MiscNumbers holds. -/
import Derived.Test.YthclifcpjnhmjaaGreatDoorPap
import Derived.Shelf.SlIter.Nil
import Derived.Test.YthclifcpjnhmjaaGreatDoorChecked

