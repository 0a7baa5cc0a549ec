/- A part of the proof: MiscTests holds. -/
import Derived.Test.YthclifcpjnhmjaaGreatDoorLap
import Derived.Shelf.SlIter.Nil
import Derived.Test.YthclifcpjnhmjaaGreatDoorChecked

