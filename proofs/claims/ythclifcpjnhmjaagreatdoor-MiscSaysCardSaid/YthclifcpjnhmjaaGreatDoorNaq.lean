/- A part of the proof: MiscSays holds. -/
import Derived.Test.YthclifcpjnhmjaaGreatDoorNap
import Derived.Shelf.SlIter.Nil
import Derived.Test.YthclifcpjnhmjaaGreatDoorChecked

