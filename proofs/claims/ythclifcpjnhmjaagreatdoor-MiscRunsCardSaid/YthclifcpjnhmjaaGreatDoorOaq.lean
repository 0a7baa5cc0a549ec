/- A part of the proof: MiscRuns holds. -/
import Derived.Test.YthclifcpjnhmjaaGreatDoorOap
import Derived.Shelf.SlIter.Nil
import Derived.Test.YthclifcpjnhmjaaGreatDoorChecked

