/-
The walk of IndexKept and the reading of its arguments.
-/
import Derived.Test.YtomleengbnfikaaGreatDoorIndexKept
import Derived.Test.YtomleengbnfikaaGreatDoorEditLift
