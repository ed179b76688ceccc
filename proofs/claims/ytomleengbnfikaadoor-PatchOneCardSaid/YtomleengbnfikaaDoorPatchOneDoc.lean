/-
The walk of PatchOne and the reading of its arguments.
-/
import Derived.Test.YtomleengbnfikaaDoorPatchOne
import Derived.Test.YtomleengbnfikaaDoorEditLift
