/-
The walk of WalkOrder and the reading of its document.
-/
import Derived.Test.YtabilpahmmkjkaaDoorWalkOrder
import Derived.Test.YtabilpahmmkjkaaDoorDocLift
