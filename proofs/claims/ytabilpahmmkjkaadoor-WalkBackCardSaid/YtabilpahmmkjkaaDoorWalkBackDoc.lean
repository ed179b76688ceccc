/-
The walk of WalkBack and the reading of its document.
-/
import Derived.Test.YtabilpahmmkjkaaDoorWalkBack
import Derived.Test.YtabilpahmmkjkaaDoorDocLift
