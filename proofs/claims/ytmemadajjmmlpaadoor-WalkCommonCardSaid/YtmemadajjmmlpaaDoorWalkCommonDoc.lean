/-
The walk of WalkCommon and the reading of its document.
-/
import Derived.Test.YtmemadajjmmlpaaDoorWalkCommon
import Derived.Test.YtmemadajjmmlpaaDoorDocLift
