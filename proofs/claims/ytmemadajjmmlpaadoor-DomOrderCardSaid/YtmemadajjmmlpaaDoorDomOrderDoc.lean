/-
The walk of DomOrder and the reading of its document.
-/
import Derived.Test.YtmemadajjmmlpaaDoorDomOrder
import Derived.Test.YtmemadajjmmlpaaDoorDocLift
