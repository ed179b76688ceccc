/-
The walk of DomBoth and the reading of its arguments.
-/
import Derived.Test.YtmemadajjmmlpaaDoorDomBoth
import Derived.Test.YtmemadajjmmlpaaDoorEditLift
