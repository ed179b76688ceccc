/-
The walk of DomStays and the reading of its arguments.
-/
import Derived.Test.YtmemadajjmmlpaaDoorDomStays
import Derived.Test.YtmemadajjmmlpaaDoorEditLift
