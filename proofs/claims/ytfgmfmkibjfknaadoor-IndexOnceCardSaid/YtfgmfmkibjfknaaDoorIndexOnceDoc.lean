/-
The walk of IndexOnce and the reading of its document.
-/
import Derived.Test.YtfgmfmkibjfknaaDoorIndexOnce
import Derived.Test.YtfgmfmkibjfknaaDoorDocLift
