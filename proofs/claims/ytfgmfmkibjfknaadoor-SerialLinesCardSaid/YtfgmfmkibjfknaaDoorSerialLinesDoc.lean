/-
The walk of SerialLines and the reading of its documents.
-/
import Derived.Test.YtfgmfmkibjfknaaDoorSerialLines
import Derived.Test.YtfgmfmkibjfknaaDoorDocLift
