/-
The walk of SerialParts and the reading of its document.
-/
import Derived.Test.YtpbpcmmlloholaaDoorSerialParts
import Derived.Test.YtpbpcmmlloholaaDoorDocLift
