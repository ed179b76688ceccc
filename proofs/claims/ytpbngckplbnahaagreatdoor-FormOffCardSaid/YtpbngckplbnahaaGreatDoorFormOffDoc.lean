/-
The walk of FormOff and the reading of its arguments.
-/
import Derived.Test.YtpbngckplbnahaaGreatDoorFormOff
import Derived.Test.YtpbngckplbnahaaGreatDoorDocLift
