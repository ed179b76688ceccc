/-
The walk of ApartTwice and the reading of its arguments.
-/
import Derived.Test.YthkeciodjomakaaDoorApartTwice
import Derived.Test.YthkeciodjomakaaDoorEditLift
