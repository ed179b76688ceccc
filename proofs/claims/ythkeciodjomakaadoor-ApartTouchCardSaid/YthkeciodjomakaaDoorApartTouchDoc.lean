/-
The walk of ApartTouch and the reading of its arguments.
-/
import Derived.Test.YthkeciodjomakaaDoorApartTouch
import Derived.Test.YthkeciodjomakaaDoorEditLift
