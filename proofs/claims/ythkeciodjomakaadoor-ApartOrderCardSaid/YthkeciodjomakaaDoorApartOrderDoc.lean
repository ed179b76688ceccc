/-
The walk of ApartOrder and the reading of its arguments.
-/
import Derived.Test.YthkeciodjomakaaDoorApartOrder
import Derived.Test.YthkeciodjomakaaDoorEditLift
