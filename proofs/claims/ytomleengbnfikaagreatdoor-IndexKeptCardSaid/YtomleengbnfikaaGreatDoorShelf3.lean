/-
More contracts of the library at this translation, laid by the kit.
-/
import Derived.Shelf.Strings.FieldsFuncGrows
import Derived.Test.YtomleengbnfikaaGreatDoorShelf
namespace Go.Proofs
open Go.Shelf

end Go.Proofs
