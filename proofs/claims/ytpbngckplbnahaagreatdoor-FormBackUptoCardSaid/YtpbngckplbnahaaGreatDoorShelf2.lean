/-
More contracts of the library at this translation, laid by the kit.
-/
import Derived.Shelf.Strings.MapAny
import Derived.Test.YtpbngckplbnahaaGreatDoorShelf
namespace Go.Proofs
open Go.Shelf

end Go.Proofs
