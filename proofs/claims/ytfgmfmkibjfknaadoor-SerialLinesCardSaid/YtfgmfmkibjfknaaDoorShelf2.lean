/-
More contracts of the library at this translation, laid by the kit.
-/
import Derived.Shelf.Strings.Repeat
import Derived.Test.YtfgmfmkibjfknaaDoorShelf
namespace Go.Proofs
open Go.Shelf

end Go.Proofs
