/-
The walk of SpanCut and the reading of its arguments.
-/
import Derived.Test.YtcnogokemilhnaaDoorSpanCut
import Derived.Test.YtcnogokemilhnaaDoorSpanStaysDoc
