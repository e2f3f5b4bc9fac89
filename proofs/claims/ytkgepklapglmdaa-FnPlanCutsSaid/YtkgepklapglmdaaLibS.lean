/-
  Lemmas and contracts of single functions of this program, used by the proofs of its laws: what each call returns and what becomes of memory. Conditions: the hypotheses of each theorem.
-/
import Derived.Test.YtkgepklapglmdaaLibA
import Derived.Test.YtkgepklapglmdaaLeafA
import Derived.Test.YtkgepklapglmdaaLitI
import Derived.Sort.OwnSortedInts
import Derived.Lib.OwnBridge
namespace Go.Proofs.Ytkgepklapglmdaa
open Go.RowKit Go.Sort

end Go.Proofs.Ytkgepklapglmdaa
