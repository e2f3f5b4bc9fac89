/-
  Lemmas and contracts of single functions of this program, used by the proofs of its laws: what each call returns and what becomes of memory. Conditions: the hypotheses of each theorem.
-/
import Derived.Test.YtfmpcghlchmomaaDoorLibA
import Derived.Test.YtfmpcghlchmomaaDoorLeafA
import Derived.Test.YtfmpcghlchmomaaDoorLitI
import Derived.Sort.OwnSortedInts
import Derived.Lib.OwnBridge
namespace Go.Proofs.YtfmpcghlchmomaaDoor
open Go.RowKit Go.Sort

end Go.Proofs.YtfmpcghlchmomaaDoor
