/-
  Lemmas and contracts of single functions of this program, used by the proofs of its laws: what each call returns and what becomes of memory. Conditions: the hypotheses of each theorem.
-/
import Derived.Test.YtkgepklapglmdaaWords
import Derived.Laws.CopyOwn
import Derived.Lib.AppendZeros
import Derived.Lib.SliceRun
import Derived.Lib.Overlaps
namespace Go.Proofs.Ytkgepklapglmdaa
open Go.RowKit

section
variable {P : Program}
end
end Go.Proofs.Ytkgepklapglmdaa
