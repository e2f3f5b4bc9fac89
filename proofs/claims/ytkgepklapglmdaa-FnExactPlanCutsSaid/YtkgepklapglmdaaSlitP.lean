/-
  Lemmas and contracts of single functions of this program, used by the proofs of its laws: what each call returns and what becomes of memory. Conditions: the hypotheses of each theorem.
-/
import Derived.Test.YtkgepklapglmdaaSlitC
namespace Go.Proofs.Ytkgepklapglmdaa
open Go.RowKit

end Go.Proofs.Ytkgepklapglmdaa
