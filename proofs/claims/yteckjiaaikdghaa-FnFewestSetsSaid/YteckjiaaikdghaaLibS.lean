/-
  Lemmas and contracts of single functions of this program, used by the proofs of its laws: what each call returns and what becomes of memory. Conditions: the hypotheses of each theorem.
-/
import Derived.Test.YteckjiaaikdghaaLibA
import Derived.Test.YteckjiaaikdghaaLeafA
import Derived.Test.YteckjiaaikdghaaLitI
import Derived.Sort.OwnSortedInts
import Derived.Lib.OwnBridge
namespace Go.Proofs.Yteckjiaaikdghaa
open Go.RowKit Go.Sort

/-- the ints, sorted -/
def sortL (xs : List Int) : List Int := xs.mergeSort fun x y => decide (x ≤ y)

end Go.Proofs.Yteckjiaaikdghaa
