/-
  Lemmas and contracts of single functions of this program, used by the proofs of its laws: what each call returns and what becomes of memory. Conditions: the hypotheses of each theorem.
-/
import Derived.Test.YtkgepklapglmdaaGreatDoorLibA
import Derived.Test.YtkgepklapglmdaaGreatDoorLeafA
import Derived.Test.YtkgepklapglmdaaGreatDoorLitI
import Derived.Sort.OwnSortedInts
import Derived.Lib.OwnBridge
namespace Go.Proofs.YtkgepklapglmdaaGreatDoor
open Go.RowKit Go.Sort

end Go.Proofs.YtkgepklapglmdaaGreatDoor
