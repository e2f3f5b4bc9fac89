/-
  Lemmas and contracts of single functions of this program, used by the proofs of its laws: what each call returns and what becomes of memory. Conditions: the hypotheses of each theorem.
-/
import Derived.Test.YtlabekemifccaaaDoorFrameT
import Derived.Test.YtlabekemifccaaaDoorMillA
namespace Go.Proofs.YtlabekemifccaaaDoor
open Go.ChangeShapes Go.WideShapes Go.ChangeAt Go.RowKit Go.Deep Go.Joins

end Go.Proofs.YtlabekemifccaaaDoor
