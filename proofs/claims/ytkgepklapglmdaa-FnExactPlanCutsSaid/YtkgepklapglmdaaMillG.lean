/-
  Lemmas and contracts of single functions of this program, used by the proofs of its laws: what each call returns and what becomes of memory. Conditions: the hypotheses of each theorem.
-/
import Derived.Test.YtkgepklapglmdaaMillP
namespace Go.Proofs.Ytkgepklapglmdaa
open Go.RowKit

-- areas are counted place by place: the cuts of a valid reel have no more than the reel
def rs : Nat → (Nat → Int) → Int
  | 0, _ => 0
  | n + 1, f => rs n f + f n
end Go.Proofs.Ytkgepklapglmdaa
