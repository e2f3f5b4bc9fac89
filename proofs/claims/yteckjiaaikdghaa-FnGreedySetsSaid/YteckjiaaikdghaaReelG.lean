/-
  Lemmas and contracts of single functions of this program, used by the proofs of its laws: what each call returns and what becomes of memory. Conditions: the hypotheses of each theorem.
-/
import Derived.Test.YteckjiaaikdghaaReelF
namespace Go.Proofs.Yteckjiaaikdghaa
open Go.RowKit
attribute [local go_sem ↓] Go.wp_at_zero Go.wp_at_succ

def pv (p : List Int) (W L : Int) : Bool := insB (gi p 0) (gi p 1) (gi p 2) (gi p 3) W L
end Go.Proofs.Yteckjiaaikdghaa
