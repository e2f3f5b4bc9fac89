/-
  Lemmas and contracts of single functions of this program, used by the proofs of its laws: what each call returns and what becomes of memory. Conditions: the hypotheses of each theorem.
-/
import Derived.Test.YtlabekemifccaaaDoorTxt2
import Derived.Test.YtlabekemifccaaaDoorEvA
namespace Go.Proofs.YtlabekemifccaaaDoor
open Go.RowKit
attribute [local go_sem ↓] Go.wp_at_zero Go.wp_at_succ

theorem ev_inj {k a b c d f g k' a' b' c' d' f' g' : Int} (h : [k, a, b, c, d, f, g] = [k', a', b', c', d', f', g']) : k = k' ∧ a = a' ∧ b = b' ∧ c = c' ∧ d = d' ∧ f = f' ∧ g = g' := by simpa using h
end Go.Proofs.YtlabekemifccaaaDoor
