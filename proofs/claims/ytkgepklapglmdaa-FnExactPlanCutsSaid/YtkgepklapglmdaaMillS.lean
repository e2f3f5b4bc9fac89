/-
  Lemmas and contracts of single functions of this program, used by the proofs of its laws: what each call returns and what becomes of memory. Conditions: the hypotheses of each theorem.
-/
import Derived.Test.YtkgepklapglmdaaMillH
import Derived.Test.YtkgepklapglmdaaMillG
import Derived.Test.YtkgepklapglmdaaSlitL
namespace Go.Proofs.Ytkgepklapglmdaa
open Go.RowKit

/-! the program's place of a new reel is the reference's -/
/-! what an event does to the areas -/
/-! a reel that comes and is shipped at once -/
/-! books -/
def Evt.row (e : Evt) : List Int := [e.k, e.lb, e.l, e.r, e.f, e.t, e.g]
def evT (evs : List Evt) : List (List Int) := evs.map Evt.row
theorem evT_len (evs : List Evt) : (evT evs).length = evs.length := by unfold evT; rw [List.length_map]
theorem evT_snoc (evs : List Evt) (e : Evt) : evT (evs ++ [e]) = evT evs ++ [[e.k, e.lb, e.l, e.r, e.f, e.t, e.g]] := by unfold evT; rw [List.map_append]; rfl
end Go.Proofs.Ytkgepklapglmdaa
