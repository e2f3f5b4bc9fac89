/-
  Lemmas and contracts of single functions of this program, used by the proofs of its laws: what each call returns and what becomes of memory. Conditions: the hypotheses of each theorem.
-/
import Derived.Test.YtfmpcghlchmomaaDoorMillH
import Derived.Test.YtfmpcghlchmomaaDoorMillG
import Derived.Test.YtfmpcghlchmomaaDoorSlitL
namespace Go.Proofs.YtfmpcghlchmomaaDoor
open Go.RowKit

/-! the program's place of a new reel is the reference's -/
/-! what an event does to the areas -/
/-! a reel that comes and is shipped at once -/
/-! books -/
def Evt.row (e : Evt) : List Int := [e.k, e.lb, e.l, e.r, e.f, e.t, e.g]
def evT (evs : List Evt) : List (List Int) := evs.map Evt.row
theorem evT_len (evs : List Evt) : (evT evs).length = evs.length := by unfold evT; rw [List.length_map]
theorem evT_snoc (evs : List Evt) (e : Evt) : evT (evs ++ [e]) = evT evs ++ [[e.k, e.lb, e.l, e.r, e.f, e.t, e.g]] := by unfold evT; rw [List.map_append]; rfl
theorem runB_snoc : ∀ (m : Mil) (evs : List Evt) (e : Evt), runB m (evs ++ [e]) = (runB m evs).bind fun m' => apE m' e
  | m, [], e => by
    show (match apE m e with
      | some m' => runB m' []
      | none => none) = apE m e
    cases apE m e <;> rfl
  | m, x :: t, e => by
    rw [List.cons_append, runB, runB]
    cases apE m x with
    | none => rfl
    | some m' => exact runB_snoc m' t e
theorem runB_next {m m1 m2 : Mil} {evs : List Evt} {e : Evt} (h : runB m evs = some m1) (h2 : apE m1 e = some m2) : runB m (evs ++ [e]) = some m2 := by
  rw [runB_snoc, h]; exact h2
theorem nil_ok : Mil.nil.ok = true := by
  refine vMill_iff.2 ⟨fun k hk => absurd hk (by simp [Mil.nil]), by simp [Mil.nil], ?_, ?_, ?_, ?_⟩ <;> simp [Mil.nil, heldL]
end Go.Proofs.YtfmpcghlchmomaaDoor
