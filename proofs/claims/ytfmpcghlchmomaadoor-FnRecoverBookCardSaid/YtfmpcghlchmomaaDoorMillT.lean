/-
  Lemmas and contracts of single functions of this program, used by the proofs of its laws: what each call returns and what becomes of memory. Conditions: the hypotheses of each theorem.
-/
import Derived.Test.YtfmpcghlchmomaaDoorMillR
namespace Go.Proofs.YtfmpcghlchmomaaDoor
open Go.RowKit
attribute [local go_sem ↓] Go.wp_at_zero Go.wp_at_succ

/-- what a call returns that makes something new of a mill -/
def OpPost (w : World) (r : Option Mil) (e : Ending) (w' : World) : Prop :=
  ∃ v', e = .returned (.tuple #[.agg #[v', .int .i64 (r.getD Mil.nil).a, .int .i64 (r.getD Mil.nil).b, .int .i64 (r.getD Mil.nil).z], .bool r.isSome]) ∧ OwnE w' w.heap.size w'.heap.size 96 102 36 v' (r.getD Mil.nil).es ∧ Below w.heap.size w w'
theorem OpPost.none {w w' : World} (h : Below w.heap.size w w') : OpPost w none (.returned (.tuple #[.agg #[.slice none 0 0, .int .i64 0, .int .i64 0, .int .i64 0], .bool false])) w' := ⟨_, rfl, OwnE.nil _ _ _ _ _ _, h⟩
theorem OpPost.some {w w' : World} {v : Value} {es : List Ent} {a b z : Int} (h : Below w.heap.size w w') (he : OwnE w' w.heap.size w'.heap.size 96 102 36 v es) : OpPost w (some ⟨es, a, b, z⟩) (.returned (.tuple #[.agg #[v, .int .i64 a, .int .i64 b, .int .i64 z], .bool true])) w' := ⟨_, rfl, he, h⟩
end Go.Proofs.YtfmpcghlchmomaaDoor
