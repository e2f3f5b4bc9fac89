/-
  Texts merged into one: what each function does, and plain lemmas. No condition.
-/
import Derived.Test.YtkgepklapglmdaaGreatDoorTxtI
import Derived.Test.YtkgepklapglmdaaGreatDoorEvA
import Derived.Laws.StructEq
import Derived.Test.YtkgepklapglmdaaGreatDoorTxJ
namespace Go.Proofs.YtkgepklapglmdaaGreatDoor
open Go.RowKit
attribute [local go_sem ↓] Go.wp_at_zero Go.wp_at_succ

end Go.Proofs.YtkgepklapglmdaaGreatDoor

namespace Go.Proofs.YtkgepklapglmdaaGreatDoor
open Go.RowKit
attribute [local go_sem ↓] Go.wp_at_zero Go.wp_at_succ

end Go.Proofs.YtkgepklapglmdaaGreatDoor

namespace Go.Proofs.YtkgepklapglmdaaGreatDoor
open Go.RowKit
attribute [local go_sem ↓] Go.wp_at_zero Go.wp_at_succ

/-! the book that a text tells: its text is a beginning of the text; a torn text tells a beginning of it -/
theorem take_of_prefix {a b : List UInt8} (h : a <+: b) : a.length ≤ b.length ∧ b.take a.length = a := by
  refine ⟨h.length_le, ?_⟩
  obtain ⟨s, hs⟩ := h
  rw [← hs, List.take_left]
theorem fmtB_lenQ (rows : List (List Int)) : (fmtB rows).length ≤ 6060 := by
  unfold fmtB
  split
  · rename_i h
    have key : ∀ rows : List (List Int), (fmtJ rows).length ≤ 101 * rows.length := by
      intro rows
      induction rows with
      | nil => simp [fmtJ]
      | cons e t ih =>
        have h1 : fmtJ (e :: t) = fmtE e ++ [10] ++ fmtJ t := by simp [fmtJ]
        have h2 := fmtE_lenJ e
        rw [h1, List.length_append, List.length_append, List.length_singleton, List.length_cons]
        omega
    have := key rows
    omega
  · simp
end Go.Proofs.YtkgepklapglmdaaGreatDoor
