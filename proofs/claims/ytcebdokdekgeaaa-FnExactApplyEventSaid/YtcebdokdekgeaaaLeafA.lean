/-
  Lemmas and contracts of single functions of this program, used by the proofs of its laws: what each call returns and what becomes of memory. Conditions: the hypotheses of each theorem.
-/
import Derived.Test.YtcebdokdekgeaaaRows
import Derived.Test.YtcebdokdekgeaaaWords
import Derived.Deep.QuietTactic
import Derived.BigQuiet
namespace Go.Proofs.Ytcebdokdekgeaaa
open Go.RowKit

theorem SlI : SlT Try.prog 49 3 (.int .i64 0) 1 8 := ⟨Try.underlying49, by kernel_rfl, rfl, by omega⟩

theorem inRange_any (n lo hi : Int) (w : World) :
    Calls Try.prog 69 #[.int .i64 n, .int .i64 lo, .int .i64 hi] w fun e w' => e = .returned (.bool (inR lo hi n)) ∧ w = w' := by
  go_enter Try.func69, Try.ntmps69
  go_wp2
  all_goals go_ret
  all_goals exact ⟨by unfold inR; simp [*] <;> omega, rfl⟩










end Go.Proofs.Ytcebdokdekgeaaa
