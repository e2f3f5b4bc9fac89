/-
  Lemmas and contracts of single functions of this program, used by the proofs of its laws: what each call returns and what becomes of memory. Conditions: the hypotheses of each theorem.
-/
import Derived.Test.YtkgepklapglmdaaMillA
import Derived.Test.YtkgepklapglmdaaMReel
namespace Go.Proofs.Ytkgepklapglmdaa
open Go.RowKit
attribute [local go_sem ↓] Go.wp_at_zero Go.wp_at_succ

theorem SlEntry : SlT Try.prog 30 56 (.agg #[.int .i64 0, .int .i64 0, .int .i64 0, .slice none 0 0, .slice none 0 0]) 5 72 := ⟨Try.underlying30, by kernel_rfl, rfl, by omega⟩
end Go.Proofs.Ytkgepklapglmdaa
