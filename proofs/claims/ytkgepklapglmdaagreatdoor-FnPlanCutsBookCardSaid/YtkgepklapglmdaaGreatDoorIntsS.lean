/-
  Lemmas and contracts of single functions of this program, used by the proofs of its laws: what each call returns and what becomes of memory. Conditions: the hypotheses of each theorem.
-/
import Derived.Test.YtkgepklapglmdaaGreatDoorLeafA
import Derived.Test.YtkgepklapglmdaaGreatDoorOwn
namespace Go.Proofs.YtkgepklapglmdaaGreatDoor
open Go.RowKit

theorem take_set_succ (xs : List Int) (ys : List Int) (k : Nat) (h : k < xs.length) (hy : k < ys.length) : (xs.take k ++ ys.drop k).set k (gi xs k) = xs.take (k + 1) ++ ys.drop (k + 1) := by
  rw [take_gi h, List.set_append_right _ _ (by rw [List.length_take]; omega), List.length_take, Nat.min_eq_left (by omega), Nat.sub_self, drop_gi hy, List.set_cons_zero, List.append_assoc]; rfl

end Go.Proofs.YtkgepklapglmdaaGreatDoor
