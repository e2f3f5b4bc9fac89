/-
  Lemmas and contracts of single functions of this program, used by the proofs of its laws: what each call returns and what becomes of memory. Conditions: the hypotheses of each theorem.
-/
import Derived.Test.YtkgepklapglmdaaGreatDoorMReel
import Derived.BigQuiet
namespace Go.Proofs.YtkgepklapglmdaaGreatDoor
open Go.RowKit
attribute [local go_sem ↓] Go.wp_at_zero Go.wp_at_succ

def areaT (p : List Int) : Int := (gi p 1 - gi p 0) * (gi p 3 - gi p 2)
def areaL (ps : List (List Int)) : Nat → Int
  | 0 => 0
  | k + 1 => areaL ps k + areaT (gr ps k)
theorem pv_rng {p : List Int} {W L : Int} (h : pv p W L = true) : 0 ≤ gi p 0 ∧ gi p 0 < gi p 1 ∧ gi p 1 ≤ W ∧ 0 ≤ gi p 2 ∧ gi p 2 < gi p 3 ∧ gi p 3 ≤ L := insB_true h
theorem areaT_rng {p : List Int} {W L : Int} (h : pv p W L = true) (hW : W ≤ 60) (hL : L ≤ 400) : 0 ≤ areaT p ∧ areaT p ≤ 24000 := by
  have := pv_rng h
  unfold areaT
  exact ⟨Int.mul_nonneg (by omega) (by omega), Int.le_trans (Int.mul_le_mul (show gi p 1 - gi p 0 ≤ 60 by omega) (show gi p 3 - gi p 2 ≤ 400 by omega) (by omega) (by omega)) (by decide)⟩
end Go.Proofs.YtkgepklapglmdaaGreatDoor
