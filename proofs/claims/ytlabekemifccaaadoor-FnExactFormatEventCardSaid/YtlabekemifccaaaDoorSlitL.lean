/-
  Lemmas and contracts of single functions of this program, used by the proofs of its laws: what each call returns and what becomes of memory. Conditions: the hypotheses of each theorem.
-/
import Derived.Test.YtlabekemifccaaaDoorMReel
import Derived.BigQuiet
namespace Go.Proofs.YtlabekemifccaaaDoor
open Go.RowKit
attribute [local go_sem ↓] Go.wp_at_zero Go.wp_at_succ

def areaT (p : List Int) : Int := (gi p 1 - gi p 0) * (gi p 3 - gi p 2)
def areaL (ps : List (List Int)) : Nat → Int
  | 0 => 0
  | k + 1 => areaL ps k + areaT (gr ps k)
theorem pv_rng {p : List Int} {W L : Int} (h : pv p W L = true) : 0 ≤ gi p 0 ∧ gi p 0 < gi p 1 ∧ gi p 1 ≤ W ∧ 0 ≤ gi p 2 ∧ gi p 2 < gi p 3 ∧ gi p 3 ≤ L := insB_true h
theorem areaT_rng {p : List Int} {W L : Int} (h : pv p W L = true) (hW : W ≤ 60) (hL : L ≤ 400) : 0 ≤ areaT p ∧ areaT p ≤ 24000 := by
  have := pv_rng h
  unfold areaT
  exact ⟨Int.mul_nonneg (by omega) (by omega), Int.le_trans (Int.mul_le_mul (show gi p 1 - gi p 0 ≤ 60 by omega) (show gi p 3 - gi p 2 ≤ 400 by omega) (by omega) (by omega)) (by decide)⟩
theorem areaL_rng {ps : List (List Int)} {n : Nat} (h : ∀ j, j < n → 0 ≤ areaT (gr ps j) ∧ areaT (gr ps j) ≤ 24000) : ∀ {k : Nat}, k ≤ n → 0 ≤ areaL ps k ∧ areaL ps k ≤ 24000 * k
  | 0, _ => by simp [areaL]
  | k + 1, hk => by
    have h1 := areaL_rng h (k := k) (by omega)
    have h2 := h k (by omega)
    show 0 ≤ areaL ps k + areaT (gr ps k) ∧ areaL ps k + areaT (gr ps k) ≤ _
    omega
theorem cut_pv {W L : Int} {ds ps : List (List Int)} (h : vCuts W L ds ps = true) {j : Nat} (hj : j < ps.length) : pv (gr ps j) W L = true := by
  have := (vCuts_iff.1 h).2.2 j hj
  unfold cutOk at this
  rw [Bool.and_eq_true] at this
  exact this.1
end Go.Proofs.YtlabekemifccaaaDoor
