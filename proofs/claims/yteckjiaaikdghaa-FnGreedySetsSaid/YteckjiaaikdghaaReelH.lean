/-
  Lemmas and contracts of single functions of this program, used by the proofs of its laws: what each call returns and what becomes of memory. Conditions: the hypotheses of each theorem.
-/
import Derived.Test.YteckjiaaikdghaaReelG
namespace Go.Proofs.Yteckjiaaikdghaa
open Go.RowKit
attribute [local go_sem ↓] Go.wp_at_zero Go.wp_at_succ

def noMeet (ps : List (List Int)) (p : List Int) (m : Nat) : Bool := (ps.take m).all fun q => !mT p q
def cutOk (W L : Int) (ps : List (List Int)) (j : Nat) : Bool := pv (gr ps j) W L && noMeet ps (gr ps j) j
def vCuts (W L : Int) (ds ps : List (List Int)) : Bool := vReel W L ds && decide (ps.length ≤ 60) && (List.range ps.length).all (cutOk W L ps)
theorem vCuts_iff {W L : Int} {ds ps : List (List Int)} : vCuts W L ds ps = true ↔ vReel W L ds = true ∧ ps.length ≤ 60 ∧ ∀ j, j < ps.length → cutOk W L ps j = true := by
  unfold vCuts
  simp only [Bool.and_eq_true, decide_eq_true_eq, List.all_eq_true, List.mem_range, and_assoc]
theorem noMeet_iff {ps : List (List Int)} {p : List Int} {m : Nat} (hm : m ≤ ps.length) : noMeet ps p m = true ↔ ∀ i, i < m → mT p (gr ps i) = false := by
  unfold noMeet
  rw [List.all_eq_true]
  constructor
  · intro h i hi
    have := h (gr ps i) (by rw [gr_eq (by omega), List.mem_take_iff_getElem]; exact ⟨i, by omega, rfl⟩)
    simpa using this
  · intro h q hq
    obtain ⟨i, hi, rfl⟩ := List.mem_take_iff_getElem.1 hq
    have := h i (by omega)
    rw [gr_eq (by omega)] at this
    simp [this]
theorem vCuts_no {W L : Int} {ds ps : List (List Int)} {j : Nat} (hj : j < ps.length) (h : vReel W L ds = true → cutOk W L ps j = false) : vCuts W L ds ps = false := by
  cases hv : vCuts W L ds ps
  · rfl
  · obtain ⟨a, _, c⟩ := vCuts_iff.1 hv
    have := c j hj; rw [h a] at this; cases this
theorem cut_meet {W L : Int} {ps : List (List Int)} {j i : Nat} (hj : j < ps.length) (hi : i < j) (h : mT (gr ps j) (gr ps i) = true) : cutOk W L ps j = false := by
  cases hv : cutOk W L ps j
  · rfl
  · unfold cutOk at hv
    rw [Bool.and_eq_true] at hv
    have := (noMeet_iff (by omega)).1 hv.2 i hi
    rw [h] at this; cases this
theorem cut_part {W L : Int} {ps : List (List Int)} {j : Nat} (h : pv (gr ps j) W L = false) : cutOk W L ps j = false := by unfold cutOk; rw [h]; rfl
theorem vReel_rng {W L : Int} {ds : List (List Int)} (h : vReel W L ds = true) : 1 ≤ W ∧ W ≤ 60 ∧ 1 ≤ L ∧ L ≤ 400 := by have := vReel_iff.1 h; omega

end Go.Proofs.Yteckjiaaikdghaa
