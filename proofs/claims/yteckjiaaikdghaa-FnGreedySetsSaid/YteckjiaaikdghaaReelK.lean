/-
  Lemmas and contracts of single functions of this program, used by the proofs of its laws: what each call returns and what becomes of memory. Conditions: the hypotheses of each theorem.
-/
import Derived.Test.YteckjiaaikdghaaReelJ
import Derived.Test.YteckjiaaikdghaaOwn
namespace Go.Proofs.Yteckjiaaikdghaa
open Go.RowKit
attribute [local go_sem ↓] Go.wp_at_zero Go.wp_at_succ

/-- the numbers below n for which P holds, ascending -/
def selL (P : Nat → Bool) (n : Nat) : List Int := ((List.range n).filter P).map fun (i : Nat) => (i : Int)
theorem selL_succ {P : Nat → Bool} {n : Nat} : selL P (n + 1) = if P n = true then selL P n ++ [(n : Int)] else selL P n := by
  unfold selL
  rw [List.range_succ, List.filter_append, List.map_append]
  by_cases h : P n = true
  · rw [if_pos h]; simp [h]
  · rw [if_neg h]; simp [h]
theorem selL_len (P : Nat → Bool) (n : Nat) : (selL P n).length ≤ n := by
  unfold selL; rw [List.length_map]; exact Nat.le_trans (List.length_filter_le _ _) (by simp)
theorem selL_mem {P : Nat → Bool} {n : Nat} {x : Int} : x ∈ selL P n ↔ ∃ i : Nat, i < n ∧ P i = true ∧ x = (i : Int) := by
  unfold selL
  simp only [List.mem_map, List.mem_filter, List.mem_range]
  constructor
  · rintro ⟨i, ⟨a, b⟩, rfl⟩; exact ⟨i, a, b, rfl⟩
  · rintro ⟨i, a, b, rfl⟩; exact ⟨i, ⟨a, b⟩, rfl⟩
theorem selL_congr {P Q : Nat → Bool} {n : Nat} (h : ∀ i, i < n → P i = Q i) : selL P n = selL Q n := by
  unfold selL
  rw [List.filter_congr fun i hi => h i (List.mem_range.1 hi)]
def rwL (W L : Int) (ds ps : List (List Int)) (k : Int) : List Int := if vCuts W L ds ps = true ∧ 0 ≤ k ∧ k < ds.length then selL (fun i => mT (gr ps i) (gr ds k.toNat)) ps.length else []
def brL (W L : Int) (ds ps : List (List Int)) (m : Int) : List Int := if vCuts W L ds ps = true then selL (fun i => decide (m < worstL ds (gr ps i))) ps.length else []
theorem rwL_len (W L : Int) (ds ps : List (List Int)) (k : Int) (h : ps.length ≤ 1048576) : (rwL W L ds ps k).length ≤ 1048576 := by
  unfold rwL
  split
  · exact Nat.le_trans (selL_len _ _) h
  · simp
theorem brL_len (W L : Int) (ds ps : List (List Int)) (k : Int) (h : ps.length ≤ 1048576) : (brL W L ds ps k).length ≤ 1048576 := by
  unfold brL
  split
  · exact Nat.le_trans (selL_len _ _) h
  · simp
theorem keepC {B : Nat} {W w1 : World} {a : Addr} {v : Value} (hb : Below B W w1) (ha : a.block < B) (h : W.cell? a = some v) : w1.cell? a = some v := (hb.cell ha).trans h
theorem Grew.belowT {base : Nat} {v v' : Value} {a w w' : World} (h : Grew base v v' w w') (hb : Below base a w) : Below base a w' := hb.trans h.below

end Go.Proofs.Yteckjiaaikdghaa
