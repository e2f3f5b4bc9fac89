/-
  Lemmas and contracts of single functions of this program, used by the proofs of its laws: what each call returns and what becomes of memory. Conditions: the hypotheses of each theorem.
-/
import Derived.Test.YtkgepklapglmdaaGrdQ
import Derived.Test.YtkgepklapglmdaaSlitQ
import Derived.Test.YtkgepklapglmdaaMillS
namespace Go.Proofs.Ytkgepklapglmdaa
open Go.RowKit

/-! from wants to cuts: plain -/
theorem gs_none {W : Int} {ws xs : List Int} (h : ¬ (vWan W ws xs = true ∧ 0 < xs.sum)) : gsL W ws xs = [] := by
  unfold gsL grdL
  split
  · rename_i hv
    rw [show xs.sum.toNat = 0 by have : ¬ 0 < xs.sum := fun h9 => h ⟨hv, h9⟩; omega]; rfl
  · rfl
theorem gs_some {W : Int} {ws xs : List Int} (h : vWan W ws xs = true) (hs : 0 < xs.sum) : 0 < (gsL W ws xs).length := by
  unfold gsL grdL
  rw [if_pos h]
  obtain ⟨q, hq⟩ : ∃ q, xs.sum.toNat = q + 1 := ⟨xs.sum.toNat - 1, by omega⟩
  rw [hq, grdN, if_pos hs]
  simp
/-- the cuts of a plan as events -/
def plE (lb : Int) (ps : List (List Int)) : List Evt := ps.map fun p => ⟨2, lb, gi p 0, gi p 1, gi p 2, gi p 3, 0⟩
/-- what is to be done -/
def plB (m : Mil) (lb : Int) (ws xs : List Int) : Bool := m.ok && decide (0 ≤ entI m.es lb) && decide ((ge m.es (entI m.es lb).toNat).ps.length = 0) && vWan (ge m.es (entI m.es lb).toNat).W ws xs && decide (0 < xs.sum)
def plL (m : Mil) (lb : Int) (ws xs : List Int) : List Evt :=
  if plB m lb ws xs = true then plE lb (slL (ge m.es (entI m.es lb).toNat).W (ge m.es (entI m.es lb).toNat).L (ge m.es (entI m.es lb).toNat).ds ws (gr (gsL (ge m.es (entI m.es lb).toNat).W ws xs) 0) 0 (ge m.es (entI m.es lb).toNat).L) else []
theorem plB_iff {m : Mil} {lb : Int} {ws xs : List Int} : plB m lb ws xs = true ↔ m.ok = true ∧ 0 ≤ entI m.es lb ∧ (ge m.es (entI m.es lb).toNat).ps.length = 0 ∧ vWan (ge m.es (entI m.es lb).toNat).W ws xs = true ∧ 0 < xs.sum := by
  unfold plB
  simp only [Bool.and_eq_true, decide_eq_true_eq, and_assoc]
theorem plE_len (lb : Int) (ps : List (List Int)) : (plE lb ps).length = ps.length := by unfold plE; rw [List.length_map]
theorem plL_len (m : Mil) (lb : Int) (ws xs : List Int) : (plL m lb ws xs).length ≤ 60 := by
  unfold plL
  split
  · rw [plE_len]; exact slL_len _ _ _ _ _ _ _
  · simp
theorem plE_take (lb : Int) {P : List (List Int)} {k : Nat} (h : k < P.length) : (plE lb P).take (k + 1) = (plE lb P).take k ++ [⟨2, lb, gi (gr P k) 0, gi (gr P k) 1, gi (gr P k) 2, gi (gr P k) 3, 0⟩] := by
  unfold plE
  rw [← List.map_take, take_gr h, List.map_append, List.map_take]
  rfl
end Go.Proofs.Ytkgepklapglmdaa
