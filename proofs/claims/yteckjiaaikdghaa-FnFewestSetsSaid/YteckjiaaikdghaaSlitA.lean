/-
  Lemmas and contracts of single functions of this program, used by the proofs of its laws: what each call returns and what becomes of memory. Conditions: the hypotheses of each theorem.
-/
import Derived.Test.YteckjiaaikdghaaPatB
import Derived.Test.YteckjiaaikdghaaMReel
namespace Go.Proofs.Yteckjiaaikdghaa
open Go.RowKit
attribute [local go_sem ↓] Go.wp_at_zero Go.wp_at_succ

/-- m rolls of the width w from the lane a on -/
def rowsOf (w a fr til : Int) : Nat → List (List Int)
  | 0 => []
  | m + 1 => rowsOf w a fr til m ++ [[a + m * w, a + m * w + w, fr, til]]
/-- the rolls of the first k widths -/
def slitT (ws cs : List Int) (fr til : Int) : Nat → List (List Int)
  | 0 => []
  | k + 1 => slitT ws cs fr til k ++ rowsOf (gi ws k) (usedL ws cs k) fr til (gi cs k).toNat
def slL (W L : Int) (ds : List (List Int)) (ws cs : List Int) (fr til : Int) : List (List Int) :=
  if vReel W L ds = true ∧ vPat W ws cs = true ∧ 0 ≤ fr ∧ fr < til ∧ til ≤ L then slitT ws cs fr til cs.length else []
theorem slL_no {W L : Int} {ds : List (List Int)} {ws cs : List Int} {fr til : Int} (h : ¬ (vReel W L ds = true ∧ vPat W ws cs = true ∧ 0 ≤ fr ∧ fr < til ∧ til ≤ L)) : slL W L ds ws cs fr til = [] := if_neg h
theorem slL_yes {W L : Int} {ds : List (List Int)} {ws cs : List Int} {fr til : Int} (h : vReel W L ds = true ∧ vPat W ws cs = true ∧ 0 ≤ fr ∧ fr < til ∧ til ≤ L) : slL W L ds ws cs fr til = slitT ws cs fr til cs.length := if_pos h
theorem rowsOf_len (w a fr til : Int) : ∀ m, (rowsOf w a fr til m).length = m
  | 0 => rfl
  | m + 1 => by rw [rowsOf, List.length_append, rowsOf_len w a fr til m]; rfl
theorem pat_used {W : Int} {ws cs : List Int} (h : vPat W ws cs = true) {k : Nat} (hk : k ≤ cs.length) : 0 ≤ usedL ws cs k ∧ usedL ws cs k ≤ W ∧ W ≤ 60 := by
  obtain ⟨a, b, c, d⟩ := vPat_iff.1 h
  have hn : ∀ j, j < cs.length → 0 ≤ gi cs j ∧ 0 ≤ gi ws j := fun j hj => ⟨(c j hj).1, by have := vWid_w a (i := j) (by omega); omega⟩
  have h1 := used_nonneg (ws := ws) (cs := cs) hn hk
  have h2 := used_step (ws := ws) (cs := cs) hn hk (m := cs.length) hk (Nat.le_refl _)
  have h3 := (vWid_iff.1 a).2.1
  omega
theorem slitT_len {W : Int} {ws cs : List Int} (fr til : Int) (h : vPat W ws cs = true) : ∀ {k : Nat}, k ≤ cs.length → ((slitT ws cs fr til k).length : Int) ≤ usedL ws cs k
  | 0, _ => by simp [slitT, usedL]
  | k + 1, hk => by
    have h1 := slitT_len fr til h (k := k) (by omega)
    obtain ⟨a, b, c, d⟩ := vPat_iff.1 h
    have h2 := c k (by omega)
    have h3 := vWid_w a (i := k) (by omega)
    have h4 : gi cs k * 1 ≤ gi cs k * gi ws k := Int.mul_le_mul_of_nonneg_left h3.1 h2.1
    rw [slitT, List.length_append, rowsOf_len]
    show _ ≤ usedL ws cs k + gi cs k * gi ws k
    omega
theorem slL_len (W L : Int) (ds : List (List Int)) (ws cs : List Int) (fr til : Int) : (slL W L ds ws cs fr til).length ≤ 60 := by
  by_cases h : vReel W L ds = true ∧ vPat W ws cs = true ∧ 0 ≤ fr ∧ fr < til ∧ til ≤ L
  · rw [slL_yes h]
    have h1 := slitT_len fr til h.2.1 (k := cs.length) (Nat.le_refl _)
    have h2 := pat_used h.2.1 (k := cs.length) (Nat.le_refl _)
    omega
  · rw [slL_no h]; simp
/-- in the midst of the rolls of one width -/
theorem slit_mid {W : Int} {ws cs : List Int} (h : vPat W ws cs = true) {k m : Nat} (hk : k < cs.length) (hm : (m : Int) < gi cs k) : 1 ≤ gi ws k ∧ gi ws k ≤ 60 ∧ 0 ≤ usedL ws cs k + m * gi ws k ∧ usedL ws cs k + m * gi ws k + gi ws k ≤ 60 := by
  have h1 := pat_used h (k := k) (by omega)
  have h2 := pat_used h (k := k + 1) (by omega)
  obtain ⟨a, b, c, d⟩ := vPat_iff.1 h
  have h3 := vWid_w a (i := k) (by omega)
  have h4 : (m : Int) * gi ws k + gi ws k ≤ gi cs k * gi ws k := by
    have : ((m : Int) + 1) * gi ws k ≤ gi cs k * gi ws k := Int.mul_le_mul_of_nonneg_right (by omega) (by omega)
    rwa [Int.add_mul, Int.one_mul] at this
  have h5 : (0 : Int) ≤ m * gi ws k := Int.mul_nonneg (by omega) (by omega)
  have h6 : usedL ws cs (k + 1) = usedL ws cs k + gi cs k * gi ws k := rfl
  omega
theorem slit_end {ws cs : List Int} {fr til : Int} {k m : Nat} (hm : ¬ (m : Int) < gi cs k) (hm2 : (m : Int) ≤ gi cs k) : slitT ws cs fr til k ++ rowsOf (gi ws k) (usedL ws cs k) fr til m = slitT ws cs fr til (k + 1) ∧ usedL ws cs k + m * gi ws k = usedL ws cs (k + 1) := by
  have e : (m : Int) = gi cs k := by omega
  have e2 : (gi cs k).toNat = m := by omega
  exact ⟨by rw [slitT, e2], by rw [e]; rfl⟩
end Go.Proofs.Yteckjiaaikdghaa
