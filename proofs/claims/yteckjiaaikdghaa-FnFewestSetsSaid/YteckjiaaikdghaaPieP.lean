/-
  Lemmas and contracts of single functions of this program, used by the proofs of its laws: what each call returns and what becomes of memory. Conditions: the hypotheses of each theorem.
-/
import Derived.Test.YteckjiaaikdghaaLeafR
namespace Go.Proofs.Yteckjiaaikdghaa
open Go.RowKit

/-! pieces of paper: one step after the other, the same steps in the program and in the reference -/
/-- the pieces so far (parent, roll, from, length), the roll, the parent and the place in it, what the roll still wants -/
structure Pst where
  acc : List (List Int)
  i : Nat
  p : Nat
  at_ : Int
  want : Int
/-- one piece -/
def cutP (P : List Int) (s : Pst) : Pst :=
  let n := min s.want (gi P s.p - s.at_)
  if s.at_ + n = gi P s.p then ⟨s.acc ++ [[(s.p : Int), (s.i : Int), s.at_, n]], s.i, s.p + 1, 0, s.want - n⟩
  else ⟨s.acc ++ [[(s.p : Int), (s.i : Int), s.at_, n]], s.i, s.p, s.at_ + n, s.want - n⟩
/-- one step: a piece, or the next roll -/
def stepP (P W : List Int) (s : Pst) : Pst :=
  if W.length ≤ s.i then s else if 0 < s.want then cutP P s else ⟨s.acc, s.i + 1, s.p, s.at_, gi W (s.i + 1)⟩
def runP (P W : List Int) (s : Pst) : Nat → Pst
  | 0 => s
  | k + 1 => stepP P W (runP P W s k)
theorem runP_stuck {P W : List Int} {s : Pst} {k : Nat} (h : W.length ≤ (runP P W s k).i) : ∀ d, runP P W s (k + d) = runP P W s k
  | 0 => rfl
  | d + 1 => by
    show stepP P W (runP P W s (k + d)) = _
    rw [runP_stuck h d]
    unfold stepP
    rw [if_pos h]
/-- whoever comes to the end has the same pieces -/
theorem runP_end {P W : List Int} {s : Pst} {k m : Nat} (hk : W.length ≤ (runP P W s k).i) (hm : W.length ≤ (runP P W s m).i) : runP P W s k = runP P W s m := by
  rcases Nat.le_total k m with h | h
  · rw [show m = k + (m - k) by omega, runP_stuck hk]
  · rw [show k = m + (k - m) by omega, runP_stuck hm]
/-- the paper from a place on -/
def sumFrom (P : List Int) (p : Nat) : Int := (P.drop p).sum
theorem sumFrom_step {P : List Int} {p : Nat} (h : p < P.length) : sumFrom P p = gi P p + sumFrom P (p + 1) := by
  unfold sumFrom
  rw [List.drop_eq_getElem_cons h, List.sum_cons, gi_eq h]
theorem sumFrom_end {P : List Int} {p : Nat} (h : P.length ≤ p) : sumFrom P p = 0 := by
  unfold sumFrom; rw [List.drop_eq_nil_of_le h]; rfl
/-- the state is sound: the place lies on a parent, and the paper that is left is enough -/
def Snd (P W : List Int) (s : Pst) : Prop :=
  s.i ≤ W.length ∧ s.p ≤ P.length ∧ 0 ≤ s.at_ ∧ (s.p < P.length → s.at_ < gi P s.p) ∧ (s.p = P.length → s.at_ = 0) ∧ 0 ≤ s.want ∧ (s.i = W.length → s.want = 0) ∧ s.want + sumFrom W (s.i + 1) ≤ sumFrom P s.p - s.at_
theorem sumFrom_nonneg {P : List Int} (h : ∀ j, j < P.length → 1 ≤ gi P j) (p : Nat) : 0 ≤ sumFrom P p := by
  obtain ⟨d, hd⟩ : ∃ d, d = P.length - p := ⟨_, rfl⟩
  induction d generalizing p with
  | zero => rw [sumFrom_end (by omega)]; omega
  | succ d ih =>
    have := ih (p + 1) (by omega)
    have := h p (by omega)
    rw [sumFrom_step (by omega)]; omega
/-- a piece can be cut as long as something is wanted -/
theorem Snd.more {P W : List Int} {s : Pst} (h : Snd P W s) (hW : ∀ j, j < W.length → 1 ≤ gi W j) (hw : 0 < s.want) : s.p < P.length ∧ s.i < W.length := by
  obtain ⟨h1, h2, h3, h4, h5, h6, h7, h8⟩ := h
  have h9 := sumFrom_nonneg hW (s.i + 1)
  refine ⟨?_, ?_⟩
  · rcases Nat.lt_or_ge s.p P.length with h | h
    · exact h
    · rw [sumFrom_end h] at h8; omega
  · rcases Nat.lt_or_ge s.i W.length with h | h
    · exact h
    · have := h7 (by omega); omega
theorem Snd.cut {P W : List Int} {s : Pst} (h : Snd P W s) (hP : ∀ j, j < P.length → 1 ≤ gi P j) (hW : ∀ j, j < W.length → 1 ≤ gi W j) (hw : 0 < s.want) : Snd P W (cutP P s) ∧ (cutP P s).i = s.i ∧ (cutP P s).want < s.want := by
  obtain ⟨hp, hi⟩ := h.more hW hw
  obtain ⟨h1, h2, h3, h4, h5, h6, h7, h8⟩ := h
  have hat := h4 hp
  have hst := sumFrom_step hp
  unfold cutP
  dsimp only
  split
  · rename_i he
    refine ⟨⟨by dsimp only; omega, by dsimp only; omega, by dsimp only; omega, fun hq => by dsimp only at hq ⊢; have := hP _ hq; omega, fun _ => rfl, by dsimp only; omega, fun hq => by dsimp only at hq; omega, by dsimp only; omega⟩, rfl, by dsimp only; omega⟩
  · rename_i he
    refine ⟨⟨by dsimp only; omega, by dsimp only; omega, by dsimp only; omega, fun _ => by dsimp only; omega, fun hq => by dsimp only at hq; omega, by dsimp only; omega, fun hq => by dsimp only at hq; omega, by dsimp only; omega⟩, rfl, by dsimp only; omega⟩
end Go.Proofs.Yteckjiaaikdghaa
