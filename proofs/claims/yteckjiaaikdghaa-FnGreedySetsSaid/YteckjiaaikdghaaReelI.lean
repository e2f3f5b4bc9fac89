/-
  Lemmas and contracts of single functions of this program, used by the proofs of its laws: what each call returns and what becomes of memory. Conditions: the hypotheses of each theorem.
-/
import Derived.Test.YteckjiaaikdghaaReelH
namespace Go.Proofs.Yteckjiaaikdghaa
open Go.RowKit
attribute [local go_sem ↓] Go.wp_at_zero Go.wp_at_succ

theorem spB_pv {W L : Int} {ds ps : List (List Int)} {k : Nat} (h : vReel W L ds = true) : spB (gi (gr ps k) 0) (gi (gr ps k) 1) (gi (gr ps k) 2) (gi (gr ps k) 3) W L = pv (gr ps k) W L := by
  obtain ⟨a, b, c, d⟩ := vReel_rng h
  rw [spB_ins a b c d]; rfl
end Go.Proofs.Yteckjiaaikdghaa
