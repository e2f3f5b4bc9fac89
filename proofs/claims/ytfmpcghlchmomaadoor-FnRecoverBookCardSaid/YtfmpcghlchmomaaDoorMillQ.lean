/-
  Lemmas and contracts of single functions of this program, used by the proofs of its laws: what each call returns and what becomes of memory. Conditions: the hypotheses of each theorem.
-/
import Derived.Test.YtfmpcghlchmomaaDoorMillN
namespace Go.Proofs.YtfmpcghlchmomaaDoor
open Go.RowKit
attribute [local go_sem ↓] Go.wp_at_zero Go.wp_at_succ

theorem OwnE.cs1 {w : World} {base s tD tP : Nat} {es : List Ent} {cs : List Value} {vd vp : Nat → Value} (hl : cs.length = es.length * 5)
    (h3 : ∀ k, k < es.length → E64 (ge es k) ∧ Es5 cs k (ge es k) (vd k) (vp k) ∧ (OwnT w base tD 5 (vd k) (ge es k).ds ∧ ∀ g, (vd k).ownBlock = some g → g < s) ∧ (OwnT w base tP 4 (vp k) (ge es k).ps ∧ ∀ g, (vp k).ownBlock = some g → g < s)) : ∀ u ∈ cs, u.oneCell' = true :=
  ES.oneCell (w := w) (lo := base) (hi := s) hl fun k hk => by
    obtain ⟨a, b, c, d⟩ := h3 k hk
    exact ⟨a, vd k, vp k, b, c.1.ts_at c.2, d.1.ts_at d.2⟩
end Go.Proofs.YtfmpcghlchmomaaDoor
