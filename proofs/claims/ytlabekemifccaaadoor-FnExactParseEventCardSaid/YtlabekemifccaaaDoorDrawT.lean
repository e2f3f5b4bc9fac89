/-
  Lemmas and contracts of single functions of this program, used by the proofs of its laws: what each call returns and what becomes of memory. Conditions: the hypotheses of each theorem.
-/
import Derived.Test.YtlabekemifccaaaDoorDrawS
import Derived.Test.YtlabekemifccaaaDoorMReel
namespace Go.Proofs.YtlabekemifccaaaDoor
open Go.RowKit
attribute [local go_sem ↓] Go.wp_at_zero Go.wp_at_succ

theorem OwnT.setT {w : World} {base e k : Nat} {v : Value} {xs : List (List Int)} (h : OwnT w base e k v xs) {p : Addr} (hp : ∀ g, v.ownBlock = some g → ¬ p.block = g) (u : Value) : OwnT (w.setCell p u) base e k v xs :=
  h.keptBlock fun g hg => by simp only [World.setCell, Array.getElem?_modify, if_neg (hp g hg)]
/-- an owned list of tuples lies in no block of another element type -/
theorem own_apartT {w : World} {base e e2 k p : Nat} {v : Value} {xs : List (List Int)} {cs : Array Value} (h : OwnT w base e k v xs) (hp : w.heap[p]? = some (.cells cs e2)) (hne : e ≠ e2) : ∀ g, v.ownBlock = some g → ¬ p = g := fun g hg e1 => by
  obtain ⟨cur, hc⟩ := own_home h.1 hg
  rw [← e1, hp] at hc
  injection hc with hc
  injection hc with _ h2
  exact hne h2.symm
end Go.Proofs.YtlabekemifccaaaDoor
