/-
  Lemmas and contracts of single functions of this program, used by the proofs of its laws: what each call returns and what becomes of memory. Conditions: the hypotheses of each theorem.
-/
import Derived.Test.YteckjiaaikdghaaReelD
import Derived.Test.YteckjiaaikdghaaReelB
import Derived.Test.YteckjiaaikdghaaReelK
namespace Go.Proofs.Yteckjiaaikdghaa
open Go.RowKit
attribute [local go_sem ↓] Go.wp_at_zero Go.wp_at_succ

theorem keepF {B : Nat} {W w1 : World} {a : Addr} (hb : Below B W w1) (ha : a.block < B) (h : W.frozen? a = false) : w1.frozen? a = false := (hb.frozen ha).trans h
/-- a call that writes into the block of u alone (and into new ones) -/
theorem keepD {w w' : World} {u : Value} (hk : ∀ b, b < w.heap.size → some b ≠ u.ownBlock → w'.heap[b]? = w.heap[b]?) {a : Addr} {v : Value} (ha : a.block < w.heap.size) (hne : u.ownBlock = some a.block → False) (h : w.cell? a = some v) : w'.cell? a = some v :=
  (World.cell?_of_block (hk a.block ha fun e => hne e.symm)).trans h
theorem OwnI.apart {w w' : World} {base e : Nat} {u v : Value} {xs : List Int} (h : OwnI w base e v xs) (hk : ∀ b, b < w.heap.size → some b ≠ u.ownBlock → w'.heap[b]? = w.heap[b]?) (hne : ∀ g, v.ownBlock = some g → u.ownBlock = some g → False) : OwnI w' base e v xs :=
  h.keptBlock fun g hg => hk g (h.lt g hg).2 fun e => hne g hg e.symm
theorem OwnT.apart {w w' : World} {base e k : Nat} {u v : Value} {xs : List (List Int)} (h : OwnT w base e k v xs) (hk : ∀ b, b < w.heap.size → some b ≠ u.ownBlock → w'.heap[b]? = w.heap[b]?) (hne : ∀ g, v.ownBlock = some g → u.ownBlock = some g → False) : OwnT w' base e k v xs :=
  h.keptBlock fun g hg => hk g (h.lt g hg).2 fun e => hne g hg e.symm
theorem OwnT.setBelow {w : World} {base e k : Nat} {v : Value} {xs : List (List Int)} (h : OwnT w base e k v xs) {p : Addr} (hp : p.block < base) (u : Value) : OwnT (w.setCell p u) base e k v xs :=
  h.keptBlock fun g hg => by
    have := (h.lt g hg).1
    simp only [World.setCell, Array.getElem?_modify, if_neg (show ¬ p.block = g by omega)]
end Go.Proofs.Yteckjiaaikdghaa
