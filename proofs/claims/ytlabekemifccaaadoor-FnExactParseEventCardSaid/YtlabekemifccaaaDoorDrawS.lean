/-
  Lemmas and contracts of single functions of this program, used by the proofs of its laws: what each call returns and what becomes of memory. Conditions: the hypotheses of each theorem.
-/
import Derived.Test.YtlabekemifccaaaDoorDrawR
namespace Go.Proofs.YtlabekemifccaaaDoor
open Go.RowKit
attribute [local go_sem ↓] Go.wp_at_zero Go.wp_at_succ

theorem OwnT.grown {w w' : World} {base e k g : Nat} {v : Value} {xs : List (List Int)} (h : OwnT w base e k v xs) (hg : w.grownBy w' (some g)) (hlt : g < base) : OwnT w' base e k v xs :=
  h.kept (Kept.of_grown hg (Nat.le_refl _) (.inl hlt))
theorem keepA {base : Nat} {v v' : Value} {W w1 : World} {a : Addr} {u : Value} (h : Grew base v v' W w1) (hlt : a.block < W.heap.size) (hne : v.ownBlock = some a.block → False) (hc : W.cell? a = some u) : w1.cell? a = some u :=
  (World.cell?_of_block (h.other a.block hlt fun e => hne e.symm)).trans hc
theorem Rdr.grew {base : Nat} {v u u' : Value} {W w1 : World} {B k g : Nat} (h : Rdr W B k g v) (hg : Grew base u u' W w1) (hlt : g < base) : Rdr w1 B k g v := by
  have h0 := h.lt
  exact h.kept (hg.below.block g hlt) fun j _ hj => hg.below.block j (by omega)
theorem grown_then {a b c : World} {B g : Nat} (h : a.grownBy b (some g)) (k : Below B b c) (hB : a.heap.size ≤ B) : a.grownBy c (some g) :=
  ⟨k.os.trans h.os, k.tape.trans h.tape, k.output.trans h.output, Nat.le_trans h.size k.size, fun i hi hn => (k.block i (by omega)).trans (h.block i hi hn)⟩
theorem i64_5 {a b c d e : Int} (ha : I64 a) (hb : I64 b) (hc : I64 c) (hd : I64 d) (he : I64 e) : ∀ n ∈ [a, b, c, d, e], I64 n := fun n hn => by
  simp only [List.mem_cons, List.not_mem_nil, or_false] at hn
  rcases hn with rfl | rfl | rfl | rfl | rfl <;> assumption
end Go.Proofs.YtlabekemifccaaaDoor
