/-
  Lemmas and contracts of single functions of this program, used by the proofs of its laws: what each call returns and what becomes of memory. Conditions: the hypotheses of each theorem.
-/
import Derived.Test.YtfmpcghlchmomaaDoorMillQ
import Derived.Test.YtfmpcghlchmomaaDoorMillS
namespace Go.Proofs.YtfmpcghlchmomaaDoor
open Go.RowKit
attribute [local go_sem ↓] Go.wp_at_zero Go.wp_at_succ

/-- a mill that lies in a block of its own -/
def MB (w : World) (B : Nat) (v : Value) (a b z : Int) : Prop := w.heap[B]? = some (.cells #[v, .int .i64 a, .int .i64 b, .int .i64 z] 70 (0, 0))
theorem MB.lt {w : World} {B : Nat} {v : Value} {a b z : Int} (h : MB w B v a b z) : B < w.heap.size := (Array.getElem?_eq_some_iff.1 h).1
theorem MB.cells {w : World} {B : Nat} {v : Value} {a b z : Int} (h : MB w B v a b z) :
    (w.cell? ⟨B, 0, none⟩ = some v ∧ w.cell? ⟨B, 1, none⟩ = some (.int .i64 a) ∧ w.cell? ⟨B, 2, none⟩ = some (.int .i64 b) ∧ w.cell? ⟨B, 3, none⟩ = some (.int .i64 z)) ∧
    (w.frozen? ⟨B, 0, none⟩ = false ∧ w.frozen? ⟨B, 1, none⟩ = false ∧ w.frozen? ⟨B, 2, none⟩ = false ∧ w.frozen? ⟨B, 3, none⟩ = false) := by
  unfold MB at h
  refine ⟨⟨?_, ?_, ?_, ?_⟩, ?_, ?_, ?_, ?_⟩ <;> simp [World.cell?, World.frozen?, h]
theorem MB.kept {w w' : World} {B : Nat} {v : Value} {a b z : Int} (h : MB w B v a b z) (e : w'.heap[B]? = w.heap[B]?) : MB w' B v a b z := e.trans h
theorem MB.below {w w' : World} {B k : Nat} {v : Value} {a b z : Int} (h : MB w B v a b z) (hb : Below k w w') (hk : B < k) : MB w' B v a b z := h.kept (hb.block B hk)
theorem MB.set2 {w : World} {B : Nat} {v : Value} {a b z : Int} (h : MB w B v a b z) (u : Int) : MB (w.setCell ⟨B, 2, none⟩ (.int .i64 u)) B v a u z := by
  unfold MB at h ⊢; simp only [World.setCell, Array.getElem?_modify, if_true, h, Option.map_some]; rfl
end Go.Proofs.YtfmpcghlchmomaaDoor
