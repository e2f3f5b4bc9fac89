/-
  Lemmas and contracts of single functions of this program, used by the proofs of its laws: what each call returns and what becomes of memory. Conditions: the hypotheses of each theorem.
-/
import Derived.Test.YtlabekemifccaaaDoorEvA
import Derived.Laws.StructEq
namespace Go.Proofs.YtlabekemifccaaaDoor
open Go.RowKit
attribute [local go_sem ↓] Go.wp_at_zero Go.wp_at_succ

set_option maxHeartbeats 1000000 in
theorem equalEvent_same (d0 d1 d2 d3 d4 d5 d6 : Int) (w : World) :
    Calls Tryd.prog 28 #[.agg #[.int .i64 d0, .int .i64 d1, .int .i64 d2, .int .i64 d3, .int .i64 d4, .int .i64 d5, .int .i64 d6], .agg #[.int .i64 d0, .int .i64 d1, .int .i64 d2, .int .i64 d3, .int .i64 d4, .int .i64 d5, .int .i64 d6]] w fun e w' => e = .returned (.bool true) ∧ Below w.heap.size w w' := by
  have Hs := Lib.hid (show ∃ w1, w1 = ((w.alloc (.cells #[.int .i64 d0, .int .i64 d1, .int .i64 d2, .int .i64 d3, .int .i64 d4, .int .i64 d5, .int .i64 d6] 29)).alloc (.cells #[.int .i64 d0, .int .i64 d1, .int .i64 d2, .int .i64 d3, .int .i64 d4, .int .i64 d5, .int .i64 d6] 29)) ∧ Below w.heap.size w w1 ∧ w1.cell? ⟨w.heap.size, 0, none⟩ = some (.int .i64 d0) ∧ w1.cell? ⟨w.heap.size, 1, none⟩ = some (.int .i64 d1) ∧ w1.cell? ⟨w.heap.size, 2, none⟩ = some (.int .i64 d2) ∧ w1.cell? ⟨w.heap.size, 3, none⟩ = some (.int .i64 d3) ∧ w1.cell? ⟨w.heap.size, 4, none⟩ = some (.int .i64 d4) ∧ w1.cell? ⟨w.heap.size, 5, none⟩ = some (.int .i64 d5) ∧ w1.cell? ⟨w.heap.size, 6, none⟩ = some (.int .i64 d6) ∧ w1.cell? ⟨w.heap.size + 1, 0, none⟩ = some (.int .i64 d0) ∧ w1.cell? ⟨w.heap.size + 1, 1, none⟩ = some (.int .i64 d1) ∧ w1.cell? ⟨w.heap.size + 1, 2, none⟩ = some (.int .i64 d2) ∧ w1.cell? ⟨w.heap.size + 1, 3, none⟩ = some (.int .i64 d3) ∧ w1.cell? ⟨w.heap.size + 1, 4, none⟩ = some (.int .i64 d4) ∧ w1.cell? ⟨w.heap.size + 1, 5, none⟩ = some (.int .i64 d5) ∧ w1.cell? ⟨w.heap.size + 1, 6, none⟩ = some (.int .i64 d6) ∧ w.heap.size + 1 < w1.heap.size from by
    have hb : Below w.heap.size w ((w.alloc (.cells #[.int .i64 d0, .int .i64 d1, .int .i64 d2, .int .i64 d3, .int .i64 d4, .int .i64 d5, .int .i64 d6] 29)).alloc (.cells #[.int .i64 d0, .int .i64 d1, .int .i64 d2, .int .i64 d3, .int .i64 d4, .int .i64 d5, .int .i64 d6] 29)) := ((Below.refl _ _).alloc (Nat.le_refl _) _).alloc (by simp) _
    exact ⟨_, rfl, hb, by go_simp, by go_simp, by go_simp, by go_simp, by go_simp, by go_simp, by go_simp, by go_simp, by go_simp, by go_simp, by go_simp, by go_simp, by go_simp, by go_simp, by simp⟩)
  have h0 : (d0 == d0) = true := beq_t rfl
  have h1 : (d1 == d1) = true := beq_t rfl
  have h2 : (d2 == d2) = true := beq_t rfl
  have h3 : (d3 == d3) = true := beq_t rfl
  have h4 : (d4 == d4) = true := beq_t rfl
  have h5 : (d5 == d5) = true := beq_t rfl
  have h6 : (d6 == d6) = true := beq_t rfl
  go_enter Tryd.func28, Tryd.ntmps28
  go_wp2_with fail
  obtain ⟨w1, hw1, hb0, c00, c01, c02, c03, c04, c05, c06, c10, c11, c12, c13, c14, c15, c16, hz⟩ := Hs.out
  rw [← hw1]
  clear hw1 Hs
  have Hb := Lib.hid hb0
  clear hb0
  go_wp2
  go_ret
  exact ⟨rfl, Hb.out⟩
end Go.Proofs.YtlabekemifccaaaDoor
