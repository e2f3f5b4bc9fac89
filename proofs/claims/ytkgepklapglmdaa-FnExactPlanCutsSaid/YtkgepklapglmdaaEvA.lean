/-
  Lemmas and contracts of single functions of this program, used by the proofs of its laws: what each call returns and what becomes of memory. Conditions: the hypotheses of each theorem.
-/
import Derived.Test.YtkgepklapglmdaaMReel
namespace Go.Proofs.Ytkgepklapglmdaa
open Go.RowKit
attribute [local go_sem ↓] Go.wp_at_zero Go.wp_at_succ

set_option maxHeartbeats 1000000 in
theorem eqEvent_same (d0 d1 d2 d3 d4 d5 d6 : Int) (w : World) :
    Calls Try.prog 35 #[.agg #[.int .i64 d0, .int .i64 d1, .int .i64 d2, .int .i64 d3, .int .i64 d4, .int .i64 d5, .int .i64 d6], .agg #[.int .i64 d0, .int .i64 d1, .int .i64 d2, .int .i64 d3, .int .i64 d4, .int .i64 d5, .int .i64 d6]] w fun e w' => e = .returned (.bool true) ∧ Below w.heap.size w w' := by
  have h0 : (d0 != d0) = false := bne_f rfl
  have h1 : (d1 != d1) = false := bne_f rfl
  have h6 : (d6 != d6) = false := bne_f rfl
  have Hs := Lib.hid (show ∃ w1, w1 = ((w.alloc (.cells #[.int .i64 d0, .int .i64 d1, .int .i64 d2, .int .i64 d3, .int .i64 d4, .int .i64 d5, .int .i64 d6] 50)).alloc (.cells #[.int .i64 d0, .int .i64 d1, .int .i64 d2, .int .i64 d3, .int .i64 d4, .int .i64 d5, .int .i64 d6] 50)) ∧ Below w.heap.size w w1 ∧ w1.cell? ⟨w.heap.size, 0, none⟩ = some (.int .i64 d0) ∧ w1.cell? ⟨w.heap.size, 1, none⟩ = some (.int .i64 d1) ∧ w1.cell? ⟨w.heap.size, 2, none⟩ = some (.int .i64 d2) ∧ w1.cell? ⟨w.heap.size, 3, none⟩ = some (.int .i64 d3) ∧ w1.cell? ⟨w.heap.size, 4, none⟩ = some (.int .i64 d4) ∧ w1.cell? ⟨w.heap.size, 5, none⟩ = some (.int .i64 d5) ∧ w1.cell? ⟨w.heap.size, 6, none⟩ = some (.int .i64 d6) ∧ w1.cell? ⟨w.heap.size + 1, 0, none⟩ = some (.int .i64 d0) ∧ w1.cell? ⟨w.heap.size + 1, 1, none⟩ = some (.int .i64 d1) ∧ w1.cell? ⟨w.heap.size + 1, 2, none⟩ = some (.int .i64 d2) ∧ w1.cell? ⟨w.heap.size + 1, 3, none⟩ = some (.int .i64 d3) ∧ w1.cell? ⟨w.heap.size + 1, 4, none⟩ = some (.int .i64 d4) ∧ w1.cell? ⟨w.heap.size + 1, 5, none⟩ = some (.int .i64 d5) ∧ w1.cell? ⟨w.heap.size + 1, 6, none⟩ = some (.int .i64 d6) ∧ w.heap.size + 1 < w1.heap.size from by
    have hb : Below w.heap.size w ((w.alloc (.cells #[.int .i64 d0, .int .i64 d1, .int .i64 d2, .int .i64 d3, .int .i64 d4, .int .i64 d5, .int .i64 d6] 50)).alloc (.cells #[.int .i64 d0, .int .i64 d1, .int .i64 d2, .int .i64 d3, .int .i64 d4, .int .i64 d5, .int .i64 d6] 50)) := ((Below.refl _ _).alloc (Nat.le_refl _) _).alloc (by simp) _
    exact ⟨_, rfl, hb, by go_simp, by go_simp, by go_simp, by go_simp, by go_simp, by go_simp, by go_simp, by go_simp, by go_simp, by go_simp, by go_simp, by go_simp, by go_simp, by go_simp, by simp⟩)
  go_enter Try.func35, Try.ntmps35
  go_wp2_with fail
  obtain ⟨w1, hw1, hb0, c00, c01, c02, c03, c04, c05, c06, c10, c11, c12, c13, c14, c15, c16, hz⟩ := Hs.out
  rw [← hw1]
  clear hw1 Hs
  refine (eqPart_same d2 d3 d4 d5 w1).mono ?_
  rintro e w2 ⟨rfl, b2⟩
  replace c00 := keepB b2 c00; replace c01 := keepB b2 c01; replace c02 := keepB b2 c02; replace c03 := keepB b2 c03; replace c04 := keepB b2 c04; replace c05 := keepB b2 c05; replace c06 := keepB b2 c06; replace c10 := keepB b2 c10; replace c11 := keepB b2 c11; replace c12 := keepB b2 c12; replace c13 := keepB b2 c13; replace c14 := keepB b2 c14; replace c15 := keepB b2 c15; replace c16 := keepB b2 c16
  have Hb := Lib.hid (hb0.trans (b2.mono (by omega)))
  clear b2 hb0
  go_wp2
  go_ret
  exact ⟨rfl, Hb.out⟩
set_option maxRecDepth 100000 in
set_option maxHeartbeats 2000000 in
theorem eqEventS_same (l1 h1 l2 h2 : Nat) (v u : Value) (xs : List (List Int)) (w : World) (h : TS w l1 h1 7 v xs) (hh : h1 ≤ w.heap.size) (hy : TS w l2 h2 7 u xs) (hh2 : h2 ≤ w.heap.size) :
    Calls Try.prog 10 #[v, u] w fun e w' => e = .returned (.bool true) ∧ Below w.heap.size w w' := by
  obtain ⟨A, c, rfl, hc, hm⟩ := h.form
  obtain ⟨B, d, rfl, hd, hm'⟩ := hy.form
  have hl' : ((xs.length : Int) != (xs.length : Int)) = false := bne_f rfl
  go_enter Try.func10, Try.ntmps10
  go_wp2
  clear hl'
  go_loopw [5] (fun i wr => ∃ k : Nat, k ≤ xs.length ∧ i = .int .i64 k ∧ Below w.heap.size w wr) (fun i _ => xs.length - (intOf i).toNat)
  case atStart => exact ⟨0, by omega, rfl, Below.refl _ _⟩
  case round =>
    obtain ⟨k, hk, rfl, bw⟩ := hrel
    by_cases hlt : k < xs.length
    · obtain ⟨b, o, rfl, _, _, e0, e1, e2, e3, e4, e5, e6⟩ := (h.below bw hh).c7 hlt
      obtain ⟨b2, o2, rfl, _, _, f0, f1, f2, f3, f4, f5, f6⟩ := (hy.below bw hh2).c7 hlt
      obtain ⟨d0, hd0⟩ : ∃ d, d = gi (gr xs k) 0 := ⟨_, rfl⟩
      rw [← hd0] at e0 f0
      obtain ⟨d1, hd1⟩ : ∃ d, d = gi (gr xs k) 1 := ⟨_, rfl⟩
      rw [← hd1] at e1 f1
      obtain ⟨d2, hd2⟩ : ∃ d, d = gi (gr xs k) 2 := ⟨_, rfl⟩
      rw [← hd2] at e2 f2
      obtain ⟨d3, hd3⟩ : ∃ d, d = gi (gr xs k) 3 := ⟨_, rfl⟩
      rw [← hd3] at e3 f3
      obtain ⟨d4, hd4⟩ : ∃ d, d = gi (gr xs k) 4 := ⟨_, rfl⟩
      rw [← hd4] at e4 f4
      obtain ⟨d5, hd5⟩ : ∃ d, d = gi (gr xs k) 5 := ⟨_, rfl⟩
      rw [← hd5] at e5 f5
      obtain ⟨d6, hd6⟩ : ∃ d, d = gi (gr xs k) 6 := ⟨_, rfl⟩
      rw [← hd6] at e6 f6
      clear h hy hd0 hd1 hd2 hd3 hd4 hd5 hd6
      have hk0 : (0 : Int) ≤ (k : Int) := by omega
      have hk1 : (k : Int) < (xs.length : Int) := by omega
      go_wp2
      go_region_held3 (fun w' => w'.cell? ⟨b, o + k * 7, none⟩ = some (.int .i64 d0) ∧ w'.cell? ⟨b, o + k * 7 + 1, none⟩ = some (.int .i64 d1) ∧ w'.cell? ⟨b, o + k * 7 + 2, none⟩ = some (.int .i64 d2) ∧ w'.cell? ⟨b, o + k * 7 + 3, none⟩ = some (.int .i64 d3) ∧ w'.cell? ⟨b, o + k * 7 + 4, none⟩ = some (.int .i64 d4) ∧ w'.cell? ⟨b, o + k * 7 + 5, none⟩ = some (.int .i64 d5) ∧ w'.cell? ⟨b, o + k * 7 + 6, none⟩ = some (.int .i64 d6) ∧ w'.cell? ⟨b2, o2 + k * 7, none⟩ = some (.int .i64 d0) ∧ w'.cell? ⟨b2, o2 + k * 7 + 1, none⟩ = some (.int .i64 d1) ∧ w'.cell? ⟨b2, o2 + k * 7 + 2, none⟩ = some (.int .i64 d2) ∧ w'.cell? ⟨b2, o2 + k * 7 + 3, none⟩ = some (.int .i64 d3) ∧ w'.cell? ⟨b2, o2 + k * 7 + 4, none⟩ = some (.int .i64 d4) ∧ w'.cell? ⟨b2, o2 + k * 7 + 5, none⟩ = some (.int .i64 d5) ∧ w'.cell? ⟨b2, o2 + k * 7 + 6, none⟩ = some (.int .i64 d6)) (first | go_keep | (go_split_ands; refine ⟨?_, ?_, ?_, ?_, ?_, ?_, ?_, ?_, ?_, ?_, ?_, ?_, ?_, ?_⟩ <;> exact keepB bx1 (by assumption))) (first | (go_at_call 35; refine (eqEvent_same _ _ _ _ _ _ _ _).mono ?_; rintro e x1 ⟨rfl, bx1⟩))
      have bx2 := of_drew bx1
      go_wp2
      go_roundw
      case rel => exact ⟨k + 1, by omega, by go_num, bw.trans (bx2.mono bw.size)⟩
      case measure => simp [intOf]; omega
    · go_wp2
      go_ret
      exact ⟨rfl, bw⟩
theorem SlEvent1 : SlT Try.prog 27 50 (.agg #[.int .i64 0, .int .i64 0, .int .i64 0, .int .i64 0, .int .i64 0, .int .i64 0, .int .i64 0]) 7 56 := ⟨Try.underlying27, by kernel_rfl, rfl, by omega⟩
end Go.Proofs.Ytkgepklapglmdaa
