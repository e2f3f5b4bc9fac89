/-
  Lemmas and contracts of single functions of this program, used by the proofs of its laws: what each call returns and what becomes of memory. Conditions: the hypotheses of each theorem.
-/
import Derived.Test.YtcebdokdekgeaaaReelA
namespace Go.Proofs.Ytcebdokdekgeaaa
open Go.RowKit
attribute [local go_sem ↓] Go.wp_at_zero Go.wp_at_succ

set_option maxHeartbeats 800000 in
theorem eqPart_same (d0 d1 d2 d3 : Int) (w : World) :
    Calls Try.prog 85 #[.agg #[.int .i64 d0, .int .i64 d1, .int .i64 d2, .int .i64 d3], .agg #[.int .i64 d0, .int .i64 d1, .int .i64 d2, .int .i64 d3]] w fun e w' => e = .returned (.bool true) ∧ Below w.heap.size w w' := by
  have h0 : (d0 != d0) = false := bne_f rfl
  have h1 : (d1 != d1) = false := bne_f rfl
  have h2 : (d2 != d2) = false := bne_f rfl
  have h3 : (d3 != d3) = false := bne_f rfl
  go_enter Try.func85, Try.ntmps85
  go_wp2
  go_ret
  exact ⟨rfl, ((Below.refl _ _).alloc (Nat.le_refl _) _).alloc (by simp) _⟩
set_option maxRecDepth 100000 in
set_option maxHeartbeats 2000000 in
theorem eqPartS_same (l1 h1 l2 h2 : Nat) (v u : Value) (xs : List (List Int)) (w : World) (h : TS w l1 h1 4 v xs) (hh : h1 ≤ w.heap.size) (hy : TS w l2 h2 4 u xs) (hh2 : h2 ≤ w.heap.size) :
    Calls Try.prog 98 #[v, u] w fun e w' => e = .returned (.bool true) ∧ Below w.heap.size w w' := by
  obtain ⟨A, c, rfl, hc, hm⟩ := h.form
  obtain ⟨B, d, rfl, hd, hm'⟩ := hy.form
  have hl' : ((xs.length : Int) != (xs.length : Int)) = false := bne_f rfl
  go_enter Try.func98, Try.ntmps98
  go_wp2
  clear hl'
  go_loopw [5] (fun i wr => ∃ k : Nat, k ≤ xs.length ∧ i = .int .i64 k ∧ Below w.heap.size w wr) (fun i _ => xs.length - (intOf i).toNat)
  case atStart => exact ⟨0, by omega, rfl, Below.refl _ _⟩
  case round =>
    obtain ⟨k, hk, rfl, bw⟩ := hrel
    by_cases hlt : k < xs.length
    · obtain ⟨b, o, rfl, _, _, e0, e1, e2, e3⟩ := (h.below bw hh).c4 hlt
      obtain ⟨b2, o2, rfl, _, _, f0, f1, f2, f3⟩ := (hy.below bw hh2).c4 hlt
      obtain ⟨d0, hd0⟩ : ∃ d, d = gi (gr xs k) 0 := ⟨_, rfl⟩
      rw [← hd0] at e0 f0
      obtain ⟨d1, hd1⟩ : ∃ d, d = gi (gr xs k) 1 := ⟨_, rfl⟩
      rw [← hd1] at e1 f1
      obtain ⟨d2, hd2⟩ : ∃ d, d = gi (gr xs k) 2 := ⟨_, rfl⟩
      rw [← hd2] at e2 f2
      obtain ⟨d3, hd3⟩ : ∃ d, d = gi (gr xs k) 3 := ⟨_, rfl⟩
      rw [← hd3] at e3 f3
      clear h hy hd0 hd1 hd2 hd3
      have hk0 : (0 : Int) ≤ (k : Int) := by omega
      have hk1 : (k : Int) < (xs.length : Int) := by omega
      go_wp2
      go_region_held3 (fun w' => w'.cell? ⟨b, o + k * 4, none⟩ = some (.int .i64 d0) ∧ w'.cell? ⟨b, o + k * 4 + 1, none⟩ = some (.int .i64 d1) ∧ w'.cell? ⟨b, o + k * 4 + 2, none⟩ = some (.int .i64 d2) ∧ w'.cell? ⟨b, o + k * 4 + 3, none⟩ = some (.int .i64 d3) ∧ w'.cell? ⟨b2, o2 + k * 4, none⟩ = some (.int .i64 d0) ∧ w'.cell? ⟨b2, o2 + k * 4 + 1, none⟩ = some (.int .i64 d1) ∧ w'.cell? ⟨b2, o2 + k * 4 + 2, none⟩ = some (.int .i64 d2) ∧ w'.cell? ⟨b2, o2 + k * 4 + 3, none⟩ = some (.int .i64 d3)) (first | go_keep | (go_split_ands; refine ⟨?_, ?_, ?_, ?_, ?_, ?_, ?_, ?_⟩ <;> exact keepB bx1 (by assumption))) (first | (go_at_call 85; refine (eqPart_same _ _ _ _ _).mono ?_; rintro e x1 ⟨rfl, bx1⟩))
      have bx2 := of_drew bx1
      go_wp2
      go_roundw
      case rel => exact ⟨k + 1, by omega, by go_num, bw.trans (bx2.mono bw.size)⟩
      case measure => simp [intOf]; omega
    · go_wp2
      go_ret
      exact ⟨rfl, bw⟩
set_option maxHeartbeats 1000000 in
theorem heldPartS_up (lo hi : Nat) (v : Value) (n m : Nat) (w : World) (h : TS w lo hi 4 v (upT 4 n m)) (hn : n ≤ 1048577) (hm : m ≤ 1048576) :
    Calls Try.prog 89 #[v, .int .i64 (n : Int)] w fun e w' => e = .returned (.int .i64 ((n + m * 4 : Nat) : Int)) ∧ w = w' := by
  obtain ⟨A, c, rfl, hc, hmc⟩ := h.form
  have hl : (upT 4 n m).length = m := upT_len 4 n m
  rw [hl] at hc h ⊢
  go_enter Try.func89, Try.ntmps89
  go_wp2
  go_loop [1, 5] (fun q i => ∃ k : Nat, k ≤ m ∧ i = .int .i64 k ∧ q = .int .i64 ((n + k * 4 : Nat) : Int)) (fun _ i => m - (intOf i).toNat)
  case atStart => exact ⟨0, by omega, rfl, by simp⟩
  case round =>
    obtain ⟨k, hk, rfl, rfl⟩ := hrel
    by_cases hlt : k < m
    · obtain ⟨b, o, rfl, _, _, e0, e1, e2, e3⟩ := h.c4 (i := k) (by rw [hl]; exact hlt)
      obtain ⟨z, hz⟩ : ∃ z, z = n + k * 4 := ⟨_, rfl⟩
      have hz2 : z ≤ 9000000 := by omega
      rw [upT_at 4 n m k 0 hlt (by omega), ← hz] at e0
      rw [upT_at 4 n m k 1 hlt (by omega), ← hz] at e1
      rw [upT_at 4 n m k 2 hlt (by omega), ← hz] at e2
      rw [upT_at 4 n m k 3 hlt (by omega), ← hz] at e3
      have g0 : (((z : Nat) : Int) != (z : Int)) = false := bne_f rfl
      have g1 : ((((z + 1 : Nat) : Int)) != (z : Int) + 1) = false := bne_f (by omega)
      have g2 : ((((z + 2 : Nat) : Int)) != (z : Int) + 1 + 1) = false := bne_f (by omega)
      have g3 : ((((z + 3 : Nat) : Int)) != (z : Int) + 1 + 1 + 1) = false := bne_f (by omega)
      have e12 : ((z + 1 : Nat) : Int) = (z : Int) + 1 := by omega
      rw [e12] at e1
      have g12 : (((z : Int) + 1) != ((z : Int) + 1)) = false := bne_f rfl
      have e22 : ((z + 2 : Nat) : Int) = (z : Int) + 1 + 1 := by omega
      rw [e22] at e2
      have g22 : (((z : Int) + 1 + 1) != ((z : Int) + 1 + 1)) = false := bne_f rfl
      have e32 : ((z + 3 : Nat) : Int) = (z : Int) + 1 + 1 + 1 := by omega
      rw [e32] at e3
      have g32 : (((z : Int) + 1 + 1 + 1) != ((z : Int) + 1 + 1 + 1)) = false := bne_f rfl
      have Hz := Lib.hid hz
      clear hz h hl g1 g2 g3 e12 e22 e32
      rw [← Hz.out]
      go_wp2
      go_round
      case rel => exact ⟨k + 1, by omega, by go_num, by rw [show n + (k + 1) * 4 = z + 4 by rw [Hz.out]; omega]; go_num⟩
      case measure => simp [intOf]; omega
    · have He := Lib.hid (show k = m by omega)
      go_wp2
      go_ret
      exact ⟨ret_int (by have := He.out; omega), rfl⟩
set_option maxHeartbeats 800000 in
theorem eqDefect_same (d0 d1 d2 d3 d4 : Int) (w : World) :
    Calls Try.prog 113 #[.agg #[.int .i64 d0, .int .i64 d1, .int .i64 d2, .int .i64 d3, .int .i64 d4], .agg #[.int .i64 d0, .int .i64 d1, .int .i64 d2, .int .i64 d3, .int .i64 d4]] w fun e w' => e = .returned (.bool true) ∧ Below w.heap.size w w' := by
  have h0 : (d0 != d0) = false := bne_f rfl
  have h1 : (d1 != d1) = false := bne_f rfl
  have h2 : (d2 != d2) = false := bne_f rfl
  have h3 : (d3 != d3) = false := bne_f rfl
  have h4 : (d4 != d4) = false := bne_f rfl
  go_enter Try.func113, Try.ntmps113
  go_wp2
  go_ret
  exact ⟨rfl, ((Below.refl _ _).alloc (Nat.le_refl _) _).alloc (by simp) _⟩
set_option maxRecDepth 100000 in
set_option maxHeartbeats 2000000 in
theorem eqDefectS_same (l1 h1 l2 h2 : Nat) (v u : Value) (xs : List (List Int)) (w : World) (h : TS w l1 h1 5 v xs) (hh : h1 ≤ w.heap.size) (hy : TS w l2 h2 5 u xs) (hh2 : h2 ≤ w.heap.size) :
    Calls Try.prog 108 #[v, u] w fun e w' => e = .returned (.bool true) ∧ Below w.heap.size w w' := by
  obtain ⟨A, c, rfl, hc, hm⟩ := h.form
  obtain ⟨B, d, rfl, hd, hm'⟩ := hy.form
  have hl' : ((xs.length : Int) != (xs.length : Int)) = false := bne_f rfl
  go_enter Try.func108, Try.ntmps108
  go_wp2
  clear hl'
  go_loopw [5] (fun i wr => ∃ k : Nat, k ≤ xs.length ∧ i = .int .i64 k ∧ Below w.heap.size w wr) (fun i _ => xs.length - (intOf i).toNat)
  case atStart => exact ⟨0, by omega, rfl, Below.refl _ _⟩
  case round =>
    obtain ⟨k, hk, rfl, bw⟩ := hrel
    by_cases hlt : k < xs.length
    · obtain ⟨b, o, rfl, _, _, e0, e1, e2, e3, e4⟩ := (h.below bw hh).c5 hlt
      obtain ⟨b2, o2, rfl, _, _, f0, f1, f2, f3, f4⟩ := (hy.below bw hh2).c5 hlt
      obtain ⟨d0, hd0⟩ : ∃ d, d = gi (gr xs k) 0 := ⟨_, rfl⟩
      rw [← hd0] at e0 f0
      obtain ⟨d1, hd1⟩ : ∃ d, d = gi (gr xs k) 1 := ⟨_, rfl⟩
      rw [← hd1] at e1 f1
      obtain ⟨d2, hd2⟩ : ∃ d, d = gi (gr xs k) 2 := ⟨_, rfl⟩
      rw [← hd2] at e2 f2
      obtain ⟨d3, hd3⟩ : ∃ d, d = gi (gr xs k) 3 := ⟨_, rfl⟩
      rw [← hd3] at e3 f3
      obtain ⟨d4, hd4⟩ : ∃ d, d = gi (gr xs k) 4 := ⟨_, rfl⟩
      rw [← hd4] at e4 f4
      clear h hy hd0 hd1 hd2 hd3 hd4
      have hk0 : (0 : Int) ≤ (k : Int) := by omega
      have hk1 : (k : Int) < (xs.length : Int) := by omega
      go_wp2
      go_region_held3 (fun w' => w'.cell? ⟨b, o + k * 5, none⟩ = some (.int .i64 d0) ∧ w'.cell? ⟨b, o + k * 5 + 1, none⟩ = some (.int .i64 d1) ∧ w'.cell? ⟨b, o + k * 5 + 2, none⟩ = some (.int .i64 d2) ∧ w'.cell? ⟨b, o + k * 5 + 3, none⟩ = some (.int .i64 d3) ∧ w'.cell? ⟨b, o + k * 5 + 4, none⟩ = some (.int .i64 d4) ∧ w'.cell? ⟨b2, o2 + k * 5, none⟩ = some (.int .i64 d0) ∧ w'.cell? ⟨b2, o2 + k * 5 + 1, none⟩ = some (.int .i64 d1) ∧ w'.cell? ⟨b2, o2 + k * 5 + 2, none⟩ = some (.int .i64 d2) ∧ w'.cell? ⟨b2, o2 + k * 5 + 3, none⟩ = some (.int .i64 d3) ∧ w'.cell? ⟨b2, o2 + k * 5 + 4, none⟩ = some (.int .i64 d4)) (first | go_keep | (go_split_ands; refine ⟨?_, ?_, ?_, ?_, ?_, ?_, ?_, ?_, ?_, ?_⟩ <;> exact keepB bx1 (by assumption))) (first | (go_at_call 113; refine (eqDefect_same _ _ _ _ _ _).mono ?_; rintro e x1 ⟨rfl, bx1⟩))
      have bx2 := of_drew bx1
      go_wp2
      go_roundw
      case rel => exact ⟨k + 1, by omega, by go_num, bw.trans (bx2.mono bw.size)⟩
      case measure => simp [intOf]; omega
    · go_wp2
      go_ret
      exact ⟨rfl, bw⟩
set_option maxHeartbeats 1000000 in
theorem heldDefectS_up (lo hi : Nat) (v : Value) (n m : Nat) (w : World) (h : TS w lo hi 5 v (upT 5 n m)) (hn : n ≤ 1048577) (hm : m ≤ 1048576) :
    Calls Try.prog 88 #[v, .int .i64 (n : Int)] w fun e w' => e = .returned (.int .i64 ((n + m * 5 : Nat) : Int)) ∧ w = w' := by
  obtain ⟨A, c, rfl, hc, hmc⟩ := h.form
  have hl : (upT 5 n m).length = m := upT_len 5 n m
  rw [hl] at hc h ⊢
  go_enter Try.func88, Try.ntmps88
  go_wp2
  go_loop [1, 5] (fun q i => ∃ k : Nat, k ≤ m ∧ i = .int .i64 k ∧ q = .int .i64 ((n + k * 5 : Nat) : Int)) (fun _ i => m - (intOf i).toNat)
  case atStart => exact ⟨0, by omega, rfl, by simp⟩
  case round =>
    obtain ⟨k, hk, rfl, rfl⟩ := hrel
    by_cases hlt : k < m
    · obtain ⟨b, o, rfl, _, _, e0, e1, e2, e3, e4⟩ := h.c5 (i := k) (by rw [hl]; exact hlt)
      obtain ⟨z, hz⟩ : ∃ z, z = n + k * 5 := ⟨_, rfl⟩
      have hz2 : z ≤ 9000000 := by omega
      rw [upT_at 5 n m k 0 hlt (by omega), ← hz] at e0
      rw [upT_at 5 n m k 1 hlt (by omega), ← hz] at e1
      rw [upT_at 5 n m k 2 hlt (by omega), ← hz] at e2
      rw [upT_at 5 n m k 3 hlt (by omega), ← hz] at e3
      rw [upT_at 5 n m k 4 hlt (by omega), ← hz] at e4
      have g0 : (((z : Nat) : Int) != (z : Int)) = false := bne_f rfl
      have g1 : ((((z + 1 : Nat) : Int)) != (z : Int) + 1) = false := bne_f (by omega)
      have g2 : ((((z + 2 : Nat) : Int)) != (z : Int) + 1 + 1) = false := bne_f (by omega)
      have g3 : ((((z + 3 : Nat) : Int)) != (z : Int) + 1 + 1 + 1) = false := bne_f (by omega)
      have g4 : ((((z + 4 : Nat) : Int)) != (z : Int) + 1 + 1 + 1 + 1) = false := bne_f (by omega)
      have e12 : ((z + 1 : Nat) : Int) = (z : Int) + 1 := by omega
      rw [e12] at e1
      have g12 : (((z : Int) + 1) != ((z : Int) + 1)) = false := bne_f rfl
      have e22 : ((z + 2 : Nat) : Int) = (z : Int) + 1 + 1 := by omega
      rw [e22] at e2
      have g22 : (((z : Int) + 1 + 1) != ((z : Int) + 1 + 1)) = false := bne_f rfl
      have e32 : ((z + 3 : Nat) : Int) = (z : Int) + 1 + 1 + 1 := by omega
      rw [e32] at e3
      have g32 : (((z : Int) + 1 + 1 + 1) != ((z : Int) + 1 + 1 + 1)) = false := bne_f rfl
      have e42 : ((z + 4 : Nat) : Int) = (z : Int) + 1 + 1 + 1 + 1 := by omega
      rw [e42] at e4
      have g42 : (((z : Int) + 1 + 1 + 1 + 1) != ((z : Int) + 1 + 1 + 1 + 1)) = false := bne_f rfl
      have Hz := Lib.hid hz
      clear hz h hl g1 g2 g3 g4 e12 e22 e32 e42
      rw [← Hz.out]
      go_wp2
      go_round
      case rel => exact ⟨k + 1, by omega, by go_num, by rw [show n + (k + 1) * 5 = z + 5 by rw [Hz.out]; omega]; go_num⟩
      case measure => simp [intOf]; omega
    · have He := Lib.hid (show k = m by omega)
      go_wp2
      go_ret
      exact ⟨ret_int (by have := He.out; omega), rfl⟩
end Go.Proofs.Ytcebdokdekgeaaa
