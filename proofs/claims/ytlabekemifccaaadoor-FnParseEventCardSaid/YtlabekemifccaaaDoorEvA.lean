/-
  Lemmas and contracts of single functions of this program, used by the proofs of its laws: what each call returns and what becomes of memory. Conditions: the hypotheses of each theorem.
-/
import Derived.Test.YtlabekemifccaaaDoorMReel
namespace Go.Proofs.YtlabekemifccaaaDoor
open Go.RowKit
attribute [local go_sem ↓] Go.wp_at_zero Go.wp_at_succ

set_option maxRecDepth 100000 in
set_option maxHeartbeats 2000000 in
theorem toEvent_any (d0 d1 d2 d3 d4 d5 d6 : Int) (w : World) :
    Calls Tryd.prog 12 #[.agg #[.int .i64 d0, .int .i64 d1, .int .i64 d2, .int .i64 d3, .int .i64 d4, .int .i64 d5, .int .i64 d6]] w fun e w' => e = .returned (.agg #[.int .i64 d0, .int .i64 d1, .int .i64 d2, .int .i64 d3, .int .i64 d4, .int .i64 d5, .int .i64 d6]) ∧ Below w.heap.size w w' := by
  have Hs := Lib.hid (show ∃ w1, w1 = (((w.alloc (.cells #[.int .i64 d0, .int .i64 d1, .int .i64 d2, .int .i64 d3, .int .i64 d4, .int .i64 d5, .int .i64 d6] 25)).alloc (.cells #[.int .i64 0, .int .i64 0, .int .i64 0, .int .i64 0, .int .i64 0, .int .i64 0, .int .i64 0] 29)).alloc (.cells #[.int .i64 d0, .int .i64 d1, .int .i64 0, .int .i64 0, .int .i64 0, .int .i64 0, .int .i64 0] 29)) ∧ Below w.heap.size w w1 ∧ w1.cell? ⟨w.heap.size, 0, none⟩ = some (.int .i64 d0) ∧ w1.cell? ⟨w.heap.size, 1, none⟩ = some (.int .i64 d1) ∧ w1.cell? ⟨w.heap.size, 2, none⟩ = some (.int .i64 d2) ∧ w1.cell? ⟨w.heap.size, 3, none⟩ = some (.int .i64 d3) ∧ w1.cell? ⟨w.heap.size, 4, none⟩ = some (.int .i64 d4) ∧ w1.cell? ⟨w.heap.size, 5, none⟩ = some (.int .i64 d5) ∧ w1.cell? ⟨w.heap.size, 6, none⟩ = some (.int .i64 d6) ∧ w1.cell? ⟨w.heap.size + 1, 0, none⟩ = some (.int .i64 0) ∧ w1.cell? ⟨w.heap.size + 1, 1, none⟩ = some (.int .i64 0) ∧ w1.cell? ⟨w.heap.size + 1, 2, none⟩ = some (.int .i64 0) ∧ w1.cell? ⟨w.heap.size + 1, 3, none⟩ = some (.int .i64 0) ∧ w1.cell? ⟨w.heap.size + 1, 4, none⟩ = some (.int .i64 0) ∧ w1.cell? ⟨w.heap.size + 1, 5, none⟩ = some (.int .i64 0) ∧ w1.cell? ⟨w.heap.size + 1, 6, none⟩ = some (.int .i64 0) ∧ w1.frozen? ⟨w.heap.size + 1, 0, none⟩ = false ∧ w1.frozen? ⟨w.heap.size + 1, 1, none⟩ = false ∧ w1.frozen? ⟨w.heap.size + 1, 2, none⟩ = false ∧ w1.frozen? ⟨w.heap.size + 1, 3, none⟩ = false ∧ w1.frozen? ⟨w.heap.size + 1, 4, none⟩ = false ∧ w1.frozen? ⟨w.heap.size + 1, 5, none⟩ = false ∧ w1.frozen? ⟨w.heap.size + 1, 6, none⟩ = false ∧ w1.cell? ⟨w.heap.size + 1 + 1, 0, none⟩ = some (.int .i64 d0) ∧ w1.cell? ⟨w.heap.size + 1 + 1, 1, none⟩ = some (.int .i64 d1) ∧ w1.cell? ⟨w.heap.size + 1 + 1, 2, none⟩ = some (.int .i64 0) ∧ w1.cell? ⟨w.heap.size + 1 + 1, 3, none⟩ = some (.int .i64 0) ∧ w1.cell? ⟨w.heap.size + 1 + 1, 4, none⟩ = some (.int .i64 0) ∧ w1.cell? ⟨w.heap.size + 1 + 1, 5, none⟩ = some (.int .i64 0) ∧ w1.cell? ⟨w.heap.size + 1 + 1, 6, none⟩ = some (.int .i64 0) ∧ w1.frozen? ⟨w.heap.size + 1 + 1, 0, none⟩ = false ∧ w1.frozen? ⟨w.heap.size + 1 + 1, 1, none⟩ = false ∧ w1.frozen? ⟨w.heap.size + 1 + 1, 2, none⟩ = false ∧ w1.frozen? ⟨w.heap.size + 1 + 1, 3, none⟩ = false ∧ w1.frozen? ⟨w.heap.size + 1 + 1, 4, none⟩ = false ∧ w1.frozen? ⟨w.heap.size + 1 + 1, 5, none⟩ = false ∧ w1.frozen? ⟨w.heap.size + 1 + 1, 6, none⟩ = false ∧ w.heap.size + 1 + 1 < w1.heap.size from by
    have hb : Below w.heap.size w (((w.alloc (.cells #[.int .i64 d0, .int .i64 d1, .int .i64 d2, .int .i64 d3, .int .i64 d4, .int .i64 d5, .int .i64 d6] 25)).alloc (.cells #[.int .i64 0, .int .i64 0, .int .i64 0, .int .i64 0, .int .i64 0, .int .i64 0, .int .i64 0] 29)).alloc (.cells #[.int .i64 d0, .int .i64 d1, .int .i64 0, .int .i64 0, .int .i64 0, .int .i64 0, .int .i64 0] 29)) := (((Below.refl _ _).alloc (Nat.le_refl _) _).alloc (by simp) _).alloc (by simp; omega) _
    exact ⟨_, rfl, hb, by go_simp, by go_simp, by go_simp, by go_simp, by go_simp, by go_simp, by go_simp, by go_simp, by go_simp, by go_simp, by go_simp, by go_simp, by go_simp, by go_simp, by go_simp, by go_simp, by go_simp, by go_simp, by go_simp, by go_simp, by go_simp, by go_simp, by go_simp, by go_simp, by go_simp, by go_simp, by go_simp, by go_simp, by go_simp, by go_simp, by go_simp, by go_simp, by go_simp, by go_simp, by go_simp, by simp⟩)
  go_enter Tryd.func12, Tryd.ntmps12
  go_wp2_with fail
  obtain ⟨w1, hw1, hb0, c00, c01, c02, c03, c04, c05, c06, c10, c11, c12, c13, c14, c15, c16, f10, f11, f12, f13, f14, f15, f16, c20, c21, c22, c23, c24, c25, c26, f20, f21, f22, f23, f24, f25, f26, hz⟩ := Hs.out
  have HZ := Lib.hid (show w1.heap.size = w.heap.size + 1 + 1 + 1 by rw [hw1]; simp)
  rw [← hw1]
  clear hw1 Hs
  refine (toPart_any d2 d3 d4 d5 w1).mono ?_
  rintro e w3 ⟨rfl, b3⟩
  replace c00 := keepB b3 c00; replace c01 := keepB b3 c01; replace c02 := keepB b3 c02; replace c03 := keepB b3 c03; replace c04 := keepB b3 c04; replace c05 := keepB b3 c05; replace c06 := keepB b3 c06; replace c10 := keepB b3 c10; replace c11 := keepB b3 c11; replace c12 := keepB b3 c12; replace c13 := keepB b3 c13; replace c14 := keepB b3 c14; replace c15 := keepB b3 c15; replace c16 := keepB b3 c16; replace c20 := keepB b3 c20; replace c21 := keepB b3 c21; replace c22 := keepB b3 c22; replace c23 := keepB b3 c23; replace c24 := keepB b3 c24; replace c25 := keepB b3 c25; replace c26 := keepB b3 c26
  replace f10 := keepF b3 (by first | (simp; done) | (simp; omega)) f10; replace f11 := keepF b3 (by first | (simp; done) | (simp; omega)) f11; replace f12 := keepF b3 (by first | (simp; done) | (simp; omega)) f12; replace f13 := keepF b3 (by first | (simp; done) | (simp; omega)) f13; replace f14 := keepF b3 (by first | (simp; done) | (simp; omega)) f14; replace f15 := keepF b3 (by first | (simp; done) | (simp; omega)) f15; replace f16 := keepF b3 (by first | (simp; done) | (simp; omega)) f16; replace f20 := keepF b3 (by first | (simp; done) | (simp; omega)) f20; replace f21 := keepF b3 (by first | (simp; done) | (simp; omega)) f21; replace f22 := keepF b3 (by first | (simp; done) | (simp; omega)) f22; replace f23 := keepF b3 (by first | (simp; done) | (simp; omega)) f23; replace f24 := keepF b3 (by first | (simp; done) | (simp; omega)) f24; replace f25 := keepF b3 (by first | (simp; done) | (simp; omega)) f25; replace f26 := keepF b3 (by first | (simp; done) | (simp; omega)) f26
  have Hb3 := Lib.hid (hb0.trans (b3.mono (by omega)))
  have hz3 : w.heap.size + 1 + 1 < w3.heap.size := World.block_lt_of_cell? w3 _ c20
  clear b3 hb0
  go_wp2
  refine bodyPost_ret (v := .agg #[.int .i64 d0, .int .i64 d1, .int .i64 d2, .int .i64 d3, .int .i64 d4, .int .i64 d5, .int .i64 d6]) (by simp [results, Tryd.results12, go_sem, *]) rfl ⟨rfl, ?_⟩
  repeat (refine Below.setCell ?_ (by first | (simp; done) | (simp; omega)) _)
  exact Hb3.out
set_option maxHeartbeats 1000000 in
theorem eqEvent_same (d0 d1 d2 d3 d4 d5 d6 : Int) (w : World) :
    Calls Tryd.prog 16 #[.agg #[.int .i64 d0, .int .i64 d1, .int .i64 d2, .int .i64 d3, .int .i64 d4, .int .i64 d5, .int .i64 d6], .agg #[.int .i64 d0, .int .i64 d1, .int .i64 d2, .int .i64 d3, .int .i64 d4, .int .i64 d5, .int .i64 d6]] w fun e w' => e = .returned (.bool true) ∧ Below w.heap.size w w' := by
  have h0 : (d0 != d0) = false := bne_f rfl
  have h1 : (d1 != d1) = false := bne_f rfl
  have h6 : (d6 != d6) = false := bne_f rfl
  have Hs := Lib.hid (show ∃ w1, w1 = ((w.alloc (.cells #[.int .i64 d0, .int .i64 d1, .int .i64 d2, .int .i64 d3, .int .i64 d4, .int .i64 d5, .int .i64 d6] 29)).alloc (.cells #[.int .i64 d0, .int .i64 d1, .int .i64 d2, .int .i64 d3, .int .i64 d4, .int .i64 d5, .int .i64 d6] 29)) ∧ Below w.heap.size w w1 ∧ w1.cell? ⟨w.heap.size, 0, none⟩ = some (.int .i64 d0) ∧ w1.cell? ⟨w.heap.size, 1, none⟩ = some (.int .i64 d1) ∧ w1.cell? ⟨w.heap.size, 2, none⟩ = some (.int .i64 d2) ∧ w1.cell? ⟨w.heap.size, 3, none⟩ = some (.int .i64 d3) ∧ w1.cell? ⟨w.heap.size, 4, none⟩ = some (.int .i64 d4) ∧ w1.cell? ⟨w.heap.size, 5, none⟩ = some (.int .i64 d5) ∧ w1.cell? ⟨w.heap.size, 6, none⟩ = some (.int .i64 d6) ∧ w1.cell? ⟨w.heap.size + 1, 0, none⟩ = some (.int .i64 d0) ∧ w1.cell? ⟨w.heap.size + 1, 1, none⟩ = some (.int .i64 d1) ∧ w1.cell? ⟨w.heap.size + 1, 2, none⟩ = some (.int .i64 d2) ∧ w1.cell? ⟨w.heap.size + 1, 3, none⟩ = some (.int .i64 d3) ∧ w1.cell? ⟨w.heap.size + 1, 4, none⟩ = some (.int .i64 d4) ∧ w1.cell? ⟨w.heap.size + 1, 5, none⟩ = some (.int .i64 d5) ∧ w1.cell? ⟨w.heap.size + 1, 6, none⟩ = some (.int .i64 d6) ∧ w.heap.size + 1 < w1.heap.size from by
    have hb : Below w.heap.size w ((w.alloc (.cells #[.int .i64 d0, .int .i64 d1, .int .i64 d2, .int .i64 d3, .int .i64 d4, .int .i64 d5, .int .i64 d6] 29)).alloc (.cells #[.int .i64 d0, .int .i64 d1, .int .i64 d2, .int .i64 d3, .int .i64 d4, .int .i64 d5, .int .i64 d6] 29)) := ((Below.refl _ _).alloc (Nat.le_refl _) _).alloc (by simp) _
    exact ⟨_, rfl, hb, by go_simp, by go_simp, by go_simp, by go_simp, by go_simp, by go_simp, by go_simp, by go_simp, by go_simp, by go_simp, by go_simp, by go_simp, by go_simp, by go_simp, by simp⟩)
  go_enter Tryd.func16, Tryd.ntmps16
  go_wp2_with fail
  obtain ⟨w1, hw1, hb0, c00, c01, c02, c03, c04, c05, c06, c10, c11, c12, c13, c14, c15, c16, hz⟩ := Hs.out
  rw [← hw1]
  clear hw1 Hs
  refine (eqPart_same d2 d3 d4 d5 w1).mono ?_
  rintro e w2 ⟨rfl, b2⟩
  replace c00 := keepB b2 c00; replace c01 := keepB b2 c01; replace c02 := keepB b2 c02; replace c03 := keepB b2 c03; replace c04 := keepB b2 c04; replace c05 := keepB b2 c05; replace c06 := keepB b2 c06; replace c10 := keepB b2 c10; replace c11 := keepB b2 c11; replace c12 := keepB b2 c12; replace c13 := keepB b2 c13; replace c14 := keepB b2 c14; replace c15 := keepB b2 c15; replace c16 := keepB b2 c16
  have Hb := Lib.hid (hb0.trans (b2.mono (by omega)))
  clear b2 hb0
  go_wp2
  go_ret
  exact ⟨rfl, Hb.out⟩
set_option maxRecDepth 100000 in
set_option maxHeartbeats 2000000 in
theorem eqEventS_same (l1 h1 l2 h2 : Nat) (v u : Value) (xs : List (List Int)) (w : World) (h : TS w l1 h1 7 v xs) (hh : h1 ≤ w.heap.size) (hy : TS w l2 h2 7 u xs) (hh2 : h2 ≤ w.heap.size) :
    Calls Tryd.prog 21 #[v, u] w fun e w' => e = .returned (.bool true) ∧ Below w.heap.size w w' := by
  obtain ⟨A, c, rfl, hc, hm⟩ := h.form
  obtain ⟨B, d, rfl, hd, hm'⟩ := hy.form
  have hl' : ((xs.length : Int) != (xs.length : Int)) = false := bne_f rfl
  go_enter Tryd.func21, Tryd.ntmps21
  go_wp2
  clear hl'
  go_loopw [5] (fun i wr => ∃ k : Nat, k ≤ xs.length ∧ i = .int .i64 k ∧ Below w.heap.size w wr) (fun i _ => xs.length - (intOf i).toNat)
  case atStart => exact ⟨0, by omega, rfl, Below.refl _ _⟩
  case round =>
    obtain ⟨k, hk, rfl, bw⟩ := hrel
    by_cases hlt : k < xs.length
    · obtain ⟨b, o, rfl, _, _, e0, e1, e2, e3, e4, e5, e6⟩ := (h.below bw hh).c7 hlt
      obtain ⟨b2, o2, rfl, _, _, f0, f1, f2, f3, f4, f5, f6⟩ := (hy.below bw hh2).c7 hlt
      obtain ⟨d0, hd0⟩ : ∃ d, d = gi (gr xs k) 0 := ⟨_, rfl⟩
      rw [← hd0] at e0 f0
      obtain ⟨d1, hd1⟩ : ∃ d, d = gi (gr xs k) 1 := ⟨_, rfl⟩
      rw [← hd1] at e1 f1
      obtain ⟨d2, hd2⟩ : ∃ d, d = gi (gr xs k) 2 := ⟨_, rfl⟩
      rw [← hd2] at e2 f2
      obtain ⟨d3, hd3⟩ : ∃ d, d = gi (gr xs k) 3 := ⟨_, rfl⟩
      rw [← hd3] at e3 f3
      obtain ⟨d4, hd4⟩ : ∃ d, d = gi (gr xs k) 4 := ⟨_, rfl⟩
      rw [← hd4] at e4 f4
      obtain ⟨d5, hd5⟩ : ∃ d, d = gi (gr xs k) 5 := ⟨_, rfl⟩
      rw [← hd5] at e5 f5
      obtain ⟨d6, hd6⟩ : ∃ d, d = gi (gr xs k) 6 := ⟨_, rfl⟩
      rw [← hd6] at e6 f6
      clear h hy hd0 hd1 hd2 hd3 hd4 hd5 hd6
      have hk0 : (0 : Int) ≤ (k : Int) := by omega
      have hk1 : (k : Int) < (xs.length : Int) := by omega
      go_wp2
      go_region_held3 (fun w' => w'.cell? ⟨b, o + k * 7, none⟩ = some (.int .i64 d0) ∧ w'.cell? ⟨b, o + k * 7 + 1, none⟩ = some (.int .i64 d1) ∧ w'.cell? ⟨b, o + k * 7 + 2, none⟩ = some (.int .i64 d2) ∧ w'.cell? ⟨b, o + k * 7 + 3, none⟩ = some (.int .i64 d3) ∧ w'.cell? ⟨b, o + k * 7 + 4, none⟩ = some (.int .i64 d4) ∧ w'.cell? ⟨b, o + k * 7 + 5, none⟩ = some (.int .i64 d5) ∧ w'.cell? ⟨b, o + k * 7 + 6, none⟩ = some (.int .i64 d6) ∧ w'.cell? ⟨b2, o2 + k * 7, none⟩ = some (.int .i64 d0) ∧ w'.cell? ⟨b2, o2 + k * 7 + 1, none⟩ = some (.int .i64 d1) ∧ w'.cell? ⟨b2, o2 + k * 7 + 2, none⟩ = some (.int .i64 d2) ∧ w'.cell? ⟨b2, o2 + k * 7 + 3, none⟩ = some (.int .i64 d3) ∧ w'.cell? ⟨b2, o2 + k * 7 + 4, none⟩ = some (.int .i64 d4) ∧ w'.cell? ⟨b2, o2 + k * 7 + 5, none⟩ = some (.int .i64 d5) ∧ w'.cell? ⟨b2, o2 + k * 7 + 6, none⟩ = some (.int .i64 d6)) (first | go_keep | (go_split_ands; refine ⟨?_, ?_, ?_, ?_, ?_, ?_, ?_, ?_, ?_, ?_, ?_, ?_, ?_, ?_⟩ <;> exact keepB bx1 (by assumption))) (first | (go_at_call 16; refine (eqEvent_same _ _ _ _ _ _ _ _).mono ?_; rintro e x1 ⟨rfl, bx1⟩))
      have bx2 := of_drew bx1
      go_wp2
      go_roundw
      case rel => exact ⟨k + 1, by omega, by go_num, bw.trans (bx2.mono bw.size)⟩
      case measure => simp [intOf]; omega
    · go_wp2
      go_ret
      exact ⟨rfl, bw⟩
theorem SlEvent1 : SlT Tryd.prog 39 29 (.agg #[.int .i64 0, .int .i64 0, .int .i64 0, .int .i64 0, .int .i64 0, .int .i64 0, .int .i64 0]) 7 56 := ⟨Tryd.underlying39, by kernel_rfl, rfl, by omega⟩
theorem SlEvent1_z : ∀ j, (Value.agg #[.int .i64 0, .int .i64 0, .int .i64 0, .int .i64 0, .int .i64 0, .int .i64 0, .int .i64 0]).cells[j % (Value.agg #[.int .i64 0, .int .i64 0, .int .i64 0, .int .i64 0, .int .i64 0, .int .i64 0, .int .i64 0]).cells.size]! = .int .i64 0 := by
  intro j
  show (#[Value.int .i64 0, Value.int .i64 0, Value.int .i64 0, Value.int .i64 0, Value.int .i64 0, Value.int .i64 0, Value.int .i64 0] : Array Value)[j % 7]! = _
  have h : j % 7 = 0 ∨ j % 7 = 1 ∨ j % 7 = 2 ∨ j % 7 = 3 ∨ j % 7 = 4 ∨ j % 7 = 5 ∨ j % 7 = 6 := by omega
  rcases h with h | h | h | h | h | h | h <;> rw [h] <;> rfl
set_option maxHeartbeats 1000000 in
theorem toEventS_any (lo hi : Nat) (v : Value) (xs : List (List Int)) (w : World) (h : TS w lo hi 7 v xs) (hhi : hi ≤ w.heap.size) (hl : xs.length ≤ 1048576) :
    Calls Tryd.prog 19 #[v] w fun e w' => ∃ v', e = .returned v' ∧ OwnT w' w.heap.size 29 7 v' xs ∧ Below w.heap.size w w' := by
  obtain ⟨A, c, rfl, hc, hm⟩ := h.form
  go_enter Tryd.func19, Tryd.ntmps19
  go_wp2_with (at_make; refine wpList_makeT SlEvent1 SlEvent1_z (by omega) _ rfl _ _ rfl w.heap.size xs.length rfl rfl (by omega) (Nat.le_refl _) ?_; intro w1 ho hb1 hs1)
  go_loopw [4] (fun i wr => ∃ k : Nat, k ≤ xs.length ∧ i = .int .i64 k ∧ OwnT wr w.heap.size 29 7 (.slice (some ⟨w.heap.size, 0, none⟩) xs.length xs.length) (xs.take k ++ (List.replicate xs.length (List.replicate 7 0)).drop k) ∧ Below w.heap.size w wr) (fun i _ => xs.length - (intOf i).toNat)
  case atStart => exact ⟨0, by omega, rfl, by simpa using ho, hb1⟩
  case round =>
    obtain ⟨k, hk, rfl, hown, hb⟩ := hrel
    by_cases hlt : k < xs.length
    · obtain ⟨b, o, rfl, hbl, hbh, e0, e1, e2, e3, e4, e5, e6⟩ := (h.below hb hhi).c7 hlt
      have hlen : (xs.take k ++ (List.replicate xs.length (List.replicate 7 (0 : Int))).drop k).length = xs.length := by rw [List.length_append, List.length_take, List.length_drop, List.length_replicate]; omega
      have i0 := h.i64 hlt 0
      have i1 := h.i64 hlt 1
      have i2 := h.i64 hlt 2
      have i3 := h.i64 hlt 3
      have i4 := h.i64 hlt 4
      have i5 := h.i64 hlt 5
      have i6 := h.i64 hlt 6
      have hrow : gr xs k = [gi (gr xs k) 0, gi (gr xs k) 1, gi (gr xs k) 2, gi (gr xs k) 3, gi (gr xs k) 4, gi (gr xs k) 5, gi (gr xs k) 6] := by
        have hq := (h.all _ (gr_mem hlt)).1
        obtain ⟨q, hq2⟩ : ∃ q, q = gr xs k := ⟨_, rfl⟩
        rw [← hq2] at hq ⊢
        match q, hq with
        | [_, _, _, _, _, _, _], _ => rfl
      obtain ⟨d0, hd0⟩ : ∃ d, d = gi (gr xs k) 0 := ⟨_, rfl⟩
      obtain ⟨d1, hd1⟩ : ∃ d, d = gi (gr xs k) 1 := ⟨_, rfl⟩
      obtain ⟨d2, hd2⟩ : ∃ d, d = gi (gr xs k) 2 := ⟨_, rfl⟩
      obtain ⟨d3, hd3⟩ : ∃ d, d = gi (gr xs k) 3 := ⟨_, rfl⟩
      obtain ⟨d4, hd4⟩ : ∃ d, d = gi (gr xs k) 4 := ⟨_, rfl⟩
      obtain ⟨d5, hd5⟩ : ∃ d, d = gi (gr xs k) 5 := ⟨_, rfl⟩
      obtain ⟨d6, hd6⟩ : ∃ d, d = gi (gr xs k) 6 := ⟨_, rfl⟩
      rw [← hd0, ← hd1, ← hd2, ← hd3, ← hd4, ← hd5, ← hd6] at hrow
      rw [← hd0] at e0 i0
      rw [← hd1] at e1 i1
      rw [← hd2] at e2 i2
      rw [← hd3] at e3 i3
      rw [← hd4] at e4 i4
      rw [← hd5] at e5 i5
      rw [← hd6] at e6 i6
      have Hset := Lib.hid (rep_set (k := 7) xs k hlt hrow)
      have Hown := Lib.hid hown
      have Hlen := Lib.hid hlen
      clear hrow hown hlen hd0 hd1 hd2 hd3 hd4 hd5 hd6 ho
      go_wp2_with (go_at_call 12; refine (toEvent_any _ _ _ _ _ _ _ _).mono ?_; rintro e w2 ⟨rfl, bx⟩; have ho2 := Hown.out.kept (.of_below bx (Nat.le_refl _)); obtain ⟨_, hsz, hcell, hfr⟩ := ho2.at' (i := k) (by rw [Hlen.out]; exact hlt) (by omega); have q0 := hcell 0 (by omega); have f0 := hfr 0; have q1 := hcell 1 (by omega); have f1 := hfr 1; have q2 := hcell 2 (by omega); have f2 := hfr 2; have q3 := hcell 3 (by omega); have f3 := hfr 3; have q4 := hcell 4 (by omega); have f4 := hfr 4; have q5 := hcell 5 (by omega); have f5 := hfr 5; have q6 := hcell 6 (by omega); have f6 := hfr 6; rw [Nat.add_zero] at q0 f0; have hrow := ho2.row7 (i := k) (by rw [Hlen.out]; exact hlt) d0 d1 d2 d3 d4 d5 d6 ⟨i0, i1, i2, i3, i4, i5, i6⟩; rw [Hset.out] at hrow; have Hrow := Lib.hid hrow; have Hb := Lib.hid (hb.trans (bx.mono hb.size)); clear hrow hcell hfr ho2 hb)
      go_roundw
      case rel => exact ⟨k + 1, by omega, by go_num, Hrow.out, (((((((Hb.out.setCell (p := ⟨w.heap.size, k * 7, none⟩) (Nat.le_refl _) _).setCell (p := ⟨w.heap.size, k * 7 + 1, none⟩) (Nat.le_refl _) _).setCell (p := ⟨w.heap.size, k * 7 + 2, none⟩) (Nat.le_refl _) _).setCell (p := ⟨w.heap.size, k * 7 + 3, none⟩) (Nat.le_refl _) _).setCell (p := ⟨w.heap.size, k * 7 + 4, none⟩) (Nat.le_refl _) _).setCell (p := ⟨w.heap.size, k * 7 + 5, none⟩) (Nat.le_refl _) _).setCell (p := ⟨w.heap.size, k * 7 + 6, none⟩) (Nat.le_refl _) _)⟩
      case measure => simp [intOf]; omega
    · have He := Lib.hid (show k = xs.length by omega)
      go_wp2
      go_ret
      exact ⟨_, rfl, by simpa [He.out] using hown, hb⟩
theorem szEventS_any (A : Option Addr) (n c m : Nat) (w : World) (h : n ≤ m) (hm : m ≤ 1099511627776) :
    Calls Tryd.prog 17 #[.slice A n c, .int .i64 (m : Int)] w fun e w' => e = .returned (.int .i64 ((m - n : Nat) : Int)) ∧ w = w' := by
  go_enter Tryd.func17, Tryd.ntmps17
  go_wp2
  go_ret
  exact ⟨ret_int (by omega), rfl⟩
theorem szEventS_neg (A : Option Addr) (n c m : Nat) (w : World) (h : m < n) (hn : n ≤ 2 ^ 63 - 1) :
    Calls Tryd.prog 17 #[.slice A n c, .int .i64 (m : Int)] w fun e w' => e = .returned (.int .i64 (-1)) ∧ w = w' := by
  go_enter Tryd.func17, Tryd.ntmps17
  go_wp2
  go_ret
  exact ⟨rfl, rfl⟩
end Go.Proofs.YtlabekemifccaaaDoor
