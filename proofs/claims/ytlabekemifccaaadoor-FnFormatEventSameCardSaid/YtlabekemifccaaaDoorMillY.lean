/-
  Lemmas and contracts of single functions of this program, used by the proofs of its laws: what each call returns and what becomes of memory. Conditions: the hypotheses of each theorem.
-/
import Derived.Test.YtlabekemifccaaaDoorMillU
import Derived.Test.YtlabekemifccaaaDoorMillM
namespace Go.Proofs.YtlabekemifccaaaDoor
open Go.RowKit
attribute [local go_sem ↓] Go.wp_at_zero Go.wp_at_succ

set_option maxRecDepth 100000 in
set_option maxHeartbeats 8000000 in
theorem DrawApplyEvent_any (v : Value) (xs : List Int) (w : World) (h : Bytes w 0 w.heap.size v xs) :
    Calls Tryd.prog 32 #[v] w fun e w' => ∃ (A : Option Addr) (n c : Nat) (es : List Ent) (a b z : Int) (ev : Evt), e = .returned (.tuple #[.agg #[.slice A n c, .int .i64 a, .int .i64 b, .int .i64 z], .agg #[.int .i64 ev.k, .int .i64 ev.lb, .int .i64 ev.l, .int .i64 ev.r, .int .i64 ev.f, .int .i64 ev.t, .int .i64 ev.g]]) ∧ n = es.length ∧ ES w' w.heap.size w'.heap.size (.slice A n c) es ∧ ((-1 ≤ a ∧ a ≤ 900001) ∧ (-1 ≤ b ∧ b ≤ 900001) ∧ (-1 ≤ z ∧ z ≤ 900001)) ∧ V64 ev ∧ Below w.heap.size w w' := by
  have Hs := Lib.hid (show ∃ w1, w1 = ((w.alloc (.cells #[.slice none 0 0, .int .i64 0, .int .i64 0, .int .i64 0] 52)).alloc (.cells #[.int .i64 0, .int .i64 0, .int .i64 0, .int .i64 0, .int .i64 0, .int .i64 0, .int .i64 0] 29)) ∧ Below w.heap.size w w1 ∧ w1.cell? ⟨w.heap.size, 0, none⟩ = some (.slice none 0 0) ∧ w1.cell? ⟨w.heap.size, 1, none⟩ = some (.int .i64 0) ∧ w1.cell? ⟨w.heap.size, 2, none⟩ = some (.int .i64 0) ∧ w1.cell? ⟨w.heap.size, 3, none⟩ = some (.int .i64 0) ∧ w1.frozen? ⟨w.heap.size, 0, none⟩ = false ∧ w1.frozen? ⟨w.heap.size, 1, none⟩ = false ∧ w1.frozen? ⟨w.heap.size, 2, none⟩ = false ∧ w1.frozen? ⟨w.heap.size, 3, none⟩ = false ∧ w1.cell? ⟨w.heap.size + 1, 0, none⟩ = some (.int .i64 0) ∧ w1.cell? ⟨w.heap.size + 1, 1, none⟩ = some (.int .i64 0) ∧ w1.cell? ⟨w.heap.size + 1, 2, none⟩ = some (.int .i64 0) ∧ w1.cell? ⟨w.heap.size + 1, 3, none⟩ = some (.int .i64 0) ∧ w1.cell? ⟨w.heap.size + 1, 4, none⟩ = some (.int .i64 0) ∧ w1.cell? ⟨w.heap.size + 1, 5, none⟩ = some (.int .i64 0) ∧ w1.cell? ⟨w.heap.size + 1, 6, none⟩ = some (.int .i64 0) ∧ w1.frozen? ⟨w.heap.size + 1, 0, none⟩ = false ∧ w1.frozen? ⟨w.heap.size + 1, 1, none⟩ = false ∧ w1.frozen? ⟨w.heap.size + 1, 2, none⟩ = false ∧ w1.frozen? ⟨w.heap.size + 1, 3, none⟩ = false ∧ w1.frozen? ⟨w.heap.size + 1, 4, none⟩ = false ∧ w1.frozen? ⟨w.heap.size + 1, 5, none⟩ = false ∧ w1.frozen? ⟨w.heap.size + 1, 6, none⟩ = false ∧ w.heap.size + 1 < w1.heap.size from by
    have hb : Below w.heap.size w ((w.alloc (.cells #[.slice none 0 0, .int .i64 0, .int .i64 0, .int .i64 0] 52)).alloc (.cells #[.int .i64 0, .int .i64 0, .int .i64 0, .int .i64 0, .int .i64 0, .int .i64 0, .int .i64 0] 29)) := ((Below.refl _ _).alloc (Nat.le_refl _) _).alloc (by simp) _
    exact ⟨_, rfl, hb, by go_simp, by go_simp, by go_simp, by go_simp, by go_simp, by go_simp, by go_simp, by go_simp, by go_simp, by go_simp, by go_simp, by go_simp, by go_simp, by go_simp, by go_simp, by go_simp, by go_simp, by go_simp, by go_simp, by go_simp, by go_simp, by go_simp, by simp⟩)
  have hb1 : ∀ w1, Below w.heap.size w w1 → Bytes w1 0 w.heap.size v xs := fun w1 hb => h.kept (.of_below hb (Nat.le_refl _))
  have hv : ∃ A n c, v = .slice A n c := by obtain ⟨A, c, e, _⟩ := h; exact ⟨A, _, c, e⟩
  obtain ⟨A0, n0, c0, rfl⟩ := hv
  go_enter Tryd.func32, Tryd.ntmps32
  go_wp2_with fail
  obtain ⟨w1, hw1, hb0, c00, c01, c02, c03, f00, f01, f02, f03, c10, c11, c12, c13, c14, c15, c16, f10, f11, f12, f13, f14, f15, f16, hz⟩ := Hs.out
  have HZ := Lib.hid (show w1.heap.size = w.heap.size + 1 + 1 by rw [hw1]; simp)
  rw [← hw1]
  clear hw1 Hs
  have hby := hb1 w1 hb0
  clear hb1 h
  refine (newReader_any _ xs w1 (Bytes.wide hby (Nat.le_refl _) (by omega))).mono ?_
  rintro e w2 ⟨rv, rfl, hr2, bx⟩
  replace c00 := keepB bx c00; replace c01 := keepB bx c01; replace c02 := keepB bx c02; replace c03 := keepB bx c03; replace c10 := keepB bx c10; replace c11 := keepB bx c11; replace c12 := keepB bx c12; replace c13 := keepB bx c13; replace c14 := keepB bx c14; replace c15 := keepB bx c15; replace c16 := keepB bx c16
  replace f00 := keepF bx (by first | (simp; done) | (simp; omega)) f00; replace f01 := keepF bx (by first | (simp; done) | (simp; omega)) f01; replace f02 := keepF bx (by first | (simp; done) | (simp; omega)) f02; replace f03 := keepF bx (by first | (simp; done) | (simp; omega)) f03; replace f10 := keepF bx (by first | (simp; done) | (simp; omega)) f10; replace f11 := keepF bx (by first | (simp; done) | (simp; omega)) f11; replace f12 := keepF bx (by first | (simp; done) | (simp; omega)) f12; replace f13 := keepF bx (by first | (simp; done) | (simp; omega)) f13; replace f14 := keepF bx (by first | (simp; done) | (simp; omega)) f14; replace f15 := keepF bx (by first | (simp; done) | (simp; omega)) f15; replace f16 := keepF bx (by first | (simp; done) | (simp; omega)) f16
  have hb2 := hb0.trans (bx.mono (by omega))
  have hz2 := hr2.lt
  have hz12 : w1.heap.size = w.heap.size + 1 + 1 := HZ.out
  have HZ12 := Lib.hid hz12
  have hlt1 : w.heap.size + 1 < w1.heap.size := by omega
  clear hby bx hb0 hz12
  go_wp2_with fail
  refine (anyMill_any _ _ _ _ w2 hr2 (by omega)).mono ?_
  rintro e w3 ⟨u, es, a, b, z, k3, rfl, hes, hbd, hl12, hve, hk3, hr3, bg⟩
  obtain ⟨A, c, rfl, hc, hm⟩ := hes.form
  have hneP : ¬ w.heap.size = w1.heap.size := by omega
  have hneQ : ¬ w.heap.size + 1 = w1.heap.size := by omega
  replace c00 := keepW bg (by first | (simp; done) | (simp; omega)) c00; replace c01 := keepW bg (by first | (simp; done) | (simp; omega)) c01; replace c02 := keepW bg (by first | (simp; done) | (simp; omega)) c02; replace c03 := keepW bg (by first | (simp; done) | (simp; omega)) c03; replace c10 := keepW bg (by first | (simp; done) | (simp; omega)) c10; replace c11 := keepW bg (by first | (simp; done) | (simp; omega)) c11; replace c12 := keepW bg (by first | (simp; done) | (simp; omega)) c12; replace c13 := keepW bg (by first | (simp; done) | (simp; omega)) c13; replace c14 := keepW bg (by first | (simp; done) | (simp; omega)) c14; replace c15 := keepW bg (by first | (simp; done) | (simp; omega)) c15; replace c16 := keepW bg (by first | (simp; done) | (simp; omega)) c16
  replace f00 := keepWF bg (by first | (simp; done) | (simp; omega)) f00; replace f01 := keepWF bg (by first | (simp; done) | (simp; omega)) f01; replace f02 := keepWF bg (by first | (simp; done) | (simp; omega)) f02; replace f03 := keepWF bg (by first | (simp; done) | (simp; omega)) f03; replace f10 := keepWF bg (by first | (simp; done) | (simp; omega)) f10; replace f11 := keepWF bg (by first | (simp; done) | (simp; omega)) f11; replace f12 := keepWF bg (by first | (simp; done) | (simp; omega)) f12; replace f13 := keepWF bg (by first | (simp; done) | (simp; omega)) f13; replace f14 := keepWF bg (by first | (simp; done) | (simp; omega)) f14; replace f15 := keepWF bg (by first | (simp; done) | (simp; omega)) f15; replace f16 := keepWF bg (by first | (simp; done) | (simp; omega)) f16
  have hb3 := hb2.trans (below_of_grown bg (B := w.heap.size) (by omega) (by omega))
  have hz3 := bg.size
  have HVE := Lib.hid hve
  clear bg hr2 hb2 HZ hve
  go_wp2_with fail
  obtain ⟨w4, hw1⟩ : ∃ w4, w4 = w3.alloc (.cells #[.slice A es.length c, .int .i64 a, .int .i64 b, .int .i64 z] 52) := ⟨_, rfl⟩
  have x0 : w4.cell? ⟨w3.heap.size, 0, none⟩ = some (.slice A es.length c) := by rw [hw1]; go_simp
  have x1 : w4.cell? ⟨w3.heap.size, 1, none⟩ = some (.int .i64 a) := by rw [hw1]; go_simp
  have x2 : w4.cell? ⟨w3.heap.size, 2, none⟩ = some (.int .i64 b) := by rw [hw1]; go_simp
  have x3 : w4.cell? ⟨w3.heap.size, 3, none⟩ = some (.int .i64 z) := by rw [hw1]; go_simp
  have bx : Below w3.heap.size w3 w4 := by rw [hw1]; exact (Below.refl _ _).alloc (Nat.le_refl _) _
  have zx : w3.heap.size < w4.heap.size := by rw [hw1]; simp
  have HZx := Lib.hid (show w4.heap.size = w3.heap.size + 1 by rw [hw1]; simp)
  have fx0 : w4.frozen? ⟨w3.heap.size, 0, none⟩ = false := by rw [hw1]; go_simp
  have fx1 : w4.frozen? ⟨w3.heap.size, 1, none⟩ = false := by rw [hw1]; go_simp
  have fx2 : w4.frozen? ⟨w3.heap.size, 2, none⟩ = false := by rw [hw1]; go_simp
  have fx3 : w4.frozen? ⟨w3.heap.size, 3, none⟩ = false := by rw [hw1]; go_simp
  have Hx := Lib.hid (show w4.heap[w3.heap.size]? = some (.cells #[.slice A es.length c, .int .i64 a, .int .i64 b, .int .i64 z] 52) by rw [hw1]; exact heap_alloc_new w3 _)
  rw [← hw1]
  clear hw1
  have hr4 := hr3.below bx
  have he4 := hes.below bx (Nat.le_refl _)
  have hb4 := hb3.trans (bx.mono (by omega))
  replace c00 := keepB bx c00; replace c01 := keepB bx c01; replace c02 := keepB bx c02; replace c03 := keepB bx c03; replace c10 := keepB bx c10; replace c11 := keepB bx c11; replace c12 := keepB bx c12; replace c13 := keepB bx c13; replace c14 := keepB bx c14; replace c15 := keepB bx c15; replace c16 := keepB bx c16
  replace f00 := keepF bx (by first | (simp; done) | (simp; omega)) f00; replace f01 := keepF bx (by first | (simp; done) | (simp; omega)) f01; replace f02 := keepF bx (by first | (simp; done) | (simp; omega)) f02; replace f03 := keepF bx (by first | (simp; done) | (simp; omega)) f03; replace f10 := keepF bx (by first | (simp; done) | (simp; omega)) f10; replace f11 := keepF bx (by first | (simp; done) | (simp; omega)) f11; replace f12 := keepF bx (by first | (simp; done) | (simp; omega)) f12; replace f13 := keepF bx (by first | (simp; done) | (simp; omega)) f13; replace f14 := keepF bx (by first | (simp; done) | (simp; omega)) f14; replace f15 := keepF bx (by first | (simp; done) | (simp; omega)) f15; replace f16 := keepF bx (by first | (simp; done) | (simp; omega)) f16
  obtain ⟨X, hX⟩ : ∃ X, X = w3.heap.size := ⟨_, rfl⟩
  rw [← hX] at x0 x1 x2 x3 fx0 fx1 fx2 fx3 zx he4 hz3
  rw [← hX]
  clear bx hr3 hes hb3 Hx HZx hX
  refine (someEvent_any _ _ _ w2.heap.size X _ _ es a b z w4 hr4 (by omega) he4 (by omega) hz2.2 hl12 HVE.out).mono ?_
  rintro e w5 ⟨ev, k4, rfl, h64, hk4, hr5, bg⟩
  have hneX : ¬ X = w1.heap.size := by omega
  replace c00 := keepW bg (by first | (simp; done) | (simp; omega)) c00; replace c01 := keepW bg (by first | (simp; done) | (simp; omega)) c01; replace c02 := keepW bg (by first | (simp; done) | (simp; omega)) c02; replace c03 := keepW bg (by first | (simp; done) | (simp; omega)) c03; replace c10 := keepW bg (by first | (simp; done) | (simp; omega)) c10; replace c11 := keepW bg (by first | (simp; done) | (simp; omega)) c11; replace c12 := keepW bg (by first | (simp; done) | (simp; omega)) c12; replace c13 := keepW bg (by first | (simp; done) | (simp; omega)) c13; replace c14 := keepW bg (by first | (simp; done) | (simp; omega)) c14; replace c15 := keepW bg (by first | (simp; done) | (simp; omega)) c15; replace c16 := keepW bg (by first | (simp; done) | (simp; omega)) c16; replace x0 := keepW bg (by first | (simp; done) | (simp; omega)) x0; replace x1 := keepW bg (by first | (simp; done) | (simp; omega)) x1; replace x2 := keepW bg (by first | (simp; done) | (simp; omega)) x2; replace x3 := keepW bg (by first | (simp; done) | (simp; omega)) x3
  replace f00 := keepWF bg (by first | (simp; done) | (simp; omega)) f00; replace f01 := keepWF bg (by first | (simp; done) | (simp; omega)) f01; replace f02 := keepWF bg (by first | (simp; done) | (simp; omega)) f02; replace f03 := keepWF bg (by first | (simp; done) | (simp; omega)) f03; replace f10 := keepWF bg (by first | (simp; done) | (simp; omega)) f10; replace f11 := keepWF bg (by first | (simp; done) | (simp; omega)) f11; replace f12 := keepWF bg (by first | (simp; done) | (simp; omega)) f12; replace f13 := keepWF bg (by first | (simp; done) | (simp; omega)) f13; replace f14 := keepWF bg (by first | (simp; done) | (simp; omega)) f14; replace f15 := keepWF bg (by first | (simp; done) | (simp; omega)) f15; replace f16 := keepWF bg (by first | (simp; done) | (simp; omega)) f16
  have he5 := he4.kept (Kept.of_grown bg (by omega) (.inl (by omega)))
  have hb5 := hb4.trans (below_of_grown bg (B := w.heap.size) (by omega) (by omega))
  have hz5 := bg.size
  have H64 := Lib.hid h64
  have hw1s : w1.heap.size < w5.heap.size := by omega
  clear bg hr4 he4 hb4 h64
  go_wp2_with fail
  obtain ⟨w6, hw1⟩ : ∃ w6, w6 = w5.alloc (.cells #[.int .i64 (ev.k), .int .i64 (ev.lb), .int .i64 (ev.l), .int .i64 (ev.r), .int .i64 (ev.f), .int .i64 (ev.t), .int .i64 (ev.g)] 29) := ⟨_, rfl⟩
  have y_0 : w6.cell? ⟨w5.heap.size, 0, none⟩ = some (.int .i64 (ev.k)) := by rw [hw1]; go_simp
  have y_1 : w6.cell? ⟨w5.heap.size, 1, none⟩ = some (.int .i64 (ev.lb)) := by rw [hw1]; go_simp
  have y_2 : w6.cell? ⟨w5.heap.size, 2, none⟩ = some (.int .i64 (ev.l)) := by rw [hw1]; go_simp
  have y_3 : w6.cell? ⟨w5.heap.size, 3, none⟩ = some (.int .i64 (ev.r)) := by rw [hw1]; go_simp
  have y_4 : w6.cell? ⟨w5.heap.size, 4, none⟩ = some (.int .i64 (ev.f)) := by rw [hw1]; go_simp
  have y_5 : w6.cell? ⟨w5.heap.size, 5, none⟩ = some (.int .i64 (ev.t)) := by rw [hw1]; go_simp
  have y_6 : w6.cell? ⟨w5.heap.size, 6, none⟩ = some (.int .i64 (ev.g)) := by rw [hw1]; go_simp
  have by_ : Below w5.heap.size w5 w6 := by rw [hw1]; exact (Below.refl _ _).alloc (Nat.le_refl _) _
  have zy_ : w5.heap.size < w6.heap.size := by rw [hw1]; simp
  have HZy_ := Lib.hid (show w6.heap.size = w5.heap.size + 1 by rw [hw1]; simp)
  have fy_0 : w6.frozen? ⟨w5.heap.size, 0, none⟩ = false := by rw [hw1]; go_simp
  have fy_1 : w6.frozen? ⟨w5.heap.size, 1, none⟩ = false := by rw [hw1]; go_simp
  have fy_2 : w6.frozen? ⟨w5.heap.size, 2, none⟩ = false := by rw [hw1]; go_simp
  have fy_3 : w6.frozen? ⟨w5.heap.size, 3, none⟩ = false := by rw [hw1]; go_simp
  have fy_4 : w6.frozen? ⟨w5.heap.size, 4, none⟩ = false := by rw [hw1]; go_simp
  have fy_5 : w6.frozen? ⟨w5.heap.size, 5, none⟩ = false := by rw [hw1]; go_simp
  have fy_6 : w6.frozen? ⟨w5.heap.size, 6, none⟩ = false := by rw [hw1]; go_simp
  have Hy_ := Lib.hid (show w6.heap[w5.heap.size]? = some (.cells #[.int .i64 (ev.k), .int .i64 (ev.lb), .int .i64 (ev.l), .int .i64 (ev.r), .int .i64 (ev.f), .int .i64 (ev.t), .int .i64 (ev.g)] 29) by rw [hw1]; exact heap_alloc_new w5 _)
  rw [← hw1]
  clear hw1
  have hr6 := hr5.below by_
  have he6 := he5.below by_ (by omega)
  have hb6 := hb5.trans (by_.mono (by omega))
  replace c00 := keepB by_ c00; replace c01 := keepB by_ c01; replace c02 := keepB by_ c02; replace c03 := keepB by_ c03; replace c10 := keepB by_ c10; replace c11 := keepB by_ c11; replace c12 := keepB by_ c12; replace c13 := keepB by_ c13; replace c14 := keepB by_ c14; replace c15 := keepB by_ c15; replace c16 := keepB by_ c16; replace x0 := keepB by_ x0; replace x1 := keepB by_ x1; replace x2 := keepB by_ x2; replace x3 := keepB by_ x3
  replace f00 := keepF by_ (by first | (simp; done) | (simp; omega)) f00; replace f01 := keepF by_ (by first | (simp; done) | (simp; omega)) f01; replace f02 := keepF by_ (by first | (simp; done) | (simp; omega)) f02; replace f03 := keepF by_ (by first | (simp; done) | (simp; omega)) f03; replace f10 := keepF by_ (by first | (simp; done) | (simp; omega)) f10; replace f11 := keepF by_ (by first | (simp; done) | (simp; omega)) f11; replace f12 := keepF by_ (by first | (simp; done) | (simp; omega)) f12; replace f13 := keepF by_ (by first | (simp; done) | (simp; omega)) f13; replace f14 := keepF by_ (by first | (simp; done) | (simp; omega)) f14; replace f15 := keepF by_ (by first | (simp; done) | (simp; omega)) f15; replace f16 := keepF by_ (by first | (simp; done) | (simp; omega)) f16
  obtain ⟨Y, hY⟩ : ∃ Y, Y = w5.heap.size := ⟨_, rfl⟩
  rw [← hY] at y_0 y_1 y_2 y_3 y_4 y_5 y_6 fy_0 fy_1 fy_2 fy_3 fy_4 fy_5 fy_6 zy_ hz5 hw1s
  rw [← hY]
  clear by_ hr5 he5 hb5 Hy_ HZy_ hY
  refine (pick_any _ _ _ _ 16 w6 hr6 (by omega) (by omega)).mono ?_
  rintro e w7 ⟨q, rfl, hm9, hr7, bo9⟩
  have q_r := hm9.rng (m := 16) (by omega) (by omega)
  have hneY : ¬ Y = w1.heap.size := by omega
  replace c00 := keepO bo9 (by first | (simp; done) | (simp; omega)) c00; replace c01 := keepO bo9 (by first | (simp; done) | (simp; omega)) c01; replace c02 := keepO bo9 (by first | (simp; done) | (simp; omega)) c02; replace c03 := keepO bo9 (by first | (simp; done) | (simp; omega)) c03; replace c10 := keepO bo9 (by first | (simp; done) | (simp; omega)) c10; replace c11 := keepO bo9 (by first | (simp; done) | (simp; omega)) c11; replace c12 := keepO bo9 (by first | (simp; done) | (simp; omega)) c12; replace c13 := keepO bo9 (by first | (simp; done) | (simp; omega)) c13; replace c14 := keepO bo9 (by first | (simp; done) | (simp; omega)) c14; replace c15 := keepO bo9 (by first | (simp; done) | (simp; omega)) c15; replace c16 := keepO bo9 (by first | (simp; done) | (simp; omega)) c16; replace x0 := keepO bo9 (by first | (simp; done) | (simp; omega)) x0; replace x1 := keepO bo9 (by first | (simp; done) | (simp; omega)) x1; replace x2 := keepO bo9 (by first | (simp; done) | (simp; omega)) x2; replace x3 := keepO bo9 (by first | (simp; done) | (simp; omega)) x3; replace y_0 := keepO bo9 (by first | (simp; done) | (simp; omega)) y_0; replace y_1 := keepO bo9 (by first | (simp; done) | (simp; omega)) y_1; replace y_2 := keepO bo9 (by first | (simp; done) | (simp; omega)) y_2; replace y_3 := keepO bo9 (by first | (simp; done) | (simp; omega)) y_3; replace y_4 := keepO bo9 (by first | (simp; done) | (simp; omega)) y_4; replace y_5 := keepO bo9 (by first | (simp; done) | (simp; omega)) y_5; replace y_6 := keepO bo9 (by first | (simp; done) | (simp; omega)) y_6
  replace f00 := keepOF bo9 (by first | (simp; done) | (simp; omega)) f00; replace f01 := keepOF bo9 (by first | (simp; done) | (simp; omega)) f01; replace f02 := keepOF bo9 (by first | (simp; done) | (simp; omega)) f02; replace f03 := keepOF bo9 (by first | (simp; done) | (simp; omega)) f03; replace f10 := keepOF bo9 (by first | (simp; done) | (simp; omega)) f10; replace f11 := keepOF bo9 (by first | (simp; done) | (simp; omega)) f11; replace f12 := keepOF bo9 (by first | (simp; done) | (simp; omega)) f12; replace f13 := keepOF bo9 (by first | (simp; done) | (simp; omega)) f13; replace f14 := keepOF bo9 (by first | (simp; done) | (simp; omega)) f14; replace f15 := keepOF bo9 (by first | (simp; done) | (simp; omega)) f15; replace f16 := keepOF bo9 (by first | (simp; done) | (simp; omega)) f16; replace fy_0 := keepOF bo9 (by first | (simp; done) | (simp; omega)) fy_0; replace fy_1 := keepOF bo9 (by first | (simp; done) | (simp; omega)) fy_1; replace fy_2 := keepOF bo9 (by first | (simp; done) | (simp; omega)) fy_2; replace fy_3 := keepOF bo9 (by first | (simp; done) | (simp; omega)) fy_3; replace fy_4 := keepOF bo9 (by first | (simp; done) | (simp; omega)) fy_4; replace fy_5 := keepOF bo9 (by first | (simp; done) | (simp; omega)) fy_5; replace fy_6 := keepOF bo9 (by first | (simp; done) | (simp; omega)) fy_6
  have he7 := he6.kept (bo9.kept (.inr (by omega)))
  have hb7 := hb6.trans (below_of_grown (grown_only bo9) (B := w.heap.size) (by omega) (by omega))
  have hz7 : w6.heap.size ≤ w7.heap.size := by have := bo9.size; omega
  clear bo9 hm9 hr6 he6 hb6
  by_cases hq0 : q = 0
  · have e0 : (q == 0) = true := beq_t hq0
    clear hq0
    go_wp2_with fail
    refine (one_lit _ _ _ _ [4, -1, 0, 3] w7 _ _ _ hr7 (by omega) rfl rfl rfl (by simp) (by simp) (by unfold I64; simp)).mono ?_
    rintro e w8 ⟨yv, rfl, hyv, _, bg⟩
    have Hyv := Lib.hid (show I64 yv by unfold I64; simp only [List.mem_cons, List.not_mem_nil, or_false] at hyv; omega)
    replace c00 := keepW bg (by first | (simp; done) | (simp; omega)) c00; replace c01 := keepW bg (by first | (simp; done) | (simp; omega)) c01; replace c02 := keepW bg (by first | (simp; done) | (simp; omega)) c02; replace c03 := keepW bg (by first | (simp; done) | (simp; omega)) c03; replace c10 := keepW bg (by first | (simp; done) | (simp; omega)) c10; replace c11 := keepW bg (by first | (simp; done) | (simp; omega)) c11; replace c12 := keepW bg (by first | (simp; done) | (simp; omega)) c12; replace c13 := keepW bg (by first | (simp; done) | (simp; omega)) c13; replace c14 := keepW bg (by first | (simp; done) | (simp; omega)) c14; replace c15 := keepW bg (by first | (simp; done) | (simp; omega)) c15; replace c16 := keepW bg (by first | (simp; done) | (simp; omega)) c16; replace x0 := keepW bg (by first | (simp; done) | (simp; omega)) x0; replace x1 := keepW bg (by first | (simp; done) | (simp; omega)) x1; replace x2 := keepW bg (by first | (simp; done) | (simp; omega)) x2; replace x3 := keepW bg (by first | (simp; done) | (simp; omega)) x3; replace y_0 := keepW bg (by first | (simp; done) | (simp; omega)) y_0; replace y_1 := keepW bg (by first | (simp; done) | (simp; omega)) y_1; replace y_2 := keepW bg (by first | (simp; done) | (simp; omega)) y_2; replace y_3 := keepW bg (by first | (simp; done) | (simp; omega)) y_3; replace y_4 := keepW bg (by first | (simp; done) | (simp; omega)) y_4; replace y_5 := keepW bg (by first | (simp; done) | (simp; omega)) y_5; replace y_6 := keepW bg (by first | (simp; done) | (simp; omega)) y_6
    replace f00 := keepWF bg (by first | (simp; done) | (simp; omega)) f00; replace f01 := keepWF bg (by first | (simp; done) | (simp; omega)) f01; replace f02 := keepWF bg (by first | (simp; done) | (simp; omega)) f02; replace f03 := keepWF bg (by first | (simp; done) | (simp; omega)) f03; replace f10 := keepWF bg (by first | (simp; done) | (simp; omega)) f10; replace f11 := keepWF bg (by first | (simp; done) | (simp; omega)) f11; replace f12 := keepWF bg (by first | (simp; done) | (simp; omega)) f12; replace f13 := keepWF bg (by first | (simp; done) | (simp; omega)) f13; replace f14 := keepWF bg (by first | (simp; done) | (simp; omega)) f14; replace f15 := keepWF bg (by first | (simp; done) | (simp; omega)) f15; replace f16 := keepWF bg (by first | (simp; done) | (simp; omega)) f16; replace fy_0 := keepWF bg (by first | (simp; done) | (simp; omega)) fy_0
    have he8 := he7.kept (Kept.of_grown bg (by omega) (.inl (by omega)))
    have hb8 := hb7.trans (below_of_grown bg (B := w.heap.size) (by omega) (by omega))
    have hz8 := bg.size
    clear bg hyv hr7 he7 hb7
    obtain ⟨w9, hw9⟩ : ∃ w9, w9 = w8.setCell ⟨Y, 0, none⟩ (.int .i64 yv) := ⟨_, rfl⟩
    have hz9 : w9.heap.size = w8.heap.size := by rw [hw9]; simp [World.setCell]
    have ex : ∀ q, ¬ Y = q → w9.heap[q]? = w8.heap[q]? := fun q hq => by rw [hw9]; simp only [World.setCell, Array.getElem?_modify, if_neg hq]
    have Hes := Lib.hid (show ES w9 w2.heap.size X (.slice A es.length c) es from he8.kept fun q _ hq => ex q (by omega))
    have Hb := Lib.hid (show Below w.heap.size w w9 by rw [hw9]; exact hb8.setCell (p := ⟨Y, 0, none⟩) (by show w.heap.size ≤ Y; omega) _)
    have z_0 : w9.cell? ⟨Y, 0, none⟩ = some (.int .i64 yv) := by rw [hw9]; go_simp
    have z_1 : w9.cell? ⟨Y, 1, none⟩ = some (.int .i64 ev.lb) := by rw [hw9]; go_simp
    have z_2 : w9.cell? ⟨Y, 2, none⟩ = some (.int .i64 ev.l) := by rw [hw9]; go_simp
    have z_3 : w9.cell? ⟨Y, 3, none⟩ = some (.int .i64 ev.r) := by rw [hw9]; go_simp
    have z_4 : w9.cell? ⟨Y, 4, none⟩ = some (.int .i64 ev.f) := by rw [hw9]; go_simp
    have z_5 : w9.cell? ⟨Y, 5, none⟩ = some (.int .i64 ev.t) := by rw [hw9]; go_simp
    have z_6 : w9.cell? ⟨Y, 6, none⟩ = some (.int .i64 ev.g) := by rw [hw9]; go_simp
    replace c00 := cell_same (ex _ (by omega)) c00
    replace c01 := cell_same (ex _ (by omega)) c01
    replace c02 := cell_same (ex _ (by omega)) c02
    replace c03 := cell_same (ex _ (by omega)) c03
    replace c10 := cell_same (ex _ (by omega)) c10
    replace c11 := cell_same (ex _ (by omega)) c11
    replace c12 := cell_same (ex _ (by omega)) c12
    replace c13 := cell_same (ex _ (by omega)) c13
    replace c14 := cell_same (ex _ (by omega)) c14
    replace c15 := cell_same (ex _ (by omega)) c15
    replace c16 := cell_same (ex _ (by omega)) c16
    replace x0 := cell_same (ex _ (by omega)) x0
    replace x1 := cell_same (ex _ (by omega)) x1
    replace x2 := cell_same (ex _ (by omega)) x2
    replace x3 := cell_same (ex _ (by omega)) x3
    replace f00 := frozen_same (ex _ (by omega)) f00
    replace f01 := frozen_same (ex _ (by omega)) f01
    replace f02 := frozen_same (ex _ (by omega)) f02
    replace f03 := frozen_same (ex _ (by omega)) f03
    replace f10 := frozen_same (ex _ (by omega)) f10
    replace f11 := frozen_same (ex _ (by omega)) f11
    replace f12 := frozen_same (ex _ (by omega)) f12
    replace f13 := frozen_same (ex _ (by omega)) f13
    replace f14 := frozen_same (ex _ (by omega)) f14
    replace f15 := frozen_same (ex _ (by omega)) f15
    replace f16 := frozen_same (ex _ (by omega)) f16
    clear y_1 y_2 y_3 y_4 y_5 y_6 he8 hb8 ex
    have Hw9 := Lib.hid hw9
    clear hw9
    have hPX : ¬ w.heap.size = X := by omega
    have hPX2 : ¬ X = w.heap.size := by omega
    have hQX : ¬ w.heap.size + 1 = X := by omega
    have hQX2 : ¬ X = w.heap.size + 1 := by omega
    have hPY : ¬ w.heap.size = Y := by omega
    have hPY2 : ¬ Y = w.heap.size := by omega
    have hQY : ¬ w.heap.size + 1 = Y := by omega
    have hQY2 : ¬ Y = w.heap.size + 1 := by omega
    go_wp2_with fail
    rw [← Hw9.out]
    refine wp_region_held_drew (S := fun w' => w'.cell? ⟨X, 0, none⟩ = some (.slice A es.length c) ∧ w'.cell? ⟨X, 1, none⟩ = some (.int .i64 a) ∧ w'.cell? ⟨X, 2, none⟩ = some (.int .i64 b) ∧ w'.cell? ⟨X, 3, none⟩ = some (.int .i64 z) ∧ w'.cell? ⟨Y, 0, none⟩ = some (.int .i64 yv) ∧ w'.cell? ⟨Y, 1, none⟩ = some (.int .i64 (ev.lb)) ∧ w'.cell? ⟨Y, 2, none⟩ = some (.int .i64 (ev.l)) ∧ w'.cell? ⟨Y, 3, none⟩ = some (.int .i64 (ev.r)) ∧ w'.cell? ⟨Y, 4, none⟩ = some (.int .i64 (ev.f)) ∧ w'.cell? ⟨Y, 5, none⟩ = some (.int .i64 (ev.t)) ∧ w'.cell? ⟨Y, 6, none⟩ = some (.int .i64 (ev.g))) (by kernel_rfl) ?_ (fun hHeld => ?_)
    · (first | (try dsimp only); go_keep | (go_split_ands; refine ⟨?_, ?_, ?_, ?_, ?_, ?_, ?_, ?_, ?_, ?_, ?_⟩ <;> first | exact keepB bx5 (by assumption) | exact keepB bx4 (by assumption) | exact keepB bx3 (by assumption) | exact keepB bx2 (by assumption) | exact keepB bx1 (by assumption) | exact keepO bo5 (by first | (simp; done) | (simp; omega)) (by assumption) | exact keepO bo4 (by first | (simp; done) | (simp; omega)) (by assumption) | exact keepO bo3 (by first | (simp; done) | (simp; omega)) (by assumption) | exact keepO bo2 (by first | (simp; done) | (simp; omega)) (by assumption) | exact keepO bo1 (by first | (simp; done) | (simp; omega)) (by assumption) | exact keepW bg2 (by first | (simp; done) | (simp; omega)) (by assumption) | exact keepW bg1 (by first | (simp; done) | (simp; omega)) (by assumption) | assumption))
    refine wpAnyH_take (i := 0) (oi := ⟨some 35, _, _, _, _, _⟩) (v := _) rfl (by kernel_rfl) (by kernel_rfl) (by kernel_rfl) (fun _ _ _ h => h) (Or.inl ⟨by kernel_rfl, by intro w hSw; (try dsimp only at hSw); go_simp; try with_reducible rfl⟩) (by assumption) ?_
    simp only [Act.put, List.setIfInBounds_toArray, List.set_cons_zero, List.set_cons_succ]
    refine wpAnyH_take (i := 1) (oi := ⟨some 36, _, _, _, _, _⟩) (v := _) rfl (by kernel_rfl) (by kernel_rfl) (by kernel_rfl) (fun _ _ _ h => h) (Or.inl ⟨by kernel_rfl, by intro w hSw; (try dsimp only at hSw); go_simp; try with_reducible rfl⟩) (by assumption) ?_
    simp only [Act.put, List.setIfInBounds_toArray, List.set_cons_zero, List.set_cons_succ]
    refine wpAnyH_ready (rs := [2]) (by kernel_rfl) (by simp) ?_
    refine AllReadyH.cons (o := ⟨none, _, _, _, _, _⟩) rfl (fun K hK => ?_) AllReadyH.nil
    go_simp
    refine hK.out _ _ ?_ (fun hHeld2 => ?_)
    · (first | (try dsimp only); go_keep | (go_split_ands; refine ⟨?_, ?_, ?_, ?_, ?_, ?_, ?_, ?_, ?_, ?_, ?_⟩ <;> first | exact keepB bx5 (by assumption) | exact keepB bx4 (by assumption) | exact keepB bx3 (by assumption) | exact keepB bx2 (by assumption) | exact keepB bx1 (by assumption) | exact keepO bo5 (by first | (simp; done) | (simp; omega)) (by assumption) | exact keepO bo4 (by first | (simp; done) | (simp; omega)) (by assumption) | exact keepO bo3 (by first | (simp; done) | (simp; omega)) (by assumption) | exact keepO bo2 (by first | (simp; done) | (simp; omega)) (by assumption) | exact keepO bo1 (by first | (simp; done) | (simp; omega)) (by assumption) | exact keepW bg2 (by first | (simp; done) | (simp; omega)) (by assumption) | exact keepW bg1 (by first | (simp; done) | (simp; omega)) (by assumption) | assumption))
    clear hK K hHeld
    have hHeld := hHeld2
    clear hHeld2
    try simp only [Act.put, List.setIfInBounds_toArray, List.set_cons_zero, List.set_cons_succ]
    refine wpAnyH_ready (rs := [3]) (by kernel_rfl) (by simp) ?_
    refine AllReadyH.cons (o := ⟨none, _, _, _, _, _⟩) rfl (fun K hK => ?_) AllReadyH.nil
    go_simp
    refine hK.out _ _ ?_ (fun hHeld2 => ?_)
    · (first | (try dsimp only); go_keep | (go_split_ands; refine ⟨?_, ?_, ?_, ?_, ?_, ?_, ?_, ?_, ?_, ?_, ?_⟩ <;> first | exact keepB bx5 (by assumption) | exact keepB bx4 (by assumption) | exact keepB bx3 (by assumption) | exact keepB bx2 (by assumption) | exact keepB bx1 (by assumption) | exact keepO bo5 (by first | (simp; done) | (simp; omega)) (by assumption) | exact keepO bo4 (by first | (simp; done) | (simp; omega)) (by assumption) | exact keepO bo3 (by first | (simp; done) | (simp; omega)) (by assumption) | exact keepO bo2 (by first | (simp; done) | (simp; omega)) (by assumption) | exact keepO bo1 (by first | (simp; done) | (simp; omega)) (by assumption) | exact keepW bg2 (by first | (simp; done) | (simp; omega)) (by assumption) | exact keepW bg1 (by first | (simp; done) | (simp; omega)) (by assumption) | assumption))
    clear hK K hHeld
    have hHeld := hHeld2
    clear hHeld2
    try simp only [Act.put, List.setIfInBounds_toArray, List.set_cons_zero, List.set_cons_succ]
    refine wpAnyH_done (by kernel_rfl) ?_ _
    obtain ⟨wq, hwq⟩ : ∃ wq, wq = (((((((((((w9.setCell ⟨w.heap.size, 0, none⟩ (.slice A es.length c)).setCell ⟨w.heap.size, 1, none⟩ (.int .i64 a)).setCell ⟨w.heap.size, 2, none⟩ (.int .i64 b)).setCell ⟨w.heap.size, 3, none⟩ (.int .i64 z)).setCell ⟨w.heap.size + 1, 0, none⟩ (.int .i64 yv)).setCell ⟨w.heap.size + 1, 1, none⟩ (.int .i64 ev.lb)).setCell ⟨w.heap.size + 1, 2, none⟩ (.int .i64 ev.l)).setCell ⟨w.heap.size + 1, 3, none⟩ (.int .i64 ev.r)).setCell ⟨w.heap.size + 1, 4, none⟩ (.int .i64 ev.f)).setCell ⟨w.heap.size + 1, 5, none⟩ (.int .i64 ev.t)).setCell ⟨w.heap.size + 1, 6, none⟩ (.int .i64 ev.g)) := ⟨_, rfl⟩
    have Hbq := Lib.hid (show Below w.heap.size w wq by rw [hwq]; exact (((((((((((Hb.out.setCell (p := ⟨w.heap.size, 0, none⟩) (Nat.le_refl _) _).setCell (p := ⟨w.heap.size, 1, none⟩) (Nat.le_refl _) _).setCell (p := ⟨w.heap.size, 2, none⟩) (Nat.le_refl _) _).setCell (p := ⟨w.heap.size, 3, none⟩) (Nat.le_refl _) _).setCell (p := ⟨w.heap.size + 1, 0, none⟩) (Nat.le_succ _) _).setCell (p := ⟨w.heap.size + 1, 1, none⟩) (Nat.le_succ _) _).setCell (p := ⟨w.heap.size + 1, 2, none⟩) (Nat.le_succ _) _).setCell (p := ⟨w.heap.size + 1, 3, none⟩) (Nat.le_succ _) _).setCell (p := ⟨w.heap.size + 1, 4, none⟩) (Nat.le_succ _) _).setCell (p := ⟨w.heap.size + 1, 5, none⟩) (Nat.le_succ _) _).setCell (p := ⟨w.heap.size + 1, 6, none⟩) (Nat.le_succ _) _))
    have Hzq := Lib.hid (show wq.heap.size = w9.heap.size by rw [hwq]; simp [World.setCell])
    have Heq := Lib.hid (show ES wq w2.heap.size X (.slice A es.length c) es by rw [hwq]; exact (((((((((((Hes.out.setFar (p := ⟨w.heap.size, 0, none⟩) (.inl (by show w.heap.size < w2.heap.size; omega)) _).setFar (p := ⟨w.heap.size, 1, none⟩) (.inl (by show w.heap.size < w2.heap.size; omega)) _).setFar (p := ⟨w.heap.size, 2, none⟩) (.inl (by show w.heap.size < w2.heap.size; omega)) _).setFar (p := ⟨w.heap.size, 3, none⟩) (.inl (by show w.heap.size < w2.heap.size; omega)) _).setFar (p := ⟨w.heap.size + 1, 0, none⟩) (.inl (by show w.heap.size + 1 < w2.heap.size; omega)) _).setFar (p := ⟨w.heap.size + 1, 1, none⟩) (.inl (by show w.heap.size + 1 < w2.heap.size; omega)) _).setFar (p := ⟨w.heap.size + 1, 2, none⟩) (.inl (by show w.heap.size + 1 < w2.heap.size; omega)) _).setFar (p := ⟨w.heap.size + 1, 3, none⟩) (.inl (by show w.heap.size + 1 < w2.heap.size; omega)) _).setFar (p := ⟨w.heap.size + 1, 4, none⟩) (.inl (by show w.heap.size + 1 < w2.heap.size; omega)) _).setFar (p := ⟨w.heap.size + 1, 5, none⟩) (.inl (by show w.heap.size + 1 < w2.heap.size; omega)) _).setFar (p := ⟨w.heap.size + 1, 6, none⟩) (.inl (by show w.heap.size + 1 < w2.heap.size; omega)) _))
    have Hwq := Lib.hid hwq
    clear hwq hPX hPX2 hQX hQX2 hPY hPY2 hQY hQY2
    go_wp2
    refine bodyPost_ret (v := .tuple #[.agg #[.slice A es.length c, .int .i64 a, .int .i64 b, .int .i64 z], .agg #[.int .i64 yv, .int .i64 ev.lb, .int .i64 ev.l, .int .i64 ev.r, .int .i64 ev.f, .int .i64 ev.t, .int .i64 ev.g]]) (by simp [results, Tryd.results32, go_sem, *]) rfl ?_
    refine ⟨A, es.length, c, es, a, b, z, ⟨yv, ev.lb, ev.l, ev.r, ev.f, ev.t, ev.g⟩, rfl, rfl, ?_, hbd, v64_mk (Hyv.out) (H64.out.2.1) (H64.out.2.2.1) (H64.out.2.2.2.1) (H64.out.2.2.2.2.1) (H64.out.2.2.2.2.2.1) (H64.out.2.2.2.2.2.2), ?_⟩
    · refine ES.kept (w := wq) (Heq.out.wide (by omega) (by have := Hzq.out; simp [World.setCell]; omega)) (.of_below ?_ (Nat.le_refl _))
      rw [← Hwq.out]; exact (Qt.one _ 1).below _
    · rw [← Hwq.out]; exact Hbq.out.trans ((Qt.one _ 1).below _)
  · have e0 : (q == 0) = false := beq_f hq0
    by_cases hq1 : q = 1
    · have e1 : (q == 1) = true := beq_t hq1
      clear hq1
      go_wp2_with fail
      refine (one_lit _ _ _ _ [0, 10, -1, 1000000] w7 _ _ _ hr7 (by omega) rfl rfl rfl (by simp) (by simp) (by unfold I64; simp)).mono ?_
      rintro e w8 ⟨yv, rfl, hyv, _, bg⟩
      have Hyv := Lib.hid (show I64 yv by unfold I64; simp only [List.mem_cons, List.not_mem_nil, or_false] at hyv; omega)
      replace c00 := keepW bg (by first | (simp; done) | (simp; omega)) c00; replace c01 := keepW bg (by first | (simp; done) | (simp; omega)) c01; replace c02 := keepW bg (by first | (simp; done) | (simp; omega)) c02; replace c03 := keepW bg (by first | (simp; done) | (simp; omega)) c03; replace c10 := keepW bg (by first | (simp; done) | (simp; omega)) c10; replace c11 := keepW bg (by first | (simp; done) | (simp; omega)) c11; replace c12 := keepW bg (by first | (simp; done) | (simp; omega)) c12; replace c13 := keepW bg (by first | (simp; done) | (simp; omega)) c13; replace c14 := keepW bg (by first | (simp; done) | (simp; omega)) c14; replace c15 := keepW bg (by first | (simp; done) | (simp; omega)) c15; replace c16 := keepW bg (by first | (simp; done) | (simp; omega)) c16; replace x0 := keepW bg (by first | (simp; done) | (simp; omega)) x0; replace x1 := keepW bg (by first | (simp; done) | (simp; omega)) x1; replace x2 := keepW bg (by first | (simp; done) | (simp; omega)) x2; replace x3 := keepW bg (by first | (simp; done) | (simp; omega)) x3; replace y_0 := keepW bg (by first | (simp; done) | (simp; omega)) y_0; replace y_1 := keepW bg (by first | (simp; done) | (simp; omega)) y_1; replace y_2 := keepW bg (by first | (simp; done) | (simp; omega)) y_2; replace y_3 := keepW bg (by first | (simp; done) | (simp; omega)) y_3; replace y_4 := keepW bg (by first | (simp; done) | (simp; omega)) y_4; replace y_5 := keepW bg (by first | (simp; done) | (simp; omega)) y_5; replace y_6 := keepW bg (by first | (simp; done) | (simp; omega)) y_6
      replace f00 := keepWF bg (by first | (simp; done) | (simp; omega)) f00; replace f01 := keepWF bg (by first | (simp; done) | (simp; omega)) f01; replace f02 := keepWF bg (by first | (simp; done) | (simp; omega)) f02; replace f03 := keepWF bg (by first | (simp; done) | (simp; omega)) f03; replace f10 := keepWF bg (by first | (simp; done) | (simp; omega)) f10; replace f11 := keepWF bg (by first | (simp; done) | (simp; omega)) f11; replace f12 := keepWF bg (by first | (simp; done) | (simp; omega)) f12; replace f13 := keepWF bg (by first | (simp; done) | (simp; omega)) f13; replace f14 := keepWF bg (by first | (simp; done) | (simp; omega)) f14; replace f15 := keepWF bg (by first | (simp; done) | (simp; omega)) f15; replace f16 := keepWF bg (by first | (simp; done) | (simp; omega)) f16; replace fy_6 := keepWF bg (by first | (simp; done) | (simp; omega)) fy_6
      have he8 := he7.kept (Kept.of_grown bg (by omega) (.inl (by omega)))
      have hb8 := hb7.trans (below_of_grown bg (B := w.heap.size) (by omega) (by omega))
      have hz8 := bg.size
      clear bg hyv hr7 he7 hb7
      obtain ⟨w9, hw9⟩ : ∃ w9, w9 = w8.setCell ⟨Y, 6, none⟩ (.int .i64 yv) := ⟨_, rfl⟩
      have hz9 : w9.heap.size = w8.heap.size := by rw [hw9]; simp [World.setCell]
      have ex : ∀ q, ¬ Y = q → w9.heap[q]? = w8.heap[q]? := fun q hq => by rw [hw9]; simp only [World.setCell, Array.getElem?_modify, if_neg hq]
      have Hes := Lib.hid (show ES w9 w2.heap.size X (.slice A es.length c) es from he8.kept fun q _ hq => ex q (by omega))
      have Hb := Lib.hid (show Below w.heap.size w w9 by rw [hw9]; exact hb8.setCell (p := ⟨Y, 6, none⟩) (by show w.heap.size ≤ Y; omega) _)
      have z_0 : w9.cell? ⟨Y, 0, none⟩ = some (.int .i64 ev.k) := by rw [hw9]; go_simp
      have z_1 : w9.cell? ⟨Y, 1, none⟩ = some (.int .i64 ev.lb) := by rw [hw9]; go_simp
      have z_2 : w9.cell? ⟨Y, 2, none⟩ = some (.int .i64 ev.l) := by rw [hw9]; go_simp
      have z_3 : w9.cell? ⟨Y, 3, none⟩ = some (.int .i64 ev.r) := by rw [hw9]; go_simp
      have z_4 : w9.cell? ⟨Y, 4, none⟩ = some (.int .i64 ev.f) := by rw [hw9]; go_simp
      have z_5 : w9.cell? ⟨Y, 5, none⟩ = some (.int .i64 ev.t) := by rw [hw9]; go_simp
      have z_6 : w9.cell? ⟨Y, 6, none⟩ = some (.int .i64 yv) := by rw [hw9]; go_simp
      replace c00 := cell_same (ex _ (by omega)) c00
      replace c01 := cell_same (ex _ (by omega)) c01
      replace c02 := cell_same (ex _ (by omega)) c02
      replace c03 := cell_same (ex _ (by omega)) c03
      replace c10 := cell_same (ex _ (by omega)) c10
      replace c11 := cell_same (ex _ (by omega)) c11
      replace c12 := cell_same (ex _ (by omega)) c12
      replace c13 := cell_same (ex _ (by omega)) c13
      replace c14 := cell_same (ex _ (by omega)) c14
      replace c15 := cell_same (ex _ (by omega)) c15
      replace c16 := cell_same (ex _ (by omega)) c16
      replace x0 := cell_same (ex _ (by omega)) x0
      replace x1 := cell_same (ex _ (by omega)) x1
      replace x2 := cell_same (ex _ (by omega)) x2
      replace x3 := cell_same (ex _ (by omega)) x3
      replace f00 := frozen_same (ex _ (by omega)) f00
      replace f01 := frozen_same (ex _ (by omega)) f01
      replace f02 := frozen_same (ex _ (by omega)) f02
      replace f03 := frozen_same (ex _ (by omega)) f03
      replace f10 := frozen_same (ex _ (by omega)) f10
      replace f11 := frozen_same (ex _ (by omega)) f11
      replace f12 := frozen_same (ex _ (by omega)) f12
      replace f13 := frozen_same (ex _ (by omega)) f13
      replace f14 := frozen_same (ex _ (by omega)) f14
      replace f15 := frozen_same (ex _ (by omega)) f15
      replace f16 := frozen_same (ex _ (by omega)) f16
      clear y_0 y_1 y_2 y_3 y_4 y_5 he8 hb8 ex
      have Hw9 := Lib.hid hw9
      clear hw9
      have hPX : ¬ w.heap.size = X := by omega
      have hPX2 : ¬ X = w.heap.size := by omega
      have hQX : ¬ w.heap.size + 1 = X := by omega
      have hQX2 : ¬ X = w.heap.size + 1 := by omega
      have hPY : ¬ w.heap.size = Y := by omega
      have hPY2 : ¬ Y = w.heap.size := by omega
      have hQY : ¬ w.heap.size + 1 = Y := by omega
      have hQY2 : ¬ Y = w.heap.size + 1 := by omega
      go_wp2_with fail
      rw [← Hw9.out]
      refine wp_region_held_drew (S := fun w' => w'.cell? ⟨X, 0, none⟩ = some (.slice A es.length c) ∧ w'.cell? ⟨X, 1, none⟩ = some (.int .i64 a) ∧ w'.cell? ⟨X, 2, none⟩ = some (.int .i64 b) ∧ w'.cell? ⟨X, 3, none⟩ = some (.int .i64 z) ∧ w'.cell? ⟨Y, 0, none⟩ = some (.int .i64 (ev.k)) ∧ w'.cell? ⟨Y, 1, none⟩ = some (.int .i64 (ev.lb)) ∧ w'.cell? ⟨Y, 2, none⟩ = some (.int .i64 (ev.l)) ∧ w'.cell? ⟨Y, 3, none⟩ = some (.int .i64 (ev.r)) ∧ w'.cell? ⟨Y, 4, none⟩ = some (.int .i64 (ev.f)) ∧ w'.cell? ⟨Y, 5, none⟩ = some (.int .i64 (ev.t)) ∧ w'.cell? ⟨Y, 6, none⟩ = some (.int .i64 yv)) (by kernel_rfl) ?_ (fun hHeld => ?_)
      · (first | (try dsimp only); go_keep | (go_split_ands; refine ⟨?_, ?_, ?_, ?_, ?_, ?_, ?_, ?_, ?_, ?_, ?_⟩ <;> first | exact keepB bx5 (by assumption) | exact keepB bx4 (by assumption) | exact keepB bx3 (by assumption) | exact keepB bx2 (by assumption) | exact keepB bx1 (by assumption) | exact keepO bo5 (by first | (simp; done) | (simp; omega)) (by assumption) | exact keepO bo4 (by first | (simp; done) | (simp; omega)) (by assumption) | exact keepO bo3 (by first | (simp; done) | (simp; omega)) (by assumption) | exact keepO bo2 (by first | (simp; done) | (simp; omega)) (by assumption) | exact keepO bo1 (by first | (simp; done) | (simp; omega)) (by assumption) | exact keepW bg2 (by first | (simp; done) | (simp; omega)) (by assumption) | exact keepW bg1 (by first | (simp; done) | (simp; omega)) (by assumption) | assumption))
      refine wpAnyH_take (i := 0) (oi := ⟨some 35, _, _, _, _, _⟩) (v := _) rfl (by kernel_rfl) (by kernel_rfl) (by kernel_rfl) (fun _ _ _ h => h) (Or.inl ⟨by kernel_rfl, by intro w hSw; (try dsimp only at hSw); go_simp; try with_reducible rfl⟩) (by assumption) ?_
      simp only [Act.put, List.setIfInBounds_toArray, List.set_cons_zero, List.set_cons_succ]
      refine wpAnyH_take (i := 1) (oi := ⟨some 36, _, _, _, _, _⟩) (v := _) rfl (by kernel_rfl) (by kernel_rfl) (by kernel_rfl) (fun _ _ _ h => h) (Or.inl ⟨by kernel_rfl, by intro w hSw; (try dsimp only at hSw); go_simp; try with_reducible rfl⟩) (by assumption) ?_
      simp only [Act.put, List.setIfInBounds_toArray, List.set_cons_zero, List.set_cons_succ]
      refine wpAnyH_ready (rs := [2]) (by kernel_rfl) (by simp) ?_
      refine AllReadyH.cons (o := ⟨none, _, _, _, _, _⟩) rfl (fun K hK => ?_) AllReadyH.nil
      go_simp
      refine hK.out _ _ ?_ (fun hHeld2 => ?_)
      · (first | (try dsimp only); go_keep | (go_split_ands; refine ⟨?_, ?_, ?_, ?_, ?_, ?_, ?_, ?_, ?_, ?_, ?_⟩ <;> first | exact keepB bx5 (by assumption) | exact keepB bx4 (by assumption) | exact keepB bx3 (by assumption) | exact keepB bx2 (by assumption) | exact keepB bx1 (by assumption) | exact keepO bo5 (by first | (simp; done) | (simp; omega)) (by assumption) | exact keepO bo4 (by first | (simp; done) | (simp; omega)) (by assumption) | exact keepO bo3 (by first | (simp; done) | (simp; omega)) (by assumption) | exact keepO bo2 (by first | (simp; done) | (simp; omega)) (by assumption) | exact keepO bo1 (by first | (simp; done) | (simp; omega)) (by assumption) | exact keepW bg2 (by first | (simp; done) | (simp; omega)) (by assumption) | exact keepW bg1 (by first | (simp; done) | (simp; omega)) (by assumption) | assumption))
      clear hK K hHeld
      have hHeld := hHeld2
      clear hHeld2
      try simp only [Act.put, List.setIfInBounds_toArray, List.set_cons_zero, List.set_cons_succ]
      refine wpAnyH_ready (rs := [3]) (by kernel_rfl) (by simp) ?_
      refine AllReadyH.cons (o := ⟨none, _, _, _, _, _⟩) rfl (fun K hK => ?_) AllReadyH.nil
      go_simp
      refine hK.out _ _ ?_ (fun hHeld2 => ?_)
      · (first | (try dsimp only); go_keep | (go_split_ands; refine ⟨?_, ?_, ?_, ?_, ?_, ?_, ?_, ?_, ?_, ?_, ?_⟩ <;> first | exact keepB bx5 (by assumption) | exact keepB bx4 (by assumption) | exact keepB bx3 (by assumption) | exact keepB bx2 (by assumption) | exact keepB bx1 (by assumption) | exact keepO bo5 (by first | (simp; done) | (simp; omega)) (by assumption) | exact keepO bo4 (by first | (simp; done) | (simp; omega)) (by assumption) | exact keepO bo3 (by first | (simp; done) | (simp; omega)) (by assumption) | exact keepO bo2 (by first | (simp; done) | (simp; omega)) (by assumption) | exact keepO bo1 (by first | (simp; done) | (simp; omega)) (by assumption) | exact keepW bg2 (by first | (simp; done) | (simp; omega)) (by assumption) | exact keepW bg1 (by first | (simp; done) | (simp; omega)) (by assumption) | assumption))
      clear hK K hHeld
      have hHeld := hHeld2
      clear hHeld2
      try simp only [Act.put, List.setIfInBounds_toArray, List.set_cons_zero, List.set_cons_succ]
      refine wpAnyH_done (by kernel_rfl) ?_ _
      obtain ⟨wq, hwq⟩ : ∃ wq, wq = (((((((((((w9.setCell ⟨w.heap.size, 0, none⟩ (.slice A es.length c)).setCell ⟨w.heap.size, 1, none⟩ (.int .i64 a)).setCell ⟨w.heap.size, 2, none⟩ (.int .i64 b)).setCell ⟨w.heap.size, 3, none⟩ (.int .i64 z)).setCell ⟨w.heap.size + 1, 0, none⟩ (.int .i64 ev.k)).setCell ⟨w.heap.size + 1, 1, none⟩ (.int .i64 ev.lb)).setCell ⟨w.heap.size + 1, 2, none⟩ (.int .i64 ev.l)).setCell ⟨w.heap.size + 1, 3, none⟩ (.int .i64 ev.r)).setCell ⟨w.heap.size + 1, 4, none⟩ (.int .i64 ev.f)).setCell ⟨w.heap.size + 1, 5, none⟩ (.int .i64 ev.t)).setCell ⟨w.heap.size + 1, 6, none⟩ (.int .i64 yv)) := ⟨_, rfl⟩
      have Hbq := Lib.hid (show Below w.heap.size w wq by rw [hwq]; exact (((((((((((Hb.out.setCell (p := ⟨w.heap.size, 0, none⟩) (Nat.le_refl _) _).setCell (p := ⟨w.heap.size, 1, none⟩) (Nat.le_refl _) _).setCell (p := ⟨w.heap.size, 2, none⟩) (Nat.le_refl _) _).setCell (p := ⟨w.heap.size, 3, none⟩) (Nat.le_refl _) _).setCell (p := ⟨w.heap.size + 1, 0, none⟩) (Nat.le_succ _) _).setCell (p := ⟨w.heap.size + 1, 1, none⟩) (Nat.le_succ _) _).setCell (p := ⟨w.heap.size + 1, 2, none⟩) (Nat.le_succ _) _).setCell (p := ⟨w.heap.size + 1, 3, none⟩) (Nat.le_succ _) _).setCell (p := ⟨w.heap.size + 1, 4, none⟩) (Nat.le_succ _) _).setCell (p := ⟨w.heap.size + 1, 5, none⟩) (Nat.le_succ _) _).setCell (p := ⟨w.heap.size + 1, 6, none⟩) (Nat.le_succ _) _))
      have Hzq := Lib.hid (show wq.heap.size = w9.heap.size by rw [hwq]; simp [World.setCell])
      have Heq := Lib.hid (show ES wq w2.heap.size X (.slice A es.length c) es by rw [hwq]; exact (((((((((((Hes.out.setFar (p := ⟨w.heap.size, 0, none⟩) (.inl (by show w.heap.size < w2.heap.size; omega)) _).setFar (p := ⟨w.heap.size, 1, none⟩) (.inl (by show w.heap.size < w2.heap.size; omega)) _).setFar (p := ⟨w.heap.size, 2, none⟩) (.inl (by show w.heap.size < w2.heap.size; omega)) _).setFar (p := ⟨w.heap.size, 3, none⟩) (.inl (by show w.heap.size < w2.heap.size; omega)) _).setFar (p := ⟨w.heap.size + 1, 0, none⟩) (.inl (by show w.heap.size + 1 < w2.heap.size; omega)) _).setFar (p := ⟨w.heap.size + 1, 1, none⟩) (.inl (by show w.heap.size + 1 < w2.heap.size; omega)) _).setFar (p := ⟨w.heap.size + 1, 2, none⟩) (.inl (by show w.heap.size + 1 < w2.heap.size; omega)) _).setFar (p := ⟨w.heap.size + 1, 3, none⟩) (.inl (by show w.heap.size + 1 < w2.heap.size; omega)) _).setFar (p := ⟨w.heap.size + 1, 4, none⟩) (.inl (by show w.heap.size + 1 < w2.heap.size; omega)) _).setFar (p := ⟨w.heap.size + 1, 5, none⟩) (.inl (by show w.heap.size + 1 < w2.heap.size; omega)) _).setFar (p := ⟨w.heap.size + 1, 6, none⟩) (.inl (by show w.heap.size + 1 < w2.heap.size; omega)) _))
      have Hwq := Lib.hid hwq
      clear hwq hPX hPX2 hQX hQX2 hPY hPY2 hQY hQY2
      go_wp2
      refine bodyPost_ret (v := .tuple #[.agg #[.slice A es.length c, .int .i64 a, .int .i64 b, .int .i64 z], .agg #[.int .i64 ev.k, .int .i64 ev.lb, .int .i64 ev.l, .int .i64 ev.r, .int .i64 ev.f, .int .i64 ev.t, .int .i64 yv]]) (by simp [results, Tryd.results32, go_sem, *]) rfl ?_
      refine ⟨A, es.length, c, es, a, b, z, ⟨ev.k, ev.lb, ev.l, ev.r, ev.f, ev.t, yv⟩, rfl, rfl, ?_, hbd, v64_mk (H64.out.1) (H64.out.2.1) (H64.out.2.2.1) (H64.out.2.2.2.1) (H64.out.2.2.2.2.1) (H64.out.2.2.2.2.2.1) (Hyv.out), ?_⟩
      · refine ES.kept (w := wq) (Heq.out.wide (by omega) (by have := Hzq.out; simp [World.setCell]; omega)) (.of_below ?_ (Nat.le_refl _))
        rw [← Hwq.out]; exact (Qt.one _ 1).below _
      · rw [← Hwq.out]; exact Hbq.out.trans ((Qt.one _ 1).below _)
    · have e1 : (q == 1) = false := beq_f hq1
      by_cases hq2 : q = 2
      · have e2 : (q == 2) = true := beq_t hq2
        clear hq2
        go_wp2_with fail
        refine (one_lit _ _ _ _ [0, 401, -1] w7 _ _ _ hr7 (by omega) rfl rfl rfl (by simp) (by simp) (by unfold I64; simp)).mono ?_
        rintro e w8 ⟨yv, rfl, hyv, _, bg⟩
        have Hyv := Lib.hid (show I64 yv by unfold I64; simp only [List.mem_cons, List.not_mem_nil, or_false] at hyv; omega)
        replace c00 := keepW bg (by first | (simp; done) | (simp; omega)) c00; replace c01 := keepW bg (by first | (simp; done) | (simp; omega)) c01; replace c02 := keepW bg (by first | (simp; done) | (simp; omega)) c02; replace c03 := keepW bg (by first | (simp; done) | (simp; omega)) c03; replace c10 := keepW bg (by first | (simp; done) | (simp; omega)) c10; replace c11 := keepW bg (by first | (simp; done) | (simp; omega)) c11; replace c12 := keepW bg (by first | (simp; done) | (simp; omega)) c12; replace c13 := keepW bg (by first | (simp; done) | (simp; omega)) c13; replace c14 := keepW bg (by first | (simp; done) | (simp; omega)) c14; replace c15 := keepW bg (by first | (simp; done) | (simp; omega)) c15; replace c16 := keepW bg (by first | (simp; done) | (simp; omega)) c16; replace x0 := keepW bg (by first | (simp; done) | (simp; omega)) x0; replace x1 := keepW bg (by first | (simp; done) | (simp; omega)) x1; replace x2 := keepW bg (by first | (simp; done) | (simp; omega)) x2; replace x3 := keepW bg (by first | (simp; done) | (simp; omega)) x3; replace y_0 := keepW bg (by first | (simp; done) | (simp; omega)) y_0; replace y_1 := keepW bg (by first | (simp; done) | (simp; omega)) y_1; replace y_2 := keepW bg (by first | (simp; done) | (simp; omega)) y_2; replace y_3 := keepW bg (by first | (simp; done) | (simp; omega)) y_3; replace y_4 := keepW bg (by first | (simp; done) | (simp; omega)) y_4; replace y_5 := keepW bg (by first | (simp; done) | (simp; omega)) y_5; replace y_6 := keepW bg (by first | (simp; done) | (simp; omega)) y_6
        replace f00 := keepWF bg (by first | (simp; done) | (simp; omega)) f00; replace f01 := keepWF bg (by first | (simp; done) | (simp; omega)) f01; replace f02 := keepWF bg (by first | (simp; done) | (simp; omega)) f02; replace f03 := keepWF bg (by first | (simp; done) | (simp; omega)) f03; replace f10 := keepWF bg (by first | (simp; done) | (simp; omega)) f10; replace f11 := keepWF bg (by first | (simp; done) | (simp; omega)) f11; replace f12 := keepWF bg (by first | (simp; done) | (simp; omega)) f12; replace f13 := keepWF bg (by first | (simp; done) | (simp; omega)) f13; replace f14 := keepWF bg (by first | (simp; done) | (simp; omega)) f14; replace f15 := keepWF bg (by first | (simp; done) | (simp; omega)) f15; replace f16 := keepWF bg (by first | (simp; done) | (simp; omega)) f16; replace fy_5 := keepWF bg (by first | (simp; done) | (simp; omega)) fy_5
        have he8 := he7.kept (Kept.of_grown bg (by omega) (.inl (by omega)))
        have hb8 := hb7.trans (below_of_grown bg (B := w.heap.size) (by omega) (by omega))
        have hz8 := bg.size
        clear bg hyv hr7 he7 hb7
        obtain ⟨w9, hw9⟩ : ∃ w9, w9 = w8.setCell ⟨Y, 5, none⟩ (.int .i64 yv) := ⟨_, rfl⟩
        have hz9 : w9.heap.size = w8.heap.size := by rw [hw9]; simp [World.setCell]
        have ex : ∀ q, ¬ Y = q → w9.heap[q]? = w8.heap[q]? := fun q hq => by rw [hw9]; simp only [World.setCell, Array.getElem?_modify, if_neg hq]
        have Hes := Lib.hid (show ES w9 w2.heap.size X (.slice A es.length c) es from he8.kept fun q _ hq => ex q (by omega))
        have Hb := Lib.hid (show Below w.heap.size w w9 by rw [hw9]; exact hb8.setCell (p := ⟨Y, 5, none⟩) (by show w.heap.size ≤ Y; omega) _)
        have z_0 : w9.cell? ⟨Y, 0, none⟩ = some (.int .i64 ev.k) := by rw [hw9]; go_simp
        have z_1 : w9.cell? ⟨Y, 1, none⟩ = some (.int .i64 ev.lb) := by rw [hw9]; go_simp
        have z_2 : w9.cell? ⟨Y, 2, none⟩ = some (.int .i64 ev.l) := by rw [hw9]; go_simp
        have z_3 : w9.cell? ⟨Y, 3, none⟩ = some (.int .i64 ev.r) := by rw [hw9]; go_simp
        have z_4 : w9.cell? ⟨Y, 4, none⟩ = some (.int .i64 ev.f) := by rw [hw9]; go_simp
        have z_5 : w9.cell? ⟨Y, 5, none⟩ = some (.int .i64 yv) := by rw [hw9]; go_simp
        have z_6 : w9.cell? ⟨Y, 6, none⟩ = some (.int .i64 ev.g) := by rw [hw9]; go_simp
        replace c00 := cell_same (ex _ (by omega)) c00
        replace c01 := cell_same (ex _ (by omega)) c01
        replace c02 := cell_same (ex _ (by omega)) c02
        replace c03 := cell_same (ex _ (by omega)) c03
        replace c10 := cell_same (ex _ (by omega)) c10
        replace c11 := cell_same (ex _ (by omega)) c11
        replace c12 := cell_same (ex _ (by omega)) c12
        replace c13 := cell_same (ex _ (by omega)) c13
        replace c14 := cell_same (ex _ (by omega)) c14
        replace c15 := cell_same (ex _ (by omega)) c15
        replace c16 := cell_same (ex _ (by omega)) c16
        replace x0 := cell_same (ex _ (by omega)) x0
        replace x1 := cell_same (ex _ (by omega)) x1
        replace x2 := cell_same (ex _ (by omega)) x2
        replace x3 := cell_same (ex _ (by omega)) x3
        replace f00 := frozen_same (ex _ (by omega)) f00
        replace f01 := frozen_same (ex _ (by omega)) f01
        replace f02 := frozen_same (ex _ (by omega)) f02
        replace f03 := frozen_same (ex _ (by omega)) f03
        replace f10 := frozen_same (ex _ (by omega)) f10
        replace f11 := frozen_same (ex _ (by omega)) f11
        replace f12 := frozen_same (ex _ (by omega)) f12
        replace f13 := frozen_same (ex _ (by omega)) f13
        replace f14 := frozen_same (ex _ (by omega)) f14
        replace f15 := frozen_same (ex _ (by omega)) f15
        replace f16 := frozen_same (ex _ (by omega)) f16
        clear y_0 y_1 y_2 y_3 y_4 y_6 he8 hb8 ex
        have Hw9 := Lib.hid hw9
        clear hw9
        have hPX : ¬ w.heap.size = X := by omega
        have hPX2 : ¬ X = w.heap.size := by omega
        have hQX : ¬ w.heap.size + 1 = X := by omega
        have hQX2 : ¬ X = w.heap.size + 1 := by omega
        have hPY : ¬ w.heap.size = Y := by omega
        have hPY2 : ¬ Y = w.heap.size := by omega
        have hQY : ¬ w.heap.size + 1 = Y := by omega
        have hQY2 : ¬ Y = w.heap.size + 1 := by omega
        go_wp2_with fail
        rw [← Hw9.out]
        refine wp_region_held_drew (S := fun w' => w'.cell? ⟨X, 0, none⟩ = some (.slice A es.length c) ∧ w'.cell? ⟨X, 1, none⟩ = some (.int .i64 a) ∧ w'.cell? ⟨X, 2, none⟩ = some (.int .i64 b) ∧ w'.cell? ⟨X, 3, none⟩ = some (.int .i64 z) ∧ w'.cell? ⟨Y, 0, none⟩ = some (.int .i64 (ev.k)) ∧ w'.cell? ⟨Y, 1, none⟩ = some (.int .i64 (ev.lb)) ∧ w'.cell? ⟨Y, 2, none⟩ = some (.int .i64 (ev.l)) ∧ w'.cell? ⟨Y, 3, none⟩ = some (.int .i64 (ev.r)) ∧ w'.cell? ⟨Y, 4, none⟩ = some (.int .i64 (ev.f)) ∧ w'.cell? ⟨Y, 5, none⟩ = some (.int .i64 yv) ∧ w'.cell? ⟨Y, 6, none⟩ = some (.int .i64 (ev.g))) (by kernel_rfl) ?_ (fun hHeld => ?_)
        · (first | (try dsimp only); go_keep | (go_split_ands; refine ⟨?_, ?_, ?_, ?_, ?_, ?_, ?_, ?_, ?_, ?_, ?_⟩ <;> first | exact keepB bx5 (by assumption) | exact keepB bx4 (by assumption) | exact keepB bx3 (by assumption) | exact keepB bx2 (by assumption) | exact keepB bx1 (by assumption) | exact keepO bo5 (by first | (simp; done) | (simp; omega)) (by assumption) | exact keepO bo4 (by first | (simp; done) | (simp; omega)) (by assumption) | exact keepO bo3 (by first | (simp; done) | (simp; omega)) (by assumption) | exact keepO bo2 (by first | (simp; done) | (simp; omega)) (by assumption) | exact keepO bo1 (by first | (simp; done) | (simp; omega)) (by assumption) | exact keepW bg2 (by first | (simp; done) | (simp; omega)) (by assumption) | exact keepW bg1 (by first | (simp; done) | (simp; omega)) (by assumption) | assumption))
        refine wpAnyH_take (i := 0) (oi := ⟨some 35, _, _, _, _, _⟩) (v := _) rfl (by kernel_rfl) (by kernel_rfl) (by kernel_rfl) (fun _ _ _ h => h) (Or.inl ⟨by kernel_rfl, by intro w hSw; (try dsimp only at hSw); go_simp; try with_reducible rfl⟩) (by assumption) ?_
        simp only [Act.put, List.setIfInBounds_toArray, List.set_cons_zero, List.set_cons_succ]
        refine wpAnyH_take (i := 1) (oi := ⟨some 36, _, _, _, _, _⟩) (v := _) rfl (by kernel_rfl) (by kernel_rfl) (by kernel_rfl) (fun _ _ _ h => h) (Or.inl ⟨by kernel_rfl, by intro w hSw; (try dsimp only at hSw); go_simp; try with_reducible rfl⟩) (by assumption) ?_
        simp only [Act.put, List.setIfInBounds_toArray, List.set_cons_zero, List.set_cons_succ]
        refine wpAnyH_ready (rs := [2]) (by kernel_rfl) (by simp) ?_
        refine AllReadyH.cons (o := ⟨none, _, _, _, _, _⟩) rfl (fun K hK => ?_) AllReadyH.nil
        go_simp
        refine hK.out _ _ ?_ (fun hHeld2 => ?_)
        · (first | (try dsimp only); go_keep | (go_split_ands; refine ⟨?_, ?_, ?_, ?_, ?_, ?_, ?_, ?_, ?_, ?_, ?_⟩ <;> first | exact keepB bx5 (by assumption) | exact keepB bx4 (by assumption) | exact keepB bx3 (by assumption) | exact keepB bx2 (by assumption) | exact keepB bx1 (by assumption) | exact keepO bo5 (by first | (simp; done) | (simp; omega)) (by assumption) | exact keepO bo4 (by first | (simp; done) | (simp; omega)) (by assumption) | exact keepO bo3 (by first | (simp; done) | (simp; omega)) (by assumption) | exact keepO bo2 (by first | (simp; done) | (simp; omega)) (by assumption) | exact keepO bo1 (by first | (simp; done) | (simp; omega)) (by assumption) | exact keepW bg2 (by first | (simp; done) | (simp; omega)) (by assumption) | exact keepW bg1 (by first | (simp; done) | (simp; omega)) (by assumption) | assumption))
        clear hK K hHeld
        have hHeld := hHeld2
        clear hHeld2
        try simp only [Act.put, List.setIfInBounds_toArray, List.set_cons_zero, List.set_cons_succ]
        refine wpAnyH_ready (rs := [3]) (by kernel_rfl) (by simp) ?_
        refine AllReadyH.cons (o := ⟨none, _, _, _, _, _⟩) rfl (fun K hK => ?_) AllReadyH.nil
        go_simp
        refine hK.out _ _ ?_ (fun hHeld2 => ?_)
        · (first | (try dsimp only); go_keep | (go_split_ands; refine ⟨?_, ?_, ?_, ?_, ?_, ?_, ?_, ?_, ?_, ?_, ?_⟩ <;> first | exact keepB bx5 (by assumption) | exact keepB bx4 (by assumption) | exact keepB bx3 (by assumption) | exact keepB bx2 (by assumption) | exact keepB bx1 (by assumption) | exact keepO bo5 (by first | (simp; done) | (simp; omega)) (by assumption) | exact keepO bo4 (by first | (simp; done) | (simp; omega)) (by assumption) | exact keepO bo3 (by first | (simp; done) | (simp; omega)) (by assumption) | exact keepO bo2 (by first | (simp; done) | (simp; omega)) (by assumption) | exact keepO bo1 (by first | (simp; done) | (simp; omega)) (by assumption) | exact keepW bg2 (by first | (simp; done) | (simp; omega)) (by assumption) | exact keepW bg1 (by first | (simp; done) | (simp; omega)) (by assumption) | assumption))
        clear hK K hHeld
        have hHeld := hHeld2
        clear hHeld2
        try simp only [Act.put, List.setIfInBounds_toArray, List.set_cons_zero, List.set_cons_succ]
        refine wpAnyH_done (by kernel_rfl) ?_ _
        obtain ⟨wq, hwq⟩ : ∃ wq, wq = (((((((((((w9.setCell ⟨w.heap.size, 0, none⟩ (.slice A es.length c)).setCell ⟨w.heap.size, 1, none⟩ (.int .i64 a)).setCell ⟨w.heap.size, 2, none⟩ (.int .i64 b)).setCell ⟨w.heap.size, 3, none⟩ (.int .i64 z)).setCell ⟨w.heap.size + 1, 0, none⟩ (.int .i64 ev.k)).setCell ⟨w.heap.size + 1, 1, none⟩ (.int .i64 ev.lb)).setCell ⟨w.heap.size + 1, 2, none⟩ (.int .i64 ev.l)).setCell ⟨w.heap.size + 1, 3, none⟩ (.int .i64 ev.r)).setCell ⟨w.heap.size + 1, 4, none⟩ (.int .i64 ev.f)).setCell ⟨w.heap.size + 1, 5, none⟩ (.int .i64 yv)).setCell ⟨w.heap.size + 1, 6, none⟩ (.int .i64 ev.g)) := ⟨_, rfl⟩
        have Hbq := Lib.hid (show Below w.heap.size w wq by rw [hwq]; exact (((((((((((Hb.out.setCell (p := ⟨w.heap.size, 0, none⟩) (Nat.le_refl _) _).setCell (p := ⟨w.heap.size, 1, none⟩) (Nat.le_refl _) _).setCell (p := ⟨w.heap.size, 2, none⟩) (Nat.le_refl _) _).setCell (p := ⟨w.heap.size, 3, none⟩) (Nat.le_refl _) _).setCell (p := ⟨w.heap.size + 1, 0, none⟩) (Nat.le_succ _) _).setCell (p := ⟨w.heap.size + 1, 1, none⟩) (Nat.le_succ _) _).setCell (p := ⟨w.heap.size + 1, 2, none⟩) (Nat.le_succ _) _).setCell (p := ⟨w.heap.size + 1, 3, none⟩) (Nat.le_succ _) _).setCell (p := ⟨w.heap.size + 1, 4, none⟩) (Nat.le_succ _) _).setCell (p := ⟨w.heap.size + 1, 5, none⟩) (Nat.le_succ _) _).setCell (p := ⟨w.heap.size + 1, 6, none⟩) (Nat.le_succ _) _))
        have Hzq := Lib.hid (show wq.heap.size = w9.heap.size by rw [hwq]; simp [World.setCell])
        have Heq := Lib.hid (show ES wq w2.heap.size X (.slice A es.length c) es by rw [hwq]; exact (((((((((((Hes.out.setFar (p := ⟨w.heap.size, 0, none⟩) (.inl (by show w.heap.size < w2.heap.size; omega)) _).setFar (p := ⟨w.heap.size, 1, none⟩) (.inl (by show w.heap.size < w2.heap.size; omega)) _).setFar (p := ⟨w.heap.size, 2, none⟩) (.inl (by show w.heap.size < w2.heap.size; omega)) _).setFar (p := ⟨w.heap.size, 3, none⟩) (.inl (by show w.heap.size < w2.heap.size; omega)) _).setFar (p := ⟨w.heap.size + 1, 0, none⟩) (.inl (by show w.heap.size + 1 < w2.heap.size; omega)) _).setFar (p := ⟨w.heap.size + 1, 1, none⟩) (.inl (by show w.heap.size + 1 < w2.heap.size; omega)) _).setFar (p := ⟨w.heap.size + 1, 2, none⟩) (.inl (by show w.heap.size + 1 < w2.heap.size; omega)) _).setFar (p := ⟨w.heap.size + 1, 3, none⟩) (.inl (by show w.heap.size + 1 < w2.heap.size; omega)) _).setFar (p := ⟨w.heap.size + 1, 4, none⟩) (.inl (by show w.heap.size + 1 < w2.heap.size; omega)) _).setFar (p := ⟨w.heap.size + 1, 5, none⟩) (.inl (by show w.heap.size + 1 < w2.heap.size; omega)) _).setFar (p := ⟨w.heap.size + 1, 6, none⟩) (.inl (by show w.heap.size + 1 < w2.heap.size; omega)) _))
        have Hwq := Lib.hid hwq
        clear hwq hPX hPX2 hQX hQX2 hPY hPY2 hQY hQY2
        go_wp2
        refine bodyPost_ret (v := .tuple #[.agg #[.slice A es.length c, .int .i64 a, .int .i64 b, .int .i64 z], .agg #[.int .i64 ev.k, .int .i64 ev.lb, .int .i64 ev.l, .int .i64 ev.r, .int .i64 ev.f, .int .i64 yv, .int .i64 ev.g]]) (by simp [results, Tryd.results32, go_sem, *]) rfl ?_
        refine ⟨A, es.length, c, es, a, b, z, ⟨ev.k, ev.lb, ev.l, ev.r, ev.f, yv, ev.g⟩, rfl, rfl, ?_, hbd, v64_mk (H64.out.1) (H64.out.2.1) (H64.out.2.2.1) (H64.out.2.2.2.1) (H64.out.2.2.2.2.1) (Hyv.out) (H64.out.2.2.2.2.2.2), ?_⟩
        · refine ES.kept (w := wq) (Heq.out.wide (by omega) (by have := Hzq.out; simp [World.setCell]; omega)) (.of_below ?_ (Nat.le_refl _))
          rw [← Hwq.out]; exact (Qt.one _ 1).below _
        · rw [← Hwq.out]; exact Hbq.out.trans ((Qt.one _ 1).below _)
      · have e2 : (q == 2) = false := beq_f hq2
        have Hes := Lib.hid he7
        have Hb := Lib.hid hb7
        clear he7 hb7 hr7
        have hPX : ¬ w.heap.size = X := by omega
        have hPX2 : ¬ X = w.heap.size := by omega
        have hQX : ¬ w.heap.size + 1 = X := by omega
        have hQX2 : ¬ X = w.heap.size + 1 := by omega
        have hPY : ¬ w.heap.size = Y := by omega
        have hPY2 : ¬ Y = w.heap.size := by omega
        have hQY : ¬ w.heap.size + 1 = Y := by omega
        have hQY2 : ¬ Y = w.heap.size + 1 := by omega
        go_wp2
        refine wp_region_held_drew (S := fun w' => w'.cell? ⟨X, 0, none⟩ = some (.slice A es.length c) ∧ w'.cell? ⟨X, 1, none⟩ = some (.int .i64 a) ∧ w'.cell? ⟨X, 2, none⟩ = some (.int .i64 b) ∧ w'.cell? ⟨X, 3, none⟩ = some (.int .i64 z) ∧ w'.cell? ⟨Y, 0, none⟩ = some (.int .i64 (ev.k)) ∧ w'.cell? ⟨Y, 1, none⟩ = some (.int .i64 (ev.lb)) ∧ w'.cell? ⟨Y, 2, none⟩ = some (.int .i64 (ev.l)) ∧ w'.cell? ⟨Y, 3, none⟩ = some (.int .i64 (ev.r)) ∧ w'.cell? ⟨Y, 4, none⟩ = some (.int .i64 (ev.f)) ∧ w'.cell? ⟨Y, 5, none⟩ = some (.int .i64 (ev.t)) ∧ w'.cell? ⟨Y, 6, none⟩ = some (.int .i64 (ev.g))) (by kernel_rfl) ?_ (fun hHeld => ?_)
        · (first | (try dsimp only); go_keep | (go_split_ands; refine ⟨?_, ?_, ?_, ?_, ?_, ?_, ?_, ?_, ?_, ?_, ?_⟩ <;> first | exact keepB bx5 (by assumption) | exact keepB bx4 (by assumption) | exact keepB bx3 (by assumption) | exact keepB bx2 (by assumption) | exact keepB bx1 (by assumption) | exact keepO bo5 (by first | (simp; done) | (simp; omega)) (by assumption) | exact keepO bo4 (by first | (simp; done) | (simp; omega)) (by assumption) | exact keepO bo3 (by first | (simp; done) | (simp; omega)) (by assumption) | exact keepO bo2 (by first | (simp; done) | (simp; omega)) (by assumption) | exact keepO bo1 (by first | (simp; done) | (simp; omega)) (by assumption) | exact keepW bg2 (by first | (simp; done) | (simp; omega)) (by assumption) | exact keepW bg1 (by first | (simp; done) | (simp; omega)) (by assumption) | assumption))
        refine wpAnyH_take (i := 0) (oi := ⟨some 35, _, _, _, _, _⟩) (v := _) rfl (by kernel_rfl) (by kernel_rfl) (by kernel_rfl) (fun _ _ _ h => h) (Or.inl ⟨by kernel_rfl, by intro w hSw; (try dsimp only at hSw); go_simp; try with_reducible rfl⟩) (by assumption) ?_
        simp only [Act.put, List.setIfInBounds_toArray, List.set_cons_zero, List.set_cons_succ]
        refine wpAnyH_take (i := 1) (oi := ⟨some 36, _, _, _, _, _⟩) (v := _) rfl (by kernel_rfl) (by kernel_rfl) (by kernel_rfl) (fun _ _ _ h => h) (Or.inl ⟨by kernel_rfl, by intro w hSw; (try dsimp only at hSw); go_simp; try with_reducible rfl⟩) (by assumption) ?_
        simp only [Act.put, List.setIfInBounds_toArray, List.set_cons_zero, List.set_cons_succ]
        refine wpAnyH_ready (rs := [2]) (by kernel_rfl) (by simp) ?_
        refine AllReadyH.cons (o := ⟨none, _, _, _, _, _⟩) rfl (fun K hK => ?_) AllReadyH.nil
        go_simp
        refine hK.out _ _ ?_ (fun hHeld2 => ?_)
        · (first | (try dsimp only); go_keep | (go_split_ands; refine ⟨?_, ?_, ?_, ?_, ?_, ?_, ?_, ?_, ?_, ?_, ?_⟩ <;> first | exact keepB bx5 (by assumption) | exact keepB bx4 (by assumption) | exact keepB bx3 (by assumption) | exact keepB bx2 (by assumption) | exact keepB bx1 (by assumption) | exact keepO bo5 (by first | (simp; done) | (simp; omega)) (by assumption) | exact keepO bo4 (by first | (simp; done) | (simp; omega)) (by assumption) | exact keepO bo3 (by first | (simp; done) | (simp; omega)) (by assumption) | exact keepO bo2 (by first | (simp; done) | (simp; omega)) (by assumption) | exact keepO bo1 (by first | (simp; done) | (simp; omega)) (by assumption) | exact keepW bg2 (by first | (simp; done) | (simp; omega)) (by assumption) | exact keepW bg1 (by first | (simp; done) | (simp; omega)) (by assumption) | assumption))
        clear hK K hHeld
        have hHeld := hHeld2
        clear hHeld2
        try simp only [Act.put, List.setIfInBounds_toArray, List.set_cons_zero, List.set_cons_succ]
        refine wpAnyH_ready (rs := [3]) (by kernel_rfl) (by simp) ?_
        refine AllReadyH.cons (o := ⟨none, _, _, _, _, _⟩) rfl (fun K hK => ?_) AllReadyH.nil
        go_simp
        refine hK.out _ _ ?_ (fun hHeld2 => ?_)
        · (first | (try dsimp only); go_keep | (go_split_ands; refine ⟨?_, ?_, ?_, ?_, ?_, ?_, ?_, ?_, ?_, ?_, ?_⟩ <;> first | exact keepB bx5 (by assumption) | exact keepB bx4 (by assumption) | exact keepB bx3 (by assumption) | exact keepB bx2 (by assumption) | exact keepB bx1 (by assumption) | exact keepO bo5 (by first | (simp; done) | (simp; omega)) (by assumption) | exact keepO bo4 (by first | (simp; done) | (simp; omega)) (by assumption) | exact keepO bo3 (by first | (simp; done) | (simp; omega)) (by assumption) | exact keepO bo2 (by first | (simp; done) | (simp; omega)) (by assumption) | exact keepO bo1 (by first | (simp; done) | (simp; omega)) (by assumption) | exact keepW bg2 (by first | (simp; done) | (simp; omega)) (by assumption) | exact keepW bg1 (by first | (simp; done) | (simp; omega)) (by assumption) | assumption))
        clear hK K hHeld
        have hHeld := hHeld2
        clear hHeld2
        try simp only [Act.put, List.setIfInBounds_toArray, List.set_cons_zero, List.set_cons_succ]
        refine wpAnyH_done (by kernel_rfl) ?_ _
        obtain ⟨wq, hwq⟩ : ∃ wq, wq = (((((((((((w7.setCell ⟨w.heap.size, 0, none⟩ (.slice A es.length c)).setCell ⟨w.heap.size, 1, none⟩ (.int .i64 a)).setCell ⟨w.heap.size, 2, none⟩ (.int .i64 b)).setCell ⟨w.heap.size, 3, none⟩ (.int .i64 z)).setCell ⟨w.heap.size + 1, 0, none⟩ (.int .i64 ev.k)).setCell ⟨w.heap.size + 1, 1, none⟩ (.int .i64 ev.lb)).setCell ⟨w.heap.size + 1, 2, none⟩ (.int .i64 ev.l)).setCell ⟨w.heap.size + 1, 3, none⟩ (.int .i64 ev.r)).setCell ⟨w.heap.size + 1, 4, none⟩ (.int .i64 ev.f)).setCell ⟨w.heap.size + 1, 5, none⟩ (.int .i64 ev.t)).setCell ⟨w.heap.size + 1, 6, none⟩ (.int .i64 ev.g)) := ⟨_, rfl⟩
        have Hbq := Lib.hid (show Below w.heap.size w wq by rw [hwq]; exact (((((((((((Hb.out.setCell (p := ⟨w.heap.size, 0, none⟩) (Nat.le_refl _) _).setCell (p := ⟨w.heap.size, 1, none⟩) (Nat.le_refl _) _).setCell (p := ⟨w.heap.size, 2, none⟩) (Nat.le_refl _) _).setCell (p := ⟨w.heap.size, 3, none⟩) (Nat.le_refl _) _).setCell (p := ⟨w.heap.size + 1, 0, none⟩) (Nat.le_succ _) _).setCell (p := ⟨w.heap.size + 1, 1, none⟩) (Nat.le_succ _) _).setCell (p := ⟨w.heap.size + 1, 2, none⟩) (Nat.le_succ _) _).setCell (p := ⟨w.heap.size + 1, 3, none⟩) (Nat.le_succ _) _).setCell (p := ⟨w.heap.size + 1, 4, none⟩) (Nat.le_succ _) _).setCell (p := ⟨w.heap.size + 1, 5, none⟩) (Nat.le_succ _) _).setCell (p := ⟨w.heap.size + 1, 6, none⟩) (Nat.le_succ _) _))
        have Hzq := Lib.hid (show wq.heap.size = w7.heap.size by rw [hwq]; simp [World.setCell])
        have Heq := Lib.hid (show ES wq w2.heap.size X (.slice A es.length c) es by rw [hwq]; exact (((((((((((Hes.out.setFar (p := ⟨w.heap.size, 0, none⟩) (.inl (by show w.heap.size < w2.heap.size; omega)) _).setFar (p := ⟨w.heap.size, 1, none⟩) (.inl (by show w.heap.size < w2.heap.size; omega)) _).setFar (p := ⟨w.heap.size, 2, none⟩) (.inl (by show w.heap.size < w2.heap.size; omega)) _).setFar (p := ⟨w.heap.size, 3, none⟩) (.inl (by show w.heap.size < w2.heap.size; omega)) _).setFar (p := ⟨w.heap.size + 1, 0, none⟩) (.inl (by show w.heap.size + 1 < w2.heap.size; omega)) _).setFar (p := ⟨w.heap.size + 1, 1, none⟩) (.inl (by show w.heap.size + 1 < w2.heap.size; omega)) _).setFar (p := ⟨w.heap.size + 1, 2, none⟩) (.inl (by show w.heap.size + 1 < w2.heap.size; omega)) _).setFar (p := ⟨w.heap.size + 1, 3, none⟩) (.inl (by show w.heap.size + 1 < w2.heap.size; omega)) _).setFar (p := ⟨w.heap.size + 1, 4, none⟩) (.inl (by show w.heap.size + 1 < w2.heap.size; omega)) _).setFar (p := ⟨w.heap.size + 1, 5, none⟩) (.inl (by show w.heap.size + 1 < w2.heap.size; omega)) _).setFar (p := ⟨w.heap.size + 1, 6, none⟩) (.inl (by show w.heap.size + 1 < w2.heap.size; omega)) _))
        have Hwq := Lib.hid hwq
        clear hwq hPX hPX2 hQX hQX2 hPY hPY2 hQY hQY2
        go_wp2
        refine bodyPost_ret (v := .tuple #[.agg #[.slice A es.length c, .int .i64 a, .int .i64 b, .int .i64 z], .agg #[.int .i64 ev.k, .int .i64 ev.lb, .int .i64 ev.l, .int .i64 ev.r, .int .i64 ev.f, .int .i64 ev.t, .int .i64 ev.g]]) (by simp [results, Tryd.results32, go_sem, *]) rfl ?_
        refine ⟨A, es.length, c, es, a, b, z, ev, rfl, rfl, ?_, hbd, H64.out, ?_⟩
        · refine ES.kept (w := wq) (Heq.out.wide (by omega) (by have := Hzq.out; simp [World.setCell]; omega)) (.of_below ?_ (Nat.le_refl _))
          rw [← Hwq.out]; exact (Qt.one _ 1).below _
        · rw [← Hwq.out]; exact Hbq.out.trans ((Qt.one _ 1).below _)
end Go.Proofs.YtlabekemifccaaaDoor
