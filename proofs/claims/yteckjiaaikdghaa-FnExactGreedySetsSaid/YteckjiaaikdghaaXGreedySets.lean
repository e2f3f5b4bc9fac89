/-
  Lemmas and contracts of single functions of this program, used by the proofs of its laws: what each call returns and what becomes of memory. Conditions: the hypotheses of each theorem.
-/
import Derived.Test.YteckjiaaikdghaaRowsS
import Derived.Test.YteckjiaaikdghaaGrdV
namespace Go.Proofs.Yteckjiaaikdghaa
open Go.RowKit
attribute [local go_sem ↓] Go.wp_at_zero Go.wp_at_succ

set_option maxRecDepth 100000 in
set_option maxHeartbeats 4000000 in
theorem FnExactGreedySets_walk (W : Int) (v_wl : Value) (wl : List Int) (v_xl : Value) (xl : List Int) (w : World) (_i_W : I64 W) (h_wl : Ints w 0 w.heap.size v_wl wl) (h_xl : Ints w 0 w.heap.size v_xl xl) :
    Calls Try.prog 5 #[.int .i64 W, v_wl, v_xl] w fun e w' => e = .returned (.bool true) ∧ Below w.heap.size w w' := by
  obtain ⟨A_wl, c_wl, rfl, hc_wl, hm_wl⟩ := h_wl.form
  obtain ⟨A_xl, c_xl, rfl, hc_xl, hm_xl⟩ := h_xl.form
  obtain ⟨R, hR⟩ : ∃ R, R = gsL W wl xl := ⟨_, rfl⟩
  have HR := Lib.hid hR
  clear hR
  have B_w := Below.refl w.heap.size w
  by_cases l_wl : wl.length ≤ 1048576
  rotate_left
  · have l2_wl : (1048576 : Int) < (wl.length : Int) := by omega
    go_enter Try.func5, Try.ntmps5
    go_wp2
    go_ret
    exact ⟨rfl, Below.refl _ _⟩
  have l3_wl : ¬ (1048576 : Int) < (wl.length : Int) := by omega
  by_cases l_xl : xl.length ≤ 1048576
  rotate_left
  · have l2_xl : (1048576 : Int) < (xl.length : Int) := by omega
    go_enter Try.func5, Try.ntmps5
    go_wp2
    go_ret
    exact ⟨rfl, Below.refl _ _⟩
  have l3_xl : ¬ (1048576 : Int) < (xl.length : Int) := by omega
  go_enter Try.func5, Try.ntmps5
  have hRl : R.length ≤ 360 ∧ tot R ≤ 360 := by rw [HR.out]; exact ⟨Nat.le_trans (gsL_len _ _ _) (by omega), gsL_tot _ _ _⟩
  obtain ⟨hRl, hRt⟩ := hRl
  go_wp2_with fail
  refine (toIntS_any 0 w.heap.size _ wl w (h_wl.below B_w (Nat.le_refl _)) (by omega) (by omega)).mono ?_
  rintro e y1 ⟨xa_wl, rfl, o_xa_wl, b⟩
  have s_y1 := b.size
  have B_y1 := B_w.trans (b.mono (by omega))
  clear b
  have l_xa_wl := o_xa_wl.lt
  have t_xa_wl := o_xa_wl.ints
  go_wp2_with fail
  refine (toIntS_any 0 w.heap.size _ xl y1 (h_xl.below B_y1 (Nat.le_refl _)) (by omega) (by omega)).mono ?_
  rintro e y2 ⟨xa_xl, rfl, o_xa_xl, b⟩
  have s_y2 := b.size
  have B_y2 := B_y1.trans (b.mono (by omega))
  replace t_xa_wl := t_xa_wl.below b (by omega)
  replace o_xa_wl := o_xa_wl.keptBlock fun g hg => b.block g (by have := l_xa_wl g hg; omega)
  clear b
  have l_xa_xl := o_xa_xl.lt
  have t_xa_xl := o_xa_xl.ints
  go_wp2_with fail
  refine (sGreedySets_any _ _ _ _ _ _ W wl xl y2 t_xa_wl (by omega) t_xa_xl (by omega) ).mono ?_
  rw [← HR.out]
  rintro e y3 ⟨vw, rfl, o_vw, b⟩
  have s_y3 := b.size
  have B_y3 := B_y2.trans (b.mono (by omega))
  replace t_xa_wl := t_xa_wl.below b (by omega)
  replace o_xa_wl := o_xa_wl.keptBlock fun g hg => b.block g (by have := l_xa_wl g hg; omega)
  replace t_xa_xl := t_xa_xl.below b (by omega)
  replace o_xa_xl := o_xa_xl.keptBlock fun g hg => b.block g (by have := l_xa_xl g hg; omega)
  clear b
  have t_vw := o_vw.rows
  clear t_xa_wl o_xa_wl l_xa_wl
  clear t_xa_xl o_xa_xl l_xa_xl
  go_wp2_with fail
  refine (toIntS_any 0 w.heap.size _ wl y3 (h_wl.below B_y3 (Nat.le_refl _)) (by omega) (by omega)).mono ?_
  rintro e y4 ⟨xb_wl, rfl, o_xb_wl, b⟩
  have s_y4 := b.size
  have B_y4 := B_y3.trans (b.mono (by omega))
  replace t_vw := t_vw.below b (by omega)
  replace o_vw := o_vw.kept (.of_below b (by omega))
  clear b
  have l_xb_wl := o_xb_wl.lt
  have t_xb_wl := o_xb_wl.ints
  go_wp2_with fail
  refine (toIntS_any 0 w.heap.size _ xl y4 (h_xl.below B_y4 (Nat.le_refl _)) (by omega) (by omega)).mono ?_
  rintro e y5 ⟨xb_xl, rfl, o_xb_xl, b⟩
  have s_y5 := b.size
  have B_y5 := B_y4.trans (b.mono (by omega))
  replace t_vw := t_vw.below b (by omega)
  replace o_vw := o_vw.kept (.of_below b (by omega))
  replace t_xb_wl := t_xb_wl.below b (by omega)
  replace o_xb_wl := o_xb_wl.keptBlock fun g hg => b.block g (by have := l_xb_wl g hg; omega)
  clear b
  have l_xb_xl := o_xb_xl.lt
  have t_xb_xl := o_xb_xl.ints
  go_wp2_with fail
  refine (GreedySets_any _ _ _ _ _ _ W wl xl y5 t_xb_wl (by omega) t_xb_xl (by omega) ).mono ?_
  rw [← HR.out]
  rintro e y6 ⟨vg, rfl, o_vg, b⟩
  have s_y6 := b.size
  have B_y6 := B_y5.trans (b.mono (by omega))
  replace t_vw := t_vw.below b (by omega)
  replace o_vw := o_vw.kept (.of_below b (by omega))
  replace t_xb_wl := t_xb_wl.below b (by omega)
  replace o_xb_wl := o_xb_wl.keptBlock fun g hg => b.block g (by have := l_xb_wl g hg; omega)
  replace t_xb_xl := t_xb_xl.below b (by omega)
  replace o_xb_xl := o_xb_xl.keptBlock fun g hg => b.block g (by have := l_xb_xl g hg; omega)
  clear b
  have t_vg := o_vg.rows
  go_wp2_with fail
  refine (eqIntSS_any _ _ _ _ _ _ _ _ y6 t_vg t_vw).mono ?_
  rw [eqLL_same]
  rintro e y7 ⟨rfl, q⟩
  have b := q.below y6.heap.size
  clear q
  have s_y7 := b.size
  have B_y7 := B_y6.trans (b.mono (by omega))
  replace t_vw := t_vw.below b (by omega)
  replace o_vw := o_vw.kept (.of_below b (by omega))
  replace t_xb_wl := t_xb_wl.below b (by omega)
  replace o_xb_wl := o_xb_wl.keptBlock fun g hg => b.block g (by have := l_xb_wl g hg; omega)
  replace t_xb_xl := t_xb_xl.below b (by omega)
  replace o_xb_xl := o_xb_xl.keptBlock fun g hg => b.block g (by have := l_xb_xl g hg; omega)
  replace t_vg := t_vg.below b (by omega)
  replace o_vg := o_vg.kept (.of_below b (by omega))
  clear b
  go_wp2_with fail
  refine (toIntS_any 0 w.heap.size _ wl y7 (h_wl.below B_y7 (Nat.le_refl _)) (by omega) (by omega)).mono ?_
  rintro e y8 ⟨vt, rfl, o_vt, b⟩
  have s_y8 := b.size
  have B_y8 := B_y7.trans (b.mono (by omega))
  replace t_vw := t_vw.below b (by omega)
  replace o_vw := o_vw.kept (.of_below b (by omega))
  replace t_xb_wl := t_xb_wl.below b (by omega)
  replace o_xb_wl := o_xb_wl.keptBlock fun g hg => b.block g (by have := l_xb_wl g hg; omega)
  replace t_xb_xl := t_xb_xl.below b (by omega)
  replace o_xb_xl := o_xb_xl.keptBlock fun g hg => b.block g (by have := l_xb_xl g hg; omega)
  replace t_vg := t_vg.below b (by omega)
  replace o_vg := o_vg.kept (.of_below b (by omega))
  clear b
  have l_vt := o_vt.lt
  have t_vt := o_vt.ints
  go_wp2_with fail
  refine (eqIntS_any _ _ _ _ _ _ _ _ y8 t_xb_wl t_vt).mono ?_
  rw [eqL_same]
  rintro e y9 ⟨rfl, q⟩
  have b := q.below y8.heap.size
  clear q
  have s_y9 := b.size
  have B_y9 := B_y8.trans (b.mono (by omega))
  replace t_vw := t_vw.below b (by omega)
  replace o_vw := o_vw.kept (.of_below b (by omega))
  replace t_xb_wl := t_xb_wl.below b (by omega)
  replace o_xb_wl := o_xb_wl.keptBlock fun g hg => b.block g (by have := l_xb_wl g hg; omega)
  replace t_xb_xl := t_xb_xl.below b (by omega)
  replace o_xb_xl := o_xb_xl.keptBlock fun g hg => b.block g (by have := l_xb_xl g hg; omega)
  replace t_vg := t_vg.below b (by omega)
  replace o_vg := o_vg.kept (.of_below b (by omega))
  replace t_vt := t_vt.below b (by omega)
  replace o_vt := o_vt.keptBlock fun g hg => b.block g (by have := l_vt g hg; omega)
  clear b
  clear t_vt o_vt l_vt
  go_wp2_with fail
  refine (toIntS_any 0 w.heap.size _ xl y9 (h_xl.below B_y9 (Nat.le_refl _)) (by omega) (by omega)).mono ?_
  rintro e y10 ⟨vt, rfl, o_vt, b⟩
  have s_y10 := b.size
  have B_y10 := B_y9.trans (b.mono (by omega))
  replace t_vw := t_vw.below b (by omega)
  replace o_vw := o_vw.kept (.of_below b (by omega))
  replace t_xb_wl := t_xb_wl.below b (by omega)
  replace o_xb_wl := o_xb_wl.keptBlock fun g hg => b.block g (by have := l_xb_wl g hg; omega)
  replace t_xb_xl := t_xb_xl.below b (by omega)
  replace o_xb_xl := o_xb_xl.keptBlock fun g hg => b.block g (by have := l_xb_xl g hg; omega)
  replace t_vg := t_vg.below b (by omega)
  replace o_vg := o_vg.kept (.of_below b (by omega))
  clear b
  have l_vt := o_vt.lt
  have t_vt := o_vt.ints
  go_wp2_with fail
  refine (eqIntS_any _ _ _ _ _ _ _ _ y10 t_xb_xl t_vt).mono ?_
  rw [eqL_same]
  rintro e y11 ⟨rfl, q⟩
  have b := q.below y10.heap.size
  clear q
  have s_y11 := b.size
  have B_y11 := B_y10.trans (b.mono (by omega))
  replace t_vw := t_vw.below b (by omega)
  replace o_vw := o_vw.kept (.of_below b (by omega))
  replace t_xb_wl := t_xb_wl.below b (by omega)
  replace o_xb_wl := o_xb_wl.keptBlock fun g hg => b.block g (by have := l_xb_wl g hg; omega)
  replace t_xb_xl := t_xb_xl.below b (by omega)
  replace o_xb_xl := o_xb_xl.keptBlock fun g hg => b.block g (by have := l_xb_xl g hg; omega)
  replace t_vg := t_vg.below b (by omega)
  replace o_vg := o_vg.kept (.of_below b (by omega))
  replace t_vt := t_vt.below b (by omega)
  replace o_vt := o_vt.keptBlock fun g hg => b.block g (by have := l_vt g hg; omega)
  clear b
  clear t_vt o_vt l_vt
  go_wp2_with fail
  refine (markIntS_any y3.heap.size y4.heap.size _ wl (1) y11 o_xb_wl (fun g hg => (l_xb_wl g hg).2) (by omega) (by omega)).mono ?_
  rintro e y12 ⟨rfl, om, bm, hkm⟩
  have s_y12 := bm.size
  have B_y12 := B_y11.trans (bm.below.mono (by omega))
  replace t_vw := t_vw.kept (bm.kept (by omega))
  replace o_vw := o_vw.kept (bm.kept (by omega))
  replace t_xb_xl := t_xb_xl.kept (bm.kept (by omega))
  replace o_xb_xl := o_xb_xl.keptBlock fun g hg => bm.block g (by have := l_xb_xl g hg; omega)
  replace t_vg := t_vg.kept (bm.kept (by omega))
  replace o_vg := o_vg.kept (bm.kept (by omega))
  clear om bm hkm
  clear t_xb_wl o_xb_wl l_xb_wl
  go_wp2_with fail
  refine (markIntS_any y4.heap.size y5.heap.size _ xl (1 + wl.length) y12 o_xb_xl (fun g hg => (l_xb_xl g hg).2) (by omega) (by omega)).mono ?_
  rintro e y13 ⟨rfl, om, bm, hkm⟩
  have s_y13 := bm.size
  have B_y13 := B_y12.trans (bm.below.mono (by omega))
  replace t_vw := t_vw.kept (bm.kept (by omega))
  replace o_vw := o_vw.kept (bm.kept (by omega))
  replace t_vg := t_vg.kept (bm.kept (by omega))
  replace o_vg := o_vg.kept (bm.kept (by omega))
  clear om bm hkm
  clear t_xb_xl o_xb_xl l_xb_xl
  have hk9 : ¬ ((1 + wl.length + xl.length : Nat) : Int) < 0 := by omega
  go_wp2_with fail
  refine (eqIntSS_any _ _ _ _ _ _ _ _ y13 t_vg t_vw).mono ?_
  rw [eqLL_same]
  rintro e y14 ⟨rfl, q⟩
  have b := q.below y13.heap.size
  clear q
  have s_y14 := b.size
  have B_y14 := B_y13.trans (b.mono (by omega))
  replace t_vw := t_vw.below b (by omega)
  replace o_vw := o_vw.kept (.of_below b (by omega))
  replace t_vg := t_vg.below b (by omega)
  replace o_vg := o_vg.kept (.of_below b (by omega))
  clear b
  go_wp2_with fail
  refine (markIntSS_any y5.heap.size y6.heap.size _ R (1) y14 o_vg (by omega) (by omega)).mono ?_
  rintro e y15 ⟨rfl, om, bm⟩
  have s_y15 := bm.size
  have B_y15 := B_y14.trans (bm.below.mono (by omega))
  replace t_vw := t_vw.kept (bm.kept (by omega))
  replace o_vw := o_vw.kept (bm.kept (by omega))
  clear bm t_vg o_vg
  have o_vg := om
  clear om
  have t_vg := o_vg.rows
  go_wp2_with fail
  refine (heldIntSS_any _ _ _ _ 1 y15 t_vg (by rw [upLL_tot]; omega) (by omega)).mono ?_
  rw [heldLL_upLL R 1]
  rintro e w' ⟨rfl, rfl⟩
  go_wp2_with fail
  refine (toIntS_any 0 w.heap.size _ wl y15 (h_wl.below B_y15 (Nat.le_refl _)) (by omega) (by omega)).mono ?_
  rintro e y16 ⟨xc_wl, rfl, o_xc_wl, b⟩
  have s_y16 := b.size
  have B_y16 := B_y15.trans (b.mono (by omega))
  replace t_vw := t_vw.below b (by omega)
  replace o_vw := o_vw.kept (.of_below b (by omega))
  replace t_vg := t_vg.below b (by omega)
  replace o_vg := o_vg.kept (.of_below b (by omega))
  clear b
  have l_xc_wl := o_xc_wl.lt
  have t_xc_wl := o_xc_wl.ints
  go_wp2_with fail
  refine (toIntS_any 0 w.heap.size _ xl y16 (h_xl.below B_y16 (Nat.le_refl _)) (by omega) (by omega)).mono ?_
  rintro e y17 ⟨xc_xl, rfl, o_xc_xl, b⟩
  have s_y17 := b.size
  have B_y17 := B_y16.trans (b.mono (by omega))
  replace t_vw := t_vw.below b (by omega)
  replace o_vw := o_vw.kept (.of_below b (by omega))
  replace t_vg := t_vg.below b (by omega)
  replace o_vg := o_vg.kept (.of_below b (by omega))
  replace t_xc_wl := t_xc_wl.below b (by omega)
  replace o_xc_wl := o_xc_wl.keptBlock fun g hg => b.block g (by have := l_xc_wl g hg; omega)
  clear b
  have l_xc_xl := o_xc_xl.lt
  have t_xc_xl := o_xc_xl.ints
  go_wp2_with fail
  refine (GreedySets_any _ _ _ _ _ _ W wl xl y17 t_xc_wl (by omega) t_xc_xl (by omega) ).mono ?_
  rw [← HR.out]
  rintro e y18 ⟨vh, rfl, o_vh, b⟩
  have s_y18 := b.size
  have B_y18 := B_y17.trans (b.mono (by omega))
  replace t_vw := t_vw.below b (by omega)
  replace o_vw := o_vw.kept (.of_below b (by omega))
  replace t_vg := t_vg.below b (by omega)
  replace o_vg := o_vg.kept (.of_below b (by omega))
  replace t_xc_wl := t_xc_wl.below b (by omega)
  replace o_xc_wl := o_xc_wl.keptBlock fun g hg => b.block g (by have := l_xc_wl g hg; omega)
  replace t_xc_xl := t_xc_xl.below b (by omega)
  replace o_xc_xl := o_xc_xl.keptBlock fun g hg => b.block g (by have := l_xc_xl g hg; omega)
  clear b
  have t_vh := o_vh.rows
  clear t_xc_wl o_xc_wl l_xc_wl
  clear t_xc_xl o_xc_xl l_xc_xl
  go_wp2_with fail
  refine (eqIntSS_any _ _ _ _ _ _ _ _ y18 t_vh t_vw).mono ?_
  rw [eqLL_same]
  rintro e y19 ⟨rfl, q⟩
  have b := q.below y18.heap.size
  clear q
  have s_y19 := b.size
  have B_y19 := B_y18.trans (b.mono (by omega))
  replace t_vw := t_vw.below b (by omega)
  replace o_vw := o_vw.kept (.of_below b (by omega))
  replace t_vg := t_vg.below b (by omega)
  replace o_vg := o_vg.kept (.of_below b (by omega))
  replace t_vh := t_vh.below b (by omega)
  replace o_vh := o_vh.kept (.of_below b (by omega))
  clear b
  go_wp2_with fail
  refine (heldIntSS_any _ _ _ _ 1 y19 t_vg (by rw [upLL_tot]; omega) (by omega)).mono ?_
  rw [heldLL_upLL R 1]
  rintro e w' ⟨rfl, rfl⟩
  go_wp2
  go_ret
  exact ⟨rfl, B_y19⟩
end Go.Proofs.Yteckjiaaikdghaa
