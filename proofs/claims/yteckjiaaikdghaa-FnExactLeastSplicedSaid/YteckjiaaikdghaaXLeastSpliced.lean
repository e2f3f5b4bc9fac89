/-
  Lemmas and contracts of single functions of this program, used by the proofs of its laws: what each call returns and what becomes of memory. Conditions: the hypotheses of each theorem.
-/
import Derived.Test.YteckjiaaikdghaaIntsS
import Derived.Test.YteckjiaaikdghaaLsS
namespace Go.Proofs.Yteckjiaaikdghaa
open Go.RowKit
attribute [local go_sem ↓] Go.wp_at_zero Go.wp_at_succ

set_option maxRecDepth 100000 in
set_option maxHeartbeats 4000000 in
theorem FnExactLeastSpliced_walk (v_ps : Value) (ps : List Int) (v_ws : Value) (ws : List Int) (w : World) (h_ps : Ints w 0 w.heap.size v_ps ps) (h_ws : Ints w 0 w.heap.size v_ws ws) :
    Calls Try.prog 3 #[v_ps, v_ws] w fun e w' => e = .returned (.bool true) ∧ Below w.heap.size w w' := by
  obtain ⟨A_ps, c_ps, rfl, hc_ps, hm_ps⟩ := h_ps.form
  obtain ⟨A_ws, c_ws, rfl, hc_ws, hm_ws⟩ := h_ws.form
  obtain ⟨R, hR⟩ : ∃ R, R = lsL ps ws := ⟨_, rfl⟩
  have HR := Lib.hid hR
  clear hR
  have B_w := Below.refl w.heap.size w
  by_cases l_ps : ps.length ≤ 1048576
  rotate_left
  · have l2_ps : (1048576 : Int) < (ps.length : Int) := by omega
    go_enter Try.func3, Try.ntmps3
    go_wp2
    go_ret
    exact ⟨rfl, Below.refl _ _⟩
  have l3_ps : ¬ (1048576 : Int) < (ps.length : Int) := by omega
  by_cases l_ws : ws.length ≤ 1048576
  rotate_left
  · have l2_ws : (1048576 : Int) < (ws.length : Int) := by omega
    go_enter Try.func3, Try.ntmps3
    go_wp2
    go_ret
    exact ⟨rfl, Below.refl _ _⟩
  have l3_ws : ¬ (1048576 : Int) < (ws.length : Int) := by omega
  go_enter Try.func3, Try.ntmps3
  have hRl : R.length ≤ 5 := by rw [HR.out]; exact lsL_len _ _
  go_wp2_with fail
  refine (toIntS_any 0 w.heap.size _ ps w (h_ps.below B_w (Nat.le_refl _)) (by omega) (by omega)).mono ?_
  rintro e y1 ⟨xa_ps, rfl, o_xa_ps, b⟩
  have s_y1 := b.size
  have B_y1 := B_w.trans (b.mono (by omega))
  clear b
  have l_xa_ps := o_xa_ps.lt
  have t_xa_ps := o_xa_ps.ints
  go_wp2_with fail
  refine (toIntS_any 0 w.heap.size _ ws y1 (h_ws.below B_y1 (Nat.le_refl _)) (by omega) (by omega)).mono ?_
  rintro e y2 ⟨xa_ws, rfl, o_xa_ws, b⟩
  have s_y2 := b.size
  have B_y2 := B_y1.trans (b.mono (by omega))
  replace t_xa_ps := t_xa_ps.below b (by omega)
  replace o_xa_ps := o_xa_ps.keptBlock fun g hg => b.block g (by have := l_xa_ps g hg; omega)
  clear b
  have l_xa_ws := o_xa_ws.lt
  have t_xa_ws := o_xa_ws.ints
  go_wp2_with fail
  refine (sLeastSpliced_any _ _ _ _ _ _ ps ws y2 t_xa_ps (by omega) t_xa_ws (by omega) ).mono ?_
  rw [← HR.out]
  rintro e y3 ⟨vw, rfl, t_vw, b⟩
  have s_y3 := b.size
  have B_y3 := B_y2.trans (b.mono (by omega))
  replace t_xa_ps := t_xa_ps.below b (by omega)
  replace o_xa_ps := o_xa_ps.keptBlock fun g hg => b.block g (by have := l_xa_ps g hg; omega)
  replace t_xa_ws := t_xa_ws.below b (by omega)
  replace o_xa_ws := o_xa_ws.keptBlock fun g hg => b.block g (by have := l_xa_ws g hg; omega)
  clear b
  clear t_xa_ps o_xa_ps l_xa_ps
  clear t_xa_ws o_xa_ws l_xa_ws
  go_wp2_with fail
  refine (toIntS_any 0 w.heap.size _ ps y3 (h_ps.below B_y3 (Nat.le_refl _)) (by omega) (by omega)).mono ?_
  rintro e y4 ⟨xb_ps, rfl, o_xb_ps, b⟩
  have s_y4 := b.size
  have B_y4 := B_y3.trans (b.mono (by omega))
  replace t_vw := t_vw.below b (by omega)
  clear b
  have l_xb_ps := o_xb_ps.lt
  have t_xb_ps := o_xb_ps.ints
  go_wp2_with fail
  refine (toIntS_any 0 w.heap.size _ ws y4 (h_ws.below B_y4 (Nat.le_refl _)) (by omega) (by omega)).mono ?_
  rintro e y5 ⟨xb_ws, rfl, o_xb_ws, b⟩
  have s_y5 := b.size
  have B_y5 := B_y4.trans (b.mono (by omega))
  replace t_vw := t_vw.below b (by omega)
  replace t_xb_ps := t_xb_ps.below b (by omega)
  replace o_xb_ps := o_xb_ps.keptBlock fun g hg => b.block g (by have := l_xb_ps g hg; omega)
  clear b
  have l_xb_ws := o_xb_ws.lt
  have t_xb_ws := o_xb_ws.ints
  go_wp2_with fail
  refine (LeastSpliced_any _ _ _ _ _ _ ps ws y5 t_xb_ps (by omega) t_xb_ws (by omega) ).mono ?_
  rw [← HR.out]
  rintro e y6 ⟨vg, rfl, o_vg, b⟩
  have s_y6 := b.size
  have B_y6 := B_y5.trans (b.mono (by omega))
  replace t_vw := t_vw.below b (by omega)
  replace t_xb_ps := t_xb_ps.below b (by omega)
  replace o_xb_ps := o_xb_ps.keptBlock fun g hg => b.block g (by have := l_xb_ps g hg; omega)
  replace t_xb_ws := t_xb_ws.below b (by omega)
  replace o_xb_ws := o_xb_ws.keptBlock fun g hg => b.block g (by have := l_xb_ws g hg; omega)
  clear b
  have l_vg := o_vg.lt
  have t_vg := o_vg.ints
  go_wp2_with fail
  refine (eqIntS_any _ _ _ _ _ _ _ _ y6 t_vg t_vw).mono ?_
  rw [eqL_same]
  rintro e y7 ⟨rfl, q⟩
  have b := q.below y6.heap.size
  clear q
  have s_y7 := b.size
  have B_y7 := B_y6.trans (b.mono (by omega))
  replace t_vw := t_vw.below b (by omega)
  replace t_xb_ps := t_xb_ps.below b (by omega)
  replace o_xb_ps := o_xb_ps.keptBlock fun g hg => b.block g (by have := l_xb_ps g hg; omega)
  replace t_xb_ws := t_xb_ws.below b (by omega)
  replace o_xb_ws := o_xb_ws.keptBlock fun g hg => b.block g (by have := l_xb_ws g hg; omega)
  replace t_vg := t_vg.below b (by omega)
  replace o_vg := o_vg.keptBlock fun g hg => b.block g (by have := l_vg g hg; omega)
  clear b
  go_wp2_with fail
  refine (toIntS_any 0 w.heap.size _ ps y7 (h_ps.below B_y7 (Nat.le_refl _)) (by omega) (by omega)).mono ?_
  rintro e y8 ⟨vt, rfl, o_vt, b⟩
  have s_y8 := b.size
  have B_y8 := B_y7.trans (b.mono (by omega))
  replace t_vw := t_vw.below b (by omega)
  replace t_xb_ps := t_xb_ps.below b (by omega)
  replace o_xb_ps := o_xb_ps.keptBlock fun g hg => b.block g (by have := l_xb_ps g hg; omega)
  replace t_xb_ws := t_xb_ws.below b (by omega)
  replace o_xb_ws := o_xb_ws.keptBlock fun g hg => b.block g (by have := l_xb_ws g hg; omega)
  replace t_vg := t_vg.below b (by omega)
  replace o_vg := o_vg.keptBlock fun g hg => b.block g (by have := l_vg g hg; omega)
  clear b
  have l_vt := o_vt.lt
  have t_vt := o_vt.ints
  go_wp2_with fail
  refine (eqIntS_any _ _ _ _ _ _ _ _ y8 t_xb_ps t_vt).mono ?_
  rw [eqL_same]
  rintro e y9 ⟨rfl, q⟩
  have b := q.below y8.heap.size
  clear q
  have s_y9 := b.size
  have B_y9 := B_y8.trans (b.mono (by omega))
  replace t_vw := t_vw.below b (by omega)
  replace t_xb_ps := t_xb_ps.below b (by omega)
  replace o_xb_ps := o_xb_ps.keptBlock fun g hg => b.block g (by have := l_xb_ps g hg; omega)
  replace t_xb_ws := t_xb_ws.below b (by omega)
  replace o_xb_ws := o_xb_ws.keptBlock fun g hg => b.block g (by have := l_xb_ws g hg; omega)
  replace t_vg := t_vg.below b (by omega)
  replace o_vg := o_vg.keptBlock fun g hg => b.block g (by have := l_vg g hg; omega)
  replace t_vt := t_vt.below b (by omega)
  replace o_vt := o_vt.keptBlock fun g hg => b.block g (by have := l_vt g hg; omega)
  clear b
  clear t_vt o_vt l_vt
  go_wp2_with fail
  refine (toIntS_any 0 w.heap.size _ ws y9 (h_ws.below B_y9 (Nat.le_refl _)) (by omega) (by omega)).mono ?_
  rintro e y10 ⟨vt, rfl, o_vt, b⟩
  have s_y10 := b.size
  have B_y10 := B_y9.trans (b.mono (by omega))
  replace t_vw := t_vw.below b (by omega)
  replace t_xb_ps := t_xb_ps.below b (by omega)
  replace o_xb_ps := o_xb_ps.keptBlock fun g hg => b.block g (by have := l_xb_ps g hg; omega)
  replace t_xb_ws := t_xb_ws.below b (by omega)
  replace o_xb_ws := o_xb_ws.keptBlock fun g hg => b.block g (by have := l_xb_ws g hg; omega)
  replace t_vg := t_vg.below b (by omega)
  replace o_vg := o_vg.keptBlock fun g hg => b.block g (by have := l_vg g hg; omega)
  clear b
  have l_vt := o_vt.lt
  have t_vt := o_vt.ints
  go_wp2_with fail
  refine (eqIntS_any _ _ _ _ _ _ _ _ y10 t_xb_ws t_vt).mono ?_
  rw [eqL_same]
  rintro e y11 ⟨rfl, q⟩
  have b := q.below y10.heap.size
  clear q
  have s_y11 := b.size
  have B_y11 := B_y10.trans (b.mono (by omega))
  replace t_vw := t_vw.below b (by omega)
  replace t_xb_ps := t_xb_ps.below b (by omega)
  replace o_xb_ps := o_xb_ps.keptBlock fun g hg => b.block g (by have := l_xb_ps g hg; omega)
  replace t_xb_ws := t_xb_ws.below b (by omega)
  replace o_xb_ws := o_xb_ws.keptBlock fun g hg => b.block g (by have := l_xb_ws g hg; omega)
  replace t_vg := t_vg.below b (by omega)
  replace o_vg := o_vg.keptBlock fun g hg => b.block g (by have := l_vg g hg; omega)
  replace t_vt := t_vt.below b (by omega)
  replace o_vt := o_vt.keptBlock fun g hg => b.block g (by have := l_vt g hg; omega)
  clear b
  clear t_vt o_vt l_vt
  go_wp2_with fail
  refine (markIntS_any y3.heap.size y4.heap.size _ ps (1) y11 o_xb_ps (fun g hg => (l_xb_ps g hg).2) (by omega) (by omega)).mono ?_
  rintro e y12 ⟨rfl, om, bm, hkm⟩
  have s_y12 := bm.size
  have B_y12 := B_y11.trans (bm.below.mono (by omega))
  replace t_vw := t_vw.kept (bm.kept (by omega))
  replace t_xb_ws := t_xb_ws.kept (bm.kept (by omega))
  replace o_xb_ws := o_xb_ws.keptBlock fun g hg => bm.block g (by have := l_xb_ws g hg; omega)
  replace t_vg := t_vg.kept (bm.kept (by omega))
  replace o_vg := o_vg.keptBlock fun g hg => bm.block g (by have := l_vg g hg; omega)
  clear om bm hkm
  clear t_xb_ps o_xb_ps l_xb_ps
  go_wp2_with fail
  refine (markIntS_any y4.heap.size y5.heap.size _ ws (1 + ps.length) y12 o_xb_ws (fun g hg => (l_xb_ws g hg).2) (by omega) (by omega)).mono ?_
  rintro e y13 ⟨rfl, om, bm, hkm⟩
  have s_y13 := bm.size
  have B_y13 := B_y12.trans (bm.below.mono (by omega))
  replace t_vw := t_vw.kept (bm.kept (by omega))
  replace t_vg := t_vg.kept (bm.kept (by omega))
  replace o_vg := o_vg.keptBlock fun g hg => bm.block g (by have := l_vg g hg; omega)
  clear om bm hkm
  clear t_xb_ws o_xb_ws l_xb_ws
  have hk9 : ¬ ((1 + ps.length + ws.length : Nat) : Int) < 0 := by omega
  go_wp2_with fail
  refine (eqIntS_any _ _ _ _ _ _ _ _ y13 t_vg t_vw).mono ?_
  rw [eqL_same]
  rintro e y14 ⟨rfl, q⟩
  have b := q.below y13.heap.size
  clear q
  have s_y14 := b.size
  have B_y14 := B_y13.trans (b.mono (by omega))
  replace t_vw := t_vw.below b (by omega)
  replace t_vg := t_vg.below b (by omega)
  replace o_vg := o_vg.keptBlock fun g hg => b.block g (by have := l_vg g hg; omega)
  clear b
  go_wp2_with fail
  refine (markIntS_any y5.heap.size y6.heap.size _ R (1) y14 o_vg (fun g hg => (l_vg g hg).2) (by omega) (by omega)).mono ?_
  rintro e y15 ⟨rfl, om, bm, hkm⟩
  have s_y15 := bm.size
  have B_y15 := B_y14.trans (bm.below.mono (by omega))
  replace t_vw := t_vw.kept (bm.kept (by omega))
  clear bm t_vg o_vg hkm
  have o_vg := om
  clear om
  have t_vg := o_vg.ints_at (fun g hg => (l_vg g hg).2)
  go_wp2_with fail
  refine (heldIntS_any _ _ _ _ 1 y15 t_vg (by rw [upL_len]; omega) (by omega) (by omega)).mono ?_
  rw [show heldL (upL 1 R.length) 1 = ((1 + R.length : Nat) : Int) by have := heldL_upL 1 R.length []; simpa [heldL] using this]
  rintro e w' ⟨rfl, rfl⟩
  go_wp2_with fail
  refine (toIntS_any 0 w.heap.size _ ps y15 (h_ps.below B_y15 (Nat.le_refl _)) (by omega) (by omega)).mono ?_
  rintro e y16 ⟨xc_ps, rfl, o_xc_ps, b⟩
  have s_y16 := b.size
  have B_y16 := B_y15.trans (b.mono (by omega))
  replace t_vw := t_vw.below b (by omega)
  replace t_vg := t_vg.below b (by omega)
  replace o_vg := o_vg.keptBlock fun g hg => b.block g (by have := l_vg g hg; omega)
  clear b
  have l_xc_ps := o_xc_ps.lt
  have t_xc_ps := o_xc_ps.ints
  go_wp2_with fail
  refine (toIntS_any 0 w.heap.size _ ws y16 (h_ws.below B_y16 (Nat.le_refl _)) (by omega) (by omega)).mono ?_
  rintro e y17 ⟨xc_ws, rfl, o_xc_ws, b⟩
  have s_y17 := b.size
  have B_y17 := B_y16.trans (b.mono (by omega))
  replace t_vw := t_vw.below b (by omega)
  replace t_vg := t_vg.below b (by omega)
  replace o_vg := o_vg.keptBlock fun g hg => b.block g (by have := l_vg g hg; omega)
  replace t_xc_ps := t_xc_ps.below b (by omega)
  replace o_xc_ps := o_xc_ps.keptBlock fun g hg => b.block g (by have := l_xc_ps g hg; omega)
  clear b
  have l_xc_ws := o_xc_ws.lt
  have t_xc_ws := o_xc_ws.ints
  go_wp2_with fail
  refine (LeastSpliced_any _ _ _ _ _ _ ps ws y17 t_xc_ps (by omega) t_xc_ws (by omega) ).mono ?_
  rw [← HR.out]
  rintro e y18 ⟨vh, rfl, o_vh, b⟩
  have s_y18 := b.size
  have B_y18 := B_y17.trans (b.mono (by omega))
  replace t_vw := t_vw.below b (by omega)
  replace t_vg := t_vg.below b (by omega)
  replace o_vg := o_vg.keptBlock fun g hg => b.block g (by have := l_vg g hg; omega)
  replace t_xc_ps := t_xc_ps.below b (by omega)
  replace o_xc_ps := o_xc_ps.keptBlock fun g hg => b.block g (by have := l_xc_ps g hg; omega)
  replace t_xc_ws := t_xc_ws.below b (by omega)
  replace o_xc_ws := o_xc_ws.keptBlock fun g hg => b.block g (by have := l_xc_ws g hg; omega)
  clear b
  have l_vh := o_vh.lt
  have t_vh := o_vh.ints
  clear t_xc_ps o_xc_ps l_xc_ps
  clear t_xc_ws o_xc_ws l_xc_ws
  go_wp2_with fail
  refine (eqIntS_any _ _ _ _ _ _ _ _ y18 t_vh t_vw).mono ?_
  rw [eqL_same]
  rintro e y19 ⟨rfl, q⟩
  have b := q.below y18.heap.size
  clear q
  have s_y19 := b.size
  have B_y19 := B_y18.trans (b.mono (by omega))
  replace t_vw := t_vw.below b (by omega)
  replace t_vg := t_vg.below b (by omega)
  replace o_vg := o_vg.keptBlock fun g hg => b.block g (by have := l_vg g hg; omega)
  replace t_vh := t_vh.below b (by omega)
  replace o_vh := o_vh.keptBlock fun g hg => b.block g (by have := l_vh g hg; omega)
  clear b
  go_wp2_with fail
  refine (heldIntS_any _ _ _ _ 1 y19 t_vg (by rw [upL_len]; omega) (by omega) (by omega)).mono ?_
  rw [show heldL (upL 1 R.length) 1 = ((1 + R.length : Nat) : Int) by have := heldL_upL 1 R.length []; simpa [heldL] using this]
  rintro e w' ⟨rfl, rfl⟩
  go_wp2
  go_ret
  exact ⟨rfl, B_y19⟩
end Go.Proofs.Yteckjiaaikdghaa
