/-
  Lemmas and contracts of single functions of this program, used by the proofs of its laws: what each call returns and what becomes of memory. Conditions: the hypotheses of each theorem.
-/
import Derived.Test.YteckjiaaikdghaaRowsS
import Derived.Test.YteckjiaaikdghaaKniV
namespace Go.Proofs.Yteckjiaaikdghaa
open Go.RowKit
attribute [local go_sem ↓] Go.wp_at_zero Go.wp_at_succ

set_option maxRecDepth 100000 in
set_option maxHeartbeats 4000000 in
theorem FnExactBestOrder_walk (v_L : Value) (L : List (List Int)) (w : World) (h_L : IRows w 0 w.heap.size v_L L) :
    Calls Try.prog 4 #[v_L] w fun e w' => e = .returned (.bool true) ∧ Below w.heap.size w w' := by
  obtain ⟨A_L, c_L, rfl, hc_L, hm_L⟩ := h_L.form
  obtain ⟨R, hR⟩ : ∃ R, R = boL L := ⟨_, rfl⟩
  have HR := Lib.hid hR
  clear hR
  have B_w := Below.refl w.heap.size w
  go_enter Try.func4, Try.ntmps4
  go_wp2_with fail
  refine (szIntSS_any _ _ _ _ 1048576 _ h_L (by omega)).mono ?_
  rintro e w' ⟨⟨m, rfl, hm2⟩, rfl⟩
  by_cases hm0 : m < 0
  · go_wp2
    go_ret
    exact ⟨rfl, Below.refl _ _⟩
  have hsz := hm2 (by omega)
  clear hm2
  have ht_L : tot L ≤ 1048576 := by omega
  have hp_L : L.length ≤ 1048576 := by omega
  have hRl : R.length ≤ 5 := by rw [HR.out]; exact boL_len _
  go_wp2_with fail
  refine (toIntSS_any 0 w.heap.size _ L w (h_L.below B_w (Nat.le_refl _)) (by omega) ht_L hp_L).mono ?_
  rintro e y1 ⟨xa_L, rfl, o_xa_L, b⟩
  have s_y1 := b.size
  have B_y1 := B_w.trans (b.mono (by omega))
  clear b
  have t_xa_L := o_xa_L.rows
  go_wp2_with fail
  refine (sBestOrder_any _ _ _ L y1 t_xa_L (by omega) ).mono ?_
  rw [← HR.out]
  rintro e y2 ⟨vw, rfl, t_vw, b⟩
  have s_y2 := b.size
  have B_y2 := B_y1.trans (b.mono (by omega))
  replace t_xa_L := t_xa_L.below b (by omega)
  replace o_xa_L := o_xa_L.kept (.of_below b (by omega))
  clear b
  clear t_xa_L o_xa_L
  go_wp2_with fail
  refine (toIntSS_any 0 w.heap.size _ L y2 (h_L.below B_y2 (Nat.le_refl _)) (by omega) ht_L hp_L).mono ?_
  rintro e y3 ⟨xb_L, rfl, o_xb_L, b⟩
  have s_y3 := b.size
  have B_y3 := B_y2.trans (b.mono (by omega))
  replace t_vw := t_vw.below b (by omega)
  clear b
  have t_xb_L := o_xb_L.rows
  go_wp2_with fail
  refine (BestOrder_any _ _ _ L y3 t_xb_L (by omega) ).mono ?_
  rw [← HR.out]
  rintro e y4 ⟨vg, rfl, o_vg, b⟩
  have s_y4 := b.size
  have B_y4 := B_y3.trans (b.mono (by omega))
  replace t_vw := t_vw.below b (by omega)
  replace t_xb_L := t_xb_L.below b (by omega)
  replace o_xb_L := o_xb_L.kept (.of_below b (by omega))
  clear b
  have l_vg := o_vg.lt
  have t_vg := o_vg.ints
  go_wp2_with fail
  refine (eqIntS_any _ _ _ _ _ _ _ _ y4 t_vg t_vw).mono ?_
  rw [eqL_same]
  rintro e y5 ⟨rfl, q⟩
  have b := q.below y4.heap.size
  clear q
  have s_y5 := b.size
  have B_y5 := B_y4.trans (b.mono (by omega))
  replace t_vw := t_vw.below b (by omega)
  replace t_xb_L := t_xb_L.below b (by omega)
  replace o_xb_L := o_xb_L.kept (.of_below b (by omega))
  replace t_vg := t_vg.below b (by omega)
  replace o_vg := o_vg.keptBlock fun g hg => b.block g (by have := l_vg g hg; omega)
  clear b
  go_wp2_with fail
  refine (toIntSS_any 0 w.heap.size _ L y5 (h_L.below B_y5 (Nat.le_refl _)) (by omega) ht_L hp_L).mono ?_
  rintro e y6 ⟨vt, rfl, o_vt, b⟩
  have s_y6 := b.size
  have B_y6 := B_y5.trans (b.mono (by omega))
  replace t_vw := t_vw.below b (by omega)
  replace t_xb_L := t_xb_L.below b (by omega)
  replace o_xb_L := o_xb_L.kept (.of_below b (by omega))
  replace t_vg := t_vg.below b (by omega)
  replace o_vg := o_vg.keptBlock fun g hg => b.block g (by have := l_vg g hg; omega)
  clear b
  have t_vt := o_vt.rows
  go_wp2_with fail
  refine (eqIntSS_any _ _ _ _ _ _ _ _ y6 t_xb_L t_vt).mono ?_
  rw [eqLL_same]
  rintro e y7 ⟨rfl, q⟩
  have b := q.below y6.heap.size
  clear q
  have s_y7 := b.size
  have B_y7 := B_y6.trans (b.mono (by omega))
  replace t_vw := t_vw.below b (by omega)
  replace t_xb_L := t_xb_L.below b (by omega)
  replace o_xb_L := o_xb_L.kept (.of_below b (by omega))
  replace t_vg := t_vg.below b (by omega)
  replace o_vg := o_vg.keptBlock fun g hg => b.block g (by have := l_vg g hg; omega)
  replace t_vt := t_vt.below b (by omega)
  replace o_vt := o_vt.kept (.of_below b (by omega))
  clear b
  clear t_vt o_vt
  go_wp2_with fail
  refine (markIntSS_any y2.heap.size y3.heap.size _ L (1) y7 o_xb_L (by omega) (by omega)).mono ?_
  rintro e y8 ⟨rfl, om, bm⟩
  have s_y8 := bm.size
  have B_y8 := B_y7.trans (bm.below.mono (by omega))
  replace t_vw := t_vw.kept (bm.kept (by omega))
  replace t_vg := t_vg.kept (bm.kept (by omega))
  replace o_vg := o_vg.keptBlock fun g hg => bm.block g (by have := l_vg g hg; omega)
  clear om bm
  clear t_xb_L o_xb_L
  have hk9 : ¬ ((1 + tot L : Nat) : Int) < 0 := by omega
  go_wp2_with fail
  refine (eqIntS_any _ _ _ _ _ _ _ _ y8 t_vg t_vw).mono ?_
  rw [eqL_same]
  rintro e y9 ⟨rfl, q⟩
  have b := q.below y8.heap.size
  clear q
  have s_y9 := b.size
  have B_y9 := B_y8.trans (b.mono (by omega))
  replace t_vw := t_vw.below b (by omega)
  replace t_vg := t_vg.below b (by omega)
  replace o_vg := o_vg.keptBlock fun g hg => b.block g (by have := l_vg g hg; omega)
  clear b
  go_wp2_with fail
  refine (markIntS_any y3.heap.size y4.heap.size _ R (1) y9 o_vg (fun g hg => (l_vg g hg).2) (by omega) (by omega)).mono ?_
  rintro e y10 ⟨rfl, om, bm, hkm⟩
  have s_y10 := bm.size
  have B_y10 := B_y9.trans (bm.below.mono (by omega))
  replace t_vw := t_vw.kept (bm.kept (by omega))
  clear bm t_vg o_vg hkm
  have o_vg := om
  clear om
  have t_vg := o_vg.ints_at (fun g hg => (l_vg g hg).2)
  go_wp2_with fail
  refine (heldIntS_any _ _ _ _ 1 y10 t_vg (by rw [upL_len]; omega) (by omega) (by omega)).mono ?_
  rw [show heldL (upL 1 R.length) 1 = ((1 + R.length : Nat) : Int) by have := heldL_upL 1 R.length []; simpa [heldL] using this]
  rintro e w' ⟨rfl, rfl⟩
  go_wp2_with fail
  refine (toIntSS_any 0 w.heap.size _ L y10 (h_L.below B_y10 (Nat.le_refl _)) (by omega) ht_L hp_L).mono ?_
  rintro e y11 ⟨xc_L, rfl, o_xc_L, b⟩
  have s_y11 := b.size
  have B_y11 := B_y10.trans (b.mono (by omega))
  replace t_vw := t_vw.below b (by omega)
  replace t_vg := t_vg.below b (by omega)
  replace o_vg := o_vg.keptBlock fun g hg => b.block g (by have := l_vg g hg; omega)
  clear b
  have t_xc_L := o_xc_L.rows
  go_wp2_with fail
  refine (BestOrder_any _ _ _ L y11 t_xc_L (by omega) ).mono ?_
  rw [← HR.out]
  rintro e y12 ⟨vh, rfl, o_vh, b⟩
  have s_y12 := b.size
  have B_y12 := B_y11.trans (b.mono (by omega))
  replace t_vw := t_vw.below b (by omega)
  replace t_vg := t_vg.below b (by omega)
  replace o_vg := o_vg.keptBlock fun g hg => b.block g (by have := l_vg g hg; omega)
  replace t_xc_L := t_xc_L.below b (by omega)
  replace o_xc_L := o_xc_L.kept (.of_below b (by omega))
  clear b
  have l_vh := o_vh.lt
  have t_vh := o_vh.ints
  clear t_xc_L o_xc_L
  go_wp2_with fail
  refine (eqIntS_any _ _ _ _ _ _ _ _ y12 t_vh t_vw).mono ?_
  rw [eqL_same]
  rintro e y13 ⟨rfl, q⟩
  have b := q.below y12.heap.size
  clear q
  have s_y13 := b.size
  have B_y13 := B_y12.trans (b.mono (by omega))
  replace t_vw := t_vw.below b (by omega)
  replace t_vg := t_vg.below b (by omega)
  replace o_vg := o_vg.keptBlock fun g hg => b.block g (by have := l_vg g hg; omega)
  replace t_vh := t_vh.below b (by omega)
  replace o_vh := o_vh.keptBlock fun g hg => b.block g (by have := l_vh g hg; omega)
  clear b
  go_wp2_with fail
  refine (heldIntS_any _ _ _ _ 1 y13 t_vg (by rw [upL_len]; omega) (by omega) (by omega)).mono ?_
  rw [show heldL (upL 1 R.length) 1 = ((1 + R.length : Nat) : Int) by have := heldL_upL 1 R.length []; simpa [heldL] using this]
  rintro e w' ⟨rfl, rfl⟩
  go_wp2
  go_ret
  exact ⟨rfl, B_y13⟩
end Go.Proofs.Yteckjiaaikdghaa
