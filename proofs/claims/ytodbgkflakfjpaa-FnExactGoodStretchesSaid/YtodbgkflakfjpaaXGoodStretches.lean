/-
  Lemmas and contracts of single functions of this program, used by the proofs of its laws: what each call returns and what becomes of memory. Conditions: the hypotheses of each theorem.
-/
import Derived.Test.YtodbgkflakfjpaaReelN
import Derived.Test.YtodbgkflakfjpaaIntsS
import Derived.Test.YtodbgkflakfjpaaBoolB
import Derived.Test.YtodbgkflakfjpaaBoolC
namespace Go.Proofs.Ytodbgkflakfjpaa
open Go.RowKit
attribute [local go_sem ↓] Go.wp_at_zero Go.wp_at_succ

set_option maxRecDepth 100000 in
set_option maxHeartbeats 4000000 in
theorem FnExactGoodStretches_walk (W L : Int) (v_ds : Value) (ds : List (List Int)) (l : Int) (r : Int) (m : Int) (w : World) (h_ds : TS w 0 w.heap.size 5 v_ds ds) (_i_l : I64 l) (_i_r : I64 r) (_i_m : I64 m) :
    Calls Try.prog 3 #[.agg #[.int .i64 W, .int .i64 L, v_ds], .int .i64 l, .int .i64 r, .int .i64 m] w fun e w' => e = .returned (.bool true) ∧ Below w.heap.size w w' := by
  obtain ⟨A_ds, c_ds, rfl, hc_ds, hm_ds⟩ := h_ds.form
  obtain ⟨R, hR⟩ : ∃ R, R = gsL W L ds l r m := ⟨_, rfl⟩
  have HR := Lib.hid hR
  clear hR
  have hle0 := Nat.le_refl w.heap.size
  have Hs := Lib.hid (show ∃ y1, y1 = (w.alloc (.cells #[.int .i64 W, .int .i64 L, .slice A_ds ds.length c_ds] 24)) ∧ Below w.heap.size w y1 ∧ y1.cell? ⟨w.heap.size, 0, none⟩ = some (.int .i64 W) ∧ y1.cell? ⟨w.heap.size, 1, none⟩ = some (.int .i64 L) ∧ y1.cell? ⟨w.heap.size, 2, none⟩ = some (.slice A_ds ds.length c_ds) ∧ TS y1 0 w.heap.size 5 (.slice A_ds ds.length c_ds) ds ∧ w.heap.size < y1.heap.size from by
    have hb : Below w.heap.size w (w.alloc (.cells #[.int .i64 W, .int .i64 L, .slice A_ds ds.length c_ds] 24)) := (Below.refl _ _).alloc (Nat.le_refl _) _
    exact ⟨_, rfl, hb, by go_simp, by go_simp, by go_simp, h_ds.below hb hle0, by simp⟩)
  have bw_0 := Below.refl w.heap.size w
  go_enter Try.func3, Try.ntmps3
  go_wp2_with fail
  obtain ⟨y1, hw1, hb0, c00, c01, c02, hT0, hz⟩ := Hs.out
  rw [← hw1]
  clear hw1 Hs
  rename Below w.heap.size w y1 => B_y1
  clear hT0 hle0
  refine (szReel_any W L _ ds.length _ y1 (by omega)).mono ?_
  by_cases l_ds : ds.length ≤ 1048576
  rotate_left
  · rintro e y2 ⟨hr, b⟩
    rw [if_neg l_ds] at hr
    subst hr
    replace c00 := keepB b c00; replace c01 := keepB b c01; replace c02 := keepB b c02
    go_wp2
    go_ret
    exact ⟨rfl, B_y1.trans (b.mono (by omega))⟩
  rintro e y2 ⟨hr, b⟩
  rw [if_pos l_ds] at hr
  subst hr
  have s_y2 := b.size
  have B_y2 := B_y1.trans (b.mono (by omega))
  replace c00 := keepB b c00; replace c01 := keepB b c01; replace c02 := keepB b c02
  clear b
  have hRl : R.length ≤ 401 := by rw [HR.out]; exact gsL_len W L ds l r m
  go_wp2_with fail
  refine (toReel_any 0 w.heap.size W L _ ds y2 (h_ds.below B_y2 (Nat.le_refl _)) (by omega) (by omega)).mono ?_
  rintro e y3 ⟨xa_ds, rfl, oxa_ds, b⟩
  have lxa_ds := oxa_ds.lt
  have s_y3 := b.size
  have B_y3 := B_y2.trans (b.mono (by omega))
  replace c00 := keepB b c00; replace c01 := keepB b c01; replace c02 := keepB b c02
  clear b
  go_wp2_with fail
  refine (sGoodStretches_any _ _ W L _ ds l r m y3 oxa_ds.ts (by omega)).mono ?_
  rw [← HR.out]
  rintro e y4 ⟨vw, rfl, ovw, b⟩
  have lvw := ovw.lt
  have s_y4 := b.size
  have B_y4 := B_y3.trans (b.mono (by omega))
  replace c00 := keepB b c00; replace c01 := keepB b c01; replace c02 := keepB b c02
  replace oxa_ds := oxa_ds.kept (.of_below b (Nat.le_refl _))
  clear b
  clear oxa_ds
  go_wp2_with fail
  refine (toReel_any 0 w.heap.size W L _ ds y4 (h_ds.below B_y4 (Nat.le_refl _)) (by omega) (by omega)).mono ?_
  rintro e y5 ⟨xb_ds, rfl, oxb_ds, b⟩
  have lxb_ds := oxb_ds.lt
  have s_y5 := b.size
  have B_y5 := B_y4.trans (b.mono (by omega))
  replace c00 := keepB b c00; replace c01 := keepB b c01; replace c02 := keepB b c02
  replace ovw := ovw.kept (.of_below b (Nat.le_refl _))
  clear b
  obtain ⟨A_xb_ds, cc_xb_ds, rfl, hcc_xb_ds⟩ := oxb_ds.form
  go_wp2_with fail
  obtain ⟨y6, hw1⟩ : ∃ y6, y6 = y5.alloc (.cells #[.int .i64 W, .int .i64 L, .slice A_xb_ds ds.length cc_xb_ds] 30) := ⟨_, rfl⟩
  have xb0 : y6.cell? ⟨y5.heap.size, 0, none⟩ = some (.int .i64 W) := by rw [hw1]; go_simp
  have xb1 : y6.cell? ⟨y5.heap.size, 1, none⟩ = some (.int .i64 L) := by rw [hw1]; go_simp
  have xb2 : y6.cell? ⟨y5.heap.size, 2, none⟩ = some (.slice A_xb_ds ds.length cc_xb_ds) := by rw [hw1]; go_simp
  have bxb : Below y5.heap.size y5 y6 := by rw [hw1]; exact (Below.refl _ _).alloc (Nat.le_refl _) _
  have zxb : y5.heap.size < y6.heap.size := by rw [hw1]; simp
  rw [← hw1]
  clear hw1
  have s_y6 := bxb.size
  have B_y6 := B_y5.trans (bxb.mono (by omega))
  replace c00 := keepB bxb c00; replace c01 := keepB bxb c01; replace c02 := keepB bxb c02
  replace ovw := ovw.kept (.of_below bxb (Nat.le_refl _))
  replace oxb_ds := oxb_ds.kept (.of_below bxb (Nat.le_refl _))
  clear bxb
  go_wp2_with fail
  refine (GoodStretches_any _ _ W L _ ds l r m y6 oxb_ds.ts (by omega)).mono ?_
  rw [← HR.out]
  rintro e y7 ⟨vg, rfl, ovg, b⟩
  have lvg := ovg.lt
  have s_y7 := b.size
  have B_y7 := B_y6.trans (b.mono (by omega))
  replace c00 := keepB b c00; replace c01 := keepB b c01; replace c02 := keepB b c02; replace xb0 := keepB b xb0; replace xb1 := keepB b xb1; replace xb2 := keepB b xb2
  replace ovw := ovw.kept (.of_below b (Nat.le_refl _))
  replace oxb_ds := oxb_ds.kept (.of_below b (Nat.le_refl _))
  clear b
  go_wp2_with fail
  refine (eqStretchS_same _ _ _ _ _ _ R y7 ovg.ts (by omega) ovw.ts (by omega)).mono ?_
  rintro e y8 ⟨rfl, b⟩
  have s_y8 := b.size
  have B_y8 := B_y7.trans (b.mono (by omega))
  replace c00 := keepB b c00; replace c01 := keepB b c01; replace c02 := keepB b c02; replace xb0 := keepB b xb0; replace xb1 := keepB b xb1; replace xb2 := keepB b xb2
  replace ovw := ovw.kept (.of_below b (Nat.le_refl _))
  replace oxb_ds := oxb_ds.kept (.of_below b (Nat.le_refl _))
  replace ovg := ovg.kept (.of_below b (Nat.le_refl _))
  clear b
  go_wp2_with fail
  go_region_held3 (fun w' => w'.cell? ⟨y5.heap.size, 0, none⟩ = some (.int .i64 W) ∧ w'.cell? ⟨y5.heap.size, 1, none⟩ = some (.int .i64 L) ∧ w'.cell? ⟨y5.heap.size, 2, none⟩ = some (.slice A_xb_ds ds.length cc_xb_ds) ∧ w'.cell? ⟨w.heap.size, 0, none⟩ = some (.int .i64 W) ∧ w'.cell? ⟨w.heap.size, 1, none⟩ = some (.int .i64 L) ∧ w'.cell? ⟨w.heap.size, 2, none⟩ = some (.slice A_ds ds.length c_ds)) (first | go_keep | (go_split_ands; refine ⟨?_, ?_, ?_, ?_, ?_, ?_⟩ <;> first | exact keepB bx5 (by assumption) | exact keepB bx4 (by assumption) | exact keepB bx3 (by assumption) | exact keepB bx2 (by assumption) | exact keepB bx1 (by assumption))) (first | (go_at_call 17; refine (toReel_any 0 w.heap.size W L _ ds _ ((h_ds.below B_y8 (Nat.le_refl _)).drewN 1) (by simp; omega) (by omega)).mono ?_; rintro e y9 ⟨vt, rfl, ot, bx1⟩) | (go_at_call 20; refine (eqReel_same W L _ _ _ _ _ _ ds _ ((oxb_ds.ts.drewN 1).below bx1 (by simp)) (by have := bx1.size; simp at this; omega) ot.ts (Nat.le_refl _)).mono ?_; rintro e y10 ⟨rfl, bx2⟩))
  have b := (of_drew bx1).trans (bx2.mono (of_drew bx1).size)
  clear bx1 bx2 ot
  have s_y10 := b.size
  have B_y10 := B_y8.trans (b.mono (by omega))
  replace c00 := keepB b c00; replace c01 := keepB b c01; replace c02 := keepB b c02; replace xb0 := keepB b xb0; replace xb1 := keepB b xb1; replace xb2 := keepB b xb2
  replace ovw := ovw.kept (.of_below b (Nat.le_refl _))
  replace oxb_ds := oxb_ds.kept (.of_below b (Nat.le_refl _))
  replace ovg := ovg.kept (.of_below b (Nat.le_refl _))
  clear b
  go_wp2_with fail
  refine (markReel_any _ W L _ ds (1) y10 oxb_ds (by omega) (by omega) (by omega)).mono ?_
  rintro e y11 ⟨rfl, om, bm, hkm⟩
  have sm := bm.size
  clear om
  have s_y11 := sm
  clear sm
  have B_y11 := B_y10.trans (bm.mono (by omega))
  clear xb0 xb1 xb2
  replace c00 := keepD hkm (Nat.lt_of_lt_of_le hz (by omega)) (fun e => by have := (lxb_ds _ e).1; simp at this; omega) c00
  replace c01 := keepD hkm (Nat.lt_of_lt_of_le hz (by omega)) (fun e => by have := (lxb_ds _ e).1; simp at this; omega) c01
  replace c02 := keepD hkm (Nat.lt_of_lt_of_le hz (by omega)) (fun e => by have := (lxb_ds _ e).1; simp at this; omega) c02
  clear oxb_ds
  replace ovw := ovw.apart hkm (fun g a b => by have := lvw g a; have := lxb_ds g b; omega)
  replace ovg := ovg.apart hkm (fun g a b => by have := lvg g a; have := lxb_ds g b; omega)
  clear bm hkm
  go_wp2_with fail
  refine (eqStretchS_same _ _ _ _ _ _ R y11 ovg.ts (by omega) ovw.ts (by omega)).mono ?_
  rintro e y12 ⟨rfl, b⟩
  have s_y12 := b.size
  have B_y12 := B_y11.trans (b.mono (by omega))
  replace c00 := keepB b c00; replace c01 := keepB b c01; replace c02 := keepB b c02
  replace ovw := ovw.kept (.of_below b (Nat.le_refl _))
  replace ovg := ovg.kept (.of_below b (Nat.le_refl _))
  clear b
  go_wp2_with fail
  refine (markStretchS_any _ _ R 1 y12 ovg (by omega) (by omega)).mono ?_
  rintro e y13 ⟨rfl, om, bm, hkm0, hsz⟩
  have hkm : ∀ b, b < y12.heap.size → some b ≠ _ → y13.heap[b]? = y12.heap[b]? := fun b _ hne => hkm0 b hne
  clear hkm0 hsz
  have s_y13 := bm.size
  have B_y13 := B_y12.trans (bm.mono (by omega))
  replace c00 := keepD hkm (Nat.lt_of_lt_of_le hz (by omega)) (fun e => by have := (lvg _ e).1; simp at this; omega) c00
  replace c01 := keepD hkm (Nat.lt_of_lt_of_le hz (by omega)) (fun e => by have := (lvg _ e).1; simp at this; omega) c01
  replace c02 := keepD hkm (Nat.lt_of_lt_of_le hz (by omega)) (fun e => by have := (lvg _ e).1; simp at this; omega) c02
  replace ovw := ovw.apart hkm (fun g a b => by have := lvw g a; have := lvg g b; omega)
  clear ovg bm hkm
  have ovg := om
  clear om
  go_wp2_with fail
  refine (heldStretchS_up _ _ _ 1 R.length y13 ovg.ts (by omega) (by omega)).mono ?_
  rintro e z ⟨rfl, rfl⟩
  go_wp2_with fail
  refine (toReel_any 0 w.heap.size W L _ ds y13 (h_ds.below B_y13 (Nat.le_refl _)) (by omega) (by omega)).mono ?_
  rintro e y15 ⟨xc_ds, rfl, oxc_ds, b⟩
  have lxc_ds := oxc_ds.lt
  have s_y15 := b.size
  have B_y15 := B_y13.trans (b.mono (by omega))
  replace c00 := keepB b c00; replace c01 := keepB b c01; replace c02 := keepB b c02
  replace ovw := ovw.kept (.of_below b (Nat.le_refl _))
  replace ovg := ovg.kept (.of_below b (Nat.le_refl _))
  clear b
  go_wp2_with fail
  refine (GoodStretches_any _ _ W L _ ds l r m y15 oxc_ds.ts (by omega)).mono ?_
  rw [← HR.out]
  rintro e y16 ⟨vh, rfl, ovh, b⟩
  have lvh := ovh.lt
  have s_y16 := b.size
  have B_y16 := B_y15.trans (b.mono (by omega))
  replace c00 := keepB b c00; replace c01 := keepB b c01; replace c02 := keepB b c02
  replace ovw := ovw.kept (.of_below b (Nat.le_refl _))
  replace ovg := ovg.kept (.of_below b (Nat.le_refl _))
  replace oxc_ds := oxc_ds.kept (.of_below b (Nat.le_refl _))
  clear b
  clear oxc_ds
  go_wp2_with fail
  refine (eqStretchS_same _ _ _ _ _ _ R y16 ovh.ts (by omega) ovw.ts (by omega)).mono ?_
  rintro e y17 ⟨rfl, b⟩
  have s_y17 := b.size
  have B_y17 := B_y16.trans (b.mono (by omega))
  replace c00 := keepB b c00; replace c01 := keepB b c01; replace c02 := keepB b c02
  replace ovw := ovw.kept (.of_below b (Nat.le_refl _))
  replace ovg := ovg.kept (.of_below b (Nat.le_refl _))
  replace ovh := ovh.kept (.of_below b (Nat.le_refl _))
  clear b
  go_wp2_with fail
  refine (heldStretchS_up _ _ _ 1 R.length y17 ovg.ts (by omega) (by omega)).mono ?_
  rintro e z ⟨rfl, rfl⟩
  go_wp2
  go_ret
  exact ⟨rfl, B_y17⟩
end Go.Proofs.Ytodbgkflakfjpaa
