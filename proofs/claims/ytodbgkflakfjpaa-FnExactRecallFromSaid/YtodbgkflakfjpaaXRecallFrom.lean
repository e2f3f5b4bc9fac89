/-
  Lemmas and contracts of single functions of this program, used by the proofs of its laws: what each call returns and what becomes of memory. Conditions: the hypotheses of each theorem.
-/
import Derived.Test.YtodbgkflakfjpaaReelN
import Derived.Test.YtodbgkflakfjpaaIntsS
import Derived.Test.YtodbgkflakfjpaaRecC
namespace Go.Proofs.Ytodbgkflakfjpaa
open Go.RowKit
attribute [local go_sem ↓] Go.wp_at_zero Go.wp_at_succ

set_option maxRecDepth 100000 in
set_option maxHeartbeats 4000000 in
theorem FnExactRecallFrom_walk (W L : Int) (v_ds : Value) (ds : List (List Int)) (v_ps : Value) (ps : List (List Int)) (i : Int) (m : Int) (w : World) (h_ds : TS w 0 w.heap.size 5 v_ds ds) (h_ps : TS w 0 w.heap.size 4 v_ps ps) (_i_i : I64 i) (_i_m : I64 m) :
    Calls Try.prog 7 #[.agg #[.int .i64 W, .int .i64 L, v_ds], v_ps, .int .i64 i, .int .i64 m] w fun e w' => e = .returned (.bool true) ∧ Below w.heap.size w w' := by
  obtain ⟨A_ds, c_ds, rfl, hc_ds, hm_ds⟩ := h_ds.form
  obtain ⟨A_ps, c_ps, rfl, hc_ps, hm_ps⟩ := h_ps.form
  obtain ⟨R, hR⟩ : ∃ R, R = rcL W L ds ps i m := ⟨_, rfl⟩
  have HR := Lib.hid hR
  clear hR
  have hle0 := Nat.le_refl w.heap.size
  have Hs := Lib.hid (show ∃ y1, y1 = (w.alloc (.cells #[.int .i64 W, .int .i64 L, .slice A_ds ds.length c_ds] 24)) ∧ Below w.heap.size w y1 ∧ y1.cell? ⟨w.heap.size, 0, none⟩ = some (.int .i64 W) ∧ y1.cell? ⟨w.heap.size, 1, none⟩ = some (.int .i64 L) ∧ y1.cell? ⟨w.heap.size, 2, none⟩ = some (.slice A_ds ds.length c_ds) ∧ TS y1 0 w.heap.size 5 (.slice A_ds ds.length c_ds) ds ∧ w.heap.size < y1.heap.size from by
    have hb : Below w.heap.size w (w.alloc (.cells #[.int .i64 W, .int .i64 L, .slice A_ds ds.length c_ds] 24)) := (Below.refl _ _).alloc (Nat.le_refl _) _
    exact ⟨_, rfl, hb, by go_simp, by go_simp, by go_simp, h_ds.below hb hle0, by simp⟩)
  have bw_0 := Below.refl w.heap.size w
  go_enter Try.func7, Try.ntmps7
  go_wp2_with fail
  obtain ⟨y1, hw1, hb0, c00, c01, c02, hT0, hz⟩ := Hs.out
  rw [← hw1]
  clear hw1 Hs
  rename Below w.heap.size w y1 => B_y1
  clear hT0 hle0
  refine (szReel_any W L _ ds.length _ y1 (by omega)).mono ?_
  by_cases l_ds : ds.length ≤ 1048576
  rotate_left
  · rintro e y2 ⟨hr, b⟩
    rw [if_neg l_ds] at hr
    subst hr
    replace c00 := keepB b c00; replace c01 := keepB b c01; replace c02 := keepB b c02
    go_wp2
    go_ret
    exact ⟨rfl, B_y1.trans (b.mono (by omega))⟩
  rintro e y2 ⟨hr, b⟩
  rw [if_pos l_ds] at hr
  subst hr
  have s_y2 := b.size
  have B_y2 := B_y1.trans (b.mono (by omega))
  replace c00 := keepB b c00; replace c01 := keepB b c01; replace c02 := keepB b c02
  clear b
  go_wp2_with fail
  by_cases l_ps : ps.length ≤ 1048576 - ds.length
  rotate_left
  · refine (szPartS_neg _ ps.length _ _ _ (by omega) (by omega)).mono ?_
    rintro e z ⟨rfl, rfl⟩
    go_wp2
    go_ret
    exact ⟨rfl, B_y2⟩
  refine (szPartS_any _ ps.length _ _ _ l_ps (by omega)).mono ?_
  rintro e z ⟨rfl, rfl⟩
  have hRl : R.length ≤ 1048576 := by rw [HR.out]; exact rcL_len W L ds ps i m (by omega)
  go_wp2_with fail
  refine (toReel_any 0 w.heap.size W L _ ds y2 (h_ds.below B_y2 (Nat.le_refl _)) (by omega) (by omega)).mono ?_
  rintro e y3 ⟨xa_ds, rfl, oxa_ds, b⟩
  have lxa_ds := oxa_ds.lt
  have s_y3 := b.size
  have B_y3 := B_y2.trans (b.mono (by omega))
  replace c00 := keepB b c00; replace c01 := keepB b c01; replace c02 := keepB b c02
  clear b
  go_wp2_with fail
  refine (toPartS_any 0 w.heap.size _ ps y3 (h_ps.below B_y3 (Nat.le_refl _)) (by omega) (by omega)).mono ?_
  rintro e y4 ⟨xa_ps, rfl, oxa_ps, b⟩
  have lxa_ps := oxa_ps.lt
  have s_y4 := b.size
  have B_y4 := B_y3.trans (b.mono (by omega))
  replace c00 := keepB b c00; replace c01 := keepB b c01; replace c02 := keepB b c02
  replace oxa_ds := oxa_ds.kept (.of_below b (Nat.le_refl _))
  clear b
  go_wp2_with fail
  refine (sRecallFrom_any _ _ _ _ W L _ _ ds ps i m y4 oxa_ds.ts (by omega) oxa_ps.ts (by omega)).mono ?_
  rw [← HR.out]
  rintro e y5 ⟨vw, rfl, ovw, b⟩
  have lvw := ovw.lt
  have s_y5 := b.size
  have B_y5 := B_y4.trans (b.mono (by omega))
  replace c00 := keepB b c00; replace c01 := keepB b c01; replace c02 := keepB b c02
  replace oxa_ds := oxa_ds.kept (.of_below b (Nat.le_refl _))
  replace oxa_ps := oxa_ps.kept (.of_below b (Nat.le_refl _))
  clear b
  clear oxa_ds oxa_ps
  go_wp2_with fail
  refine (toReel_any 0 w.heap.size W L _ ds y5 (h_ds.below B_y5 (Nat.le_refl _)) (by omega) (by omega)).mono ?_
  rintro e y6 ⟨xb_ds, rfl, oxb_ds, b⟩
  have lxb_ds := oxb_ds.lt
  have s_y6 := b.size
  have B_y6 := B_y5.trans (b.mono (by omega))
  replace c00 := keepB b c00; replace c01 := keepB b c01; replace c02 := keepB b c02
  replace ovw := ovw.kept (.of_below b (Nat.le_refl _))
  clear b
  obtain ⟨A_xb_ds, cc_xb_ds, rfl, hcc_xb_ds⟩ := oxb_ds.form
  go_wp2_with fail
  obtain ⟨y7, hw1⟩ : ∃ y7, y7 = y6.alloc (.cells #[.int .i64 W, .int .i64 L, .slice A_xb_ds ds.length cc_xb_ds] 30) := ⟨_, rfl⟩
  have xb0 : y7.cell? ⟨y6.heap.size, 0, none⟩ = some (.int .i64 W) := by rw [hw1]; go_simp
  have xb1 : y7.cell? ⟨y6.heap.size, 1, none⟩ = some (.int .i64 L) := by rw [hw1]; go_simp
  have xb2 : y7.cell? ⟨y6.heap.size, 2, none⟩ = some (.slice A_xb_ds ds.length cc_xb_ds) := by rw [hw1]; go_simp
  have bxb : Below y6.heap.size y6 y7 := by rw [hw1]; exact (Below.refl _ _).alloc (Nat.le_refl _) _
  have zxb : y6.heap.size < y7.heap.size := by rw [hw1]; simp
  rw [← hw1]
  clear hw1
  have s_y7 := bxb.size
  have B_y7 := B_y6.trans (bxb.mono (by omega))
  replace c00 := keepB bxb c00; replace c01 := keepB bxb c01; replace c02 := keepB bxb c02
  replace ovw := ovw.kept (.of_below bxb (Nat.le_refl _))
  replace oxb_ds := oxb_ds.kept (.of_below bxb (Nat.le_refl _))
  clear bxb
  go_wp2_with fail
  refine (toPartS_any 0 w.heap.size _ ps y7 (h_ps.below B_y7 (Nat.le_refl _)) (by omega) (by omega)).mono ?_
  rintro e y8 ⟨xb_ps, rfl, oxb_ps, b⟩
  have lxb_ps := oxb_ps.lt
  have s_y8 := b.size
  have B_y8 := B_y7.trans (b.mono (by omega))
  replace c00 := keepB b c00; replace c01 := keepB b c01; replace c02 := keepB b c02; replace xb0 := keepB b xb0; replace xb1 := keepB b xb1; replace xb2 := keepB b xb2
  replace ovw := ovw.kept (.of_below b (Nat.le_refl _))
  replace oxb_ds := oxb_ds.kept (.of_below b (Nat.le_refl _))
  clear b
  go_wp2_with fail
  refine (RecallFrom_any _ _ _ _ W L _ _ ds ps i m y8 oxb_ds.ts (by omega) oxb_ps.ts (by omega)).mono ?_
  rw [← HR.out]
  rintro e y9 ⟨vg, rfl, ovg, b⟩
  have lvg := ovg.lt
  have s_y9 := b.size
  have B_y9 := B_y8.trans (b.mono (by omega))
  replace c00 := keepB b c00; replace c01 := keepB b c01; replace c02 := keepB b c02; replace xb0 := keepB b xb0; replace xb1 := keepB b xb1; replace xb2 := keepB b xb2
  replace ovw := ovw.kept (.of_below b (Nat.le_refl _))
  replace oxb_ds := oxb_ds.kept (.of_below b (Nat.le_refl _))
  replace oxb_ps := oxb_ps.kept (.of_below b (Nat.le_refl _))
  clear b
  go_wp2_with fail
  refine (eqIntS_any _ _ _ _ _ _ _ _ y9 ovg.ints ovw.ints).mono ?_
  rw [eqL_same]
  rintro e y10 ⟨rfl, q⟩
  have b := q.below y9.heap.size
  have s_y10 := b.size
  have B_y10 := B_y9.trans (b.mono (by omega))
  replace c00 := keepB b c00; replace c01 := keepB b c01; replace c02 := keepB b c02; replace xb0 := keepB b xb0; replace xb1 := keepB b xb1; replace xb2 := keepB b xb2
  replace ovw := ovw.kept (.of_below b (Nat.le_refl _))
  replace oxb_ds := oxb_ds.kept (.of_below b (Nat.le_refl _))
  replace oxb_ps := oxb_ps.kept (.of_below b (Nat.le_refl _))
  replace ovg := ovg.kept (.of_below b (Nat.le_refl _))
  clear b q
  go_wp2_with fail
  go_region_held3 (fun w' => w'.cell? ⟨y6.heap.size, 0, none⟩ = some (.int .i64 W) ∧ w'.cell? ⟨y6.heap.size, 1, none⟩ = some (.int .i64 L) ∧ w'.cell? ⟨y6.heap.size, 2, none⟩ = some (.slice A_xb_ds ds.length cc_xb_ds) ∧ w'.cell? ⟨w.heap.size, 0, none⟩ = some (.int .i64 W) ∧ w'.cell? ⟨w.heap.size, 1, none⟩ = some (.int .i64 L) ∧ w'.cell? ⟨w.heap.size, 2, none⟩ = some (.slice A_ds ds.length c_ds)) (first | go_keep | (go_split_ands; refine ⟨?_, ?_, ?_, ?_, ?_, ?_⟩ <;> first | exact keepB bx5 (by assumption) | exact keepB bx4 (by assumption) | exact keepB bx3 (by assumption) | exact keepB bx2 (by assumption) | exact keepB bx1 (by assumption))) (first | (go_at_call 17; refine (toReel_any 0 w.heap.size W L _ ds _ ((h_ds.below B_y10 (Nat.le_refl _)).drewN 1) (by simp; omega) (by omega)).mono ?_; rintro e y11 ⟨vt, rfl, ot, bx1⟩) | (go_at_call 20; refine (eqReel_same W L _ _ _ _ _ _ ds _ ((oxb_ds.ts.drewN 1).below bx1 (by simp)) (by have := bx1.size; simp at this; omega) ot.ts (Nat.le_refl _)).mono ?_; rintro e y12 ⟨rfl, bx2⟩))
  have b := (of_drew bx1).trans (bx2.mono (of_drew bx1).size)
  clear bx1 bx2 ot
  have s_y12 := b.size
  have B_y12 := B_y10.trans (b.mono (by omega))
  replace c00 := keepB b c00; replace c01 := keepB b c01; replace c02 := keepB b c02; replace xb0 := keepB b xb0; replace xb1 := keepB b xb1; replace xb2 := keepB b xb2
  replace ovw := ovw.kept (.of_below b (Nat.le_refl _))
  replace oxb_ds := oxb_ds.kept (.of_below b (Nat.le_refl _))
  replace oxb_ps := oxb_ps.kept (.of_below b (Nat.le_refl _))
  replace ovg := ovg.kept (.of_below b (Nat.le_refl _))
  clear b
  go_wp2_with fail
  refine (toPartS_any 0 w.heap.size _ ps y12 (h_ps.below B_y12 (Nat.le_refl _)) (by omega) (by omega)).mono ?_
  rintro e y13 ⟨vt, rfl, ot, b⟩
  have s_y13 := b.size
  have B_y13 := B_y12.trans (b.mono (by omega))
  replace c00 := keepB b c00; replace c01 := keepB b c01; replace c02 := keepB b c02; replace xb0 := keepB b xb0; replace xb1 := keepB b xb1; replace xb2 := keepB b xb2
  replace ovw := ovw.kept (.of_below b (Nat.le_refl _))
  replace oxb_ds := oxb_ds.kept (.of_below b (Nat.le_refl _))
  replace oxb_ps := oxb_ps.kept (.of_below b (Nat.le_refl _))
  replace ovg := ovg.kept (.of_below b (Nat.le_refl _))
  clear b
  go_wp2_with fail
  refine (eqPartS_same _ _ _ _ _ _ ps y13 oxb_ps.ts (by omega) ot.ts (by omega)).mono ?_
  rintro e y14 ⟨rfl, b⟩
  clear ot
  have s_y14 := b.size
  have B_y14 := B_y13.trans (b.mono (by omega))
  replace c00 := keepB b c00; replace c01 := keepB b c01; replace c02 := keepB b c02; replace xb0 := keepB b xb0; replace xb1 := keepB b xb1; replace xb2 := keepB b xb2
  replace ovw := ovw.kept (.of_below b (Nat.le_refl _))
  replace oxb_ds := oxb_ds.kept (.of_below b (Nat.le_refl _))
  replace oxb_ps := oxb_ps.kept (.of_below b (Nat.le_refl _))
  replace ovg := ovg.kept (.of_below b (Nat.le_refl _))
  clear b
  go_wp2_with fail
  refine (markReel_any _ W L _ ds (1) y14 oxb_ds (by omega) (by omega) (by omega)).mono ?_
  rintro e y15 ⟨rfl, om, bm, hkm⟩
  have sm := bm.size
  clear om
  have s_y15 := sm
  clear sm
  have B_y15 := B_y14.trans (bm.mono (by omega))
  clear xb0 xb1 xb2
  replace c00 := keepD hkm (Nat.lt_of_lt_of_le hz (by omega)) (fun e => by have := (lxb_ds _ e).1; simp at this; omega) c00
  replace c01 := keepD hkm (Nat.lt_of_lt_of_le hz (by omega)) (fun e => by have := (lxb_ds _ e).1; simp at this; omega) c01
  replace c02 := keepD hkm (Nat.lt_of_lt_of_le hz (by omega)) (fun e => by have := (lxb_ds _ e).1; simp at this; omega) c02
  clear oxb_ds
  replace ovw := ovw.apart hkm (fun g a b => by have := lvw g a; have := lxb_ds g b; omega)
  replace oxb_ps := oxb_ps.apart hkm (fun g a b => by have := lxb_ps g a; have := lxb_ds g b; omega)
  replace ovg := ovg.apart hkm (fun g a b => by have := lvg g a; have := lxb_ds g b; omega)
  clear bm hkm
  go_wp2_with fail
  refine (markPartS_any _ _ ps (1 + ds.length * 5) y15 oxb_ps (by omega) (by omega)).mono ?_
  rintro e y16 ⟨rfl, om, bm, hkm0, hsz⟩
  have sm := bm.size
  have hkm : ∀ b, b < y15.heap.size → some b ≠ _ → y16.heap[b]? = y15.heap[b]? := fun b _ hne => hkm0 b hne
  clear hkm0 hsz
  clear om
  have s_y16 := sm
  clear sm
  have B_y16 := B_y15.trans (bm.mono (by omega))
  replace c00 := keepD hkm (Nat.lt_of_lt_of_le hz (by omega)) (fun e => by have := (lxb_ps _ e).1; simp at this; omega) c00
  replace c01 := keepD hkm (Nat.lt_of_lt_of_le hz (by omega)) (fun e => by have := (lxb_ps _ e).1; simp at this; omega) c01
  replace c02 := keepD hkm (Nat.lt_of_lt_of_le hz (by omega)) (fun e => by have := (lxb_ps _ e).1; simp at this; omega) c02
  clear oxb_ps
  replace ovw := ovw.apart hkm (fun g a b => by have := lvw g a; have := lxb_ps g b; omega)
  replace ovg := ovg.apart hkm (fun g a b => by have := lvg g a; have := lxb_ps g b; omega)
  clear bm hkm
  go_wp2_with fail
  refine (eqIntS_any _ _ _ _ _ _ _ _ y16 ovg.ints ovw.ints).mono ?_
  rw [eqL_same]
  rintro e y17 ⟨rfl, q⟩
  have b := q.below y16.heap.size
  have s_y17 := b.size
  have B_y17 := B_y16.trans (b.mono (by omega))
  replace c00 := keepB b c00; replace c01 := keepB b c01; replace c02 := keepB b c02
  replace ovw := ovw.kept (.of_below b (Nat.le_refl _))
  replace ovg := ovg.kept (.of_below b (Nat.le_refl _))
  clear b q
  go_wp2_with fail
  refine (markIntS_any _ y17.heap.size _ R 1 y17 ovg (fun g hg => (ovg.lt g hg).2) (by omega) (by omega)).mono ?_
  rintro e y18 ⟨rfl, om, bm0, hkm0⟩
  have bm := bm0.below
  have hkm : ∀ b, b < y17.heap.size → some b ≠ _ → y18.heap[b]? = y17.heap[b]? := fun b _ hne => hkm0 b hne
  clear hkm0 bm0
  have s_y18 := bm.size
  have B_y18 := B_y17.trans (bm.mono (by omega))
  replace c00 := keepD hkm (Nat.lt_of_lt_of_le hz (by omega)) (fun e => by have := (lvg _ e).1; simp at this; omega) c00
  replace c01 := keepD hkm (Nat.lt_of_lt_of_le hz (by omega)) (fun e => by have := (lvg _ e).1; simp at this; omega) c01
  replace c02 := keepD hkm (Nat.lt_of_lt_of_le hz (by omega)) (fun e => by have := (lvg _ e).1; simp at this; omega) c02
  replace ovw := ovw.apart hkm (fun g a b => by have := lvw g a; have := lvg g b; omega)
  clear ovg bm hkm
  have ovg := om
  clear om
  go_wp2_with fail
  refine (heldIntS_any _ _ _ _ 1 y18 ovg.ints (by rw [upL_len]; omega) (by omega) (by omega)).mono ?_
  rw [show heldL (upL 1 R.length) 1 = ((1 + R.length : Nat) : Int) by have := heldL_upL 1 R.length []; simpa [heldL] using this]
  rintro e z ⟨rfl, rfl⟩
  go_wp2_with fail
  refine (toReel_any 0 w.heap.size W L _ ds y18 (h_ds.below B_y18 (Nat.le_refl _)) (by omega) (by omega)).mono ?_
  rintro e y20 ⟨xc_ds, rfl, oxc_ds, b⟩
  have lxc_ds := oxc_ds.lt
  have s_y20 := b.size
  have B_y20 := B_y18.trans (b.mono (by omega))
  replace c00 := keepB b c00; replace c01 := keepB b c01; replace c02 := keepB b c02
  replace ovw := ovw.kept (.of_below b (Nat.le_refl _))
  replace ovg := ovg.kept (.of_below b (Nat.le_refl _))
  clear b
  go_wp2_with fail
  refine (toPartS_any 0 w.heap.size _ ps y20 (h_ps.below B_y20 (Nat.le_refl _)) (by omega) (by omega)).mono ?_
  rintro e y21 ⟨xc_ps, rfl, oxc_ps, b⟩
  have lxc_ps := oxc_ps.lt
  have s_y21 := b.size
  have B_y21 := B_y20.trans (b.mono (by omega))
  replace c00 := keepB b c00; replace c01 := keepB b c01; replace c02 := keepB b c02
  replace ovw := ovw.kept (.of_below b (Nat.le_refl _))
  replace ovg := ovg.kept (.of_below b (Nat.le_refl _))
  replace oxc_ds := oxc_ds.kept (.of_below b (Nat.le_refl _))
  clear b
  go_wp2_with fail
  refine (RecallFrom_any _ _ _ _ W L _ _ ds ps i m y21 oxc_ds.ts (by omega) oxc_ps.ts (by omega)).mono ?_
  rw [← HR.out]
  rintro e y22 ⟨vh, rfl, ovh, b⟩
  have lvh := ovh.lt
  have s_y22 := b.size
  have B_y22 := B_y21.trans (b.mono (by omega))
  replace c00 := keepB b c00; replace c01 := keepB b c01; replace c02 := keepB b c02
  replace ovw := ovw.kept (.of_below b (Nat.le_refl _))
  replace ovg := ovg.kept (.of_below b (Nat.le_refl _))
  replace oxc_ds := oxc_ds.kept (.of_below b (Nat.le_refl _))
  replace oxc_ps := oxc_ps.kept (.of_below b (Nat.le_refl _))
  clear b
  clear oxc_ds oxc_ps
  go_wp2_with fail
  refine (eqIntS_any _ _ _ _ _ _ _ _ y22 ovh.ints ovw.ints).mono ?_
  rw [eqL_same]
  rintro e y23 ⟨rfl, q⟩
  have b := q.below y22.heap.size
  have s_y23 := b.size
  have B_y23 := B_y22.trans (b.mono (by omega))
  replace c00 := keepB b c00; replace c01 := keepB b c01; replace c02 := keepB b c02
  replace ovw := ovw.kept (.of_below b (Nat.le_refl _))
  replace ovg := ovg.kept (.of_below b (Nat.le_refl _))
  replace ovh := ovh.kept (.of_below b (Nat.le_refl _))
  clear b q
  go_wp2_with fail
  refine (heldIntS_any _ _ _ _ 1 y23 ovg.ints (by rw [upL_len]; omega) (by omega) (by omega)).mono ?_
  rw [show heldL (upL 1 R.length) 1 = ((1 + R.length : Nat) : Int) by have := heldL_upL 1 R.length []; simpa [heldL] using this]
  rintro e z ⟨rfl, rfl⟩
  go_wp2
  go_ret
  exact ⟨rfl, B_y23⟩
end Go.Proofs.Ytodbgkflakfjpaa
