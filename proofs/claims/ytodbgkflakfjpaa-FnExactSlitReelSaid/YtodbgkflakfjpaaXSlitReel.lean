/-
  Lemmas and contracts of single functions of this program, used by the proofs of its laws: what each call returns and what becomes of memory. Conditions: the hypotheses of each theorem.
-/
import Derived.Test.YtodbgkflakfjpaaReelN
import Derived.Test.YtodbgkflakfjpaaIntsS
import Derived.Test.YtodbgkflakfjpaaSlitA
namespace Go.Proofs.Ytodbgkflakfjpaa
open Go.RowKit
attribute [local go_sem ↓] Go.wp_at_zero Go.wp_at_succ

set_option maxRecDepth 100000 in
set_option maxHeartbeats 4000000 in
theorem FnExactSlitReel_walk (W L : Int) (v_ds : Value) (ds : List (List Int)) (v_ws : Value) (ws : List Int) (v_cs : Value) (cs : List Int) (fr : Int) (til : Int) (w : World) (h_ds : TS w 0 w.heap.size 5 v_ds ds) (h_ws : Ints w 0 w.heap.size v_ws ws) (h_cs : Ints w 0 w.heap.size v_cs cs) (_i_fr : I64 fr) (_i_til : I64 til) :
    Calls Try.prog 6 #[.agg #[.int .i64 W, .int .i64 L, v_ds], v_ws, v_cs, .int .i64 fr, .int .i64 til] w fun e w' => e = .returned (.bool true) ∧ Below w.heap.size w w' := by
  obtain ⟨A_ds, c_ds, rfl, hc_ds, hm_ds⟩ := h_ds.form
  obtain ⟨A_ws, c_ws, rfl, hc_ws, hm_ws⟩ := h_ws.form
  obtain ⟨A_cs, c_cs, rfl, hc_cs, hm_cs⟩ := h_cs.form
  obtain ⟨R, hR⟩ : ∃ R, R = slL W L ds ws cs fr til := ⟨_, rfl⟩
  have HR := Lib.hid hR
  clear hR
  have hle0 := Nat.le_refl w.heap.size
  have Hs := Lib.hid (show ∃ y1, y1 = (w.alloc (.cells #[.int .i64 W, .int .i64 L, .slice A_ds ds.length c_ds] 24)) ∧ Below w.heap.size w y1 ∧ y1.cell? ⟨w.heap.size, 0, none⟩ = some (.int .i64 W) ∧ y1.cell? ⟨w.heap.size, 1, none⟩ = some (.int .i64 L) ∧ y1.cell? ⟨w.heap.size, 2, none⟩ = some (.slice A_ds ds.length c_ds) ∧ TS y1 0 w.heap.size 5 (.slice A_ds ds.length c_ds) ds ∧ w.heap.size < y1.heap.size from by
    have hb : Below w.heap.size w (w.alloc (.cells #[.int .i64 W, .int .i64 L, .slice A_ds ds.length c_ds] 24)) := (Below.refl _ _).alloc (Nat.le_refl _) _
    exact ⟨_, rfl, hb, by go_simp, by go_simp, by go_simp, h_ds.below hb hle0, by simp⟩)
  have bw_0 := Below.refl w.heap.size w
  by_cases l_ws : ws.length ≤ 1048576
  rotate_left
  · have l2_ws : (1048576 : Int) < (ws.length : Int) := by omega
    go_enter Try.func6, Try.ntmps6
    go_wp2
    go_ret
    exact ⟨rfl, (Below.refl _ _).alloc (Nat.le_refl _) _⟩
  by_cases l_cs : cs.length ≤ 1048576
  rotate_left
  · have l2_cs : (1048576 : Int) < (cs.length : Int) := by omega
    go_enter Try.func6, Try.ntmps6
    go_wp2
    go_ret
    exact ⟨rfl, (Below.refl _ _).alloc (Nat.le_refl _) _⟩
  go_enter Try.func6, Try.ntmps6
  go_wp2_with fail
  obtain ⟨y1, hw1, hb0, c00, c01, c02, hT0, hz⟩ := Hs.out
  rw [← hw1]
  clear hw1 Hs
  rename Below w.heap.size w y1 => B_y1
  clear hT0 hle0
  refine (szReel_any W L _ ds.length _ y1 (by omega)).mono ?_
  by_cases l_ds : ds.length ≤ 1048576
  rotate_left
  · rintro e y2 ⟨hr, b⟩
    rw [if_neg l_ds] at hr
    subst hr
    replace c00 := keepB b c00; replace c01 := keepB b c01; replace c02 := keepB b c02
    go_wp2
    go_ret
    exact ⟨rfl, B_y1.trans (b.mono (by omega))⟩
  rintro e y2 ⟨hr, b⟩
  rw [if_pos l_ds] at hr
  subst hr
  have s_y2 := b.size
  have B_y2 := B_y1.trans (b.mono (by omega))
  replace c00 := keepB b c00; replace c01 := keepB b c01; replace c02 := keepB b c02
  clear b
  have hRl : R.length ≤ 60 := by rw [HR.out]; exact slL_len W L ds ws cs fr til
  go_wp2_with fail
  refine (toReel_any 0 w.heap.size W L _ ds y2 (h_ds.below B_y2 (Nat.le_refl _)) (by omega) (by omega)).mono ?_
  rintro e y3 ⟨xa_ds, rfl, oxa_ds, b⟩
  have lxa_ds := oxa_ds.lt
  have s_y3 := b.size
  have B_y3 := B_y2.trans (b.mono (by omega))
  replace c00 := keepB b c00; replace c01 := keepB b c01; replace c02 := keepB b c02
  clear b
  go_wp2_with fail
  refine (toIntS_any 0 w.heap.size _ ws y3 (h_ws.below B_y3 (Nat.le_refl _)) (by omega) (by omega)).mono ?_
  rintro e y4 ⟨xa_ws, rfl, oxa_ws, b⟩
  have lxa_ws := oxa_ws.lt
  have s_y4 := b.size
  have B_y4 := B_y3.trans (b.mono (by omega))
  replace c00 := keepB b c00; replace c01 := keepB b c01; replace c02 := keepB b c02
  replace oxa_ds := oxa_ds.kept (.of_below b (Nat.le_refl _))
  clear b
  go_wp2_with fail
  refine (toIntS_any 0 w.heap.size _ cs y4 (h_cs.below B_y4 (Nat.le_refl _)) (by omega) (by omega)).mono ?_
  rintro e y5 ⟨xa_cs, rfl, oxa_cs, b⟩
  have lxa_cs := oxa_cs.lt
  have s_y5 := b.size
  have B_y5 := B_y4.trans (b.mono (by omega))
  replace c00 := keepB b c00; replace c01 := keepB b c01; replace c02 := keepB b c02
  replace oxa_ds := oxa_ds.kept (.of_below b (Nat.le_refl _))
  replace oxa_ws := oxa_ws.kept (.of_below b (Nat.le_refl _))
  clear b
  go_wp2_with fail
  refine (sSlitReel_any _ _ _ _ _ _ W L _ _ _ ds ws cs fr til y5 oxa_ds.ts (by omega) oxa_ws.ints (by omega) oxa_cs.ints (by omega) _i_fr _i_til).mono ?_
  rw [← HR.out]
  rintro e y6 ⟨vw, rfl, ovw, b⟩
  have lvw := ovw.lt
  have s_y6 := b.size
  have B_y6 := B_y5.trans (b.mono (by omega))
  replace c00 := keepB b c00; replace c01 := keepB b c01; replace c02 := keepB b c02
  replace oxa_ds := oxa_ds.kept (.of_below b (Nat.le_refl _))
  replace oxa_ws := oxa_ws.kept (.of_below b (Nat.le_refl _))
  replace oxa_cs := oxa_cs.kept (.of_below b (Nat.le_refl _))
  clear b
  clear oxa_ds oxa_ws oxa_cs
  go_wp2_with fail
  refine (toReel_any 0 w.heap.size W L _ ds y6 (h_ds.below B_y6 (Nat.le_refl _)) (by omega) (by omega)).mono ?_
  rintro e y7 ⟨xb_ds, rfl, oxb_ds, b⟩
  have lxb_ds := oxb_ds.lt
  have s_y7 := b.size
  have B_y7 := B_y6.trans (b.mono (by omega))
  replace c00 := keepB b c00; replace c01 := keepB b c01; replace c02 := keepB b c02
  replace ovw := ovw.kept (.of_below b (Nat.le_refl _))
  clear b
  obtain ⟨A_xb_ds, cc_xb_ds, rfl, hcc_xb_ds⟩ := oxb_ds.form
  go_wp2_with fail
  obtain ⟨y8, hw1⟩ : ∃ y8, y8 = y7.alloc (.cells #[.int .i64 W, .int .i64 L, .slice A_xb_ds ds.length cc_xb_ds] 30) := ⟨_, rfl⟩
  have xb0 : y8.cell? ⟨y7.heap.size, 0, none⟩ = some (.int .i64 W) := by rw [hw1]; go_simp
  have xb1 : y8.cell? ⟨y7.heap.size, 1, none⟩ = some (.int .i64 L) := by rw [hw1]; go_simp
  have xb2 : y8.cell? ⟨y7.heap.size, 2, none⟩ = some (.slice A_xb_ds ds.length cc_xb_ds) := by rw [hw1]; go_simp
  have bxb : Below y7.heap.size y7 y8 := by rw [hw1]; exact (Below.refl _ _).alloc (Nat.le_refl _) _
  have zxb : y7.heap.size < y8.heap.size := by rw [hw1]; simp
  rw [← hw1]
  clear hw1
  have s_y8 := bxb.size
  have B_y8 := B_y7.trans (bxb.mono (by omega))
  replace c00 := keepB bxb c00; replace c01 := keepB bxb c01; replace c02 := keepB bxb c02
  replace ovw := ovw.kept (.of_below bxb (Nat.le_refl _))
  replace oxb_ds := oxb_ds.kept (.of_below bxb (Nat.le_refl _))
  clear bxb
  go_wp2_with fail
  refine (toIntS_any 0 w.heap.size _ ws y8 (h_ws.below B_y8 (Nat.le_refl _)) (by omega) (by omega)).mono ?_
  rintro e y9 ⟨xb_ws, rfl, oxb_ws, b⟩
  have lxb_ws := oxb_ws.lt
  have s_y9 := b.size
  have B_y9 := B_y8.trans (b.mono (by omega))
  replace c00 := keepB b c00; replace c01 := keepB b c01; replace c02 := keepB b c02; replace xb0 := keepB b xb0; replace xb1 := keepB b xb1; replace xb2 := keepB b xb2
  replace ovw := ovw.kept (.of_below b (Nat.le_refl _))
  replace oxb_ds := oxb_ds.kept (.of_below b (Nat.le_refl _))
  clear b
  go_wp2_with fail
  refine (toIntS_any 0 w.heap.size _ cs y9 (h_cs.below B_y9 (Nat.le_refl _)) (by omega) (by omega)).mono ?_
  rintro e y10 ⟨xb_cs, rfl, oxb_cs, b⟩
  have lxb_cs := oxb_cs.lt
  have s_y10 := b.size
  have B_y10 := B_y9.trans (b.mono (by omega))
  replace c00 := keepB b c00; replace c01 := keepB b c01; replace c02 := keepB b c02; replace xb0 := keepB b xb0; replace xb1 := keepB b xb1; replace xb2 := keepB b xb2
  replace ovw := ovw.kept (.of_below b (Nat.le_refl _))
  replace oxb_ds := oxb_ds.kept (.of_below b (Nat.le_refl _))
  replace oxb_ws := oxb_ws.kept (.of_below b (Nat.le_refl _))
  clear b
  go_wp2_with fail
  refine (SlitReel_any _ _ _ _ _ _ W L _ _ _ ds ws cs fr til y10 oxb_ds.ts (by omega) oxb_ws.ints (by omega) oxb_cs.ints (by omega) _i_fr _i_til).mono ?_
  rw [← HR.out]
  rintro e y11 ⟨vg, rfl, ovg, b⟩
  have lvg := ovg.lt
  have s_y11 := b.size
  have B_y11 := B_y10.trans (b.mono (by omega))
  replace c00 := keepB b c00; replace c01 := keepB b c01; replace c02 := keepB b c02; replace xb0 := keepB b xb0; replace xb1 := keepB b xb1; replace xb2 := keepB b xb2
  replace ovw := ovw.kept (.of_below b (Nat.le_refl _))
  replace oxb_ds := oxb_ds.kept (.of_below b (Nat.le_refl _))
  replace oxb_ws := oxb_ws.kept (.of_below b (Nat.le_refl _))
  replace oxb_cs := oxb_cs.kept (.of_below b (Nat.le_refl _))
  clear b
  go_wp2_with fail
  refine (eqPartS_same _ _ _ _ _ _ R y11 ovg.ts (by omega) ovw.ts (by omega)).mono ?_
  rintro e y12 ⟨rfl, b⟩
  have s_y12 := b.size
  have B_y12 := B_y11.trans (b.mono (by omega))
  replace c00 := keepB b c00; replace c01 := keepB b c01; replace c02 := keepB b c02; replace xb0 := keepB b xb0; replace xb1 := keepB b xb1; replace xb2 := keepB b xb2
  replace ovw := ovw.kept (.of_below b (Nat.le_refl _))
  replace oxb_ds := oxb_ds.kept (.of_below b (Nat.le_refl _))
  replace oxb_ws := oxb_ws.kept (.of_below b (Nat.le_refl _))
  replace oxb_cs := oxb_cs.kept (.of_below b (Nat.le_refl _))
  replace ovg := ovg.kept (.of_below b (Nat.le_refl _))
  clear b
  go_wp2_with fail
  go_region_held3 (fun w' => w'.cell? ⟨y7.heap.size, 0, none⟩ = some (.int .i64 W) ∧ w'.cell? ⟨y7.heap.size, 1, none⟩ = some (.int .i64 L) ∧ w'.cell? ⟨y7.heap.size, 2, none⟩ = some (.slice A_xb_ds ds.length cc_xb_ds) ∧ w'.cell? ⟨w.heap.size, 0, none⟩ = some (.int .i64 W) ∧ w'.cell? ⟨w.heap.size, 1, none⟩ = some (.int .i64 L) ∧ w'.cell? ⟨w.heap.size, 2, none⟩ = some (.slice A_ds ds.length c_ds)) (first | go_keep | (go_split_ands; refine ⟨?_, ?_, ?_, ?_, ?_, ?_⟩ <;> first | exact keepB bx5 (by assumption) | exact keepB bx4 (by assumption) | exact keepB bx3 (by assumption) | exact keepB bx2 (by assumption) | exact keepB bx1 (by assumption))) (first | (go_at_call 17; refine (toReel_any 0 w.heap.size W L _ ds _ ((h_ds.below B_y12 (Nat.le_refl _)).drewN 1) (by simp; omega) (by omega)).mono ?_; rintro e y13 ⟨vt, rfl, ot, bx1⟩) | (go_at_call 20; refine (eqReel_same W L _ _ _ _ _ _ ds _ ((oxb_ds.ts.drewN 1).below bx1 (by simp)) (by have := bx1.size; simp at this; omega) ot.ts (Nat.le_refl _)).mono ?_; rintro e y14 ⟨rfl, bx2⟩))
  have b := (of_drew bx1).trans (bx2.mono (of_drew bx1).size)
  clear bx1 bx2 ot
  have s_y14 := b.size
  have B_y14 := B_y12.trans (b.mono (by omega))
  replace c00 := keepB b c00; replace c01 := keepB b c01; replace c02 := keepB b c02; replace xb0 := keepB b xb0; replace xb1 := keepB b xb1; replace xb2 := keepB b xb2
  replace ovw := ovw.kept (.of_below b (Nat.le_refl _))
  replace oxb_ds := oxb_ds.kept (.of_below b (Nat.le_refl _))
  replace oxb_ws := oxb_ws.kept (.of_below b (Nat.le_refl _))
  replace oxb_cs := oxb_cs.kept (.of_below b (Nat.le_refl _))
  replace ovg := ovg.kept (.of_below b (Nat.le_refl _))
  clear b
  go_wp2_with fail
  refine (toIntS_any 0 w.heap.size _ ws y14 (h_ws.below B_y14 (Nat.le_refl _)) (by omega) (by omega)).mono ?_
  rintro e y15 ⟨vt, rfl, ot, b⟩
  have s_y15 := b.size
  have B_y15 := B_y14.trans (b.mono (by omega))
  replace c00 := keepB b c00; replace c01 := keepB b c01; replace c02 := keepB b c02; replace xb0 := keepB b xb0; replace xb1 := keepB b xb1; replace xb2 := keepB b xb2
  replace ovw := ovw.kept (.of_below b (Nat.le_refl _))
  replace oxb_ds := oxb_ds.kept (.of_below b (Nat.le_refl _))
  replace oxb_ws := oxb_ws.kept (.of_below b (Nat.le_refl _))
  replace oxb_cs := oxb_cs.kept (.of_below b (Nat.le_refl _))
  replace ovg := ovg.kept (.of_below b (Nat.le_refl _))
  clear b
  go_wp2_with fail
  refine (eqIntS_any _ _ _ _ _ _ _ _ y15 oxb_ws.ints ot.ints).mono ?_
  rw [eqL_same]
  rintro e y16 ⟨rfl, q⟩
  have b := q.below y15.heap.size
  clear ot
  have s_y16 := b.size
  have B_y16 := B_y15.trans (b.mono (by omega))
  replace c00 := keepB b c00; replace c01 := keepB b c01; replace c02 := keepB b c02; replace xb0 := keepB b xb0; replace xb1 := keepB b xb1; replace xb2 := keepB b xb2
  replace ovw := ovw.kept (.of_below b (Nat.le_refl _))
  replace oxb_ds := oxb_ds.kept (.of_below b (Nat.le_refl _))
  replace oxb_ws := oxb_ws.kept (.of_below b (Nat.le_refl _))
  replace oxb_cs := oxb_cs.kept (.of_below b (Nat.le_refl _))
  replace ovg := ovg.kept (.of_below b (Nat.le_refl _))
  clear b
  go_wp2_with fail
  refine (toIntS_any 0 w.heap.size _ cs y16 (h_cs.below B_y16 (Nat.le_refl _)) (by omega) (by omega)).mono ?_
  rintro e y17 ⟨vt, rfl, ot, b⟩
  have s_y17 := b.size
  have B_y17 := B_y16.trans (b.mono (by omega))
  replace c00 := keepB b c00; replace c01 := keepB b c01; replace c02 := keepB b c02; replace xb0 := keepB b xb0; replace xb1 := keepB b xb1; replace xb2 := keepB b xb2
  replace ovw := ovw.kept (.of_below b (Nat.le_refl _))
  replace oxb_ds := oxb_ds.kept (.of_below b (Nat.le_refl _))
  replace oxb_ws := oxb_ws.kept (.of_below b (Nat.le_refl _))
  replace oxb_cs := oxb_cs.kept (.of_below b (Nat.le_refl _))
  replace ovg := ovg.kept (.of_below b (Nat.le_refl _))
  clear b
  go_wp2_with fail
  refine (eqIntS_any _ _ _ _ _ _ _ _ y17 oxb_cs.ints ot.ints).mono ?_
  rw [eqL_same]
  rintro e y18 ⟨rfl, q⟩
  have b := q.below y17.heap.size
  clear ot
  have s_y18 := b.size
  have B_y18 := B_y17.trans (b.mono (by omega))
  replace c00 := keepB b c00; replace c01 := keepB b c01; replace c02 := keepB b c02; replace xb0 := keepB b xb0; replace xb1 := keepB b xb1; replace xb2 := keepB b xb2
  replace ovw := ovw.kept (.of_below b (Nat.le_refl _))
  replace oxb_ds := oxb_ds.kept (.of_below b (Nat.le_refl _))
  replace oxb_ws := oxb_ws.kept (.of_below b (Nat.le_refl _))
  replace oxb_cs := oxb_cs.kept (.of_below b (Nat.le_refl _))
  replace ovg := ovg.kept (.of_below b (Nat.le_refl _))
  clear b
  go_wp2_with fail
  refine (markReel_any _ W L _ ds (1) y18 oxb_ds (by omega) (by omega) (by omega)).mono ?_
  rintro e y19 ⟨rfl, om, bm, hkm⟩
  have sm := bm.size
  clear om
  have s_y19 := sm
  clear sm
  have B_y19 := B_y18.trans (bm.mono (by omega))
  clear xb0 xb1 xb2
  replace c00 := keepD hkm (Nat.lt_of_lt_of_le hz (by omega)) (fun e => by have := (lxb_ds _ e).1; simp at this; omega) c00
  replace c01 := keepD hkm (Nat.lt_of_lt_of_le hz (by omega)) (fun e => by have := (lxb_ds _ e).1; simp at this; omega) c01
  replace c02 := keepD hkm (Nat.lt_of_lt_of_le hz (by omega)) (fun e => by have := (lxb_ds _ e).1; simp at this; omega) c02
  clear oxb_ds
  replace ovw := ovw.apart hkm (fun g a b => by have := lvw g a; have := lxb_ds g b; omega)
  replace oxb_ws := oxb_ws.apart hkm (fun g a b => by have := lxb_ws g a; have := lxb_ds g b; omega)
  replace oxb_cs := oxb_cs.apart hkm (fun g a b => by have := lxb_cs g a; have := lxb_ds g b; omega)
  replace ovg := ovg.apart hkm (fun g a b => by have := lvg g a; have := lxb_ds g b; omega)
  clear bm hkm
  go_wp2_with fail
  refine (markIntS_any _ y19.heap.size _ ws (1 + ds.length * 5) y19 oxb_ws (fun g hg => (oxb_ws.lt g hg).2) (by omega) (by omega)).mono ?_
  rintro e y20 ⟨rfl, om, bm0, hkm0⟩
  have bm := bm0.below
  have sm := bm.size
  have hkm : ∀ b, b < y19.heap.size → some b ≠ _ → y20.heap[b]? = y19.heap[b]? := fun b _ hne => hkm0 b hne
  clear hkm0 bm0
  clear om
  have s_y20 := sm
  clear sm
  have B_y20 := B_y19.trans (bm.mono (by omega))
  replace c00 := keepD hkm (Nat.lt_of_lt_of_le hz (by omega)) (fun e => by have := (lxb_ws _ e).1; simp at this; omega) c00
  replace c01 := keepD hkm (Nat.lt_of_lt_of_le hz (by omega)) (fun e => by have := (lxb_ws _ e).1; simp at this; omega) c01
  replace c02 := keepD hkm (Nat.lt_of_lt_of_le hz (by omega)) (fun e => by have := (lxb_ws _ e).1; simp at this; omega) c02
  clear oxb_ws
  replace ovw := ovw.apart hkm (fun g a b => by have := lvw g a; have := lxb_ws g b; omega)
  replace oxb_cs := oxb_cs.apart hkm (fun g a b => by have := lxb_cs g a; have := lxb_ws g b; omega)
  replace ovg := ovg.apart hkm (fun g a b => by have := lvg g a; have := lxb_ws g b; omega)
  clear bm hkm
  go_wp2_with fail
  refine (markIntS_any _ y20.heap.size _ cs (1 + ds.length * 5 + ws.length) y20 oxb_cs (fun g hg => (oxb_cs.lt g hg).2) (by omega) (by omega)).mono ?_
  rintro e y21 ⟨rfl, om, bm0, hkm0⟩
  have bm := bm0.below
  have sm := bm.size
  have hkm : ∀ b, b < y20.heap.size → some b ≠ _ → y21.heap[b]? = y20.heap[b]? := fun b _ hne => hkm0 b hne
  clear hkm0 bm0
  clear om
  have s_y21 := sm
  clear sm
  have B_y21 := B_y20.trans (bm.mono (by omega))
  replace c00 := keepD hkm (Nat.lt_of_lt_of_le hz (by omega)) (fun e => by have := (lxb_cs _ e).1; simp at this; omega) c00
  replace c01 := keepD hkm (Nat.lt_of_lt_of_le hz (by omega)) (fun e => by have := (lxb_cs _ e).1; simp at this; omega) c01
  replace c02 := keepD hkm (Nat.lt_of_lt_of_le hz (by omega)) (fun e => by have := (lxb_cs _ e).1; simp at this; omega) c02
  clear oxb_cs
  replace ovw := ovw.apart hkm (fun g a b => by have := lvw g a; have := lxb_cs g b; omega)
  replace ovg := ovg.apart hkm (fun g a b => by have := lvg g a; have := lxb_cs g b; omega)
  clear bm hkm
  go_wp2_with fail
  refine (eqPartS_same _ _ _ _ _ _ R y21 ovg.ts (by omega) ovw.ts (by omega)).mono ?_
  rintro e y22 ⟨rfl, b⟩
  have s_y22 := b.size
  have B_y22 := B_y21.trans (b.mono (by omega))
  replace c00 := keepB b c00; replace c01 := keepB b c01; replace c02 := keepB b c02
  replace ovw := ovw.kept (.of_below b (Nat.le_refl _))
  replace ovg := ovg.kept (.of_below b (Nat.le_refl _))
  clear b
  go_wp2_with fail
  refine (markPartS_any _ _ R 1 y22 ovg (by omega) (by omega)).mono ?_
  rintro e y23 ⟨rfl, om, bm, hkm0, hsz⟩
  have hkm : ∀ b, b < y22.heap.size → some b ≠ _ → y23.heap[b]? = y22.heap[b]? := fun b _ hne => hkm0 b hne
  clear hkm0 hsz
  have s_y23 := bm.size
  have B_y23 := B_y22.trans (bm.mono (by omega))
  replace c00 := keepD hkm (Nat.lt_of_lt_of_le hz (by omega)) (fun e => by have := (lvg _ e).1; simp at this; omega) c00
  replace c01 := keepD hkm (Nat.lt_of_lt_of_le hz (by omega)) (fun e => by have := (lvg _ e).1; simp at this; omega) c01
  replace c02 := keepD hkm (Nat.lt_of_lt_of_le hz (by omega)) (fun e => by have := (lvg _ e).1; simp at this; omega) c02
  replace ovw := ovw.apart hkm (fun g a b => by have := lvw g a; have := lvg g b; omega)
  clear ovg bm hkm
  have ovg := om
  clear om
  go_wp2_with fail
  refine (heldPartS_up _ _ _ 1 R.length y23 ovg.ts (by omega) (by omega)).mono ?_
  rintro e z ⟨rfl, rfl⟩
  go_wp2_with fail
  refine (toReel_any 0 w.heap.size W L _ ds y23 (h_ds.below B_y23 (Nat.le_refl _)) (by omega) (by omega)).mono ?_
  rintro e y25 ⟨xc_ds, rfl, oxc_ds, b⟩
  have lxc_ds := oxc_ds.lt
  have s_y25 := b.size
  have B_y25 := B_y23.trans (b.mono (by omega))
  replace c00 := keepB b c00; replace c01 := keepB b c01; replace c02 := keepB b c02
  replace ovw := ovw.kept (.of_below b (Nat.le_refl _))
  replace ovg := ovg.kept (.of_below b (Nat.le_refl _))
  clear b
  go_wp2_with fail
  refine (toIntS_any 0 w.heap.size _ ws y25 (h_ws.below B_y25 (Nat.le_refl _)) (by omega) (by omega)).mono ?_
  rintro e y26 ⟨xc_ws, rfl, oxc_ws, b⟩
  have lxc_ws := oxc_ws.lt
  have s_y26 := b.size
  have B_y26 := B_y25.trans (b.mono (by omega))
  replace c00 := keepB b c00; replace c01 := keepB b c01; replace c02 := keepB b c02
  replace ovw := ovw.kept (.of_below b (Nat.le_refl _))
  replace ovg := ovg.kept (.of_below b (Nat.le_refl _))
  replace oxc_ds := oxc_ds.kept (.of_below b (Nat.le_refl _))
  clear b
  go_wp2_with fail
  refine (toIntS_any 0 w.heap.size _ cs y26 (h_cs.below B_y26 (Nat.le_refl _)) (by omega) (by omega)).mono ?_
  rintro e y27 ⟨xc_cs, rfl, oxc_cs, b⟩
  have lxc_cs := oxc_cs.lt
  have s_y27 := b.size
  have B_y27 := B_y26.trans (b.mono (by omega))
  replace c00 := keepB b c00; replace c01 := keepB b c01; replace c02 := keepB b c02
  replace ovw := ovw.kept (.of_below b (Nat.le_refl _))
  replace ovg := ovg.kept (.of_below b (Nat.le_refl _))
  replace oxc_ds := oxc_ds.kept (.of_below b (Nat.le_refl _))
  replace oxc_ws := oxc_ws.kept (.of_below b (Nat.le_refl _))
  clear b
  go_wp2_with fail
  refine (SlitReel_any _ _ _ _ _ _ W L _ _ _ ds ws cs fr til y27 oxc_ds.ts (by omega) oxc_ws.ints (by omega) oxc_cs.ints (by omega) _i_fr _i_til).mono ?_
  rw [← HR.out]
  rintro e y28 ⟨vh, rfl, ovh, b⟩
  have lvh := ovh.lt
  have s_y28 := b.size
  have B_y28 := B_y27.trans (b.mono (by omega))
  replace c00 := keepB b c00; replace c01 := keepB b c01; replace c02 := keepB b c02
  replace ovw := ovw.kept (.of_below b (Nat.le_refl _))
  replace ovg := ovg.kept (.of_below b (Nat.le_refl _))
  replace oxc_ds := oxc_ds.kept (.of_below b (Nat.le_refl _))
  replace oxc_ws := oxc_ws.kept (.of_below b (Nat.le_refl _))
  replace oxc_cs := oxc_cs.kept (.of_below b (Nat.le_refl _))
  clear b
  clear oxc_ds oxc_ws oxc_cs
  go_wp2_with fail
  refine (eqPartS_same _ _ _ _ _ _ R y28 ovh.ts (by omega) ovw.ts (by omega)).mono ?_
  rintro e y29 ⟨rfl, b⟩
  have s_y29 := b.size
  have B_y29 := B_y28.trans (b.mono (by omega))
  replace c00 := keepB b c00; replace c01 := keepB b c01; replace c02 := keepB b c02
  replace ovw := ovw.kept (.of_below b (Nat.le_refl _))
  replace ovg := ovg.kept (.of_below b (Nat.le_refl _))
  replace ovh := ovh.kept (.of_below b (Nat.le_refl _))
  clear b
  go_wp2_with fail
  refine (heldPartS_up _ _ _ 1 R.length y29 ovg.ts (by omega) (by omega)).mono ?_
  rintro e z ⟨rfl, rfl⟩
  go_wp2
  go_ret
  exact ⟨rfl, B_y29⟩
end Go.Proofs.Ytodbgkflakfjpaa
