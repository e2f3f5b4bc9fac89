/-
  Lemmas and contracts of single functions of this program, used by the proofs of its laws: what each call returns and what becomes of memory. Conditions: the hypotheses of each theorem.
-/
import Derived.Test.YtodbgkflakfjpaaSlitQ
import Derived.Test.YtodbgkflakfjpaaDrawU
namespace Go.Proofs.Ytodbgkflakfjpaa
open Go.RowKit
attribute [local go_sem ↓] Go.wp_at_zero Go.wp_at_succ

set_option maxRecDepth 100000 in
set_option maxHeartbeats 4000000 in
theorem FnSlitReel_walk (v : Value) (xs : List Int) (w : World) (h : Bytes w 0 w.heap.size v xs) :
    Calls Try.prog 9 #[v] w fun e w' => e = .returned (.bool true) ∧ Below w.heap.size w w' := by
  have hv : ∃ A c, v = .slice A xs.length c ∧ xs.length ≤ c ∧ c ≤ 2 ^ 63 - 1 := by obtain ⟨A, c, e, h1, h2, _⟩ := h; exact ⟨A, c, e, h1, by unfold maxLen at h2; omega⟩
  obtain ⟨A0, c0, rfl, hc0, hm0⟩ := hv
  by_cases hl : 1048576 < xs.length
  · have hl' : (1048576 : Int) < (xs.length : Int) := by omega
    go_enter Try.func9, Try.ntmps9
    go_wp2
    go_ret
    exact ⟨rfl, Below.refl _ _⟩
  · have hl' : ¬ (1048576 : Int) < (xs.length : Int) := by omega
    go_enter Try.func9, Try.ntmps9
    go_wp2_with fail
    refine (DrawSlitReel_any _ xs w h).mono ?_
    rintro e w1 ⟨W, L, u, vw, vc, ds, ws, cs, fr, til, rfl, ou, ow, oc, hfr, htil, b1⟩
    obtain ⟨A, c, rfl, hc, hm⟩ := ou.form
    obtain ⟨A2, c2, rfl, hc2, hm2⟩ := ow.form
    obtain ⟨A3, c3, rfl, hc3, hm3⟩ := oc.form
    have hs1 := b1.size
    clear h hl hl'
    go_wp2_with fail
    obtain ⟨w2, hw1⟩ : ∃ w2, w2 = w1.alloc (.cells #[.int .i64 W, .int .i64 L, .slice A ds.length c] 30) := ⟨_, rfl⟩
    have x0 : w2.cell? ⟨w1.heap.size, 0, none⟩ = some (.int .i64 W) := by rw [hw1]; go_simp
    have x1 : w2.cell? ⟨w1.heap.size, 1, none⟩ = some (.int .i64 L) := by rw [hw1]; go_simp
    have x2 : w2.cell? ⟨w1.heap.size, 2, none⟩ = some (.slice A ds.length c) := by rw [hw1]; go_simp
    have bx : Below w1.heap.size w1 w2 := by rw [hw1]; exact (Below.refl _ _).alloc (Nat.le_refl _) _
    have zx : w1.heap.size < w2.heap.size := by rw [hw1]; simp
    rw [← hw1]
    clear hw1
    have B2 := b1.trans (bx.mono hs1)
    replace ou := ou.kept (.of_below bx (Nat.le_refl _))
    replace ow := ow.kept (.of_below bx (Nat.le_refl _))
    replace oc := oc.kept (.of_below bx (Nat.le_refl _))
    clear bx b1
    obtain ⟨R, hR⟩ : ∃ R, R = slL W L ds ws cs fr til := ⟨_, rfl⟩
    have HR := Lib.hid hR
    clear hR
    refine (SlitReel_any _ _ _ _ _ _ W L _ _ _ ds ws cs fr til w2 ou.ts (Nat.le_refl _) ow.ints (Nat.le_refl _) oc.ints (Nat.le_refl _) hfr htil).mono ?_
    rw [← HR.out]
    rintro e w3 ⟨vo, rfl, oo, b⟩
    have s3 := b.size
    have B3 := B2.trans (b.mono (by omega))
    replace x0 := keepB b x0; replace x1 := keepB b x1; replace x2 := keepB b x2
    replace ou := ou.kept (.of_below b (Nat.le_refl _))
    replace ow := ow.kept (.of_below b (Nat.le_refl _))
    replace oc := oc.kept (.of_below b (Nat.le_refl _))
    obtain ⟨A4, c4, rfl, hc4, hm4⟩ := oo.form
    clear b B2
    go_wp2_with fail
    refine (sSlitReel_any _ _ _ _ _ _ W L _ _ _ ds ws cs fr til w3 ou.ts (Nat.le_refl _) ow.ints (Nat.le_refl _) oc.ints (Nat.le_refl _) hfr htil).mono ?_
    rw [← HR.out]
    rintro e w4 ⟨vs, rfl, os, b⟩
    have s4 := b.size
    have B4 := B3.trans (b.mono (by omega))
    replace x0 := keepB b x0; replace x1 := keepB b x1; replace x2 := keepB b x2
    replace ou := ou.kept (.of_below b (Nat.le_refl _))
    replace ow := ow.kept (.of_below b (Nat.le_refl _))
    replace oc := oc.kept (.of_below b (Nat.le_refl _))
    replace oo := oo.kept (.of_below b (Nat.le_refl _))
    clear b B3
    go_wp2_with fail
    refine (equalParts_same _ _ _ _ _ _ R w4 oo.ts os.ts).mono ?_
    rintro e w5 ⟨rfl, q⟩
    have b := q.below w4.heap.size
    have s5 := b.size
    have B5 := B4.trans (b.mono (by omega))
    replace x0 := keepB b x0; replace x1 := keepB b x1; replace x2 := keepB b x2
    replace ou := ou.kept (.of_below b (Nat.le_refl _))
    replace ow := ow.kept (.of_below b (Nat.le_refl _))
    replace oc := oc.kept (.of_below b (Nat.le_refl _))
    replace oo := oo.kept (.of_below b (Nat.le_refl _))
    clear b q B4 os
    by_cases h0 : R.length = 0
    · have e0 : ((R.length : Int) == 0) = true := beq_t (by omega)
      clear h0
      go_wp2_with fail
      refine (sSlitReel_any _ _ _ _ _ _ W L _ _ _ ds ws cs fr til w5 ou.ts (Nat.le_refl _) ow.ints (Nat.le_refl _) oc.ints (Nat.le_refl _) hfr htil).mono ?_
      rw [← HR.out]
      rintro e w6 ⟨vs2, rfl, os2, b⟩
      have s6 := b.size
      have B6 := B5.trans (b.mono (by omega))
      replace oo := oo.kept (.of_below b (Nat.le_refl _))
      go_wp2_with fail
      refine (equalParts_same _ _ _ _ _ _ R w6 oo.ts os2.ts).mono ?_
      rintro e w7 ⟨rfl, q⟩
      go_wp2
      go_ret
      exact ⟨rfl, B6.trans ((q.below w6.heap.size).mono (by omega))⟩
    · have e0 : ((R.length : Int) == 0) = false := beq_f (by omega)
      have HC := Lib.hid (show vReel W L ds = true ∧ vPat W ws cs = true ∧ 0 ≤ fr ∧ fr < til ∧ til ≤ L by
        apply Classical.byContradiction
        intro hn
        rw [HR.out, slL_no hn] at h0
        exact h0 rfl)
      have HR2 := Lib.hid (show R = slitT ws cs fr til cs.length by rw [HR.out]; exact slL_yes HC.out)
      have HV := Lib.hid (show vCuts W L ds R = true by rw [HR2.out]; exact slit_cuts HC.out)
      have HA := Lib.hid (show areaL R R.length = usedL ws cs cs.length * (til - fr) by rw [HR2.out]; exact slit_area fr til HC.out.2.1)
      have HN := Lib.hid (show (R.length : Int) = sumI cs cs.length by rw [HR2.out]; exact slitT_sum fr til HC.out.2.1 (Nat.le_refl _))
      have hR60 := slL_len W L ds ws cs fr til
      rw [← HR.out] at hR60
      clear h0
      go_wp2_with fail
      clear e0
      refine (TrimOf_any _ _ _ _ W _ _ ws cs w5 ow.ints oc.ints).mono ?_
      rw [if_pos HC.out.2.1]
      rintro e x9 ⟨rfl, rfl⟩
      have hrg := vReel_rng HC.out.1
      have hus := pat_used HC.out.2.1 (k := cs.length) (Nat.le_refl _)
      have hvp := vPat_iff.1 HC.out.2.1
      have hcs : cs.length ≤ 1000 := by have := vWid_iff.1 hvp.1; have := hvp.2.1; omega
      have HCB := Lib.hid (show ∀ i, i < cs.length → 0 ≤ gi cs i ∧ gi cs i ≤ 1000 from fun i hi => by have := hvp.2.2.1 i hi; omega)
      have hft := HC.out.2.2
      have HE := Lib.hid (slit_eq W L (usedL ws cs cs.length) fr til)
      generalize hug : usedL ws cs cs.length = U at hus HE HA ⊢
      have m1 : 0 ≤ (W - U) * (til - fr) ∧ (W - U) * (til - fr) ≤ 60 * 400 := ⟨Int.mul_nonneg (by omega) (by omega), Int.mul_le_mul (by omega) (by omega) (by omega) (by omega)⟩
      have m2 : 0 ≤ W * (L - til + fr) ∧ W * (L - til + fr) ≤ 60 * 400 := ⟨Int.mul_nonneg (by omega) (by omega), Int.mul_le_mul (by omega) (by omega) (by omega) (by omega)⟩
      obtain ⟨T, hT⟩ : ∃ T, W - U = T := ⟨_, rfl⟩
      rw [hT] at m1 HE ⊢
      obtain ⟨P, hP⟩ : ∃ P, T * (til - fr) = P := ⟨_, rfl⟩
      obtain ⟨Q, hQ⟩ : ∃ Q, W * (L - til + fr) = Q := ⟨_, rfl⟩
      rw [hP] at m1 HE
      rw [hQ] at m2 HE
      have HAL := Lib.hid (show W * L - areaL R R.length = P + Q by rw [HA.out, HE.out])
      have HP := Lib.hid hP
      have HQ := Lib.hid hQ
      have Hft := Lib.hid hft
      have HB5 := Lib.hid B5
      have HI := Lib.hid oc.ints
      have HTo := Lib.hid oo.ts
      have HTu := Lib.hid ou.ts
      have hz5 : w5.heap.size = w5.heap.size := rfl
      clear hP hQ hT hug hvp HE
      go_wp2
      have g1 : IntKind.i64.wrap (til - fr) = til - fr := IntWalk.i64_in _ (by omega)
      have g2 : IntKind.i64.wrap (T * (til - fr)) = P := by rw [HP.out]; exact IntWalk.i64_in _ (by omega)
      have g3 : IntKind.i64.wrap (L - til) = L - til := IntWalk.i64_in _ (by omega)
      have g4 : IntKind.i64.wrap (L - til + fr) = L - til + fr := IntWalk.i64_in _ (by omega)
      have g5 : IntKind.i64.wrap (W * (L - til + fr)) = Q := by rw [HQ.out]; exact IntWalk.i64_in _ (by omega)
      have g6 : IntKind.i64.wrap (P + Q) = P + Q := IntWalk.i64_in _ (by omega)
      refine wp_region_held_drew (S := fun w' => w'.cell? ⟨w1.heap.size, 0, none⟩ = some (.int .i64 W) ∧ w'.cell? ⟨w1.heap.size, 1, none⟩ = some (.int .i64 L) ∧ w'.cell? ⟨w1.heap.size, 2, none⟩ = some (.slice A ds.length c)) (by kernel_rfl) ?_ (fun hHeld => ?_)
      · (first | (try dsimp only); go_keep | (go_split_ands; refine ⟨?_, ?_, ?_⟩ <;> first | exact keepB bx5 (by assumption) | exact keepB bx4 (by assumption) | exact keepB bx3 (by assumption) | exact keepB bx2 (by assumption) | exact keepB bx1 (by assumption) | exact keepO bo5 (by first | (simp; done) | (simp; omega)) (by assumption) | exact keepO bo4 (by first | (simp; done) | (simp; omega)) (by assumption) | exact keepO bo3 (by first | (simp; done) | (simp; omega)) (by assumption) | exact keepO bo2 (by first | (simp; done) | (simp; omega)) (by assumption) | exact keepO bo1 (by first | (simp; done) | (simp; omega)) (by assumption) | exact keepW bg2 (by first | (simp; done) | (simp; omega)) (by assumption) | exact keepW bg1 (by first | (simp; done) | (simp; omega)) (by assumption) | assumption))
      refine wpAnyH_take (i := 0) (oi := ⟨some 54, _, _, _, _, _⟩) (v := _) rfl (by kernel_rfl) (by kernel_rfl) (by kernel_rfl) (fun _ _ _ h => h) (Or.inl ⟨by kernel_rfl, by intro w hSw; (try dsimp only at hSw); go_simp; try with_reducible rfl⟩) (by assumption) ?_
      simp only [Act.put, List.setIfInBounds_toArray, List.set_cons_zero, List.set_cons_succ]
      refine wpAnyH_take (i := 1) (oi := ⟨some 55, _, _, _, _, _⟩) (v := _) rfl (by kernel_rfl) (by kernel_rfl) (by kernel_rfl) (fun _ _ _ h => h) (Or.inl ⟨by kernel_rfl, by intro w hSw; (try dsimp only at hSw); go_simp; try with_reducible rfl⟩) (by assumption) ?_
      simp only [Act.put, List.setIfInBounds_toArray, List.set_cons_zero, List.set_cons_succ]
      refine wpAnyH_ready (rs := [2]) (by kernel_rfl) (by simp) ?_
      refine AllReadyH.cons (o := ⟨some 56, _, _, _, _, _⟩) rfl (fun K hK => ?_) AllReadyH.nil
      go_simp
      go_at_call 45
      refine (ValidCuts_any _ _ _ _ W L _ _ ds R _ (HTu.out.drewN 1) (by simp) (HTo.out.drewN 1) (by simp)).mono ?_
      rw [HV.out]
      rintro e x6 ⟨rfl, bx1⟩
      go_wp2_with fail
      refine hK.out _ _ ?_ (fun hHeld2 => ?_)
      · (first | (try dsimp only); go_keep | (go_split_ands; refine ⟨?_, ?_, ?_⟩ <;> first | exact keepB bx5 (by assumption) | exact keepB bx4 (by assumption) | exact keepB bx3 (by assumption) | exact keepB bx2 (by assumption) | exact keepB bx1 (by assumption) | exact keepO bo5 (by first | (simp; done) | (simp; omega)) (by assumption) | exact keepO bo4 (by first | (simp; done) | (simp; omega)) (by assumption) | exact keepO bo3 (by first | (simp; done) | (simp; omega)) (by assumption) | exact keepO bo2 (by first | (simp; done) | (simp; omega)) (by assumption) | exact keepO bo1 (by first | (simp; done) | (simp; omega)) (by assumption) | exact keepW bg2 (by first | (simp; done) | (simp; omega)) (by assumption) | exact keepW bg1 (by first | (simp; done) | (simp; omega)) (by assumption) | assumption))
      clear hK K hHeld
      have hHeld := hHeld2
      clear hHeld2
      try simp only [Act.put, List.setIfInBounds_toArray, List.set_cons_zero, List.set_cons_succ]
      refine wpAnyH_take (i := 3) (oi := ⟨some 57, _, _, _, _, _⟩) (v := _) rfl (by kernel_rfl) (by kernel_rfl) (by kernel_rfl) (fun _ _ _ h => h) (Or.inl ⟨by kernel_rfl, by intro w hSw; (try dsimp only at hSw); go_simp; try with_reducible rfl⟩) (by assumption) ?_
      simp only [Act.put, List.setIfInBounds_toArray, List.set_cons_zero, List.set_cons_succ]
      refine wpAnyH_take (i := 4) (oi := ⟨some 58, _, _, _, _, _⟩) (v := _) rfl (by kernel_rfl) (by kernel_rfl) (by kernel_rfl) (fun _ _ _ h => h) (Or.inl ⟨by kernel_rfl, by intro w hSw; (try dsimp only at hSw); go_simp; try with_reducible rfl⟩) (by assumption) ?_
      simp only [Act.put, List.setIfInBounds_toArray, List.set_cons_zero, List.set_cons_succ]
      refine wpAnyH_take (i := 5) (oi := ⟨some 59, _, _, _, _, _⟩) (v := _) rfl (by kernel_rfl) (by kernel_rfl) (by kernel_rfl) (fun _ _ _ h => h) (Or.inl ⟨by kernel_rfl, by intro w hSw; (try dsimp only at hSw); go_simp; try with_reducible rfl⟩) (by assumption) ?_
      simp only [Act.put, List.setIfInBounds_toArray, List.set_cons_zero, List.set_cons_succ]
      refine wpAnyH_take (i := 6) (oi := ⟨some 60, _, _, _, _, _⟩) (v := _) rfl (by kernel_rfl) (by kernel_rfl) (by kernel_rfl) (fun _ _ _ h => h) (Or.inl ⟨by kernel_rfl, by intro w hSw; (try dsimp only at hSw); go_simp; try with_reducible rfl⟩) (by assumption) ?_
      simp only [Act.put, List.setIfInBounds_toArray, List.set_cons_zero, List.set_cons_succ]
      refine wpAnyH_ready (rs := [7]) (by kernel_rfl) (by simp) ?_
      refine AllReadyH.cons (o := ⟨some 61, _, _, _, _, _⟩) rfl (fun K hK => ?_) AllReadyH.nil
      go_simp
      go_at_call 46
      refine (ltotal_any _ _ _ cs _ ((HI.out.drewN 1).below bx1 (by simp)) hcs HCB.out).mono ?_
      rw [← HN.out]
      rintro e x7 ⟨rfl, rfl⟩
      go_wp2_with fail
      refine hK.out _ _ ?_ (fun hHeld2 => ?_)
      · (first | (try dsimp only); go_keep | (go_split_ands; refine ⟨?_, ?_, ?_⟩ <;> first | exact keepB bx5 (by assumption) | exact keepB bx4 (by assumption) | exact keepB bx3 (by assumption) | exact keepB bx2 (by assumption) | exact keepB bx1 (by assumption) | exact keepO bo5 (by first | (simp; done) | (simp; omega)) (by assumption) | exact keepO bo4 (by first | (simp; done) | (simp; omega)) (by assumption) | exact keepO bo3 (by first | (simp; done) | (simp; omega)) (by assumption) | exact keepO bo2 (by first | (simp; done) | (simp; omega)) (by assumption) | exact keepO bo1 (by first | (simp; done) | (simp; omega)) (by assumption) | exact keepW bg2 (by first | (simp; done) | (simp; omega)) (by assumption) | exact keepW bg1 (by first | (simp; done) | (simp; omega)) (by assumption) | assumption))
      clear hK K hHeld
      have hHeld := hHeld2
      clear hHeld2
      try simp only [Act.put, List.setIfInBounds_toArray, List.set_cons_zero, List.set_cons_succ]
      refine wpAnyH_take (i := 8) (oi := ⟨some 62, _, _, _, _, _⟩) (v := _) rfl (by kernel_rfl) (by kernel_rfl) (by kernel_rfl) (fun _ _ _ h => h) (Or.inl ⟨by kernel_rfl, by intro w hSw; (try dsimp only at hSw); go_simp; try with_reducible rfl⟩) (by assumption) ?_
      simp only [Act.put, List.setIfInBounds_toArray, List.set_cons_zero, List.set_cons_succ]
      refine wpAnyH_take (i := 9) (oi := ⟨some 63, _, _, _, _, _⟩) (v := _) rfl (by kernel_rfl) (by kernel_rfl) (by kernel_rfl) (fun _ _ _ h => h) (Or.inl ⟨by kernel_rfl, by intro w hSw; (try dsimp only at hSw); go_simp; try with_reducible rfl⟩) (by assumption) ?_
      simp only [Act.put, List.setIfInBounds_toArray, List.set_cons_zero, List.set_cons_succ]
      refine wpAnyH_take (i := 10) (oi := ⟨some 64, _, _, _, _, _⟩) (v := _) rfl (by kernel_rfl) (by kernel_rfl) (by kernel_rfl) (fun _ _ _ h => h) (Or.inl ⟨by kernel_rfl, by intro w hSw; (try dsimp only at hSw); go_simp; try with_reducible rfl⟩) (by assumption) ?_
      simp only [Act.put, List.setIfInBounds_toArray, List.set_cons_zero, List.set_cons_succ]
      refine wpAnyH_take (i := 11) (oi := ⟨some 65, _, _, _, _, _⟩) (v := _) rfl (by kernel_rfl) (by kernel_rfl) (by kernel_rfl) (fun _ _ _ h => h) (Or.inl ⟨by kernel_rfl, by intro w hSw; (try dsimp only at hSw); go_simp; try with_reducible rfl⟩) (by assumption) ?_
      simp only [Act.put, List.setIfInBounds_toArray, List.set_cons_zero, List.set_cons_succ]
      refine wpAnyH_take (i := 12) (oi := ⟨some 66, _, _, _, _, _⟩) (v := _) rfl (by kernel_rfl) (by kernel_rfl) (by kernel_rfl) (fun _ _ _ h => h) (Or.inl ⟨by kernel_rfl, by intro w hSw; (try dsimp only at hSw); go_simp; try with_reducible rfl⟩) (by assumption) ?_
      simp only [Act.put, List.setIfInBounds_toArray, List.set_cons_zero, List.set_cons_succ]
      refine wpAnyH_take (i := 14) (oi := ⟨some 68, _, _, _, _, _⟩) (v := _) rfl (by kernel_rfl) (by kernel_rfl) (by kernel_rfl) (fun _ _ _ h => h) (Or.inl ⟨by kernel_rfl, by intro w hSw; (try dsimp only at hSw); go_simp; try with_reducible rfl⟩) (by assumption) ?_
      simp only [Act.put, List.setIfInBounds_toArray, List.set_cons_zero, List.set_cons_succ]
      refine wpAnyH_take (i := 15) (oi := ⟨some 69, _, _, _, _, _⟩) (v := _) rfl (by kernel_rfl) (by kernel_rfl) (by kernel_rfl) (fun _ _ _ h => h) (Or.inl ⟨by kernel_rfl, by intro w hSw; (try dsimp only at hSw); go_simp; try with_reducible rfl⟩) (by assumption) ?_
      simp only [Act.put, List.setIfInBounds_toArray, List.set_cons_zero, List.set_cons_succ]
      refine wpAnyH_take (i := 16) (oi := ⟨some 70, _, _, _, _, _⟩) (v := _) rfl (by kernel_rfl) (by kernel_rfl) (by kernel_rfl) (fun _ _ _ h => h) (Or.inl ⟨by kernel_rfl, by intro w hSw; (try dsimp only at hSw); go_simp; try with_reducible rfl⟩) (by assumption) ?_
      simp only [Act.put, List.setIfInBounds_toArray, List.set_cons_zero, List.set_cons_succ]
      refine wpAnyH_take (i := 17) (oi := ⟨some 71, _, _, _, _, _⟩) (v := _) rfl (by kernel_rfl) (by kernel_rfl) (by kernel_rfl) (fun _ _ _ h => h) (Or.inl ⟨by kernel_rfl, by intro w hSw; (try dsimp only at hSw); go_simp; try with_reducible rfl⟩) (by assumption) ?_
      simp only [Act.put, List.setIfInBounds_toArray, List.set_cons_zero, List.set_cons_succ]
      refine wpAnyH_take (i := 18) (oi := ⟨some 72, _, _, _, _, _⟩) (v := _) rfl (by kernel_rfl) (by kernel_rfl) (by kernel_rfl) (fun _ _ _ h => h) (Or.inl ⟨by kernel_rfl, by intro w hSw; (try dsimp only at hSw); go_simp; try with_reducible rfl⟩) (by assumption) ?_
      simp only [Act.put, List.setIfInBounds_toArray, List.set_cons_zero, List.set_cons_succ]
      refine wpAnyH_take (i := 19) (oi := ⟨some 73, _, _, _, _, _⟩) (v := _) rfl (by kernel_rfl) (by kernel_rfl) (by kernel_rfl) (fun _ _ _ h => h) (Or.inl ⟨by kernel_rfl, by intro w hSw; (try dsimp only at hSw); go_simp; try with_reducible rfl⟩) (by assumption) ?_
      simp only [Act.put, List.setIfInBounds_toArray, List.set_cons_zero, List.set_cons_succ]
      refine wpAnyH_take (i := 20) (oi := ⟨some 74, _, _, _, _, _⟩) (v := _) rfl (by kernel_rfl) (by kernel_rfl) (by kernel_rfl) (fun _ _ _ h => h) (Or.inl ⟨by kernel_rfl, by intro w hSw; (try dsimp only at hSw); go_simp; try with_reducible rfl⟩) (by assumption) ?_
      simp only [Act.put, List.setIfInBounds_toArray, List.set_cons_zero, List.set_cons_succ]
      refine wpAnyH_take (i := 21) (oi := ⟨some 75, _, _, _, _, _⟩) (v := _) rfl (by kernel_rfl) (by kernel_rfl) (by kernel_rfl) (fun _ _ _ h => h) (Or.inl ⟨by kernel_rfl, by intro w hSw; (try dsimp only at hSw); go_simp; try with_reducible rfl⟩) (by assumption) ?_
      simp only [Act.put, List.setIfInBounds_toArray, List.set_cons_zero, List.set_cons_succ]
      refine wpAnyH_take (i := 22) (oi := ⟨some 76, _, _, _, _, _⟩) (v := _) rfl (by kernel_rfl) (by kernel_rfl) (by kernel_rfl) (fun _ _ _ h => h) (Or.inl ⟨by kernel_rfl, by intro w hSw; (try dsimp only at hSw); go_simp; try with_reducible rfl⟩) (by assumption) ?_
      simp only [Act.put, List.setIfInBounds_toArray, List.set_cons_zero, List.set_cons_succ]
      refine wpAnyH_take (i := 23) (oi := ⟨some 77, _, _, _, _, _⟩) (v := _) rfl (by kernel_rfl) (by kernel_rfl) (by kernel_rfl) (fun _ _ _ h => h) (Or.inl ⟨by kernel_rfl, by intro w hSw; (try dsimp only at hSw); go_simp; try with_reducible rfl⟩) (by assumption) ?_
      simp only [Act.put, List.setIfInBounds_toArray, List.set_cons_zero, List.set_cons_succ]
      refine wpAnyH_take (i := 24) (oi := ⟨some 78, _, _, _, _, _⟩) (v := _) rfl (by kernel_rfl) (by kernel_rfl) (by kernel_rfl) (fun _ _ _ h => h) (Or.inl ⟨by kernel_rfl, by intro w hSw; (try dsimp only at hSw); go_simp; try with_reducible rfl⟩) (by assumption) ?_
      simp only [Act.put, List.setIfInBounds_toArray, List.set_cons_zero, List.set_cons_succ]
      refine wpAnyH_take (i := 25) (oi := ⟨some 79, _, _, _, _, _⟩) (v := _) rfl (by kernel_rfl) (by kernel_rfl) (by kernel_rfl) (fun _ _ _ h => h) (Or.inl ⟨by kernel_rfl, by intro w hSw; (try dsimp only at hSw); go_simp; try with_reducible rfl⟩) (by assumption) ?_
      simp only [Act.put, List.setIfInBounds_toArray, List.set_cons_zero, List.set_cons_succ]
      refine wpAnyH_take (i := 26) (oi := ⟨some 80, _, _, _, _, _⟩) (v := _) rfl (by kernel_rfl) (by kernel_rfl) (by kernel_rfl) (fun _ _ _ h => h) (Or.inl ⟨by kernel_rfl, by intro w hSw; (try dsimp only at hSw); go_simp; try with_reducible rfl⟩) (by assumption) ?_
      simp only [Act.put, List.setIfInBounds_toArray, List.set_cons_zero, List.set_cons_succ]
      refine wpAnyH_take (i := 27) (oi := ⟨some 81, _, _, _, _, _⟩) (v := _) rfl (by kernel_rfl) (by kernel_rfl) (by kernel_rfl) (fun _ _ _ h => h) (Or.inl ⟨by kernel_rfl, by intro w hSw; (try dsimp only at hSw); go_simp; try with_reducible rfl⟩) (by assumption) ?_
      simp only [Act.put, List.setIfInBounds_toArray, List.set_cons_zero, List.set_cons_succ]
      refine wpAnyH_take (i := 28) (oi := ⟨some 82, _, _, _, _, _⟩) (v := _) rfl (by kernel_rfl) (by kernel_rfl) (by kernel_rfl) (fun _ _ _ h => h) (Or.inl ⟨by kernel_rfl, by intro w hSw; (try dsimp only at hSw); go_simp; try with_reducible rfl⟩) (by assumption) ?_
      simp only [Act.put, List.setIfInBounds_toArray, List.set_cons_zero, List.set_cons_succ]
      refine wpAnyH_ready (rs := [13]) (by kernel_rfl) (by simp) ?_
      refine AllReadyH.cons (o := ⟨some 67, _, _, _, _, _⟩) rfl (fun K hK => ?_) AllReadyH.nil
      go_simp
      go_at_call 47
      refine (AreaLeft_any _ _ _ _ W L _ _ ds R _ ((HTu.out.drewN 1).below bx1 (by simp)) (by have := bx1.size; simp at this; omega) ((HTo.out.drewN 1).below bx1 (by simp)) (by have := bx1.size; simp at this; omega)).mono ?_
      rw [if_pos HV.out, HAL.out]
      rintro e x8 ⟨rfl, bx2⟩
      go_wp2_with fail
      refine hK.out _ _ ?_ (fun hHeld2 => ?_)
      · (first | (try dsimp only); go_keep | (go_split_ands; refine ⟨?_, ?_, ?_⟩ <;> first | exact keepB bx5 (by assumption) | exact keepB bx4 (by assumption) | exact keepB bx3 (by assumption) | exact keepB bx2 (by assumption) | exact keepB bx1 (by assumption) | exact keepO bo5 (by first | (simp; done) | (simp; omega)) (by assumption) | exact keepO bo4 (by first | (simp; done) | (simp; omega)) (by assumption) | exact keepO bo3 (by first | (simp; done) | (simp; omega)) (by assumption) | exact keepO bo2 (by first | (simp; done) | (simp; omega)) (by assumption) | exact keepO bo1 (by first | (simp; done) | (simp; omega)) (by assumption) | exact keepW bg2 (by first | (simp; done) | (simp; omega)) (by assumption) | exact keepW bg1 (by first | (simp; done) | (simp; omega)) (by assumption) | assumption))
      clear hK K hHeld
      have hHeld := hHeld2
      clear hHeld2
      try simp only [Act.put, List.setIfInBounds_toArray, List.set_cons_zero, List.set_cons_succ]
      refine wpAnyH_take (i := 29) (oi := ⟨some 83, _, _, _, _, _⟩) (v := _) rfl (by kernel_rfl) (by kernel_rfl) (by kernel_rfl) (fun _ _ _ h => h) (Or.inl ⟨by kernel_rfl, by intro w hSw; (try dsimp only at hSw); go_simp; try with_reducible rfl⟩) (by assumption) ?_
      simp only [Act.put, List.setIfInBounds_toArray, List.set_cons_zero, List.set_cons_succ]
      refine wpAnyH_take (i := 30) (oi := ⟨some 84, _, _, _, _, _⟩) (v := _) rfl (by kernel_rfl) (by kernel_rfl) (by kernel_rfl) (fun _ _ _ h => h) (Or.inl ⟨by kernel_rfl, by intro w hSw; (try dsimp only at hSw); go_simp; try with_reducible rfl⟩) (by assumption) ?_
      simp only [Act.put, List.setIfInBounds_toArray, List.set_cons_zero, List.set_cons_succ]
      refine wpAnyH_take (i := 31) (oi := ⟨some 2, _, _, _, _, _⟩) (v := _) rfl (by kernel_rfl) (by kernel_rfl) (by kernel_rfl) (fun _ _ _ h => h) (Or.inl ⟨by kernel_rfl, by intro w hSw; (try dsimp only at hSw); go_simp; try with_reducible rfl⟩) (by assumption) ?_
      simp only [Act.put, List.setIfInBounds_toArray, List.set_cons_zero, List.set_cons_succ]
      refine wpAnyH_done (by kernel_rfl) ?_ _
      go_wp2
      go_ret
      exact ⟨ret_bool (by simp), HB5.out.trans (((of_drew bx1).trans (bx2.mono (by have := (of_drew bx1).size; omega))).mono (by omega))⟩
end Go.Proofs.Ytodbgkflakfjpaa
