/-
  Lemmas and contracts of single functions of this program, used by the proofs of its laws: what each call returns and what becomes of memory. Conditions: the hypotheses of each theorem.
-/
import Derived.Test.YtcebdokdekgeaaaMillZ
namespace Go.Proofs.Ytcebdokdekgeaaa
open Go.RowKit
attribute [local go_sem ↓] Go.wp_at_zero Go.wp_at_succ

theorem runB_rt : ∀ {m m' : Mil} {evs : List Evt}, runB m evs = some m' → ∀ e ∈ evs, e.k = 0 → (1 ≤ e.r ∧ e.r ≤ 60 ∧ 1 ≤ e.t ∧ e.t ≤ 400) ∧ 0 ≤ e.r * e.t ∧ e.r * e.t ≤ 24000
  | _, _, [], _ => fun e he => by cases he
  | m, m', x :: t, h => fun e he hk => by
    rw [runB] at h
    cases h1 : apE m x with
    | none => rw [h1] at h; cases h
    | some m1 =>
      rw [h1] at h
      rcases List.mem_cons.1 he with rfl | he
      · exact apE_rt hk h1
      · exact runB_rt h e he hk
theorem cameL_snoc (evs : List Evt) (e : Evt) : cameL (evs ++ [e]) = cameL evs + if e.k = 0 then e.r * e.t else 0 := by
  unfold cameL; rw [List.map_append, List.sum_append]; simp
theorem came_rng {evs : List Evt} (h : ∀ e ∈ evs, e.k = 0 → 0 ≤ e.r * e.t ∧ e.r * e.t ≤ 24000) : ∀ k, k ≤ evs.length → 0 ≤ cameL (evs.take k) ∧ cameL (evs.take k) ≤ 24000 * k
  | 0, _ => by simp [cameL]
  | k + 1, hk => by
    have ih := came_rng h k (by omega)
    have hm : ve evs k ∈ evs := by rw [ve_eq (by omega)]; exact List.getElem_mem _
    rw [take_ve (by omega), cameL_snoc]
    by_cases h0 : (ve evs k).k = 0
    · have := h _ hm h0
      rw [if_pos h0]; omega
    · rw [if_neg h0]; omega
theorem ahL_yesM {m : Mil} (h : m.ok = true) : ahL m.es m.a m.b m.z = heldL m.es := by unfold ahL; exact if_pos h
set_option maxRecDepth 100000 in
set_option maxHeartbeats 8000000 in
theorem FnRunBookArea_walk (v : Value) (xs : List Int) (w : World) (h : Bytes w 0 w.heap.size v xs) :
    Calls Try.prog 9 #[v] w fun e w' => e = .returned (.bool true) ∧ Below w.heap.size w w' := by
  have hv : ∃ A c, v = .slice A xs.length c ∧ xs.length ≤ c ∧ c ≤ 2 ^ 63 - 1 := by obtain ⟨A, c, e, h1, h2, _⟩ := h; exact ⟨A, c, e, h1, by unfold maxLen at h2; omega⟩
  obtain ⟨A0, c0, rfl, hc0, hm0⟩ := hv
  by_cases hl : 1048576 < xs.length
  · have hl' : (1048576 : Int) < (xs.length : Int) := by omega
    go_enter Try.func9, Try.ntmps9
    go_wp2
    go_ret
    exact ⟨rfl, Below.refl _ _⟩
  have hl' : ¬ (1048576 : Int) < (xs.length : Int) := by omega
  go_enter Try.func9, Try.ntmps9
  go_wp2_with fail
  refine (DrawRunBook_any _ xs w h).mono ?_
  rintro e w1 ⟨AL, nL, cL, evs, rfl, hn, hts, hl20, b1⟩
  subst hn
  obtain ⟨hcL, hmL⟩ : evs.length ≤ cL ∧ cL ≤ 2 ^ 63 - 1 := by obtain ⟨A', c', e, q1, q2⟩ := hts.form; rw [evT_len] at e q1; injection e with e1 e2 e3; subst e3; exact ⟨q1, q2⟩
  have hs1 := b1.size
  clear h hl hl'
  go_wp2_with fail
  obtain ⟨R, hR⟩ : ∃ R, R = rbV evs := ⟨_, rfl⟩
  have HR := Lib.hid hR
  refine (RunBook_any w.heap.size w1.heap.size _ evs w1 hts (Nat.le_refl _)).mono ?_
  rw [← hR]
  intro e w3 hpost
  obtain ⟨v3', rfl, ho3, b3⟩ := hpost
  obtain ⟨⟨es5, a5, b5, z5⟩, hM5⟩ : ∃ M, M = R.getD Mil.nil := ⟨_, rfl⟩
  obtain ⟨rs, hrs⟩ : ∃ rs, rs = R.isSome := ⟨_, rfl⟩
  rw [← hM5] at ho3
  rw [← hM5, ← hrs]
  have HM5 := Lib.hid hM5
  have Hrs := Lib.hid hrs
  dsimp only at ho3 ⊢
  obtain ⟨A3, c3, hv3, _⟩ := ho3.form
  subst hv3
  have hts3 := hts.below b3 (by omega)
  have B3 := b1.trans (b3.mono (by omega))
  have hs3 := b3.size
  clear b3 b1 hts hR hM5 hrs
  go_wp2_with fail
  obtain ⟨w4, hw1⟩ : ∃ w4, w4 = w3.alloc (.cells #[.slice A3 es5.length c3, .int .i64 a5, .int .i64 b5, .int .i64 z5] 25) := ⟨_, rfl⟩
  have o0 : w4.cell? ⟨w3.heap.size, 0, none⟩ = some (.slice A3 es5.length c3) := by rw [hw1]; go_simp
  have o1 : w4.cell? ⟨w3.heap.size, 1, none⟩ = some (.int .i64 a5) := by rw [hw1]; go_simp
  have o2 : w4.cell? ⟨w3.heap.size, 2, none⟩ = some (.int .i64 b5) := by rw [hw1]; go_simp
  have o3 : w4.cell? ⟨w3.heap.size, 3, none⟩ = some (.int .i64 z5) := by rw [hw1]; go_simp
  have bo : Below w3.heap.size w3 w4 := by rw [hw1]; exact (Below.refl _ _).alloc (Nat.le_refl _) _
  have zo : w3.heap.size < w4.heap.size := by rw [hw1]; simp
  have Ho := Lib.hid (show w4.heap[w3.heap.size]? = some (.cells #[.slice A3 es5.length c3, .int .i64 a5, .int .i64 b5, .int .i64 z5] 25) by rw [hw1]; exact heap_alloc_new w3 _)
  rw [← hw1]
  clear hw1
  have hts4 := hts3.below bo (by omega)
  have B4 := B3.trans (bo.mono (by omega))
  have ho4 := ho3.below bo (Nat.le_refl _)
  clear bo B3 hts3 ho3 Ho
  refine (sRunBook_any w.heap.size w1.heap.size _ evs w4 hts4 (by omega)).mono ?_
  rw [← HR.out]
  intro e w5 hpost
  obtain ⟨v5', rfl, he5, b5'⟩ := hpost
  rw [← HM5.out] at he5
  rw [← HM5.out, ← Hrs.out]
  dsimp only at he5 ⊢
  obtain ⟨A5, c5, hv5, _⟩ := he5.form
  subst hv5
  have hts5 := hts4.below b5' (by omega)
  have B5 := B4.trans (b5'.mono (by omega))
  have ho5 := ho4.below b5' (by omega)
  have hs5 := b5'.size
  replace o0 := keepB b5' o0; replace o1 := keepB b5' o1; replace o2 := keepB b5' o2; replace o3 := keepB b5' o3
  clear b5' B4 hts4 ho4
  have hbd : Below w5.heap.size w5 (w5.alloc (.cells #[.slice A5 es5.length c5, .int .i64 a5, .int .i64 b5, .int .i64 z5] 25)) := (Below.refl _ _).alloc (Nat.le_refl _) _
  have x_o0 := keepB hbd o0
  have x_o1 := keepB hbd o1
  have x_o2 := keepB hbd o2
  have x_o3 := keepB hbd o3
  go_wp2_with fail
  clear hbd x_o0 x_o1 x_o2 x_o3
  obtain ⟨w6, hw1⟩ : ∃ w6, w6 = w5.alloc (.cells #[.slice A5 es5.length c5, .int .i64 a5, .int .i64 b5, .int .i64 z5] 25) := ⟨_, rfl⟩
  have p0 : w6.cell? ⟨w5.heap.size, 0, none⟩ = some (.slice A5 es5.length c5) := by rw [hw1]; go_simp
  have p1 : w6.cell? ⟨w5.heap.size, 1, none⟩ = some (.int .i64 a5) := by rw [hw1]; go_simp
  have p2 : w6.cell? ⟨w5.heap.size, 2, none⟩ = some (.int .i64 b5) := by rw [hw1]; go_simp
  have p3 : w6.cell? ⟨w5.heap.size, 3, none⟩ = some (.int .i64 z5) := by rw [hw1]; go_simp
  have bp : Below w5.heap.size w5 w6 := by rw [hw1]; exact (Below.refl _ _).alloc (Nat.le_refl _) _
  have zp : w5.heap.size < w6.heap.size := by rw [hw1]; simp
  rw [← hw1]
  clear hw1
  have hts6 := hts5.below bp (by omega)
  have B6 := B5.trans (bp.mono (by omega))
  have ho6 := ho5.below bp (by omega)
  have he6 := he5.below bp (Nat.le_refl _)
  have hs6 := bp.size
  replace o0 := keepB bp o0; replace o1 := keepB bp o1; replace o2 := keepB bp o2; replace o3 := keepB bp o3
  clear bp B5 hts5 ho5 he5
  refine (equalMill_same _ _ _ _ _ _ es5 a5 b5 z5 w6 ho6.es (by omega) he6 (by omega)).mono ?_
  rintro e w7 ⟨rfl, b7⟩
  have hts7 := hts6.below b7 (by omega)
  have B7 := B6.trans (b7.mono (by omega))
  have ho7 := ho6.below b7 (by omega)
  have he7 := he6.below b7 (by omega)
  have hs7 := b7.size
  replace o0 := keepB b7 o0; replace o1 := keepB b7 o1; replace o2 := keepB b7 o2; replace o3 := keepB b7 o3; replace p0 := keepB b7 p0; replace p1 := keepB b7 p1; replace p2 := keepB b7 p2; replace p3 := keepB b7 p3
  clear b7 B6 hts6 ho6 he6
  cases rs
  · have hb1 : (false != false) = false := rfl
    have hb2 : (false == false) = true := rfl
    go_wp2_with fail
    refine (equalMill_same _ _ _ _ _ _ es5 a5 b5 z5 w7 ho7.es (by omega) he7 (by omega)).mono ?_
    rintro e w8 ⟨rfl, b8⟩
    have B8 := B7.trans (b8.mono (by omega))
    clear b8 B7
    go_wp2
    go_ret
    exact ⟨rfl, B8⟩
  have HS : Hid (runB Mil.nil evs = some ⟨es5, a5, b5, z5⟩) := by
    have e1 := HR.out
    have e2 := HM5.out
    have e3 := Hrs.out
    cases hR9 : R with
    | none => rw [hR9] at e3; cases e3
    | some m9 =>
      rw [hR9] at e1 e2
      unfold rbV at e1
      rw [if_pos (by omega)] at e1
      show runB Mil.nil evs = _
      rw [← e1, e2]; rfl
  have Hts := Lib.hid hts7
  have HB7 := Lib.hid B7
  have Hoe := Lib.hid ho7
  have hb1 : (true != true) = false := rfl
  have hb2 : (true == true) = true := rfl
  have hw1 : w.heap.size ≤ w1.heap.size := hs1
  have hw2 : w1.heap.size ≤ w7.heap.size := by omega
  have hw3 : w3.heap.size ≤ w7.heap.size := by omega
  clear hts7 B7 ho7 he7 HR HM5 Hrs R p0 p1 p2 p3
  have hok := runB_ok nil_ok HS.out
  have hrt := runB_rt HS.out
  have hv5 := vMill_iff.1 hok.1
  dsimp only [Mil.nil] at hok hv5
  have HH := Lib.hid (held_rng (fun k hk => (hv5.1 k hk).1) es5.length (Nat.le_refl _))
  have HAH := Lib.hid (show ahL es5 a5 b5 z5 = heldL es5 from ahL_yesM (m := ⟨es5, a5, b5, z5⟩) hok.1)
  have HCR := Lib.hid (came_rng (evs := evs) fun e he hk => (hrt e he hk).2)
  have HRT := Lib.hid hrt
  have ha5 := hok.2
  have hsum := hv5.2.2.2.2.2
  have h12 := hv5.2.1
  have hb5 := hv5.2.2.2.1
  have hz5 := hv5.2.2.2.2.1
  have ha5' := hv5.2.2.1
  have Hok := Lib.hid hok.1
  have Hsum := Lib.hid hsum
  have Ha5 := Lib.hid ha5
  have hc0 : cameL ([] : List Evt) = 0 := by simp [cameL]
  have HC0 := Lib.hid hc0
  clear hok hrt hv5 HS hsum ha5 hc0
  go_wp2
  go_loopw [8, 9] (fun nn i wr => ∃ k : Nat, k ≤ evs.length ∧ i = .int .i64 k ∧ nn = .int .i64 (cameL (evs.take k)) ∧ Below w7.heap.size w7 wr) (fun _ i _ => evs.length - (intOf i).toNat)
  case atStart => exact ⟨0, by omega, rfl, by rw [List.take_zero, HC0.out], Below.refl _ _⟩
  case round =>
    obtain ⟨k, hk, rfl, rfl, bw⟩ := hrel
    have hzr := bw.size
    replace o0 := keepB bw o0; replace o1 := keepB bw o1; replace o2 := keepB bw o2; replace o3 := keepB bw o3
    have hcr := HCR.out k hk
    have hts := Hts.out.below bw (by omega)
    have Hbw := Lib.hid bw
    clear bw
    by_cases hlt : k < evs.length
    · obtain ⟨bL, oL, rfl, _, _, e0, e1, e2, e3, e4, e5, e6⟩ := hts.c7 (i := k) (by rw [evT_len]; exact hlt)
      rw [ve_row hlt] at e0 e1 e2 e3 e4 e5 e6
      have hk0 : (0 : Int) ≤ (k : Int) := by omega
      have hk1 : (k : Int) < (evs.length : Int) := by omega
      have HN := Lib.hid (show cameL (evs.take (k + 1)) = cameL (evs.take k) + if (ve evs k).k = 0 then (ve evs k).r * (ve evs k).t else 0 by rw [take_ve hlt, cameL_snoc])
      have hrt := HRT.out (ve evs k) (by rw [ve_eq hlt]; exact List.getElem_mem hlt)
      obtain ⟨E, hE⟩ : ∃ E, E = ve evs k := ⟨_, rfl⟩
      rw [← hE] at e0 e3 e5 HN hrt
      obtain ⟨ek, lb, l, r, f, t, g⟩ := E
      replace e0 : wr.cell? ⟨bL, oL + k * 7, none⟩ = some (.int .i64 ek) := e0
      replace e3 : wr.cell? ⟨bL, oL + k * 7 + 3, none⟩ = some (.int .i64 r) := e3
      replace e5 : wr.cell? ⟨bL, oL + k * 7 + 5, none⟩ = some (.int .i64 t) := e5
      dsimp only at HN hrt
      obtain ⟨C, hC⟩ : ∃ C, C = cameL (evs.take k) := ⟨_, rfl⟩
      rw [← hC] at HN hcr ⊢
      clear hE hC e1 e2 e4 e6 hts
      by_cases h0 : ek = 0
      · subst h0
        have hr := hrt rfl
        obtain ⟨D, hD⟩ : ∃ D, r * t = D := ⟨_, rfl⟩
        rw [hD] at hr
        have HN2 := Lib.hid (show cameL (evs.take (k + 1)) = C + D by rw [HN.out, if_pos rfl, hD])
        have g1 : IntKind.i64.wrap (r * t) = D := by rw [hD]; exact IntWalk.i64_in _ (by omega)
        have g2 : IntKind.i64.wrap (C + D) = C + D := IntWalk.i64_in _ (by omega)
        have g3 : r * t = D := hD
        have g4 : IntKind.i64.wrap D = D := IntWalk.i64_in _ (by omega)
        clear HN hrt hD
        go_wp2
        refine wp_region_held_drew (S := fun w' => w'.cell? ⟨bL, oL + k * 7 + 3, none⟩ = some (.int .i64 r) ∧ w'.cell? ⟨bL, oL + k * 7 + 5, none⟩ = some (.int .i64 t)) (by kernel_rfl) ?_ (fun hHeld => ?_)
        · (first | (try dsimp only); go_keep | (go_split_ands; refine ⟨?_, ?_⟩ <;> first | exact keepB bx5 (by assumption) | exact keepB bx4 (by assumption) | exact keepB bx3 (by assumption) | exact keepB bx2 (by assumption) | exact keepB bx1 (by assumption) | exact keepO bo5 (by first | (simp; done) | (simp; omega)) (by assumption) | exact keepO bo4 (by first | (simp; done) | (simp; omega)) (by assumption) | exact keepO bo3 (by first | (simp; done) | (simp; omega)) (by assumption) | exact keepO bo2 (by first | (simp; done) | (simp; omega)) (by assumption) | exact keepO bo1 (by first | (simp; done) | (simp; omega)) (by assumption) | exact keepW bg2 (by first | (simp; done) | (simp; omega)) (by assumption) | exact keepW bg1 (by first | (simp; done) | (simp; omega)) (by assumption) | assumption))
        refine wpAnyH_take (i := 0) (oi := ⟨some 58, _, _, _, _, _⟩) (v := _) rfl (by kernel_rfl) (by kernel_rfl) (by kernel_rfl) (fun _ _ _ h => h) (Or.inl ⟨by kernel_rfl, by intro w hSw; (try dsimp only at hSw); go_simp; try with_reducible rfl⟩) (by assumption) ?_
        simp only [Act.put, List.setIfInBounds_toArray, List.set_cons_zero, List.set_cons_succ]
        refine wpAnyH_take (i := 1) (oi := ⟨some 59, _, _, _, _, _⟩) (v := _) rfl (by kernel_rfl) (by kernel_rfl) (by kernel_rfl) (fun _ _ _ h => h) (Or.inl ⟨by kernel_rfl, by intro w hSw; (try dsimp only at hSw); go_simp; try with_reducible rfl⟩) (by assumption) ?_
        simp only [Act.put, List.setIfInBounds_toArray, List.set_cons_zero, List.set_cons_succ]
        refine wpAnyH_take (i := 2) (oi := ⟨some 60, _, _, _, _, _⟩) (v := _) rfl (by kernel_rfl) (by kernel_rfl) (by kernel_rfl) (fun _ _ _ h => h) (Or.inl ⟨by kernel_rfl, by intro w hSw; (try dsimp only at hSw); go_simp; try with_reducible rfl⟩) (by assumption) ?_
        simp only [Act.put, List.setIfInBounds_toArray, List.set_cons_zero, List.set_cons_succ]
        refine wpAnyH_take (i := 3) (oi := ⟨some 61, _, _, _, _, _⟩) (v := _) rfl (by kernel_rfl) (by kernel_rfl) (by kernel_rfl) (fun _ _ _ h => h) (Or.inl ⟨by kernel_rfl, by intro w hSw; (try dsimp only at hSw); go_simp; try with_reducible rfl⟩) (by assumption) ?_
        simp only [Act.put, List.setIfInBounds_toArray, List.set_cons_zero, List.set_cons_succ]
        refine wpAnyH_take (i := 4) (oi := ⟨some 62, _, _, _, _, _⟩) (v := _) rfl (by kernel_rfl) (by kernel_rfl) (by kernel_rfl) (fun _ _ _ h => h) (Or.inl ⟨by kernel_rfl, by intro w hSw; (try dsimp only at hSw); go_simp; try with_reducible rfl⟩) (by assumption) ?_
        simp only [Act.put, List.setIfInBounds_toArray, List.set_cons_zero, List.set_cons_succ]
        refine wpAnyH_take (i := 5) (oi := ⟨some 63, _, _, _, _, _⟩) (v := _) rfl (by kernel_rfl) (by kernel_rfl) (by kernel_rfl) (fun _ _ _ h => h) (Or.inl ⟨by kernel_rfl, by intro w hSw; (try dsimp only at hSw); go_simp; try with_reducible rfl⟩) (by assumption) ?_
        simp only [Act.put, List.setIfInBounds_toArray, List.set_cons_zero, List.set_cons_succ]
        refine wpAnyH_take (i := 6) (oi := ⟨some 64, _, _, _, _, _⟩) (v := _) rfl (by kernel_rfl) (by kernel_rfl) (by kernel_rfl) (fun _ _ _ h => h) (Or.inl ⟨by kernel_rfl, by intro w hSw; (try dsimp only at hSw); go_simp; try with_reducible rfl⟩) (by assumption) ?_
        simp only [Act.put, List.setIfInBounds_toArray, List.set_cons_zero, List.set_cons_succ]
        refine wpAnyH_take (i := 7) (oi := ⟨some 65, _, _, _, _, _⟩) (v := _) rfl (by kernel_rfl) (by kernel_rfl) (by kernel_rfl) (fun _ _ _ h => h) (Or.inl ⟨by kernel_rfl, by intro w hSw; (try dsimp only at hSw); go_simp; try with_reducible rfl⟩) (by assumption) ?_
        simp only [Act.put, List.setIfInBounds_toArray, List.set_cons_zero, List.set_cons_succ]
        refine wpAnyH_take (i := 8) (oi := ⟨some 66, _, _, _, _, _⟩) (v := _) rfl (by kernel_rfl) (by kernel_rfl) (by kernel_rfl) (fun _ _ _ h => h) (Or.inl ⟨by kernel_rfl, by intro w hSw; (try dsimp only at hSw); go_simp; try with_reducible rfl⟩) (by assumption) ?_
        simp only [Act.put, List.setIfInBounds_toArray, List.set_cons_zero, List.set_cons_succ]
        refine wpAnyH_take (i := 9) (oi := ⟨some 67, _, _, _, _, _⟩) (v := _) rfl (by kernel_rfl) (by kernel_rfl) (by kernel_rfl) (fun _ _ _ h => h) (Or.inl ⟨by kernel_rfl, by intro w hSw; (try dsimp only at hSw); go_simp; try with_reducible rfl⟩) (by assumption) ?_
        simp only [Act.put, List.setIfInBounds_toArray, List.set_cons_zero, List.set_cons_succ]
        refine wpAnyH_take (i := 10) (oi := ⟨some 68, _, _, _, _, _⟩) (v := _) rfl (by kernel_rfl) (by kernel_rfl) (by kernel_rfl) (fun _ _ _ h => h) (Or.inl ⟨by kernel_rfl, by intro w hSw; (try dsimp only at hSw); go_simp; try with_reducible rfl⟩) (by assumption) ?_
        simp only [Act.put, List.setIfInBounds_toArray, List.set_cons_zero, List.set_cons_succ]
        refine wpAnyH_take (i := 11) (oi := ⟨some 69, _, _, _, _, _⟩) (v := _) rfl (by kernel_rfl) (by kernel_rfl) (by kernel_rfl) (fun _ _ _ h => h) (Or.inl ⟨by kernel_rfl, by intro w hSw; (try dsimp only at hSw); go_simp; try with_reducible rfl⟩) (by assumption) ?_
        simp only [Act.put, List.setIfInBounds_toArray, List.set_cons_zero, List.set_cons_succ]
        refine wpAnyH_take (i := 12) (oi := ⟨some 70, _, _, _, _, _⟩) (v := _) rfl (by kernel_rfl) (by kernel_rfl) (by kernel_rfl) (fun _ _ _ h => h) (Or.inl ⟨by kernel_rfl, by intro w hSw; (try dsimp only at hSw); go_simp; try with_reducible rfl⟩) (by assumption) ?_
        simp only [Act.put, List.setIfInBounds_toArray, List.set_cons_zero, List.set_cons_succ]
        refine wpAnyH_take (i := 13) (oi := ⟨some 71, _, _, _, _, _⟩) (v := _) rfl (by kernel_rfl) (by kernel_rfl) (by kernel_rfl) (fun _ _ _ h => h) (Or.inl ⟨by kernel_rfl, by intro w hSw; (try dsimp only at hSw); go_simp; try with_reducible rfl⟩) (by assumption) ?_
        simp only [Act.put, List.setIfInBounds_toArray, List.set_cons_zero, List.set_cons_succ]
        refine wpAnyH_take (i := 14) (oi := ⟨some 72, _, _, _, _, _⟩) (v := _) rfl (by kernel_rfl) (by kernel_rfl) (by kernel_rfl) (fun _ _ _ h => h) (Or.inl ⟨by kernel_rfl, by intro w hSw; (try dsimp only at hSw); go_simp; try with_reducible rfl⟩) (by assumption) ?_
        simp only [Act.put, List.setIfInBounds_toArray, List.set_cons_zero, List.set_cons_succ]
        refine wpAnyH_take (i := 15) (oi := ⟨some 8, _, _, _, _, _⟩) (v := _) rfl (by kernel_rfl) (by kernel_rfl) (by kernel_rfl) (fun _ _ _ h => h) (Or.inl ⟨by kernel_rfl, by intro w hSw; (try dsimp only at hSw); go_simp; try with_reducible rfl⟩) (by assumption) ?_
        simp only [Act.put, List.setIfInBounds_toArray, List.set_cons_zero, List.set_cons_succ]
        refine wpAnyH_done (by kernel_rfl) ?_ _
        go_wp2
        go_roundw
        case rel => exact ⟨k + 1, by omega, by go_num, by rw [HN2.out], Hbw.out.trans ((Qt.one _ 1).below _)⟩
        case measure => simp [intOf]; omega
      · have hkb : (ek == 0) = false := beq_f h0
        have HN2 := Lib.hid (show cameL (evs.take (k + 1)) = C by rw [HN.out, if_neg h0, Int.add_zero])
        clear HN hrt h0
        go_wp2
        go_roundw
        case rel => exact ⟨k + 1, by omega, by go_num, by rw [HN2.out], Hbw.out⟩
        case measure => simp [intOf]; omega
    · have hke : k = evs.length := by omega
      have HCA := Lib.hid (show cameL (evs.take k) = a5 by rw [hke, List.take_length]; have := Ha5.out; omega)
      rw [HCA.out]
      have hnk : ¬ (k : Int) < (evs.length : Int) := by omega
      obtain ⟨H, hH⟩ : ∃ H, H = heldL es5 := ⟨_, rfl⟩
      have HV := Lib.hid (show ahL es5 a5 b5 z5 = H by rw [HAH.out, hH])
      have hsum := Hsum.out
      rw [← hH] at hsum
      have hhH := HH.out
      rw [List.take_length, ← hH] at hhH
      have hH2 : 0 ≤ H ∧ H ≤ 900000 := by omega
      have c1 : (H + b5 + z5 == a5) = true := beq_t hsum
      have g1 : IntKind.i64.wrap (H + b5) = H + b5 := IntWalk.i64_in _ (by omega)
      have g2 : IntKind.i64.wrap (H + b5 + z5) = H + b5 + z5 := IntWalk.i64_in _ (by omega)
      have Hoe2 := Lib.hid ((Hoe.out.es).below Hbw.out (by omega))
      have Hi := Lib.hid (Mil.i64 (m := ⟨es5, a5, b5, z5⟩) Hok.out)
      clear hH hsum hhH hts hcr
      go_wp2
      refine wp_region_held_drew (S := fun w' => w'.cell? ⟨w3.heap.size, 0, none⟩ = some (.slice A3 es5.length c3) ∧ w'.cell? ⟨w3.heap.size, 1, none⟩ = some (.int .i64 a5) ∧ w'.cell? ⟨w3.heap.size, 2, none⟩ = some (.int .i64 b5) ∧ w'.cell? ⟨w3.heap.size, 3, none⟩ = some (.int .i64 z5)) (by kernel_rfl) ?_ (fun hHeld => ?_)
      · (first | (try dsimp only); go_keep | (go_split_ands; refine ⟨?_, ?_, ?_, ?_⟩ <;> first | exact keepB bx5 (by assumption) | exact keepB bx4 (by assumption) | exact keepB bx3 (by assumption) | exact keepB bx2 (by assumption) | exact keepB bx1 (by assumption) | exact keepO bo5 (by first | (simp; done) | (simp; omega)) (by assumption) | exact keepO bo4 (by first | (simp; done) | (simp; omega)) (by assumption) | exact keepO bo3 (by first | (simp; done) | (simp; omega)) (by assumption) | exact keepO bo2 (by first | (simp; done) | (simp; omega)) (by assumption) | exact keepO bo1 (by first | (simp; done) | (simp; omega)) (by assumption) | exact keepW bg2 (by first | (simp; done) | (simp; omega)) (by assumption) | exact keepW bg1 (by first | (simp; done) | (simp; omega)) (by assumption) | assumption))
      refine wpAnyH_take (i := 0) (oi := ⟨some 73, _, _, _, _, _⟩) (v := _) rfl (by kernel_rfl) (by kernel_rfl) (by kernel_rfl) (fun _ _ _ h => h) (Or.inl ⟨by kernel_rfl, by intro w hSw; (try dsimp only at hSw); go_simp; try with_reducible rfl⟩) (by assumption) ?_
      simp only [Act.put, List.setIfInBounds_toArray, List.set_cons_zero, List.set_cons_succ]
      refine wpAnyH_take (i := 2) (oi := ⟨some 75, _, _, _, _, _⟩) (v := _) rfl (by kernel_rfl) (by kernel_rfl) (by kernel_rfl) (fun _ _ _ h => h) (Or.inl ⟨by kernel_rfl, by intro w hSw; (try dsimp only at hSw); go_simp; try with_reducible rfl⟩) (by assumption) ?_
      simp only [Act.put, List.setIfInBounds_toArray, List.set_cons_zero, List.set_cons_succ]
      refine wpAnyH_take (i := 3) (oi := ⟨some 76, _, _, _, _, _⟩) (v := _) rfl (by kernel_rfl) (by kernel_rfl) (by kernel_rfl) (fun _ _ _ h => h) (Or.inl ⟨by kernel_rfl, by intro w hSw; (try dsimp only at hSw); go_simp; try with_reducible rfl⟩) (by assumption) ?_
      simp only [Act.put, List.setIfInBounds_toArray, List.set_cons_zero, List.set_cons_succ]
      refine wpAnyH_take (i := 5) (oi := ⟨some 78, _, _, _, _, _⟩) (v := _) rfl (by kernel_rfl) (by kernel_rfl) (by kernel_rfl) (fun _ _ _ h => h) (Or.inl ⟨by kernel_rfl, by intro w hSw; (try dsimp only at hSw); go_simp; try with_reducible rfl⟩) (by assumption) ?_
      simp only [Act.put, List.setIfInBounds_toArray, List.set_cons_zero, List.set_cons_succ]
      refine wpAnyH_take (i := 6) (oi := ⟨some 79, _, _, _, _, _⟩) (v := _) rfl (by kernel_rfl) (by kernel_rfl) (by kernel_rfl) (fun _ _ _ h => h) (Or.inl ⟨by kernel_rfl, by intro w hSw; (try dsimp only at hSw); go_simp; try with_reducible rfl⟩) (by assumption) ?_
      simp only [Act.put, List.setIfInBounds_toArray, List.set_cons_zero, List.set_cons_succ]
      refine wpAnyH_take (i := 8) (oi := ⟨some 81, _, _, _, _, _⟩) (v := _) rfl (by kernel_rfl) (by kernel_rfl) (by kernel_rfl) (fun _ _ _ h => h) (Or.inl ⟨by kernel_rfl, by intro w hSw; (try dsimp only at hSw); go_simp; try with_reducible rfl⟩) (by assumption) ?_
      simp only [Act.put, List.setIfInBounds_toArray, List.set_cons_zero, List.set_cons_succ]
      refine wpAnyH_ready (rs := [1]) (by kernel_rfl) (by simp) ?_
      refine AllReadyH.cons (o := ⟨some 74, _, _, _, _, _⟩) rfl (fun K hK => ?_) AllReadyH.nil
      go_simp
      go_at_call 15
      refine (AreaHeld_any _ _ _ es5 a5 b5 z5 _ (Hoe2.out.drewN 1) (by simp; omega) Hi.out).mono ?_
      rw [HV.out]
      rintro e x6 ⟨rfl, bx1⟩
      go_wp2_with fail
      refine hK.out _ _ ?_ (fun hHeld2 => ?_)
      · (first | (try dsimp only); go_keep | (go_split_ands; refine ⟨?_, ?_, ?_, ?_⟩ <;> first | exact keepB bx5 (by assumption) | exact keepB bx4 (by assumption) | exact keepB bx3 (by assumption) | exact keepB bx2 (by assumption) | exact keepB bx1 (by assumption) | exact keepO bo5 (by first | (simp; done) | (simp; omega)) (by assumption) | exact keepO bo4 (by first | (simp; done) | (simp; omega)) (by assumption) | exact keepO bo3 (by first | (simp; done) | (simp; omega)) (by assumption) | exact keepO bo2 (by first | (simp; done) | (simp; omega)) (by assumption) | exact keepO bo1 (by first | (simp; done) | (simp; omega)) (by assumption) | exact keepW bg2 (by first | (simp; done) | (simp; omega)) (by assumption) | exact keepW bg1 (by first | (simp; done) | (simp; omega)) (by assumption) | assumption))
      clear hK K hHeld
      have hHeld := hHeld2
      clear hHeld2
      try simp only [Act.put, List.setIfInBounds_toArray, List.set_cons_zero, List.set_cons_succ]
      refine wpAnyH_take (i := 4) (oi := ⟨some 77, _, _, _, _, _⟩) (v := _) rfl (by kernel_rfl) (by kernel_rfl) (by kernel_rfl) (fun _ _ _ h => h) (Or.inl ⟨by kernel_rfl, by intro w hSw; (try dsimp only at hSw); go_simp; try with_reducible rfl⟩) (by assumption) ?_
      simp only [Act.put, List.setIfInBounds_toArray, List.set_cons_zero, List.set_cons_succ]
      refine wpAnyH_take (i := 7) (oi := ⟨some 80, _, _, _, _, _⟩) (v := _) rfl (by kernel_rfl) (by kernel_rfl) (by kernel_rfl) (fun _ _ _ h => h) (Or.inl ⟨by kernel_rfl, by intro w hSw; (try dsimp only at hSw); go_simp; try with_reducible rfl⟩) (by assumption) ?_
      simp only [Act.put, List.setIfInBounds_toArray, List.set_cons_zero, List.set_cons_succ]
      refine wpAnyH_take (i := 9) (oi := ⟨some 82, _, _, _, _, _⟩) (v := _) rfl (by kernel_rfl) (by kernel_rfl) (by kernel_rfl) (fun _ _ _ h => h) (Or.inl ⟨by kernel_rfl, by intro w hSw; (try dsimp only at hSw); go_simp; try with_reducible rfl⟩) (by assumption) ?_
      simp only [Act.put, List.setIfInBounds_toArray, List.set_cons_zero, List.set_cons_succ]
      refine wpAnyH_take (i := 10) (oi := ⟨some 2, _, _, _, _, _⟩) (v := _) rfl (by kernel_rfl) (by kernel_rfl) (by kernel_rfl) (fun _ _ _ h => h) (Or.inl ⟨by kernel_rfl, by intro w hSw; (try dsimp only at hSw); go_simp; try with_reducible rfl⟩) (by assumption) ?_
      simp only [Act.put, List.setIfInBounds_toArray, List.set_cons_zero, List.set_cons_succ]
      refine wpAnyH_done (by kernel_rfl) ?_ _
      have bz := of_drew bx1
      have Bz := Lib.hid (HB7.out.trans ((Hbw.out.trans (bz.mono hzr)).mono (by omega)))
      clear bx1 bz
      go_wp2
      go_ret
      exact ⟨rfl, Bz.out⟩
end Go.Proofs.Ytcebdokdekgeaaa
