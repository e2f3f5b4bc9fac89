/-
  Lemmas and contracts of single functions of this program, used by the proofs of its laws: what each call returns and what becomes of memory. Conditions: the hypotheses of each theorem.
-/
import Derived.Test.YtlmppbijgciaaaaMillM
import Derived.Test.YtlmppbijgciaaaaMillC
namespace Go.Proofs.Ytlmppbijgciaaaa
open Go.RowKit
attribute [local go_sem ↓] Go.wp_at_zero Go.wp_at_succ

theorem ES.drew {w : World} {lo hi : Nat} {v : Value} {es : List Ent} (h : ES w lo hi v es) : ES w.drew lo hi v es := h
theorem of_drewM {B : Nat} {w x : World} (h : Below B w.drew x) : Below B w x := ⟨h.os, h.tape, h.output, h.size, h.block⟩
theorem ahL_yes {es : List Ent} {a b z : Int} (h : vMill es a b z = true) : ahL es a b z = heldL es := by unfold ahL; exact if_pos h
set_option maxRecDepth 100000 in
set_option maxHeartbeats 4000000 in
theorem FnValidMill_walk (v : Value) (xs : List Int) (w : World) (h : Bytes w 0 w.heap.size v xs) :
    Calls Try.prog 3 #[v] w fun e w' => e = .returned (.bool true) ∧ Below w.heap.size w w' := by
  have hv : ∃ A c, v = .slice A xs.length c ∧ xs.length ≤ c ∧ c ≤ 2 ^ 63 - 1 := by obtain ⟨A, c, e, h1, h2, _⟩ := h; exact ⟨A, c, e, h1, by unfold maxLen at h2; omega⟩
  obtain ⟨A0, c0, rfl, hc0, hm0⟩ := hv
  by_cases hl : 1048576 < xs.length
  · have hl' : (1048576 : Int) < (xs.length : Int) := by omega
    go_enter Try.func3, Try.ntmps3
    go_wp2
    go_ret
    exact ⟨rfl, Below.refl _ _⟩
  · have hl' : ¬ (1048576 : Int) < (xs.length : Int) := by omega
    go_enter Try.func3, Try.ntmps3
    go_wp2_with fail
    refine (DrawValidMill_any _ xs w h).mono ?_
    rintro e w1 ⟨A, n, c, es, a, b, z, rfl, hn, hes, ⟨ha, hb, hz⟩, b1⟩
    subst hn
    obtain ⟨hc, hm⟩ : es.length ≤ c ∧ c ≤ 2 ^ 63 - 1 := by obtain ⟨A', c', e, q1, q2⟩ := hes.form; injection e with e1 e2 e3; subst e3; exact ⟨q1, q2⟩
    have hs1 := b1.size
    clear h hl hl'
    go_wp2_with fail
    obtain ⟨w2, hw1⟩ : ∃ w2, w2 = w1.alloc (.cells #[.slice A es.length c, .int .i64 a, .int .i64 b, .int .i64 z] 25) := ⟨_, rfl⟩
    have x0 : w2.cell? ⟨w1.heap.size, 0, none⟩ = some (.slice A es.length c) := by rw [hw1]; go_simp
    have x1 : w2.cell? ⟨w1.heap.size, 1, none⟩ = some (.int .i64 a) := by rw [hw1]; go_simp
    have x2 : w2.cell? ⟨w1.heap.size, 2, none⟩ = some (.int .i64 b) := by rw [hw1]; go_simp
    have x3 : w2.cell? ⟨w1.heap.size, 3, none⟩ = some (.int .i64 z) := by rw [hw1]; go_simp
    have bx : Below w1.heap.size w1 w2 := by rw [hw1]; exact (Below.refl _ _).alloc (Nat.le_refl _) _
    have zx : w1.heap.size < w2.heap.size := by rw [hw1]; simp
    rw [← hw1]
    clear hw1
    have B2 := b1.trans (bx.mono hs1)
    replace hes := hes.below bx (Nat.le_refl _)
    have hs2 := bx.size
    clear bx b1
    have h3 : I64 a ∧ I64 b ∧ I64 z := ⟨⟨by omega, by omega⟩, ⟨by omega, by omega⟩, ⟨by omega, by omega⟩⟩
    have h2 : I64 b ∧ I64 z := h3.2
    obtain ⟨V, hV⟩ : ∃ V, V = vMill es a b z := ⟨_, rfl⟩
    have HV := Lib.hid hV
    clear hV
    refine (ValidMill_any _ _ _ es a b z w2 hes (by omega) h3).mono ?_
    rw [← HV.out]
    rintro e w3 ⟨rfl, bk⟩
    replace x0 := keepB bk x0; replace x1 := keepB bk x1; replace x2 := keepB bk x2; replace x3 := keepB bk x3
    have B3 := B2.trans (bk.mono (by omega))
    replace hes := hes.below bk (by omega)
    have hs3 := bk.size
    clear bk B2
    go_wp2_with fail
    refine (sValidMill_any _ _ _ es a b z w3 hes (by omega) h2).mono ?_
    rw [← HV.out]
    rintro e w4 ⟨rfl, bk⟩
    replace x0 := keepB bk x0; replace x1 := keepB bk x1; replace x2 := keepB bk x2; replace x3 := keepB bk x3
    have B4 := B3.trans (bk.mono (by omega))
    replace hes := hes.below bk (by omega)
    have hs4 := bk.size
    clear bk B3
    cases V
    · go_wp2_with fail
      refine (sValidMill_any _ _ _ es a b z w4 hes (by omega) h2).mono ?_
      rw [← HV.out]
      rintro e w5 ⟨rfl, bk⟩
      have B5 := B4.trans (bk.mono (by omega))
      clear bk B4
      go_wp2
      go_ret
      exact ⟨rfl, B5⟩
    · have hvm := vMill_iff.1 HV.out.symm
      have HF := Lib.hid (show vMill es (a + 1) b z = false from vMill_no (fun h => by have := h.2.2.2.2.2; omega))
      have HT := Lib.hid (show vMill [] 0 0 0 = true from nil_ok)
      have HA := Lib.hid (ahL_yes HV.out.symm)
      obtain ⟨H, hH⟩ : ∃ H, H = heldL es := ⟨_, rfl⟩
      rw [← hH] at HA hvm
      have a0 := hvm.2.2.1
      have b0 := hvm.2.2.2.1
      have z0 := hvm.2.2.2.2.1
      have hs := hvm.2.2.2.2.2
      have Hs := Lib.hid (show (H + b + z == a) = true from beq_t hs)
      have hHr : 0 ≤ H ∧ H ≤ 900000 := by
        have h9 := held_rng (fun k hk => (hvm.1 k hk).1) es.length (Nat.le_refl _)
        rw [List.take_length, ← hH] at h9
        omega
      clear hvm hH hs
      have hbd : Below w4.heap.size w4 (w4.alloc (.cells #[.slice A es.length c, .int .i64 a, .int .i64 b, .int .i64 z] 25)) := (Below.refl _ _).alloc (Nat.le_refl _) _
      have x_x0 := keepB hbd x0
      have x_x1 := keepB hbd x1
      have x_x2 := keepB hbd x2
      have x_x3 := keepB hbd x3
      go_wp2_with fail
      clear hbd x_x0 x_x1 x_x2 x_x3
      obtain ⟨w5, hw1⟩ : ∃ w5, w5 = w4.alloc (.cells #[.slice A es.length c, .int .i64 (a + 1), .int .i64 b, .int .i64 z] 25) := ⟨_, rfl⟩
      have y_0 : w5.cell? ⟨w4.heap.size, 0, none⟩ = some (.slice A es.length c) := by rw [hw1]; go_simp
      have y_1 : w5.cell? ⟨w4.heap.size, 1, none⟩ = some (.int .i64 (a + 1)) := by rw [hw1]; go_simp
      have y_2 : w5.cell? ⟨w4.heap.size, 2, none⟩ = some (.int .i64 b) := by rw [hw1]; go_simp
      have y_3 : w5.cell? ⟨w4.heap.size, 3, none⟩ = some (.int .i64 z) := by rw [hw1]; go_simp
      have by_ : Below w4.heap.size w4 w5 := by rw [hw1]; exact (Below.refl _ _).alloc (Nat.le_refl _) _
      have zy_ : w4.heap.size < w5.heap.size := by rw [hw1]; simp
      rw [← hw1]
      clear hw1
      replace x0 := keepB by_ x0; replace x1 := keepB by_ x1; replace x2 := keepB by_ x2; replace x3 := keepB by_ x3
      have g1 : IntKind.i64.wrap (H + b) = H + b := IntWalk.i64_in _ (by omega)
      have g2 : IntKind.i64.wrap (H + b + z) = H + b + z := IntWalk.i64_in _ (by omega)
      have hes5 := hes.below by_ (by omega)
      have Hes5 := Lib.hid hes5
      have h9 : I64 (a + 1) := ⟨by omega, by omega⟩
      have hlo : w1.heap.size ≤ w5.heap.size := by omega
      have HB5 := Lib.hid (B4.trans (by_.mono (by omega)))
      have hs14 : ¬ w1.heap.size = w4.heap.size := by omega
      clear by_ hes hes5 B4
      have Hs2 := Hs.out
      refine wp_region_held_drew (S := fun w' => w'.cell? ⟨w1.heap.size, 0, none⟩ = some (.slice A es.length c) ∧ w'.cell? ⟨w1.heap.size, 1, none⟩ = some (.int .i64 a) ∧ w'.cell? ⟨w1.heap.size, 2, none⟩ = some (.int .i64 b) ∧ w'.cell? ⟨w1.heap.size, 3, none⟩ = some (.int .i64 z) ∧ w'.cell? ⟨w4.heap.size, 0, none⟩ = some (.slice A es.length c) ∧ w'.cell? ⟨w4.heap.size, 1, none⟩ = some (.int .i64 (a + 1)) ∧ w'.cell? ⟨w4.heap.size, 2, none⟩ = some (.int .i64 b) ∧ w'.cell? ⟨w4.heap.size, 3, none⟩ = some (.int .i64 z)) (by kernel_rfl) ?_ (fun hHeld => ?_)
      · (first | (try dsimp only); go_keep | (go_split_ands; refine ⟨?_, ?_, ?_, ?_, ?_, ?_, ?_, ?_⟩ <;> first | exact keepB bx5 (by assumption) | exact keepB bx4 (by assumption) | exact keepB bx3 (by assumption) | exact keepB bx2 (by assumption) | exact keepB bx1 (by assumption) | exact keepO bo5 (by first | (simp; done) | (simp; omega)) (by assumption) | exact keepO bo4 (by first | (simp; done) | (simp; omega)) (by assumption) | exact keepO bo3 (by first | (simp; done) | (simp; omega)) (by assumption) | exact keepO bo2 (by first | (simp; done) | (simp; omega)) (by assumption) | exact keepO bo1 (by first | (simp; done) | (simp; omega)) (by assumption) | exact keepW bg2 (by first | (simp; done) | (simp; omega)) (by assumption) | exact keepW bg1 (by first | (simp; done) | (simp; omega)) (by assumption) | assumption))
      refine wpAnyH_take (i := 0) (oi := ⟨some 30, _, _, _, _, _⟩) (v := _) rfl (by kernel_rfl) (by kernel_rfl) (by kernel_rfl) (fun _ _ _ h => h) (Or.inl ⟨by kernel_rfl, by intro w hSw; (try dsimp only at hSw); go_simp; try with_reducible rfl⟩) (by assumption) ?_
      simp only [Act.put, List.setIfInBounds_toArray, List.set_cons_zero, List.set_cons_succ]
      refine wpAnyH_take (i := 2) (oi := ⟨some 32, _, _, _, _, _⟩) (v := _) rfl (by kernel_rfl) (by kernel_rfl) (by kernel_rfl) (fun _ _ _ h => h) (Or.inl ⟨by kernel_rfl, by intro w hSw; (try dsimp only at hSw); go_simp; try with_reducible rfl⟩) (by assumption) ?_
      simp only [Act.put, List.setIfInBounds_toArray, List.set_cons_zero, List.set_cons_succ]
      refine wpAnyH_take (i := 3) (oi := ⟨some 33, _, _, _, _, _⟩) (v := _) rfl (by kernel_rfl) (by kernel_rfl) (by kernel_rfl) (fun _ _ _ h => h) (Or.inl ⟨by kernel_rfl, by intro w hSw; (try dsimp only at hSw); go_simp; try with_reducible rfl⟩) (by assumption) ?_
      simp only [Act.put, List.setIfInBounds_toArray, List.set_cons_zero, List.set_cons_succ]
      refine wpAnyH_take (i := 5) (oi := ⟨some 35, _, _, _, _, _⟩) (v := _) rfl (by kernel_rfl) (by kernel_rfl) (by kernel_rfl) (fun _ _ _ h => h) (Or.inl ⟨by kernel_rfl, by intro w hSw; (try dsimp only at hSw); go_simp; try with_reducible rfl⟩) (by assumption) ?_
      simp only [Act.put, List.setIfInBounds_toArray, List.set_cons_zero, List.set_cons_succ]
      refine wpAnyH_take (i := 6) (oi := ⟨some 36, _, _, _, _, _⟩) (v := _) rfl (by kernel_rfl) (by kernel_rfl) (by kernel_rfl) (fun _ _ _ h => h) (Or.inl ⟨by kernel_rfl, by intro w hSw; (try dsimp only at hSw); go_simp; try with_reducible rfl⟩) (by assumption) ?_
      simp only [Act.put, List.setIfInBounds_toArray, List.set_cons_zero, List.set_cons_succ]
      refine wpAnyH_take (i := 8) (oi := ⟨some 38, _, _, _, _, _⟩) (v := _) rfl (by kernel_rfl) (by kernel_rfl) (by kernel_rfl) (fun _ _ _ h => h) (Or.inl ⟨by kernel_rfl, by intro w hSw; (try dsimp only at hSw); go_simp; try with_reducible rfl⟩) (by assumption) ?_
      simp only [Act.put, List.setIfInBounds_toArray, List.set_cons_zero, List.set_cons_succ]
      refine wpAnyH_take (i := 9) (oi := ⟨some 39, _, _, _, _, _⟩) (v := _) rfl (by kernel_rfl) (by kernel_rfl) (by kernel_rfl) (fun _ _ _ h => h) (Or.inl ⟨by kernel_rfl, by intro w hSw; (try dsimp only at hSw); go_simp; try with_reducible rfl⟩) (by assumption) ?_
      simp only [Act.put, List.setIfInBounds_toArray, List.set_cons_zero, List.set_cons_succ]
      refine wpAnyH_ready (rs := [1]) (by kernel_rfl) (by simp) ?_
      refine AllReadyH.cons (o := ⟨some 31, _, _, _, _, _⟩) rfl (fun K hK => ?_) AllReadyH.nil
      go_simp
      go_at_call 8
      refine (AreaHeld_any _ _ _ es a b z _ Hes5.out.drew (by simp; omega) h3).mono ?_
      rw [HA.out]
      rintro e x6 ⟨rfl, bx1⟩
      go_wp2_with fail
      refine hK.out _ _ ?_ (fun hHeld2 => ?_)
      · (first | (try dsimp only); go_keep | (go_split_ands; refine ⟨?_, ?_, ?_, ?_, ?_, ?_, ?_, ?_⟩ <;> first | exact keepB bx5 (by assumption) | exact keepB bx4 (by assumption) | exact keepB bx3 (by assumption) | exact keepB bx2 (by assumption) | exact keepB bx1 (by assumption) | exact keepO bo5 (by first | (simp; done) | (simp; omega)) (by assumption) | exact keepO bo4 (by first | (simp; done) | (simp; omega)) (by assumption) | exact keepO bo3 (by first | (simp; done) | (simp; omega)) (by assumption) | exact keepO bo2 (by first | (simp; done) | (simp; omega)) (by assumption) | exact keepO bo1 (by first | (simp; done) | (simp; omega)) (by assumption) | exact keepW bg2 (by first | (simp; done) | (simp; omega)) (by assumption) | exact keepW bg1 (by first | (simp; done) | (simp; omega)) (by assumption) | assumption))
      clear hK K hHeld
      have hHeld := hHeld2
      clear hHeld2
      try simp only [Act.put, List.setIfInBounds_toArray, List.set_cons_zero, List.set_cons_succ]
      refine wpAnyH_take (i := 4) (oi := ⟨some 34, _, _, _, _, _⟩) (v := _) rfl (by kernel_rfl) (by kernel_rfl) (by kernel_rfl) (fun _ _ _ h => h) (Or.inl ⟨by kernel_rfl, by intro w hSw; (try dsimp only at hSw); go_simp; try with_reducible rfl⟩) (by assumption) ?_
      simp only [Act.put, List.setIfInBounds_toArray, List.set_cons_zero, List.set_cons_succ]
      refine wpAnyH_take (i := 7) (oi := ⟨some 37, _, _, _, _, _⟩) (v := _) rfl (by kernel_rfl) (by kernel_rfl) (by kernel_rfl) (fun _ _ _ h => h) (Or.inl ⟨by kernel_rfl, by intro w hSw; (try dsimp only at hSw); go_simp; try with_reducible rfl⟩) (by assumption) ?_
      simp only [Act.put, List.setIfInBounds_toArray, List.set_cons_zero, List.set_cons_succ]
      refine wpAnyH_take (i := 10) (oi := ⟨some 40, _, _, _, _, _⟩) (v := _) rfl (by kernel_rfl) (by kernel_rfl) (by kernel_rfl) (fun _ _ _ h => h) (Or.inl ⟨by kernel_rfl, by intro w hSw; (try dsimp only at hSw); go_simp; try with_reducible rfl⟩) (by assumption) ?_
      simp only [Act.put, List.setIfInBounds_toArray, List.set_cons_zero, List.set_cons_succ]
      refine wpAnyH_take (i := 11) (oi := ⟨some 41, _, _, _, _, _⟩) (v := _) rfl (by kernel_rfl) (by kernel_rfl) (by kernel_rfl) (fun _ _ _ h => h) (Or.inl ⟨by kernel_rfl, by intro w hSw; (try dsimp only at hSw); go_simp; try with_reducible rfl⟩) (by assumption) ?_
      simp only [Act.put, List.setIfInBounds_toArray, List.set_cons_zero, List.set_cons_succ]
      refine wpAnyH_take (i := 12) (oi := ⟨some 42, _, _, _, _, _⟩) (v := _) rfl (by kernel_rfl) (by kernel_rfl) (by kernel_rfl) (fun _ _ _ h => h) (Or.inl ⟨by kernel_rfl, by intro w hSw; (try dsimp only at hSw); go_simp; try with_reducible rfl⟩) (by assumption) ?_
      simp only [Act.put, List.setIfInBounds_toArray, List.set_cons_zero, List.set_cons_succ]
      refine wpAnyH_ready (rs := [13]) (by kernel_rfl) (by simp) ?_
      refine AllReadyH.cons (o := ⟨some 43, _, _, _, _, _⟩) rfl (fun K hK => ?_) AllReadyH.nil
      go_simp
      go_at_call 6
      refine (ValidMill_any _ _ _ es (a + 1) b z x6 (Hes5.out.drew.below bx1 (by simp; omega)) (by have := bx1.size; simp at this; omega) ⟨h9, h2⟩).mono ?_
      rw [HF.out]
      rintro e x7 ⟨rfl, bx2⟩
      go_wp2_with fail
      refine hK.out _ _ ?_ (fun hHeld2 => ?_)
      · (first | (try dsimp only); go_keep | (go_split_ands; refine ⟨?_, ?_, ?_, ?_, ?_, ?_, ?_, ?_⟩ <;> first | exact keepB bx5 (by assumption) | exact keepB bx4 (by assumption) | exact keepB bx3 (by assumption) | exact keepB bx2 (by assumption) | exact keepB bx1 (by assumption) | exact keepO bo5 (by first | (simp; done) | (simp; omega)) (by assumption) | exact keepO bo4 (by first | (simp; done) | (simp; omega)) (by assumption) | exact keepO bo3 (by first | (simp; done) | (simp; omega)) (by assumption) | exact keepO bo2 (by first | (simp; done) | (simp; omega)) (by assumption) | exact keepO bo1 (by first | (simp; done) | (simp; omega)) (by assumption) | exact keepW bg2 (by first | (simp; done) | (simp; omega)) (by assumption) | exact keepW bg1 (by first | (simp; done) | (simp; omega)) (by assumption) | assumption))
      clear hK K hHeld
      have hHeld := hHeld2
      clear hHeld2
      try simp only [Act.put, List.setIfInBounds_toArray, List.set_cons_zero, List.set_cons_succ]
      refine wpAnyH_take (i := 14) (oi := ⟨some 44, _, _, _, _, _⟩) (v := _) rfl (by kernel_rfl) (by kernel_rfl) (by kernel_rfl) (fun _ _ _ h => h) (Or.inl ⟨by kernel_rfl, by intro w hSw; (try dsimp only at hSw); go_simp; try with_reducible rfl⟩) (by assumption) ?_
      simp only [Act.put, List.setIfInBounds_toArray, List.set_cons_zero, List.set_cons_succ]
      refine wpAnyH_take (i := 15) (oi := ⟨some 45, _, _, _, _, _⟩) (v := _) rfl (by kernel_rfl) (by kernel_rfl) (by kernel_rfl) (fun _ _ _ h => h) (Or.inl ⟨by kernel_rfl, by intro w hSw; (try dsimp only at hSw); go_simp; try with_reducible rfl⟩) (by assumption) ?_
      simp only [Act.put, List.setIfInBounds_toArray, List.set_cons_zero, List.set_cons_succ]
      refine wpAnyH_take (i := 16) (oi := ⟨some 46, _, _, _, _, _⟩) (v := _) rfl (by kernel_rfl) (by kernel_rfl) (by kernel_rfl) (fun _ _ _ h => h) (Or.inl ⟨by kernel_rfl, by intro w hSw; (try dsimp only at hSw); go_simp; try with_reducible rfl⟩) (by assumption) ?_
      simp only [Act.put, List.setIfInBounds_toArray, List.set_cons_zero, List.set_cons_succ]
      refine wpAnyH_take (i := 17) (oi := ⟨some 47, _, _, _, _, _⟩) (v := _) rfl (by kernel_rfl) (by kernel_rfl) (by kernel_rfl) (fun _ _ _ h => h) (Or.inl ⟨by kernel_rfl, by intro w hSw; (try dsimp only at hSw); go_simp; try with_reducible rfl⟩) (by assumption) ?_
      simp only [Act.put, List.setIfInBounds_toArray, List.set_cons_zero, List.set_cons_succ]
      refine wpAnyH_ready (rs := [18]) (by kernel_rfl) (by simp) ?_
      refine AllReadyH.cons (o := ⟨some 48, _, _, _, _, _⟩) rfl (fun K hK => ?_) AllReadyH.nil
      go_simp
      go_at_call 6
      refine (ValidMill_any 0 0 _ [] 0 0 0 x7 (ES.nil _ _ _) (Nat.zero_le _) ⟨⟨by omega, by omega⟩, ⟨by omega, by omega⟩, ⟨by omega, by omega⟩⟩).mono ?_
      rw [HT.out]
      rintro e x8 ⟨rfl, bx3⟩
      go_wp2_with fail
      refine hK.out _ _ ?_ (fun hHeld2 => ?_)
      · (first | (try dsimp only); go_keep | (go_split_ands; refine ⟨?_, ?_, ?_, ?_, ?_, ?_, ?_, ?_⟩ <;> first | exact keepB bx5 (by assumption) | exact keepB bx4 (by assumption) | exact keepB bx3 (by assumption) | exact keepB bx2 (by assumption) | exact keepB bx1 (by assumption) | exact keepO bo5 (by first | (simp; done) | (simp; omega)) (by assumption) | exact keepO bo4 (by first | (simp; done) | (simp; omega)) (by assumption) | exact keepO bo3 (by first | (simp; done) | (simp; omega)) (by assumption) | exact keepO bo2 (by first | (simp; done) | (simp; omega)) (by assumption) | exact keepO bo1 (by first | (simp; done) | (simp; omega)) (by assumption) | exact keepW bg2 (by first | (simp; done) | (simp; omega)) (by assumption) | exact keepW bg1 (by first | (simp; done) | (simp; omega)) (by assumption) | assumption))
      clear hK K hHeld
      have hHeld := hHeld2
      clear hHeld2
      try simp only [Act.put, List.setIfInBounds_toArray, List.set_cons_zero, List.set_cons_succ]
      refine wpAnyH_take (i := 19) (oi := ⟨some 49, _, _, _, _, _⟩) (v := _) rfl (by kernel_rfl) (by kernel_rfl) (by kernel_rfl) (fun _ _ _ h => h) (Or.inl ⟨by kernel_rfl, by intro w hSw; (try dsimp only at hSw); go_simp; try with_reducible rfl⟩) (by assumption) ?_
      simp only [Act.put, List.setIfInBounds_toArray, List.set_cons_zero, List.set_cons_succ]
      refine wpAnyH_take (i := 20) (oi := ⟨some 2, _, _, _, _, _⟩) (v := _) rfl (by kernel_rfl) (by kernel_rfl) (by kernel_rfl) (fun _ _ _ h => h) (Or.inl ⟨by kernel_rfl, by intro w hSw; (try dsimp only at hSw); go_simp; try with_reducible rfl⟩) (by assumption) ?_
      simp only [Act.put, List.setIfInBounds_toArray, List.set_cons_zero, List.set_cons_succ]
      refine wpAnyH_done (by kernel_rfl) ?_ _
      have B6 := HB5.out.trans ((of_drewM bx1).mono (show w.heap.size ≤ w5.heap.size from HB5.out.size))
      have B7 := B6.trans (bx2.mono (by have := B6.size; omega))
      have B8 := B7.trans (bx3.mono (by have := B7.size; omega))
      clear g1 g2 Hs2 bx1 bx2 bx3
      go_wp2
      go_ret
      exact ⟨rfl, B8⟩
end Go.Proofs.Ytlmppbijgciaaaa
