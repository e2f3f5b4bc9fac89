/-
  Lemmas and contracts of single functions of this program, used by the proofs of its laws: what each call returns and what becomes of memory. Conditions: the hypotheses of each theorem.
-/
import Derived.Test.YtodbgkflakfjpaaMillC
namespace Go.Proofs.Ytodbgkflakfjpaa
open Go.RowKit
attribute [local go_sem ↓] Go.wp_at_zero Go.wp_at_succ

set_option maxRecDepth 100000 in
set_option maxHeartbeats 4000000 in
theorem FnExactAreaHeld_walk (A : Option Addr) (n c : Nat) (es : List Ent) (a b z : Int) (w : World) (h0 : ES w 0 w.heap.size (.slice A n c) es) (hin : I64 a ∧ I64 b ∧ I64 z) :
    Calls Try.prog 14 #[.agg #[.slice A n c, .int .i64 a, .int .i64 b, .int .i64 z]] w fun e w' => e = .returned (.bool true) ∧ Below w.heap.size w w' := by
  obtain ⟨A', c', he, hc, hm⟩ := h0.form
  injection he with q1 q2 q3
  subst q1; subst q2; subst q3
  have hes : ∀ w1, Below w.heap.size w w1 → ES w1 0 w.heap.size (.slice A es.length c) es := fun w1 hb => h0.below hb (Nat.le_refl _)
  have Hs := Lib.hid (show ∃ y1, y1 = (w.alloc (.cells #[.slice A es.length c, .int .i64 a, .int .i64 b, .int .i64 z] 78)) ∧ Below w.heap.size w y1 ∧ y1.cell? ⟨w.heap.size, 0, none⟩ = some (.slice A es.length c) ∧ y1.cell? ⟨w.heap.size, 1, none⟩ = some (.int .i64 a) ∧ y1.cell? ⟨w.heap.size, 2, none⟩ = some (.int .i64 b) ∧ y1.cell? ⟨w.heap.size, 3, none⟩ = some (.int .i64 z) ∧ w.heap.size < y1.heap.size from by
    have hb : Below w.heap.size w (w.alloc (.cells #[.slice A es.length c, .int .i64 a, .int .i64 b, .int .i64 z] 78)) := (Below.refl _ _).alloc (Nat.le_refl _) _
    exact ⟨_, rfl, hb, by go_simp, by go_simp, by go_simp, by go_simp, by simp⟩)
  go_enter Try.func14, Try.ntmps14
  go_wp2_with fail
  obtain ⟨y1, hw1, hb0, c00, c01, c02, c03, hz⟩ := Hs.out
  rw [← hw1]
  clear hw1 Hs
  rename Below w.heap.size w y1 => B1
  refine (szMill_any 0 w.heap.size _ es a b z y1 (hes y1 B1) (by omega)).mono ?_
  rintro e y2 ⟨r, rfl, hr, bx⟩
  have s2 := bx.size
  have B2 := B1.trans (bx.mono (by omega))
  replace c00 := keepB bx c00; replace c01 := keepB bx c01; replace c02 := keepB bx c02; replace c03 := keepB bx c03
  clear bx
  rcases hr with rfl | ⟨r0, r1, hl, hs⟩
  · go_wp2
    go_ret
    exact ⟨rfl, B2⟩
  have hnn : ¬ r < 0 := by omega
  have HS := Lib.hid hs
  clear hs
  go_wp2_with fail
  refine (toMill_any 0 w.heap.size _ es a b z y2 (hes y2 B2) (by omega) hl HS.out).mono ?_
  rintro e y3 ⟨v3, rfl, o3, bx⟩
  have s3 := bx.size
  have B3 := B2.trans (bx.mono (by omega))
  replace c00 := keepB bx c00; replace c01 := keepB bx c01; replace c02 := keepB bx c02; replace c03 := keepB bx c03
  obtain ⟨A3, c3, rfl, _⟩ := o3.form
  clear bx
  go_wp2_with fail
  obtain ⟨R, hR⟩ : ∃ R, R = ahL es a b z := ⟨_, rfl⟩
  refine (sAreaHeld_any _ _ _ es a b z y3 o3.es (Nat.le_refl _) ⟨hin.2.1, hin.2.2⟩).mono ?_
  rw [← hR]
  have HR := Lib.hid hR
  clear hR
  rintro e y4 ⟨rfl, bx⟩
  have s4 := bx.size
  have B4 := B3.trans (bx.mono (by omega))
  replace c00 := keepB bx c00; replace c01 := keepB bx c01; replace c02 := keepB bx c02; replace c03 := keepB bx c03
  clear bx o3
  go_wp2_with fail
  refine (toMill_any 0 w.heap.size _ es a b z y4 (hes y4 B4) (by omega) hl HS.out).mono ?_
  rintro e y5 ⟨v5, rfl, o5, bx⟩
  have s5 := bx.size
  have B5 := B4.trans (bx.mono (by omega))
  replace c00 := keepB bx c00; replace c01 := keepB bx c01; replace c02 := keepB bx c02; replace c03 := keepB bx c03
  obtain ⟨A5, c5, rfl, _⟩ := o5.form
  clear bx
  go_wp2_with fail
  obtain ⟨y6, hw1⟩ : ∃ y6, y6 = y5.alloc (.cells #[.slice A5 es.length c5, .int .i64 a, .int .i64 b, .int .i64 z] 83) := ⟨_, rfl⟩
  have x0 : y6.cell? ⟨y5.heap.size, 0, none⟩ = some (.slice A5 es.length c5) := by rw [hw1]; go_simp
  have x1 : y6.cell? ⟨y5.heap.size, 1, none⟩ = some (.int .i64 a) := by rw [hw1]; go_simp
  have x2 : y6.cell? ⟨y5.heap.size, 2, none⟩ = some (.int .i64 b) := by rw [hw1]; go_simp
  have x3 : y6.cell? ⟨y5.heap.size, 3, none⟩ = some (.int .i64 z) := by rw [hw1]; go_simp
  have bx : Below y5.heap.size y5 y6 := by rw [hw1]; exact (Below.refl _ _).alloc (Nat.le_refl _) _
  have zx : y5.heap.size < y6.heap.size := by rw [hw1]; simp
  rw [← hw1]
  clear hw1
  have s6 := bx.size
  have B6 := B5.trans (bx.mono (by omega))
  replace c00 := keepB bx c00; replace c01 := keepB bx c01; replace c02 := keepB bx c02; replace c03 := keepB bx c03
  have e6 := o5.es.below bx (Nat.le_refl _)
  clear bx o5
  refine (AreaHeld_any _ _ _ es a b z y6 e6 (by omega) hin).mono ?_
  rw [← HR.out]
  rintro e y7 ⟨rfl, bx⟩
  have s7 := bx.size
  have B7 := B6.trans (bx.mono (by omega))
  replace c00 := keepB bx c00; replace c01 := keepB bx c01; replace c02 := keepB bx c02; replace c03 := keepB bx c03; replace x0 := keepB bx x0; replace x1 := keepB bx x1; replace x2 := keepB bx x2; replace x3 := keepB bx x3
  have e7 := e6.below bx (by omega)
  have hRR : (R != R) = false := bne_f rfl
  clear bx e6
  go_wp2
  refine wp_region_held_drew (S := fun w' => w'.cell? ⟨w.heap.size, 0, none⟩ = some (.slice A es.length c) ∧ w'.cell? ⟨w.heap.size, 1, none⟩ = some (.int .i64 a) ∧ w'.cell? ⟨w.heap.size, 2, none⟩ = some (.int .i64 b) ∧ w'.cell? ⟨w.heap.size, 3, none⟩ = some (.int .i64 z) ∧ w'.cell? ⟨y5.heap.size, 0, none⟩ = some (.slice A5 es.length c5) ∧ w'.cell? ⟨y5.heap.size, 1, none⟩ = some (.int .i64 a) ∧ w'.cell? ⟨y5.heap.size, 2, none⟩ = some (.int .i64 b) ∧ w'.cell? ⟨y5.heap.size, 3, none⟩ = some (.int .i64 z)) (by kernel_rfl) ?_ (fun hHeld => ?_)
  · (first | (try dsimp only); go_keep | (go_split_ands; refine ⟨?_, ?_, ?_, ?_, ?_, ?_, ?_, ?_⟩ <;> first | exact keepB bx5 (by assumption) | exact keepB bx4 (by assumption) | exact keepB bx3 (by assumption) | exact keepB bx2 (by assumption) | exact keepB bx1 (by assumption) | exact keepO bo5 (by first | (simp; done) | (simp; omega)) (by assumption) | exact keepO bo4 (by first | (simp; done) | (simp; omega)) (by assumption) | exact keepO bo3 (by first | (simp; done) | (simp; omega)) (by assumption) | exact keepO bo2 (by first | (simp; done) | (simp; omega)) (by assumption) | exact keepO bo1 (by first | (simp; done) | (simp; omega)) (by assumption) | exact keepW bg2 (by first | (simp; done) | (simp; omega)) (by assumption) | exact keepW bg1 (by first | (simp; done) | (simp; omega)) (by assumption) | assumption))
  refine wpAnyH_take (i := 0) (oi := ⟨some 22, _, _, _, _, _⟩) (v := _) rfl (by kernel_rfl) (by kernel_rfl) (by kernel_rfl) (fun _ _ _ h => h) (Or.inl ⟨by kernel_rfl, by intro w hSw; (try dsimp only at hSw); go_simp; try with_reducible rfl⟩) (by assumption) ?_
  simp only [Act.put, List.setIfInBounds_toArray, List.set_cons_zero, List.set_cons_succ]
  refine wpAnyH_take (i := 1) (oi := ⟨some 23, _, _, _, _, _⟩) (v := _) rfl (by kernel_rfl) (by kernel_rfl) (by kernel_rfl) (fun _ _ _ h => h) (Or.inl ⟨by kernel_rfl, by intro w hSw; (try dsimp only at hSw); go_simp; try with_reducible rfl⟩) (by assumption) ?_
  simp only [Act.put, List.setIfInBounds_toArray, List.set_cons_zero, List.set_cons_succ]
  refine wpAnyH_ready (rs := [2]) (by kernel_rfl) (by simp) ?_
  refine AllReadyH.cons (o := ⟨some 24, _, _, _, _, _⟩) rfl (fun K hK => ?_) AllReadyH.nil
  go_simp
  go_at_call 59
  refine (toMill_any 0 w.heap.size _ es a b z _ ((hes y7 B7).drewN 1) (by simp; omega) hl HS.out).mono ?_
  rintro e y8 ⟨v8, rfl, o8, bx1⟩
  have by1 := of_drew bx1
  have s8 := by1.size
  obtain ⟨A8, c8, rfl, _⟩ := o8.form
  go_wp2_with fail
  refine hK.out _ _ ?_ (fun hHeld2 => ?_)
  · (first | (try dsimp only); go_keep | (go_split_ands; refine ⟨?_, ?_, ?_, ?_, ?_, ?_, ?_, ?_⟩ <;> first | exact keepB bx5 (by assumption) | exact keepB bx4 (by assumption) | exact keepB bx3 (by assumption) | exact keepB bx2 (by assumption) | exact keepB bx1 (by assumption) | exact keepO bo5 (by first | (simp; done) | (simp; omega)) (by assumption) | exact keepO bo4 (by first | (simp; done) | (simp; omega)) (by assumption) | exact keepO bo3 (by first | (simp; done) | (simp; omega)) (by assumption) | exact keepO bo2 (by first | (simp; done) | (simp; omega)) (by assumption) | exact keepO bo1 (by first | (simp; done) | (simp; omega)) (by assumption) | exact keepW bg2 (by first | (simp; done) | (simp; omega)) (by assumption) | exact keepW bg1 (by first | (simp; done) | (simp; omega)) (by assumption) | assumption))
  clear hK K hHeld
  have hHeld := hHeld2
  clear hHeld2
  try simp only [Act.put, List.setIfInBounds_toArray, List.set_cons_zero, List.set_cons_succ]
  refine wpAnyH_ready (rs := [3]) (by kernel_rfl) (by simp) ?_
  refine AllReadyH.cons (o := ⟨some 25, _, _, _, _, _⟩) rfl (fun K hK => ?_) AllReadyH.nil
  go_simp
  go_at_call 61
  refine (eqMill_same _ _ _ _ _ _ es a b z y8 (e7.below by1 (by omega)) (by omega) o8.es (Nat.le_refl _)).mono ?_
  rintro e y9 ⟨rfl, bx2⟩
  go_wp2_with fail
  refine hK.out _ _ ?_ (fun hHeld2 => ?_)
  · (first | (try dsimp only); go_keep | (go_split_ands; refine ⟨?_, ?_, ?_, ?_, ?_, ?_, ?_, ?_⟩ <;> first | exact keepB bx5 (by assumption) | exact keepB bx4 (by assumption) | exact keepB bx3 (by assumption) | exact keepB bx2 (by assumption) | exact keepB bx1 (by assumption) | exact keepO bo5 (by first | (simp; done) | (simp; omega)) (by assumption) | exact keepO bo4 (by first | (simp; done) | (simp; omega)) (by assumption) | exact keepO bo3 (by first | (simp; done) | (simp; omega)) (by assumption) | exact keepO bo2 (by first | (simp; done) | (simp; omega)) (by assumption) | exact keepO bo1 (by first | (simp; done) | (simp; omega)) (by assumption) | exact keepW bg2 (by first | (simp; done) | (simp; omega)) (by assumption) | exact keepW bg1 (by first | (simp; done) | (simp; omega)) (by assumption) | assumption))
  clear hK K hHeld
  have hHeld := hHeld2
  clear hHeld2
  try simp only [Act.put, List.setIfInBounds_toArray, List.set_cons_zero, List.set_cons_succ]
  refine wpAnyH_take (i := 4) (oi := ⟨some 26, _, _, _, _, _⟩) (v := _) rfl (by kernel_rfl) (by kernel_rfl) (by kernel_rfl) (fun _ _ _ h => h) (Or.inl ⟨by kernel_rfl, by intro w hSw; (try dsimp only at hSw); go_simp; try with_reducible rfl⟩) (by assumption) ?_
  simp only [Act.put, List.setIfInBounds_toArray, List.set_cons_zero, List.set_cons_succ]
  refine wpAnyH_done (by kernel_rfl) ?_ _
  go_wp2
  go_ret
  exact ⟨rfl, B7.trans ((by1.trans (bx2.mono (by omega))).mono (by omega))⟩
end Go.Proofs.Ytodbgkflakfjpaa
