/-
  Lemmas and contracts of single functions of this program, used by the proofs of its laws: what each call returns and what becomes of memory. Conditions: the hypotheses of each theorem.
-/
import Derived.Test.YtkgepklapglmdaaPlaS
import Derived.Test.YtkgepklapglmdaaMarkE
import Derived.Test.YtkgepklapglmdaaIntsS
namespace Go.Proofs.Ytkgepklapglmdaa
open Go.RowKit
attribute [local go_sem ↓] Go.wp_at_zero Go.wp_at_succ

theorem PlanCutsS_fix (lo hi l2 h2 l3 h3 : Nat) (v u2 u3 : Value) (m : Mil) (lb : Int) (ws xs : List Int) (R : List Evt) (ok : Bool) (w : World) (h : ES w lo hi v m.es) (hhi : hi ≤ w.heap.size) (hin : I64 m.a ∧ I64 m.b ∧ I64 m.z) (hlb : I64 lb) (hw : Ints w l2 h2 u2 ws) (hh2 : h2 ≤ w.heap.size) (hx : Ints w l3 h3 u3 xs) (hh3 : h3 ≤ w.heap.size) (hR : R = plL m lb ws xs) (hok : ok = plB m lb ws xs) :
    Calls Try.prog 6 #[.agg #[v, .int .i64 m.a, .int .i64 m.b, .int .i64 m.z], .int .i64 lb, u2, u3] w fun e w' => ∃ A c, e = .returned (.tuple #[.slice A R.length c, .bool ok]) ∧ OwnT w' w.heap.size 50 7 (.slice A R.length c) (evT R) ∧ Below w.heap.size w w' := by
  refine (PlanCutsS_any lo hi l2 h2 l3 h3 v u2 u3 m lb ws xs w h hhi hin hlb hw hh2 hx hh3).mono ?_
  rw [← hR, ← hok]
  rintro e w' ⟨u, rfl, he, hb⟩
  obtain ⟨A, c, hA, _⟩ := he.form
  rw [evT_len] at hA
  subst hA
  exact ⟨A, c, rfl, he, hb⟩
theorem PlanCutsI_fix (lo hi l2 h2 l3 h3 : Nat) (v u2 u3 : Value) (m : Mil) (lb : Int) (ws xs : List Int) (R : List Evt) (ok : Bool) (w : World) (h : ES w lo hi v m.es) (hhi : hi ≤ w.heap.size) (hin : I64 m.a ∧ I64 m.b ∧ I64 m.z) (hlb : I64 lb) (hw : Ints w l2 h2 u2 ws) (hh2 : h2 ≤ w.heap.size) (hx : Ints w l3 h3 u3 xs) (hh3 : h3 ≤ w.heap.size) (hR : R = plL m lb ws xs) (hok : ok = plB m lb ws xs) :
    Calls Try.prog 9 #[.agg #[v, .int .i64 m.a, .int .i64 m.b, .int .i64 m.z], .int .i64 lb, u2, u3] w fun e w' => ∃ A c, e = .returned (.tuple #[.slice A R.length c, .bool ok]) ∧ OwnT w' w.heap.size 50 7 (.slice A R.length c) (evT R) ∧ Below w.heap.size w w' := by
  refine (PlanCutsI_any lo hi l2 h2 l3 h3 v u2 u3 m lb ws xs w h hhi hin hlb hw hh2 hx hh3).mono ?_
  rw [← hR, ← hok]
  rintro e w' ⟨u, rfl, he, hb⟩
  obtain ⟨A, c, hA, _⟩ := he.form
  rw [evT_len] at hA
  subst hA
  exact ⟨A, c, rfl, he, hb⟩
set_option maxRecDepth 100000 in
set_option maxHeartbeats 16000000 in
theorem FnExactPlanCuts_walk (A : Option Addr) (n c : Nat) (es : List Ent) (a b z lb : Int) (v2 : Value) (ws : List Int) (v3 : Value) (xs : List Int) (w : World) (h0 : ES w 0 w.heap.size (.slice A n c) es) (hin : I64 a ∧ I64 b ∧ I64 z) (hlb : I64 lb) (h2 : Ints w 0 w.heap.size v2 ws) (h3 : Ints w 0 w.heap.size v3 xs) :
    Calls Try.prog 3 #[.agg #[.slice A n c, .int .i64 a, .int .i64 b, .int .i64 z], .int .i64 lb, v2, v3] w fun e w' => e = .returned (.bool true) ∧ Below w.heap.size w w' := by
  obtain ⟨A', c', he, hc, hm⟩ := h0.form
  injection he with q1 q2 q3
  subst q1; subst q2; subst q3
  obtain ⟨B2, d2, rfl, hd2, hm2⟩ := h2.form
  obtain ⟨B3, d3, rfl, hd3, hm3⟩ := h3.form
  have HES := Lib.hid (show ∀ w1, Below w.heap.size w w1 → ES w1 0 w.heap.size (.slice A es.length c) es from fun w1 hb => h0.below hb (Nat.le_refl _))
  have HWS := Lib.hid (show ∀ w1, Below w.heap.size w w1 → Ints w1 0 w.heap.size (.slice B2 ws.length d2) ws from fun w1 hb => h2.below hb (Nat.le_refl _))
  have HXS := Lib.hid (show ∀ w1, Below w.heap.size w w1 → Ints w1 0 w.heap.size (.slice B3 xs.length d3) xs from fun w1 hb => h3.below hb (Nat.le_refl _))
  obtain ⟨R, hR⟩ : ∃ R, R = plL ⟨es, a, b, z⟩ lb ws xs := ⟨_, rfl⟩
  obtain ⟨ok, hok⟩ : ∃ ok, ok = plB ⟨es, a, b, z⟩ lb ws xs := ⟨_, rfl⟩
  have HR := Lib.hid hR
  have HOK := Lib.hid hok
  have hR60 : R.length ≤ 60 := by rw [hR]; exact plL_len _ _ _ _
  have HEV := Lib.hid (evT_len R)
  clear h0 h2 h3 hR hok
  have Hs := Lib.hid (show ∃ y1, y1 = (w.alloc (.cells #[.slice A es.length c, .int .i64 a, .int .i64 b, .int .i64 z] 24)) ∧ Below w.heap.size w y1 ∧ y1.cell? ⟨w.heap.size, 0, none⟩ = some (.slice A es.length c) ∧ y1.cell? ⟨w.heap.size, 1, none⟩ = some (.int .i64 a) ∧ y1.cell? ⟨w.heap.size, 2, none⟩ = some (.int .i64 b) ∧ y1.cell? ⟨w.heap.size, 3, none⟩ = some (.int .i64 z) ∧ w.heap.size < y1.heap.size from by
    have hb : Below w.heap.size w (w.alloc (.cells #[.slice A es.length c, .int .i64 a, .int .i64 b, .int .i64 z] 24)) := (Below.refl _ _).alloc (Nat.le_refl _) _
    exact ⟨_, rfl, hb, by go_simp, by go_simp, by go_simp, by go_simp, by simp⟩)
  by_cases hbw : 1048576 < ws.length
  · have hb1 : (1048576 : Int) < (ws.length : Int) := by omega
    go_enter Try.func3, Try.ntmps3
    go_wp2
    go_ret
    exact ⟨rfl, by obtain ⟨y1, hw1, hb0, _⟩ := Hs.out; subst hw1; exact hb0⟩
  have hb1 : ¬ (1048576 : Int) < (ws.length : Int) := by omega
  by_cases hbx : 1048576 < xs.length
  · have hb2 : (1048576 : Int) < (xs.length : Int) := by omega
    go_enter Try.func3, Try.ntmps3
    go_wp2
    go_ret
    exact ⟨rfl, by obtain ⟨y1, hw1, hb0, _⟩ := Hs.out; subst hw1; exact hb0⟩
  have hb2 : ¬ (1048576 : Int) < (xs.length : Int) := by omega
  go_enter Try.func3, Try.ntmps3
  go_wp2_with fail
  obtain ⟨y1, hw1, hb0, c00, c01, c02, c03, hz⟩ := Hs.out
  rw [← hw1]
  clear hw1 Hs
  rename Below w.heap.size w y1 => By1
  refine (szMillT_any 0 w.heap.size _ es a b z y1 (HES.out y1 By1) (by omega)).mono ?_
  rintro e y2 ⟨rr, rfl, hr, bx⟩
  have s1 := bx.size
  have By2 := By1.trans (bx.mono (by omega))
  replace c00 := keepB bx c00; replace c01 := keepB bx c01; replace c02 := keepB bx c02; replace c03 := keepB bx c03
  clear bx By1
  rcases hr with rfl | ⟨r0, r1, hsT⟩
  · go_wp2
    go_ret
    exact ⟨rfl, By2⟩
  have hnn : ¬ rr < 0 := by omega
  have hpt := SzT.parts hsT
  have hl := hpt.1
  have HSz := Lib.hid hpt.2.1
  have HOff := Lib.hid (show offE es 1 es.length ≤ 5242881 by have := offE_tot es 1 es.length; omega)
  have hzw : w.heap.size < y2.heap.size := by omega
  clear hsT hpt hz
  go_wp2_with fail
  refine (toMill_any 0 w.heap.size _ es a b z y2 (HES.out y2 By2) (by omega) hl HSz.out).mono ?_
  rintro e y3 ⟨v3, rfl, o_, bx⟩
  obtain ⟨A3, c3, rfl, _⟩ := o_.form
  replace c00 := keepB bx c00; replace c01 := keepB bx c01; replace c02 := keepB bx c02; replace c03 := keepB bx c03
  have s2 : y2.heap.size ≤ y3.heap.size := bx.size
  have By3 := By2.trans (bx.mono (by omega))
  clear bx By2
  have M3 := Lib.hid o_.es
  clear o_
  go_wp2_with fail
  refine (toIntS_any 0 w.heap.size _ ws y3 (HWS.out y3 By3) (by omega) (by omega)).mono ?_
  rintro e y4 ⟨v4, rfl, o_, bx⟩
  obtain ⟨A4, c4, rfl, _⟩ := o_.form
  replace c00 := keepB bx c00; replace c01 := keepB bx c01; replace c02 := keepB bx c02; replace c03 := keepB bx c03
  have M3 := Lib.hid (M3.out.below bx (by omega))
  have s3 : y3.heap.size ≤ y4.heap.size := bx.size
  have By4 := By3.trans (bx.mono (by omega))
  clear bx By3
  have I4 := Lib.hid o_.ints
  clear o_
  go_wp2_with fail
  refine (toIntS_any 0 w.heap.size _ xs y4 (HXS.out y4 By4) (by omega) (by omega)).mono ?_
  rintro e y5 ⟨v5, rfl, o_, bx⟩
  obtain ⟨A5, c5, rfl, _⟩ := o_.form
  replace c00 := keepB bx c00; replace c01 := keepB bx c01; replace c02 := keepB bx c02; replace c03 := keepB bx c03
  have M3 := Lib.hid (M3.out.below bx (by omega))
  have I4 := Lib.hid (I4.out.below bx (by omega))
  have s4 : y4.heap.size ≤ y5.heap.size := bx.size
  have By5 := By4.trans (bx.mono (by omega))
  clear bx By4
  have I5 := Lib.hid o_.ints
  clear o_
  go_wp2_with fail
  refine (PlanCutsS_fix _ _ _ _ _ _ _ _ _ ⟨es, a, b, z⟩ lb ws xs R ok y5 M3.out (by omega) hin hlb I4.out (by omega) I5.out (by omega) HR.out HOK.out).mono ?_
  rintro e y6 ⟨A6, c6, rfl, o_, bx⟩
  replace c00 := keepB bx c00; replace c01 := keepB bx c01; replace c02 := keepB bx c02; replace c03 := keepB bx c03
  have M3 := Lib.hid (M3.out.below bx (by omega))
  have I4 := Lib.hid (I4.out.below bx (by omega))
  have I5 := Lib.hid (I5.out.below bx (by omega))
  have s5 : y5.heap.size ≤ y6.heap.size := bx.size
  have By6 := By5.trans (bx.mono (by omega))
  clear bx By5
  have W0 := Lib.hid o_.ts
  clear o_
  clear M3
  clear I4
  clear I5
  go_wp2_with fail
  refine (toMill_any 0 w.heap.size _ es a b z y6 (HES.out y6 By6) (by omega) hl HSz.out).mono ?_
  rintro e y7 ⟨v7, rfl, o_, bx⟩
  obtain ⟨A7, c7, rfl, _⟩ := o_.form
  replace c00 := keepB bx c00; replace c01 := keepB bx c01; replace c02 := keepB bx c02; replace c03 := keepB bx c03
  have W0 := Lib.hid (W0.out.below bx (by omega))
  have s6 : y6.heap.size ≤ y7.heap.size := bx.size
  have By7 := By6.trans (bx.mono (by omega))
  clear bx By6
  have X0 := Lib.hid o_
  clear o_
  go_wp2_with fail
  obtain ⟨y8, hw1⟩ : ∃ y8, y8 = y7.alloc (.cells #[.slice A7 es.length c7, .int .i64 a, .int .i64 b, .int .i64 z] 32) := ⟨_, rfl⟩
  have t0 : y8.cell? ⟨y7.heap.size, 0, none⟩ = some (.slice A7 es.length c7) := by rw [hw1]; go_simp
  have t1 : y8.cell? ⟨y7.heap.size, 1, none⟩ = some (.int .i64 a) := by rw [hw1]; go_simp
  have t2 : y8.cell? ⟨y7.heap.size, 2, none⟩ = some (.int .i64 b) := by rw [hw1]; go_simp
  have t3 : y8.cell? ⟨y7.heap.size, 3, none⟩ = some (.int .i64 z) := by rw [hw1]; go_simp
  have bt : Below y7.heap.size y7 y8 := by rw [hw1]; exact (Below.refl _ _).alloc (Nat.le_refl _) _
  have zt : y7.heap.size < y8.heap.size := by rw [hw1]; simp
  have Ht := Lib.hid (show y8.heap[y7.heap.size]? = some (.cells #[.slice A7 es.length c7, .int .i64 a, .int .i64 b, .int .i64 z] 32) by rw [hw1]; exact heap_alloc_new y7 _)
  rw [← hw1]
  clear hw1
  clear Ht zt
  replace c00 := keepB bt c00; replace c01 := keepB bt c01; replace c02 := keepB bt c02; replace c03 := keepB bt c03
  have W0 := Lib.hid (W0.out.below bt (by omega))
  have X0 := Lib.hid (X0.out.below bt (by omega))
  have s7 : y7.heap.size ≤ y8.heap.size := bt.size
  have By8 := By7.trans (bt.mono (by omega))
  clear bt By7
  go_wp2_with fail
  refine (toIntS_any 0 w.heap.size _ ws y8 (HWS.out y8 By8) (by omega) (by omega)).mono ?_
  rintro e y9 ⟨v9, rfl, o_, bx⟩
  obtain ⟨A9, c9, rfl, _⟩ := o_.form
  replace c00 := keepB bx c00; replace c01 := keepB bx c01; replace c02 := keepB bx c02; replace c03 := keepB bx c03; replace t0 := keepB bx t0; replace t1 := keepB bx t1; replace t2 := keepB bx t2; replace t3 := keepB bx t3
  have W0 := Lib.hid (W0.out.below bx (by omega))
  have X0 := Lib.hid (X0.out.below bx (by omega))
  have s8 : y8.heap.size ≤ y9.heap.size := bx.size
  have By9 := By8.trans (bx.mono (by omega))
  clear bx By8
  have X2 := Lib.hid o_
  have HX2 := Lib.hid (show ∀ g, (Value.slice A9 ws.length c9).ownBlock = some g → y8.heap.size ≤ g ∧ g < y9.heap.size from o_.lt)
  clear o_
  go_wp2_with fail
  refine (toIntS_any 0 w.heap.size _ xs y9 (HXS.out y9 By9) (by omega) (by omega)).mono ?_
  rintro e y10 ⟨v10, rfl, o_, bx⟩
  obtain ⟨A10, c10, rfl, _⟩ := o_.form
  replace c00 := keepB bx c00; replace c01 := keepB bx c01; replace c02 := keepB bx c02; replace c03 := keepB bx c03; replace t0 := keepB bx t0; replace t1 := keepB bx t1; replace t2 := keepB bx t2; replace t3 := keepB bx t3
  have W0 := Lib.hid (W0.out.below bx (by omega))
  have X0 := Lib.hid (X0.out.below bx (by omega))
  have X2 := Lib.hid (X2.out.kept (.of_below bx (Nat.le_refl _)))
  have s9 : y9.heap.size ≤ y10.heap.size := bx.size
  have By10 := By9.trans (bx.mono (by omega))
  clear bx By9
  have X3 := Lib.hid o_
  have HX3 := Lib.hid (show ∀ g, (Value.slice A10 xs.length c10).ownBlock = some g → y9.heap.size ≤ g ∧ g < y10.heap.size from o_.lt)
  clear o_
  go_wp2_with fail
  refine (PlanCutsI_fix _ _ _ _ _ _ _ _ _ ⟨es, a, b, z⟩ lb ws xs R ok y10 X0.out.es (by omega) hin hlb X2.out.ints (Nat.le_refl _) X3.out.ints (Nat.le_refl _) HR.out HOK.out).mono ?_
  rintro e y11 ⟨A11, c11, rfl, o_, bx⟩
  replace c00 := keepB bx c00; replace c01 := keepB bx c01; replace c02 := keepB bx c02; replace c03 := keepB bx c03; replace t0 := keepB bx t0; replace t1 := keepB bx t1; replace t2 := keepB bx t2; replace t3 := keepB bx t3
  have W0 := Lib.hid (W0.out.below bx (by omega))
  have X0 := Lib.hid (X0.out.below bx (by omega))
  have X2 := Lib.hid (X2.out.kept (.of_below bx (Nat.le_refl _)))
  have X3 := Lib.hid (X3.out.kept (.of_below bx (Nat.le_refl _)))
  have s10 : y10.heap.size ≤ y11.heap.size := bx.size
  have By11 := By10.trans (bx.mono (by omega))
  clear bx By10
  have G0 := Lib.hid o_
  have HG0 := Lib.hid (show ∀ g, (Value.slice A11 R.length c11).ownBlock = some g → y10.heap.size ≤ g ∧ g < y11.heap.size from o_.lt)
  clear o_
  have hkk : (ok != ok) = false := by cases ok <;> rfl
  go_wp2_with fail
  refine (eqEventS_same _ _ _ _ _ _ (evT R) y11 (by have h9 := G0.out.ts; exact h9) (Nat.le_refl _) W0.out (by omega)).mono ?_
  rintro e y12 ⟨rfl, bx⟩
  replace c00 := keepB bx c00; replace c01 := keepB bx c01; replace c02 := keepB bx c02; replace c03 := keepB bx c03; replace t0 := keepB bx t0; replace t1 := keepB bx t1; replace t2 := keepB bx t2; replace t3 := keepB bx t3
  have W0 := Lib.hid (W0.out.below bx (by omega))
  have X0 := Lib.hid (X0.out.below bx (by omega))
  have X2 := Lib.hid (X2.out.kept (.of_below bx (Nat.le_refl _)))
  have X3 := Lib.hid (X3.out.kept (.of_below bx (Nat.le_refl _)))
  have G0 := Lib.hid (G0.out.kept (.of_below bx (Nat.le_refl _)))
  have s11 : y11.heap.size ≤ y12.heap.size := bx.size
  have By12 := By11.trans (bx.mono (by omega))
  clear bx By11
  go_wp2
  refine wp_region_held_drew (S := fun w' => w'.cell? ⟨w.heap.size, 0, none⟩ = some (.slice A es.length c) ∧ w'.cell? ⟨w.heap.size, 1, none⟩ = some (.int .i64 a) ∧ w'.cell? ⟨w.heap.size, 2, none⟩ = some (.int .i64 b) ∧ w'.cell? ⟨w.heap.size, 3, none⟩ = some (.int .i64 z) ∧ w'.cell? ⟨y7.heap.size, 0, none⟩ = some (.slice A7 es.length c7) ∧ w'.cell? ⟨y7.heap.size, 1, none⟩ = some (.int .i64 a) ∧ w'.cell? ⟨y7.heap.size, 2, none⟩ = some (.int .i64 b) ∧ w'.cell? ⟨y7.heap.size, 3, none⟩ = some (.int .i64 z)) (by kernel_rfl) ?_ (fun hHeld => ?_)
  · (first | (try dsimp only); go_keep | (go_split_ands; refine ⟨?_, ?_, ?_, ?_, ?_, ?_, ?_, ?_⟩ <;> first | exact keepB bx2 (by assumption) | exact keepB bx1 (by assumption) | assumption))
  refine wpAnyH_take (i := 0) (oi := ⟨some 67, _, _, _, _, _⟩) (v := _) rfl (by kernel_rfl) (by kernel_rfl) (by kernel_rfl) (fun _ _ _ h => h) (Or.inl ⟨by kernel_rfl, by intro w hSw; (try dsimp only at hSw); go_simp; try with_reducible rfl⟩) (by assumption) ?_
  simp only [Act.put, List.setIfInBounds_toArray, List.set_cons_zero, List.set_cons_succ]
  refine wpAnyH_take (i := 1) (oi := ⟨some 68, _, _, _, _, _⟩) (v := _) rfl (by kernel_rfl) (by kernel_rfl) (by kernel_rfl) (fun _ _ _ h => h) (Or.inl ⟨by kernel_rfl, by intro w hSw; (try dsimp only at hSw); go_simp; try with_reducible rfl⟩) (by assumption) ?_
  simp only [Act.put, List.setIfInBounds_toArray, List.set_cons_zero, List.set_cons_succ]
  refine wpAnyH_ready (rs := [2]) (by kernel_rfl) (by simp) ?_
  refine AllReadyH.cons (o := ⟨some 69, _, _, _, _, _⟩) rfl (fun K hK => ?_) AllReadyH.nil
  go_simp
  go_at_call 7
  refine (toMill_any 0 w.heap.size _ es a b z _ ((HES.out y12 By12).drewN 1) (by simp; omega) hl HSz.out).mono ?_
  rintro e x1 ⟨v13, rfl, o13, bx1⟩
  have by1 := of_drew bx1
  have s13 := by1.size
  obtain ⟨A13, c13, rfl, _⟩ := o13.form
  go_wp2_with fail
  refine hK.out _ _ ?_ (fun hHeld2 => ?_)
  · (first | (try dsimp only); go_keep | (go_split_ands; refine ⟨?_, ?_, ?_, ?_, ?_, ?_, ?_, ?_⟩ <;> first | exact keepB bx2 (by assumption) | exact keepB bx1 (by assumption) | assumption))
  clear hK K hHeld
  have hHeld := hHeld2
  clear hHeld2
  try simp only [Act.put, List.setIfInBounds_toArray, List.set_cons_zero, List.set_cons_succ]
  refine wpAnyH_ready (rs := [3]) (by kernel_rfl) (by simp) ?_
  refine AllReadyH.cons (o := ⟨some 70, _, _, _, _, _⟩) rfl (fun K hK => ?_) AllReadyH.nil
  go_simp
  go_at_call 11
  refine (eqMill_same _ _ _ _ _ _ es a b z x1 (X0.out.es.below by1 (by omega)) (by omega) o13.es (Nat.le_refl _)).mono ?_
  rintro e y13 ⟨rfl, bx2⟩
  go_wp2_with fail
  refine hK.out _ _ ?_ (fun hHeld2 => ?_)
  · (first | (try dsimp only); go_keep | (go_split_ands; refine ⟨?_, ?_, ?_, ?_, ?_, ?_, ?_, ?_⟩ <;> first | exact keepB bx2 (by assumption) | exact keepB bx1 (by assumption) | assumption))
  clear hK K hHeld
  have hHeld := hHeld2
  clear hHeld2
  try simp only [Act.put, List.setIfInBounds_toArray, List.set_cons_zero, List.set_cons_succ]
  refine wpAnyH_take (i := 4) (oi := ⟨some 71, _, _, _, _, _⟩) (v := _) rfl (by kernel_rfl) (by kernel_rfl) (by kernel_rfl) (fun _ _ _ h => h) (Or.inl ⟨by kernel_rfl, by intro w hSw; (try dsimp only at hSw); go_simp; try with_reducible rfl⟩) (by assumption) ?_
  simp only [Act.put, List.setIfInBounds_toArray, List.set_cons_zero, List.set_cons_succ]
  refine wpAnyH_done (by kernel_rfl) ?_ _
  have bz := by1.trans (bx2.mono (by omega))
  clear by1 bx1 bx2 o13 s13
  try clear hHeld
  replace c00 := keepB bz c00; replace c01 := keepB bz c01; replace c02 := keepB bz c02; replace c03 := keepB bz c03; replace t0 := keepB bz t0; replace t1 := keepB bz t1; replace t2 := keepB bz t2; replace t3 := keepB bz t3
  have W0 := Lib.hid (W0.out.below bz (by omega))
  have X0 := Lib.hid (X0.out.below bz (by omega))
  have X2 := Lib.hid (X2.out.kept (.of_below bz (Nat.le_refl _)))
  have X3 := Lib.hid (X3.out.kept (.of_below bz (Nat.le_refl _)))
  have G0 := Lib.hid (G0.out.kept (.of_below bz (Nat.le_refl _)))
  have s12 : y12.heap.size ≤ y13.heap.size := bz.size
  have By13 := By12.trans (bz.mono (by omega))
  clear bz By12
  go_wp2_with fail
  refine (toIntS_any 0 w.heap.size _ ws y13 (HWS.out y13 By13) (by omega) (by omega)).mono ?_
  rintro e y14 ⟨v14, rfl, o_, bx⟩
  obtain ⟨A14, c14, rfl, _⟩ := o_.form
  replace c00 := keepB bx c00; replace c01 := keepB bx c01; replace c02 := keepB bx c02; replace c03 := keepB bx c03; replace t0 := keepB bx t0; replace t1 := keepB bx t1; replace t2 := keepB bx t2; replace t3 := keepB bx t3
  have W0 := Lib.hid (W0.out.below bx (by omega))
  have X0 := Lib.hid (X0.out.below bx (by omega))
  have X2 := Lib.hid (X2.out.kept (.of_below bx (Nat.le_refl _)))
  have X3 := Lib.hid (X3.out.kept (.of_below bx (Nat.le_refl _)))
  have G0 := Lib.hid (G0.out.kept (.of_below bx (Nat.le_refl _)))
  have s13 : y13.heap.size ≤ y14.heap.size := bx.size
  have By14 := By13.trans (bx.mono (by omega))
  clear bx By13
  have E9 := Lib.hid o_.ints
  clear o_
  go_wp2_with fail
  refine (eqIntS_any _ _ _ _ _ _ ws ws y14 X2.out.ints E9.out).mono ?_
  rw [eqL_same]
  rintro e y15 ⟨rfl, hq⟩
  have bx := hq.below y14.heap.size
  clear hq
  replace c00 := keepB bx c00; replace c01 := keepB bx c01; replace c02 := keepB bx c02; replace c03 := keepB bx c03; replace t0 := keepB bx t0; replace t1 := keepB bx t1; replace t2 := keepB bx t2; replace t3 := keepB bx t3
  have W0 := Lib.hid (W0.out.below bx (by omega))
  have X0 := Lib.hid (X0.out.below bx (by omega))
  have X2 := Lib.hid (X2.out.kept (.of_below bx (Nat.le_refl _)))
  have X3 := Lib.hid (X3.out.kept (.of_below bx (Nat.le_refl _)))
  have G0 := Lib.hid (G0.out.kept (.of_below bx (Nat.le_refl _)))
  have E9 := Lib.hid (E9.out.below bx (by omega))
  have s14 : y14.heap.size ≤ y15.heap.size := bx.size
  have By15 := By14.trans (bx.mono (by omega))
  clear bx By14
  clear E9
  go_wp2_with fail
  refine (toIntS_any 0 w.heap.size _ xs y15 (HXS.out y15 By15) (by omega) (by omega)).mono ?_
  rintro e y16 ⟨v16, rfl, o_, bx⟩
  obtain ⟨A16, c16, rfl, _⟩ := o_.form
  replace c00 := keepB bx c00; replace c01 := keepB bx c01; replace c02 := keepB bx c02; replace c03 := keepB bx c03; replace t0 := keepB bx t0; replace t1 := keepB bx t1; replace t2 := keepB bx t2; replace t3 := keepB bx t3
  have W0 := Lib.hid (W0.out.below bx (by omega))
  have X0 := Lib.hid (X0.out.below bx (by omega))
  have X2 := Lib.hid (X2.out.kept (.of_below bx (Nat.le_refl _)))
  have X3 := Lib.hid (X3.out.kept (.of_below bx (Nat.le_refl _)))
  have G0 := Lib.hid (G0.out.kept (.of_below bx (Nat.le_refl _)))
  have s15 : y15.heap.size ≤ y16.heap.size := bx.size
  have By16 := By15.trans (bx.mono (by omega))
  clear bx By15
  have E9 := Lib.hid o_.ints
  clear o_
  go_wp2_with fail
  refine (eqIntS_any _ _ _ _ _ _ xs xs y16 X3.out.ints E9.out).mono ?_
  rw [eqL_same]
  rintro e y17 ⟨rfl, hq⟩
  have bx := hq.below y16.heap.size
  clear hq
  replace c00 := keepB bx c00; replace c01 := keepB bx c01; replace c02 := keepB bx c02; replace c03 := keepB bx c03; replace t0 := keepB bx t0; replace t1 := keepB bx t1; replace t2 := keepB bx t2; replace t3 := keepB bx t3
  have W0 := Lib.hid (W0.out.below bx (by omega))
  have X0 := Lib.hid (X0.out.below bx (by omega))
  have X2 := Lib.hid (X2.out.kept (.of_below bx (Nat.le_refl _)))
  have X3 := Lib.hid (X3.out.kept (.of_below bx (Nat.le_refl _)))
  have G0 := Lib.hid (G0.out.kept (.of_below bx (Nat.le_refl _)))
  have E9 := Lib.hid (E9.out.below bx (by omega))
  have s16 : y16.heap.size ≤ y17.heap.size := bx.size
  have By17 := By16.trans (bx.mono (by omega))
  clear bx By16
  clear E9
  go_wp2_with fail
  refine (markMill_any y6.heap.size y7.heap.size _ es a b z 1 y17 X0.out (by omega) HSz.out hl (by have := HOff.out; omega)).mono ?_
  rintro e y18 ⟨rfl, _, hkeep, ⟨hos, htp, hou⟩, s17⟩
  have By18 : Below w.heap.size w y18 := By17.trans ⟨hos, htp, hou, s17, fun q hq => hkeep q (by omega) (by omega)⟩
  clear t0 t1 t2 t3
  replace c00 := cell_same (hkeep w.heap.size (by omega) (by omega)) c00
  replace c01 := cell_same (hkeep w.heap.size (by omega) (by omega)) c01
  replace c02 := cell_same (hkeep w.heap.size (by omega) (by omega)) c02
  replace c03 := cell_same (hkeep w.heap.size (by omega) (by omega)) c03
  clear X0
  have W0 := Lib.hid (W0.out.kept (w' := y18) fun q hq hq2 => hkeep q (by omega) (by omega))
  have X2 := Lib.hid (X2.out.kept (w' := y18) fun q hq hq2 => hkeep q (by omega) (by omega))
  have X3 := Lib.hid (X3.out.kept (w' := y18) fun q hq hq2 => hkeep q (by omega) (by omega))
  have G0 := Lib.hid (G0.out.kept (w' := y18) fun q hq hq2 => hkeep q (by omega) (by omega))
  obtain ⟨K1, hK1⟩ : ∃ K : Nat, K = offE es 1 es.length := ⟨_, rfl⟩
  rw [← hK1]
  have hK1b : K1 ≤ 5242881 := by rw [hK1]; exact HOff.out
  clear hkeep hos htp hou hK1 By17
  go_wp2_with fail
  refine (markIntS_any _ y9.heap.size _ ws K1 y18 X2.out (fun g hg => (HX2.out g hg).2) (by omega) (by omega)).mono ?_
  rintro e y19 ⟨rfl, _, hon, hkb⟩
  have s18 : y18.heap.size ≤ y19.heap.size := by have := hon.size; omega
  have By19 : Below w.heap.size w y19 := By18.trans ⟨hon.os, hon.tape, hon.output, s18, fun q hq => hkb q fun e => by have := (HX2.out q e.symm).1; omega⟩
  replace c00 := cell_same (hkb w.heap.size fun e => by have := (HX2.out _ e.symm).1; omega) c00
  replace c01 := cell_same (hkb w.heap.size fun e => by have := (HX2.out _ e.symm).1; omega) c01
  replace c02 := cell_same (hkb w.heap.size fun e => by have := (HX2.out _ e.symm).1; omega) c02
  replace c03 := cell_same (hkb w.heap.size fun e => by have := (HX2.out _ e.symm).1; omega) c03
  clear X2
  have W0 := Lib.hid (W0.out.kept (w' := y19) fun q hq hq2 => hkb q fun e => by have := HX2.out q e.symm; omega)
  have X3 := Lib.hid (X3.out.kept (w' := y19) fun q hq hq2 => hkb q fun e => by have := HX2.out q e.symm; omega)
  have G0 := Lib.hid (G0.out.kept (w' := y19) fun q hq hq2 => hkb q fun e => by have := HX2.out q e.symm; omega)
  obtain ⟨K2, hK2⟩ : ∃ K : Nat, K = K1 + ws.length := ⟨_, rfl⟩
  rw [← hK2]
  have hK2b : K2 ≤ 6291457 := by omega
  clear hon hkb hK2 By18
  go_wp2_with fail
  refine (markIntS_any _ y10.heap.size _ xs K2 y19 X3.out (fun g hg => (HX3.out g hg).2) (by omega) (by omega)).mono ?_
  rintro e y20 ⟨rfl, _, hon, hkb⟩
  have s19 : y19.heap.size ≤ y20.heap.size := by have := hon.size; omega
  have By20 : Below w.heap.size w y20 := By19.trans ⟨hon.os, hon.tape, hon.output, s19, fun q hq => hkb q fun e => by have := (HX3.out q e.symm).1; omega⟩
  replace c00 := cell_same (hkb w.heap.size fun e => by have := (HX3.out _ e.symm).1; omega) c00
  replace c01 := cell_same (hkb w.heap.size fun e => by have := (HX3.out _ e.symm).1; omega) c01
  replace c02 := cell_same (hkb w.heap.size fun e => by have := (HX3.out _ e.symm).1; omega) c02
  replace c03 := cell_same (hkb w.heap.size fun e => by have := (HX3.out _ e.symm).1; omega) c03
  clear X3
  have W0 := Lib.hid (W0.out.kept (w' := y20) fun q hq hq2 => hkb q fun e => by have := HX3.out q e.symm; omega)
  have G0 := Lib.hid (G0.out.kept (w' := y20) fun q hq hq2 => hkb q fun e => by have := HX3.out q e.symm; omega)
  obtain ⟨K3, hK3⟩ : ∃ K : Nat, K = K2 + xs.length := ⟨_, rfl⟩
  rw [← hK3]
  have hK3b : K3 ≤ 7340033 := by omega
  clear hon hkb hK3 By19
  have hnk : ¬ (K3 : Int) < 0 := by omega
  go_wp2_with fail
  refine (eqEventS_same _ _ _ _ _ _ (evT R) y20 (by have h9 := G0.out.ts; exact h9) (Nat.le_refl _) W0.out (by omega)).mono ?_
  rintro e y21 ⟨rfl, bx⟩
  replace c00 := keepB bx c00; replace c01 := keepB bx c01; replace c02 := keepB bx c02; replace c03 := keepB bx c03
  have W0 := Lib.hid (W0.out.below bx (by omega))
  have G0 := Lib.hid (G0.out.kept (.of_below bx (Nat.le_refl _)))
  have s20 : y20.heap.size ≤ y21.heap.size := bx.size
  have By21 := By20.trans (bx.mono (by omega))
  clear bx By20
  go_wp2_with fail
  refine (markEventS_any _ _ (evT R) 1 y21 G0.out (by rw [HEV.out]; omega) (by omega)).mono ?_
  rintro e y22 ⟨rfl, o_, bm, hkb, hsz⟩
  have s21 : y21.heap.size ≤ y22.heap.size := by omega
  have By22 : Below w.heap.size w y22 := By21.trans ⟨bm.os, bm.tape, bm.output, s21, fun q hq => hkb q fun e => by have := (HG0.out q e.symm).1; omega⟩
  replace c00 := cell_same (hkb w.heap.size fun e => by have := (HG0.out _ e.symm).1; omega) c00
  replace c01 := cell_same (hkb w.heap.size fun e => by have := (HG0.out _ e.symm).1; omega) c01
  replace c02 := cell_same (hkb w.heap.size fun e => by have := (HG0.out _ e.symm).1; omega) c02
  replace c03 := cell_same (hkb w.heap.size fun e => by have := (HG0.out _ e.symm).1; omega) c03
  clear G0
  have W0 := Lib.hid (W0.out.kept (w' := y22) fun q hq hq2 => hkb q fun e => by have := (HG0.out q e.symm).1; omega)
  have H0 := Lib.hid o_.ts
  obtain ⟨K4, hK4⟩ : ∃ K : Nat, K = 1 + (evT R).length * 7 := ⟨_, rfl⟩
  rw [← hK4]
  have HK4 := Lib.hid hK4
  have hn4 : ¬ (K4 : Int) < 0 := by omega
  have hk4 : ((K4 : Int) != (K4 : Int)) = false := bne_f rfl
  clear o_ bm hkb hsz hK4 By21
  go_wp2_with fail
  refine (heldEventS_up _ _ _ 1 (evT R).length y22 H0.out (by omega) (by rw [HEV.out]; omega)).mono ?_
  rw [← HK4.out]
  rintro e x9 ⟨rfl, hx9⟩
  subst hx9
  go_wp2_with fail
  refine (toMill_any 0 w.heap.size _ es a b z y22 (HES.out y22 By22) (by omega) hl HSz.out).mono ?_
  rintro e y23 ⟨v23, rfl, o_, bx⟩
  obtain ⟨A23, c23, rfl, _⟩ := o_.form
  replace c00 := keepB bx c00; replace c01 := keepB bx c01; replace c02 := keepB bx c02; replace c03 := keepB bx c03
  have W0 := Lib.hid (W0.out.below bx (by omega))
  have H0 := Lib.hid (H0.out.below bx (by omega))
  have s22 : y22.heap.size ≤ y23.heap.size := bx.size
  have By23 := By22.trans (bx.mono (by omega))
  clear bx By22
  have M23 := Lib.hid o_.es
  clear o_
  go_wp2_with fail
  refine (toIntS_any 0 w.heap.size _ ws y23 (HWS.out y23 By23) (by omega) (by omega)).mono ?_
  rintro e y24 ⟨v24, rfl, o_, bx⟩
  obtain ⟨A24, c24, rfl, _⟩ := o_.form
  replace c00 := keepB bx c00; replace c01 := keepB bx c01; replace c02 := keepB bx c02; replace c03 := keepB bx c03
  have W0 := Lib.hid (W0.out.below bx (by omega))
  have H0 := Lib.hid (H0.out.below bx (by omega))
  have M23 := Lib.hid (M23.out.below bx (by omega))
  have s23 : y23.heap.size ≤ y24.heap.size := bx.size
  have By24 := By23.trans (bx.mono (by omega))
  clear bx By23
  have I24 := Lib.hid o_.ints
  clear o_
  go_wp2_with fail
  refine (toIntS_any 0 w.heap.size _ xs y24 (HXS.out y24 By24) (by omega) (by omega)).mono ?_
  rintro e y25 ⟨v25, rfl, o_, bx⟩
  obtain ⟨A25, c25, rfl, _⟩ := o_.form
  replace c00 := keepB bx c00; replace c01 := keepB bx c01; replace c02 := keepB bx c02; replace c03 := keepB bx c03
  have W0 := Lib.hid (W0.out.below bx (by omega))
  have H0 := Lib.hid (H0.out.below bx (by omega))
  have M23 := Lib.hid (M23.out.below bx (by omega))
  have I24 := Lib.hid (I24.out.below bx (by omega))
  have s24 : y24.heap.size ≤ y25.heap.size := bx.size
  have By25 := By24.trans (bx.mono (by omega))
  clear bx By24
  have I25 := Lib.hid o_.ints
  clear o_
  go_wp2_with fail
  refine (PlanCutsI_fix _ _ _ _ _ _ _ _ _ ⟨es, a, b, z⟩ lb ws xs R ok y25 M23.out (by omega) hin hlb I24.out (by omega) I25.out (by omega) HR.out HOK.out).mono ?_
  rintro e y26 ⟨A26, c26, rfl, o_, bx⟩
  replace c00 := keepB bx c00; replace c01 := keepB bx c01; replace c02 := keepB bx c02; replace c03 := keepB bx c03
  have W0 := Lib.hid (W0.out.below bx (by omega))
  have H0 := Lib.hid (H0.out.below bx (by omega))
  have M23 := Lib.hid (M23.out.below bx (by omega))
  have I24 := Lib.hid (I24.out.below bx (by omega))
  have I25 := Lib.hid (I25.out.below bx (by omega))
  have s25 : y25.heap.size ≤ y26.heap.size := bx.size
  have By26 := By25.trans (bx.mono (by omega))
  clear bx By25
  have Z0 := Lib.hid o_.ts
  clear o_
  clear M23
  clear I24
  clear I25
  go_wp2_with fail
  refine (eqEventS_same _ _ _ _ _ _ (evT R) y26 Z0.out (Nat.le_refl _) W0.out (by omega)).mono ?_
  rintro e y27 ⟨rfl, bx⟩
  replace c00 := keepB bx c00; replace c01 := keepB bx c01; replace c02 := keepB bx c02; replace c03 := keepB bx c03
  have W0 := Lib.hid (W0.out.below bx (by omega))
  have H0 := Lib.hid (H0.out.below bx (by omega))
  have Z0 := Lib.hid (Z0.out.below bx (by omega))
  have s26 : y26.heap.size ≤ y27.heap.size := bx.size
  have By27 := By26.trans (bx.mono (by omega))
  clear bx By26
  go_wp2_with fail
  refine (heldEventS_up _ _ _ 1 (evT R).length y27 H0.out (by omega) (by rw [HEV.out]; omega)).mono ?_
  rw [← HK4.out]
  rintro e x9 ⟨rfl, hx9⟩
  subst hx9
  go_wp2
  go_ret
  exact ⟨rfl, By27⟩
end Go.Proofs.Ytkgepklapglmdaa
