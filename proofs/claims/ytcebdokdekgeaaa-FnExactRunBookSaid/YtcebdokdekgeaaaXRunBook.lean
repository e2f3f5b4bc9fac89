/-
  Lemmas and contracts of single functions of this program, used by the proofs of its laws: what each call returns and what becomes of memory. Conditions: the hypotheses of each theorem.
-/
import Derived.Test.YtcebdokdekgeaaaMillU
import Derived.Test.YtcebdokdekgeaaaMarkE
import Derived.Test.YtcebdokdekgeaaaEvA
namespace Go.Proofs.Ytcebdokdekgeaaa
open Go.RowKit
attribute [local go_sem ↓] Go.wp_at_zero Go.wp_at_succ

theorem sRunBook_fix (lo hi : Nat) (v : Value) (evs : List Evt) (es5 : List Ent) (a5 b5 z5 : Int) (rs : Bool) (w : World) (h : TS w lo hi 7 v (evT evs)) (hhi : hi ≤ w.heap.size) (hM : (⟨es5, a5, b5, z5⟩ : Mil) = (rbV evs).getD Mil.nil) (hr : rs = (rbV evs).isSome) :
    Calls Try.prog 25 #[v] w fun e w' => ∃ A c, e = .returned (.tuple #[.agg #[.slice A es5.length c, .int .i64 a5, .int .i64 b5, .int .i64 z5], .bool rs]) ∧ ES w' w.heap.size w'.heap.size (.slice A es5.length c) es5 ∧ Below w.heap.size w w' := by
  refine (sRunBook_any lo hi v evs w h hhi).mono ?_
  rintro e w' ⟨u, rfl, he, hb⟩
  rw [← hM] at he ⊢
  rw [← hr]
  obtain ⟨A, c, rfl, _⟩ := he.form
  exact ⟨A, c, rfl, he, hb⟩
theorem RunBook_fix (lo hi : Nat) (v : Value) (evs : List Evt) (es5 : List Ent) (a5 b5 z5 : Int) (rs : Bool) (w : World) (h : TS w lo hi 7 v (evT evs)) (hhi : hi ≤ w.heap.size) (hM : (⟨es5, a5, b5, z5⟩ : Mil) = (rbV evs).getD Mil.nil) (hr : rs = (rbV evs).isSome) :
    Calls Try.prog 24 #[v] w fun e w' => ∃ A c, e = .returned (.tuple #[.agg #[.slice A es5.length c, .int .i64 a5, .int .i64 b5, .int .i64 z5], .bool rs]) ∧ OwnE w' w.heap.size w'.heap.size 35 82 38 (.slice A es5.length c) es5 ∧ Below w.heap.size w w' := by
  refine (RunBook_any lo hi v evs w h hhi).mono ?_
  rintro e w' ⟨u, rfl, he, hb⟩
  rw [← hM] at he ⊢
  rw [← hr]
  obtain ⟨A, c, rfl, _⟩ := he.form
  exact ⟨A, c, rfl, he, hb⟩
theorem rbV_small {evs : List Evt} : ((rbV evs).getD Mil.nil).es.length ≤ 12 ∧ ∀ k, k < ((rbV evs).getD Mil.nil).es.length → (ge ((rbV evs).getD Mil.nil).es k).ds.length ≤ 1000 ∧ (ge ((rbV evs).getD Mil.nil).es k).ps.length ≤ 1000 := by
  cases h : rbV evs with
  | none => exact ⟨by simp [Mil.nil], fun k hk => absurd hk (by simp [Mil.nil])⟩
  | some m' =>
    unfold rbV at h
    split at h
    · exact mill_sizes (runB_ok nil_ok h).1
    · cases h
theorem small_offB {es : List Ent} (hl : es.length ≤ 12) (h : ∀ k, k < es.length → (ge es k).ds.length ≤ 1000 ∧ (ge es k).ps.length ≤ 1000) : offE es 1 es.length ≤ 1000000 := by
  have := offE_bound (es := es) (S := 9003) (fun k hk => by have := h k hk; unfold szE; omega) 1 es.length (Nat.le_refl _)
  have h2 : 9003 * es.length ≤ 9003 * 12 := Nat.mul_le_mul_left _ hl
  omega
set_option maxRecDepth 100000 in
set_option maxHeartbeats 16000000 in
theorem FnExactRunBook_walk (v : Value) (evs : List Evt) (w : World) (h0 : TS w 0 w.heap.size 7 v (evT evs)) :
    Calls Try.prog 10 #[v] w fun e w' => e = .returned (.bool true) ∧ Below w.heap.size w w' := by
  obtain ⟨A, c, rfl, hc, hm⟩ := h0.form
  rw [evT_len] at hc ⊢
  have hts : ∀ w1, Below w.heap.size w w1 → TS w1 0 w.heap.size 7 (.slice A evs.length c) (evT evs) := fun w1 hb => by have := h0.below hb (Nat.le_refl _); rw [evT_len] at this; exact this
  have hlen := evT_len evs
  obtain ⟨⟨es5, a5, b5, z5⟩, hM5⟩ : ∃ M, M = (rbV evs).getD Mil.nil := ⟨_, rfl⟩
  obtain ⟨rs, hrs⟩ : ∃ rs, rs = (rbV evs).isSome := ⟨_, rfl⟩
  have hsm := rbV_small (evs := evs)
  rw [← hM5] at hsm
  dsimp only at hsm
  have HSm := Lib.hid hsm
  have HM5 := Lib.hid hM5
  have Hrs := Lib.hid hrs
  have hrr : (rs != rs) = false := by cases rs <;> rfl
  have HO5 := Lib.hid (small_offB hsm.1 hsm.2)
  have Hlen := Lib.hid hlen
  clear hM5 hrs hsm h0 hlen
  by_cases hl : evs.length ≤ 1048576
  rotate_left
  · go_enter Try.func10, Try.ntmps10
    go_wp2_with fail
    refine (szEventS_neg A evs.length c 1048576 w (by omega) (by omega)).mono ?_
    rintro e w1 ⟨rfl, rfl⟩
    go_wp2
    go_ret
    exact ⟨rfl, Below.refl _ _⟩
  go_enter Try.func10, Try.ntmps10
  go_wp2_with fail
  refine (szEventS_any A evs.length c 1048576 w hl (by omega)).mono ?_
  rintro e w1 ⟨rfl, rfl⟩
  have hnn : ¬ ((1048576 - evs.length : Nat) : Int) < 0 := by omega
  have By1 := Below.refl w.heap.size w
  go_wp2_with fail
  refine (toEventS_any 0 w.heap.size _ (evT evs) w (hts w By1) (Nat.le_refl _) (by rw [Hlen.out]; exact hl)).mono ?_
  rintro e y2 ⟨v2, rfl, o2, bx⟩
  obtain ⟨A2, c2, rfl, _⟩ := o2.form
  have sb2 := bx.size
  have By2 := By1.trans bx
  clear bx By1
  go_wp2_with fail
  refine (sRunBook_fix _ _ _ evs es5 a5 b5 z5 rs y2 o2.ts (Nat.le_refl _) HM5.out Hrs.out).mono ?_
  rintro e y3 ⟨A3, c3, rfl, he3, bx⟩
  have sb3 := bx.size
  have By3 := By2.trans (bx.mono (by omega))
  clear bx By2 o2
  go_wp2_with fail
  obtain ⟨y4, hw1⟩ : ∃ y4, y4 = y3.alloc (.cells #[.slice A3 es5.length c3, .int .i64 a5, .int .i64 b5, .int .i64 z5] 25) := ⟨_, rfl⟩
  have t0 : y4.cell? ⟨y3.heap.size, 0, none⟩ = some (.slice A3 es5.length c3) := by rw [hw1]; go_simp
  have t1 : y4.cell? ⟨y3.heap.size, 1, none⟩ = some (.int .i64 a5) := by rw [hw1]; go_simp
  have t2 : y4.cell? ⟨y3.heap.size, 2, none⟩ = some (.int .i64 b5) := by rw [hw1]; go_simp
  have t3 : y4.cell? ⟨y3.heap.size, 3, none⟩ = some (.int .i64 z5) := by rw [hw1]; go_simp
  have bt : Below y3.heap.size y3 y4 := by rw [hw1]; exact (Below.refl _ _).alloc (Nat.le_refl _) _
  have zt : y3.heap.size < y4.heap.size := by rw [hw1]; simp
  have Ht := Lib.hid (show y4.heap[y3.heap.size]? = some (.cells #[.slice A3 es5.length c3, .int .i64 a5, .int .i64 b5, .int .i64 z5] 25) by rw [hw1]; exact heap_alloc_new y3 _)
  rw [← hw1]
  clear hw1
  have sb4 := bt.size
  have By4 := By3.trans (bt.mono (by omega))
  have he4 := he3.below bt (Nat.le_refl _)
  clear bt By3 he3 Ht
  refine (toEventS_any 0 w.heap.size _ (evT evs) y4 (hts y4 By4) (by omega) (by rw [Hlen.out]; exact hl)).mono ?_
  rintro e y5 ⟨v5, rfl, o5, bx⟩
  obtain ⟨A5, c5, rfl, _⟩ := o5.form
  rw [Hlen.out] at o5 ⊢
  have sb5 := bx.size
  have By5 := By4.trans (bx.mono (by omega))
  replace t0 := keepB bx t0; replace t1 := keepB bx t1; replace t2 := keepB bx t2; replace t3 := keepB bx t3
  have he5 := he4.below bx (by omega)
  have Hx := Lib.hid (fun q (hq : some q = (Value.slice A5 evs.length c5).ownBlock) => o5.lt q hq.symm)
  clear bx By4 he4
  go_wp2_with fail
  refine (RunBook_fix _ _ _ evs es5 a5 b5 z5 rs y5 o5.ts (Nat.le_refl _) HM5.out Hrs.out).mono ?_
  rintro e y6 ⟨A6, c6, rfl, ho6, bx⟩
  have sb6 := bx.size
  have By6 := By5.trans (bx.mono (by omega))
  replace t0 := keepB bx t0; replace t1 := keepB bx t1; replace t2 := keepB bx t2; replace t3 := keepB bx t3
  have he6 := he5.below bx (by omega)
  have o6 := o5.below bx
  clear bx By5 he5 o5
  have hbd : Below y6.heap.size y6 (y6.alloc (.cells #[.slice A6 es5.length c6, .int .i64 a5, .int .i64 b5, .int .i64 z5] 25)) := (Below.refl _ _).alloc (Nat.le_refl _) _
  have x_t0 := keepB hbd t0
  have x_t1 := keepB hbd t1
  have x_t2 := keepB hbd t2
  have x_t3 := keepB hbd t3
  go_wp2_with fail
  clear hbd x_t0 x_t1 x_t2 x_t3
  obtain ⟨y7, hw1⟩ : ∃ y7, y7 = y6.alloc (.cells #[.slice A6 es5.length c6, .int .i64 a5, .int .i64 b5, .int .i64 z5] 25) := ⟨_, rfl⟩
  have g0 : y7.cell? ⟨y6.heap.size, 0, none⟩ = some (.slice A6 es5.length c6) := by rw [hw1]; go_simp
  have g1 : y7.cell? ⟨y6.heap.size, 1, none⟩ = some (.int .i64 a5) := by rw [hw1]; go_simp
  have g2 : y7.cell? ⟨y6.heap.size, 2, none⟩ = some (.int .i64 b5) := by rw [hw1]; go_simp
  have g3 : y7.cell? ⟨y6.heap.size, 3, none⟩ = some (.int .i64 z5) := by rw [hw1]; go_simp
  have bg : Below y6.heap.size y6 y7 := by rw [hw1]; exact (Below.refl _ _).alloc (Nat.le_refl _) _
  have zg : y6.heap.size < y7.heap.size := by rw [hw1]; simp
  have Hg := Lib.hid (show y7.heap[y6.heap.size]? = some (.cells #[.slice A6 es5.length c6, .int .i64 a5, .int .i64 b5, .int .i64 z5] 25) by rw [hw1]; exact heap_alloc_new y6 _)
  rw [← hw1]
  clear hw1
  have sb7 := bg.size
  have By7 := By6.trans (bg.mono (by omega))
  replace t0 := keepB bg t0; replace t1 := keepB bg t1; replace t2 := keepB bg t2; replace t3 := keepB bg t3
  have he7 := he6.below bg (by omega)
  have o7 := o6.below bg
  have Hg7 := Lib.hid (ho6.below bg (Nat.le_refl _))
  clear bg By6 he6 o6 ho6 Hg
  refine (eqMill_same _ _ _ _ _ _ es5 a5 b5 z5 y7 Hg7.out.es sb7 he7 (by omega)).mono ?_
  rintro e y8 ⟨rfl, bx⟩
  have sb8 := bx.size
  have By8 := By7.trans (bx.mono (by omega))
  replace t0 := keepB bx t0; replace t1 := keepB bx t1; replace t2 := keepB bx t2; replace t3 := keepB bx t3; replace g0 := keepB bx g0; replace g1 := keepB bx g1; replace g2 := keepB bx g2; replace g3 := keepB bx g3
  have he8 := he7.below bx (by omega)
  have o8 := o7.below bx
  have Hg8 := Lib.hid (Hg7.out.below bx (by omega))
  clear bx By7 he7 o7 Hg7
  go_wp2_with fail
  refine (toEventS_any 0 w.heap.size _ (evT evs) y8 (hts y8 By8) (by omega) (by rw [Hlen.out]; exact hl)).mono ?_
  rintro e y9 ⟨v9, rfl, o9, bx⟩
  obtain ⟨A9, c9, rfl, _⟩ := o9.form
  have sb9 := bx.size
  have By9 := By8.trans (bx.mono (by omega))
  replace t0 := keepB bx t0; replace t1 := keepB bx t1; replace t2 := keepB bx t2; replace t3 := keepB bx t3; replace g0 := keepB bx g0; replace g1 := keepB bx g1; replace g2 := keepB bx g2; replace g3 := keepB bx g3
  have he9 := he8.below bx (by omega)
  have ox9 := o8.below bx
  have Hg9 := Lib.hid (Hg8.out.below bx (by omega))
  clear bx By8 he8 o8 Hg8
  go_wp2_with fail
  refine (eqEventS_same _ _ _ _ _ _ (evT evs) y9 ox9.ts (Nat.le_refl _) o9.ts (Nat.le_refl _)).mono ?_
  rintro e y10 ⟨rfl, bx⟩
  have sb10 := bx.size
  have By10 := By9.trans (bx.mono (by omega))
  replace t0 := keepB bx t0; replace t1 := keepB bx t1; replace t2 := keepB bx t2; replace t3 := keepB bx t3; replace g0 := keepB bx g0; replace g1 := keepB bx g1; replace g2 := keepB bx g2; replace g3 := keepB bx g3
  have he10 := he9.below bx (by omega)
  have ox10 := ox9.below bx
  have Hg10 := Lib.hid (Hg9.out.below bx (by omega))
  clear bx By9 he9 ox9 o9 Hg9
  go_wp2_with fail
  refine (markEventS_any y4.heap.size _ (evT evs) 1 y10 ox10 (by rw [Hlen.out]; exact hl) (by omega)).mono ?_
  rintro e y11 ⟨rfl, _, bm, hkeep, hsz⟩
  have sb11 : y10.heap.size ≤ y11.heap.size := by omega
  have By11 := By10.trans (bm.mono (by omega))
  replace t0 := cell_same (hkeep _ fun e => by have := (Hx.out _ e).1; omega) t0
  replace t1 := cell_same (hkeep _ fun e => by have := (Hx.out _ e).1; omega) t1
  replace t2 := cell_same (hkeep _ fun e => by have := (Hx.out _ e).1; omega) t2
  replace t3 := cell_same (hkeep _ fun e => by have := (Hx.out _ e).1; omega) t3
  replace g0 := cell_same (hkeep _ fun e => by have := (Hx.out _ e).2; omega) g0
  replace g1 := cell_same (hkeep _ fun e => by have := (Hx.out _ e).2; omega) g1
  replace g2 := cell_same (hkeep _ fun e => by have := (Hx.out _ e).2; omega) g2
  replace g3 := cell_same (hkeep _ fun e => by have := (Hx.out _ e).2; omega) g3
  have he11 := he10.kept (w' := y11) fun q _ hq => hkeep q fun e => by have := (Hx.out _ e).1; omega
  have Hg11 := Lib.hid (Hg10.out.kept (w' := y11) fun q hq _ => hkeep q fun e => by have := (Hx.out _ e).2; omega)
  obtain ⟨Kx, hKx⟩ : ∃ K : Nat, K = 1 + (evT evs).length * 7 := ⟨_, rfl⟩
  rw [← hKx]
  have hnk : ¬ (Kx : Int) < 0 := by omega
  clear bm hkeep hsz By10 he10 ox10 Hg10 hKx
  go_wp2_with fail
  refine (eqMill_same _ _ _ _ _ _ es5 a5 b5 z5 y11 Hg11.out.es (by omega) he11 (by omega)).mono ?_
  rintro e y12 ⟨rfl, bx⟩
  have sb12 := bx.size
  have By12 := By11.trans (bx.mono (by omega))
  replace t0 := keepB bx t0; replace t1 := keepB bx t1; replace t2 := keepB bx t2; replace t3 := keepB bx t3; replace g0 := keepB bx g0; replace g1 := keepB bx g1; replace g2 := keepB bx g2; replace g3 := keepB bx g3
  have he12 := he11.below bx (by omega)
  have Hg12 := Lib.hid (Hg11.out.below bx (by omega))
  clear bx By11 he11 Hg11
  have hl5 := HSm.out.1
  go_wp2_with fail
  refine (markMill_any y5.heap.size y6.heap.size _ es5 a5 b5 z5 1 y12 Hg12.out (by omega) (fun k hk => by have := HSm.out.2 k hk; omega) (by omega) (by have := HO5.out; omega)).mono ?_
  rintro e y13 ⟨rfl, og, hkeep, ⟨hos, htp, hou⟩, sb13⟩
  have By13 : Below w.heap.size w y13 := By12.trans ⟨hos, htp, hou, sb13, fun q hq => hkeep q (by omega) (by omega)⟩
  replace t0 := cell_same (hkeep y3.heap.size (World.block_lt_of_cell? y12 _ t0) (by omega)) t0
  replace t1 := cell_same (hkeep y3.heap.size (World.block_lt_of_cell? y12 _ t1) (by omega)) t1
  replace t2 := cell_same (hkeep y3.heap.size (World.block_lt_of_cell? y12 _ t2) (by omega)) t2
  replace t3 := cell_same (hkeep y3.heap.size (World.block_lt_of_cell? y12 _ t3) (by omega)) t3
  replace g0 := cell_same (hkeep y6.heap.size (World.block_lt_of_cell? y12 _ g0) (by omega)) g0
  replace g1 := cell_same (hkeep y6.heap.size (World.block_lt_of_cell? y12 _ g1) (by omega)) g1
  replace g2 := cell_same (hkeep y6.heap.size (World.block_lt_of_cell? y12 _ g2) (by omega)) g2
  replace g3 := cell_same (hkeep y6.heap.size (World.block_lt_of_cell? y12 _ g3) (by omega)) g3
  have he13 := he12.kept (w' := y13) fun q _ hq => hkeep q (by omega) (by omega)
  have Hg13 := Lib.hid og
  obtain ⟨Kg, hKg⟩ : ∃ K : Nat, K = offE es5 1 es5.length := ⟨_, rfl⟩
  rw [← hKg]
  have HKg := Lib.hid hKg
  have hnk2 : ¬ (Kg : Int) < 0 := by omega
  have hkk : ((Kg : Int) != (Kg : Int)) = false := bne_f rfl
  clear hkeep he12 Hg12 og hKg hos htp hou By12
  go_wp2_with fail
  refine (heldMill_any y5.heap.size y6.heap.size _ es5 a5 b5 z5 1 y13 Hg13.out.es (by omega) HSm.out.2 (by omega) HO5.out).mono ?_
  rw [← HKg.out]
  rintro e y14 ⟨rfl, bx⟩
  have sb14 := bx.size
  have By14 := By13.trans (bx.mono (by omega))
  replace t0 := keepB bx t0; replace t1 := keepB bx t1; replace t2 := keepB bx t2; replace t3 := keepB bx t3; replace g0 := keepB bx g0; replace g1 := keepB bx g1; replace g2 := keepB bx g2; replace g3 := keepB bx g3
  have he14 := he13.below bx (by omega)
  have Hg14 := Lib.hid (Hg13.out.below bx (by omega))
  clear bx By13 he13 Hg13
  go_wp2_with fail
  refine (toEventS_any 0 w.heap.size _ (evT evs) y14 (hts y14 By14) (by omega) (by rw [Hlen.out]; exact hl)).mono ?_
  rintro e y15 ⟨v15, rfl, o15, bx⟩
  obtain ⟨A15, c15, rfl, _⟩ := o15.form
  have sb15 := bx.size
  have By15 := By14.trans (bx.mono (by omega))
  replace t0 := keepB bx t0; replace t1 := keepB bx t1; replace t2 := keepB bx t2; replace t3 := keepB bx t3; replace g0 := keepB bx g0; replace g1 := keepB bx g1; replace g2 := keepB bx g2; replace g3 := keepB bx g3
  have he15 := he14.below bx (by omega)
  have Hg15 := Lib.hid (Hg14.out.below bx (by omega))
  clear bx By14 he14 Hg14
  go_wp2_with fail
  refine (RunBook_fix _ _ _ evs es5 a5 b5 z5 rs y15 o15.ts (Nat.le_refl _) HM5.out Hrs.out).mono ?_
  rintro e y16 ⟨A16, c16, rfl, ho16, bx⟩
  have sb16 := bx.size
  have By16 := By15.trans (bx.mono (by omega))
  replace t0 := keepB bx t0; replace t1 := keepB bx t1; replace t2 := keepB bx t2; replace t3 := keepB bx t3; replace g0 := keepB bx g0; replace g1 := keepB bx g1; replace g2 := keepB bx g2; replace g3 := keepB bx g3
  have he16 := he15.below bx (by omega)
  have Hg16 := Lib.hid (Hg15.out.below bx (by omega))
  clear bx By15 he15 o15 Hg15
  have hbd : Below y16.heap.size y16 (y16.alloc (.cells #[.slice A16 es5.length c16, .int .i64 a5, .int .i64 b5, .int .i64 z5] 25)) := (Below.refl _ _).alloc (Nat.le_refl _) _
  have x_t0 := keepB hbd t0
  have x_t1 := keepB hbd t1
  have x_t2 := keepB hbd t2
  have x_t3 := keepB hbd t3
  go_wp2_with fail
  clear hbd x_t0 x_t1 x_t2 x_t3
  obtain ⟨y17, hw1⟩ : ∃ y17, y17 = y16.alloc (.cells #[.slice A16 es5.length c16, .int .i64 a5, .int .i64 b5, .int .i64 z5] 25) := ⟨_, rfl⟩
  have k0 : y17.cell? ⟨y16.heap.size, 0, none⟩ = some (.slice A16 es5.length c16) := by rw [hw1]; go_simp
  have k1 : y17.cell? ⟨y16.heap.size, 1, none⟩ = some (.int .i64 a5) := by rw [hw1]; go_simp
  have k2 : y17.cell? ⟨y16.heap.size, 2, none⟩ = some (.int .i64 b5) := by rw [hw1]; go_simp
  have k3 : y17.cell? ⟨y16.heap.size, 3, none⟩ = some (.int .i64 z5) := by rw [hw1]; go_simp
  have bk : Below y16.heap.size y16 y17 := by rw [hw1]; exact (Below.refl _ _).alloc (Nat.le_refl _) _
  have zk : y16.heap.size < y17.heap.size := by rw [hw1]; simp
  have Hk := Lib.hid (show y17.heap[y16.heap.size]? = some (.cells #[.slice A16 es5.length c16, .int .i64 a5, .int .i64 b5, .int .i64 z5] 25) by rw [hw1]; exact heap_alloc_new y16 _)
  rw [← hw1]
  clear hw1
  have sb17 := bk.size
  have By17 := By16.trans (bk.mono (by omega))
  replace g0 := keepB bk g0; replace g1 := keepB bk g1; replace g2 := keepB bk g2; replace g3 := keepB bk g3
  have he17 := he16.below bk (by omega)
  have Hg17 := Lib.hid (Hg16.out.below bk (by omega))
  have ho17 := ho16.below bk (Nat.le_refl _)
  clear bk By16 he16 Hg16 ho16 Hk
  refine (eqMill_same _ _ _ _ _ _ es5 a5 b5 z5 y17 ho17.es sb17 he17 (by omega)).mono ?_
  rintro e y18 ⟨rfl, bx⟩
  have sb18 := bx.size
  have By18 := By17.trans (bx.mono (by omega))
  replace g0 := keepB bx g0; replace g1 := keepB bx g1; replace g2 := keepB bx g2; replace g3 := keepB bx g3
  have Hg18 := Lib.hid (Hg17.out.below bx (by omega))
  clear bx By17 he17 Hg17 ho17 t0 t1 t2 t3 k0 k1 k2 k3
  go_wp2_with fail
  refine (heldMill_any y5.heap.size y6.heap.size _ es5 a5 b5 z5 1 y18 Hg18.out.es (by omega) HSm.out.2 (by omega) HO5.out).mono ?_
  rw [← HKg.out]
  rintro e y19 ⟨rfl, bx⟩
  have By19 := Lib.hid (By18.trans (bx.mono (by omega)))
  clear bx By18
  go_wp2
  go_ret
  exact ⟨rfl, By19.out⟩
end Go.Proofs.Ytcebdokdekgeaaa
