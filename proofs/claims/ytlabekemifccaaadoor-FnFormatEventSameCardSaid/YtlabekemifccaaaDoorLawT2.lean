/-
  Lemmas and contracts of single functions of this program, used by the proofs of its laws: what each call returns and what becomes of memory. Conditions: the hypotheses of each theorem.
-/
import Derived.Test.YtlabekemifccaaaDoorLawT1
namespace Go.Proofs.YtlabekemifccaaaDoor
open Go.RowKit
attribute [local go_sem ↓] Go.wp_at_zero Go.wp_at_succ

theorem apE_text {m : Mil} {k lb l r f t g k' a' b' c' d' f' g' : Int} (hk : 0 ≤ k ∧ k ≤ 3) (h : [k', a', b', c', d', f', g'] = evS k (evN [k, lb, l, r, f, t, g]) (evN [k, lb, l, r, f, t, g]).length) : apE m ⟨k', a', b', c', d', f', g'⟩ = apE m ⟨k, lb, l, r, f, t, g⟩ := by
  obtain rfl | rfl | rfl | rfl : k = 0 ∨ k = 1 ∨ k = 2 ∨ k = 3 := by omega
  · have h2 : [k', a', b', c', d', f', g'] = [0, lb, 0, r, 0, t, 0] := h
    obtain ⟨rfl, rfl, rfl, rfl, rfl, rfl, rfl⟩ := ev_inj h2
    unfold apE; rfl
  · have h2 : [k', a', b', c', d', f', g'] = [1, lb, l, r, f, t, g] := h
    obtain ⟨rfl, rfl, rfl, rfl, rfl, rfl, rfl⟩ := ev_inj h2
    rfl
  · have h2 : [k', a', b', c', d', f', g'] = [2, lb, l, r, f, t, 0] := h
    obtain ⟨rfl, rfl, rfl, rfl, rfl, rfl, rfl⟩ := ev_inj h2
    unfold apE; rfl
  · have h2 : [k', a', b', c', d', f', g'] = [3, lb, 0, 0, 0, 0, g] := h
    obtain ⟨rfl, rfl, rfl, rfl, rfl, rfl, rfl⟩ := ev_inj h2
    unfold apE; rfl
theorem parE_nil : parE [] = none := rfl
set_option maxRecDepth 100000 in
set_option maxHeartbeats 8000000 in
theorem FnFormatEventSame_walk (B : Nat) (v : Value) (xs : List Int) (w : World) (hp : Pow B w) (hsh : w.ShapedOpen Tryd.prog) (h : Bytes w 0 w.heap.size v xs) :
    Calls Tryd.prog 10 #[v] w fun e w' => e = .returned (.bool true) ∧ Below w.heap.size w w' := by
  have HP := Lib.hid hp
  have HSH := Lib.hid hsh
  clear hp hsh
  have hv : ∃ A c, v = .slice A xs.length c ∧ xs.length ≤ c ∧ c ≤ 2 ^ 63 - 1 := by obtain ⟨A, c, e, h1, h2, _⟩ := h; exact ⟨A, c, e, h1, by unfold maxLen at h2; omega⟩
  obtain ⟨A0, c0, rfl, hc0, hm0⟩ := hv
  by_cases hl : 1048576 < xs.length
  · have hl' : (1048576 : Int) < (xs.length : Int) := by omega
    go_enter Tryd.func10, Tryd.ntmps10
    go_wp2
    go_ret
    exact ⟨rfl, Below.refl _ _⟩
  have hl' : ¬ (1048576 : Int) < (xs.length : Int) := by omega
  go_enter Tryd.func10, Tryd.ntmps10
  go_wp2_with fail
  refine (DrawApplyEvent_any _ xs w h).mono ?_
  rintro e w1 ⟨A, n, c, es, a, b, z, ⟨ek, lb, l, r, f, t, g⟩, rfl, hn, hes, ⟨ha, hb, hz⟩, h64, b1⟩
  subst hn
  dsimp only
  obtain ⟨hc, hm⟩ : es.length ≤ c ∧ c ≤ 2 ^ 63 - 1 := by obtain ⟨A', c', e, q1, q2⟩ := hes.form; injection e with e1 e2 e3; subst e3; exact ⟨q1, q2⟩
  have hs1 := b1.size
  clear h hl hl'
  go_wp2_with fail
  have Hs := Lib.hid (show ∃ w2, w2 = (w1.alloc (.cells #[.slice A es.length c, .int .i64 a, .int .i64 b, .int .i64 z] 52)).alloc (.cells #[.int .i64 ek, .int .i64 lb, .int .i64 l, .int .i64 r, .int .i64 f, .int .i64 t, .int .i64 g] 29) ∧ Below w1.heap.size w1 w2 ∧ MB w2 w1.heap.size (.slice A es.length c) a b z ∧ (w2.cell? ⟨w1.heap.size + 1, 0, none⟩ = some (.int .i64 ek) ∧ w2.cell? ⟨w1.heap.size + 1, 1, none⟩ = some (.int .i64 lb) ∧ w2.cell? ⟨w1.heap.size + 1, 2, none⟩ = some (.int .i64 l) ∧ w2.cell? ⟨w1.heap.size + 1, 3, none⟩ = some (.int .i64 r) ∧ w2.cell? ⟨w1.heap.size + 1, 4, none⟩ = some (.int .i64 f) ∧ w2.cell? ⟨w1.heap.size + 1, 5, none⟩ = some (.int .i64 t) ∧ w2.cell? ⟨w1.heap.size + 1, 6, none⟩ = some (.int .i64 g)) ∧ w1.heap.size + 1 < w2.heap.size from by
    refine ⟨_, rfl, ((Below.refl _ _).alloc (Nat.le_refl _) _).alloc (by simp) _, ?_, ?_, by simp⟩
    · have h9 := heap_alloc_new w1 (.cells #[.slice A es.length c, .int .i64 a, .int .i64 b, .int .i64 z] 52)
      unfold MB
      refine Eq.trans ?_ h9
      exact ((Below.refl _ _).alloc (Nat.le_refl _) _).block _ (by simp)
    · refine ⟨?_, ?_, ?_, ?_, ?_, ?_, ?_⟩ <;> go_simp)
  obtain ⟨w2, hw2, b2, hmS, ⟨v0, v1, v2, v3, v4, v5, v6⟩, hz2⟩ := Hs.out
  rw [← hw2]
  clear hw2 Hs
  have HmS := Lib.hid hmS
  obtain ⟨⟨x0, x1, x2, x3⟩, _⟩ := hmS.cells
  have hes2 := hes.below b2 (Nat.le_refl _)
  have B2 := b1.trans (b2.mono hs1)
  have h3 : I64 a ∧ I64 b ∧ I64 z := ⟨⟨by omega, by omega⟩, ⟨by omega, by omega⟩, ⟨by omega, by omega⟩⟩
  have H64 := Lib.hid h64
  obtain ⟨R, hR⟩ : ∃ R, R = apV ⟨es, a, b, z⟩ ⟨ek, lb, l, r, f, t, g⟩ := ⟨_, rfl⟩
  have HR := Lib.hid hR
  clear hmS hes b1 b2 h64
  refine (ApplyEvent_any w.heap.size w1.heap.size _ ⟨es, a, b, z⟩ ⟨ek, lb, l, r, f, t, g⟩ w2 hes2 (by omega) h3 H64.out).mono ?_
  rw [← hR]
  intro e w3 hpost
  obtain ⟨v3', rfl, ho3, b3⟩ := hpost
  obtain ⟨⟨es5, a5, b5, z5⟩, hM5⟩ : ∃ M, M = R.getD Mil.nil := ⟨_, rfl⟩
  obtain ⟨rs, hrs⟩ : ∃ rs, rs = R.isSome := ⟨_, rfl⟩
  rw [← hM5] at ho3
  rw [← hM5, ← hrs]
  have HM5 := Lib.hid hM5
  have Hrs := Lib.hid hrs
  dsimp only at ho3 ⊢
  obtain ⟨A3, c3, hv3, _⟩ := ho3.form
  subst hv3
  have hes3 := hes2.below b3 (by omega)
  have B3 := B2.trans (b3.mono (by omega))
  have hs3 := b3.size
  have HmS3 := Lib.hid (HmS.out.below b3 (by omega))
  replace x0 := keepB b3 x0; replace x1 := keepB b3 x1; replace x2 := keepB b3 x2; replace x3 := keepB b3 x3; replace v0 := keepB b3 v0; replace v1 := keepB b3 v1; replace v2 := keepB b3 v2; replace v3 := keepB b3 v3; replace v4 := keepB b3 v4; replace v5 := keepB b3 v5; replace v6 := keepB b3 v6
  clear b3 B2 hes2 HmS hR hM5 hrs
  have hbd : Below w3.heap.size w3 (w3.alloc (.cells #[.slice A3 es5.length c3, .int .i64 a5, .int .i64 b5, .int .i64 z5] 52)) := (Below.refl _ _).alloc (Nat.le_refl _) _
  have x_x0 := keepB hbd x0
  have x_x1 := keepB hbd x1
  have x_x2 := keepB hbd x2
  have x_x3 := keepB hbd x3
  have x_v0 := keepB hbd v0
  have x_v1 := keepB hbd v1
  have x_v2 := keepB hbd v2
  have x_v3 := keepB hbd v3
  have x_v4 := keepB hbd v4
  have x_v5 := keepB hbd v5
  have x_v6 := keepB hbd v6
  go_wp2_with fail
  clear hbd x_x0 x_x1 x_x2 x_x3 x_v0 x_v1 x_v2 x_v3 x_v4 x_v5 x_v6
  obtain ⟨w4, hw1⟩ : ∃ w4, w4 = w3.alloc (.cells #[.slice A3 es5.length c3, .int .i64 a5, .int .i64 b5, .int .i64 z5] 52) := ⟨_, rfl⟩
  have o0 : w4.cell? ⟨w3.heap.size, 0, none⟩ = some (.slice A3 es5.length c3) := by rw [hw1]; go_simp
  have o1 : w4.cell? ⟨w3.heap.size, 1, none⟩ = some (.int .i64 a5) := by rw [hw1]; go_simp
  have o2 : w4.cell? ⟨w3.heap.size, 2, none⟩ = some (.int .i64 b5) := by rw [hw1]; go_simp
  have o3 : w4.cell? ⟨w3.heap.size, 3, none⟩ = some (.int .i64 z5) := by rw [hw1]; go_simp
  have bo : Below w3.heap.size w3 w4 := by rw [hw1]; exact (Below.refl _ _).alloc (Nat.le_refl _) _
  have zo : w3.heap.size < w4.heap.size := by rw [hw1]; simp
  have Ho := Lib.hid (show w4.heap[w3.heap.size]? = some (.cells #[.slice A3 es5.length c3, .int .i64 a5, .int .i64 b5, .int .i64 z5] 52) by rw [hw1]; exact heap_alloc_new w3 _)
  rw [← hw1]
  clear hw1
  have hes4 := hes3.below bo (by omega)
  have B4 := B3.trans (bo.mono (by omega))
  have ho4 := ho3.below bo (Nat.le_refl _)
  have HmS4 := Lib.hid (HmS3.out.below bo (by omega))
  replace x0 := keepB bo x0; replace x1 := keepB bo x1; replace x2 := keepB bo x2; replace x3 := keepB bo x3; replace v0 := keepB bo v0; replace v1 := keepB bo v1; replace v2 := keepB bo v2; replace v3 := keepB bo v3; replace v4 := keepB bo v4; replace v5 := keepB bo v5; replace v6 := keepB bo v6
  clear bo B3 hes3 ho3 HmS3 Ho
  refine (sApplyEvent_any w.heap.size w1.heap.size _ ⟨es, a, b, z⟩ ⟨ek, lb, l, r, f, t, g⟩ w4 hes4 (by omega) h3.2 H64.out).mono ?_
  rw [← HR.out]
  intro e w5 hpost
  obtain ⟨v5', rfl, he5, b5'⟩ := hpost
  rw [← HM5.out] at he5
  rw [← HM5.out, ← Hrs.out]
  dsimp only at he5 ⊢
  obtain ⟨A5, c5, hv5, _⟩ := he5.form
  subst hv5
  have hes5 := hes4.below b5' (by omega)
  have B5 := B4.trans (b5'.mono (by omega))
  have ho5 := ho4.below b5' (by omega)
  have hs5 := b5'.size
  have HmS5 := Lib.hid (HmS4.out.below b5' (by omega))
  replace x0 := keepB b5' x0; replace x1 := keepB b5' x1; replace x2 := keepB b5' x2; replace x3 := keepB b5' x3; replace v0 := keepB b5' v0; replace v1 := keepB b5' v1; replace v2 := keepB b5' v2; replace v3 := keepB b5' v3; replace v4 := keepB b5' v4; replace v5 := keepB b5' v5; replace v6 := keepB b5' v6; replace o0 := keepB b5' o0; replace o1 := keepB b5' o1; replace o2 := keepB b5' o2; replace o3 := keepB b5' o3
  clear b5' B4 hes4 ho4 HmS4
  have hbd : Below w5.heap.size w5 (w5.alloc (.cells #[.slice A5 es5.length c5, .int .i64 a5, .int .i64 b5, .int .i64 z5] 52)) := (Below.refl _ _).alloc (Nat.le_refl _) _
  have x_x0 := keepB hbd x0
  have x_x1 := keepB hbd x1
  have x_x2 := keepB hbd x2
  have x_x3 := keepB hbd x3
  have x_v0 := keepB hbd v0
  have x_v1 := keepB hbd v1
  have x_v2 := keepB hbd v2
  have x_v3 := keepB hbd v3
  have x_v4 := keepB hbd v4
  have x_v5 := keepB hbd v5
  have x_v6 := keepB hbd v6
  have x_o0 := keepB hbd o0
  have x_o1 := keepB hbd o1
  have x_o2 := keepB hbd o2
  have x_o3 := keepB hbd o3
  go_wp2_with fail
  clear hbd x_x0 x_x1 x_x2 x_x3 x_v0 x_v1 x_v2 x_v3 x_v4 x_v5 x_v6 x_o0 x_o1 x_o2 x_o3
  obtain ⟨w6, hw1⟩ : ∃ w6, w6 = w5.alloc (.cells #[.slice A5 es5.length c5, .int .i64 a5, .int .i64 b5, .int .i64 z5] 52) := ⟨_, rfl⟩
  have p0 : w6.cell? ⟨w5.heap.size, 0, none⟩ = some (.slice A5 es5.length c5) := by rw [hw1]; go_simp
  have p1 : w6.cell? ⟨w5.heap.size, 1, none⟩ = some (.int .i64 a5) := by rw [hw1]; go_simp
  have p2 : w6.cell? ⟨w5.heap.size, 2, none⟩ = some (.int .i64 b5) := by rw [hw1]; go_simp
  have p3 : w6.cell? ⟨w5.heap.size, 3, none⟩ = some (.int .i64 z5) := by rw [hw1]; go_simp
  have bp : Below w5.heap.size w5 w6 := by rw [hw1]; exact (Below.refl _ _).alloc (Nat.le_refl _) _
  have zp : w5.heap.size < w6.heap.size := by rw [hw1]; simp
  rw [← hw1]
  clear hw1
  have hes6 := hes5.below bp (by omega)
  have B6 := B5.trans (bp.mono (by omega))
  have ho6 := ho5.below bp (by omega)
  have he6 := he5.below bp (Nat.le_refl _)
  have hs6 := bp.size
  have HmS6 := Lib.hid (HmS5.out.below bp (by omega))
  replace x0 := keepB bp x0; replace x1 := keepB bp x1; replace x2 := keepB bp x2; replace x3 := keepB bp x3; replace v0 := keepB bp v0; replace v1 := keepB bp v1; replace v2 := keepB bp v2; replace v3 := keepB bp v3; replace v4 := keepB bp v4; replace v5 := keepB bp v5; replace v6 := keepB bp v6; replace o0 := keepB bp o0; replace o1 := keepB bp o1; replace o2 := keepB bp o2; replace o3 := keepB bp o3
  clear bp B5 hes5 ho5 he5 HmS5
  refine (equalMill_same _ _ _ _ _ _ es5 a5 b5 z5 w6 ho6.es (by omega) he6 (by omega)).mono ?_
  rintro e w7 ⟨rfl, b7⟩
  have hes7 := hes6.below b7 (by omega)
  have B7 := B6.trans (b7.mono (by omega))
  have ho7 := ho6.below b7 (by omega)
  have he7 := he6.below b7 (by omega)
  have hs7 := b7.size
  have HmS7 := Lib.hid (HmS6.out.below b7 (by omega))
  replace x0 := keepB b7 x0; replace x1 := keepB b7 x1; replace x2 := keepB b7 x2; replace x3 := keepB b7 x3; replace v0 := keepB b7 v0; replace v1 := keepB b7 v1; replace v2 := keepB b7 v2; replace v3 := keepB b7 v3; replace v4 := keepB b7 v4; replace v5 := keepB b7 v5; replace v6 := keepB b7 v6; replace o0 := keepB b7 o0; replace o1 := keepB b7 o1; replace o2 := keepB b7 o2; replace o3 := keepB b7 o3; replace p0 := keepB b7 p0; replace p1 := keepB b7 p1; replace p2 := keepB b7 p2; replace p3 := keepB b7 p3
  clear b7 B6 hes6 ho6 he6 HmS6
  cases rs
  · have hb1 : (false != false) = false := rfl
    have hb2 : (false == false) = true := rfl
    go_wp2_with fail
    refine (equalMill_same _ _ _ _ _ _ es5 a5 b5 z5 w7 ho7.es (by omega) he7 (by omega)).mono ?_
    rintro e w8 ⟨rfl, b8⟩
    have B8 := B7.trans (b8.mono (by omega))
    clear b8 B7
    go_wp2
    go_ret
    exact ⟨rfl, B8⟩
  have HS : Hid (apE ⟨es, a, b, z⟩ ⟨ek, lb, l, r, f, t, g⟩ = some ⟨es5, a5, b5, z5⟩ ∧ (⟨es, a, b, z⟩ : Mil).ok = true) := by
    have e1 := HR.out
    have e2 := HM5.out
    have e3 := Hrs.out
    cases hR9 : R with
    | none => rw [hR9] at e3; cases e3
    | some m9 =>
      rw [hR9] at e1 e2
      unfold apV at e1
      split at e1
      · rename_i hk9
        refine ⟨?_, hk9⟩
        rw [← e1, e2]; rfl
      · cases e1
  have Hes := Lib.hid hes7
  have HB7 := Lib.hid B7
  have Hoe := Lib.hid ho7
  have hb1 : (true != true) = false := rfl
  have hb2 : (true == true) = true := rfl
  have hw1 : w.heap.size ≤ w1.heap.size := hs1
  have hw2 : w1.heap.size ≤ w7.heap.size := by omega
  clear hes7 B7 ho7 he7 HR HM5 Hrs R p0 p1 p2 p3
  have HH3 := Lib.hid h3
  obtain ⟨ev, hev⟩ : ∃ ev, ev = [ek, lb, l, r, f, t, g] := ⟨_, rfl⟩
  have HEV := Lib.hid hev
  have HI := Lib.hid (show ∀ x ∈ ev, I64 x from by
    rw [hev]
    intro x hx
    obtain ⟨i0, i1, i2, i3, i4, i5, i6⟩ := H64.out
    simp only [List.mem_cons, List.not_mem_nil, or_false] at hx
    rcases hx with rfl | rfl | rfl | rfl | rfl | rfl | rfl
    · exact i0
    · exact i1
    · exact i2
    · exact i3
    · exact i4
    · exact i5
    · exact i6)
  have HG0 := Lib.hid (show gi ev 0 = ek by rw [hev]; rfl)
  obtain ⟨T, hT⟩ : ∃ T, T = fmtE ev := ⟨_, rfl⟩
  have HT := Lib.hid hT
  obtain ⟨zt, hzt⟩ : ∃ z, z = TB T := ⟨_, rfl⟩
  have HZ := Lib.hid hzt
  have HZI := Lib.hid (toList_isEmpty zt T hzt)
  have HTL := Lib.hid (show T.length ≤ 100 by rw [hT]; exact fmtE_len ev)
  have HPF := Lib.hid (show T ≠ [] → _ from fun h9 => par_fmt (ev := ev) (by rw [← hT]; exact h9))
  rw [← hT] at HPF
  clear hT hzt hev h3
  go_wp2_with fail
  refine (FormatEventI_any B ek lb l r f t g w7 (HP.out.below HB7.out) ev HEV.out HI.out).mono ?_
  rw [← HT.out, ← HZ.out]
  rintro e w8 ⟨rfl, b8⟩
  have Hes8 := Lib.hid (Hes.out.below b8 hw2)
  have Hoe8 := Lib.hid (Hoe.out.es.below b8 (by omega))
  have HB8 := Lib.hid (HB7.out.trans (b8.mono (by omega)))
  have hw28 : w1.heap.size ≤ w8.heap.size := by have := b8.size; omega
  have hs78 : w7.heap.size ≤ w8.heap.size := b8.size
  replace x0 := keepB b8 x0; replace x1 := keepB b8 x1; replace x2 := keepB b8 x2; replace x3 := keepB b8 x3; replace v0 := keepB b8 v0; replace v1 := keepB b8 v1; replace v2 := keepB b8 v2; replace v3 := keepB b8 v3; replace v4 := keepB b8 v4; replace v5 := keepB b8 v5; replace v6 := keepB b8 v6; replace o0 := keepB b8 o0; replace o1 := keepB b8 o1; replace o2 := keepB b8 o2; replace o3 := keepB b8 o3
  clear b8
  go_wp2_with fail
  refine (ParseEventI_any T zt HZ.out w8 (by have := HTL.out; omega) (shaped_below HSH.out HB8.out)).mono ?_
  intro e w9 hpp
  obtain ⟨b9, k', a', b', c', d', f', g', ok, rfl, hE, hO, hrg⟩ := hpp.form
  have Hes9 := Lib.hid (Hes8.out.below b9 hw28)
  have Hoe9 := Lib.hid (Hoe8.out.below b9 (by omega))
  have HB9 := Lib.hid (HB8.out.trans (b9.mono (by omega)))
  have hs89 : w8.heap.size ≤ w9.heap.size := b9.size
  replace x0 := keepB b9 x0; replace x1 := keepB b9 x1; replace x2 := keepB b9 x2; replace x3 := keepB b9 x3; replace v0 := keepB b9 v0; replace v1 := keepB b9 v1; replace v2 := keepB b9 v2; replace v3 := keepB b9 v3; replace v4 := keepB b9 v4; replace v5 := keepB b9 v5; replace v6 := keepB b9 v6; replace o0 := keepB b9 o0; replace o1 := keepB b9 o1; replace o2 := keepB b9 o2; replace o3 := keepB b9 o3
  clear hpp b9 Hes8 Hoe8 Hes Hoe
  cases hem : T.isEmpty
  rotate_left
  · have q1 : zt.toList.isEmpty = true := by rw [HZI.out, hem]
    have hTn : T = [] := by simpa using hem
    rw [hTn, parE_nil] at hE hO
    obtain rfl : ok = false := hO
    clear hem hTn hE hrg
    have hbd : Below w9.heap.size w9 (w9.alloc (.cells #[.int .i64 k', .int .i64 a', .int .i64 b', .int .i64 c', .int .i64 d', .int .i64 f', .int .i64 g'] 29)) := (Below.refl _ _).alloc (Nat.le_refl _) _
    have x_x0 := keepB hbd x0
    have x_x1 := keepB hbd x1
    have x_x2 := keepB hbd x2
    have x_x3 := keepB hbd x3
    have x_v0 := keepB hbd v0
    have x_v1 := keepB hbd v1
    have x_v2 := keepB hbd v2
    have x_v3 := keepB hbd v3
    have x_v4 := keepB hbd v4
    have x_v5 := keepB hbd v5
    have x_v6 := keepB hbd v6
    have x_o0 := keepB hbd o0
    have x_o1 := keepB hbd o1
    have x_o2 := keepB hbd o2
    have x_o3 := keepB hbd o3
    go_wp2_with fail
    clear hbd x_x0 x_x1 x_x2 x_x3 x_v0 x_v1 x_v2 x_v3 x_v4 x_v5 x_v6 x_o0 x_o1 x_o2 x_o3
    obtain ⟨w10, hw1⟩ : ∃ w10, w10 = w9.alloc (.cells #[.int .i64 k', .int .i64 a', .int .i64 b', .int .i64 c', .int .i64 d', .int .i64 f', .int .i64 g'] 29) := ⟨_, rfl⟩
    have y_0 : w10.cell? ⟨w9.heap.size, 0, none⟩ = some (.int .i64 k') := by rw [hw1]; go_simp
    have y_1 : w10.cell? ⟨w9.heap.size, 1, none⟩ = some (.int .i64 a') := by rw [hw1]; go_simp
    have y_2 : w10.cell? ⟨w9.heap.size, 2, none⟩ = some (.int .i64 b') := by rw [hw1]; go_simp
    have y_3 : w10.cell? ⟨w9.heap.size, 3, none⟩ = some (.int .i64 c') := by rw [hw1]; go_simp
    have y_4 : w10.cell? ⟨w9.heap.size, 4, none⟩ = some (.int .i64 d') := by rw [hw1]; go_simp
    have y_5 : w10.cell? ⟨w9.heap.size, 5, none⟩ = some (.int .i64 f') := by rw [hw1]; go_simp
    have y_6 : w10.cell? ⟨w9.heap.size, 6, none⟩ = some (.int .i64 g') := by rw [hw1]; go_simp
    have by_ : Below w9.heap.size w9 w10 := by rw [hw1]; exact (Below.refl _ _).alloc (Nat.le_refl _) _
    have zy_ : w9.heap.size < w10.heap.size := by rw [hw1]; simp
    have Hy_ := Lib.hid (show w10.heap[w9.heap.size]? = some (.cells #[.int .i64 k', .int .i64 a', .int .i64 b', .int .i64 c', .int .i64 d', .int .i64 f', .int .i64 g'] 29) by rw [hw1]; exact heap_alloc_new w9 _)
    rw [← hw1]
    clear hw1
    have HB10 := Lib.hid (HB9.out.trans (by_.mono (by omega)))
    clear by_ Hy_ zy_
    refine (FormatEventI_any B ek lb l r f t g w10 (HP.out.below HB10.out) ev HEV.out HI.out).mono ?_
    rw [← HT.out, ← HZ.out]
    rintro e w11 ⟨rfl, b11⟩
    have HB11 := Lib.hid (HB10.out.trans (b11.mono HB10.out.size))
    clear b11
    go_wp2
    go_ret
    exact ⟨rfl, HB11.out⟩
  have hne : T ≠ [] := fun e => by rw [e] at hem; exact absurd hem (by simp)
  obtain ⟨ev', hpe, _, _, _, hes', hk0, hk3⟩ := HPF.out hne
  rw [hpe] at hE hO
  obtain rfl : ok = true := hO
  have HAP := Lib.hid (show apV ⟨es, a, b, z⟩ ⟨k', a', b', c', d', f', g'⟩ = some ⟨es5, a5, b5, z5⟩ from by
    have h9 : [k', a', b', c', d', f', g'] = evS ek (evN [ek, lb, l, r, f, t, g]) (evN [ek, lb, l, r, f, t, g]).length := by
      rw [← HEV.out, show [k', a', b', c', d', f', g'] = ev' from hE, hes', HG0.out]
    unfold apV
    rw [if_pos HS.out.2, apE_text (by rw [← HG0.out]; exact ⟨hk0, hk3⟩) h9]
    exact HS.out.1)
  have HV' := Lib.hid (show V64 ⟨k', a', b', c', d', f', g'⟩ from by
    have q : ∀ x ∈ [k', a', b', c', d', f', g'], I64 x := fun x hx => by have := hrg x hx; exact ⟨by omega, by omega⟩
    exact ⟨q _ (by simp), q _ (by simp), q _ (by simp), q _ (by simp), q _ (by simp), q _ (by simp), q _ (by simp)⟩)
  clear hem hne hpe hes' hk0 hk3 hE hrg HS
  have hbd : Below w9.heap.size w9 (w9.alloc (.cells #[.int .i64 k', .int .i64 a', .int .i64 b', .int .i64 c', .int .i64 d', .int .i64 f', .int .i64 g'] 29)) := (Below.refl _ _).alloc (Nat.le_refl _) _
  have x_x0 := keepB hbd x0
  have x_x1 := keepB hbd x1
  have x_x2 := keepB hbd x2
  have x_x3 := keepB hbd x3
  have x_v0 := keepB hbd v0
  have x_v1 := keepB hbd v1
  have x_v2 := keepB hbd v2
  have x_v3 := keepB hbd v3
  have x_v4 := keepB hbd v4
  have x_v5 := keepB hbd v5
  have x_v6 := keepB hbd v6
  have x_o0 := keepB hbd o0
  have x_o1 := keepB hbd o1
  have x_o2 := keepB hbd o2
  have x_o3 := keepB hbd o3
  go_wp2_with fail
  clear hbd x_x0 x_x1 x_x2 x_x3 x_v0 x_v1 x_v2 x_v3 x_v4 x_v5 x_v6 x_o0 x_o1 x_o2 x_o3
  obtain ⟨w10, hw1⟩ : ∃ w10, w10 = w9.alloc (.cells #[.int .i64 k', .int .i64 a', .int .i64 b', .int .i64 c', .int .i64 d', .int .i64 f', .int .i64 g'] 29) := ⟨_, rfl⟩
  have y_0 : w10.cell? ⟨w9.heap.size, 0, none⟩ = some (.int .i64 k') := by rw [hw1]; go_simp
  have y_1 : w10.cell? ⟨w9.heap.size, 1, none⟩ = some (.int .i64 a') := by rw [hw1]; go_simp
  have y_2 : w10.cell? ⟨w9.heap.size, 2, none⟩ = some (.int .i64 b') := by rw [hw1]; go_simp
  have y_3 : w10.cell? ⟨w9.heap.size, 3, none⟩ = some (.int .i64 c') := by rw [hw1]; go_simp
  have y_4 : w10.cell? ⟨w9.heap.size, 4, none⟩ = some (.int .i64 d') := by rw [hw1]; go_simp
  have y_5 : w10.cell? ⟨w9.heap.size, 5, none⟩ = some (.int .i64 f') := by rw [hw1]; go_simp
  have y_6 : w10.cell? ⟨w9.heap.size, 6, none⟩ = some (.int .i64 g') := by rw [hw1]; go_simp
  have by_ : Below w9.heap.size w9 w10 := by rw [hw1]; exact (Below.refl _ _).alloc (Nat.le_refl _) _
  have zy_ : w9.heap.size < w10.heap.size := by rw [hw1]; simp
  have Hy_ := Lib.hid (show w10.heap[w9.heap.size]? = some (.cells #[.int .i64 k', .int .i64 a', .int .i64 b', .int .i64 c', .int .i64 d', .int .i64 f', .int .i64 g'] 29) by rw [hw1]; exact heap_alloc_new w9 _)
  rw [← hw1]
  clear hw1
  have HB10 := Lib.hid (HB9.out.trans (by_.mono (by omega)))
  have Hes10 := Lib.hid (Hes9.out.below by_ (by omega))
  have Hoe10 := Lib.hid (Hoe9.out.below by_ (by omega))
  have hs10 : w9.heap.size ≤ w10.heap.size := by_.size
  replace x0 := keepB by_ x0; replace x1 := keepB by_ x1; replace x2 := keepB by_ x2; replace x3 := keepB by_ x3; replace v0 := keepB by_ v0; replace v1 := keepB by_ v1; replace v2 := keepB by_ v2; replace v3 := keepB by_ v3; replace v4 := keepB by_ v4; replace v5 := keepB by_ v5; replace v6 := keepB by_ v6; replace o0 := keepB by_ o0; replace o1 := keepB by_ o1; replace o2 := keepB by_ o2; replace o3 := keepB by_ o3
  clear by_ Hy_ zy_ Hes9 Hoe9
  refine (ApplyEvent_any w.heap.size w1.heap.size _ ⟨es, a, b, z⟩ ⟨k', a', b', c', d', f', g'⟩ w10 Hes10.out (by omega) HH3.out HV'.out).mono ?_
  rw [HAP.out]
  intro e w11 hpost
  obtain ⟨v11, rfl, ho11, b11⟩ := hpost
  dsimp only [Option.getD_some, Option.isSome_some] at ho11 ⊢
  obtain ⟨A11, c11, hv11, _⟩ := ho11.form
  subst hv11
  have HB11 := Lib.hid (HB10.out.trans (b11.mono (by omega)))
  have Hoe11 := Lib.hid (Hoe10.out.below b11 (by omega))
  have hs11 : w10.heap.size ≤ w11.heap.size := b11.size
  replace o0 := keepB b11 o0; replace o1 := keepB b11 o1; replace o2 := keepB b11 o2; replace o3 := keepB b11 o3
  clear b11 x0 x1 x2 x3 v0 v1 v2 v3 v4 v5 v6
  have hbd : Below w11.heap.size w11 (w11.alloc (.cells #[.slice A11 es5.length c11, .int .i64 a5, .int .i64 b5, .int .i64 z5] 52)) := (Below.refl _ _).alloc (Nat.le_refl _) _
  have x_o0 := keepB hbd o0
  have x_o1 := keepB hbd o1
  have x_o2 := keepB hbd o2
  have x_o3 := keepB hbd o3
  go_wp2_with fail
  clear hbd x_o0 x_o1 x_o2 x_o3
  obtain ⟨w12, hw1⟩ : ∃ w12, w12 = w11.alloc (.cells #[.slice A11 es5.length c11, .int .i64 a5, .int .i64 b5, .int .i64 z5] 52) := ⟨_, rfl⟩
  have p0 : w12.cell? ⟨w11.heap.size, 0, none⟩ = some (.slice A11 es5.length c11) := by rw [hw1]; go_simp
  have p1 : w12.cell? ⟨w11.heap.size, 1, none⟩ = some (.int .i64 a5) := by rw [hw1]; go_simp
  have p2 : w12.cell? ⟨w11.heap.size, 2, none⟩ = some (.int .i64 b5) := by rw [hw1]; go_simp
  have p3 : w12.cell? ⟨w11.heap.size, 3, none⟩ = some (.int .i64 z5) := by rw [hw1]; go_simp
  have bp : Below w11.heap.size w11 w12 := by rw [hw1]; exact (Below.refl _ _).alloc (Nat.le_refl _) _
  have zp : w11.heap.size < w12.heap.size := by rw [hw1]; simp
  rw [← hw1]
  clear hw1
  have HB12 := Lib.hid (HB11.out.trans (bp.mono (by omega)))
  have Hoe12 := Lib.hid (Hoe11.out.below bp (by omega))
  have he12 := ho11.es.below bp (Nat.le_refl _)
  have hs12 : w11.heap.size ≤ w12.heap.size := bp.size
  clear bp
  refine (equalMill_same _ _ _ _ _ _ es5 a5 b5 z5 w12 he12 (by omega) Hoe12.out (by omega)).mono ?_
  rintro e w13 ⟨rfl, b13⟩
  have HB13 := Lib.hid (HB12.out.trans (b13.mono (by omega)))
  clear b13
  go_wp2
  go_ret
  exact ⟨rfl, HB13.out⟩
end Go.Proofs.YtlabekemifccaaaDoor
