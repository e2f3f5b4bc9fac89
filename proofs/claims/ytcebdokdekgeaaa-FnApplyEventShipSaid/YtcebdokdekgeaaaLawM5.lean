/-
  Lemmas and contracts of single functions of this program, used by the proofs of its laws: what each call returns and what becomes of memory. Conditions: the hypotheses of each theorem.
-/
import Derived.Test.YtcebdokdekgeaaaMillY
import Derived.Test.YtcebdokdekgeaaaReelM
namespace Go.Proofs.Ytcebdokdekgeaaa
open Go.RowKit
attribute [local go_sem ↓] Go.wp_at_zero Go.wp_at_succ

def bsum (ps : List (List Int)) (xs : List Int) (k : Nat) : Int := ((xs.take k).map fun x => areaP (gr ps x.toNat)).sum
theorem bsum_succ {ps : List (List Int)} {xs : List Int} {k : Nat} (h : k < xs.length) : bsum ps xs (k + 1) = bsum ps xs k + areaP (gr ps (gi xs k).toNat) := by
  unfold bsum
  rw [List.take_succ_eq_append_getElem h, List.map_append, List.sum_append, gi_eq h]; simp
theorem sel_bad (e : Ent) (g : Int) : ∀ n, n ≤ e.ps.length → ((selL (fun i => decide (g < worstL e.ds (gr e.ps i))) n).map fun x => areaP (gr e.ps x.toNat)).sum = badK e g n
  | 0, _ => by simp [selL, badK]
  | n + 1, hn => by
    rw [selL_succ, badK_succ (by omega), ← sel_bad e g n (by omega)]
    by_cases h : g < worstL e.ds (gr e.ps n)
    · rw [if_pos (decide_eq_true h), if_pos h, List.map_append, List.sum_append]; simp
    · rw [if_neg (by simpa using h), if_neg h]; simp
theorem gi_memM {xs : List Int} {k : Nat} (h : k < xs.length) : gi xs k ∈ xs := by rw [gi_eq h]; exact List.getElem_mem h
theorem bsum_rng {ps : List (List Int)} {xs : List Int} (h : ∀ x ∈ xs, 0 ≤ areaP (gr ps x.toNat) ∧ areaP (gr ps x.toNat) ≤ 24000) : ∀ k, k ≤ xs.length → 0 ≤ bsum ps xs k ∧ bsum ps xs k ≤ 24000 * k
  | 0, _ => by simp [bsum]
  | k + 1, hk => by
    have ih := bsum_rng h k (by omega)
    have := h _ (gi_memM (show k < xs.length by omega))
    rw [bsum_succ (by omega)]
    omega
set_option maxRecDepth 100000 in
set_option maxHeartbeats 8000000 in
theorem FnApplyEventShip_walk (v : Value) (xs : List Int) (w : World) (h : Bytes w 0 w.heap.size v xs) :
    Calls Try.prog 8 #[v] w fun e w' => e = .returned (.bool true) ∧ Below w.heap.size w w' := by
  have hv : ∃ A c, v = .slice A xs.length c ∧ xs.length ≤ c ∧ c ≤ 2 ^ 63 - 1 := by obtain ⟨A, c, e, h1, h2, _⟩ := h; exact ⟨A, c, e, h1, by unfold maxLen at h2; omega⟩
  obtain ⟨A0, c0, rfl, hc0, hm0⟩ := hv
  by_cases hl : 1048576 < xs.length
  · have hl' : (1048576 : Int) < (xs.length : Int) := by omega
    go_enter Try.func8, Try.ntmps8
    go_wp2
    go_ret
    exact ⟨rfl, Below.refl _ _⟩
  have hl' : ¬ (1048576 : Int) < (xs.length : Int) := by omega
  go_enter Try.func8, Try.ntmps8
  go_wp2_with fail
  refine (DrawApplyEvent_any _ xs w h).mono ?_
  rintro e w1 ⟨A, n, c, es, a, b, z, ⟨ek, lb, l, r, f, t, g⟩, rfl, hn, hes, ⟨ha, hb, hz⟩, h64, b1⟩
  subst hn
  dsimp only
  obtain ⟨hc, hm⟩ : es.length ≤ c ∧ c ≤ 2 ^ 63 - 1 := by obtain ⟨A', c', e, q1, q2⟩ := hes.form; injection e with e1 e2 e3; subst e3; exact ⟨q1, q2⟩
  have hs1 := b1.size
  clear h hl hl'
  go_wp2_with fail
  have Hs := Lib.hid (show ∃ w2, w2 = (w1.alloc (.cells #[.slice A es.length c, .int .i64 a, .int .i64 b, .int .i64 z] 25)).alloc (.cells #[.int .i64 ek, .int .i64 lb, .int .i64 l, .int .i64 r, .int .i64 f, .int .i64 t, .int .i64 g] 40) ∧ Below w1.heap.size w1 w2 ∧ MB w2 w1.heap.size (.slice A es.length c) a b z ∧ (w2.cell? ⟨w1.heap.size + 1, 0, none⟩ = some (.int .i64 ek) ∧ w2.cell? ⟨w1.heap.size + 1, 1, none⟩ = some (.int .i64 lb) ∧ w2.cell? ⟨w1.heap.size + 1, 2, none⟩ = some (.int .i64 l) ∧ w2.cell? ⟨w1.heap.size + 1, 3, none⟩ = some (.int .i64 r) ∧ w2.cell? ⟨w1.heap.size + 1, 4, none⟩ = some (.int .i64 f) ∧ w2.cell? ⟨w1.heap.size + 1, 5, none⟩ = some (.int .i64 t) ∧ w2.cell? ⟨w1.heap.size + 1, 6, none⟩ = some (.int .i64 g)) ∧ w1.heap.size + 1 < w2.heap.size from by
    refine ⟨_, rfl, ((Below.refl _ _).alloc (Nat.le_refl _) _).alloc (by simp) _, ?_, ?_, by simp⟩
    · have h9 := heap_alloc_new w1 (.cells #[.slice A es.length c, .int .i64 a, .int .i64 b, .int .i64 z] 25)
      unfold MB
      refine Eq.trans ?_ h9
      exact ((Below.refl _ _).alloc (Nat.le_refl _) _).block _ (by simp)
    · refine ⟨?_, ?_, ?_, ?_, ?_, ?_, ?_⟩ <;> go_simp)
  obtain ⟨w2, hw2, b2, hmS, ⟨v0, v1, v2, v3, v4, v5, v6⟩, hz2⟩ := Hs.out
  rw [← hw2]
  clear hw2 Hs
  have HmS := Lib.hid hmS
  obtain ⟨⟨x0, x1, x2, x3⟩, _⟩ := hmS.cells
  have hes2 := hes.below b2 (Nat.le_refl _)
  have B2 := b1.trans (b2.mono hs1)
  have h3 : I64 a ∧ I64 b ∧ I64 z := ⟨⟨by omega, by omega⟩, ⟨by omega, by omega⟩, ⟨by omega, by omega⟩⟩
  have H64 := Lib.hid h64
  obtain ⟨R, hR⟩ : ∃ R, R = apV ⟨es, a, b, z⟩ ⟨ek, lb, l, r, f, t, g⟩ := ⟨_, rfl⟩
  have HR := Lib.hid hR
  clear hmS hes b1 b2 h64
  refine (ApplyEvent_any w.heap.size w1.heap.size _ ⟨es, a, b, z⟩ ⟨ek, lb, l, r, f, t, g⟩ w2 hes2 (by omega) h3 H64.out).mono ?_
  rw [← hR]
  intro e w3 hpost
  obtain ⟨v3', rfl, ho3, b3⟩ := hpost
  obtain ⟨⟨es5, a5, b5, z5⟩, hM5⟩ : ∃ M, M = R.getD Mil.nil := ⟨_, rfl⟩
  obtain ⟨rs, hrs⟩ : ∃ rs, rs = R.isSome := ⟨_, rfl⟩
  rw [← hM5] at ho3
  rw [← hM5, ← hrs]
  have HM5 := Lib.hid hM5
  have Hrs := Lib.hid hrs
  dsimp only at ho3 ⊢
  obtain ⟨A3, c3, hv3, _⟩ := ho3.form
  subst hv3
  have hes3 := hes2.below b3 (by omega)
  have B3 := B2.trans (b3.mono (by omega))
  have hs3 := b3.size
  have HmS3 := Lib.hid (HmS.out.below b3 (by omega))
  replace x0 := keepB b3 x0; replace x1 := keepB b3 x1; replace x2 := keepB b3 x2; replace x3 := keepB b3 x3; replace v0 := keepB b3 v0; replace v1 := keepB b3 v1; replace v2 := keepB b3 v2; replace v3 := keepB b3 v3; replace v4 := keepB b3 v4; replace v5 := keepB b3 v5; replace v6 := keepB b3 v6
  clear b3 B2 hes2 HmS hR hM5 hrs
  have hbd : Below w3.heap.size w3 (w3.alloc (.cells #[.slice A3 es5.length c3, .int .i64 a5, .int .i64 b5, .int .i64 z5] 25)) := (Below.refl _ _).alloc (Nat.le_refl _) _
  have x_x0 := keepB hbd x0
  have x_x1 := keepB hbd x1
  have x_x2 := keepB hbd x2
  have x_x3 := keepB hbd x3
  have x_v0 := keepB hbd v0
  have x_v1 := keepB hbd v1
  have x_v2 := keepB hbd v2
  have x_v3 := keepB hbd v3
  have x_v4 := keepB hbd v4
  have x_v5 := keepB hbd v5
  have x_v6 := keepB hbd v6
  go_wp2_with fail
  clear hbd x_x0 x_x1 x_x2 x_x3 x_v0 x_v1 x_v2 x_v3 x_v4 x_v5 x_v6
  obtain ⟨w4, hw1⟩ : ∃ w4, w4 = w3.alloc (.cells #[.slice A3 es5.length c3, .int .i64 a5, .int .i64 b5, .int .i64 z5] 25) := ⟨_, rfl⟩
  have o0 : w4.cell? ⟨w3.heap.size, 0, none⟩ = some (.slice A3 es5.length c3) := by rw [hw1]; go_simp
  have o1 : w4.cell? ⟨w3.heap.size, 1, none⟩ = some (.int .i64 a5) := by rw [hw1]; go_simp
  have o2 : w4.cell? ⟨w3.heap.size, 2, none⟩ = some (.int .i64 b5) := by rw [hw1]; go_simp
  have o3 : w4.cell? ⟨w3.heap.size, 3, none⟩ = some (.int .i64 z5) := by rw [hw1]; go_simp
  have bo : Below w3.heap.size w3 w4 := by rw [hw1]; exact (Below.refl _ _).alloc (Nat.le_refl _) _
  have zo : w3.heap.size < w4.heap.size := by rw [hw1]; simp
  have Ho := Lib.hid (show w4.heap[w3.heap.size]? = some (.cells #[.slice A3 es5.length c3, .int .i64 a5, .int .i64 b5, .int .i64 z5] 25) by rw [hw1]; exact heap_alloc_new w3 _)
  rw [← hw1]
  clear hw1
  have hes4 := hes3.below bo (by omega)
  have B4 := B3.trans (bo.mono (by omega))
  have ho4 := ho3.below bo (Nat.le_refl _)
  have HmS4 := Lib.hid (HmS3.out.below bo (by omega))
  replace x0 := keepB bo x0; replace x1 := keepB bo x1; replace x2 := keepB bo x2; replace x3 := keepB bo x3; replace v0 := keepB bo v0; replace v1 := keepB bo v1; replace v2 := keepB bo v2; replace v3 := keepB bo v3; replace v4 := keepB bo v4; replace v5 := keepB bo v5; replace v6 := keepB bo v6
  clear bo B3 hes3 ho3 HmS3 Ho
  refine (sApplyEvent_any w.heap.size w1.heap.size _ ⟨es, a, b, z⟩ ⟨ek, lb, l, r, f, t, g⟩ w4 hes4 (by omega) h3.2 H64.out).mono ?_
  rw [← HR.out]
  intro e w5 hpost
  obtain ⟨v5', rfl, he5, b5'⟩ := hpost
  rw [← HM5.out] at he5
  rw [← HM5.out, ← Hrs.out]
  dsimp only at he5 ⊢
  obtain ⟨A5, c5, hv5, _⟩ := he5.form
  subst hv5
  have hes5 := hes4.below b5' (by omega)
  have B5 := B4.trans (b5'.mono (by omega))
  have ho5 := ho4.below b5' (by omega)
  have hs5 := b5'.size
  have HmS5 := Lib.hid (HmS4.out.below b5' (by omega))
  replace x0 := keepB b5' x0; replace x1 := keepB b5' x1; replace x2 := keepB b5' x2; replace x3 := keepB b5' x3; replace v0 := keepB b5' v0; replace v1 := keepB b5' v1; replace v2 := keepB b5' v2; replace v3 := keepB b5' v3; replace v4 := keepB b5' v4; replace v5 := keepB b5' v5; replace v6 := keepB b5' v6; replace o0 := keepB b5' o0; replace o1 := keepB b5' o1; replace o2 := keepB b5' o2; replace o3 := keepB b5' o3
  clear b5' B4 hes4 ho4 HmS4
  have hbd : Below w5.heap.size w5 (w5.alloc (.cells #[.slice A5 es5.length c5, .int .i64 a5, .int .i64 b5, .int .i64 z5] 25)) := (Below.refl _ _).alloc (Nat.le_refl _) _
  have x_x0 := keepB hbd x0
  have x_x1 := keepB hbd x1
  have x_x2 := keepB hbd x2
  have x_x3 := keepB hbd x3
  have x_v0 := keepB hbd v0
  have x_v1 := keepB hbd v1
  have x_v2 := keepB hbd v2
  have x_v3 := keepB hbd v3
  have x_v4 := keepB hbd v4
  have x_v5 := keepB hbd v5
  have x_v6 := keepB hbd v6
  have x_o0 := keepB hbd o0
  have x_o1 := keepB hbd o1
  have x_o2 := keepB hbd o2
  have x_o3 := keepB hbd o3
  go_wp2_with fail
  clear hbd x_x0 x_x1 x_x2 x_x3 x_v0 x_v1 x_v2 x_v3 x_v4 x_v5 x_v6 x_o0 x_o1 x_o2 x_o3
  obtain ⟨w6, hw1⟩ : ∃ w6, w6 = w5.alloc (.cells #[.slice A5 es5.length c5, .int .i64 a5, .int .i64 b5, .int .i64 z5] 25) := ⟨_, rfl⟩
  have p0 : w6.cell? ⟨w5.heap.size, 0, none⟩ = some (.slice A5 es5.length c5) := by rw [hw1]; go_simp
  have p1 : w6.cell? ⟨w5.heap.size, 1, none⟩ = some (.int .i64 a5) := by rw [hw1]; go_simp
  have p2 : w6.cell? ⟨w5.heap.size, 2, none⟩ = some (.int .i64 b5) := by rw [hw1]; go_simp
  have p3 : w6.cell? ⟨w5.heap.size, 3, none⟩ = some (.int .i64 z5) := by rw [hw1]; go_simp
  have bp : Below w5.heap.size w5 w6 := by rw [hw1]; exact (Below.refl _ _).alloc (Nat.le_refl _) _
  have zp : w5.heap.size < w6.heap.size := by rw [hw1]; simp
  rw [← hw1]
  clear hw1
  have hes6 := hes5.below bp (by omega)
  have B6 := B5.trans (bp.mono (by omega))
  have ho6 := ho5.below bp (by omega)
  have he6 := he5.below bp (Nat.le_refl _)
  have hs6 := bp.size
  have HmS6 := Lib.hid (HmS5.out.below bp (by omega))
  replace x0 := keepB bp x0; replace x1 := keepB bp x1; replace x2 := keepB bp x2; replace x3 := keepB bp x3; replace v0 := keepB bp v0; replace v1 := keepB bp v1; replace v2 := keepB bp v2; replace v3 := keepB bp v3; replace v4 := keepB bp v4; replace v5 := keepB bp v5; replace v6 := keepB bp v6; replace o0 := keepB bp o0; replace o1 := keepB bp o1; replace o2 := keepB bp o2; replace o3 := keepB bp o3
  clear bp B5 hes5 ho5 he5 HmS5
  refine (equalMill_same _ _ _ _ _ _ es5 a5 b5 z5 w6 ho6.es (by omega) he6 (by omega)).mono ?_
  rintro e w7 ⟨rfl, b7⟩
  have hes7 := hes6.below b7 (by omega)
  have B7 := B6.trans (b7.mono (by omega))
  have ho7 := ho6.below b7 (by omega)
  have he7 := he6.below b7 (by omega)
  have hs7 := b7.size
  have HmS7 := Lib.hid (HmS6.out.below b7 (by omega))
  replace x0 := keepB b7 x0; replace x1 := keepB b7 x1; replace x2 := keepB b7 x2; replace x3 := keepB b7 x3; replace v0 := keepB b7 v0; replace v1 := keepB b7 v1; replace v2 := keepB b7 v2; replace v3 := keepB b7 v3; replace v4 := keepB b7 v4; replace v5 := keepB b7 v5; replace v6 := keepB b7 v6; replace o0 := keepB b7 o0; replace o1 := keepB b7 o1; replace o2 := keepB b7 o2; replace o3 := keepB b7 o3; replace p0 := keepB b7 p0; replace p1 := keepB b7 p1; replace p2 := keepB b7 p2; replace p3 := keepB b7 p3
  clear b7 B6 hes6 ho6 he6 HmS6
  cases rs
  · have hb1 : (false != false) = false := rfl
    have hb2 : (false == false) = true := rfl
    go_wp2_with fail
    refine (equalMill_same _ _ _ _ _ _ es5 a5 b5 z5 w7 ho7.es (by omega) he7 (by omega)).mono ?_
    rintro e w8 ⟨rfl, b8⟩
    have B8 := B7.trans (b8.mono (by omega))
    clear b8 B7
    go_wp2
    go_ret
    exact ⟨rfl, B8⟩
  have HS : Hid (apE ⟨es, a, b, z⟩ ⟨ek, lb, l, r, f, t, g⟩ = some ⟨es5, a5, b5, z5⟩ ∧ (⟨es, a, b, z⟩ : Mil).ok = true) := by
    have e1 := HR.out
    have e2 := HM5.out
    have e3 := Hrs.out
    cases hR9 : R with
    | none => rw [hR9] at e3; cases e3
    | some m9 =>
      rw [hR9] at e1 e2
      unfold apV at e1
      split at e1
      · rename_i hk9
        refine ⟨?_, hk9⟩
        rw [← e1, e2]; rfl
      · cases e1
  have Hes := Lib.hid hes7
  have HB7 := Lib.hid B7
  have Hoe := Lib.hid ho7
  have hb1 : (true != true) = false := rfl
  have hb2 : (true == true) = true := rfl
  have hw1 : w.heap.size ≤ w1.heap.size := hs1
  have hw2 : w1.heap.size ≤ w7.heap.size := by omega
  clear hes7 B7 ho7 he7 HR HM5 Hrs R p0 p1 p2 p3
  have hva := vMill_iff.1 HS.out.2
  have hv5 := vMill_iff.1 (apE_ok HS.out.1)
  dsimp only at hva hv5
  by_cases hk : ek = 3
  rotate_left
  · have hkb : (ek == 3) = false := beq_f hk
    have hkn : (ek != 3) = true := by rw [bne, hkb]; rfl
    have hkp := (apE_kept HS.out.2 HS.out.1).2.2.2 hk
    dsimp only at hkp
    have q1 : (b5 == b) = true := beq_t hkp.1
    have q2 : (z5 == z) = true := beq_t hkp.2
    clear hkp hva hv5 HS hk
    go_wp2
    go_ret
    exact ⟨rfl, HB7.out⟩
  subst hk
  obtain ⟨i0, hi0, hlb0, hbe, hlen, hz', hb'⟩ := ship_sums (e := ⟨3, lb, l, r, f, t, g⟩) rfl HS.out.1
  dsimp only at hi0 hlb0 hbe hlen hz' hb'
  have hcut := (vEnt_iff.1 (hva.1 i0 hi0).1).2.2
  have har := area_rng (hva.1 i0 hi0).1
  have hl12 := hva.2.1
  have hb9 := hva.2.2.2.1
  have hz9 := hva.2.2.2.2.1
  have hb59 := hv5.2.2.2.1
  have hz59 := hv5.2.2.2.2.1
  have HAP := Lib.hid (fun (j : Nat) (hj : j < (ge es i0).ps.length) => areaP_rng (hva.1 i0 hi0).1 hj)
  have Hbe := Lib.hid hbe
  have HL := Lib.hid hlen
  have HZ5 := Lib.hid hz'
  have HB5 := Lib.hid hb'
  have Hcut := Lib.hid hcut
  have Hlb0 := Lib.hid hlb0
  clear hva hv5 HS hbe hlen hz' hb' hcut hlb0
  go_wp2
  go_loopw [9] (fun i wr => ∃ k : Nat, k ≤ i0 ∧ i = .int .i64 k ∧ Below w7.heap.size w7 wr) (fun i _ => es.length - (intOf i).toNat)
  case atStart => exact ⟨0, by omega, rfl, Below.refl _ _⟩
  case round =>
    obtain ⟨k, hk, rfl, bw⟩ := hrel
    have hzr := bw.size
    replace x0 := keepB bw x0; replace x1 := keepB bw x1; replace x2 := keepB bw x2; replace x3 := keepB bw x3; replace v0 := keepB bw v0; replace v1 := keepB bw v1; replace v2 := keepB bw v2; replace v3 := keepB bw v3; replace v4 := keepB bw v4; replace v5 := keepB bw v5; replace v6 := keepB bw v6; replace o0 := keepB bw o0; replace o1 := keepB bw o1; replace o2 := keepB bw o2; replace o3 := keepB bw o3
    have hes := Hes.out.below bw hw2
    have Hbw := Lib.hid bw
    have hsz1 : w1.heap.size + 1 < wr.heap.size := World.block_lt_of_cell? wr _ v0
    have hsz3 : w3.heap.size < wr.heap.size := World.block_lt_of_cell? wr _ o0
    clear bw
    obtain ⟨b9, o, Ad, cd, Ap, cp, rfl, _, _, e0, e1, e2, e3, e4, hTd, hTp, _⟩ := hes.cell (k := k) (by omega)
    have hk0 : (0 : Int) ≤ (k : Int) := by omega
    have hk1 : (k : Int) < (es.length : Int) := by omega
    by_cases hlt : k < i0
    · have hne : ((ge es k).lb != lb) = true := by rw [bne, beq_f (Hbe.out k hlt)]; rfl
      clear hes
      have hbd : Below wr.heap.size wr (wr.alloc (.cells #[.int .i64 ((ge es k).lb), .int .i64 ((ge es k).W), .int .i64 ((ge es k).L), .slice Ad (ge es k).ds.length cd, .slice Ap (ge es k).ps.length cp] 35)) := (Below.refl _ _).alloc (Nat.le_refl _) _
      have x_v1 := keepB hbd v1
      go_wp2
      clear hbd x_v1
      go_roundw
      case rel => exact ⟨k + 1, by omega, by go_num, Hbw.out.alloc hzr _⟩
      case measure => simp [intOf]; omega
    · obtain rfl : k = i0 := by omega
      obtain ⟨wo, rfl⟩ : ∃ wo : World, wo = wr := ⟨_, rfl⟩
      obtain ⟨E, hE⟩ : ∃ E, E = ge es k := ⟨_, rfl⟩
      rw [← hE] at e0 e1 e2 e3 e4 hTd hTp har HAP HZ5 HB5 Hcut Hlb0
      obtain ⟨lb', W, L, ds, ps⟩ := E
      have hlb9 : lb' = lb := Hlb0.out
      subst hlb9
      dsimp only at e0 e1 e2 e3 e4 hTd hTp har HAP HZ5 HB5 Hcut
      have hnb : (lb' != lb') = false := bne_f rfl
      have hpl : ps.length ≤ 60 := (vCuts_iff.1 Hcut.out).2.1
      have hrg := vReel_rng (vCuts_iff.1 Hcut.out).1
      have HPV := Lib.hid (show ∀ j, j < ps.length → pv (gr ps j) W L = true from fun j hj => cut_pv Hcut.out hj)
      have HX0 := Lib.hid (show brL W L ds ps g = selL (fun i => decide (g < worstL ds (gr ps i))) ps.length by unfold brL; rw [if_pos Hcut.out])
      have HSB := Lib.hid (sel_bad ⟨lb', W, L, ds, ps⟩ g ps.length (Nat.le_refl _))
      obtain ⟨X, hX⟩ : ∃ X, X = brL W L ds ps g := ⟨_, rfl⟩
      have HX := Lib.hid hX
      rw [HX0.out] at hX
      have HXm := Lib.hid (show ∀ x ∈ X, ∃ q : Nat, x = (q : Int) ∧ q < ps.length from fun x hx => by
        rw [hX] at hx
        obtain ⟨q, h1, _, h3⟩ := selL_mem.1 hx
        exact ⟨q, h3, h1⟩)
      have hXl : X.length ≤ 60 := by rw [hX]; exact Nat.le_trans (selL_len _ _) hpl
      have HBS := Lib.hid (show bsum ps X X.length = badK ⟨lb', W, L, ds, ps⟩ g ps.length by
        unfold bsum; rw [List.take_length, hX]; exact HSB.out)
      have HBR := Lib.hid (bsum_rng (ps := ps) (xs := X) (fun x hx => by
        obtain ⟨q, rfl, hq⟩ := HXm.out x hx
        rw [Int.toNat_natCast]
        exact HAP.out q hq))
      clear hX hE hes HSB HX0
      have hbd : Below wo.heap.size wo (wo.alloc (.cells #[.int .i64 lb', .int .i64 W, .int .i64 L, .slice Ad ds.length cd, .slice Ap ps.length cp] 35)) := (Below.refl _ _).alloc (Nat.le_refl _) _
      have x_v1 := keepB hbd v1
      have x_v6 := keepB hbd v6
      go_wp2_with fail
      clear hbd x_v1 x_v6
      obtain ⟨wa, hw1⟩ : ∃ wa, wa = wo.alloc (.cells #[.int .i64 lb', .int .i64 W, .int .i64 L, .slice Ad ds.length cd, .slice Ap ps.length cp] 35) := ⟨_, rfl⟩
      have q0 : wa.cell? ⟨wo.heap.size, 0, none⟩ = some (.int .i64 lb') := by rw [hw1]; go_simp
      have q1 : wa.cell? ⟨wo.heap.size, 1, none⟩ = some (.int .i64 W) := by rw [hw1]; go_simp
      have q2 : wa.cell? ⟨wo.heap.size, 2, none⟩ = some (.int .i64 L) := by rw [hw1]; go_simp
      have q3 : wa.cell? ⟨wo.heap.size, 3, none⟩ = some (.slice Ad ds.length cd) := by rw [hw1]; go_simp
      have q4 : wa.cell? ⟨wo.heap.size, 4, none⟩ = some (.slice Ap ps.length cp) := by rw [hw1]; go_simp
      have bq : Below wo.heap.size wo wa := by rw [hw1]; exact (Below.refl _ _).alloc (Nat.le_refl _) _
      have zq : wo.heap.size < wa.heap.size := by rw [hw1]; simp
      rw [← hw1]
      clear hw1
      have Hwa := Lib.hid (Hbw.out.trans (bq.mono hzr))
      replace hTd := hTd.below bq (by omega)
      replace hTp := hTp.below bq (by omega)
      have hza := bq.size
      replace x0 := keepB bq x0; replace x1 := keepB bq x1; replace x2 := keepB bq x2; replace x3 := keepB bq x3; replace v0 := keepB bq v0; replace v1 := keepB bq v1; replace v2 := keepB bq v2; replace v3 := keepB bq v3; replace v4 := keepB bq v4; replace v5 := keepB bq v5; replace v6 := keepB bq v6; replace o0 := keepB bq o0; replace o1 := keepB bq o1; replace o2 := keepB bq o2; replace o3 := keepB bq o3
      clear bq e0 e1 e2 e3 e4 Hbw
      refine (BadRolls_any _ _ _ _ W L _ _ ds ps g wa hTd (by omega) hTp (by omega)).mono ?_
      rw [← HX.out]
      rintro e wb ⟨vb, rfl, ob, bk⟩
      obtain ⟨Ab, cb, rfl, _⟩ := ob.form
      have hint := ob.ints
      have hzb := bk.size
      have Hwb := Lib.hid (Hwa.out.trans (bk.mono (by omega)))
      replace hTd := hTd.below bk (by omega)
      replace hTp := hTp.below bk (by omega)
      replace x0 := keepB bk x0; replace x1 := keepB bk x1; replace x2 := keepB bk x2; replace x3 := keepB bk x3; replace v0 := keepB bk v0; replace v1 := keepB bk v1; replace v2 := keepB bk v2; replace v3 := keepB bk v3; replace v4 := keepB bk v4; replace v5 := keepB bk v5; replace v6 := keepB bk v6; replace o0 := keepB bk o0; replace o1 := keepB bk o1; replace o2 := keepB bk o2; replace o3 := keepB bk o3; replace q0 := keepB bk q0; replace q1 := keepB bk q1; replace q2 := keepB bk q2; replace q3 := keepB bk q3; replace q4 := keepB bk q4
      have hb0 : bsum ps X 0 = 0 := by simp [bsum]
      have HB0 := Lib.hid hb0
      clear bk ob Hwa hb0
      go_wp2
      go_loopw [12, 13] (fun nn j wr => ∃ m : Nat, m ≤ X.length ∧ j = .int .i64 m ∧ nn = .int .i64 (bsum ps X m) ∧ Below wb.heap.size wb wr) (fun _ j _ => X.length - (intOf j).toNat)
      case atStart => exact ⟨0, by omega, rfl, by rw [HB0.out], Below.refl _ _⟩
      case round =>
        obtain ⟨m, hm, rfl, rfl, bv⟩ := hrel
        have hzv := bv.size
        replace x0 := keepB bv x0; replace x1 := keepB bv x1; replace x2 := keepB bv x2; replace x3 := keepB bv x3; replace v0 := keepB bv v0; replace v1 := keepB bv v1; replace v2 := keepB bv v2; replace v3 := keepB bv v3; replace v4 := keepB bv v4; replace v5 := keepB bv v5; replace v6 := keepB bv v6; replace o0 := keepB bv o0; replace o1 := keepB bv o1; replace o2 := keepB bv o2; replace o3 := keepB bv o3; replace q0 := keepB bv q0; replace q1 := keepB bv q1; replace q2 := keepB bv q2; replace q3 := keepB bv q3; replace q4 := keepB bv q4
        have hsr := HBR.out m hm
        have hTd2 := hTd.below bv (by omega)
        have hTp2 := hTp.below bv (by omega)
        have hint2 := hint.below bv (Nat.le_refl _)
        have Hbv := Lib.hid bv
        clear bv
        by_cases hltj : m < X.length
        · obtain ⟨bi, oi, rfl, _, _, ei, _⟩ := hint2.cell hltj
          obtain ⟨qi, hqi, hqp⟩ := HXm.out _ (gi_memM hltj)
          have HN := Lib.hid (bsum_succ (ps := ps) hltj)
          rw [hqi] at ei HN
          rw [Int.toNat_natCast] at HN
          obtain ⟨b8, o8, rfl, _, _, p0, p1, p2, p3⟩ := hTp2.c4 hqp
          have hpv := pv_rng (HPV.out qi hqp)
          have harea := HAP.out qi hqp
          have hm0 : (0 : Int) ≤ (m : Int) := by omega
          have hm1 : (m : Int) < (X.length : Int) := by omega
          have hq0 : (0 : Int) ≤ (qi : Int) := by omega
          have hq1 : (qi : Int) < (ps.length : Int) := by omega
          unfold areaP at harea HN
          obtain ⟨l2, hl8⟩ : ∃ l, l = gi (gr ps qi) 0 := ⟨_, rfl⟩
          obtain ⟨r2, hr8⟩ : ∃ l, l = gi (gr ps qi) 1 := ⟨_, rfl⟩
          obtain ⟨f2, hf8⟩ : ∃ l, l = gi (gr ps qi) 2 := ⟨_, rfl⟩
          obtain ⟨t2, ht8⟩ : ∃ l, l = gi (gr ps qi) 3 := ⟨_, rfl⟩
          rw [← hl8, ← hr8, ← hf8, ← ht8] at hpv harea HN
          rw [← hl8] at p0
          rw [← hr8] at p1
          rw [← hf8] at p2
          rw [← ht8] at p3
          obtain ⟨S, hS8⟩ : ∃ S, S = bsum ps X m := ⟨_, rfl⟩
          rw [← hS8] at HN hsr ⊢
          obtain ⟨D, hD8⟩ : ∃ D, (r2 - l2) * (t2 - f2) = D := ⟨_, rfl⟩
          rw [hD8] at HN harea
          have g1 : wrap64 (r2 - l2) = r2 - l2 := w64 (by omega)
          have g2 : wrap64 (t2 - f2) = t2 - f2 := w64 (by omega)
          have g3 : wrap64 ((r2 - l2) * (t2 - f2)) = D := by rw [hD8]; exact w64 (by omega)
          have g4 : wrap64 (S + D) = S + D := w64 (by omega)
          have g3' : (r2 - l2) * (t2 - f2) = D := hD8
          have hsz9 : wo.heap.size < wr.heap.size := by omega
          clear hl8 hr8 hf8 ht8 hS8 hD8 hqi hint2 hTd2 hTp2 v0 v1 v2 v3 v4 v5 v6 o0 o1 o2 o3 x0 x1 x2 x3
          go_wp2
          refine wp_region_held_drew (S := fun w' => w'.cell? ⟨wo.heap.size, 4, none⟩ = some (.slice (some ⟨b8, o8, none⟩) ps.length cp) ∧ w'.cell? ⟨bi, oi + m, none⟩ = some (.int .i64 ((qi : Int))) ∧ w'.cell? ⟨b8, o8 + qi * 4, none⟩ = some (.int .i64 l2) ∧ w'.cell? ⟨b8, o8 + qi * 4 + 1, none⟩ = some (.int .i64 r2) ∧ w'.cell? ⟨b8, o8 + qi * 4 + 2, none⟩ = some (.int .i64 f2) ∧ w'.cell? ⟨b8, o8 + qi * 4 + 3, none⟩ = some (.int .i64 t2)) (by kernel_rfl) ?_ (fun hHeld => ?_)
          · (first | (try dsimp only); go_keep | (go_split_ands; refine ⟨?_, ?_, ?_, ?_, ?_, ?_⟩ <;> first | exact keepB bx5 (by assumption) | exact keepB bx4 (by assumption) | exact keepB bx3 (by assumption) | exact keepB bx2 (by assumption) | exact keepB bx1 (by assumption) | exact keepO bo5 (by first | (simp; done) | (simp; omega)) (by assumption) | exact keepO bo4 (by first | (simp; done) | (simp; omega)) (by assumption) | exact keepO bo3 (by first | (simp; done) | (simp; omega)) (by assumption) | exact keepO bo2 (by first | (simp; done) | (simp; omega)) (by assumption) | exact keepO bo1 (by first | (simp; done) | (simp; omega)) (by assumption) | exact keepW bg2 (by first | (simp; done) | (simp; omega)) (by assumption) | exact keepW bg1 (by first | (simp; done) | (simp; omega)) (by assumption) | assumption))
          refine wpAnyH_take (i := 0) (oi := ⟨some 102, _, _, _, _, _⟩) (v := _) rfl (by kernel_rfl) (by kernel_rfl) (by kernel_rfl) (fun _ _ _ h => h) (Or.inl ⟨by kernel_rfl, by intro w hSw; (try dsimp only at hSw); go_simp; try with_reducible rfl⟩) (by assumption) ?_
          simp only [Act.put, List.setIfInBounds_toArray, List.set_cons_zero, List.set_cons_succ]
          refine wpAnyH_take (i := 1) (oi := ⟨some 103, _, _, _, _, _⟩) (v := _) rfl (by kernel_rfl) (by kernel_rfl) (by kernel_rfl) (fun _ _ _ h => h) (Or.inl ⟨by kernel_rfl, by intro w hSw; (try dsimp only at hSw); go_simp; try with_reducible rfl⟩) (by assumption) ?_
          simp only [Act.put, List.setIfInBounds_toArray, List.set_cons_zero, List.set_cons_succ]
          refine wpAnyH_take (i := 2) (oi := ⟨some 104, _, _, _, _, _⟩) (v := _) rfl (by kernel_rfl) (by kernel_rfl) (by kernel_rfl) (fun _ _ _ h => h) (Or.inl ⟨by kernel_rfl, by intro w hSw; (try dsimp only at hSw); go_simp; try with_reducible rfl⟩) (by assumption) ?_
          simp only [Act.put, List.setIfInBounds_toArray, List.set_cons_zero, List.set_cons_succ]
          refine wpAnyH_take (i := 3) (oi := ⟨some 105, _, _, _, _, _⟩) (v := _) rfl (by kernel_rfl) (by kernel_rfl) (by kernel_rfl) (fun _ _ _ h => h) (Or.inl ⟨by kernel_rfl, by intro w hSw; (try dsimp only at hSw); go_simp; try with_reducible rfl⟩) (by assumption) ?_
          simp only [Act.put, List.setIfInBounds_toArray, List.set_cons_zero, List.set_cons_succ]
          refine wpAnyH_take (i := 4) (oi := ⟨some 106, _, _, _, _, _⟩) (v := _) rfl (by kernel_rfl) (by kernel_rfl) (by kernel_rfl) (fun _ _ _ h => h) (Or.inl ⟨by kernel_rfl, by intro w hSw; (try dsimp only at hSw); go_simp; try with_reducible rfl⟩) (by assumption) ?_
          simp only [Act.put, List.setIfInBounds_toArray, List.set_cons_zero, List.set_cons_succ]
          refine wpAnyH_take (i := 5) (oi := ⟨some 107, _, _, _, _, _⟩) (v := _) rfl (by kernel_rfl) (by kernel_rfl) (by kernel_rfl) (fun _ _ _ h => h) (Or.inl ⟨by kernel_rfl, by intro w hSw; (try dsimp only at hSw); go_simp; try with_reducible rfl⟩) (by assumption) ?_
          simp only [Act.put, List.setIfInBounds_toArray, List.set_cons_zero, List.set_cons_succ]
          refine wpAnyH_take (i := 6) (oi := ⟨some 108, _, _, _, _, _⟩) (v := _) rfl (by kernel_rfl) (by kernel_rfl) (by kernel_rfl) (fun _ _ _ h => h) (Or.inl ⟨by kernel_rfl, by intro w hSw; (try dsimp only at hSw); go_simp; try with_reducible rfl⟩) (by assumption) ?_
          simp only [Act.put, List.setIfInBounds_toArray, List.set_cons_zero, List.set_cons_succ]
          refine wpAnyH_take (i := 7) (oi := ⟨some 109, _, _, _, _, _⟩) (v := _) rfl (by kernel_rfl) (by kernel_rfl) (by kernel_rfl) (fun _ _ _ h => h) (Or.inl ⟨by kernel_rfl, by intro w hSw; (try dsimp only at hSw); go_simp; try with_reducible rfl⟩) (by assumption) ?_
          simp only [Act.put, List.setIfInBounds_toArray, List.set_cons_zero, List.set_cons_succ]
          refine wpAnyH_ready (rs := [8]) (by kernel_rfl) (by simp) ?_
          refine AllReadyH.cons (o := ⟨some 14, _, _, _, _, _⟩) rfl (fun K hK => ?_) AllReadyH.nil
          go_simp
          refine hK.out _ _ ?_ (fun hHeld2 => ?_)
          · (first | (try dsimp only); go_keep | (go_split_ands; refine ⟨?_, ?_, ?_, ?_, ?_, ?_⟩ <;> first | exact keepB bx5 (by assumption) | exact keepB bx4 (by assumption) | exact keepB bx3 (by assumption) | exact keepB bx2 (by assumption) | exact keepB bx1 (by assumption) | exact keepO bo5 (by first | (simp; done) | (simp; omega)) (by assumption) | exact keepO bo4 (by first | (simp; done) | (simp; omega)) (by assumption) | exact keepO bo3 (by first | (simp; done) | (simp; omega)) (by assumption) | exact keepO bo2 (by first | (simp; done) | (simp; omega)) (by assumption) | exact keepO bo1 (by first | (simp; done) | (simp; omega)) (by assumption) | exact keepW bg2 (by first | (simp; done) | (simp; omega)) (by assumption) | exact keepW bg1 (by first | (simp; done) | (simp; omega)) (by assumption) | assumption))
          clear hK K hHeld
          have hHeld := hHeld2
          clear hHeld2
          try simp only [Act.put, List.setIfInBounds_toArray, List.set_cons_zero, List.set_cons_succ]
          refine wpAnyH_ready (rs := [9]) (by kernel_rfl) (by simp) ?_
          refine AllReadyH.cons (o := ⟨none, _, _, _, _, _⟩) rfl (fun K hK => ?_) AllReadyH.nil
          go_simp
          refine hK.out _ _ ?_ (fun hHeld2 => ?_)
          · (first | (try dsimp only); go_keep | (go_split_ands; refine ⟨?_, ?_, ?_, ?_, ?_, ?_⟩ <;> first | exact keepB bx5 (by assumption) | exact keepB bx4 (by assumption) | exact keepB bx3 (by assumption) | exact keepB bx2 (by assumption) | exact keepB bx1 (by assumption) | exact keepO bo5 (by first | (simp; done) | (simp; omega)) (by assumption) | exact keepO bo4 (by first | (simp; done) | (simp; omega)) (by assumption) | exact keepO bo3 (by first | (simp; done) | (simp; omega)) (by assumption) | exact keepO bo2 (by first | (simp; done) | (simp; omega)) (by assumption) | exact keepO bo1 (by first | (simp; done) | (simp; omega)) (by assumption) | exact keepW bg2 (by first | (simp; done) | (simp; omega)) (by assumption) | exact keepW bg1 (by first | (simp; done) | (simp; omega)) (by assumption) | assumption))
          clear hK K hHeld
          have hHeld := hHeld2
          clear hHeld2
          try simp only [Act.put, List.setIfInBounds_toArray, List.set_cons_zero, List.set_cons_succ]
          refine wpAnyH_done (by kernel_rfl) ?_ _
          obtain ⟨wn, hwn⟩ : ∃ x, x = (wr.alloc (.cells #[.int .i64 l2, .int .i64 r2, .int .i64 f2, .int .i64 t2] 38)).drew := ⟨_, rfl⟩
          have hbn : Below wr.heap.size wr wn := by rw [hwn]; exact ((Below.refl _ _).alloc (Nat.le_refl _) _).trans ((Qt.one _ 1).below _)
          have Hbn := Lib.hid (Hbv.out.trans (hbn.mono hzv))
          have n0 : wn.cell? ⟨wr.heap.size, 0, none⟩ = some (.int .i64 l2) := by rw [hwn]; go_simp
          have n1 : wn.cell? ⟨wr.heap.size, 1, none⟩ = some (.int .i64 r2) := by rw [hwn]; go_simp
          have n2 : wn.cell? ⟨wr.heap.size, 2, none⟩ = some (.int .i64 f2) := by rw [hwn]; go_simp
          have n3 : wn.cell? ⟨wr.heap.size, 3, none⟩ = some (.int .i64 t2) := by rw [hwn]; go_simp
          rw [← hwn]
          clear hwn hbn p0 p1 p2 p3 q0 q1 q2 q3 q4 ei
          go_wp2
          go_roundw
          case rel => exact ⟨m + 1, by omega, by go_num, by rw [HN.out], Hbn.out⟩
          case measure => simp [intOf]; omega
        · have hme : m = X.length := by omega
          subst hme
          rw [HBS.out]
          rw [HBS.out] at hsr
          have hnm : ¬ (X.length : Int) < (X.length : Int) := by omega
          obtain ⟨BK, hBK⟩ : ∃ x, x = badK ⟨lb', W, L, ds, ps⟩ g ps.length := ⟨_, rfl⟩
          rw [← hBK] at hsr HZ5 HB5 ⊢
          obtain ⟨LV, hLV⟩ : ∃ x, x = W * L - areaL ps ps.length := ⟨_, rfl⟩
          rw [← hLV] at HZ5 HB5
          have HV := Lib.hid (show (if vCuts W L ds ps = true then W * L - areaL ps ps.length else -1) = LV by rw [if_pos Hcut.out, hLV])
          obtain ⟨WL, hWL⟩ : ∃ x, W * L = x := ⟨_, rfl⟩
          rw [hWL] at HB5 har
          have HWL := Lib.hid hWL
          clear hBK hLV hWL
          go_wp2_with fail
          refine (AreaLeft_any _ _ _ _ W L _ _ ds ps wr hTd2 (by omega) hTp2 (by omega)).mono ?_
          rw [HV.out]
          rintro e wz ⟨rfl, bz⟩
          have Hbz := Lib.hid (((Hwb.out.trans (Hbv.out.mono (by omega))).trans (bz.mono (by omega))))
          replace x0 := keepB bz x0; replace x1 := keepB bz x1; replace x2 := keepB bz x2; replace x3 := keepB bz x3; replace v0 := keepB bz v0; replace v1 := keepB bz v1; replace v2 := keepB bz v2; replace v3 := keepB bz v3; replace v4 := keepB bz v4; replace v5 := keepB bz v5; replace v6 := keepB bz v6; replace o0 := keepB bz o0; replace o1 := keepB bz o1; replace o2 := keepB bz o2; replace o3 := keepB bz o3; replace q0 := keepB bz q0; replace q1 := keepB bz q1; replace q2 := keepB bz q2; replace q3 := keepB bz q3; replace q4 := keepB bz q4
          have hz5 := HZ5.out
          have hb5 := HB5.out
          have hl5 := HL.out
          have c1 : (z5 == z + LV + BK) = true := beq_t (by omega)
          have c2 : (b5 == b + WL - LV - BK) = true := beq_t (by omega)
          have c3 : ((es5.length : Int) == (es.length : Int) - 1) = true := beq_t (by omega)
          have g1 : wrap64 (z + LV) = z + LV := w64 (by omega)
          have g2 : wrap64 (z + LV + BK) = z + LV + BK := w64 (by omega)
          have g3 : W * L = WL := HWL.out
          have g4 : wrap64 WL = WL := w64 (by omega)
          have g5 : wrap64 (b + WL) = b + WL := w64 (by omega)
          have g6 : wrap64 (b + WL - LV) = b + WL - LV := w64 (by omega)
          have g7 : wrap64 (b + WL - LV - BK) = b + WL - LV - BK := w64 (by omega)
          clear bz hz5 hb5 hl5 hTd2 hTp2 hint2 hsr
          go_wp2
          go_ret
          exact ⟨rfl, HB7.out.trans (Hbz.out.mono (by omega))⟩
end Go.Proofs.Ytcebdokdekgeaaa
