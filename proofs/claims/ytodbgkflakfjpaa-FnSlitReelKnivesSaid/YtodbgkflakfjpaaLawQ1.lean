/-
  Lemmas and contracts of single functions of this program, used by the proofs of its laws: what each call returns and what becomes of memory. Conditions: the hypotheses of each theorem.
-/
import Derived.Test.YtodbgkflakfjpaaSlitP
import Derived.Test.YtodbgkflakfjpaaDrawU
namespace Go.Proofs.Ytodbgkflakfjpaa
open Go.RowKit
attribute [local go_sem ↓] Go.wp_at_zero Go.wp_at_succ

set_option maxRecDepth 100000 in
set_option maxHeartbeats 4000000 in
theorem FnSlitReelKnives_walk (v : Value) (xs : List Int) (w : World) (h : Bytes w 0 w.heap.size v xs) :
    Calls Try.prog 8 #[v] w fun e w' => e = .returned (.bool true) ∧ Below w.heap.size w w' := by
  have hv : ∃ A c, v = .slice A xs.length c ∧ xs.length ≤ c ∧ c ≤ 2 ^ 63 - 1 := by obtain ⟨A, c, e, h1, h2, _⟩ := h; exact ⟨A, c, e, h1, by unfold maxLen at h2; omega⟩
  obtain ⟨A0, c0, rfl, hc0, hm0⟩ := hv
  by_cases hl : 1048576 < xs.length
  · have hl' : (1048576 : Int) < (xs.length : Int) := by omega
    go_enter Try.func8, Try.ntmps8
    go_wp2
    go_ret
    exact ⟨rfl, Below.refl _ _⟩
  · have hl' : ¬ (1048576 : Int) < (xs.length : Int) := by omega
    go_enter Try.func8, Try.ntmps8
    go_wp2_with fail
    refine (DrawSlitReel_any _ xs w h).mono ?_
    rintro e w1 ⟨W, L, u, vw, vc, ds, ws, cs, fr, til, rfl, ou, ow, oc, hfr, htil, b1⟩
    obtain ⟨A, c, rfl, hc, hm⟩ := ou.form
    obtain ⟨A2, c2, rfl, hc2, hm2⟩ := ow.form
    obtain ⟨A3, c3, rfl, hc3, hm3⟩ := oc.form
    have hs1 := b1.size
    clear h hl hl'
    go_wp2_with fail
    obtain ⟨w2, hw1⟩ : ∃ w2, w2 = w1.alloc (.cells #[.int .i64 W, .int .i64 L, .slice A ds.length c] 30) := ⟨_, rfl⟩
    have x0 : w2.cell? ⟨w1.heap.size, 0, none⟩ = some (.int .i64 W) := by rw [hw1]; go_simp
    have x1 : w2.cell? ⟨w1.heap.size, 1, none⟩ = some (.int .i64 L) := by rw [hw1]; go_simp
    have x2 : w2.cell? ⟨w1.heap.size, 2, none⟩ = some (.slice A ds.length c) := by rw [hw1]; go_simp
    have bx : Below w1.heap.size w1 w2 := by rw [hw1]; exact (Below.refl _ _).alloc (Nat.le_refl _) _
    have zx : w1.heap.size < w2.heap.size := by rw [hw1]; simp
    rw [← hw1]
    clear hw1
    have B2 := b1.trans (bx.mono hs1)
    replace ou := ou.kept (.of_below bx (Nat.le_refl _))
    replace ow := ow.kept (.of_below bx (Nat.le_refl _))
    replace oc := oc.kept (.of_below bx (Nat.le_refl _))
    clear bx b1
    obtain ⟨R, hR⟩ : ∃ R, R = slL W L ds ws cs fr til := ⟨_, rfl⟩
    have HR := Lib.hid hR
    clear hR
    refine (SlitReel_any _ _ _ _ _ _ W L _ _ _ ds ws cs fr til w2 ou.ts (Nat.le_refl _) ow.ints (Nat.le_refl _) oc.ints (Nat.le_refl _) hfr htil).mono ?_
    rw [← HR.out]
    rintro e w3 ⟨vo, rfl, oo, b⟩
    have s3 := b.size
    have B3 := B2.trans (b.mono (by omega))
    replace x0 := keepB b x0; replace x1 := keepB b x1; replace x2 := keepB b x2
    replace ou := ou.kept (.of_below b (Nat.le_refl _))
    replace ow := ow.kept (.of_below b (Nat.le_refl _))
    replace oc := oc.kept (.of_below b (Nat.le_refl _))
    obtain ⟨A4, c4, rfl, hc4, hm4⟩ := oo.form
    clear b B2
    go_wp2_with fail
    refine (sSlitReel_any _ _ _ _ _ _ W L _ _ _ ds ws cs fr til w3 ou.ts (Nat.le_refl _) ow.ints (Nat.le_refl _) oc.ints (Nat.le_refl _) hfr htil).mono ?_
    rw [← HR.out]
    rintro e w4 ⟨vs, rfl, os, b⟩
    have s4 := b.size
    have B4 := B3.trans (b.mono (by omega))
    replace x0 := keepB b x0; replace x1 := keepB b x1; replace x2 := keepB b x2
    replace ou := ou.kept (.of_below b (Nat.le_refl _))
    replace ow := ow.kept (.of_below b (Nat.le_refl _))
    replace oc := oc.kept (.of_below b (Nat.le_refl _))
    replace oo := oo.kept (.of_below b (Nat.le_refl _))
    clear b B3
    go_wp2_with fail
    refine (equalParts_same _ _ _ _ _ _ R w4 oo.ts os.ts).mono ?_
    rintro e w5 ⟨rfl, q⟩
    have b := q.below w4.heap.size
    have s5 := b.size
    have B5 := B4.trans (b.mono (by omega))
    replace x0 := keepB b x0; replace x1 := keepB b x1; replace x2 := keepB b x2
    replace ou := ou.kept (.of_below b (Nat.le_refl _))
    replace ow := ow.kept (.of_below b (Nat.le_refl _))
    replace oc := oc.kept (.of_below b (Nat.le_refl _))
    replace oo := oo.kept (.of_below b (Nat.le_refl _))
    clear b q B4 os
    by_cases h0 : R.length = 0
    · have e0 : ((R.length : Int) == 0) = true := beq_t (by omega)
      clear h0
      go_wp2_with fail
      refine (sSlitReel_any _ _ _ _ _ _ W L _ _ _ ds ws cs fr til w5 ou.ts (Nat.le_refl _) ow.ints (Nat.le_refl _) oc.ints (Nat.le_refl _) hfr htil).mono ?_
      rw [← HR.out]
      rintro e w6 ⟨vs2, rfl, os2, b⟩
      have s6 := b.size
      have B6 := B5.trans (b.mono (by omega))
      replace oo := oo.kept (.of_below b (Nat.le_refl _))
      go_wp2_with fail
      refine (equalParts_same _ _ _ _ _ _ R w6 oo.ts os2.ts).mono ?_
      rintro e w7 ⟨rfl, q⟩
      go_wp2
      go_ret
      exact ⟨rfl, B6.trans ((q.below w6.heap.size).mono (by omega))⟩
    · have e0 : ((R.length : Int) == 0) = false := beq_f (by omega)
      have HC := Lib.hid (show vReel W L ds = true ∧ vPat W ws cs = true ∧ 0 ≤ fr ∧ fr < til ∧ til ≤ L by
        apply Classical.byContradiction
        intro hn
        rw [HR.out, slL_no hn] at h0
        exact h0 rfl)
      have HR2 := Lib.hid (show R = slitT ws cs fr til cs.length by rw [HR.out]; exact slL_yes HC.out)
      have hpos : 0 < R.length := by omega
      have HK := Lib.hid (show knL W ws cs = if R.length + 1 ≤ 24 then rgt R else [] by rw [HR2.out]; exact kn_slit fr til HC.out.2.1 (by rw [← HR2.out]; exact hpos))
      have HCh := Lib.hid (show Ch fr til R (usedL ws cs cs.length) by rw [HR2.out]; exact slit_ch fr til HC.out.2.1 (Nat.le_refl _))
      have hR60 := slL_len W L ds ws cs fr til
      rw [← HR.out] at hR60
      clear h0
      go_wp2_with fail
      clear e0
      refine (KnivesFor_any _ _ _ _ W _ _ ws cs w5 ow.ints (Nat.le_refl _) oc.ints (Nat.le_refl _)).mono ?_
      rintro e w6 ⟨vk, rfl, ok, b⟩
      have s6 := b.size
      have B6 := B5.trans (b.mono (by omega))
      replace oo := oo.kept (.of_below b (Nat.le_refl _))
      obtain ⟨K, hK⟩ : ∃ K, K = knL W ws cs := ⟨_, rfl⟩
      rw [← hK] at ok HK
      obtain ⟨A6, c6, rfl, hc6, hm6⟩ := ok.form
      clear b B5 ou ow oc x0 x1 x2 hK
      by_cases h24 : R.length + 1 ≤ 24
      · have HK2 := Lib.hid (show K = rgt R by rw [HK.out, if_pos h24])
        have hKl : K.length = R.length + 1 := by rw [HK2.out, rgt_len]
        have HKl := Lib.hid hKl
        have e0 : (((R.length + 1 : Nat) : Int) == 0) = false := beq_f (by omega)
        have hTo := oo.ts
        have hIk := ok.ints
        rw [hKl] at hIk hc6 ⊢
        clear hKl oo ok
        go_wp2
        go_loopw [10] (fun i wr => ∃ k : Nat, k ≤ R.length ∧ i = .int .i64 k ∧ Qt w6 wr) (fun i _ => R.length - (intOf i).toNat)
        case atStart => exact ⟨0, by omega, rfl, Qt.refl _⟩
        case round =>
          obtain ⟨k, hk, rfl, hq⟩ := hrel
          by_cases hlt : k < R.length
          · have hch := HCh.out.at_ k hlt
            have hrs := rgt_succ hlt
            rw [← HK2.out] at hch hrs
            obtain ⟨b1, o1, rfl, _, _, e0, e1, e2, e3⟩ := (hTo.qt hq).c4 hlt
            have hk2 : k < K.length := by rw [HKl.out]; omega
            have hk3 : k + 1 < K.length := by rw [HKl.out]; omega
            obtain ⟨b2, o2, rfl, _, _, f0, _⟩ := (hIk.qt hq).cell (k := k) hk2
            have f1 := (hIk.qt hq).cell' (k := k + 1) hk3
            rw [← hch.1] at f0
            rw [hrs] at f1
            rw [hch.2.1] at e2
            rw [hch.2.2] at e3
            obtain ⟨y0, hy0⟩ : ∃ y, y = gi (gr R k) 0 := ⟨_, rfl⟩
            obtain ⟨y1, hy1⟩ : ∃ y, y = gi (gr R k) 1 := ⟨_, rfl⟩
            rw [← hy0] at e0 f0
            rw [← hy1] at e1 f1
            have n0 : (y0 != y0) = false := bne_f rfl
            have n1 : (y1 != y1) = false := bne_f rfl
            have n2 : (fr != fr) = false := bne_f rfl
            have n3 : (til != til) = false := bne_f rfl
            have hk0 : (0 : Int) ≤ (k : Int) := by omega
            have hk1 : (k : Int) < (R.length : Int) := by omega
            have hk4 : (k : Int) < (R.length : Int) + 1 := by omega
            have hk5 : (0 : Int) ≤ (k : Int) + 1 := by omega
            have hk6 : (k : Int) + 1 < (R.length : Int) + 1 := by omega
            have hk7 : ((k : Int) + 1).toNat = k + 1 := by omega
            have g1 : IntKind.i64.wrap ((k : Int) + 1) = (k : Int) + 1 := IntWalk.i64_in _ (by omega)
            clear hch hrs hy0 hy1 hk2 hk3
            go_wp2
            go_region_held3 (fun w' => w'.cell? ⟨b1, o1 + k * 4, none⟩ = some (.int .i64 y0) ∧ w'.cell? ⟨b1, o1 + k * 4 + 1, none⟩ = some (.int .i64 y1) ∧ w'.cell? ⟨b1, o1 + k * 4 + 2, none⟩ = some (.int .i64 fr) ∧ w'.cell? ⟨b1, o1 + k * 4 + 3, none⟩ = some (.int .i64 til) ∧ w'.cell? ⟨b2, o2 + k, none⟩ = some (.int .i64 y0) ∧ w'.cell? ⟨b2, o2 + (k + 1), none⟩ = some (.int .i64 y1)) (first | go_keep | (go_split_ands; refine ⟨?_, ?_, ?_, ?_, ?_, ?_⟩ <;> first | exact keepB bx5 (by assumption) | exact keepB bx4 (by assumption) | exact keepB bx3 (by assumption) | exact keepB bx2 (by assumption) | exact keepB bx1 (by assumption))) (fail)
            clear g1 hk7
            go_wp2
            go_roundw
            case rel => exact ⟨k + 1, by omega, by go_num, hq.trans (Qt.one _ 1)⟩
            case measure => simp [intOf]; omega
          · have e2 : (((R.length + 1 : Nat) : Int) == (R.length : Int) + 1) = true := beq_t (by omega)
            go_wp2
            go_ret
            exact ⟨ret_bool (by simp), B6.trans ((hq.below w6.heap.size).mono (by omega))⟩
      · have HK2 := Lib.hid (show K = [] by rw [HK.out, if_neg h24])
        have e0 : ((K.length : Int) == 0) = true := beq_t (by rw [HK2.out]; rfl)
        have e1 : (24 : Int) < (R.length : Int) + 1 := by omega
        go_wp2
        go_ret
        exact ⟨rfl, B6⟩
end Go.Proofs.Ytodbgkflakfjpaa
