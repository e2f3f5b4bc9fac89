/-
  Lemmas and contracts of single functions of this program, used by the proofs of its laws: what each call returns and what becomes of memory. Conditions: the hypotheses of each theorem.
-/
import Derived.Test.YteckjiaaikdghaaNearR
namespace Go.Proofs.Yteckjiaaikdghaa
open Go.RowKit
attribute [local go_sem ↓] Go.wp_at_zero Go.wp_at_succ

set_option maxRecDepth 100000 in
set_option maxHeartbeats 8000000 in
theorem FnBestOrder_walk (v : Value) (xs : List Int) (w : World) (h : Bytes w 0 w.heap.size v xs) :
    Calls Try.prog 7 #[v] w fun e w' => e = .returned (.bool true) ∧ Below w.heap.size w w' := by
  have hv : ∃ A c, v = .slice A xs.length c ∧ xs.length ≤ c ∧ c ≤ 2 ^ 63 - 1 := by obtain ⟨A, c, e, h1, h2, _⟩ := h; exact ⟨A, c, e, h1, by unfold maxLen at h2; omega⟩
  obtain ⟨A0, c0, rfl, hc0, hm0⟩ := hv
  by_cases hl : 1048576 < xs.length
  · have hl' : (1048576 : Int) < (xs.length : Int) := by omega
    go_enter Try.func7, Try.ntmps7
    go_wp2
    go_ret
    exact ⟨rfl, Below.refl _ _⟩
  have hl' : ¬ (1048576 : Int) < (xs.length : Int) := by omega
  go_enter Try.func7, Try.ntmps7
  go_wp2_with fail
  refine (DrawBestOrder_any _ xs w h).mono ?_
  rintro e w1 ⟨u1, L, rfl, hi1, b1⟩
  obtain ⟨A1, c1, rfl, hc1, hm1⟩ := hi1.form
  have HB1 := Lib.hid b1
  have HP := Lib.hid (hi1.wide (Nat.zero_le _) (Nat.le_refl _))
  have hz1 := b1.size
  clear h hl hl' b1 hi1
  obtain ⟨R, hR⟩ : ∃ R, R = boL L := ⟨_, rfl⟩
  have HR := Lib.hid hR
  clear hR
  go_wp2_with fail
  refine (BestOrder_any _ _ _ L w1 HP.out (Nat.le_refl _)).mono ?_
  rw [← HR.out]
  rintro e w2 ⟨vo, rfl, oo, b⟩
  obtain ⟨A3, c3, rfl, hc3, hm3⟩ := oo.form
  have HO := Lib.hid oo.ints
  have HB2 := Lib.hid b
  have hz2 := b.size
  clear oo b
  go_wp2_with fail
  refine (sBestOrder_any _ _ _ L w2 (HP.out.below HB2.out (Nat.le_refl _)) hz2).mono ?_
  rw [← HR.out]
  rintro e w3 ⟨vs, rfl, os, b⟩
  obtain ⟨A4, c4, rfl, hc4, hm4⟩ := os.form
  have HS := Lib.hid os
  have HO3 := Lib.hid (HO.out.below b (Nat.le_refl _))
  have HB3 := Lib.hid (HB2.out.trans (b.mono hz2))
  have hz3 := b.size
  clear os b
  go_wp2_with fail
  refine (equalInts_any _ _ _ _ _ _ R R w3 HO3.out HS.out).mono ?_
  rw [eqL_same]
  rintro e w4 ⟨rfl, q⟩
  have HB4 := Lib.hid (HB3.out.trans (q.below _))
  have HO4 := Lib.hid (HO3.out.qt q)
  have hz4 := (q.below w3.heap.size).size
  clear q HS HO3 HO
  by_cases h0 : R.length = 0
  · have h1 : ((R.length : Int) == 0) = true := beq_t (by omega)
    have H0 := Lib.hid h0
    clear h0
    go_wp2_with fail
    refine (sBestOrder_any _ _ _ L w4 (HP.out.below HB4.out (Nat.le_refl _)) (by omega)).mono ?_
    rw [← HR.out]
    rintro e w5 ⟨vs, rfl, os, b⟩
    have hfs := os.form
    obtain ⟨A5, c5, rfl, hc5, hm5⟩ := hfs
    have HS := Lib.hid os
    have HO5 := Lib.hid (HO4.out.below b (by omega))
    have HB5 := Lib.hid (HB4.out.trans (b.mono (by omega)))
    clear os b
    go_wp2_with fail
    refine (equalInts_any _ _ _ _ _ _ R R w5 HO5.out HS.out).mono ?_
    rw [eqL_same]
    rintro e w6 ⟨rfl, q⟩
    have HB6 := Lib.hid (HB5.out.trans (q.below _))
    clear q HS HO5
    go_wp2
    go_ret
    exact ⟨rfl, HB1.out.trans (HB6.out.mono hz1)⟩
  have h1 : ((R.length : Int) == 0) = false := beq_f (by omega)
  have hsome := boL_some (L := L) (by rw [← HR.out]; intro e; rw [e] at h0; exact h0 rfl)
  rw [← HR.out] at hsome
  obtain ⟨hvs, hL5, hL0, hRl, hRb, hRm⟩ := hsome
  have HV := Lib.hid hvs
  have HRL := Lib.hid hRl
  have HRB := Lib.hid hRb
  have HRM := Lib.hid hRm
  have hR5 : R.length ≤ 5 := by omega
  have H0 := Lib.hid h0
  clear hvs hRl hRb hRm h0
  go_wp2_with fail
  refine (CostOf_any _ _ _ _ _ _ L R w4 (HP.out.below HB4.out (Nat.le_refl _)) (by omega) HO4.out (by omega) HV.out HRB.out HRL.out).mono ?_
  rintro e au ⟨rfl, bu⟩
  obtain ⟨s, hs⟩ : ∃ s, s = cstL L R := ⟨_, rfl⟩
  rw [← hs]
  have HMIN := Lib.hid (show ∀ o, Begun L.length o → o.length = L.length → s ≤ cstL L o from fun o ho hl => by rw [hs]; exact HRM.out o ho hl)
  have HS0 := Lib.hid (show 0 ≤ s by
    rw [hs]
    exact (cstK_rng HV.out (fun j hj => by obtain ⟨i, hi, hin⟩ := begun_at HRB.out hj; rw [hi, Int.toNat_natCast]; exact hin) _ (by have := HRL.out; omega)).1)
  have HBu := Lib.hid (HB4.out.trans (bu.mono (by omega)))
  have HXi := Lib.hid (HO4.out.below bu (by omega))
  have hzu : w1.heap.size ≤ au.heap.size := HBu.out.size
  have hzw : w2.heap.size ≤ au.heap.size := by have := bu.size; omega
  have HA1 := Lib.hid (Below.refl au.heap.size au)
  clear hs bu
  go_wp2
  go_loopw [6] (fun i wr => ∃ (k : Nat), k ≤ R.length ∧ i = .int .i64 k ∧ Hid (Below au.heap.size au wr)) (fun i _ => R.length - (intOf i).toNat)
  case atStart => exact ⟨0, Nat.zero_le _, rfl, HA1.out⟩
  case round =>
    obtain ⟨i, hi, rfl, HBi⟩ := hrel
    clear HA1
    obtain ⟨wi, rfl⟩ : ∃ wi : World, wi = wr := ⟨_, rfl⟩
    by_cases hlt : i < R.length
    · have hi1 : (i : Int) < (R.length : Int) := by omega
      go_wp2
      go_loopw [7, 8] (fun j _ wr => ∃ (k : Nat), k ≤ i ∧ j = .int .i64 k ∧ Hid (Below au.heap.size au wr)) (fun j _ _ => i - (intOf j).toNat)
      case atStart => exact ⟨0, Nat.zero_le _, rfl, HBi.out⟩
      case round =>
        obtain ⟨j, hj, rfl, HBj⟩ := hrel
        clear HBi
        have hzj := HBj.out.size
        by_cases hjt : j < i
        · have hj1 : (j : Int) < (i : Int) := by omega
          have HXj := Lib.hid (HXi.out.below HBj.out hzw)
          have HXa := Lib.hid ((HXj.out).kept (w' := wr.alloc (.cells #[] 3)) fun k _ hk => Below.heap_alloc wr _ k (by omega))
          have hjX : j < R.length := by omega
          have HPj := Lib.hid (HBu.out.trans (HBj.out.mono hzu))
          go_wp2_with (at_builtin; refine wpList_appendIs SlI _ rfl (.tmp 44) (.tmp 45) rfl _ _ _ wr.heap.size _ [] _ rfl rfl (OwnI.empty _ _ _ (Nat.le_refl _)) HXa.out (by rw [List.length_nil]; omega) (by simp) ?_; intro v' w6 ho6 hg6; rw [List.nil_append] at ho6; have hf6 := ho6.form; obtain ⟨A6, c6, hv6, hc6, _⟩ := hf6; subst hv6; have HO6 := Lib.hid ho6; have HB6 := Lib.hid (((Below.refl wr.heap.size wr).alloc (Nat.le_refl _) (.cells #[] 3)).trans hg6.below); clear ho6 hg6; have HX6 := Lib.hid (HXj.out.below HB6.out (by omega)); obtain ⟨b, o, hA5, hbl, hbh, xi, xi64⟩ := HX6.out.cell hlt; subst hA5; have xj := HX6.out.cell' hjX; obtain ⟨g, hg, hgl, hgh, oi, fi, hst⟩ := HO6.out.at_ hlt; subst hg; have xj64 := gi_i64 HX6.out.i64 j; have hZ := Lib.hid (show (R.set i (gi R j)).set j (gi R i) = swpO R i j from rfl); obtain ⟨xI, hxI⟩ : ∃ x, x = gi R i := ⟨_, rfl⟩; obtain ⟨xJ, hxJ⟩ : ∃ x, x = gi R j := ⟨_, rfl⟩; rw [← hxI] at xi xi64 hZ oi; rw [← hxJ] at xj xj64 hZ; have HO7 := Lib.hid (hst xJ xj64); obtain ⟨g', hg', _, _, oj, fj, hst2⟩ := HO7.out.at_ (i := j) (by simpa using hjX); simp only [Option.some.injEq, Addr.mk.injEq, and_true] at hg'; subst hg'; have HO8 := Lib.hid (hst2 xI xi64); have hbg : b ≠ g := (by omega); have xi7 : (w6.setCell ⟨g, i, none⟩ (.int .i64 xJ)).cell? ⟨b, o + i, none⟩ = some (.int .i64 xI) := (World.cell?_of_block (Below.heap_setCell w6 ⟨g, i, none⟩ (.int .i64 xJ) b hbg)).trans xi; have hi0 : (0 : Int) ≤ (i : Int) := (by omega); have hj0 : (0 : Int) ≤ (j : Int) := (by omega); have hj2 : (j : Int) < (R.length : Int) := (by omega); have HB8 := Lib.hid ((HB6.out.setCell (p := ⟨g, i, none⟩) hgl (.int .i64 xJ)).setCell (p := ⟨g, j, none⟩) hgl (.int .i64 xI)); clear hst hst2 hxI hxJ HO6)
          obtain ⟨w8, hw8⟩ : ∃ w8, w8 = (w6.setCell ⟨g, i, none⟩ (.int .i64 xJ)).setCell ⟨g, j, none⟩ (.int .i64 xI) := ⟨_, rfl⟩
          rw [← hw8] at HO8 HB8 ⊢
          clear hw8 oi fi oj fj xi xj xi7 HO7 HX6
          obtain ⟨Z, hZe⟩ : ∃ Z, Z = swpO R i j := ⟨_, rfl⟩
          have hZl : Z.length = R.length := by rw [hZe, swp_len]
          have HZi := Lib.hid (show Ints w8 wr.heap.size w8.heap.size (.slice (some ⟨g, 0, none⟩) R.length c6) Z by
            have := HO8.out.ints
            rw [hZ.out, ← hZe] at this
            exact this)
          have HSB := Lib.hid (show Begun L.length Z by rw [hZe]; exact swp_begun HRB.out hlt hjX)
          have HSL := Lib.hid (show Z.length = L.length by rw [hZl]; exact HRL.out)
          have HZM := Lib.hid (HMIN.out _ HSB.out HSL.out)
          have HPk := Lib.hid (HPj.out.trans (HB8.out.mono HPj.out.size))
          clear hZe hZ HO8 hZl
          refine (CostOf_any _ _ _ _ _ _ L Z w8 (HP.out.below HPk.out (Nat.le_refl _)) HPk.out.size HZi.out (Nat.le_refl _) HV.out HSB.out HSL.out).mono ?_
          rintro e az ⟨rfl, bz⟩
          obtain ⟨z, hz⟩ : ∃ z, z = cstL L Z := ⟨_, rfl⟩
          rw [← hz]
          have hzs : ¬ z < s := by have := HZM.out; omega
          have HBz := Lib.hid (HBj.out.trans ((HB8.out.trans (bz.mono HB8.out.size)).mono (by omega)))
          clear hz HZM bz
          go_wp2
          go_roundw
          case rel => exact ⟨j + 1, hjt, by go_num, HBz.out⟩
          case measure => simp [intOf]; omega
        · have hnj : ¬ (j : Int) < (i : Int) := by omega
          go_wp2
          go_roundw
          case rel => exact ⟨i + 1, hlt, by go_num, HBj.out⟩
          case measure => simp [intOf]; omega
    · have hni2 : ¬ (i : Int) < (R.length : Int) := by omega
      have hs0 : s ≥ 0 := HS0.out
      have HPi := Lib.hid (HBu.out.trans (HBi.out.mono hzu))
      go_wp2_with fail
      refine (NearestOrder_any _ _ _ L wi (HP.out.below HPi.out (Nat.le_refl _)) HPi.out.size HV.out hL0).mono ?_
      rintro e an ⟨vn, on, rfl, hin, hnb, hnl, bn⟩
      obtain ⟨An, cn, hvn, _, _⟩ := hin.form
      subst hvn
      have HIN := Lib.hid hin
      have HNB := Lib.hid hnb
      have HNL := Lib.hid hnl
      have HBn := Lib.hid (HPi.out.trans (bn.mono HPi.out.size))
      have HNM := Lib.hid (HMIN.out _ hnb hnl)
      clear hin hnb hnl bn
      go_wp2_with fail
      refine (CostOf_any _ _ _ _ _ _ L on an (HP.out.below HBn.out (Nat.le_refl _)) HBn.out.size HIN.out (Nat.le_refl _) HV.out HNB.out HNL.out).mono ?_
      rintro e ao ⟨rfl, bo⟩
      obtain ⟨z, hz⟩ : ∃ z, z = cstL L on := ⟨_, rfl⟩
      rw [← hz]
      have hzs : s ≤ z := by have := HNM.out; omega
      have HBo := Lib.hid (HBn.out.trans (bo.mono HBn.out.size))
      clear hz bo HNM HIN
      go_wp2
      go_ret
      exact ⟨rfl, HB1.out.trans (HBo.out.mono hz1)⟩
end Go.Proofs.Yteckjiaaikdghaa
