/-
  Lemmas and contracts of single functions of this program, used by the proofs of its laws: what each call returns and what becomes of memory. Conditions: the hypotheses of each theorem.
-/
import Derived.Test.YteckjiaaikdghaaDrwR
import Derived.Test.YteckjiaaikdghaaLsS
namespace Go.Proofs.Yteckjiaaikdghaa
open Go.RowKit
attribute [local go_sem ↓] Go.wp_at_zero Go.wp_at_succ

/-- two places of an order changed -/
def swpO (R : List Int) (i k : Nat) : List Int := (R.set i (gi R k)).set k (gi R i)
theorem gi_ext {a b : List Int} (hl : a.length = b.length) (h : ∀ i, i < a.length → gi a i = gi b i) : a = b := by
  apply List.ext_getElem hl
  intro i h1 h2
  have := h i h1
  rwa [gi_eq h1, gi_eq h2] at this
theorem swp_len (R : List Int) (i k : Nat) : (swpO R i k).length = R.length := by unfold swpO; simp
theorem gi_swp {R : List Int} {i k : Nat} (hi : i < R.length) (hk : k < R.length) (j : Nat) : gi (swpO R i k) j = if j = k then gi R i else if j = i then gi R k else gi R j := by
  unfold swpO
  by_cases h1 : j = k
  · subst h1; rw [if_pos rfl, gi_set_eq (by simpa using hk)]
  · rw [if_neg h1, gi_set_ne (fun e => h1 e.symm)]
    by_cases h2 : j = i
    · subst h2; rw [if_pos rfl, gi_set_eq hi]
    · rw [if_neg h2, gi_set_ne (fun e => h2 e.symm)]
theorem nodup_gi {R : List Int} (h : R.Nodup) {i j : Nat} (hi : i < R.length) (hj : j < R.length) (hne : i ≠ j) : gi R i ≠ gi R j := by
  rw [gi_eq hi, gi_eq hj]
  have hp := List.pairwise_iff_getElem.1 (List.nodup_iff_pairwise_ne.1 h)
  rcases Nat.lt_or_gt_of_ne hne with h1 | h1
  · exact hp i j hi hj h1
  · exact (hp j i hj hi h1).symm
theorem nodup_of_gi {R : List Int} (h : ∀ i j, i < R.length → j < R.length → i ≠ j → gi R i ≠ gi R j) : R.Nodup := by
  rw [List.nodup_iff_pairwise_ne, List.pairwise_iff_getElem]
  intro i j hi hj hij e
  exact h i j hi hj (by omega) (by rw [gi_eq hi, gi_eq hj]; exact e)
theorem swp_begun {n : Nat} {R : List Int} {i k : Nat} (h : Begun n R) (hi : i < R.length) (hk : k < R.length) : Begun n (swpO R i k) := by
  refine ⟨nodup_of_gi fun a b ha hb hab => ?_, fun x hx => ?_⟩
  · rw [swp_len] at ha hb
    rw [gi_swp hi hk, gi_swp hi hk]
    have d := fun p q hp hq hpq => nodup_gi h.1 (i := p) (j := q) hp hq hpq
    by_cases a1 : a = k
    · subst a1
      rw [if_pos rfl, if_neg (by omega)]
      split
      · rename_i e; subst e; exact d _ _ hi hk (by omega)
      · exact d _ _ hi hb (by omega)
    · rw [if_neg a1]
      by_cases b1 : b = k
      · subst b1
        rw [if_pos rfl]
        split
        · rename_i e; subst e; exact d _ _ hk hi (by omega)
        · exact d _ _ ha hi (by omega)
      · rw [if_neg b1]
        by_cases a2 : a = i
        · subst a2
          rw [if_pos rfl, if_neg (by omega)]
          exact d _ _ hk hb (by omega)
        · rw [if_neg a2]
          split
          · exact d _ _ ha hk (by omega)
          · exact d _ _ ha hb hab
  · obtain ⟨j, hj, rfl⟩ := List.mem_iff_getElem.1 hx
    rw [← gi_eq hj, gi_swp hi hk]
    rw [swp_len] at hj
    have d : ∀ p, p < R.length → 0 ≤ gi R p ∧ gi R p < (n : Int) := fun p hp => h.2 _ (by rw [gi_eq hp]; exact List.getElem_mem hp)
    split
    · exact d _ hi
    · split
      · exact d _ hk
      · exact d _ hj
theorem gi_pick2 {W ord : List Int} {k : Nat} (hk : k < ord.length) : gi (pickO W ord) k = gi W (gi ord k).toNat := by
  unfold pickO
  rw [gi_eq (by rw [List.length_map]; exact hk), List.getElem_map, ← gi_eq hk]
theorem pick_swp {W R : List Int} {i k : Nat} (hi : i < R.length) (hk : k < R.length) : pickO W (swpO R i k) = ((pickO W R).set i (gi (pickO W R) k)).set k (gi (pickO W R) i) := by
  have e : ((pickO W R).set i (gi (pickO W R) k)).set k (gi (pickO W R) i) = swpO (pickO W R) i k := rfl
  rw [e]
  refine gi_ext (by rw [pick_len, swp_len, swp_len, pick_len]) fun j hj => ?_
  rw [pick_len, swp_len] at hj
  rw [gi_pick2 (by rw [swp_len]; exact hj), gi_swp hi hk, gi_swp (by rw [pick_len]; exact hi) (by rw [pick_len]; exact hk), gi_pick2 hi, gi_pick2 hk, gi_pick2 hj]
  split
  · rfl
  · split <;> rfl
/-- the order of the indices, and that order backwards -/
def idO (n : Nat) : List Int := (List.range n).map fun (i : Nat) => (i : Int)
theorem idO_begun (n : Nat) : Begun n (idO n) ∧ (idO n).length = n := by
  refine ⟨⟨List.Pairwise.map _ (fun a b hab => by omega) List.nodup_range, fun x hx => ?_⟩, by simp [idO]⟩
  obtain ⟨i, hi, rfl⟩ := List.mem_map.1 hx
  rw [List.mem_range] at hi
  omega
theorem rev_begun {n : Nat} {R : List Int} (h : Begun n R) : Begun n R.reverse := ⟨(List.reverse_perm R).nodup_iff.2 h.1, fun x hx => h.2 x (List.mem_reverse.1 hx)⟩
theorem pick_rev (W R : List Int) : pickO W R.reverse = (pickO W R).reverse := by unfold pickO; rw [List.map_reverse]
theorem lsL_some {P W : List Int} (h : lsL P W ≠ []) : enL P W 0 = true ∧ W.length ≤ 5 ∧ (lsL P W).length = W.length ∧ Begun W.length (lsL P W) ∧ ∀ o, Begun W.length o → o.length = W.length → cSpl P W (lsL P W) ≤ cSpl P W o := by
  unfold lsL at h ⊢
  split at h
  · rename_i hc
    rw [if_pos hc]
    rcases Nat.eq_zero_or_pos W.length with h0 | h0
    · rw [h0] at h; exact absurd rfl h
    · obtain ⟨b1, b2, b3⟩ := best_least (cSpl P W) h0
      exact ⟨hc.1, hc.2, b1, b2, b3⟩
  · exact absurd rfl h
theorem backwardsR_any (lo hi : Nat) (v : Value) (xs : List Int) (w : World) (h : Ints w lo hi v xs) (hhi : hi ≤ w.heap.size) (hl : xs.length ≤ 1099511627776) :
    Calls Try.prog 31 #[v] w fun e w' => ∃ v', e = .returned v' ∧ OwnI w' w.heap.size 3 v' xs.reverse ∧ Below w.heap.size w w' := by
  obtain ⟨A, c, rfl, hc, hm⟩ := h.form
  go_enter Try.func31, Try.ntmps31
  go_wp2
  go_loopw [3, 4] (fun v i wr => ∃ (k : Nat), k ≤ xs.length ∧ i = .int .i64 ((k : Int) - 1) ∧ OwnI wr w.heap.size 3 v (xs.drop k).reverse ∧ Below w.heap.size w wr) (fun _ i _ => (intOf i + 1).toNat)
  case atStart => exact ⟨xs.length, Nat.le_refl _, rfl, by simpa using OwnI.empty w w.heap.size 3 (Nat.le_refl _), (Below.refl _ _).alloc (Nat.le_refl _) _⟩
  case round =>
    obtain ⟨k, hk, rfl, hown, hb⟩ := hrel
    rcases Nat.eq_zero_or_pos k with h0 | h0
    · have H0 := Lib.hid h0
      have hle : k ≤ 0 := by omega
      clear h0
      go_wp2
      go_ret
      refine ⟨_, rfl, ?_, hb⟩
      rw [H0.out] at hown
      simpa using hown
    · obtain ⟨q, rfl⟩ : ∃ q, k = q + 1 := ⟨k - 1, by omega⟩
      have hlt : q < xs.length := by omega
      obtain ⟨b, o, rfl, hbl, hbh, hcell, h64⟩ := (h.below hb hhi).cell hlt
      have e1 : (((q + 1 : Nat) : Int) - 1) = (q : Int) := by omega
      rw [e1]
      clear e1
      have Ht := Lib.hid (drop_gi hlt)
      have hlen : (xs.drop (q + 1)).reverse.length ≤ 1099511627776 := by rw [List.length_reverse, List.length_drop]; omega
      go_wp2_with (at_builtin; refine wpList_appendI SlI _ rfl (.tmp 13) (.tmp 18) rfl _ w.heap.size _ _ rfl rfl hown h64 hlen hb.size ?_; intro v' w1 hown1 hg)
      go_roundw
      case rel => exact ⟨q, by omega, by go_num, by rw [Ht.out, List.reverse_cons]; exact hown1, hb.trans hg.below⟩
      case measure => simp [intOf] <;> omega
set_option maxRecDepth 100000 in
set_option maxHeartbeats 8000000 in
theorem FnLeastSpliced_walk (v : Value) (xs : List Int) (w : World) (h : Bytes w 0 w.heap.size v xs) :
    Calls Try.prog 6 #[v] w fun e w' => e = .returned (.bool true) ∧ Below w.heap.size w w' := by
  have hv : ∃ A c, v = .slice A xs.length c ∧ xs.length ≤ c ∧ c ≤ 2 ^ 63 - 1 := by obtain ⟨A, c, e, h1, h2, _⟩ := h; exact ⟨A, c, e, h1, by unfold maxLen at h2; omega⟩
  obtain ⟨A0, c0, rfl, hc0, hm0⟩ := hv
  by_cases hl : 1048576 < xs.length
  · have hl' : (1048576 : Int) < (xs.length : Int) := by omega
    go_enter Try.func6, Try.ntmps6
    go_wp2
    go_ret
    exact ⟨rfl, Below.refl _ _⟩
  have hl' : ¬ (1048576 : Int) < (xs.length : Int) := by omega
  go_enter Try.func6, Try.ntmps6
  go_wp2_with fail
  refine (DrawLeastSpliced_any _ xs w h).mono ?_
  rintro e w1 ⟨u1, u2, P, W, rfl, hi1, hi2, b1⟩
  obtain ⟨A1, c1, rfl, hc1, hm1⟩ := hi1.form
  obtain ⟨A2, c2, rfl, hc2, hm2⟩ := hi2.form
  have HB1 := Lib.hid b1
  have HP := Lib.hid (hi1.wide (Nat.zero_le _) (Nat.le_refl _))
  have HW := Lib.hid (hi2.wide (Nat.zero_le _) (Nat.le_refl _))
  have HR1 := Lib.hid (Below.refl w1.heap.size w1)
  have hz1 := b1.size
  clear h hl hl' b1 hi1 hi2
  obtain ⟨R, hR⟩ : ∃ R, R = lsL P W := ⟨_, rfl⟩
  have HR := Lib.hid hR
  clear hR
  go_wp2_with fail
  refine (LeastSpliced_any _ _ _ _ _ _ P W w1 HP.out (Nat.le_refl _) HW.out (Nat.le_refl _)).mono ?_
  rw [← HR.out]
  rintro e w2 ⟨vo, rfl, oo, b⟩
  obtain ⟨A3, c3, rfl, hc3, hm3⟩ := oo.form
  have HO := Lib.hid oo.ints
  have HB2 := Lib.hid b
  have hz2 := b.size
  clear oo b HR1
  go_wp2_with fail
  refine (sLeastSpliced_any _ _ _ _ _ _ P W w2 (HP.out.below HB2.out (Nat.le_refl _)) hz2 (HW.out.below HB2.out (Nat.le_refl _)) hz2).mono ?_
  rw [← HR.out]
  rintro e w3 ⟨vs, rfl, os, b⟩
  obtain ⟨A4, c4, rfl, hc4, hm4⟩ := os.form
  have HS := Lib.hid os
  have HO3 := Lib.hid (HO.out.below b (Nat.le_refl _))
  have HB3 := Lib.hid (HB2.out.trans (b.mono hz2))
  have hz3 := b.size
  clear os b
  go_wp2_with fail
  refine (equalInts_any _ _ _ _ _ _ R R w3 HO3.out HS.out).mono ?_
  rw [eqL_same]
  rintro e w4 ⟨rfl, q⟩
  have HB4 := Lib.hid (HB3.out.trans (q.below _))
  have HO4 := Lib.hid (HO3.out.qt q)
  have hz4 := (q.below w3.heap.size).size
  clear q HS HO3 HO
  by_cases h0 : R.length = 0
  · have h1 : ((R.length : Int) == 0) = true := beq_t (by omega)
    have H0 := Lib.hid h0
    clear h0
    go_wp2_with fail
    refine (sLeastSpliced_any _ _ _ _ _ _ P W w4 (HP.out.below HB4.out (Nat.le_refl _)) (by omega) (HW.out.below HB4.out (Nat.le_refl _)) (by omega)).mono ?_
    rw [← HR.out]
    rintro e w5 ⟨vs, rfl, os, b⟩
    have hfs := os.form
    obtain ⟨A5, c5, rfl, hc5, hm5⟩ := hfs
    have HS := Lib.hid os
    have HO5 := Lib.hid (HO4.out.below b (by omega))
    have HB5 := Lib.hid (HB4.out.trans (b.mono (by omega)))
    clear os b
    go_wp2_with fail
    refine (equalInts_any _ _ _ _ _ _ R R w5 HO5.out HS.out).mono ?_
    rw [eqL_same]
    rintro e w6 ⟨rfl, q⟩
    have HB6 := Lib.hid (HB5.out.trans (q.below _))
    clear q HS HO5
    go_wp2
    go_ret
    exact ⟨rfl, HB1.out.trans (HB6.out.mono hz1)⟩
  have h1 : ((R.length : Int) == 0) = false := beq_f (by omega)
  have hsome := lsL_some (P := P) (W := W) (by rw [← HR.out]; intro e; rw [e] at h0; exact h0 rfl)
  rw [← HR.out] at hsome
  obtain ⟨hen, hW5, hRl, hRb, hRm⟩ := hsome
  have HEN := Lib.hid hen
  have HRL := Lib.hid hRl
  have HRB := Lib.hid hRb
  have HRM := Lib.hid hRm
  have hR5 : R.length ≤ 5 := by omega
  have H0 := Lib.hid h0
  clear hen hRl hRb hRm h0
  have HE0 := Lib.hid (OwnI.empty w4 w4.heap.size 3 (Nat.le_refl _))
  have HF0 := Lib.hid (show Below w4.heap.size w4 (w4.alloc (.cells #[] 3)) from (Below.refl _ _).alloc (Nat.le_refl _) _)
  go_wp2
  go_loopw [6, 7] (fun o i wr => ∃ (k : Nat), k ≤ R.length ∧ i = .int .i64 k ∧ OwnI wr w4.heap.size 3 o (pickO W (R.take k)) ∧ Hid (Below w4.heap.size w4 wr)) (fun _ i _ => R.length - (intOf i).toNat)
  case atStart => exact ⟨0, Nat.zero_le _, rfl, HE0.out, HF0.out⟩
  case round =>
    clear HE0 HF0
    obtain ⟨k, hk, rfl, hown, HBr⟩ := hrel
    have hfo := hown.form
    obtain ⟨A5, c5, rfl, hc5, _⟩ := hfo
    have Hown := Lib.hid hown
    have hzr := HBr.out.size
    clear hown
    by_cases hlt : k < R.length
    · obtain ⟨b3, o3, rfl, _, _, rcell, _⟩ := (HO4.out.below HBr.out (by omega)).cell hlt
      obtain ⟨i, hi9, hiW⟩ := begun_ex HRB.out (gi R k) (by rw [gi_eq hlt]; exact List.getElem_mem hlt)
      rw [hi9] at rcell
      obtain ⟨b2, o2, rfl, _, _, wcell, w64⟩ := ((HW.out.below HB4.out (Nat.le_refl _)).below HBr.out (by omega)).cell hiW
      have HN := Lib.hid (show pickO W (R.take (k + 1)) = pickO W (R.take k) ++ [gi W i] by rw [pickO_snoc hlt, hi9, Int.toNat_natCast])
      obtain ⟨x, hx⟩ : ∃ x, x = gi W i := ⟨_, rfl⟩
      rw [← hx] at wcell w64 HN
      have hk0 : (0 : Int) ≤ (k : Int) := by omega
      have hk1 : (k : Int) < (R.length : Int) := by omega
      have hi0 : (0 : Int) ≤ (i : Int) := by omega
      have hi1 : (i : Int) < (W.length : Int) := by omega
      have hpl : (pickO W (R.take k)).length ≤ 5 := by rw [pick_len, List.length_take]; omega
      clear hx hi9
      go_wp2_with (at_builtin; refine wpList_appendI SlI _ rfl (.tmp 46) (.tmp 54) rfl x w4.heap.size _ _ rfl rfl Hown.out w64 (by omega) hzr ?_; intro v' w6 ho6 hg6; have HO6 := Lib.hid ho6; have HB6 := Lib.hid (HBr.out.trans hg6.below); clear ho6 hg6)
      go_roundw
      case rel => exact ⟨k + 1, hlt, by go_num, by rw [HN.out]; exact HO6.out, HB6.out⟩
      case measure => simp [intOf]; omega
    have hke : k = R.length := by omega
    have hni : ¬ (k : Int) < (R.length : Int) := by omega
    obtain ⟨X, hX⟩ : ∃ X, X = pickO W R := ⟨_, rfl⟩
    have HX := Lib.hid hX
    have HXo := Lib.hid (show OwnI wr w4.heap.size 3 (.slice A5 X.length c5) X by
      have := Hown.out
      rw [hke, List.take_length, ← hX] at this
      exact this)
    have hAX : (pickO W (R.take k)).length = X.length := by rw [hke, List.take_length, hX]
    rw [hAX] at hc5 ⊢
    have hXl : X.length ≤ 5 := by rw [hX, pick_len]; exact hR5
    have HXL := Lib.hid (show X.length = R.length by rw [hX, pick_len])
    have HXE := Lib.hid (show enL P X 0 = true by rw [hX]; exact en_perm (pick_perm HRB.out HRL.out) HEN.out)
    have HBx := Lib.hid (HB4.out.trans (HBr.out.mono (show w1.heap.size ≤ w4.heap.size by omega)))
    clear hX Hown hAX hke
    obtain ⟨wx, rfl⟩ : ∃ wx : World, wx = wr := ⟨_, rfl⟩
    go_wp2_with fail
    refine (SplicesOf_any _ _ _ _ _ _ P X wx (HP.out.below HBx.out (Nat.le_refl _)) (by have := HBx.out.size; omega) HXo.out.ints (by have := HBx.out.size; omega) HXE.out).mono ?_
    rintro e au ⟨vau, yu, rfl, oau, sau, bau⟩
    have hfau := oau.form
    obtain ⟨Aau, cau, hvau, _, _⟩ := hfau
    subst hvau
    have HSu := Lib.hid (show sumI yu yu.length = splT P X by rw [sumI_sum, sau.2.1])
    have HLu := Lib.hid (show yu.length ≤ 1000 by have h1 := sau.1; have h2 := (en_sums HXE.out).2.2.2.1; omega)
    have HQu := Lib.hid (show ∀ i, i < yu.length → -1000 ≤ gi yu i ∧ gi yu i ≤ 1000 from fun i hi => by have := sau.2.2 i (by rw [← sau.1]; exact hi); omega)
    have HBu := Lib.hid (HBx.out.trans (bau.mono HBx.out.size))
    have HKu := Lib.hid bau
    have HIu := Lib.hid oau.ints
    clear oau sau bau
    go_wp2_with fail
    refine (lTotal_anyS _ _ _ yu au HIu.out HLu.out HQu.out).mono ?_
    rintro e w9 ⟨rfl, hw9⟩
    subst hw9
    rw [HSu.out]
    clear HSu HLu HQu HIu
    have HXi := Lib.hid (HXo.out.ints.below HKu.out (Nat.le_refl _))
    have hzx := HBx.out.size
    have hz1a := HKu.out.size
    obtain ⟨s, hs⟩ : ∃ s, s = splT P X := ⟨_, rfl⟩
    rw [← hs]
    have Hs := Lib.hid hs
    have HMIN := Lib.hid (show ∀ o, Begun W.length o → o.length = W.length → s ≤ splT P (pickO W o) from fun o ho hl => by
      have := HRM.out o ho hl
      unfold cSpl at this
      rw [← HX.out] at this
      rw [hs]; exact this)
    have HA1 := Lib.hid (Below.refl au.heap.size au)
    clear hs HXo
    go_wp2
    go_loopw [9] (fun i wr => ∃ (k : Nat), k ≤ X.length ∧ i = .int .i64 k ∧ Hid (Below au.heap.size au wr)) (fun i _ => X.length - (intOf i).toNat)
    case atStart => exact ⟨0, Nat.zero_le _, rfl, HA1.out⟩
    case round =>
      obtain ⟨i, hi, rfl, HBi⟩ := hrel
      clear HA1
      obtain ⟨wi, rfl⟩ : ∃ wi : World, wi = wr := ⟨_, rfl⟩
      by_cases hlt : i < X.length
      · have hi1 : (i : Int) < (X.length : Int) := by omega
        go_wp2
        go_loopw [10, 11] (fun j _ wr => ∃ (k : Nat), k ≤ i ∧ j = .int .i64 k ∧ Hid (Below au.heap.size au wr)) (fun j _ _ => i - (intOf j).toNat)
        case atStart => exact ⟨0, Nat.zero_le _, rfl, HBi.out⟩
        case round =>
          obtain ⟨j, hj, rfl, HBj⟩ := hrel
          clear HBi
          have hzj := HBj.out.size
          by_cases hjt : j < i
          · have hj1 : (j : Int) < (i : Int) := by omega
            have HXj := Lib.hid (HXi.out.below HBj.out hz1a)
            have HXa := Lib.hid ((HXj.out).kept (w' := wr.alloc (.cells #[] 3)) fun k _ hk => Below.heap_alloc wr _ k (by omega))
            have hjX : j < X.length := by omega
            have HPj := Lib.hid ((HBx.out.trans (HKu.out.mono hzx)).trans (HBj.out.mono (by omega)))
            go_wp2_with (at_builtin; refine wpList_appendIs SlI _ rfl (.tmp 71) (.tmp 72) rfl _ _ _ wr.heap.size _ [] _ rfl rfl (OwnI.empty _ _ _ (Nat.le_refl _)) HXa.out (by rw [List.length_nil]; omega) (by simp) ?_; intro v' w6 ho6 hg6; rw [List.nil_append] at ho6; have hf6 := ho6.form; obtain ⟨A6, c6, hv6, hc6, _⟩ := hf6; subst hv6; have HO6 := Lib.hid ho6; have HB6 := Lib.hid (((Below.refl wr.heap.size wr).alloc (Nat.le_refl _) (.cells #[] 3)).trans hg6.below); clear ho6 hg6; have HX6 := Lib.hid (HXj.out.below HB6.out (by omega)); obtain ⟨b, o, hA5, hbl, hbh, xi, xi64⟩ := HX6.out.cell hlt; subst hA5; have xj := HX6.out.cell' hjX; obtain ⟨g, hg, hgl, hgh, oi, fi, hst⟩ := HO6.out.at_ hlt; subst hg; have xj64 := gi_i64 HX6.out.i64 j; have hZ := Lib.hid (show (X.set i (gi X j)).set j (gi X i) = swpO X i j from rfl); obtain ⟨xI, hxI⟩ : ∃ x, x = gi X i := ⟨_, rfl⟩; obtain ⟨xJ, hxJ⟩ : ∃ x, x = gi X j := ⟨_, rfl⟩; rw [← hxI] at xi xi64 hZ oi; rw [← hxJ] at xj xj64 hZ; have HO7 := Lib.hid (hst xJ xj64); obtain ⟨g', hg', _, _, oj, fj, hst2⟩ := HO7.out.at_ (i := j) (by simpa using hjX); simp only [Option.some.injEq, Addr.mk.injEq, and_true] at hg'; subst hg'; have HO8 := Lib.hid (hst2 xI xi64); have hbg : b ≠ g := (by omega); have xi7 : (w6.setCell ⟨g, i, none⟩ (.int .i64 xJ)).cell? ⟨b, o + i, none⟩ = some (.int .i64 xI) := (World.cell?_of_block (Below.heap_setCell w6 ⟨g, i, none⟩ (.int .i64 xJ) b hbg)).trans xi; have hi0 : (0 : Int) ≤ (i : Int) := (by omega); have hi1 : (i : Int) < (X.length : Int) := (by omega); have hj0 : (0 : Int) ≤ (j : Int) := (by omega); have hj2 : (j : Int) < (X.length : Int) := (by omega); have HB8 := Lib.hid ((HB6.out.setCell (p := ⟨g, i, none⟩) hgl (.int .i64 xJ)).setCell (p := ⟨g, j, none⟩) hgl (.int .i64 xI)); clear hst hst2 hxI hxJ HO6)
            obtain ⟨w8, hw8⟩ : ∃ w8, w8 = (w6.setCell ⟨g, i, none⟩ (.int .i64 xJ)).setCell ⟨g, j, none⟩ (.int .i64 xI) := ⟨_, rfl⟩
            rw [← hw8] at HO8 HB8 ⊢
            clear hw8 oi fi oj fj xi xj xi7 HO7 HX6
            obtain ⟨Z, hZe⟩ : ∃ Z, Z = swpO X i j := ⟨_, rfl⟩
            have hZl : Z.length = X.length := by rw [hZe, swp_len]
            have HZO := Lib.hid (show OwnI w8 wr.heap.size 3 (.slice (some ⟨g, 0, none⟩) Z.length c6) Z by
              have := HO8.out
              rw [hZ.out] at this
              rw [hZl, hZe]; exact this)
            have HZP := Lib.hid (show Z = pickO W (swpO R i j) by
              rw [hZe, HX.out, pick_swp (by rw [← HXL.out]; exact hlt) (by rw [← HXL.out]; exact hjX)]; rfl)
            have HSB := Lib.hid (swp_begun HRB.out (i := i) (k := j) (by rw [← HXL.out]; exact hlt) (by rw [← HXL.out]; exact hjX))
            have HZE := Lib.hid (show enL P Z 0 = true by rw [HZP.out]; exact en_perm (pick_perm HSB.out (by rw [swp_len]; exact HRL.out)) HEN.out)
            have HZM := Lib.hid (show s ≤ splT P Z by rw [HZP.out]; exact HMIN.out _ HSB.out (by rw [swp_len]; exact HRL.out))
            have HPk := Lib.hid (HPj.out.trans (HB8.out.mono HPj.out.size))
            have HZi := Lib.hid (show Ints w8 wr.heap.size w8.heap.size (.slice (some ⟨g, 0, none⟩) X.length c6) Z by rw [← hZl]; exact HZO.out.ints)
            clear hZe hZ HO8 HZP HSB HZO hZl
            refine (SplicesOf_any _ _ _ _ _ _ P Z w8 (HP.out.below HPk.out (Nat.le_refl _)) (by have := HPk.out.size; omega) HZi.out (by have := HPk.out.size; omega) HZE.out).mono ?_
            rintro e az ⟨vaz, yz, rfl, oaz, saz, baz⟩
            have hfaz := oaz.form
            obtain ⟨Aaz, caz, hvaz, _, _⟩ := hfaz
            subst hvaz
            have HSz := Lib.hid (show sumI yz yz.length = splT P Z by rw [sumI_sum, saz.2.1])
            have HLz := Lib.hid (show yz.length ≤ 1000 by have h1 := saz.1; have h2 := (en_sums HZE.out).2.2.2.1; omega)
            have HQz := Lib.hid (show ∀ i, i < yz.length → -1000 ≤ gi yz i ∧ gi yz i ≤ 1000 from fun i hi => by have := saz.2.2 i (by rw [← saz.1]; exact hi); omega)
            have HBz := Lib.hid (HPk.out.trans (baz.mono HPk.out.size))
            have HKz := Lib.hid baz
            have HIz := Lib.hid oaz.ints
            clear oaz saz baz
            go_wp2_with fail
            refine (lTotal_anyS _ _ _ yz az HIz.out HLz.out HQz.out).mono ?_
            rintro e w9 ⟨rfl, hw9⟩
            subst hw9
            rw [HSz.out]
            clear HSz HLz HQz HIz
            obtain ⟨z, hz⟩ : ∃ z, z = splT P Z := ⟨_, rfl⟩
            rw [← hz]
            have hzs : ¬ z < s := by have := HZM.out; omega
            have HBz := Lib.hid (HBj.out.trans ((HB8.out.trans (HKz.out.mono HB8.out.size)).mono (by omega)))
            clear hz HZM HZE
            go_wp2
            go_roundw
            case rel => exact ⟨j + 1, hjt, by go_num, HBz.out⟩
            case measure => simp [intOf]; omega
          · have hnj : ¬ (j : Int) < (i : Int) := by omega
            go_wp2
            go_roundw
            case rel => exact ⟨i + 1, hlt, by go_num, HBj.out⟩
            case measure => simp [intOf]; omega
      · have hni2 : ¬ (i : Int) < (X.length : Int) := by omega
        have HBf := Lib.hid (HB1.out.trans ((HBx.out.trans (HKu.out.mono hzx)).mono hz1))
        have HPi := Lib.hid (HBu.out.trans (HBi.out.mono HBu.out.size))
        have HWi := Lib.hid (HW.out.below HPi.out (Nat.le_refl _))
        have HWE := Lib.hid (show enL P W 0 = true from HEN.out)
        have HM1 := Lib.hid (show s ≤ splT P W by have := HMIN.out (idO W.length) (idO_begun _).1 (idO_begun _).2; rw [show pickO W (idO W.length) = W from pick_range W] at this; exact this)
        have HM2 := Lib.hid (show s ≤ splT P W.reverse by have := HMIN.out (idO W.length).reverse (rev_begun (idO_begun _).1) (by rw [List.length_reverse]; exact (idO_begun _).2); rw [pick_rev, show pickO W (idO W.length) = W from pick_range W] at this; exact this)
        have HVE := Lib.hid (show enL P W.reverse 0 = true from en_perm (List.reverse_perm W) HEN.out)
        go_wp2_with fail
        refine (SplicesOf_any _ _ _ _ _ _ P W wi (HP.out.below HPi.out (Nat.le_refl _)) (by have := HPi.out.size; omega) HWi.out (by have := HPi.out.size; omega) HWE.out).mono ?_
        rintro e ap ⟨vap, yp, rfl, oap, sap, bap⟩
        have hfap := oap.form
        obtain ⟨Aap, cap, hvap, _, _⟩ := hfap
        subst hvap
        have HSp := Lib.hid (show sumI yp yp.length = splT P W by rw [sumI_sum, sap.2.1])
        have HLp := Lib.hid (show yp.length ≤ 1000 by have h1 := sap.1; have h2 := (en_sums HWE.out).2.2.2.1; omega)
        have HQp := Lib.hid (show ∀ i, i < yp.length → -1000 ≤ gi yp i ∧ gi yp i ≤ 1000 from fun i hi => by have := sap.2.2 i (by rw [← sap.1]; exact hi); omega)
        have HBp := Lib.hid (HPi.out.trans (bap.mono HPi.out.size))
        have HKp := Lib.hid bap
        have HIp := Lib.hid oap.ints
        clear oap sap bap
        go_wp2_with fail
        refine (lTotal_anyS _ _ _ yp ap HIp.out HLp.out HQp.out).mono ?_
        rintro e w9 ⟨rfl, hw9⟩
        subst hw9
        rw [HSp.out]
        clear HSp HLp HQp HIp
        obtain ⟨z1, hz1'⟩ : ∃ z, z = splT P W := ⟨_, rfl⟩
        rw [← hz1']
        have hzs : s ≤ z1 := by have := HM1.out; omega
        clear hz1' HM1
        have HWp := Lib.hid (HW.out.below HBp.out (Nat.le_refl _))
        go_wp2_with fail
        refine (backwardsR_any _ _ _ W ap HWp.out HBp.out.size (by omega)).mono ?_
        rintro e x1 ⟨vr, rfl, or1, br1⟩
        have hfr := or1.form
        obtain ⟨Ar, cr, hvr, _, _⟩ := hfr
        subst hvr
        obtain ⟨V, hV⟩ : ∃ V, V = W.reverse := ⟨_, rfl⟩
        rw [← hV] at or1 HM2 HVE ⊢
        have HVi := Lib.hid or1.ints
        have HBv := Lib.hid (HBp.out.trans (br1.mono HBp.out.size))
        have hVl : V.length ≤ 5 := by rw [hV, List.length_reverse]; exact hW5
        clear hV or1 br1
        go_wp2_with fail
        refine (SplicesOf_any _ _ _ _ _ _ P V x1 (HP.out.below HBv.out (Nat.le_refl _)) (by have := HBv.out.size; omega) HVi.out (by have := HBv.out.size; omega) HVE.out).mono ?_
        rintro e aq ⟨vaq, yq, rfl, oaq, saq, baq⟩
        have hfaq := oaq.form
        obtain ⟨Aaq, caq, hvaq, _, _⟩ := hfaq
        subst hvaq
        have HSq := Lib.hid (show sumI yq yq.length = splT P V by rw [sumI_sum, saq.2.1])
        have HLq := Lib.hid (show yq.length ≤ 1000 by have h1 := saq.1; have h2 := (en_sums HVE.out).2.2.2.1; omega)
        have HQq := Lib.hid (show ∀ i, i < yq.length → -1000 ≤ gi yq i ∧ gi yq i ≤ 1000 from fun i hi => by have := saq.2.2 i (by rw [← saq.1]; exact hi); omega)
        have HBq := Lib.hid (HBv.out.trans (baq.mono HBv.out.size))
        have HKq := Lib.hid baq
        have HIq := Lib.hid oaq.ints
        clear oaq saq baq
        go_wp2_with fail
        refine (lTotal_anyS _ _ _ yq aq HIq.out HLq.out HQq.out).mono ?_
        rintro e w9 ⟨rfl, hw9⟩
        subst hw9
        rw [HSq.out]
        clear HSq HLq HQq HIq
        obtain ⟨z2, hz2'⟩ : ∃ z, z = splT P V := ⟨_, rfl⟩
        rw [← hz2']
        have hzs2 : s ≤ z2 := by have := HM2.out; omega
        clear hz2' HM2
        go_wp2
        go_ret
        exact ⟨rfl, HB1.out.trans (HBq.out.mono hz1)⟩
end Go.Proofs.Yteckjiaaikdghaa
