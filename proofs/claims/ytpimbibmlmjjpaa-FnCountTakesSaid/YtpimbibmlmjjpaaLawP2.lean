/-
  Lemmas and contracts of single functions of this program, used by the proofs of its laws: what each call returns and what becomes of memory. Conditions: the hypotheses of each theorem.
-/
import Derived.Test.YtpimbibmlmjjpaaPileC2
import Derived.Test.YtpimbibmlmjjpaaFullI
import Derived.Test.YtpimbibmlmjjpaaLawP1
namespace Go.Proofs.Ytpimbibmlmjjpaa
open Go.RowKit

set_option maxRecDepth 100000 in
set_option maxHeartbeats 2000000 in
theorem FnExactCountTakes_walk (v : Value) (p : List (List Int)) (w : World) (h : IRows w 0 w.heap.size v p) :
    Calls Try.prog 4 #[v] w fun e w' => e = .returned (.bool true) ∧ Below w.heap.size w w' := by
  obtain ⟨A, c, rfl, hc, hm⟩ := h.form
  obtain ⟨N, hN⟩ : ∃ N, N = ctS p := ⟨_, rfl⟩
  have HN := Lib.hid hN
  have HI := Lib.hid (show N = ctI p by rw [hN, ct_eq])
  clear hN
  go_enter Try.func4, Try.ntmps4
  go_wp2_with fail
  refine (szIntSS_any _ _ _ _ 1048576 _ h (by omega)).mono ?_
  rintro e w' ⟨⟨m, rfl, hm2⟩, rfl⟩
  by_cases hm0 : m < 0
  · go_wp2_with fail
    go_ret
    exact ⟨rfl, Below.refl _ _⟩
  · have hsz := hm2 (by omega)
    have Hm2 := Lib.hid hm2
    clear hm2
    have ht : tot p ≤ 1048576 := by omega
    have hpl : p.length ≤ 1048576 := by omega
    go_wp2_with fail
    refine (toIntSS_any _ _ _ _ _ h (Nat.le_refl _) ht hpl).mono ?_
    rintro e w1 ⟨u1, rfl, o1, b1⟩
    have s1 := b1.size
    go_wp2_with fail
    refine (sCountTakes_any _ _ _ _ _ o1.rows (Nat.le_refl _) ht).mono ?_
    rw [← HN.out]
    rintro e w2 ⟨rfl, b2⟩
    have B2 := b1.trans (b2.mono s1)
    have s2 := B2.size
    go_wp2_with fail
    refine (toIntSS_any _ _ _ _ _ (h.below B2 (Nat.le_refl _)) (by omega) ht hpl).mono ?_
    rintro e w3 ⟨x0, rfl, o3, b3⟩
    have B3 := B2.trans (b3.mono s2)
    have s3 := B3.size
    go_wp2_with fail
    refine (CountTakes_any _ _ _ _ _ o3.rows (Nat.le_refl _) ht).mono ?_
    rw [← HI.out]
    rintro e w4 ⟨rfl, b4⟩
    have B4 := B3.trans (b4.mono s3)
    have s4 := B4.size
    have o4 := o3.kept (.of_below b4 (Nat.le_refl _))
    go_wp2_with fail
    refine (toIntSS_any _ _ _ _ _ (h.below B4 (Nat.le_refl _)) (by omega) ht hpl).mono ?_
    rintro e w5 ⟨x5, rfl, o5, b5⟩
    have B5 := B4.trans (b5.mono s4)
    have o4' := o4.kept (.of_below b5 b4.size)
    go_wp2_with fail
    refine (eqIntSS_any _ _ _ _ _ _ _ _ _ o4'.rows o5.rows).mono ?_
    rw [eqLL_same]
    rintro e w6 ⟨rfl, q6⟩
    go_wp2_with fail
    go_ret
    exact ⟨rfl, B5.trans (q6.below _)⟩

theorem full_row {m : Nat} (h : 1 ≤ m) : (fullL m).take 1 = [upL 1 m] := by
  obtain ⟨q, rfl⟩ : ∃ q, m = q + 1 := ⟨m - 1, by omega⟩
  rfl
theorem ct_full1 : ctS (fullL 1) = 1 := by decide +kernel
theorem ct_full2 : ctS (fullL 2) = 2 := by decide +kernel
theorem ct_full3 : ctS (fullL 3) = 16 := by decide +kernel
theorem ct_row : ∀ m, 1 ≤ m → m ≤ 6 → ctS ((fullL m).take 1) = (fct m : Int) := by
  intro m h1 h2
  rw [full_row h1]
  have : m = 1 ∨ m = 2 ∨ m = 3 ∨ m = 4 ∨ m = 5 ∨ m = 6 := by omega
  rcases this with rfl | rfl | rfl | rfl | rfl | rfl <;> decide +kernel

set_option maxRecDepth 100000 in
set_option maxHeartbeats 4000000 in
theorem FnCountTakesFull_walk (v : Value) (xs : List Int) (w : World) (h : Bytes w 0 w.heap.size v xs) :
    Calls Try.prog 8 #[v] w fun e w' => e = .returned (.bool true) ∧ Below w.heap.size w w' := by
  obtain ⟨A0, c0, rfl, hc0, hm0⟩ := h.form
  by_cases hbig : 1048576 < xs.length
  · go_enter Try.func8, Try.ntmps8
    go_wp2_with fail
    go_ret
    exact ⟨rfl, Below.refl _ _⟩
  · go_enter Try.func8, Try.ntmps8
    go_wp2_with fail
    refine (DrawCountTakes_any _ _ _ h).mono ?_
    rintro e w1 ⟨v1, p, rfl, s, o1, hs1, hpl, htp, B1⟩
    obtain ⟨A, c, rfl, hc, hm⟩ := o1.form
    have hp1 := o1.rows
    obtain ⟨N, hN⟩ : ∃ N, N = ctS p := ⟨_, rfl⟩
    have HN := Lib.hid hN
    have HI := Lib.hid (show N = ctI p by rw [hN, ct_eq])
    clear hN
    go_wp2_with fail
    refine (CountTakes_any _ _ _ _ _ hp1 hs1 (by omega)).mono ?_
    rw [← HI.out]
    rintro e w2 ⟨rfl, D2⟩
    have s2 := D2.size
    go_wp2_with fail
    refine (sCountTakes_any _ _ _ _ _ (hp1.below D2 hs1) (by omega) (by omega)).mono ?_
    rw [← HN.out]
    rintro e w3 ⟨rfl, b3⟩
    have D3 := D2.trans (b3.mono s2)
    have s3 := D3.size
    by_cases hstop : N < 0 ∨ p.length = 0
    · have hg : (decide (N < 0) = true) ∨ (decide (N < 0) = false ∧ ((p.length : Int) == 0) = true) := by
        by_cases h1 : N < 0
        · exact .inl (decide_eq_true h1)
        · exact .inr ⟨decide_eq_false h1, beq_t (by omega)⟩
      clear hstop
      rcases hg with g1 | ⟨g1, g2⟩
      all_goals
        go_wp2_with fail
        refine (sCountTakes_any _ _ _ _ _ (hp1.below D3 hs1) (by omega) (by omega)).mono ?_
        rw [← HN.out]
        rintro e w4 ⟨rfl, b4⟩
        go_wp2_with fail
        go_ret
        exact ⟨rfl, B1.trans ((D3.trans (b4.mono s3)).mono B1.size)⟩
    · have g1 : decide (N < 0) = false := decide_eq_false (by omega)
      have g2 : ((p.length : Int) == 0) = false := beq_f (by omega)
      obtain ⟨hV, h8, hct⟩ := ct_pos (p := p) (by rw [← HN.out]; omega)
      have hp0 : 0 < p.length := by omega
      obtain ⟨b, o, Ai, ci, rfl, hb2, hb3, hcell, hci, hmi, hi1⟩ := (hp1.below D3 hs1).row hp0
      obtain ⟨m, hm'⟩ : ∃ m, m = (gr p 0).length := ⟨_, rfl⟩
      have hm6 : m ≤ 6 := by rcases hV.2.1 with h0 | h0 <;> omega
      have hm1 : 1 ≤ m := by have := (hV.2.2 0 hp0).2.1; omega
      rw [← hm'] at hcell hci
      rw [Nat.add_zero] at hcell
      clear hV h8 hct hm' hi1
      go_wp2_with fail
      go_loop [5, 6] (fun n i => ∃ (k N : Nat), 2 ≤ k ∧ k ≤ m + 1 ∧ i = .int .i64 k ∧ n = .int .i64 N ∧ Hid (N = fct (k - 1))) (fun _ i => m + 2 - (intOf i).toNat)
      case atStart => exact ⟨2, 1, by omega, by omega, rfl, rfl, rfl⟩
      case round =>
        obtain ⟨k, F, hk2, hkm, rfl, rfl, HF⟩ := hrel
        have hF6 : F ≤ 720 ∧ F * k ≤ 5040 := by
          have : k = 2 ∨ k = 3 ∨ k = 4 ∨ k = 5 ∨ k = 6 ∨ k = 7 := by omega
          rcases this with rfl | rfl | rfl | rfl | rfl | rfl <;> rw [HF.out] <;> decide
        obtain ⟨hF6, hFk⟩ := hF6
        have hFi : (F : Int) * (k : Int) = ((F * k : Nat) : Int) := (Int.natCast_mul _ _).symm
        by_cases hlt : k ≤ m
        · have h0 : 0 ≤ (F : Int) * (k : Int) := by omega
          have h1 : (F : Int) * (k : Int) ≤ 5040 := by omega
          obtain ⟨F2, hF2⟩ : ∃ F2, F2 = F * k := ⟨_, rfl⟩
          have HF2 := Lib.hid hF2
          have hFi2 : (F : Int) * (k : Int) = (F2 : Int) := by rw [hFi, hF2]
          clear hFi hF2 hFk
          go_wp2_with fail
          go_round
          case rel => exact ⟨k + 1, F2, by omega, by omega, by go_num, rfl, by
            rw [show k + 1 - 1 = (k - 1) + 1 by omega]
            show F2 = ((k - 1) + 1) * fct (k - 1)
            rw [HF2.out, HF.out, show k - 1 + 1 = k by omega, Nat.mul_comm]⟩
          case measure => simp [intOf]; omega
        · have He := Lib.hid (show F = fct m by rw [HF.out]; congr 1; omega)
          clear hFi hFk
          have Hfl := Lib.hid (show (fullL m).length = m from fullGo_len m 0)
          go_wp2_with fail
          refine (FullPile_any (m : Int) _).mono ?_
          rw [inR_mk (by omega), if_pos rfl, Int.toNat_natCast]
          rintro e w4 ⟨v4, rfl, o4, b4⟩
          have D4 := D3.trans (b4.mono s3)
          have s4 := D4.size
          obtain ⟨A4, c4, rfl, hc4, hm4⟩ := o4.form
          obtain ⟨g4, _, _, hg4, _⟩ := o4.rowAt (r := 0) (by decide) (by rw [Hfl.out]; omega)
          subst hg4
          have o4t := o4.take (k := 1) (by rw [Hfl.out]; omega)
          rw [Hfl.out] at hc4 ⊢
          have Hrow := Lib.hid (ct_row m hm1 hm6)
          have Hlt := Lib.hid (show ((fullL m).take 1).length = 1 ∧ tot ((fullL m).take 1) ≤ 6 by
            rw [full_row hm1]; exact ⟨rfl, by simp [tot, upL_len]; omega⟩)
          clear o4
          go_wp2_with fail
          refine (FullPile_any 1 _).mono ?_
          rintro e w5 ⟨v5, rfl, o5, b5⟩
          have D5 := D4.trans (b5.mono s4)
          have s5 := D5.size
          have o4a := o4t.kept (.of_below b5 (Nat.le_refl _))
          have s45 := b5.size
          go_wp2_with fail
          refine (CountTakes_any _ _ _ _ _ o5.rows (Nat.le_refl _) (by decide)).mono ?_
          rw [show ctI (if inR 0 6 1 = true then fullL (1 : Int).toNat else []) = 1 from (ct_eq _).trans ct_full1]
          rintro e w6 ⟨rfl, b6⟩
          have D6 := D5.trans (b6.mono s5)
          have s6 := D6.size
          have o4b := o4a.kept (.of_below b6 s45)
          have s46 := Nat.le_trans s45 b6.size
          go_wp2_with fail
          refine (FullPile_any 2 _).mono ?_
          rintro e w7 ⟨v7, rfl, o7, b7⟩
          have D7 := D6.trans (b7.mono s6)
          have s7 := D7.size
          have o4c := o4b.kept (.of_below b7 s46)
          have s47 := Nat.le_trans s46 b7.size
          go_wp2_with fail
          refine (CountTakes_any _ _ _ _ _ o7.rows (Nat.le_refl _) (by decide)).mono ?_
          rw [show ctI (if inR 0 6 2 = true then fullL (2 : Int).toNat else []) = 2 from (ct_eq _).trans ct_full2]
          rintro e w8 ⟨rfl, b8⟩
          have D8 := D7.trans (b8.mono s7)
          have s8 := D8.size
          have o4d := o4c.kept (.of_below b8 s47)
          have s48 := Nat.le_trans s47 b8.size
          go_wp2_with fail
          refine (FullPile_any 3 _).mono ?_
          rintro e w9 ⟨v9, rfl, o9, b9⟩
          have D9 := D8.trans (b9.mono s8)
          have s9 := D9.size
          have o4e := o4d.kept (.of_below b9 s48)
          have s49 := Nat.le_trans s48 b9.size
          go_wp2_with fail
          refine (CountTakes_any _ _ _ _ _ o9.rows (Nat.le_refl _) (by decide)).mono ?_
          rw [show ctI (if inR 0 6 3 = true then fullL (3 : Int).toNat else []) = 16 from (ct_eq _).trans ct_full3]
          rintro e w10 ⟨rfl, b10⟩
          have D10 := D9.trans (b10.mono s9)
          have s10 := D10.size
          have o4f := o4e.kept (.of_below b10 s49)
          have s410 := Nat.le_trans s49 b10.size
          clear o4a o4b o4c o4d o4e o4t o5 o7 o9
          go_wp2_with fail
          refine (CountTakes_any _ _ _ _ _ o4f.rows s410 (by have := Hlt.out.2; omega)).mono ?_
          rw [(ct_eq _).trans Hrow.out, ← He.out]
          rintro e w11 ⟨rfl, b11⟩
          go_wp2_with fail
          go_ret
          exact ⟨rfl, B1.trans ((D10.trans (b11.mono s10)).mono B1.size)⟩

set_option maxRecDepth 100000 in
set_option maxHeartbeats 4000000 in
theorem FnCountTakes_walk (v : Value) (xs : List Int) (w : World) (h : Bytes w 0 w.heap.size v xs) :
    Calls Try.prog 10 #[v] w fun e w' => e = .returned (.bool true) ∧ Below w.heap.size w w' := by
  obtain ⟨A0, c0, rfl, hc0, hm0⟩ := h.form
  by_cases hbig : 1048576 < xs.length
  · go_enter Try.func10, Try.ntmps10
    go_wp2_with fail
    go_ret
    exact ⟨rfl, Below.refl _ _⟩
  · go_enter Try.func10, Try.ntmps10
    go_wp2_with fail
    refine (DrawCountTakes_any _ _ _ h).mono ?_
    rintro e w1 ⟨v1, p, rfl, s, o1, hs1, hpl, htp, B1⟩
    obtain ⟨A, c, rfl, hc, hm⟩ := o1.form
    have hp1 := o1.rows
    obtain ⟨N, hN⟩ : ∃ N, N = ctS p := ⟨_, rfl⟩
    have HN := Lib.hid hN
    have HI := Lib.hid (show N = ctI p by rw [hN, ct_eq])
    clear hN
    go_wp2_with fail
    refine (CountTakes_any _ _ _ _ _ hp1 hs1 (by omega)).mono ?_
    rw [← HI.out]
    rintro e w2 ⟨rfl, D2⟩
    have s2 := D2.size
    go_wp2_with fail
    refine (sCountTakes_any _ _ _ _ _ (hp1.below D2 hs1) (by omega) (by omega)).mono ?_
    rw [← HN.out]
    rintro e w3 ⟨rfl, b3⟩
    have D3 := D2.trans (b3.mono s2)
    have s3 := D3.size
    by_cases hneg : N < 0
    · have g1 : decide (N < 0) = true := decide_eq_true hneg
      go_wp2_with fail
      refine (sCountTakes_any _ _ _ _ _ (hp1.below D3 hs1) (by omega) (by omega)).mono ?_
      rw [← HN.out]
      rintro e w4 ⟨rfl, b4⟩
      go_wp2_with fail
      go_ret
      exact ⟨rfl, B1.trans ((D3.trans (b4.mono s3)).mono B1.size)⟩
    · have g1 : decide (N < 0) = false := decide_eq_false hneg
      obtain ⟨hV, h8, hct⟩ := ct_pos (p := p) (by rw [← HN.out]; exact hneg)
      have HV := Lib.hid hV
      have hcv := cnt_valid hV h8
      rw [← hct, ← HN.out] at hcv
      obtain ⟨hN1, hN2⟩ := hcv
      obtain ⟨L, hL⟩ : ∃ L, L = labelsL p := ⟨_, rfl⟩
      rw [← hL] at h8
      have HL := Lib.hid hL
      have Hct := Lib.hid hct
      clear hL hct hV
      go_wp2_with fail
      refine (LabelsOf_any _ _ _ _ _ (hp1.below D3 hs1) (by omega) (by omega)).mono ?_
      rw [labV_of HV.out, ← HL.out]
      rintro e w4 ⟨v4, rfl, o4, b4⟩
      have D4 := D3.trans (b4.mono s3)
      have s4 := D4.size
      obtain ⟨A4, c4, rfl, hc4, hm4⟩ := o4.form
      unfold maxLen at hm4
      have i4 := o4.ints
      clear o4
      go_wp2_with fail
      go_loopw [6, 7, 8, 9] (fun n i _ _ wr => ∃ (k : Nat) (N' : Int), k ≤ L.length ∧ i = .int .i64 k ∧ n = .int .i64 N' ∧ Below w4.heap.size w4 wr ∧ Hid (N' = (L.take k).foldl (cntStep p) 0)) (fun _ i _ _ _ => L.length - (intOf i).toNat)
      case atStart => exact ⟨0, 0, by omega, rfl, rfl, Below.refl _ _, rfl⟩
      case round =>
        obtain ⟨k, N', hk, rfl, rfl, bw, HN'⟩ := hrel
        have Dr := D4.trans (bw.mono s4)
        have sr := Dr.size
        have ir := i4.below bw (Nat.le_refl _)
        have s4r := bw.size
        by_cases hlt : k < L.length
        · obtain ⟨b, o, rfl, hbl, hbh, hcell, h64⟩ := ir.cell hlt
          have hmem : gi L k ∈ labelsL p := by rw [← HL.out]; exact gi_mem hlt
          have Hst := Lib.hid (foldl_take (cntStep p) 0 hlt)
          have hfi := free_iff HV.out hmem
          have hFR := (FR_iff HV.out).2 hmem
          obtain ⟨hct1, hct2⟩ := ct_take HV.out (by rw [← HL.out]; exact h8) hmem
          obtain ⟨X, hX⟩ : ∃ X, X = abvL p (gi L k) := ⟨_, rfl⟩
          rw [← hX] at hfi
          have HX := Lib.hid hX
          have Hfi := Lib.hid hfi
          have HFR := Lib.hid (show decide (0 ≤ FR p (gi L k)) = true from decide_eq_true hFR)
          have Hct1 := Lib.hid hct1
          have htl := takeL_len p (gi L k)
          clear hX hfi hFR hct1 hct2 hmem
          go_wp2_with fail
          refine (AboveOf_any _ _ _ _ _ _ (hp1.below Dr hs1) (by omega) (by omega)).mono ?_
          rw [← HX.out]
          rintro e w5 ⟨v5, rfl, o5, b5⟩
          have D5 := Dr.trans (b5.mono sr)
          have s5 := D5.size
          obtain ⟨A5, c5, rfl, _, _⟩ := o5.form
          have ir5 := ir.below b5 s4r
          have s45 := Nat.le_trans s4r b5.size
          have hc5 := ir5.cell' hlt
          by_cases hX0 : X.length = 0
          · have hd : ((X.length : Int) == 0) = true := beq_t (by omega)
            have Hcs := Lib.hid (show cntStep p N' (gi L k) = wrap64 (N' + cnt (withoutL p (gi L k))) by rw [cntStep, if_pos (Hfi.out.2 (List.eq_nil_of_length_eq_zero hX0))])
            clear hX0
            go_wp2_with fail
            refine (TakeRoll_any _ _ _ _ _ _ (hp1.below D5 hs1) (by omega) (by omega)).mono ?_
            rw [HFR.out]
            rintro e w6 ⟨v6, s6', rfl, o6, b6, hs6⟩
            have D6 := D5.trans (b6.mono s5)
            have s6 := D6.size
            go_wp2_with fail
            refine (CountTakes_any _ _ _ _ _ o6.rows hs6 (by omega)).mono ?_
            rw [ct_eq, Hct1.out]
            rintro e w7 ⟨rfl, b7⟩
            go_wp2_with fail
            go_roundw
            case rel => exact ⟨k + 1, _, by omega, by go_num, rfl, bw.trans ((b5.mono s4r).trans ((b6.mono s45).trans (b7.mono (Nat.le_trans s45 b6.size)))), by rw [Hst.out, ← HN'.out, Hcs.out]; rfl⟩
            case measure => simp [intOf]; omega
          · have hd : ((X.length : Int) == 0) = false := beq_f (by omega)
            have Hcs := Lib.hid (show cntStep p N' (gi L k) = N' by rw [cntStep, if_neg (fun hf => hX0 (by rw [Hfi.out.1 hf]; rfl))])
            clear hX0
            go_wp2_with fail
            go_roundw
            case rel => exact ⟨k + 1, N', by omega, by go_num, rfl, bw.trans (b5.mono s4r), by rw [Hst.out, ← HN'.out, Hcs.out]; rfl⟩
            case measure => simp [intOf]; omega
        · have He : k = L.length := by omega
          by_cases hL0 : L.length = 0
          · have hd : ((L.length : Int) == 0) = true := beq_t (by omega)
            have hLn : labelsL p = [] := by rw [← HL.out]; exact List.eq_nil_of_length_eq_zero hL0
            have hN1' : N = 1 := by rw [HN.out, Hct.out, cnt_nil hLn]
            have hd1 : (N == 1) = true := beq_t hN1'
            have Hx := Lib.hid hN1'
            clear hN1' hL0 He hLn
            go_wp2_with fail
            go_ret
            exact ⟨rfl, B1.trans (Dr.mono B1.size)⟩
          · have hd : ((L.length : Int) == 0) = false := beq_f (by omega)
            have hNN : N' = N := by
              rw [HN'.out, He, List.take_length, HN.out, Hct.out, HL.out]
              exact (cnt_fold HV.out (by rw [← HL.out]; intro e; rw [e] at hL0; exact hL0 rfl)).symm
            subst hNN
            have hd1 : (N' == N') = true := beq_t rfl
            have hge : k ≥ L.length := by omega
            clear He hL0
            go_wp2_with fail
            go_ret
            exact ⟨rfl, B1.trans (Dr.mono B1.size)⟩
end Go.Proofs.Ytpimbibmlmjjpaa
