/-
  Lemmas and contracts of single functions of this program, used by the proofs of its laws: what each call returns and what becomes of memory. Conditions: the hypotheses of each theorem.
-/
import Derived.Test.YtpimbibmlmjjpaaPileW
import Derived.Test.YtpimbibmlmjjpaaLawP1
namespace Go.Proofs.Ytpimbibmlmjjpaa
open Go.RowKit

set_option maxRecDepth 100000 in
set_option maxHeartbeats 4000000 in
theorem FnTakeRoll_walk (v : Value) (xs : List Int) (w : World) (h : Bytes w 0 w.heap.size v xs) :
    Calls Try.prog 11 #[v] w fun e w' => e = .returned (.bool true) ∧ Below w.heap.size w w' := by
  obtain ⟨A0, c0, rfl, hc0, hm0⟩ := h.form
  by_cases hbig : 1048576 < xs.length
  · go_enter Try.func11, Try.ntmps11
    go_wp2_with fail
    go_ret
    exact ⟨rfl, Below.refl _ _⟩
  · go_enter Try.func11, Try.ntmps11
    go_wp2_with fail
    refine (DrawTakeRoll_any _ _ _ h).mono ?_
    rintro e w1 ⟨v1, p, x, rfl, hx, s, o1, hs1, hpl, htp, B1⟩
    obtain ⟨A, c, rfl, hc, hm⟩ := o1.form
    have hp1 := o1.rows
    obtain ⟨T, hT⟩ : ∃ T, T = takeL p x := ⟨_, rfl⟩
    obtain ⟨d, hd⟩ : ∃ d, d = decide (0 ≤ FR p x) := ⟨_, rfl⟩
    have htl := takeL_len p x
    rw [← hT] at htl
    obtain ⟨htl1, htl2⟩ := htl
    have HT := Lib.hid hT
    have HD := Lib.hid hd
    clear hT hd
    go_wp2_with fail
    refine (TakeRoll_any _ _ _ _ _ _ hp1 hs1 (by omega)).mono ?_
    rw [← HT.out, ← HD.out]
    rintro e w2 ⟨v2, sq, rfl, o2, D2, hs2⟩
    obtain ⟨A2, c2, rfl, hc2, hm2⟩ := o2.form
    have s2 := D2.size
    go_wp2_with fail
    refine (sTakeRoll_any _ _ _ _ _ _ (hp1.below D2 hs1) (by omega) (by omega)).mono ?_
    rw [← HT.out, ← HD.out]
    rintro e w3 ⟨v3, sq', rfl, o3, b3, hs3⟩
    have D3 := D2.trans (b3.mono s2)
    have s3 := D3.size
    obtain ⟨A3, c3, rfl, _, _⟩ := o3.form
    have q2 := o2.rows.below b3 hs2
    have hs23 := Nat.le_trans hs2 b3.size
    go_wp2_with fail
    refine (equalLists_any _ _ _ _ _ _ _ _ _ q2 o3.rows).mono ?_
    rw [eqLL_same]
    rintro e w4 ⟨rfl, q4⟩
    have D4 := D3.trans (q4.below _)
    have s4 := D4.size
    have q2' := q2.qt q4
    have q3' := o3.rows.qt q4
    have hs24 := Nat.le_trans hs23 (q4.below w3.heap.size).size
    clear q2 o3 o2
    cases d
    · go_wp2_with fail
      refine (equalLists_any _ _ _ _ _ _ _ _ _ q2' q3').mono ?_
      rw [eqLL_same]
      rintro e w5 ⟨rfl, q5⟩
      go_wp2_with fail
      go_ret
      exact ⟨rfl, B1.trans ((D4.trans (q5.below _)).mono B1.size)⟩
    · have hF : 0 ≤ FR p x := of_decide_eq_true HD.out.symm
      obtain ⟨r0, i0, _, _, _, _, _, hV, _⟩ := FR_spec hF
      have hmem := (FR_iff hV).1 hF
      obtain ⟨hvT, hin, hcount⟩ := take_facts hV hmem
      rw [← HT.out] at hvT hin hcount
      have Hv := Lib.hid (vPile_of hvT)
      have HlT := Lib.hid (labV_of hvT)
      have Hlp := Lib.hid (labV_of hV)
      have hal := abvL_len p x
      obtain ⟨X, hX⟩ : ∃ X, X = abvL p x := ⟨_, rfl⟩
      obtain ⟨L, hL⟩ : ∃ L, L = labelsL p := ⟨_, rfl⟩
      obtain ⟨R, hR⟩ : ∃ R, R = labelsL T := ⟨_, rfl⟩
      rw [← hX] at hin hcount hal
      rw [← hR] at hin hcount HlT
      rw [← hL] at hin hcount Hlp
      rw [List.length_append, List.length_singleton] at hcount
      have HX := Lib.hid hX
      have hLl : L.length ≤ 40 := by have := labelsL_len p; rw [hL]; omega
      have Hin := Lib.hid hin
      clear hin hX hL hR hvT hF hmem hV q3'
      go_wp2_with fail
      refine (AboveOf_any _ _ _ _ _ _ (hp1.below D4 hs1) (by omega) (by omega)).mono ?_
      rw [← HX.out]
      rintro e w5 ⟨v5, rfl, o5, b5⟩
      have D5 := D4.trans (b5.mono s4)
      have s5 := D5.size
      obtain ⟨A5, c5, rfl, _, _⟩ := o5.form
      have q5 := q2'.below b5 hs24
      have hs25 := Nat.le_trans hs24 b5.size
      go_wp2_with (at_builtin; refine wpList_appendI SlI _ rfl (.tmp 56) (.tmp 58) rfl _ w4.heap.size _ _ rfl rfl o5 hx (by omega) b5.size ?_; intro v6 w6 hown6 hg6)
      obtain ⟨A6, c6, rfl, _, _⟩ := hown6.form
      rw [List.length_append, List.length_singleton]
      have b56 := b5.trans hg6.below
      have D6 := D4.trans (b56.mono s4)
      have s6 := D6.size
      have q6 := q2'.below b56 hs24
      have hs26 := Nat.le_trans hs24 b56.size
      have i6 := hown6.ints
      rw [List.length_append, List.length_singleton] at i6
      clear q5 hs25 D5 s5 b5 o5 hown6 hg6
      go_wp2_with fail
      refine (LabelsOf_any _ _ _ _ _ (hp1.below D6 hs1) (by omega) (by omega)).mono ?_
      rw [Hlp.out]
      rintro e w7 ⟨v7, rfl, o7, b7⟩
      obtain ⟨A7, c7, rfl, _, _⟩ := o7.form
      have D7 := D6.trans (b7.mono s6)
      have s7 := D7.size
      have q7 := q6.below b7 hs26
      have hs27 := Nat.le_trans hs26 b7.size
      have i67 := i6.below b7 (Nat.le_refl _)
      have s67 := b7.size
      go_wp2_with fail
      refine (LabelsOf_any _ _ _ _ _ q7 hs27 (by omega)).mono ?_
      rw [HlT.out]
      rintro e w8 ⟨v8, rfl, o8, b8⟩
      obtain ⟨A8, c8, rfl, _, _⟩ := o8.form
      have D8 := D7.trans (b8.mono s7)
      have s8 := D8.size
      have q8 := q7.below b8 hs27
      have hs28 := Nat.le_trans hs27 b8.size
      have i68 := i67.below b8 s67
      have i78 := o7.ints.below b8 (Nat.le_refl _)
      have i88 := o8.ints
      clear q6 q7 i6 i67 o7 o8 hs26 hs27 q2'
      go_wp2_with fail
      go_loopw [12] (fun i wr => ∃ k : Nat, k ≤ L.length ∧ i = .int .i64 k ∧ Qt w8 wr) (fun i _ => L.length - (intOf i).toNat)
      case atStart => exact ⟨0, by omega, rfl, Qt.refl _⟩
      case round =>
        obtain ⟨k, hk, rfl, hq⟩ := hrel
        by_cases hlt : k < L.length
        · obtain ⟨b, o, rfl, hbl, hbh, hcell, h64⟩ := (i78.qt hq).cell hlt
          have hx1 := Hin.out (gi L k) (gi_mem hlt)
          have H1 := Lib.hid (fun n => isIn_qt _ _ _ _ (gi L k) ((i88.qt hq).drewN n))
          have H2 := Lib.hid (fun n => isIn_qt _ _ _ _ (gi L k) ((i68.qt hq).drewN n))
          cases hg : inL (X ++ [x]) (gi L k)
          · rw [hg] at hx1 H2
            rw [hx1] at H1
            clear hx1 hg
            go_wp2_with fail
            go_quiet ((go_at_call 19; first | with_reducible exact Qt.call (H1.out _) | with_reducible exact Qt.call (H2.out _)))
            go_wp2_with fail
            go_roundw
            case rel => exact ⟨k + 1, by omega, by go_num, hq.trans (Qt.one _ _)⟩
            case measure => simp [intOf]; omega
          · rw [hg] at hx1 H2
            rw [hx1] at H1
            clear hx1 hg
            go_wp2_with fail
            go_quiet ((go_at_call 19; first | with_reducible exact Qt.call (H1.out _) | with_reducible exact Qt.call (H2.out _)))
            go_wp2_with fail
            go_roundw
            case rel => exact ⟨k + 1, by omega, by go_num, hq.trans (Qt.one _ _)⟩
            case measure => simp [intOf]; omega
        · have Dr := D8.trans (hq.below _)
          have sr := Dr.size
          have hsr := (hq.below w8.heap.size).size
          go_wp2_with fail
          refine (ValidPile_any _ _ _ _ _ (q8.qt hq) (by omega) (by omega)).mono ?_
          rw [Hv.out]
          rintro e w9 ⟨rfl, b9⟩
          have hd1 : (((R.length : Int) + ((X.length : Int) + 1)) == (L.length : Int)) = true := beq_t (by omega)
          have hd2 : (((R.length : Int) + ((X.length + 1 : Nat) : Int)) == (L.length : Int)) = true := beq_t (by omega)
          go_wp2_with fail
          go_ret
          exact ⟨rfl, B1.trans ((Dr.trans (b9.mono sr)).mono B1.size)⟩
end Go.Proofs.Ytpimbibmlmjjpaa
