/-
  Lemmas and contracts of single functions of this program, used by the proofs of its laws: what each call returns and what becomes of memory. Conditions: the hypotheses of each theorem.
-/
import Derived.Test.YtpimbibmlmjjpaaPileW
import Derived.Test.YtpimbibmlmjjpaaLawP1
namespace Go.Proofs.Ytpimbibmlmjjpaa
open Go.RowKit

set_option maxRecDepth 100000 in
set_option maxHeartbeats 4000000 in
theorem FnAboveOf_walk (v : Value) (xs : List Int) (w : World) (h : Bytes w 0 w.heap.size v xs) :
    Calls Try.prog 7 #[v] w fun e w' => e = .returned (.bool true) ∧ Below w.heap.size w w' := by
  obtain ⟨A0, c0, rfl, hc0, hm0⟩ := h.form
  by_cases hbig : 1048576 < xs.length
  · go_enter Try.func7, Try.ntmps7
    go_wp2_with fail
    go_ret
    exact ⟨rfl, Below.refl _ _⟩
  · go_enter Try.func7, Try.ntmps7
    go_wp2_with fail
    refine (DrawAboveOf_any _ _ _ h).mono ?_
    rintro e w1 ⟨v1, p, x, rfl, hx, s, o1, hs1, hpl, htp, B1⟩
    obtain ⟨A, c, rfl, hc, hm⟩ := o1.form
    have hp1 := o1.rows
    go_wp2_with fail
    refine (AboveOf_any _ _ _ _ _ _ hp1 hs1 (by omega)).mono ?_
    rintro e w2 ⟨v2, rfl, o2, D2⟩
    obtain ⟨A2, c2, rfl, hc2, hm2⟩ := o2.form
    unfold maxLen at hm2
    obtain ⟨L, hL⟩ : ∃ L, L = abvL p x := ⟨_, rfl⟩
    rw [← hL] at o2 hc2 ⊢
    have HL := Lib.hid hL
    clear hL
    have s2 := D2.size
    go_wp2_with fail
    refine (sAboveOf_any _ _ _ _ _ _ (hp1.below D2 hs1) (by omega) (by omega)).mono ?_
    rw [← HL.out]
    rintro e w3 ⟨v3, rfl, o3, b3⟩
    have D3 := D2.trans (b3.mono s2)
    have s3 := D3.size
    have o2' := o2.ints.below b3 (Nat.le_refl _)
    go_wp2_with fail
    refine (equalInts_any _ _ _ _ _ _ _ _ _ o2' o3.ints).mono ?_
    rw [eqL_same]
    rintro e w4 ⟨rfl, q4⟩
    have D4 := D3.trans (q4.below _)
    have s4 := D4.size
    have o2a := o2'.qt q4
    have s24 : w2.heap.size ≤ w4.heap.size := Nat.le_trans b3.size (q4.below w3.heap.size).size
    clear o2' o3
    by_cases hL0 : L.length = 0
    · have hL0' : ((L.length : Int) == 0) = true := beq_t (by omega)
      have HL0 := Lib.hid hL0
      clear hL0
      go_wp2_with fail
      refine (sAboveOf_any _ _ _ _ _ _ (hp1.below D4 hs1) (by omega) (by omega)).mono ?_
      rw [← HL.out]
      rintro e w5 ⟨v5, rfl, o5, b5⟩
      have D5 := D4.trans (b5.mono s4)
      go_wp2_with fail
      refine (equalInts_any _ _ _ _ _ _ _ _ _ (o2a.below b5 s24) o5.ints).mono ?_
      rw [eqL_same]
      rintro e w6 ⟨rfl, q6⟩
      go_wp2_with fail
      go_ret
      exact ⟨rfl, B1.trans ((D5.trans (q6.below _)).mono B1.size)⟩
    · have hL0' : ((L.length : Int) == 0) = false := beq_f (by omega)
      obtain ⟨row, at_, hR, hC, hrow, hati, hcel, hV, hx1, hx2, hab⟩ := abv_pos (p := p) (x := x) (by rw [← HL.out]; intro e; rw [e] at hL0; exact hL0 rfl)
      rw [← HL.out] at hab
      have HV := Lib.hid hV
      have Hab := Lib.hid hab
      have Hcel := Lib.hid hcel
      clear hcel hab hV hL0 hR hC
      go_wp2_with fail
      clear hL0'
      have hp4 : IRows w4 0 w4.heap.size (.slice A p.length c) (less p (L.take 0)) := by
        rw [List.take_zero, less_nil]
        exact (hp1.below D4 hs1).wide (Nat.zero_le _) (by omega)
      go_loopw [6, 7, 8, 9] (fun now i _ _ wr => ∃ k : Nat, k ≤ L.length ∧ i = .int .i64 k ∧ IRows wr 0 wr.heap.size now (less p (L.take k)) ∧ Below w4.heap.size w4 wr) (fun _ i _ _ _ => L.length - (intOf i).toNat)
      case atStart => exact ⟨0, by omega, rfl, hp4, Below.refl _ _⟩
      case round =>
        clear hp4
        obtain ⟨k, hk, rfl, hnow, bw⟩ := hrel
        have Dr := D4.trans (bw.mono s4)
        have sr := Dr.size
        have o2r := o2a.below bw s24
        have s2r := Nat.le_trans s24 bw.size
        have hsh := less_shape p (L.take k)
        have hql : (less p (L.take k)).length ≤ 7 := by rw [hsh.1]; exact hpl
        have hqt : tot (less p (L.take k)) ≤ 40 := by rw [shape_tot hsh]; exact htp
        clear hsh
        obtain ⟨An, cn, rfl, hcn, hmn⟩ := hnow.form
        by_cases hlt : k < L.length
        · obtain ⟨b, o, rfl, hbl, hbh, hcell, h64⟩ := o2r.cell hlt
          obtain ⟨hvq, hmem, htk, hlen⟩ := above_step HV.out (r := row) (i := at_) (k := k) hrow (by rw [← Hab.out]; exact hlt)
          rw [← Hab.out] at hvq hmem htk hlen
          have hsh2 := less_shape p (L.take (k + 1))
          have hql2 : (less p (L.take (k + 1))).length ≤ 7 := by rw [hsh2.1]; exact hpl
          have hqt2 : tot (less p (L.take (k + 1))) ≤ 40 := by rw [shape_tot hsh2]; exact htp
          have hvq2 : ValidP (less p (L.take (k + 1))) := by rw [Hab.out]; exact less_valid HV.out (take_up HV.out hrow)
          have Hd := Lib.hid (show decide (0 ≤ FR (less p (L.take k)) (gi L k)) = true from decide_eq_true ((FR_iff hvq).2 hmem))
          have Htk := Lib.hid htk
          have Hlab1 := Lib.hid (labV_of hvq)
          have Hlab2 := Lib.hid (labV_of hvq2)
          have hlab1 := labelsL_len (less p (L.take k))
          obtain ⟨Q, hQ⟩ : ∃ Q, Q = less p (L.take k) := ⟨_, rfl⟩
          obtain ⟨Q2, hQ2⟩ : ∃ Q, Q = less p (L.take (k + 1)) := ⟨_, rfl⟩
          rw [← hQ] at hnow hql hqt Hd Htk Hlab1 hlab1 hlen hcn ⊢
          rw [← hQ2] at hql2 hqt2 Htk Hlab2 hlen
          have HQ2 := Lib.hid hQ2
          clear hvq hmem htk hvq2 hsh2 hQ hQ2
          go_wp2_with fail
          refine (TakeRoll_any _ _ _ _ _ _ hnow (Nat.le_refl _) (by omega)).mono ?_
          rw [Hd.out, Htk.out]
          rintro e w5 ⟨v5, s5', rfl, o5, b5, hs5⟩
          have D5 := Dr.trans (b5.mono sr)
          have s5 := D5.size
          obtain ⟨A5, c5, rfl, _, _⟩ := o5.form
          go_wp2_with fail
          refine (LabelsOf_any _ _ _ _ _ o5.rows hs5 (by omega)).mono ?_
          rw [Hlab2.out]
          rintro e w6 ⟨v6, rfl, o6, b6⟩
          have D6 := D5.trans (b6.mono s5)
          have s6 := D6.size
          obtain ⟨A6, c6, rfl, _, _⟩ := o6.form
          go_wp2_with fail
          refine (LabelsOf_any _ _ _ _ _ (hnow.below (b5.trans (b6.mono b5.size)) (Nat.le_refl _)) (by have := b5.size; have := b6.size; omega) (by omega)).mono ?_
          rw [Hlab1.out]
          rintro e w7 ⟨v7, rfl, o7, b7⟩
          obtain ⟨A7, c7, rfl, _, _⟩ := o7.form
          have hne : (((labelsL Q2).length : Int) != ((labelsL Q).length : Int) - 1) = false := bne_f (by omega)
          have hnext : IRows w7 0 w7.heap.size (.slice A5 Q2.length c5) Q2 := ((o5.rows.below b6 hs5).below b7 (Nat.le_trans hs5 b6.size)).wide (Nat.zero_le _) (by have := b6.size; have := b7.size; omega)
          have bw7 := bw.trans ((b5.mono bw.size).trans ((b6.mono (Nat.le_trans bw.size b5.size)).trans (b7.mono (Nat.le_trans bw.size (Nat.le_trans b5.size b6.size)))))
          clear o5 o6 o7 hnow b5 b6 b7
          go_wp2_with fail
          go_roundw
          case rel => exact ⟨k + 1, by omega, by go_num, by rw [← HQ2.out]; exact hnext, bw7⟩
          case measure => simp [intOf]; omega
        · have He : L.take k = aboveL p row at_ := by rw [List.take_of_length_le (by omega), Hab.out]
          have hcp : 0 < cell p row at_ := by rw [Hcel.out]; omega
          obtain ⟨hF, habv⟩ := above_end HV.out hrow hati hcp
          rw [← He, Hcel.out] at hF habv
          have Habv := Lib.hid habv
          obtain ⟨Q, hQ⟩ : ∃ Q, Q = less p (L.take k) := ⟨_, rfl⟩
          rw [← hQ] at hnow hql hqt hF Habv hcn ⊢
          clear He habv hQ hcp
          go_wp2_with fail
          refine (FindRoll_any _ _ _ _ _ _ hnow (Nat.le_refl _) (by omega)).mono ?_
          rintro e w5 ⟨rfl, b5⟩
          have D5 := Dr.trans (b5.mono sr)
          have s5 := D5.size
          go_wp2_with fail
          refine (AboveOf_any _ _ _ _ _ _ (hnow.below b5 (Nat.le_refl _)) b5.size (by omega)).mono ?_
          rw [Habv.out]
          rintro e w6 ⟨v6, rfl, o6, b6⟩
          obtain ⟨A6, c6, rfl, _, _⟩ := o6.form
          go_wp2_with fail
          go_ret
          exact ⟨rfl, B1.trans ((D5.trans (b6.mono s5)).mono B1.size)⟩

set_option maxRecDepth 100000 in
set_option maxHeartbeats 4000000 in
theorem FnPutRoll_walk (v : Value) (xs : List Int) (w : World) (h : Bytes w 0 w.heap.size v xs) :
    Calls Try.prog 9 #[v] w fun e w' => e = .returned (.bool true) ∧ Below w.heap.size w w' := by
  obtain ⟨A0, c0, rfl, hc0, hm0⟩ := h.form
  by_cases hbig : 1048576 < xs.length
  · go_enter Try.func9, Try.ntmps9
    go_wp2_with fail
    go_ret
    exact ⟨rfl, Below.refl _ _⟩
  · go_enter Try.func9, Try.ntmps9
    go_wp2_with fail
    refine (DrawPutRoll_any _ _ _ h).mono ?_
    rintro e w1 ⟨v1, p, x, rfl, hx, s, o1, hs1, hpl, htp, B1⟩
    obtain ⟨A, c, rfl, hc, hm⟩ := o1.form
    have hp1 := o1.rows
    go_wp2_with fail
    refine (PutRoll_any _ _ _ _ _ _ hp1 hs1 (by omega) hx).mono ?_
    rintro e w2 ⟨v2, q, d, sq, rfl, hput, o2, hs2, D2⟩
    obtain ⟨A2, c2, rfl, hc2, hm2⟩ := o2.form
    have s2 := D2.size
    go_wp2_with fail
    refine (sPutRoll_any _ _ _ _ _ _ (hp1.below D2 hs1) (by omega) (by omega) hx).mono ?_
    rintro e w3 ⟨v3, q', d', sq', rfl, hput', o3, hs3, b3⟩
    obtain ⟨rfl, rfl⟩ := putRel_unique hput hput'
    have D3 := D2.trans (b3.mono s2)
    have s3 := D3.size
    obtain ⟨A3, c3, rfl, _, _⟩ := o3.form
    have q2 := o2.rows.below b3 hs2
    have hs23 := Nat.le_trans hs2 b3.size
    go_wp2_with fail
    refine (equalLists_any _ _ _ _ _ _ _ _ _ q2 o3.rows).mono ?_
    rw [eqLL_same]
    rintro e w4 ⟨rfl, q4⟩
    have D4 := D3.trans (q4.below _)
    have s4 := D4.size
    have q2' := q2.qt q4
    have q3' := o3.rows.qt q4
    have hs24 := Nat.le_trans hs23 (q4.below w3.heap.size).size
    have Hput := Lib.hid hput
    clear hput hput' q2 o3 o2
    cases d
    · go_wp2_with fail
      refine (equalLists_any _ _ _ _ _ _ _ _ _ q2' q3').mono ?_
      rw [eqLL_same]
      rintro e w5 ⟨rfl, q5⟩
      go_wp2_with fail
      go_ret
      exact ⟨rfl, B1.trans ((D4.trans (q5.below _)).mono B1.size)⟩
    · have hfacts : 0 ≤ FR q x ∧ takeL q x = p ∧ abvL q x = [] ∧ ValidP q ∧ SameShape q p := by
        rcases Hput.out with ⟨_, hcan, r, i, hat, rfl⟩ | ⟨h, _, _⟩
        · obtain ⟨a, b, c⟩ := put_take hcan hat
          exact ⟨a, b, c, (put_valid hcan hat).1, set2_shape (SameShape.refl p) _ _ _⟩
        · cases h
      obtain ⟨hF, htk, habv, hvq, hsh⟩ := hfacts
      have hqt : tot q ≤ 40 := by rw [shape_tot hsh]; exact htp
      have hql : q.length ≤ 7 := by rw [hsh.1]; exact hpl
      have Hd := Lib.hid (show decide (0 ≤ FR q x) = true from decide_eq_true hF)
      have Htk := Lib.hid htk
      have Habv := Lib.hid habv
      have Hvq := Lib.hid (vPile_of hvq)
      clear htk habv hvq hsh hF q3'
      go_wp2_with fail
      refine (TakeRoll_any _ _ _ _ _ _ q2' hs24 (by omega)).mono ?_
      rw [Hd.out, Htk.out]
      rintro e w5 ⟨v5, s5', rfl, o5, b5, hs5⟩
      have D5 := D4.trans (b5.mono s4)
      have s5 := D5.size
      obtain ⟨A5, c5, rfl, _, _⟩ := o5.form
      have q5 := q2'.below b5 hs24
      have hs25 := Nat.le_trans hs24 b5.size
      go_wp2_with fail
      refine (equalLists_any _ _ _ _ _ _ _ _ _ o5.rows (hp1.below D5 hs1)).mono ?_
      rw [eqLL_same]
      rintro e w6 ⟨rfl, q6⟩
      have D6 := D5.trans (q6.below _)
      have s6 := D6.size
      have q6' := q5.qt q6
      have hs26 := Nat.le_trans hs25 (q6.below w5.heap.size).size
      go_wp2_with fail
      refine (ValidPile_any _ _ _ _ _ q6' hs26 (by omega)).mono ?_
      rw [Hvq.out]
      rintro e w7 ⟨rfl, b7⟩
      have D7 := D6.trans (b7.mono s6)
      have s7 := D7.size
      have q7 := q6'.below b7 hs26
      go_wp2_with fail
      refine (AboveOf_any _ _ _ _ _ _ q7 (Nat.le_trans hs26 b7.size) (by omega)).mono ?_
      rw [Habv.out]
      rintro e w8 ⟨v8, rfl, o8, b8⟩
      obtain ⟨A8, c8, rfl, _, _⟩ := o8.form
      go_wp2_with fail
      go_ret
      exact ⟨rfl, B1.trans ((D7.trans (b8.mono s7)).mono B1.size)⟩

set_option maxRecDepth 100000 in
set_option maxHeartbeats 4000000 in
theorem FnPutRollAll_walk (v : Value) (xs : List Int) (w : World) (h : Bytes w 0 w.heap.size v xs) :
    Calls Try.prog 6 #[v] w fun e w' => e = .returned (.bool true) ∧ Below w.heap.size w w' := by
  obtain ⟨A0, c0, rfl, hc0, hm0⟩ := h.form
  by_cases hbig : 1048576 < xs.length
  · go_enter Try.func6, Try.ntmps6
    go_wp2_with fail
    go_ret
    exact ⟨rfl, Below.refl _ _⟩
  · go_enter Try.func6, Try.ntmps6
    go_wp2_with fail
    refine (DrawPutRoll_any _ _ _ h).mono ?_
    rintro e w1 ⟨v1, p, x, rfl, hx, s, o1, hs1, hpl, htp, B1⟩
    obtain ⟨A, c, rfl, hc, hm⟩ := o1.form
    have hp1 := o1.rows
    go_wp2_with fail
    refine (PutRoll_any _ _ _ _ _ _ hp1 hs1 (by omega) hx).mono ?_
    rintro e w2 ⟨v2, q, d, sq, rfl, hput, o2, hs2, D2⟩
    obtain ⟨A2, c2, rfl, hc2, hm2⟩ := o2.form
    have s2 := D2.size
    go_wp2_with fail
    refine (sPutRoll_any _ _ _ _ _ _ (hp1.below D2 hs1) (by omega) (by omega) hx).mono ?_
    rintro e w3 ⟨v3, q', d', sq', rfl, hput', o3, hs3, b3⟩
    obtain ⟨rfl, rfl⟩ := putRel_unique hput hput'
    have D3 := D2.trans (b3.mono s2)
    have s3 := D3.size
    obtain ⟨A3, c3, rfl, _, _⟩ := o3.form
    have q2 := o2.rows.below b3 hs2
    have hs23 := Nat.le_trans hs2 b3.size
    go_wp2_with fail
    refine (equalLists_any _ _ _ _ _ _ _ _ _ q2 o3.rows).mono ?_
    rw [eqLL_same]
    rintro e w4 ⟨rfl, q4⟩
    have D4 := D3.trans (q4.below _)
    have s4 := D4.size
    have q2' := q2.qt q4
    have q3' := o3.rows.qt q4
    have hs24 := Nat.le_trans hs23 (q4.below w3.heap.size).size
    have Hput := Lib.hid hput
    clear hput hput' q2 o3 o2
    cases d
    · go_wp2_with fail
      refine (equalLists_any _ _ _ _ _ _ _ _ _ q2' q3').mono ?_
      rw [eqLL_same]
      rintro e w5 ⟨rfl, q5⟩
      go_wp2_with fail
      go_ret
      exact ⟨rfl, B1.trans ((D4.trans (q5.below _)).mono B1.size)⟩
    · have hfacts : ValidP q ∧ SameShape q p := by
        rcases Hput.out with ⟨_, hcan, r, i, hat, rfl⟩ | ⟨h, _, _⟩
        · exact ⟨(put_valid hcan hat).1, set2_shape (SameShape.refl p) _ _ _⟩
        · cases h
      obtain ⟨hvq, hsh⟩ := hfacts
      have hlq : q.length = p.length := hsh.1
      have Hlq := Lib.hid hlq
      have hqs : HasUp q 0 := fun j h1 h2 => absurd h1 (by omega)
      have Hq0 := Lib.hid (show ValidP q ∧ SameShape q p ∧ HasUp q 0 from ⟨hvq, hsh, hqs⟩)
      obtain ⟨P, hP⟩ : ∃ P, P = tot p := ⟨_, rfl⟩
      have HP := Lib.hid hP
      have hP40 : P ≤ 40 := by omega
      have hp4 := hp1.below D4 hs1
      have q4i : IRows w4 0 w4.heap.size (.slice A2 q.length c2) q := q2'.wide (Nat.zero_le _) hs24
      clear hvq hsh hqs q3' q2' hP hlq
      go_wp2_with fail
      go_loop [9, 10] (fun n i => ∃ k : Nat, k ≤ p.length ∧ i = .int .i64 k ∧ n = .int .i64 ((tot (p.take k) : Nat) : Int)) (fun _ i => p.length - (intOf i).toNat)
      case atStart => exact ⟨0, by omega, rfl, by simp [tot]⟩
      case round =>
        obtain ⟨k, hk, rfl, rfl⟩ := hrel
        by_cases hlt : k < p.length
        · obtain ⟨b, o, Ai, ci, rfl, hb3, hb4, hcell, hci, hmi, hi1⟩ := hp4.row hlt
          have Hts := Lib.hid (tot_succ hlt)
          have htk := tot_take hlt
          obtain ⟨T, hT⟩ : ∃ T, T = tot (p.take k) := ⟨_, rfl⟩
          rw [← hT] at htk Hts ⊢
          clear hT
          go_wp2_with fail
          go_round
          case rel => exact ⟨k + 1, by omega, by go_num, by rw [Hts.out]; go_num⟩
          case measure => simp [intOf]; omega
        · have hTe : tot (p.take k) = P := by rw [List.take_of_length_le (by omega), HP.out]
          rw [hTe]
          clear hTe
          go_wp2_with fail
          go_loopw [11, 12, 13, 14] (fun now nx _ _ wr => ∃ (j : Nat) (Q : List (List Int)), j ≤ 41 ∧ nx = .int .i64 ((j + 1 : Nat) : Int) ∧ IRows wr 0 wr.heap.size now Q ∧ Below w4.heap.size w4 wr ∧ Q.length ≤ 7 ∧ tot Q ≤ P ∧ Hid (ValidP Q ∧ SameShape Q p ∧ HasUp Q j)) (fun _ nx _ _ _ => 100 - (intOf nx).toNat)
          case atStart => exact ⟨0, q, by omega, rfl, q4i, Below.refl _ _, by rw [Hlq.out]; exact hpl, by rw [shape_tot Hq0.out.2.1, HP.out]; exact Nat.le_refl _, Hq0.out⟩
          case round =>
            clear q4i hp4
            obtain ⟨j, Q, hj, rfl, hnow, bw, hQl, hQt, HQ⟩ := hrel
            obtain ⟨An, cn, rfl, hcn, hmn⟩ := hnow.form
            have Dr := D4.trans (bw.mono s4)
            have sr := Dr.size
            obtain ⟨hvQ, hshQ, hupQ⟩ := HQ.out
            have hul := hasUp_le hupQ
            have hlab := labelsL_len Q
            have Hlab := Lib.hid (labV_of hvQ)
            have HtP := Lib.hid (show tot Q = P by rw [shape_tot hshQ, HP.out])
            have Hv := Lib.hid (vPile_of hvQ)
            clear hvQ hshQ hupQ
            go_wp2_with fail
            refine (LabelsOf_any _ _ _ _ _ hnow (Nat.le_refl _) (by omega)).mono ?_
            rw [Hlab.out]
            rintro e w5 ⟨v5, rfl, o5, b5⟩
            obtain ⟨A5, c5, rfl, _, _⟩ := o5.form
            have D5 := Dr.trans (b5.mono sr)
            have s5 := D5.size
            have h5 := hnow.below b5 (Nat.le_refl _)
            have n1 : ((j + 1 : Nat) : Int) = (j : Int) + 1 := by omega
            obtain ⟨lq, hlq⟩ : ∃ l, l = (labelsL Q).length := ⟨_, rfl⟩
            rw [← hlq] at hul hlab ⊢
            by_cases hcond : lq < P
            · have hround := fun (Q2 : List (List Int)) (d : Bool) (hpr : PutRel Q ((j + 1 : Nat) : Int) Q2 d) => put_round HQ.out.1 (by omega) HQ.out.2.2 (by rw [← hlq, HtP.out]; exact hcond) hpr
              have Hround := Lib.hid hround
              have hj41 : j + 1 ≤ 41 := by omega
              have hI : I64 ((j + 1 : Nat) : Int) := ⟨by omega, by omega⟩
              clear hround hlq
              go_wp2_with fail
              refine (PutRoll_any _ _ _ _ _ _ h5 b5.size (by omega) hI).mono ?_
              rintro e w6 ⟨v6, Q2, d, s6', rfl, hpr, o6, hs6, b6⟩
              obtain ⟨A6, c6, rfl, _, _⟩ := o6.form
              have hcases := Hround.out Q2 d hpr
              have bw6 := bw.trans ((b5.mono bw.size).trans (b6.mono (Nat.le_trans bw.size b5.size)))
              clear hpr Hround
              rcases hcases with ⟨rfl, hup2⟩ | ⟨rfl, hv2, hsh2, hup2⟩
              · have Hup2 := Lib.hid hup2
                have h6 := (h5.below b6 b5.size).wide (lo' := 0) (hi' := w6.heap.size) (Nat.le_refl _) (by have := b5.size; have := b6.size; omega)
                clear hup2
                go_wp2_with fail
                go_roundw
                case rel => exact ⟨j + 1, Q, by omega, by go_num, h6, bw6, hQl, hQt, HQ.out.1, HQ.out.2.1, Hup2.out⟩
                case measure => simp [intOf]; omega
              · have HQ2 := Lib.hid (show ValidP Q2 ∧ SameShape Q2 p ∧ HasUp Q2 (j + 1) from ⟨hv2, ⟨hsh2.1.trans HQ.out.2.1.1, fun r => (hsh2.2 r).trans (HQ.out.2.1.2 r)⟩, hup2⟩)
                have h6 : IRows w6 0 w6.heap.size (.slice A6 Q2.length c6) Q2 := o6.rows.wide (Nat.zero_le _) hs6
                have hQl2 : Q2.length ≤ 7 := by rw [hsh2.1]; exact hQl
                have hQt2 : tot Q2 ≤ P := by rw [shape_tot hsh2]; exact hQt
                clear hv2 hsh2 hup2 o6
                go_wp2_with fail
                go_roundw
                case rel => exact ⟨j + 1, Q2, by omega, by go_num, h6, bw6, hQl2, hQt2, HQ2.out⟩
                case measure => simp [intOf]; omega
            · have hfull := fun (Q2 : List (List Int)) (d : Bool) (hpr : PutRel Q 9998 Q2 d) => put_full (by rw [← hlq, HtP.out]; omega) hpr
              have Hfull := Lib.hid hfull
              clear hfull hlq
              go_wp2_with fail
              refine (PutRoll_any _ _ _ _ _ _ h5 b5.size (by omega) ⟨by omega, by omega⟩).mono ?_
              rintro e w6 ⟨v6, Q2, d, s6', rfl, hpr, o6, hs6, b6⟩
              obtain rfl := Hfull.out Q2 d hpr
              have D6 := D5.trans (b6.mono s5)
              have s6 := D6.size
              clear hpr o6
              go_wp2_with fail
              refine (ValidPile_any _ _ _ _ _ (h5.below b6 b5.size) (by have := b5.size; have := b6.size; omega) (by omega)).mono ?_
              rw [Hv.out]
              rintro e w7 ⟨rfl, b7⟩
              go_wp2_with fail
              go_ret
              exact ⟨rfl, B1.trans ((D6.trans (b7.mono s6)).mono B1.size)⟩
end Go.Proofs.Ytpimbibmlmjjpaa
