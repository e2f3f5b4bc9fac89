/-
  Lemmas and contracts of single functions of this program, used by the proofs of its laws: what each call returns and what becomes of memory. Conditions: the hypotheses of each theorem.
-/
import Derived.Test.YtpimbibmlmjjpaaPileV
import Derived.Test.YtpimbibmlmjjpaaDrawP2
import Derived.Test.YtpimbibmlmjjpaaPileK
namespace Go.Proofs.Ytpimbibmlmjjpaa
open Go.RowKit

theorem Bytes.form {w : World} {lo hi : Nat} {v : Value} {xs : List Int} (h : Bytes w lo hi v xs) : ∃ A c, v = .slice A xs.length c ∧ xs.length ≤ c ∧ c ≤ 2 ^ 63 - 1 := by
  obtain ⟨A, c, h1, h2, h3, _⟩ := h
  exact ⟨A, c, h1, h2, by unfold maxLen at h3; omega⟩
theorem abv_pos {p : List (List Int)} {x : Int} (h : abvL p x ≠ []) : ∃ r i : Nat, FR p x = r ∧ FC p x = i ∧ r < p.length ∧ i < (gr p r).length ∧ cell p r i = x ∧ ValidP p ∧ 1 ≤ x ∧ x ≤ 9999 ∧ abvL p x = aboveL p r i := by
  by_cases hF : 0 ≤ FR p x
  · obtain ⟨r, i, h1, h2, h3, h4, h5, h6, h7, h8⟩ := FR_spec hF
    exact ⟨r, i, h1, h2, h3, h4, h5, h6, h7, h8, by rw [abvL, if_pos hF, h1, h2]; rfl⟩
  · exact absurd (by rw [abvL, if_neg hF]) h
theorem isIn_qt {w : World} (lo hi : Nat) (v : Value) (xs : List Int) (n : Int) (h : Ints w lo hi v xs) :
    Calls Try.prog 19 #[v, .int .i64 n] w fun e w' => e = .returned (.bool (inL xs n)) ∧ Qt w w' :=
  (isIn_any lo hi v xs n w h).mono fun e w' ⟨a, b⟩ => ⟨a, by subst b; exact Qt.refl _⟩

set_option maxRecDepth 100000 in
set_option maxHeartbeats 4000000 in
theorem FnAboveOfRows_walk (v : Value) (xs : List Int) (w : World) (h : Bytes w 0 w.heap.size v xs) :
    Calls Try.prog 3 #[v] w fun e w' => e = .returned (.bool true) ∧ Below w.heap.size w w' := by
  obtain ⟨A0, c0, rfl, hc0, hm0⟩ := h.form
  by_cases hbig : 1048576 < xs.length
  · go_enter Try.func3, Try.ntmps3
    go_wp2_with fail
    go_ret
    exact ⟨rfl, Below.refl _ _⟩
  · go_enter Try.func3, Try.ntmps3
    go_wp2_with fail
    refine (DrawAboveOf_any _ _ _ h).mono ?_
    rintro e w1 ⟨v1, p, x, rfl, hx, s, o1, hs1, hpl, htp, B1⟩
    obtain ⟨A, c, rfl, hc, hm⟩ := o1.form
    have hp1 := o1.rows
    go_wp2_with fail
    refine (AboveOf_any _ _ _ _ _ _ hp1 hs1 (by omega)).mono ?_
    rintro e w2 ⟨v2, rfl, o2, D2⟩
    obtain ⟨A2, c2, rfl, hc2, hm2⟩ := o2.form
    unfold maxLen at hm2
    obtain ⟨L, hL⟩ : ∃ L, L = abvL p x := ⟨_, rfl⟩
    rw [← hL] at o2 hc2 ⊢
    have HL := Lib.hid hL
    clear hL
    have s2 := D2.size
    go_wp2_with fail
    refine (sAboveOf_any _ _ _ _ _ _ (hp1.below D2 hs1) (by omega) (by omega)).mono ?_
    rw [← HL.out]
    rintro e w3 ⟨v3, rfl, o3, b3⟩
    have D3 := D2.trans (b3.mono s2)
    have s3 := D3.size
    have o2' := o2.ints.below b3 (Nat.le_refl _)
    go_wp2_with fail
    refine (equalInts_any _ _ _ _ _ _ _ _ _ o2' o3.ints).mono ?_
    rw [eqL_same]
    rintro e w4 ⟨rfl, q4⟩
    have D4 := D3.trans (q4.below _)
    have s4 := D4.size
    have o2a := o2'.qt q4
    clear o2' o3
    by_cases hL0 : L.length = 0
    · have hL0' : ((L.length : Int) == 0) = true := beq_t (by omega)
      have HL0 := Lib.hid hL0
      clear hL0
      go_wp2_with fail
      refine (sAboveOf_any _ _ _ _ _ _ (hp1.below D4 hs1) (by omega) (by omega)).mono ?_
      rw [← HL.out]
      rintro e w5 ⟨v5, rfl, o5, b5⟩
      have D5 := D4.trans (b5.mono s4)
      go_wp2_with fail
      refine (equalInts_any _ _ _ _ _ _ _ _ _ (o2a.below b5 (by have := D4.size; have := q4.below 0; have := this.size; have := b3.size; omega)) o5.ints).mono ?_
      rw [eqL_same]
      rintro e w6 ⟨rfl, q6⟩
      go_wp2_with fail
      go_ret
      exact ⟨rfl, B1.trans ((D5.trans (q6.below _)).mono B1.size)⟩
    · have hL0' : ((L.length : Int) == 0) = false := beq_f (by omega)
      obtain ⟨row, at_, hR, hC, hrow, hati, hcel, hV, hx1, hx2, hab⟩ := abv_pos (p := p) (x := x) (by rw [← HL.out]; intro e; rw [e] at hL0; exact hL0 rfl)
      rw [← HL.out] at hab
      have HV := Lib.hid hV
      have Hab := Lib.hid hab
      have Hcel := Lib.hid hcel
      clear hcel hab hV hL0
      have hat6 : at_ ≤ 1048576 := by have := row_le_tot hrow; omega
      go_wp2_with fail
      refine (FindRoll_any _ _ _ _ _ _ (hp1.below D4 hs1) (by omega) (by omega)).mono ?_
      rw [hR, hC]
      rintro e w5 ⟨rfl, b5⟩
      clear hR hC
      have D5 := D4.trans (b5.mono s4)
      have s5 := D5.size
      have s24 : w2.heap.size ≤ w4.heap.size := Nat.le_trans b3.size (q4.below w3.heap.size).size
      have o2b := o2a.below b5 s24
      have s25 := Nat.le_trans s24 b5.size
      clear o2a b3 q4 b5
      go_wp2_with fail
      go_loopw [8, 9, 10] (fun i _ _ wr => ∃ k : Nat, k ≤ L.length ∧ i = .int .i64 k ∧ Below w5.heap.size w5 wr) (fun i _ _ _ => L.length - (intOf i).toNat)
      case atStart => exact ⟨0, by omega, rfl, Below.refl _ _⟩
      case round =>
        obtain ⟨k, hk, rfl, bw⟩ := hrel
        have Dr := D5.trans (bw.mono s5)
        have sr := Dr.size
        have o2r := o2b.below bw s25
        have s2r := Nat.le_trans s25 bw.size
        by_cases hlt : k < L.length
        · obtain ⟨b, o, rfl, hbl, hbh, hcell, h64⟩ := o2r.cell hlt
          have hmem : gi L k ∈ aboveL p row at_ := by rw [← Hab.out]; exact gi_mem hlt
          obtain ⟨a, d, m1, m2, m3, m4, m5, m6, m7⟩ := mem_aboveL.1 hmem
          obtain ⟨f1, f2⟩ := valid_FR HV.out m2 m5 (by omega)
          have habv := abv_of HV.out m2 m5 (by omega)
          have hu := uniq_of_valid HV.out
          have hsub : ∀ y ∈ aboveL p a d, y ∈ L := by rw [Hab.out]; exact above_trans hu m2 m5 (by rw [m6]; exact hmem)
          have hnot : inL (abvL p (gi L k)) x = false := by
            rw [← m6, habv, inL_false]
            intro hin
            obtain ⟨c', d', n1, n2, n3, n4, n5, n6, n7⟩ := mem_aboveL.1 hin
            have := hu.1 c' d' row at_ n2 n5 hrow hati (by omega) (by rw [n6, Hcel.out])
            omega
          have hwi : allInL (abvL p (gi L k)) L = true := by
            rw [← m6, habv]
            unfold allInL
            rw [List.all_eq_true]
            intro y hy
            exact inL_iff.2 (hsub y hy)
          rw [m6] at f1 f2
          have F1 := Lib.hid f1
          have F2 := Lib.hid f2
          have Hnot := Lib.hid hnot
          have Hwi := Lib.hid hwi
          clear f1 f2 hnot hwi hsub habv m6 hmem
          go_wp2_with fail
          refine (FindRoll_any _ _ _ _ _ _ (hp1.below Dr hs1) (by omega) (by omega)).mono ?_
          rw [F1.out, F2.out]
          rintro e w6 ⟨rfl, b6⟩
          have D6 := Dr.trans (b6.mono sr)
          have s6 := D6.size
          have o6 := o2r.below b6 s2r
          have s26 := Nat.le_trans s2r b6.size
          have hc6 := o6.cell' hlt
          go_wp2_with fail
          refine (AboveOf_any _ _ _ _ _ _ (hp1.below D6 hs1) (by omega) (by omega)).mono ?_
          rintro e w7 ⟨v7, rfl, o7, b7⟩
          have D7 := D6.trans (b7.mono s6)
          have s7 := D7.size
          have o27 := o6.below b7 s26
          have s27 := Nat.le_trans s26 b7.size
          have hc7 := o27.cell' hlt
          obtain ⟨A7, c7, rfl, _, _⟩ := o7.form
          go_wp2_with fail
          refine (isIn_any _ _ _ _ _ _ o7.ints).mono ?_
          rw [Hnot.out]
          rintro e w' ⟨rfl, rfl⟩
          go_wp2_with fail
          refine (AboveOf_any _ _ _ _ _ _ (hp1.below D7 hs1) (by omega) (by omega)).mono ?_
          rintro e w8 ⟨v8, rfl, o8, b8⟩
          have D8 := D7.trans (b8.mono s7)
          have o28 := o27.below b8 s27
          obtain ⟨A8, c8, rfl, _, _⟩ := o8.form
          go_wp2_with fail
          refine (within_any _ _ _ _ _ _ _ _ _ o8.ints o28).mono ?_
          rw [Hwi.out]
          rintro e w' ⟨rfl, rfl⟩
          go_wp2_with fail
          go_roundw
          case rel => exact ⟨k + 1, by omega, by go_num, bw.trans ((b6.mono bw.size).trans ((b7.mono (Nat.le_trans bw.size b6.size)).trans (b8.mono (Nat.le_trans bw.size (Nat.le_trans b6.size b7.size)))))⟩
          case measure => simp [intOf]; omega
        · go_wp2_with fail
          go_ret
          exact ⟨rfl, B1.trans (Dr.mono B1.size)⟩
end Go.Proofs.Ytpimbibmlmjjpaa
