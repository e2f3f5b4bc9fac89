/-
  Lemmas and contracts of single functions of this program, used by the proofs of its laws: what each call returns and what becomes of memory. Conditions: the hypotheses of each theorem.
-/
import Derived.Test.YtpimbibmlmjjpaaPileK
import Derived.Test.YtpimbibmlmjjpaaPilePlain6
namespace Go.Proofs.Ytpimbibmlmjjpaa
open Go.RowKit

set_option maxRecDepth 100000 in
set_option maxHeartbeats 2000000 in
theorem FnExactMovesFor_walk (v : Value) (p : List (List Int)) (u : Value) (L : List Int) (w : World) (h : IRows w 0 w.heap.size v p) (hL : Ints w 0 w.heap.size u L) :
    Calls Try.prog 12 #[v, u] w fun e w' => e = .returned (.bool true) ∧ Below w.heap.size w w' := by
  obtain ⟨A, c, rfl, hc, hm⟩ := h.form
  obtain ⟨A2, c2, rfl, hc2, hm2⟩ := hL.form
  obtain ⟨M, hM⟩ : ∃ M, M = movS p L := ⟨_, rfl⟩
  have HM := Lib.hid hM
  have HM2 := Lib.hid (hM.trans (mov_eq p L).symm)
  clear hM
  by_cases hbig : 1048576 < L.length
  · go_enter Try.func12, Try.ntmps12
    go_wp2_with fail
    go_ret
    exact ⟨rfl, Below.refl _ _⟩
  · go_enter Try.func12, Try.ntmps12
    go_wp2_with fail
    refine (szIntSS_any _ _ _ _ 1048576 _ h (by omega)).mono ?_
    rintro e w' ⟨⟨m, rfl, hm2'⟩, rfl⟩
    by_cases hm0 : m < 0
    · go_wp2_with fail
      go_ret
      exact ⟨rfl, Below.refl _ _⟩
    · have hsz := hm2' (by omega)
      have Hm2 := Lib.hid hm2'
      clear hm2'
      have ht : tot p ≤ 1048576 := by omega
      have hpl : p.length ≤ 1048576 := by omega
      go_wp2_with fail
      refine (toIntSS_any _ _ _ _ _ h (Nat.le_refl _) ht hpl).mono ?_
      rintro e w1 ⟨u1, rfl, o1, b1⟩
      have s1 := b1.size
      go_wp2_with fail
      refine (toIntS_any _ _ _ _ _ (hL.below b1 (Nat.le_refl _)) s1 (by omega)).mono ?_
      rintro e w2 ⟨u2, rfl, o2, b2⟩
      have s2 := b2.size
      have B2 := b1.trans (b2.mono s1)
      have o1' := o1.kept (.of_below b2 (Nat.le_refl _))
      go_wp2_with fail
      refine (sMovesFor_any _ _ _ _ _ _ _ _ _ o1'.rows s2 ht o2.ints (Nat.le_refl _) (by omega)).mono ?_
      rw [← HM.out]
      rintro e w3 ⟨rfl, b3⟩
      have s3 := b3.size
      have B3 := B2.trans (b3.mono (by omega))
      go_wp2_with fail
      refine (toIntSS_any _ _ _ _ _ (h.below B3 (Nat.le_refl _)) (by omega) ht hpl).mono ?_
      rintro e w4 ⟨x0, rfl, o4, b4⟩
      have s4 := b4.size
      have B4 := B3.trans (b4.mono (by omega))
      go_wp2_with fail
      refine (toIntS_any _ _ _ _ _ (hL.below B4 (Nat.le_refl _)) (by omega) (by omega)).mono ?_
      rintro e w5 ⟨x1, rfl, o5, b5⟩
      have s5 := b5.size
      have B5 := B4.trans (b5.mono (by omega))
      have o4' := o4.kept (.of_below b5 (Nat.le_refl _))
      go_wp2_with fail
      refine (MovesFor_any _ _ _ _ _ _ _ _ _ o4'.rows s5 ht o5.ints (Nat.le_refl _) (by omega)).mono ?_
      rw [← HM2.out]
      rintro e w6 ⟨rfl, b6⟩
      have s6 := b6.size
      have B6 := B5.trans (b6.mono (by omega))
      have o4'' := o4'.kept (.of_below b6 (by omega))
      have o5' := o5.kept (.of_below b6 (Nat.le_refl _))
      go_wp2_with fail
      refine (toIntSS_any _ _ _ _ _ (h.below B6 (Nat.le_refl _)) (by omega) ht hpl).mono ?_
      rintro e w7 ⟨u7, rfl, o7, b7⟩
      have s7 := b7.size
      have B7 := B6.trans (b7.mono (by omega))
      have o4a := o4''.kept (.of_below b7 (by omega))
      have o5a := o5'.kept (.of_below b7 (Nat.le_refl _))
      go_wp2_with fail
      refine (eqIntSS_any _ _ _ _ _ _ _ _ _ o4a.rows o7.rows).mono ?_
      rw [eqLL_same]
      rintro e w8 ⟨rfl, q8⟩
      have b8 := q8.below w7.heap.size
      have s8 := b8.size
      have B8 := B7.trans (b8.mono (by omega))
      have o5b := o5a.ints.qt q8
      go_wp2_with fail
      refine (toIntS_any _ _ _ _ _ (hL.below B8 (Nat.le_refl _)) (by omega) (by omega)).mono ?_
      rintro e w9 ⟨u9, rfl, o9, b9⟩
      have s9 := b9.size
      have B9 := B8.trans (b9.mono (by omega))
      go_wp2_with fail
      refine (eqIntS_any _ _ _ _ _ _ _ _ _ (o5b.below b9 (by omega)) o9.ints).mono ?_
      rw [eqL_same]
      rintro e w10 ⟨rfl, q10⟩
      go_wp2_with fail
      go_ret
      exact ⟨rfl, B9.trans (q10.below _)⟩
end Go.Proofs.Ytpimbibmlmjjpaa
