/-
  Lemmas and contracts of single functions of this program, used by the proofs of its laws: what each call returns and what becomes of memory. Conditions: the hypotheses of each theorem.
-/
import Derived.Test.YtlabekemifccaaaDoorTxtI
namespace Go.Proofs.YtlabekemifccaaaDoor
open Go.RowKit
attribute [local go_sem ↓] Go.wp_at_zero Go.wp_at_succ

theorem recE_len : ∀ (n : Nat) (L : List (List UInt8)), (recE n L).length ≤ n
  | 0, L => by rw [recE_zero]; simp
  | n + 1, [] => by rw [recE_nil]; simp
  | n + 1, x :: t => by
    cases hp : parE x with
    | none => rw [recE_no hp]; simp
    | some e =>
      cases t with
      | nil => rw [recE_one]; simp
      | cons y t =>
        rw [recE_yes hp (by simp), List.length_cons]
        have := recE_len n (y :: t)
        omega
set_option maxRecDepth 100000 in
set_option maxHeartbeats 1000000 in
theorem RecoverBookS_any (l : List UInt8) (s : ByteArray) (hs : s = TB l) (w : World) (hl : l.length ≤ 4294967200) :
    Calls Tryd.prog 22 #[.string s] w fun e w' => ∃ v, e = .returned v ∧ OwnT w' w.heap.size 29 7 v (recB l) ∧ Below w.heap.size w w' := by
  have HS := Lib.hid hs
  obtain ⟨R, hR⟩ : ∃ R, R = recB l := ⟨_, rfl⟩
  rw [← hR]
  have HR := Lib.hid hR
  clear hR hs
  go_enter Tryd.func22, Tryd.ntmps22
  go_wp2_with fail
  refine (recoverBookS_any l s HS.out w hl).mono ?_
  rw [← HR.out]
  rintro e w2 ⟨v, rfl, ho, hb⟩
  obtain ⟨A, c, rfl, _⟩ := ho.form
  have HO := Lib.hid ho
  have HB := Lib.hid hb
  clear ho hb
  go_wp2
  go_ret
  exact ⟨.slice A R.length c, rfl, HO.out, HB.out⟩
set_option maxRecDepth 100000 in
set_option maxHeartbeats 4000000 in
theorem FnExactRecoverBook_walk (s : ByteArray) (w : World) (hsh : w.ShapedOpen Tryd.prog) (_ : s.size ≤ maxLen) :
    Calls Tryd.prog 6 #[.string s] w fun e w' => e = .returned (.bool true) ∧ Below w.heap.size w w' := by
  obtain ⟨l, hs, hsl⟩ : ∃ l, s = TB l ∧ s.size = l.length := ⟨s.data.toList, by cases s; simp [TB], by cases s; simp [ByteArray.size]⟩
  have HSH := Lib.hid hsh
  have HS := Lib.hid hs
  obtain ⟨n, hn⟩ : ∃ n, n = s.size := ⟨_, rfl⟩
  have hsn : s.size = n := hn.symm
  have hln : l.length ≤ n := by omega
  clear hs hsl hn hsh
  by_cases hbig : 1048576 < n
  · have y : (1048576 : Int) < (n : Int) := by omega
    go_enter Tryd.func6, Tryd.ntmps6
    go_wp2
    go_ret
    exact ⟨rfl, Below.refl _ _⟩
  have y : ¬ (1048576 : Int) < (n : Int) := by omega
  obtain ⟨R, hR⟩ : ∃ R, R = recB l := ⟨_, rfl⟩
  have HR := Lib.hid hR
  have hRl : R.length ≤ 60 := by rw [hR]; exact recE_len 60 _
  clear hR
  go_enter Tryd.func6, Tryd.ntmps6
  go_wp2_with fail
  refine (RecoverBookS_any l s HS.out w (by omega)).mono ?_
  rw [← HR.out]
  rintro e w2 ⟨v2, rfl, o2, b2⟩
  obtain ⟨A2, c2, rfl, hc2, _⟩ := o2.form
  have HB2 := Lib.hid b2
  have HT2 := Lib.hid o2.ts
  have s2 : w.heap.size ≤ w2.heap.size := b2.size
  clear o2 b2
  go_wp2_with fail
  refine (RecoverBookI_any l s HS.out w2 (by omega) (shaped_below HSH.out HB2.out)).mono ?_
  rw [← HR.out]
  rintro e w3 ⟨v3, rfl, o3, b3⟩
  obtain ⟨A3, c3, rfl, hc3, _⟩ := o3.form
  have HB3 := Lib.hid (HB2.out.trans (b3.mono s2))
  have HT3 := Lib.hid (HT2.out.below b3 (Nat.le_refl _))
  have HO3 := Lib.hid o3
  have s3 : w2.heap.size ≤ w3.heap.size := b3.size
  clear o3 b3 HT2
  go_wp2_with fail
  refine (eqEventS_same _ _ _ _ _ _ R w3 HO3.out.ts (Nat.le_refl _) HT3.out s3).mono ?_
  rintro e w4 ⟨rfl, b4⟩
  have HB4 := Lib.hid (HB3.out.trans (b4.mono (by omega)))
  have HT4 := Lib.hid (HT3.out.below b4 s3)
  have HO4 := Lib.hid (HO3.out.kept (.of_below b4 (Nat.le_refl _)))
  have s4 : w3.heap.size ≤ w4.heap.size := b4.size
  clear b4 HT3 HO3
  go_wp2_with fail
  refine (markEventS_any w2.heap.size _ R 1 w4 HO4.out (by omega) (by omega)).mono ?_
  rintro e w5 ⟨rfl, o5, b5, _, hz5⟩
  have HB5 := Lib.hid (HB4.out.trans (b5.mono s2))
  have HT5 := Lib.hid (HT4.out.below b5 (Nat.le_refl _))
  have HO5 := Lib.hid o5.ts
  have s5 : w4.heap.size ≤ w5.heap.size := by omega
  obtain ⟨K, hK⟩ : ∃ K : Nat, K = 1 + R.length * 7 := ⟨_, rfl⟩
  have HK := Lib.hid hK
  rw [← hK]
  have hK0 : ¬ (K : Int) < 0 := by omega
  have hKK : ((K : Int) != (K : Int)) = false := bne_f rfl
  clear o5 b5 HT4 HO4 hz5 hK
  go_wp2_with fail
  refine (heldEventS_up _ _ _ 1 R.length w5 HO5.out (by omega) (by omega)).mono ?_
  rw [← HK.out]
  rintro e x5 ⟨rfl, hx5⟩
  subst hx5
  go_wp2_with fail
  refine (RecoverBookI_any l s HS.out w5 (by omega) (shaped_below HSH.out HB5.out)).mono ?_
  rw [← HR.out]
  rintro e w6 ⟨v6, rfl, o6, b6⟩
  obtain ⟨A6, c6, rfl, hc6, _⟩ := o6.form
  have HB6 := Lib.hid (HB5.out.trans (b6.mono (by omega)))
  have HT6 := Lib.hid (HT5.out.below b6 (by omega))
  have HO6 := Lib.hid (HO5.out.below b6 (Nat.le_refl _))
  have HP6 := Lib.hid o6.ts
  have s6 : w5.heap.size ≤ w6.heap.size := b6.size
  clear o6 b6 HT5 HO5
  go_wp2_with fail
  refine (eqEventS_same _ _ _ _ _ _ R w6 HP6.out (Nat.le_refl _) HT6.out (by omega)).mono ?_
  rintro e w7 ⟨rfl, b7⟩
  have HB7 := Lib.hid (HB6.out.trans (b7.mono (by omega)))
  have HO7 := Lib.hid (HO6.out.below b7 (by omega))
  clear b7 HO6
  go_wp2_with fail
  refine (heldEventS_up _ _ _ 1 R.length w7 HO7.out (by omega) (by omega)).mono ?_
  rw [← HK.out]
  rintro e x7 ⟨rfl, hx7⟩
  subst hx7
  go_wp2
  go_ret
  exact ⟨rfl, HB7.out⟩
end Go.Proofs.YtlabekemifccaaaDoor
