/-
  Lemmas and contracts of single functions of this program, used by the proofs of its laws: what each call returns and what becomes of memory. Conditions: the hypotheses of each theorem.
-/
import Derived.Test.YtkgepklapglmdaaGreatDoorDkA
import Derived.Test.YtkgepklapglmdaaGreatDoorStrS
namespace Go.Proofs.YtkgepklapglmdaaGreatDoor
open Go.RowKit
attribute [local go_sem ↓] Go.wp_at_zero Go.wp_at_succ

set_option maxRecDepth 100000 in
set_option maxHeartbeats 4000000 in
theorem FnExactRunDesk_walk (B : Nat) (s : ByteArray) (v : Value) (ls : List (List UInt8)) (w : World) (hp : Pow B w) (hsh : w.ShapedOpen Tryz.prog) (_ : s.size ≤ maxLen) (h0 : Strs w 0 w.heap.size v ls) (hz : ∀ x ∈ ls, x.length ≤ 2 ^ 63 - 1) :
    Calls Tryz.prog 4 #[.string s, v] w fun e w' => e = .returned (.bool true) ∧ Below w.heap.size w w' := by
  obtain ⟨l, hs, hsl⟩ : ∃ l, s = TB l ∧ s.size = l.length := ⟨s.data.toList, by cases s; simp [TB], by cases s; simp [ByteArray.size]⟩
  obtain ⟨A, c, rfl, hc, hm⟩ := h0.form
  have HP := Lib.hid hp
  have HSH := Lib.hid hsh
  have HS := Lib.hid hs
  have HL := Lib.hid h0
  have HZ := Lib.hid hz
  obtain ⟨n, hn⟩ : ∃ n, n = s.size := ⟨_, rfl⟩
  have hsn : s.size = n := hn.symm
  have hln : l.length ≤ n := by omega
  clear hs hsl hn hsh hp h0 hz
  by_cases hbig : 1048576 < n
  · have y : (1048576 : Int) < (n : Int) := by omega
    go_enter Tryz.func4, Tryz.ntmps4
    go_wp2
    go_ret
    exact ⟨rfl, Below.refl _ _⟩
  have y : ¬ (1048576 : Int) < (n : Int) := by omega
  go_enter Tryz.func4, Tryz.ntmps4
  go_wp2_with fail
  refine (szStringS_any 0 w.heap.size _ ls 1048576 w HL.out (by omega) HZ.out).mono ?_
  rintro e w1 ⟨⟨m, rfl, hle⟩, hw1⟩
  subst hw1
  by_cases hneg : m < 0
  · clear hle
    go_wp2
    go_ret
    exact ⟨rfl, Below.refl _ _⟩
  obtain ⟨hl1, hl2⟩ := hle (by omega)
  have HX := Lib.hid hl2
  obtain ⟨k, hk⟩ : ∃ k, k = ls.length := ⟨_, rfl⟩
  have HK := Lib.hid hk
  obtain ⟨R, hR⟩ : ∃ R, R = rdL (rbD l) ls := ⟨_, rfl⟩
  have HR := Lib.hid hR
  obtain ⟨zt, hzt⟩ : ∃ z, z = TB R := ⟨_, rfl⟩
  have HZT := Lib.hid hzt
  have hzn : (zt.toList != zt.toList) = false := by simp
  clear hl2 hle hR hzt hk
  go_wp2_with fail
  refine (toStringS_any 0 w.heap.size _ ls w HL.out (Nat.le_refl _) (by omega)).mono ?_
  rintro e w2 ⟨v2, rfl, o2, b2⟩
  obtain ⟨A2, c2, rfl, hc2, _⟩ := o2.form
  have HB2 := Lib.hid b2
  have HO2 := Lib.hid o2.strs
  have s2 : w.heap.size ≤ w2.heap.size := b2.size
  clear o2 b2
  go_wp2_with fail
  refine (RunDeskS_any _ _ _ l s HS.out ls w2 HO2.out (Nat.le_refl _) (by omega) HX.out).mono ?_
  rw [← HR.out, ← HZT.out]
  rintro e w3 ⟨rfl, b3⟩
  have HB3 := Lib.hid (HB2.out.trans (b3.mono s2))
  have s3 : w2.heap.size ≤ w3.heap.size := b3.size
  clear b3 HO2
  go_wp2_with fail
  refine (toStringS_any 0 w.heap.size _ ls w3 (HL.out.below HB3.out (Nat.le_refl _)) (by omega) (by omega)).mono ?_
  rintro e w4 ⟨v4, rfl, o4, b4⟩
  obtain ⟨A4, c4, rfl, hc4, _⟩ := o4.form
  have HB4 := Lib.hid (HB3.out.trans (b4.mono (by omega)))
  have HO4 := Lib.hid o4.strs
  have s4 : w3.heap.size ≤ w4.heap.size := b4.size
  clear o4 b4
  go_wp2_with fail
  refine (RunDeskI_any B _ _ _ l s HS.out ls w4 (HP.out.below HB4.out) (shaped_below HSH.out HB4.out) HO4.out (Nat.le_refl _) (by omega) HX.out).mono ?_
  rw [← HR.out, ← HZT.out]
  rintro e w5 ⟨rfl, b5⟩
  have HB5 := Lib.hid (HB4.out.trans (b5.mono (by omega)))
  have HO5 := Lib.hid (HO4.out.below b5 (Nat.le_refl _))
  have s5 : w4.heap.size ≤ w5.heap.size := b5.size
  clear b5 HO4
  go_wp2_with fail
  refine (toStringS_any 0 w.heap.size _ ls w5 (HL.out.below HB5.out (Nat.le_refl _)) (by omega) (by omega)).mono ?_
  rintro e w6 ⟨v6, rfl, o6, b6⟩
  obtain ⟨A6, c6, rfl, hc6, _⟩ := o6.form
  have HB6 := Lib.hid (HB5.out.trans (b6.mono (by omega)))
  have HO6 := Lib.hid (HO5.out.below b6 (by omega))
  have HQ6 := Lib.hid o6.strs
  have s6 : w5.heap.size ≤ w6.heap.size := b6.size
  clear o6 b6 HO5
  go_wp2_with fail
  refine (eqStringS_same _ _ _ _ _ _ ls w6 HO6.out (by omega) HQ6.out (Nat.le_refl _)).mono ?_
  rintro e w7 ⟨rfl, b7⟩
  have HB7 := Lib.hid (HB6.out.trans (b7.mono (by omega)))
  clear b7
  go_wp2
  go_ret
  exact ⟨rfl, HB7.out⟩
end Go.Proofs.YtkgepklapglmdaaGreatDoor
