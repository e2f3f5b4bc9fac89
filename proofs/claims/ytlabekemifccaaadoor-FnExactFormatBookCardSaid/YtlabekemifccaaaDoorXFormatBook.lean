/-
  Lemmas and contracts of single functions of this program, used by the proofs of its laws: what each call returns and what becomes of memory. Conditions: the hypotheses of each theorem.
-/
import Derived.Test.YtlabekemifccaaaDoorTxtK
namespace Go.Proofs.YtlabekemifccaaaDoor
open Go.RowKit
attribute [local go_sem ↓] Go.wp_at_zero Go.wp_at_succ

set_option maxRecDepth 100000 in
set_option maxHeartbeats 4000000 in
theorem FnExactFormatBook_walk (B : Nat) (v : Value) (evs : List (List Int)) (w : World) (hp : Pow B w) (h0 : TS w 0 w.heap.size 7 v evs) :
    Calls Tryd.prog 5 #[v] w fun e w' => e = .returned (.bool true) ∧ Below w.heap.size w w' := by
  obtain ⟨A, c, rfl, hc, hm⟩ := h0.form
  have HP := Lib.hid hp
  have HT := Lib.hid h0
  clear h0 hp
  by_cases hl : evs.length ≤ 1048576
  rotate_left
  · go_enter Tryd.func5, Tryd.ntmps5
    go_wp2_with fail
    refine (szEventS_neg A evs.length c 1048576 w (by omega) (by omega)).mono ?_
    rintro e w1 ⟨rfl, rfl⟩
    go_wp2
    go_ret
    exact ⟨rfl, Below.refl _ _⟩
  obtain ⟨R, hR⟩ : ∃ R, R = TB (fmtB evs) := ⟨_, rfl⟩
  have HR := Lib.hid hR
  have hRR : (R.toList == R.toList) = true := by simp
  clear hR
  go_enter Tryd.func5, Tryd.ntmps5
  go_wp2_with fail
  refine (szEventS_any A evs.length c 1048576 w hl (by omega)).mono ?_
  rintro e w1 ⟨rfl, rfl⟩
  have hnn : ¬ ((1048576 - evs.length : Nat) : Int) < 0 := by omega
  go_wp2_with fail
  refine (toEventS_any 0 w.heap.size _ evs w HT.out (Nat.le_refl _) hl).mono ?_
  rintro e w2 ⟨v2, rfl, o2, b2⟩
  obtain ⟨A2, c2, rfl, hc2, _⟩ := o2.form
  have HB2 := Lib.hid b2
  have HO2 := Lib.hid o2.ts
  have hs2 : w.heap.size ≤ w2.heap.size := b2.size
  clear o2 b2
  go_wp2_with fail
  refine (FormatBookS_any _ _ _ evs w2 HO2.out (Nat.le_refl _)).mono ?_
  rw [← HR.out]
  rintro e w3 ⟨rfl, b3⟩
  have HB3 := Lib.hid (HB2.out.trans (b3.mono hs2))
  have hs3 : w2.heap.size ≤ w3.heap.size := b3.size
  clear b3 HO2
  go_wp2_with fail
  refine (toEventS_any 0 w.heap.size _ evs w3 (HT.out.below HB3.out (Nat.le_refl _)) (by omega) hl).mono ?_
  rintro e w4 ⟨v4, rfl, o4, b4⟩
  obtain ⟨A4, c4, rfl, hc4, _⟩ := o4.form
  have HB4 := Lib.hid (HB3.out.trans (b4.mono (by omega)))
  have HO4 := Lib.hid o4.ts
  have hs4 : w3.heap.size ≤ w4.heap.size := b4.size
  clear o4 b4
  go_wp2_with fail
  refine (FormatBookI_any B _ _ _ evs w4 (HP.out.below HB4.out) HO4.out (Nat.le_refl _)).mono ?_
  rw [← HR.out]
  rintro e w5 ⟨rfl, b5⟩
  have HB5 := Lib.hid (HB4.out.trans (b5.mono (by omega)))
  have HO5 := Lib.hid (HO4.out.below b5 (Nat.le_refl _))
  have hs5 : w4.heap.size ≤ w5.heap.size := b5.size
  clear b5 HO4
  go_wp2_with fail
  refine (toEventS_any 0 w.heap.size _ evs w5 (HT.out.below HB5.out (Nat.le_refl _)) (by omega) hl).mono ?_
  rintro e w6 ⟨v6, rfl, o6, b6⟩
  obtain ⟨A6, c6, rfl, hc6, _⟩ := o6.form
  have HB6 := Lib.hid (HB5.out.trans (b6.mono (by omega)))
  have HO6 := Lib.hid (HO5.out.below b6 (by omega))
  have HP6 := Lib.hid o6.ts
  have hs6 : w5.heap.size ≤ w6.heap.size := b6.size
  clear o6 b6 HO5
  go_wp2_with fail
  refine (eqEventS_same _ _ _ _ _ _ evs w6 HO6.out (by omega) HP6.out (Nat.le_refl _)).mono ?_
  rintro e w7 ⟨rfl, b7⟩
  have HB7 := Lib.hid (HB6.out.trans (b7.mono (by omega)))
  clear b7
  go_wp2
  go_ret
  exact ⟨rfl, HB7.out⟩
end Go.Proofs.YtlabekemifccaaaDoor
