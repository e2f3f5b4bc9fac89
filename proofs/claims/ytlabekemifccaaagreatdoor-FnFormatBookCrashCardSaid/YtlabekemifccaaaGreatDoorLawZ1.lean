/-
  Lemmas and contracts of single functions of this program, used by the proofs of its laws: what each call returns and what becomes of memory. Conditions: the hypotheses of each theorem.
-/
import Derived.Test.YtlabekemifccaaaGreatDoorBkP
namespace Go.Proofs.YtlabekemifccaaaGreatDoor
open Go.RowKit
attribute [local go_sem ↓] Go.wp_at_zero Go.wp_at_succ

theorem fmtB_len (rows : List (List Int)) : (fmtB rows).length ≤ 6060 := by
  unfold fmtB
  split
  · rename_i h
    have key : ∀ rows : List (List Int), (fmtJ rows).length ≤ 101 * rows.length := by
      intro rows
      induction rows with
      | nil => simp [fmtJ]
      | cons e t ih =>
        have h1 : fmtJ (e :: t) = fmtE e ++ [10] ++ fmtJ t := by simp [fmtJ]
        have h2 := fmtE_lenJ e
        rw [h1, List.length_append, List.length_append, List.length_singleton, List.length_cons]
        omega
    have := key rows
    omega
  · simp
theorem DrawFormatBook_any (v : Value) (xs : List Int) (w : World) (h : Bytes w 0 w.heap.size v xs) :
    Calls Tryz.prog 5 #[v] w fun e w' => ∃ (A : Option Addr) (n c : Nat) (evs : List Evt), e = .returned (.slice A n c) ∧ n = evs.length ∧ TS w' w.heap.size w'.heap.size 7 (.slice A n c) (evT evs) ∧ evs.length ≤ 20 ∧ Below w.heap.size w w' := by
  have hv : ∃ A n c, v = .slice A n c := by obtain ⟨A, c, e, _⟩ := h; exact ⟨A, _, c, e⟩
  obtain ⟨A0, n0, c0, rfl⟩ := hv
  go_enter Tryz.func5, Tryz.ntmps5
  go_wp2_with fail
  refine (newReader_any _ xs w h).mono ?_
  rintro e w2 ⟨rv, rfl, hr2, bx⟩
  have hz2 := hr2.lt
  have hzz := bx.size
  have HB2 := Lib.hid bx
  clear bx h
  go_wp2_with fail
  refine (anyBook_any _ _ _ _ w2 hr2 (by omega)).mono ?_
  rintro e w3 ⟨A, n, c, evs, rfl, hn, hts, hl, bg⟩
  subst hn
  have HB3 := Lib.hid (HB2.out.trans (below_of_grown bg (B := w.heap.size) (by omega) (by omega)))
  have HT := Lib.hid (hts.wide (show w.heap.size ≤ w2.heap.size by omega) (Nat.le_refl _))
  clear bg hts
  go_wp2
  go_ret
  exact ⟨A, evs.length, c, evs, rfl, rfl, HT.out, hl, HB3.out⟩
set_option maxRecDepth 100000 in
set_option maxHeartbeats 8000000 in
theorem FnFormatBook_walk (B : Nat) (v : Value) (xs : List Int) (w : World) (hp : Pow B w) (hsh : w.ShapedOpen Tryz.prog) (h : Bytes w 0 w.heap.size v xs) :
    Calls Tryz.prog 3 #[v] w fun e w' => e = .returned (.bool true) ∧ Below w.heap.size w w' := by
  have hv : ∃ A c, v = .slice A xs.length c ∧ xs.length ≤ c ∧ c ≤ 2 ^ 63 - 1 := by obtain ⟨A, c, e, h1, h2, _⟩ := h; exact ⟨A, c, e, h1, by unfold maxLen at h2; omega⟩
  obtain ⟨A0, c0, rfl, hc0, hm0⟩ := hv
  have HP := Lib.hid hp
  have HSH := Lib.hid hsh
  clear hp hsh
  by_cases hl : 1048576 < xs.length
  · have hl' : (1048576 : Int) < (xs.length : Int) := by omega
    go_enter Tryz.func3, Tryz.ntmps3
    go_wp2
    go_ret
    exact ⟨rfl, Below.refl _ _⟩
  have hl' : ¬ (1048576 : Int) < (xs.length : Int) := by omega
  go_enter Tryz.func3, Tryz.ntmps3
  go_wp2_with fail
  refine (DrawFormatBook_any _ xs w h).mono ?_
  rintro e w1 ⟨AL, nL, cL, evs, rfl, hn, hts, hl20, b1⟩
  subst hn
  have HB1 := Lib.hid b1
  have HTS := Lib.hid hts
  have hs1 := b1.size
  obtain ⟨T, hT⟩ : ∃ T, T = fmtB (evT evs) := ⟨_, rfl⟩
  have HT := Lib.hid hT
  obtain ⟨zt, hzt⟩ : ∃ z, z = TB T := ⟨_, rfl⟩
  have HZ := Lib.hid hzt
  have HZI := Lib.hid (toList_isEmptyJ zt T hzt)
  have HTL := Lib.hid (show T.length ≤ 6060 by rw [hT]; exact fmtB_len _)
  have HRB := Lib.hid (show T ≠ [] → recB T = evT (evs.map nrmE) ∧ rbV (evs.map nrmE) = rbV evs from fun h9 => by
    rw [hT] at h9 ⊢
    exact ⟨by rw [rec_book h9, evT_nrm], rbV_nrm (fmtB_ne h9).2.1⟩)
  clear h hl hl' b1 hts hT hzt
  go_wp2_with fail
  refine (FormatBookI_any B w.heap.size w1.heap.size _ (evT evs) w1 (HP.out.below HB1.out) HTS.out (Nat.le_refl _)).mono ?_
  rw [← HT.out, ← HZ.out]
  rintro e w2 ⟨rfl, b2⟩
  have HB2 := Lib.hid (HB1.out.trans (b2.mono hs1))
  have HTS2 := Lib.hid (HTS.out.below b2 (Nat.le_refl _))
  have hs2 : w1.heap.size ≤ w2.heap.size := b2.size
  clear b2
  go_wp2_with fail
  refine (FormatBookS_any w.heap.size w1.heap.size _ (evT evs) w2 HTS2.out hs2).mono ?_
  rw [← HT.out, ← HZ.out]
  rintro e w3 ⟨rfl, b3⟩
  have HB3 := Lib.hid (HB2.out.trans (b3.mono (by omega)))
  have HTS3 := Lib.hid (HTS2.out.below b3 hs2)
  have hs3 : w2.heap.size ≤ w3.heap.size := b3.size
  have hzz : (zt.toList == zt.toList) = true := by simp
  clear b3 HTS2
  cases hem : T.isEmpty
  rotate_left
  · have q1 : zt.toList.isEmpty = true := by rw [HZI.out, hem]
    clear hem HRB
    go_wp2_with fail
    refine (FormatBookS_any w.heap.size w1.heap.size _ (evT evs) w3 HTS3.out (by omega)).mono ?_
    rw [← HT.out, ← HZ.out]
    rintro e w4 ⟨rfl, b4⟩
    have HB4 := Lib.hid (HB3.out.trans (b4.mono (by omega)))
    clear b4
    go_wp2
    go_ret
    exact ⟨rfl, HB4.out⟩
  have q1 : zt.toList.isEmpty = false := by rw [HZI.out, hem]
  obtain ⟨hrec, hrb⟩ := HRB.out (fun e => by rw [e] at hem; exact absurd hem (by simp))
  have HREC := Lib.hid hrec
  have HRV := Lib.hid hrb
  clear hem HRB hrec hrb
  go_wp2_with fail
  refine (RecoverBookI_any T zt HZ.out w3 (by have := HTL.out; omega) (shaped_below HSH.out HB3.out)).mono ?_
  rw [HREC.out]
  rintro e w4 ⟨vb, rfl, hob, b4⟩
  have HB4 := Lib.hid (HB3.out.trans (b4.mono (by omega)))
  have HTS4 := Lib.hid (HTS3.out.below b4 (by omega))
  have HOB4 := Lib.hid hob.ts
  have hs4 : w3.heap.size ≤ w4.heap.size := b4.size
  obtain ⟨Ab, cb, rfl, hcb, hcb2⟩ := hob.form
  have hbl : (evT (evs.map nrmE)).length = evs.length := by rw [evT_len, List.length_map]
  rw [hbl] at HOB4 ⊢
  clear b4 hob HTS3 hbl hcb
  obtain ⟨R, hR⟩ : ∃ R, R = rbV evs := ⟨_, rfl⟩
  have HR := Lib.hid hR
  go_wp2_with fail
  refine (RunBook_any w.heap.size w1.heap.size _ evs w4 HTS4.out (by omega)).mono ?_
  rw [← hR]
  intro e w5 hpost
  obtain ⟨v5, rfl, ho5, b5⟩ := hpost
  obtain ⟨⟨es5, a5, b5', z5⟩, hM5⟩ : ∃ M, M = R.getD Mil.nil := ⟨_, rfl⟩
  obtain ⟨rs, hrs⟩ : ∃ rs, rs = R.isSome := ⟨_, rfl⟩
  rw [← hM5] at ho5
  rw [← hM5, ← hrs]
  have HM5 := Lib.hid hM5
  have Hrs := Lib.hid hrs
  dsimp only at ho5 ⊢
  obtain ⟨A5, c5, hv5, _⟩ := ho5.form
  subst hv5
  have HB5 := Lib.hid (HB4.out.trans (b5.mono (by omega)))
  have HOB5 := Lib.hid (HOB4.out.below b5 (Nat.le_refl _))
  have HE5 := Lib.hid ho5.es
  have hs5 : w4.heap.size ≤ w5.heap.size := b5.size
  clear b5 ho5 HTS4 HOB4 hR hM5 hrs
  go_wp2_with fail
  obtain ⟨w6, hw1⟩ : ∃ w6, w6 = w5.alloc (.cells #[.slice A5 es5.length c5, .int .i64 a5, .int .i64 b5', .int .i64 z5] 29) := ⟨_, rfl⟩
  have o0 : w6.cell? ⟨w5.heap.size, 0, none⟩ = some (.slice A5 es5.length c5) := by rw [hw1]; go_simp
  have o1 : w6.cell? ⟨w5.heap.size, 1, none⟩ = some (.int .i64 a5) := by rw [hw1]; go_simp
  have o2 : w6.cell? ⟨w5.heap.size, 2, none⟩ = some (.int .i64 b5') := by rw [hw1]; go_simp
  have o3 : w6.cell? ⟨w5.heap.size, 3, none⟩ = some (.int .i64 z5) := by rw [hw1]; go_simp
  have bo : Below w5.heap.size w5 w6 := by rw [hw1]; exact (Below.refl _ _).alloc (Nat.le_refl _) _
  have zo : w5.heap.size < w6.heap.size := by rw [hw1]; simp
  have Ho := Lib.hid (show w6.heap[w5.heap.size]? = some (.cells #[.slice A5 es5.length c5, .int .i64 a5, .int .i64 b5', .int .i64 z5] 29) by rw [hw1]; exact heap_alloc_new w5 _)
  rw [← hw1]
  clear hw1
  have HB6 := Lib.hid (HB5.out.trans (bo.mono (by omega)))
  have HOB6 := Lib.hid (HOB5.out.below bo (by omega))
  have HE6 := Lib.hid (HE5.out.below bo (Nat.le_refl _))
  have hs6 : w5.heap.size < w6.heap.size := zo
  clear bo Ho zo HOB5 HE5
  refine (RunBook_any w3.heap.size w4.heap.size _ (evs.map nrmE) w6 HOB6.out (by omega)).mono ?_
  rw [HRV.out, ← HR.out]
  intro e w7 hpost
  obtain ⟨v7, rfl, ho7, b7⟩ := hpost
  rw [← HM5.out] at ho7
  rw [← HM5.out, ← Hrs.out]
  dsimp only at ho7 ⊢
  obtain ⟨A7, c7, hv7, _⟩ := ho7.form
  subst hv7
  have HB7 := Lib.hid (HB6.out.trans (b7.mono (by omega)))
  have HE7 := Lib.hid (HE6.out.below b7 (by omega))
  have HF7 := Lib.hid ho7.es
  have hs7 : w6.heap.size ≤ w7.heap.size := b7.size
  replace o0 := keepB b7 o0; replace o1 := keepB b7 o1; replace o2 := keepB b7 o2; replace o3 := keepB b7 o3
  have hll : ((evs.length : Int) == (evs.length : Int)) = true := by simp
  have hrr : (rs == rs) = true := by simp
  clear b7 ho7 HOB6 HE6
  have hbd : Below w7.heap.size w7 (w7.alloc (.cells #[.slice A7 es5.length c7, .int .i64 a5, .int .i64 b5', .int .i64 z5] 29)) := (Below.refl _ _).alloc (Nat.le_refl _) _
  have x_o0 := keepB hbd o0
  have x_o1 := keepB hbd o1
  have x_o2 := keepB hbd o2
  have x_o3 := keepB hbd o3
  go_wp2_with fail
  clear hbd x_o0 x_o1 x_o2 x_o3
  obtain ⟨w8, hw1⟩ : ∃ w8, w8 = w7.alloc (.cells #[.slice A7 es5.length c7, .int .i64 a5, .int .i64 b5', .int .i64 z5] 29) := ⟨_, rfl⟩
  have p0 : w8.cell? ⟨w7.heap.size, 0, none⟩ = some (.slice A7 es5.length c7) := by rw [hw1]; go_simp
  have p1 : w8.cell? ⟨w7.heap.size, 1, none⟩ = some (.int .i64 a5) := by rw [hw1]; go_simp
  have p2 : w8.cell? ⟨w7.heap.size, 2, none⟩ = some (.int .i64 b5') := by rw [hw1]; go_simp
  have p3 : w8.cell? ⟨w7.heap.size, 3, none⟩ = some (.int .i64 z5) := by rw [hw1]; go_simp
  have bp : Below w7.heap.size w7 w8 := by rw [hw1]; exact (Below.refl _ _).alloc (Nat.le_refl _) _
  have zp : w7.heap.size < w8.heap.size := by rw [hw1]; simp
  rw [← hw1]
  clear hw1
  have HB8 := Lib.hid (HB7.out.trans (bp.mono (by omega)))
  have HE8 := Lib.hid (HE7.out.below bp (by omega))
  have HF8 := Lib.hid (HF7.out.below bp (Nat.le_refl _))
  have hs8 : w7.heap.size ≤ w8.heap.size := bp.size
  clear bp
  refine (equalMill_same _ _ _ _ _ _ es5 a5 b5' z5 w8 HE8.out (by omega) HF8.out (by omega)).mono ?_
  rintro e w9 ⟨rfl, b9⟩
  have HB9 := Lib.hid (HB8.out.trans (b9.mono (by omega)))
  clear b9
  go_wp2
  go_ret
  exact ⟨rfl, HB9.out⟩
end Go.Proofs.YtlabekemifccaaaGreatDoor
