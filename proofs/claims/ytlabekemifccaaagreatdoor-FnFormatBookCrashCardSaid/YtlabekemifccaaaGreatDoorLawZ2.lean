/-
  Lemmas and contracts of single functions of this program, used by the proofs of its laws: what each call returns and what becomes of memory. Conditions: the hypotheses of each theorem.
-/
import Derived.Test.YtlabekemifccaaaGreatDoorLawZ1
namespace Go.Proofs.YtlabekemifccaaaGreatDoor
open Go.RowKit
attribute [local go_sem ↓] Go.wp_at_zero Go.wp_at_succ

set_option maxRecDepth 100000 in
set_option maxHeartbeats 8000000 in
theorem FnFormatBookCrash_walk (B : Nat) (v : Value) (xs : List Int) (w : World) (hp : Pow B w) (hsh : w.ShapedOpen Tryz.prog) (h : Bytes w 0 w.heap.size v xs) :
    Calls Tryz.prog 4 #[v] w fun e w' => e = .returned (.bool true) ∧ Below w.heap.size w w' := by
  have HP := Lib.hid hp
  have HSH := Lib.hid hsh
  clear hp hsh
  have hv : ∃ A c, v = .slice A xs.length c ∧ xs.length ≤ c ∧ c ≤ 2 ^ 63 - 1 := by obtain ⟨A, c, e, h1, h2, _⟩ := h; exact ⟨A, c, e, h1, by unfold maxLen at h2; omega⟩
  obtain ⟨A0, c0, rfl, hc0, hm0⟩ := hv
  by_cases hl : 1048576 < xs.length
  · have hl' : (1048576 : Int) < (xs.length : Int) := by omega
    go_enter Tryz.func4, Tryz.ntmps4
    go_wp2
    go_ret
    exact ⟨rfl, Below.refl _ _⟩
  have hl' : ¬ (1048576 : Int) < (xs.length : Int) := by omega
  go_enter Tryz.func4, Tryz.ntmps4
  go_wp2_with fail
  refine (DrawRunBook_any _ xs w h).mono ?_
  rintro e w1 ⟨AL, nL, cL, evs, rfl, hn, hts, hl20, b1⟩
  subst hn
  obtain ⟨hcL, hmL⟩ : evs.length ≤ cL ∧ cL ≤ 2 ^ 63 - 1 := by obtain ⟨A', c', e, q1, q2⟩ := hts.form; rw [evT_len] at e q1; injection e with e1 e2 e3; subst e3; exact ⟨q1, q2⟩
  have hs1 := b1.size
  clear h hl hl'
  go_wp2_with fail
  obtain ⟨R, hR⟩ : ∃ R, R = rbV evs := ⟨_, rfl⟩
  have HR := Lib.hid hR
  refine (RunBook_any w.heap.size w1.heap.size _ evs w1 hts (Nat.le_refl _)).mono ?_
  rw [← hR]
  intro e w3 hpost
  obtain ⟨v3', rfl, ho3, b3⟩ := hpost
  obtain ⟨⟨es5, a5, b5, z5⟩, hM5⟩ : ∃ M, M = R.getD Mil.nil := ⟨_, rfl⟩
  obtain ⟨rs, hrs⟩ : ∃ rs, rs = R.isSome := ⟨_, rfl⟩
  rw [← hM5] at ho3
  rw [← hM5, ← hrs]
  have HM5 := Lib.hid hM5
  have Hrs := Lib.hid hrs
  dsimp only at ho3 ⊢
  obtain ⟨A3, c3, hv3, _⟩ := ho3.form
  subst hv3
  have hts3 := hts.below b3 (by omega)
  have B3 := b1.trans (b3.mono (by omega))
  have hs3 := b3.size
  clear b3 b1 hts hR hM5 hrs
  go_wp2_with fail
  obtain ⟨w4, hw1⟩ : ∃ w4, w4 = w3.alloc (.cells #[.slice A3 es5.length c3, .int .i64 a5, .int .i64 b5, .int .i64 z5] 29) := ⟨_, rfl⟩
  have o0 : w4.cell? ⟨w3.heap.size, 0, none⟩ = some (.slice A3 es5.length c3) := by rw [hw1]; go_simp
  have o1 : w4.cell? ⟨w3.heap.size, 1, none⟩ = some (.int .i64 a5) := by rw [hw1]; go_simp
  have o2 : w4.cell? ⟨w3.heap.size, 2, none⟩ = some (.int .i64 b5) := by rw [hw1]; go_simp
  have o3 : w4.cell? ⟨w3.heap.size, 3, none⟩ = some (.int .i64 z5) := by rw [hw1]; go_simp
  have bo : Below w3.heap.size w3 w4 := by rw [hw1]; exact (Below.refl _ _).alloc (Nat.le_refl _) _
  have zo : w3.heap.size < w4.heap.size := by rw [hw1]; simp
  have Ho := Lib.hid (show w4.heap[w3.heap.size]? = some (.cells #[.slice A3 es5.length c3, .int .i64 a5, .int .i64 b5, .int .i64 z5] 29) by rw [hw1]; exact heap_alloc_new w3 _)
  rw [← hw1]
  clear hw1
  have hts4 := hts3.below bo (by omega)
  have B4 := B3.trans (bo.mono (by omega))
  have ho4 := ho3.below bo (Nat.le_refl _)
  clear bo B3 hts3 ho3 Ho
  refine (sRunBook_any w.heap.size w1.heap.size _ evs w4 hts4 (by omega)).mono ?_
  rw [← HR.out]
  intro e w5 hpost
  obtain ⟨v5', rfl, he5, b5'⟩ := hpost
  rw [← HM5.out] at he5
  rw [← HM5.out, ← Hrs.out]
  dsimp only at he5 ⊢
  obtain ⟨A5, c5, hv5, _⟩ := he5.form
  subst hv5
  have hts5 := hts4.below b5' (by omega)
  have B5 := B4.trans (b5'.mono (by omega))
  have ho5 := ho4.below b5' (by omega)
  have hs5 := b5'.size
  replace o0 := keepB b5' o0; replace o1 := keepB b5' o1; replace o2 := keepB b5' o2; replace o3 := keepB b5' o3
  clear b5' B4 hts4 ho4
  have hbd : Below w5.heap.size w5 (w5.alloc (.cells #[.slice A5 es5.length c5, .int .i64 a5, .int .i64 b5, .int .i64 z5] 29)) := (Below.refl _ _).alloc (Nat.le_refl _) _
  have x_o0 := keepB hbd o0
  have x_o1 := keepB hbd o1
  have x_o2 := keepB hbd o2
  have x_o3 := keepB hbd o3
  go_wp2_with fail
  clear hbd x_o0 x_o1 x_o2 x_o3
  obtain ⟨w6, hw1⟩ : ∃ w6, w6 = w5.alloc (.cells #[.slice A5 es5.length c5, .int .i64 a5, .int .i64 b5, .int .i64 z5] 29) := ⟨_, rfl⟩
  have p0 : w6.cell? ⟨w5.heap.size, 0, none⟩ = some (.slice A5 es5.length c5) := by rw [hw1]; go_simp
  have p1 : w6.cell? ⟨w5.heap.size, 1, none⟩ = some (.int .i64 a5) := by rw [hw1]; go_simp
  have p2 : w6.cell? ⟨w5.heap.size, 2, none⟩ = some (.int .i64 b5) := by rw [hw1]; go_simp
  have p3 : w6.cell? ⟨w5.heap.size, 3, none⟩ = some (.int .i64 z5) := by rw [hw1]; go_simp
  have bp : Below w5.heap.size w5 w6 := by rw [hw1]; exact (Below.refl _ _).alloc (Nat.le_refl _) _
  have zp : w5.heap.size < w6.heap.size := by rw [hw1]; simp
  rw [← hw1]
  clear hw1
  have hts6 := hts5.below bp (by omega)
  have B6 := B5.trans (bp.mono (by omega))
  have ho6 := ho5.below bp (by omega)
  have he6 := he5.below bp (Nat.le_refl _)
  have hs6 := bp.size
  replace o0 := keepB bp o0; replace o1 := keepB bp o1; replace o2 := keepB bp o2; replace o3 := keepB bp o3
  clear bp B5 hts5 ho5 he5
  refine (equalMill_same _ _ _ _ _ _ es5 a5 b5 z5 w6 ho6.es (by omega) he6 (by omega)).mono ?_
  rintro e w7 ⟨rfl, b7⟩
  have hts7 := hts6.below b7 (by omega)
  have B7 := B6.trans (b7.mono (by omega))
  have ho7 := ho6.below b7 (by omega)
  have he7 := he6.below b7 (by omega)
  have hs7 := b7.size
  replace o0 := keepB b7 o0; replace o1 := keepB b7 o1; replace o2 := keepB b7 o2; replace o3 := keepB b7 o3; replace p0 := keepB b7 p0; replace p1 := keepB b7 p1; replace p2 := keepB b7 p2; replace p3 := keepB b7 p3
  clear b7 B6 hts6 ho6 he6
  cases rs
  · have hb1 : (false != false) = false := rfl
    have hb2 : (false == false) = true := rfl
    go_wp2_with fail
    refine (equalMill_same _ _ _ _ _ _ es5 a5 b5 z5 w7 ho7.es (by omega) he7 (by omega)).mono ?_
    rintro e w8 ⟨rfl, b8⟩
    have B8 := B7.trans (b8.mono (by omega))
    clear b8 B7
    go_wp2
    go_ret
    exact ⟨rfl, B8⟩
  have HS : Hid (runB Mil.nil evs = some ⟨es5, a5, b5, z5⟩) := by
    have e1 := HR.out
    have e2 := HM5.out
    have e3 := Hrs.out
    cases hR9 : R with
    | none => rw [hR9] at e3; cases e3
    | some m9 =>
      rw [hR9] at e1 e2
      unfold rbV at e1
      rw [if_pos (by omega)] at e1
      show runB Mil.nil evs = _
      rw [← e1, e2]; rfl
  have Hts := Lib.hid hts7
  have HB7 := Lib.hid B7
  have Hoe := Lib.hid ho7
  have hb1 : (true != true) = false := rfl
  have hb2 : (true == true) = true := rfl
  have hw1 : w.heap.size ≤ w1.heap.size := hs1
  have hw2 : w1.heap.size ≤ w7.heap.size := by omega
  have hw3 : w3.heap.size ≤ w7.heap.size := by omega
  clear hts7 B7 ho7 he7 HR HM5 Hrs R p0 p1 p2 p3
  obtain ⟨T, hT⟩ : ∃ T, T = fmtB (evT evs) := ⟨_, rfl⟩
  have HT := Lib.hid hT
  obtain ⟨zt, hzt⟩ : ∃ z, z = TB T := ⟨_, rfl⟩
  have HZ := Lib.hid hzt
  have HZI := Lib.hid (toList_isEmptyJ zt T hzt)
  have HTL := Lib.hid (show T.length ≤ 6060 by rw [hT]; exact fmtB_len _)
  have HNE := Lib.hid (show T ≠ [] → ¬ evs.length = 0 from fun h9 h0 => h9 (by rw [hT, List.eq_nil_of_length_eq_zero h0]; rfl))
  have HRB := Lib.hid (show ∀ n, evs.length = n + 1 → T ≠ [] → recB (T.take (T.length - 1)) = evT ((evs.take n).map nrmE) ∧ rbV ((evs.take n).map nrmE) = rbV (evs.take n) from fun n hn h9 => by
    rw [hT] at h9 ⊢
    have h8 := fmtB_ne h9
    refine ⟨?_, rbV_nrm fun e he => h8.2.1 e ?_⟩
    · rw [rec_torn h9, evT_len, hn, Nat.add_sub_cancel, evT_take, evT_nrm]
    · rw [← evT_take] at he; exact List.mem_of_mem_take he)
  clear hT hzt
  go_wp2_with fail
  refine (FormatBookI_any B w.heap.size w1.heap.size _ (evT evs) w7 (HP.out.below HB7.out) Hts.out (by omega)).mono ?_
  rw [← HT.out, ← HZ.out]
  rintro e wf ⟨rfl, bf⟩
  replace Hts := Lib.hid (Hts.out.below bf (by omega))
  replace Hoe := Lib.hid (Hoe.out.below bf (by omega))
  replace HB7 := Lib.hid (HB7.out.trans (bf.mono (by omega)))
  have hwf : w7.heap.size ≤ wf.heap.size := bf.size
  replace o0 := keepB bf o0; replace o1 := keepB bf o1; replace o2 := keepB bf o2; replace o3 := keepB bf o3
  clear bf
  cases hem : T.isEmpty
  rotate_left
  · have q1 : zt.toList.isEmpty = true := by rw [HZI.out, hem]
    clear hem HRB HNE
    go_wp2
    go_ret
    exact ⟨rfl, HB7.out⟩
  have q1 : zt.toList.isEmpty = false := by rw [HZI.out, hem]
  have hTn : T ≠ [] := fun e => by rw [e] at hem; exact absurd hem (by simp)
  have h0 := HNE.out hTn
  obtain ⟨n9, hn9⟩ : ∃ n, evs.length = n + 1 := ⟨evs.length - 1, by omega⟩
  obtain ⟨hrec, hrb⟩ := HRB.out n9 hn9 hTn
  have HREC := Lib.hid hrec
  have HRBV := Lib.hid hrb
  have HN9 := Lib.hid hn9
  obtain ⟨N, hN⟩ : ∃ N, N = T.length := ⟨_, rfl⟩
  obtain ⟨M, hM⟩ : ∃ M, M = N - 1 := ⟨_, rfl⟩
  have hN1 : 1 ≤ N := by rw [hN]; cases T with | nil => exact absurd rfl hTn | cons a t => simp
  have hN6 : N ≤ 6060 := by rw [hN]; exact HTL.out
  have hzs : zt.size = N := by rw [HZ.out, TB_size, hN]
  have hNM : (N : Int) - 1 = (M : Int) := by omega
  have gN1 : wrap64 ((N : Int) - 1) = (M : Int) := by rw [hNM]; exact w64 (by omega)
  have gN2 : IntKind.i64.wrap (M : Int) = (M : Int) := IntWalk.i64_in _ (by omega)
  have hM0 : (0 : Int) ≤ (M : Int) := by omega
  have hM1 : (M : Int) ≤ (N : Int) := by omega
  obtain ⟨tk, htk⟩ : ∃ tk, tk = T.take M := ⟨_, rfl⟩
  obtain ⟨E0, hE0⟩ : ∃ E, E = zt.extract 0 M := ⟨_, rfl⟩
  have hE1 : zt.extract 0 M = E0 := hE0.symm
  have HEX := Lib.hid (show E0 = TB tk by rw [hE0, HZ.out, TB_ext, htk]; simp)
  have HTK := Lib.hid (show recB tk = evT ((evs.take n9).map nrmE) by rw [htk, hM, hN]; exact hrec)
  have htl : tk.length ≤ 6060 := by rw [htk, List.length_take]; omega
  clear hem HRB HNE hrec hrb hn9 hN hM htk hE0 hTn
  go_wp2_with fail
  refine (RecoverBookI_any tk E0 HEX.out wf (by omega) (shaped_below HSH.out HB7.out)).mono ?_
  rw [HTK.out]
  rintro e wg ⟨vb, rfl, hob, bg⟩
  replace Hts := Lib.hid (Hts.out.below bg (by omega))
  replace Hoe := Lib.hid (Hoe.out.below bg (by omega))
  replace HB7 := Lib.hid (HB7.out.trans (bg.mono (by omega)))
  have hwg : wf.heap.size ≤ wg.heap.size := bg.size
  replace o0 := keepB bg o0; replace o1 := keepB bg o1; replace o2 := keepB bg o2; replace o3 := keepB bg o3
  have Htb := Lib.hid hob.ts
  obtain ⟨Ab, cb, rfl, hcb, hcb2⟩ := hob.form
  have hbl : (evT ((evs.take n9).map nrmE)).length = n9 := by rw [evT_len, List.length_map, List.length_take]; have := HN9.out; omega
  rw [hbl] at Htb hcb ⊢
  clear bg hob hbl
  have hw2 : w1.heap.size ≤ wg.heap.size := by omega
  have hw3 : w3.heap.size ≤ wg.heap.size := by omega
  obtain ⟨n, hnn9⟩ : ∃ n, n = n9 := ⟨_, rfl⟩
  rw [← hnn9] at Htb hcb HTK HRBV ⊢
  have hn : evs.length = n + 1 := by rw [hnn9]; exact HN9.out
  clear hnn9
  have hlt : n < evs.length := by omega
  have HSP : Hid (∃ m1 : Mil, runB Mil.nil (evs.take n) = some m1 ∧ apE m1 (ve evs n) = some ⟨es5, a5, b5, z5⟩) := by
    have h1 := HS.out
    have h2 : evs = evs.take n ++ [ve evs n] := by rw [← take_ve hlt, List.take_of_length_le (by omega)]
    rw [h2, runB_snoc] at h1
    cases h3 : runB Mil.nil (evs.take n) with
    | none => rw [h3] at h1; cases h1
    | some m1 => rw [h3] at h1; exact ⟨m1, rfl, h1⟩
  obtain ⟨⟨es1, a1, b1, z1⟩, hm1, hap⟩ := HSP.out
  have HOK1 := Lib.hid (runB_ok nil_ok hm1).1
  have h64 := ve_v64 Hts.out hlt
  obtain ⟨E, hE⟩ : ∃ E, E = ve evs n := ⟨_, rfl⟩
  rw [← hE] at hap h64
  have HE := Lib.hid hE
  obtain ⟨ek, lb, l, r, f, t, g⟩ := E
  have HAP := Lib.hid hap
  have H64 := Lib.hid h64
  have HRV := Lib.hid (show rbV (evs.take n) = some ⟨es1, a1, b1, z1⟩ by unfold rbV; rw [if_pos (by rw [List.length_take]; omega)]; exact hm1)
  have hlm : (evs.length : Int) - 1 = (n : Int) := by omega
  have g1 : wrap64 ((evs.length : Int) - 1) = (n : Int) := by rw [hlm]; exact w64 (by omega)
  have g2 : IntKind.i64.wrap ((evs.length : Int) - 1) = (n : Int) := by rw [hlm]; exact IntWalk.i64_in _ (by omega)
  have hn0 : (0 : Int) ≤ (n : Int) := by omega
  have hn1 : (n : Int) < (evs.length : Int) := by omega
  have hn2 : (n : Int) ≤ (cL : Int) := by omega
  have hncL : n ≤ cL := by omega
  have Hn := Lib.hid hn
  clear hE hap h64 hm1 HSP h0 hlt hlm hn HS
  go_wp2_with fail
  refine (RunBook_any wf.heap.size wg.heap.size _ ((evs.take n).map nrmE) wg Htb.out (Nat.le_refl _)).mono ?_
  rw [HRBV.out, HRV.out]
  rintro e w8' ⟨u8, rfl, ho8, b8⟩
  dsimp only [Option.getD_some, Option.isSome_some] at ho8 ⊢
  obtain ⟨A8, c8, rfl, _⟩ := ho8.form
  replace o0 := keepB b8 o0; replace o1 := keepB b8 o1; replace o2 := keepB b8 o2; replace o3 := keepB b8 o3
  have B8 := HB7.out.trans (b8.mono (by omega))
  have hts8 := Hts.out.below b8 (by omega)
  have hoe8 := Hoe.out.below b8 (by omega)
  have hz8 := b8.size
  clear b8
  go_wp2_with fail
  obtain ⟨w8, hw1⟩ : ∃ w8, w8 = w8'.alloc (.cells #[.slice A8 es1.length c8, .int .i64 a1, .int .i64 b1, .int .i64 z1] 29) := ⟨_, rfl⟩
  have y_0 : w8.cell? ⟨w8'.heap.size, 0, none⟩ = some (.slice A8 es1.length c8) := by rw [hw1]; go_simp
  have y_1 : w8.cell? ⟨w8'.heap.size, 1, none⟩ = some (.int .i64 a1) := by rw [hw1]; go_simp
  have y_2 : w8.cell? ⟨w8'.heap.size, 2, none⟩ = some (.int .i64 b1) := by rw [hw1]; go_simp
  have y_3 : w8.cell? ⟨w8'.heap.size, 3, none⟩ = some (.int .i64 z1) := by rw [hw1]; go_simp
  have by_ : Below w8'.heap.size w8' w8 := by rw [hw1]; exact (Below.refl _ _).alloc (Nat.le_refl _) _
  have zy_ : w8'.heap.size < w8.heap.size := by rw [hw1]; simp
  have Hy_ := Lib.hid (show w8.heap[w8'.heap.size]? = some (.cells #[.slice A8 es1.length c8, .int .i64 a1, .int .i64 b1, .int .i64 z1] 29) by rw [hw1]; exact heap_alloc_new w8' _)
  rw [← hw1]
  clear hw1
  replace o0 := keepB by_ o0; replace o1 := keepB by_ o1; replace o2 := keepB by_ o2; replace o3 := keepB by_ o3
  have B9 := Lib.hid (B8.trans (by_.mono (by omega)))
  have Hts9 := Lib.hid (hts8.below by_ (by omega))
  have Hoe9 := Lib.hid (hoe8.below by_ (by omega))
  have Ho9 := Lib.hid ((ho8.below by_ (Nat.le_refl _)).wide (Nat.le_refl _) by_.size)
  obtain ⟨X, hX⟩ : ∃ X, X = w8'.heap.size := ⟨_, rfl⟩
  rw [← hX] at y_0 y_1 y_2 y_3 zy_
  rw [← hX]
  obtain ⟨bL, oL, rfl, hbl1, hbl2, e0, e1, e2, e3, e4, e5, e6⟩ := Hts9.out.c7 (i := n) (by rw [evT_len]; omega)
  rw [ve_row (by omega), ← HE.out] at e0 e1 e2 e3 e4 e5 e6
  replace e0 : w8.cell? ⟨bL, oL + n * 7, none⟩ = some (.int .i64 ek) := e0
  replace e1 : w8.cell? ⟨bL, oL + n * 7 + 1, none⟩ = some (.int .i64 lb) := e1
  replace e2 : w8.cell? ⟨bL, oL + n * 7 + 2, none⟩ = some (.int .i64 l) := e2
  replace e3 : w8.cell? ⟨bL, oL + n * 7 + 3, none⟩ = some (.int .i64 r) := e3
  replace e4 : w8.cell? ⟨bL, oL + n * 7 + 4, none⟩ = some (.int .i64 f) := e4
  replace e5 : w8.cell? ⟨bL, oL + n * 7 + 5, none⟩ = some (.int .i64 t) := e5
  replace e6 : w8.cell? ⟨bL, oL + n * 7 + 6, none⟩ = some (.int .i64 g) := e6
  have hX8 : wg.heap.size ≤ X := by omega
  have hoX : w3.heap.size < w8.heap.size := World.block_lt_of_cell? w8 _ o0
  clear by_ B8 hts8 hoe8 ho8 Hy_ hX HE Htb Hts Hoe HB7
  refine wp_region_held_drew (S := fun w' => w'.cell? ⟨X, 0, none⟩ = some (.slice A8 es1.length c8) ∧ w'.cell? ⟨X, 1, none⟩ = some (.int .i64 a1) ∧ w'.cell? ⟨X, 2, none⟩ = some (.int .i64 b1) ∧ w'.cell? ⟨X, 3, none⟩ = some (.int .i64 z1) ∧ w'.cell? ⟨bL, oL + n * 7, none⟩ = some (.int .i64 ek) ∧ w'.cell? ⟨bL, oL + n * 7 + 1, none⟩ = some (.int .i64 lb) ∧ w'.cell? ⟨bL, oL + n * 7 + 2, none⟩ = some (.int .i64 l) ∧ w'.cell? ⟨bL, oL + n * 7 + 3, none⟩ = some (.int .i64 r) ∧ w'.cell? ⟨bL, oL + n * 7 + 4, none⟩ = some (.int .i64 f) ∧ w'.cell? ⟨bL, oL + n * 7 + 5, none⟩ = some (.int .i64 t) ∧ w'.cell? ⟨bL, oL + n * 7 + 6, none⟩ = some (.int .i64 g)) (by kernel_rfl) ?_ (fun hHeld => ?_)
  · (first | (try dsimp only); go_keep | (go_split_ands; refine ⟨?_, ?_, ?_, ?_, ?_, ?_, ?_, ?_, ?_, ?_, ?_⟩ <;> first | exact keepB bx5 (by assumption) | exact keepB bx4 (by assumption) | exact keepB bx3 (by assumption) | exact keepB bx2 (by assumption) | exact keepB bx1 (by assumption) | exact keepO bo5 (by first | (simp; done) | (simp; omega)) (by assumption) | exact keepO bo4 (by first | (simp; done) | (simp; omega)) (by assumption) | exact keepO bo3 (by first | (simp; done) | (simp; omega)) (by assumption) | exact keepO bo2 (by first | (simp; done) | (simp; omega)) (by assumption) | exact keepO bo1 (by first | (simp; done) | (simp; omega)) (by assumption) | exact keepW bg2 (by first | (simp; done) | (simp; omega)) (by assumption) | exact keepW bg1 (by first | (simp; done) | (simp; omega)) (by assumption) | assumption))
  refine wpAnyH_take (i := 0) (oi := ⟨some 66, _, _, _, _, _⟩) (v := _) rfl (by kernel_rfl) (by kernel_rfl) (by kernel_rfl) (fun _ _ _ h => h) (Or.inl ⟨by kernel_rfl, by intro w hSw; (try dsimp only at hSw); go_simp; try with_reducible rfl⟩) (by assumption) ?_
  simp only [Act.put, List.setIfInBounds_toArray, List.set_cons_zero, List.set_cons_succ]
  refine wpAnyH_take (i := 1) (oi := ⟨some 67, _, _, _, _, _⟩) (v := _) rfl (by kernel_rfl) (by kernel_rfl) (by kernel_rfl) (fun _ _ _ h => h) (Or.inl ⟨by kernel_rfl, by intro w hSw; (try dsimp only at hSw); go_simp; try with_reducible rfl⟩) (by assumption) ?_
  simp only [Act.put, List.setIfInBounds_toArray, List.set_cons_zero, List.set_cons_succ]
  refine wpAnyH_take (i := 2) (oi := ⟨some 68, _, _, _, _, _⟩) (v := _) rfl (by kernel_rfl) (by kernel_rfl) (by kernel_rfl) (fun _ _ _ h => h) (Or.inl ⟨by kernel_rfl, by intro w hSw; (try dsimp only at hSw); go_simp; try with_reducible rfl⟩) (by assumption) ?_
  simp only [Act.put, List.setIfInBounds_toArray, List.set_cons_zero, List.set_cons_succ]
  refine wpAnyH_take (i := 3) (oi := ⟨some 69, _, _, _, _, _⟩) (v := _) rfl (by kernel_rfl) (by kernel_rfl) (by kernel_rfl) (fun _ _ _ h => h) (Or.inl ⟨by kernel_rfl, by intro w hSw; (try dsimp only at hSw); go_simp; try with_reducible rfl⟩) (by assumption) ?_
  simp only [Act.put, List.setIfInBounds_toArray, List.set_cons_zero, List.set_cons_succ]
  refine wpAnyH_take (i := 4) (oi := ⟨some 70, _, _, _, _, _⟩) (v := _) rfl (by kernel_rfl) (by kernel_rfl) (by kernel_rfl) (fun _ _ _ h => h) (Or.inl ⟨by kernel_rfl, by intro w hSw; (try dsimp only at hSw); go_simp; try with_reducible rfl⟩) (by assumption) ?_
  simp only [Act.put, List.setIfInBounds_toArray, List.set_cons_zero, List.set_cons_succ]
  refine wpAnyH_take (i := 5) (oi := ⟨some 71, _, _, _, _, _⟩) (v := _) rfl (by kernel_rfl) (by kernel_rfl) (by kernel_rfl) (fun _ _ _ h => h) (Or.inl ⟨by kernel_rfl, by intro w hSw; (try dsimp only at hSw); go_simp; try with_reducible rfl⟩) (by assumption) ?_
  simp only [Act.put, List.setIfInBounds_toArray, List.set_cons_zero, List.set_cons_succ]
  refine wpAnyH_take (i := 6) (oi := ⟨some 72, _, _, _, _, _⟩) (v := _) rfl (by kernel_rfl) (by kernel_rfl) (by kernel_rfl) (fun _ _ _ h => h) (Or.inl ⟨by kernel_rfl, by intro w hSw; (try dsimp only at hSw); go_simp; try with_reducible rfl⟩) (by assumption) ?_
  simp only [Act.put, List.setIfInBounds_toArray, List.set_cons_zero, List.set_cons_succ]
  refine wpAnyH_ready (rs := [7, 11]) (by kernel_rfl) (by simp) (AllReadyH.cons (o := ⟨some 73, _, _, _, _, _⟩) rfl (fun K hK => ?_) (AllReadyH.cons (o := ⟨some 12, _, _, _, _, _⟩) rfl (fun K hK => ?_) (AllReadyH.nil)))
  focus
    go_simp
    go_at_call 13
    refine (ApplyEvent_any wg.heap.size w8.heap.size _ ⟨es1, a1, b1, z1⟩ ⟨ek, lb, l, r, f, t, g⟩ _ (Ho9.out.es.drewN 1) (by simp) (Mil.i64 (m := ⟨es1, a1, b1, z1⟩) HOK1.out) H64.out).mono ?_
    rw [apV_ok _ HOK1.out, HAP.out]
    rintro e wA ⟨uA, rfl, hoA, bA⟩
    dsimp only [Option.getD_some, Option.isSome_some] at hoA ⊢
    obtain ⟨AA, cA, rfl, _⟩ := hoA.form
    have bA2 := of_drew bA
    have hzA := bA2.size
    replace y_0 := keepB bA2 y_0; replace y_1 := keepB bA2 y_1; replace y_2 := keepB bA2 y_2; replace y_3 := keepB bA2 y_3; replace e0 := keepB bA2 e0; replace e1 := keepB bA2 e1; replace e2 := keepB bA2 e2; replace e3 := keepB bA2 e3; replace e4 := keepB bA2 e4; replace e5 := keepB bA2 e5; replace e6 := keepB bA2 e6; replace o0 := keepB bA2 o0; replace o1 := keepB bA2 o1; replace o2 := keepB bA2 o2; replace o3 := keepB bA2 o3
    go_wp2_with fail
    refine hK.out _ _ ?_ (fun hHeld2 => ?_)
    · (first | (try dsimp only); go_keep | (go_split_ands; refine ⟨?_, ?_, ?_, ?_, ?_, ?_, ?_, ?_, ?_, ?_, ?_⟩ <;> first | exact keepB bx5 (by assumption) | exact keepB bx4 (by assumption) | exact keepB bx3 (by assumption) | exact keepB bx2 (by assumption) | exact keepB bx1 (by assumption) | exact keepO bo5 (by first | (simp; done) | (simp; omega)) (by assumption) | exact keepO bo4 (by first | (simp; done) | (simp; omega)) (by assumption) | exact keepO bo3 (by first | (simp; done) | (simp; omega)) (by assumption) | exact keepO bo2 (by first | (simp; done) | (simp; omega)) (by assumption) | exact keepO bo1 (by first | (simp; done) | (simp; omega)) (by assumption) | exact keepW bg2 (by first | (simp; done) | (simp; omega)) (by assumption) | exact keepW bg1 (by first | (simp; done) | (simp; omega)) (by assumption) | assumption))
    clear hK K hHeld
    have hHeld := hHeld2
    clear hHeld2
    try simp only [Act.put, List.setIfInBounds_toArray, List.set_cons_zero, List.set_cons_succ]
    refine wpAnyH_take (i := 8) (oi := ⟨some 65, _, _, _, _, _⟩) (v := _) rfl (by kernel_rfl) (by kernel_rfl) (by kernel_rfl) (fun _ _ _ h => h) (Or.inl ⟨by kernel_rfl, by intro w hSw; (try dsimp only at hSw); go_simp; try with_reducible rfl⟩) (by assumption) ?_
    simp only [Act.put, List.setIfInBounds_toArray, List.set_cons_zero, List.set_cons_succ]
    refine wpAnyH_take (i := 9) (oi := ⟨some 74, _, _, _, _, _⟩) (v := _) rfl (by kernel_rfl) (by kernel_rfl) (by kernel_rfl) (fun _ _ _ h => h) (Or.inl ⟨by kernel_rfl, by intro w hSw; (try dsimp only at hSw); go_simp; try with_reducible rfl⟩) (by assumption) ?_
    simp only [Act.put, List.setIfInBounds_toArray, List.set_cons_zero, List.set_cons_succ]
    refine wpAnyH_take (i := 10) (oi := ⟨some 75, _, _, _, _, _⟩) (v := _) rfl (by kernel_rfl) (by kernel_rfl) (by kernel_rfl) (fun _ _ _ h => h) (Or.inl ⟨by kernel_rfl, by intro w hSw; (try dsimp only at hSw); go_simp; try with_reducible rfl⟩) (by assumption) ?_
    simp only [Act.put, List.setIfInBounds_toArray, List.set_cons_zero, List.set_cons_succ]
    refine wpAnyH_ready (rs := [11]) (by kernel_rfl) (by simp) ?_
    refine AllReadyH.cons (o := ⟨some 12, _, _, _, _, _⟩) rfl (fun K hK => ?_) AllReadyH.nil
    go_simp
    refine hK.out _ _ ?_ (fun hHeld2 => ?_)
    · (first | (try dsimp only); go_keep | (go_split_ands; refine ⟨?_, ?_, ?_, ?_, ?_, ?_, ?_, ?_, ?_, ?_, ?_⟩ <;> first | exact keepB bx5 (by assumption) | exact keepB bx4 (by assumption) | exact keepB bx3 (by assumption) | exact keepB bx2 (by assumption) | exact keepB bx1 (by assumption) | exact keepO bo5 (by first | (simp; done) | (simp; omega)) (by assumption) | exact keepO bo4 (by first | (simp; done) | (simp; omega)) (by assumption) | exact keepO bo3 (by first | (simp; done) | (simp; omega)) (by assumption) | exact keepO bo2 (by first | (simp; done) | (simp; omega)) (by assumption) | exact keepO bo1 (by first | (simp; done) | (simp; omega)) (by assumption) | exact keepW bg2 (by first | (simp; done) | (simp; omega)) (by assumption) | exact keepW bg1 (by first | (simp; done) | (simp; omega)) (by assumption) | assumption))
    clear hK K hHeld
    have hHeld := hHeld2
    clear hHeld2
    try simp only [Act.put, List.setIfInBounds_toArray, List.set_cons_zero, List.set_cons_succ]
    refine wpAnyH_ready (rs := [12]) (by kernel_rfl) (by simp) ?_
    refine AllReadyH.cons (o := ⟨none, _, _, _, _, _⟩) rfl (fun K hK => ?_) AllReadyH.nil
    go_simp
    refine hK.out _ _ ?_ (fun hHeld2 => ?_)
    · (first | (try dsimp only); go_keep | (go_split_ands; refine ⟨?_, ?_, ?_, ?_, ?_, ?_, ?_, ?_, ?_, ?_, ?_⟩ <;> first | exact keepB bx5 (by assumption) | exact keepB bx4 (by assumption) | exact keepB bx3 (by assumption) | exact keepB bx2 (by assumption) | exact keepB bx1 (by assumption) | exact keepO bo5 (by first | (simp; done) | (simp; omega)) (by assumption) | exact keepO bo4 (by first | (simp; done) | (simp; omega)) (by assumption) | exact keepO bo3 (by first | (simp; done) | (simp; omega)) (by assumption) | exact keepO bo2 (by first | (simp; done) | (simp; omega)) (by assumption) | exact keepO bo1 (by first | (simp; done) | (simp; omega)) (by assumption) | exact keepW bg2 (by first | (simp; done) | (simp; omega)) (by assumption) | exact keepW bg1 (by first | (simp; done) | (simp; omega)) (by assumption) | assumption))
    clear hK K hHeld
    have hHeld := hHeld2
    clear hHeld2
    try simp only [Act.put, List.setIfInBounds_toArray, List.set_cons_zero, List.set_cons_succ]
    refine wpAnyH_take (i := 13) (oi := ⟨some 13, _, _, _, _, _⟩) (v := _) rfl (by kernel_rfl) (by kernel_rfl) (by kernel_rfl) (fun _ _ _ h => h) (Or.inl ⟨by kernel_rfl, by intro w hSw; (try dsimp only at hSw); go_simp; try with_reducible rfl⟩) (by assumption) ?_
    simp only [Act.put, List.setIfInBounds_toArray, List.set_cons_zero, List.set_cons_succ]
    refine wpAnyH_done (by kernel_rfl) ?_ _
  rotate_left 1
  focus
    go_simp
    refine hK.out _ _ ?_ (fun hHeld2 => ?_)
    · (first | (try dsimp only); go_keep | (go_split_ands; refine ⟨?_, ?_, ?_, ?_, ?_, ?_, ?_, ?_, ?_, ?_, ?_⟩ <;> first | exact keepB bx5 (by assumption) | exact keepB bx4 (by assumption) | exact keepB bx3 (by assumption) | exact keepB bx2 (by assumption) | exact keepB bx1 (by assumption) | exact keepO bo5 (by first | (simp; done) | (simp; omega)) (by assumption) | exact keepO bo4 (by first | (simp; done) | (simp; omega)) (by assumption) | exact keepO bo3 (by first | (simp; done) | (simp; omega)) (by assumption) | exact keepO bo2 (by first | (simp; done) | (simp; omega)) (by assumption) | exact keepO bo1 (by first | (simp; done) | (simp; omega)) (by assumption) | exact keepW bg2 (by first | (simp; done) | (simp; omega)) (by assumption) | exact keepW bg1 (by first | (simp; done) | (simp; omega)) (by assumption) | assumption))
    clear hK K hHeld
    have hHeld := hHeld2
    clear hHeld2
    try simp only [Act.put, List.setIfInBounds_toArray, List.set_cons_zero, List.set_cons_succ]
    refine wpAnyH_ready (rs := [7]) (by kernel_rfl) (by simp) ?_
    refine AllReadyH.cons (o := ⟨some 73, _, _, _, _, _⟩) rfl (fun K hK => ?_) AllReadyH.nil
    go_simp
    obtain ⟨wq, hwq⟩ : ∃ wq, wq = (w8.alloc (.cells #[.slice none 0 0, .int .i64 0, .int .i64 0, .int .i64 0] 29)).drew := ⟨_, rfl⟩
    have bq : Below w8.heap.size w8 wq := by rw [hwq]; exact ((Below.refl _ _).alloc (Nat.le_refl _) _).trans ((Qt.one _ 1).below _)
    have hzq : w8.heap.size < wq.heap.size := by rw [hwq]; simp
    have hqb : MB wq w8.heap.size (.slice none 0 0) 0 0 0 := by rw [hwq]; exact heap_alloc_new w8 _
    obtain ⟨⟨d0, d1, d2, d3⟩, ⟨fd0, fd1, fd2, fd3⟩⟩ := hqb.cells
    have Hqb := Lib.hid hqb
    clear hqb
    have hne1 : ¬ w8.heap.size = X := by omega
    have hne2 : ¬ w8.heap.size = bL := by omega
    have hne3 : ¬ w8.heap.size = w3.heap.size := by omega
    rw [← hwq]
    clear hwq
    replace y_0 := keepB bq y_0; replace y_1 := keepB bq y_1; replace y_2 := keepB bq y_2; replace y_3 := keepB bq y_3; replace e0 := keepB bq e0; replace e1 := keepB bq e1; replace e2 := keepB bq e2; replace e3 := keepB bq e3; replace e4 := keepB bq e4; replace e5 := keepB bq e5; replace e6 := keepB bq e6; replace o0 := keepB bq o0; replace o1 := keepB bq o1; replace o2 := keepB bq o2; replace o3 := keepB bq o3
    refine (ApplyEvent_any wg.heap.size w8.heap.size _ ⟨es1, a1, b1, z1⟩ ⟨ek, lb, l, r, f, t, g⟩ wq (Ho9.out.es.below bq (Nat.le_refl _)) (by omega) (Mil.i64 (m := ⟨es1, a1, b1, z1⟩) HOK1.out) H64.out).mono ?_
    rw [apV_ok _ HOK1.out, HAP.out]
    rintro e wA ⟨uA, rfl, hoA, bA⟩
    dsimp only [Option.getD_some, Option.isSome_some] at hoA ⊢
    obtain ⟨AA, cA, rfl, _⟩ := hoA.form
    have bA2 := bq.trans (bA.mono (by omega))
    have hzA := bA2.size
    replace y_0 := keepB bA y_0; replace y_1 := keepB bA y_1; replace y_2 := keepB bA y_2; replace y_3 := keepB bA y_3; replace e0 := keepB bA e0; replace e1 := keepB bA e1; replace e2 := keepB bA e2; replace e3 := keepB bA e3; replace e4 := keepB bA e4; replace e5 := keepB bA e5; replace e6 := keepB bA e6; replace o0 := keepB bA o0; replace o1 := keepB bA o1; replace o2 := keepB bA o2; replace o3 := keepB bA o3; replace d0 := keepB bA d0; replace d1 := keepB bA d1; replace d2 := keepB bA d2; replace d3 := keepB bA d3
    replace fd0 := keepF bA (by first | (simp; done) | (simp; omega)) fd0; replace fd1 := keepF bA (by first | (simp; done) | (simp; omega)) fd1; replace fd2 := keepF bA (by first | (simp; done) | (simp; omega)) fd2; replace fd3 := keepF bA (by first | (simp; done) | (simp; omega)) fd3
    go_wp2_with fail
    refine hK.out _ _ ?_ (fun hHeld2 => ?_)
    · (first | (try dsimp only); go_keep | (go_split_ands; refine ⟨?_, ?_, ?_, ?_, ?_, ?_, ?_, ?_, ?_, ?_, ?_⟩ <;> first | exact keepB bx5 (by assumption) | exact keepB bx4 (by assumption) | exact keepB bx3 (by assumption) | exact keepB bx2 (by assumption) | exact keepB bx1 (by assumption) | exact keepO bo5 (by first | (simp; done) | (simp; omega)) (by assumption) | exact keepO bo4 (by first | (simp; done) | (simp; omega)) (by assumption) | exact keepO bo3 (by first | (simp; done) | (simp; omega)) (by assumption) | exact keepO bo2 (by first | (simp; done) | (simp; omega)) (by assumption) | exact keepO bo1 (by first | (simp; done) | (simp; omega)) (by assumption) | exact keepW bg2 (by first | (simp; done) | (simp; omega)) (by assumption) | exact keepW bg1 (by first | (simp; done) | (simp; omega)) (by assumption) | assumption))
    clear hK K hHeld
    have hHeld := hHeld2
    clear hHeld2
    try simp only [Act.put, List.setIfInBounds_toArray, List.set_cons_zero, List.set_cons_succ]
    refine wpAnyH_take (i := 8) (oi := ⟨some 65, _, _, _, _, _⟩) (v := _) rfl (by kernel_rfl) (by kernel_rfl) (by kernel_rfl) (fun _ _ _ h => h) (Or.inl ⟨by kernel_rfl, by intro w hSw; (try dsimp only at hSw); go_simp; try with_reducible rfl⟩) (by assumption) ?_
    simp only [Act.put, List.setIfInBounds_toArray, List.set_cons_zero, List.set_cons_succ]
    refine wpAnyH_take (i := 9) (oi := ⟨some 74, _, _, _, _, _⟩) (v := _) rfl (by kernel_rfl) (by kernel_rfl) (by kernel_rfl) (fun _ _ _ h => h) (Or.inl ⟨by kernel_rfl, by intro w hSw; (try dsimp only at hSw); go_simp; try with_reducible rfl⟩) (by assumption) ?_
    simp only [Act.put, List.setIfInBounds_toArray, List.set_cons_zero, List.set_cons_succ]
    refine wpAnyH_take (i := 10) (oi := ⟨some 75, _, _, _, _, _⟩) (v := _) rfl (by kernel_rfl) (by kernel_rfl) (by kernel_rfl) (fun _ _ _ h => h) (Or.inl ⟨by kernel_rfl, by intro w hSw; (try dsimp only at hSw); go_simp; try with_reducible rfl⟩) (by assumption) ?_
    simp only [Act.put, List.setIfInBounds_toArray, List.set_cons_zero, List.set_cons_succ]
    refine wpAnyH_ready (rs := [12]) (by kernel_rfl) (by simp) ?_
    refine AllReadyH.cons (o := ⟨none, _, _, _, _, _⟩) rfl (fun K hK => ?_) AllReadyH.nil
    go_simp
    refine hK.out _ _ ?_ (fun hHeld2 => ?_)
    · (first | (try dsimp only); go_keep | (go_split_ands; refine ⟨?_, ?_, ?_, ?_, ?_, ?_, ?_, ?_, ?_, ?_, ?_⟩ <;> first | exact keepB bx5 (by assumption) | exact keepB bx4 (by assumption) | exact keepB bx3 (by assumption) | exact keepB bx2 (by assumption) | exact keepB bx1 (by assumption) | exact keepO bo5 (by first | (simp; done) | (simp; omega)) (by assumption) | exact keepO bo4 (by first | (simp; done) | (simp; omega)) (by assumption) | exact keepO bo3 (by first | (simp; done) | (simp; omega)) (by assumption) | exact keepO bo2 (by first | (simp; done) | (simp; omega)) (by assumption) | exact keepO bo1 (by first | (simp; done) | (simp; omega)) (by assumption) | exact keepW bg2 (by first | (simp; done) | (simp; omega)) (by assumption) | exact keepW bg1 (by first | (simp; done) | (simp; omega)) (by assumption) | assumption))
    clear hK K hHeld
    have hHeld := hHeld2
    clear hHeld2
    try simp only [Act.put, List.setIfInBounds_toArray, List.set_cons_zero, List.set_cons_succ]
    refine wpAnyH_take (i := 13) (oi := ⟨some 13, _, _, _, _, _⟩) (v := _) rfl (by kernel_rfl) (by kernel_rfl) (by kernel_rfl) (fun _ _ _ h => h) (Or.inl ⟨by kernel_rfl, by intro w hSw; (try dsimp only at hSw); go_simp; try with_reducible rfl⟩) (by assumption) ?_
    simp only [Act.put, List.setIfInBounds_toArray, List.set_cons_zero, List.set_cons_succ]
    refine wpAnyH_done (by kernel_rfl) ?_ _
  rotate_left 1
  focus
    have hoX3 : w3.heap.size < wA.heap.size := World.block_lt_of_cell? wA _ o0
    obtain ⟨wZ, hwZ⟩ : ∃ wZ, wZ = wA.alloc (.cells #[.slice AA es5.length cA, .int .i64 a5, .int .i64 b5, .int .i64 z5] 29) := ⟨_, rfl⟩
    have bz : Below wA.heap.size wA wZ := by rw [hwZ]; exact (Below.refl _ _).alloc (Nat.le_refl _) _
    have hmz : MB wZ wA.heap.size (.slice AA es5.length cA) a5 b5 z5 := by rw [hwZ]; exact heap_alloc_new wA _
    obtain ⟨⟨k0, k1, k2, k3⟩, _⟩ := hmz.cells
    have hoe := (Hoe9.out.es.below bA2 (by omega)).below bz (by omega)
    have hla := hoA.es.below bz (Nat.le_refl _)
    have hsz := bz.size
    have Bz := Lib.hid ((B9.out.trans (bA2.mono (by have := B9.out.size; omega))).trans (bz.mono (by have := B9.out.size; omega)))
    replace o0 := keepB bz o0; replace o1 := keepB bz o1; replace o2 := keepB bz o2; replace o3 := keepB bz o3
    rw [← hwZ]
    clear hwZ bz hmz bA2 bA hoA Hts9 Ho9 Hoe9 B9 y_0 y_1 y_2 y_3 e0 e1 e2 e3 e4 e5 e6
    go_wp2_with fail
    refine (equalMill_same _ _ _ _ _ _ es5 a5 b5 z5 wZ hla hsz hoe (by omega)).mono ?_
    rintro e wE ⟨rfl, bE⟩
    have BE := Lib.hid (Bz.out.trans (bE.mono Bz.out.size))
    clear bE
    go_wp2
    go_ret
    exact ⟨rfl, BE.out⟩
  focus
    obtain ⟨wZ, hwZ⟩ : ∃ wZ, wZ = (((wA.setCell ⟨w8.heap.size, 0, none⟩ (.slice AA es5.length cA)).setCell ⟨w8.heap.size, 1, none⟩ (.int .i64 a5)).setCell ⟨w8.heap.size, 2, none⟩ (.int .i64 b5)).setCell ⟨w8.heap.size, 3, none⟩ (.int .i64 z5) := ⟨_, rfl⟩
    have ex : ∀ q, ¬ w8.heap.size = q → wZ.heap[q]? = wA.heap[q]? := fun q hq => by rw [hwZ]; simp only [World.setCell, Array.getElem?_modify, if_neg hq]
    have hmz : MB wZ w8.heap.size (.slice AA es5.length cA) a5 b5 z5 := by rw [hwZ]; exact ((((Hqb.out.below bA hzq).set0 _).set1 _).set2 _).set3 _
    obtain ⟨⟨k0, k1, k2, k3⟩, _⟩ := hmz.cells
    have hszZ : wZ.heap.size = wA.heap.size := by rw [hwZ]; simp [World.setCell]
    have hoe := (Hoe9.out.es.below bA2 (by omega)).kept (w' := wZ) fun q _ hq => ex q (by omega)
    have hla := hoA.es.kept (w' := wZ) fun q hq _ => ex q (by omega)
    have Bz := Lib.hid (show Below w.heap.size w wZ by
      have h9 := B9.out.trans (bA2.mono B9.out.size)
      have h8 := B9.out.size
      rw [hwZ]
      exact (((h9.setCell (p := ⟨_, _, _⟩) h8 _).setCell (p := ⟨_, _, _⟩) h8 _).setCell (p := ⟨_, _, _⟩) h8 _).setCell (p := ⟨_, _, _⟩) h8 _)
    replace o0 := cell_same (ex _ hne3) o0
    replace o1 := cell_same (ex _ hne3) o1
    replace o2 := cell_same (ex _ hne3) o2
    replace o3 := cell_same (ex _ hne3) o3
    have hsz1 : wA.heap.size ≤ wZ.heap.size := by omega
    have hsz2 : w3.heap.size ≤ wZ.heap.size := by omega
    rw [← hwZ]
    clear hwZ ex hmz hszZ bA2 bA hoA Hts9 Ho9 Hoe9 B9 y_0 y_1 y_2 y_3 e0 e1 e2 e3 e4 e5 e6 d0 d1 d2 d3 fd0 fd1 fd2 fd3
    go_wp2_with fail
    refine (equalMill_same _ _ _ _ _ _ es5 a5 b5 z5 wZ hla hsz1 hoe (by omega)).mono ?_
    rintro e wE ⟨rfl, bE⟩
    have BE := Lib.hid (Bz.out.trans (bE.mono Bz.out.size))
    clear bE
    go_wp2
    go_ret
    exact ⟨rfl, BE.out⟩
end Go.Proofs.YtlabekemifccaaaGreatDoor
