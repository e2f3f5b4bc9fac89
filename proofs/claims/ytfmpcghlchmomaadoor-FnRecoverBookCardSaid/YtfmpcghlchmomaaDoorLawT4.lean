/-
  Lemmas and contracts of single functions of this program, used by the proofs of its laws: what each call returns and what becomes of memory. Conditions: the hypotheses of each theorem.
-/
import Derived.Test.YtfmpcghlchmomaaDoorBkX
import Derived.Test.YtfmpcghlchmomaaDoorMut
import Derived.Test.YtfmpcghlchmomaaDoorMyZ
namespace Go.Proofs.YtfmpcghlchmomaaDoor
open Go.RowKit
attribute [local go_sem ↓] Go.wp_at_zero Go.wp_at_succ

theorem count_snoc {l : List UInt8} {j : Nat} (h : j < l.length) : (l.take (j + 1)).count 10 = (l.take j).count 10 + if gb l j = 10 then 1 else 0 := by
  rw [take_b h, List.count_append, gb_eq h]
  have e : (if ((l[j].toNat : Nat) : Int) = 10 then 1 else 0) = (if l[j] = 10 then 1 else 0 : Nat) := by
    by_cases h9 : l[j] = 10
    · rw [if_pos h9, h9]; rfl
    · rw [if_neg h9, if_neg fun e => h9 (UInt8.toNat_inj.1 (by show l[j].toNat = 10; omega))]
  rw [e, List.count_singleton]
  simp only [beq_iff_eq]
set_option maxRecDepth 100000 in
set_option maxHeartbeats 2000000 in
theorem newlines_any (l : List UInt8) (s : ByteArray) (hs : s = TB l) (w : World) (hl : l.length ≤ 4294967296) :
    Calls Tryd.prog 9 #[.string s] w fun e w' => w = w' ∧ e = .returned (.int .i64 (l.count 10 : Nat)) := by
  have hsz : s.size = l.length := by rw [hs, TB_size]
  have HS := Lib.hid hs
  obtain ⟨n, hn⟩ : ∃ n, n = s.size := ⟨_, rfl⟩
  have hsn : s.size = n := hn.symm
  have hnl : n ≤ l.length := by omega
  have hnl2 : l.length ≤ n := by omega
  clear hs hsz hn
  go_enter Tryd.func9, Tryd.ntmps9
  go_wp2
  go_loop [3, 4] (fun nv i => ∃ (j c : Nat), j ≤ n ∧ c ≤ j ∧ i = .int .i64 (j : Int) ∧ nv = .int .i64 (c : Int) ∧ Hid (c = (l.take j).count 10)) (fun _ i => n - (intOf i).toNat)
  case atStart => exact ⟨0, 0, Nat.zero_le _, Nat.le_refl _, rfl, rfl, rfl⟩
  case round =>
    obtain ⟨j, c, hj, hcj, rfl, rfl, HC⟩ := hrel
    by_cases hlt : j < n
    rotate_left
    · have hnj : ¬ (j : Int) < (n : Int) := by omega
      have HE := Lib.hid (show c = l.count 10 by rw [HC.out, List.take_of_length_le (by omega)])
      go_wp2
      go_ret
      exact ⟨rfl, by rw [HE.out]; rfl⟩
    have hjl : j < l.length := by omega
    have j0 : (0 : Int) ≤ (j : Int) := by omega
    have j1 : (j : Int) < (n : Int) := by omega
    have hix : ∀ w : World, (Instr.index 9 (.string s) (.int .i64 (j : Int))).run Tryd.prog w = .ok (.int .u8 (gb l j)) w := fun w => idx_run l s HS.out j hjl w
    have gj : IntKind.i64.wrap ((j : Int) + 1) = ((j + 1 : Nat) : Int) := IntWalk.i64_in _ (by omega)
    have gj' : wrap64 ((j : Int) + 1) = ((j + 1 : Nat) : Int) := w64 (by omega)
    have gc : IntKind.i64.wrap ((c : Int) + 1) = ((c + 1 : Nat) : Int) := IntWalk.i64_in _ (by omega)
    have gc' : wrap64 ((c : Int) + 1) = ((c + 1 : Nat) : Int) := w64 (by omega)
    by_cases hb : gb l j = 10
    · have eb : (gb l j == 10) = true := beq_t hb
      have HC1 := Lib.hid (show c + 1 = (l.take (j + 1)).count 10 by rw [count_snoc hjl, if_pos hb, ← HC.out])
      clear hb
      go_wp2
      go_round
      case rel => exact ⟨j + 1, c + 1, by omega, by omega, rfl, rfl, HC1⟩
      case measure => simp [intOf]; omega
    · have eb : (gb l j == 10) = false := beq_f hb
      have HC1 := Lib.hid (show c = (l.take (j + 1)).count 10 by rw [count_snoc hjl, if_neg hb, ← HC.out]; rfl)
      clear hb
      go_wp2
      go_round
      case rel => exact ⟨j + 1, c, by omega, by omega, rfl, rfl, HC1⟩
      case measure => simp [intOf]; omega
set_option maxRecDepth 100000 in
set_option maxHeartbeats 4000000 in
theorem bookText_any (B k g : Nat) (v : Value) (w : World) (h : Rdr w B k g v) (hk : k ≤ 500000) :
    Calls Tryd.prog 10 #[v] w fun e w' => ∃ (l : List UInt8) (k' : Nat), e = .returned (.string (TB l)) ∧ l.length ≤ 6061 ∧ k' ≤ k + 340 ∧ Rdr w' B k' g v ∧ w.grownBy w' (some g) := by
  have hg0 := h.lt
  have hva : ∃ gg, v = .pointer gg := by obtain ⟨_, _, _, _, e, _⟩ := h; exact ⟨_, e⟩
  obtain ⟨gg, rfl⟩ := hva
  go_enter Tryd.func10, Tryd.ntmps10
  go_wp2_with fail
  refine (anyBook_any B k g _ w h (by omega)).mono ?_
  rintro e w1 ⟨A, n0, c, evs, rfl, hn0, hts, hl20, bg, k1, hk1, hr1⟩
  subst hn0
  obtain ⟨T, hT⟩ : ∃ T, T = fmtB (evT evs) := ⟨_, rfl⟩
  have HT := Lib.hid hT
  have HTL := Lib.hid (show T.length ≤ 6060 by rw [hT]; exact fmtB_lenQ _)
  obtain ⟨zt, hzt⟩ : ∃ z, z = TB T := ⟨_, rfl⟩
  have HZ := Lib.hid hzt
  obtain ⟨n, hn⟩ : ∃ n, n = zt.size := ⟨_, rfl⟩
  have hsn : zt.size = n := hn.symm
  have hnl : n ≤ T.length := by rw [hn, hzt, TB_size]; exact Nat.le_refl _
  have hnl2 : T.length ≤ n := by rw [hn, hzt, TB_size]; exact Nat.le_refl _
  have hn6 : n ≤ 6060 := by have := HTL.out; omega
  have HG1 := Lib.hid bg
  have Hts := Lib.hid hts
  clear hT hzt hn bg hts h
  go_wp2_with fail
  refine (FormatBookS_any _ _ _ (evT evs) w1 Hts.out (Nat.le_refl _)).mono ?_
  rw [← HT.out, ← HZ.out]
  rintro e w2 ⟨rfl, b2⟩
  have hr2 := hr1.below b2
  have HG2 := Lib.hid (grown_trans HG1.out (grown_below b2 (some g)))
  clear b2 hr1 HG1 Hts
  go_wp2_with fail
  refine (pick_any B k1 g _ 4 w2 hr2 (by omega) (by omega)).mono ?_
  rintro e w3 ⟨q, rfl, _, hr3, bo⟩
  have HG3 := Lib.hid (grown_trans HG2.out (grown_only bo))
  clear bo hr2 HG2
  by_cases h0 : q = 0
  · have q0 : (q == 0) = true := beq_t h0
    clear h0
    go_wp2_with fail
    refine (mutate_any B (k1 + 1) g _ T zt HZ.out w3 hr3 (by omega) (by omega)).mono ?_
    rintro e w4 ⟨l', k4, rfl, hl', hk4, hr4, bg⟩
    have HG4 := Lib.hid (grown_trans HG3.out bg)
    have HL4 := Lib.hid (show l'.length ≤ 6061 by omega)
    clear bg hl'
    go_wp2
    go_ret
    exact ⟨_, k4, rfl, HL4.out, by omega, hr4, HG4.out⟩
  have q0 : (q == 0) = false := beq_f h0
  clear h0
  by_cases h1 : q = 1
  · have q1 : (q == 1) = true := beq_t h1
    have gn1 : IntKind.i64.wrap ((n : Int) + 1) = (n : Int) + 1 := IntWalk.i64_in _ (by omega)
    clear h1
    go_wp2_with fail
    refine (pick_any B (k1 + 1) g _ ((n : Int) + 1) w3 hr3 (by omega) (by omega)).mono ?_
    rintro e w4 ⟨y, rfl, hy, hr4, bo⟩
    have hy1 := hy.rng (m := (n : Int) + 1) (by omega) (by omega)
    obtain ⟨i, rfl⟩ := Int.eq_ofNat_of_zero_le hy1.1
    have i0 : (0 : Int) ≤ (i : Int) := by omega
    have i2 : (i : Int) ≤ (n : Int) := by omega
    obtain ⟨E1, hE1⟩ : ∃ E, E = zt.extract 0 i := ⟨_, rfl⟩
    have hex1 : zt.extract 0 i = E1 := hE1.symm
    have HE1 := Lib.hid (show E1 = TB (T.take i) by rw [hE1, HZ.out, TB_ext]; simp)
    have HL4 := Lib.hid (show (T.take i).length ≤ 6061 by rw [List.length_take]; omega)
    have HG4 := Lib.hid (grown_trans HG3.out (grown_only bo))
    clear hE1 bo hr3 hy hy1
    go_wp2
    go_ret
    exact ⟨_, k1 + 1 + 1, congrArg (fun z => Ending.returned (Value.string z)) HE1.out, HL4.out, by omega, hr4, HG4.out⟩
  have q1 : (q == 1) = false := beq_f h1
  clear h1
  go_wp2
  go_ret
  exact ⟨T, k1 + 1, congrArg (fun z => Ending.returned (Value.string z)) HZ.out, by omega, by omega, hr3, HG3.out⟩
set_option maxRecDepth 100000 in
set_option maxHeartbeats 1000000 in
theorem DrawRecoverBook_any (v : Value) (xs : List Int) (w : World) (h : Bytes w 0 w.heap.size v xs) :
    Calls Tryd.prog 4 #[v] w fun e w' => ∃ l : List UInt8, e = .returned (.string (TB l)) ∧ l.length ≤ 6061 ∧ Below w.heap.size w w' := by
  have hv : ∃ A n c, v = .slice A n c := by obtain ⟨A, c, e, _⟩ := h; exact ⟨A, _, c, e⟩
  obtain ⟨A0, n0, c0, rfl⟩ := hv
  go_enter Tryd.func4, Tryd.ntmps4
  go_wp2_with fail
  refine (newReader_any _ xs w h).mono ?_
  rintro e w2 ⟨rv, rfl, hr2, bx⟩
  have hz2 := hr2.lt
  have hs2 := bx.size
  clear h
  go_wp2_with fail
  refine (bookText_any _ _ _ _ w2 hr2 (by omega)).mono ?_
  rintro e w3 ⟨l, k3, rfl, hl, _, _, bg⟩
  have Hb := Lib.hid (bx.trans (below_of_grown bg (B := w.heap.size) (by omega) (by omega)))
  have HL := Lib.hid hl
  clear bx bg hr2 hl
  go_wp2
  go_ret
  exact ⟨l, rfl, HL.out, Hb.out⟩
set_option maxRecDepth 100000 in
set_option maxHeartbeats 4000000 in
theorem FnRecoverBook_walk (B : Nat) (v : Value) (xs : List Int) (w : World) (hp : Pow B w) (hsh : w.ShapedOpen Tryd.prog) (h : Bytes w 0 w.heap.size v xs) :
    Calls Tryd.prog 3 #[v] w fun e w' => e = .returned (.bool true) ∧ Below w.heap.size w w' := by
  have hv : ∃ A c, v = .slice A xs.length c ∧ xs.length ≤ c ∧ c ≤ 2 ^ 63 - 1 := by obtain ⟨A, c, e, h1, h2, _⟩ := h; exact ⟨A, c, e, h1, by unfold maxLen at h2; omega⟩
  obtain ⟨A0, c0, rfl, hc0, hm0⟩ := hv
  have HP := Lib.hid hp
  have HSH := Lib.hid hsh
  clear hp hsh
  by_cases hl : 1048576 < xs.length
  · have hl' : (1048576 : Int) < (xs.length : Int) := by omega
    go_enter Tryd.func3, Tryd.ntmps3
    go_wp2
    go_ret
    exact ⟨rfl, Below.refl _ _⟩
  have hl' : ¬ (1048576 : Int) < (xs.length : Int) := by omega
  go_enter Tryd.func3, Tryd.ntmps3
  go_wp2_with fail
  refine (DrawRecoverBook_any _ xs w h).mono ?_
  rintro e w2 ⟨l, rfl, hl6, b2⟩
  obtain ⟨zt, hzt⟩ : ∃ z, z = TB l := ⟨_, rfl⟩
  rw [← hzt]
  have HZ := Lib.hid hzt
  obtain ⟨n, hn⟩ : ∃ n, n = zt.size := ⟨_, rfl⟩
  have hsn : zt.size = n := hn.symm
  have hnl : n ≤ l.length := by rw [hn, hzt, TB_size]; exact Nat.le_refl _
  have hnl2 : l.length ≤ n := by rw [hn, hzt, TB_size]; exact Nat.le_refl _
  obtain ⟨R, hR⟩ : ∃ R, R = recB l := ⟨_, rfl⟩
  have HR := Lib.hid hR
  have hR60 : R.length ≤ 60 := by rw [hR]; exact recB_lenQ l
  have HB2 := Lib.hid b2
  have s2 : w.heap.size ≤ w2.heap.size := b2.size
  clear h hl hl' b2 hzt hn hR
  go_wp2_with fail
  refine (RecoverBookI_any l zt HZ.out w2 (by omega) (shaped_below HSH.out HB2.out)).mono ?_
  rw [← HR.out]
  rintro e w3 ⟨v3, rfl, o3, b3⟩
  obtain ⟨A3, c3, rfl, hc3, hm3⟩ := o3.form
  have HB3 := Lib.hid (HB2.out.trans (b3.mono s2))
  have HT3 := Lib.hid o3.ts
  have s3 : w2.heap.size ≤ w3.heap.size := b3.size
  clear o3 b3
  go_wp2_with fail
  refine (RecoverBookS_any l zt HZ.out w3 (by omega)).mono ?_
  rw [← HR.out]
  rintro e w4 ⟨v4, rfl, o4, b4⟩
  obtain ⟨A4, c4, rfl, hc4, _⟩ := o4.form
  have HB4 := Lib.hid (HB3.out.trans (b4.mono (by omega)))
  have HT4 := Lib.hid (HT3.out.below b4 (Nat.le_refl _))
  have HO4 := Lib.hid o4.ts
  have s4 : w3.heap.size ≤ w4.heap.size := b4.size
  clear o4 b4 HT3
  go_wp2_with fail
  refine (equalEvents_same _ _ _ _ _ _ R w4 HT4.out s4 HO4.out (Nat.le_refl _)).mono ?_
  rintro e w5 ⟨rfl, b5⟩
  have HB5 := Lib.hid (HB4.out.trans (b5.mono (by omega)))
  have HT5 := Lib.hid (HT4.out.below b5 s4)
  have s5 : w4.heap.size ≤ w5.heap.size := b5.size
  clear b5 HT4 HO4
  obtain ⟨T, hT⟩ : ∃ T, T = fmtB R := ⟨_, rfl⟩
  have HT := Lib.hid hT
  obtain ⟨zb, hzb⟩ : ∃ z, z = TB T := ⟨_, rfl⟩
  have HZB := Lib.hid hzb
  obtain ⟨m, hm⟩ : ∃ m, m = zb.size := ⟨_, rfl⟩
  have hsm : zb.size = m := hm.symm
  have hmT : m = T.length := by rw [hm, hzb, TB_size]
  have hpre := recB_text l
  rw [← HR.out, ← hT] at hpre
  have hmn : m ≤ n := by have := (take_of_prefix hpre.1).1; omega
  have HEX := Lib.hid (show zt.extract 0 m = zb by rw [HZ.out, TB_ext, hzb, hmT]; simp only [List.drop_zero, Nat.sub_zero]; rw [(take_of_prefix hpre.1).2])
  have HCN := Lib.hid hpre.2
  have hml : T.length ≤ 6061 := by omega
  clear hT hzb hm hmT hpre
  go_wp2_with fail
  refine (FormatBookI_any B _ _ _ R w5 (HP.out.below HB5.out) HT5.out (by omega)).mono ?_
  rw [← HT.out, ← HZB.out]
  rintro e w6 ⟨rfl, b6⟩
  have HB6 := Lib.hid (HB5.out.trans (b6.mono (by omega)))
  have HT6 := Lib.hid (HT5.out.below b6 (by omega))
  have s6 : w5.heap.size ≤ w6.heap.size := b6.size
  clear b6 HT5
  go_wp2
  go_loopw [6, 7] (fun i _ wr => ∃ j : Nat, j ≤ 2 * n + 1 ∧ i = .int .i64 (j : Int) ∧ Hid (Below w.heap.size w wr) ∧ Hid (TS wr w2.heap.size w3.heap.size 7 (.slice A3 R.length c3) R) ∧ w3.heap.size ≤ wr.heap.size) (fun i _ _ => 2 * n + 2 - (intOf i).toNat)
  case atStart => exact ⟨0, by omega, rfl, HB6, HT6, by omega⟩
  case round =>
    obtain ⟨j, hj2, rfl, HBr, HTr, hsr⟩ := hrel
    by_cases hlt : j ≤ n
    rotate_left
    · have hnj : ¬ (j : Int) ≤ (n : Int) := by omega
      have m0 : (0 : Int) ≤ (m : Int) := by omega
      have m1 : (m : Int) ≤ (n : Int) := by omega
      have hex : zt.extract 0 m = zb := HEX.out
      have hzz : (zb.toList == zb.toList) = true := by simp
      clear HEX
      go_wp2_with fail
      refine (newlines_any T zb HZB.out _ (by omega)).mono ?_
      rw [HCN.out]
      rintro e wx ⟨rfl, rfl⟩
      have hRR : ((R.length : Int) == (R.length : Int)) = true := beq_t rfl
      go_wp2
      go_ret
      exact ⟨rfl, HBr.out⟩
    have j0 : (0 : Int) ≤ (j : Int) := by omega
    have j1 : (j : Int) ≤ (n : Int) := by omega
    obtain ⟨E1, hE1⟩ : ∃ E, E = zt.extract 0 j := ⟨_, rfl⟩
    have hex1 : zt.extract 0 j = E1 := hE1.symm
    have HE1 := Lib.hid (show E1 = TB (l.take j) by rw [hE1, HZ.out, TB_ext]; simp)
    obtain ⟨R', hR'⟩ : ∃ R', R' = recB (l.take j) := ⟨_, rfl⟩
    have HR' := Lib.hid hR'
    obtain ⟨hle, htk⟩ := recB_torn l j
    rw [← hR', ← HR.out] at hle htk
    have HTK := Lib.hid htk
    obtain ⟨M, hM⟩ : ∃ M, M = R'.length := ⟨_, rfl⟩
    have hM' : R'.length = M := hM.symm
    have HTM := Lib.hid (show TS wr w2.heap.size w3.heap.size 7 (.slice A3 M c3) R' by
      have h9 := HTr.out.take (i := R'.length) hle
      rw [htk, ← hM] at h9
      exact h9)
    have hM0 : (0 : Int) ≤ (M : Int) := by omega
    have hM1 : (M : Int) ≤ (R.length : Int) := by omega
    have hM2 : (M : Int) ≤ (c3 : Int) := by omega
    have hM3 : ¬ (R.length : Int) < (M : Int) := by omega
    have hMc : M ≤ c3 := by omega
    clear hE1 hR' hle htk hM
    have hll : (l.take j).length ≤ 6061 := by rw [List.length_take]; omega
    go_wp2_with fail
    refine (RecoverBookI_any (l.take j) E1 HE1.out wr (by omega) (shaped_below HSH.out HBr.out)).mono ?_
    rw [← HR'.out]
    rintro e wa ⟨va, rfl, oa, ba⟩
    obtain ⟨Aa, ca, rfl, hca, hma⟩ := oa.form
    have HBa := Lib.hid (HBr.out.trans (ba.mono HBr.out.size))
    have HTa := Lib.hid (HTr.out.below ba hsr)
    have HMa := Lib.hid (HTM.out.below ba hsr)
    have HOa := Lib.hid oa.ts
    have hsa : wr.heap.size ≤ wa.heap.size := ba.size
    rw [hM'] at hca HOa ⊢
    clear oa ba HTr HTM HBr
    go_wp2_with fail
    refine (equalEvents_same _ _ _ _ _ _ R' wa HOa.out (Nat.le_refl _) HMa.out (by omega)).mono ?_
    rintro e wb ⟨rfl, bb⟩
    have HBb := Lib.hid (HBa.out.trans (bb.mono HBa.out.size))
    have HTb := Lib.hid (HTa.out.below bb (by omega))
    have hsb : wa.heap.size ≤ wb.heap.size := bb.size
    obtain ⟨d, hdq, hdn⟩ : ∃ d : Nat, (n : Int).tdiv 40 = (d : Int) ∧ d ≤ n := ⟨n / 40, by rw [Int.tdiv_eq_ediv_of_nonneg (Int.natCast_nonneg n)]; rfl, Nat.div_le_self _ _⟩
    have HQ := Lib.hid hdq
    clear hdq
    have hd1 : j + 1 + d ≤ 2 * n + 1 := by omega
    have gj1 : IntKind.i64.wrap ((j : Int) + 1) = (j : Int) + 1 := IntWalk.i64_in _ (by omega)
    have gd : IntKind.i64.wrap (d : Int) = (d : Int) := IntWalk.i64_in _ (by omega)
    have gj2 : IntKind.i64.wrap ((j : Int) + 1 + (d : Int)) = (j : Int) + 1 + (d : Int) := IntWalk.i64_in _ (by omega)
    have hquo := HQ.out
    clear bb HQ HBa HTa HMa HOa
    go_wp2
    go_roundw
    case rel =>
      clear hquo
      exact ⟨j + 1 + d, by omega, by first | rfl | (simp; omega), HBb, HTb, by omega⟩
    case measure => clear hquo; simp [intOf]; omega
end Go.Proofs.YtfmpcghlchmomaaDoor
