/-
  Lemmas and contracts of single functions of this program, used by the proofs of its laws: what each call returns and what becomes of memory. Conditions: the hypotheses of each theorem.
-/
import Derived.Test.YtkgepklapglmdaaGreatDoorBkX
import Derived.Test.YtkgepklapglmdaaGreatDoorMut
import Derived.Test.YtkgepklapglmdaaGreatDoorMyZ
namespace Go.Proofs.YtkgepklapglmdaaGreatDoor
open Go.RowKit
attribute [local go_sem ↓] Go.wp_at_zero Go.wp_at_succ

theorem count_snoc {l : List UInt8} {j : Nat} (h : j < l.length) : (l.take (j + 1)).count 10 = (l.take j).count 10 + if gb l j = 10 then 1 else 0 := by
  rw [take_b h, List.count_append, gb_eq h]
  have e : (if ((l[j].toNat : Nat) : Int) = 10 then 1 else 0) = (if l[j] = 10 then 1 else 0 : Nat) := by
    by_cases h9 : l[j] = 10
    · rw [if_pos h9, h9]; rfl
    · rw [if_neg h9, if_neg fun e => h9 (UInt8.toNat_inj.1 (by show l[j].toNat = 10; omega))]
  rw [e, List.count_singleton]
  simp only [beq_iff_eq]
set_option maxRecDepth 100000 in
set_option maxHeartbeats 2000000 in
theorem newlines_any (l : List UInt8) (s : ByteArray) (hs : s = TB l) (w : World) (hl : l.length ≤ 4294967296) :
    Calls Tryz.prog 21 #[.string s] w fun e w' => w = w' ∧ e = .returned (.int .i64 (l.count 10 : Nat)) := by
  have hsz : s.size = l.length := by rw [hs, TB_size]
  have HS := Lib.hid hs
  obtain ⟨n, hn⟩ : ∃ n, n = s.size := ⟨_, rfl⟩
  have hsn : s.size = n := hn.symm
  have hnl : n ≤ l.length := by omega
  have hnl2 : l.length ≤ n := by omega
  clear hs hsz hn
  go_enter Tryz.func21, Tryz.ntmps21
  go_wp2
  go_loop [3, 4] (fun nv i => ∃ (j c : Nat), j ≤ n ∧ c ≤ j ∧ i = .int .i64 (j : Int) ∧ nv = .int .i64 (c : Int) ∧ Hid (c = (l.take j).count 10)) (fun _ i => n - (intOf i).toNat)
  case atStart => exact ⟨0, 0, Nat.zero_le _, Nat.le_refl _, rfl, rfl, rfl⟩
  case round =>
    obtain ⟨j, c, hj, hcj, rfl, rfl, HC⟩ := hrel
    by_cases hlt : j < n
    rotate_left
    · have hnj : ¬ (j : Int) < (n : Int) := by omega
      have HE := Lib.hid (show c = l.count 10 by rw [HC.out, List.take_of_length_le (by omega)])
      go_wp2
      go_ret
      exact ⟨rfl, by rw [HE.out]; rfl⟩
    have hjl : j < l.length := by omega
    have j0 : (0 : Int) ≤ (j : Int) := by omega
    have j1 : (j : Int) < (n : Int) := by omega
    have hix : ∀ w : World, (Instr.index 9 (.string s) (.int .i64 (j : Int))).run Tryz.prog w = .ok (.int .u8 (gb l j)) w := fun w => idx_run l s HS.out j hjl w
    have gj : IntKind.i64.wrap ((j : Int) + 1) = ((j + 1 : Nat) : Int) := IntWalk.i64_in _ (by omega)
    have gj' : wrap64 ((j : Int) + 1) = ((j + 1 : Nat) : Int) := w64 (by omega)
    have gc : IntKind.i64.wrap ((c : Int) + 1) = ((c + 1 : Nat) : Int) := IntWalk.i64_in _ (by omega)
    have gc' : wrap64 ((c : Int) + 1) = ((c + 1 : Nat) : Int) := w64 (by omega)
    by_cases hb : gb l j = 10
    · have eb : (gb l j == 10) = true := beq_t hb
      have HC1 := Lib.hid (show c + 1 = (l.take (j + 1)).count 10 by rw [count_snoc hjl, if_pos hb, ← HC.out])
      clear hb
      go_wp2
      go_round
      case rel => exact ⟨j + 1, c + 1, by omega, by omega, rfl, rfl, HC1⟩
      case measure => simp [intOf]; omega
    · have eb : (gb l j == 10) = false := beq_f hb
      have HC1 := Lib.hid (show c = (l.take (j + 1)).count 10 by rw [count_snoc hjl, if_neg hb, ← HC.out]; rfl)
      clear hb
      go_wp2
      go_round
      case rel => exact ⟨j + 1, c, by omega, by omega, rfl, rfl, HC1⟩
      case measure => simp [intOf]; omega
set_option maxRecDepth 100000 in
set_option maxHeartbeats 4000000 in
theorem bookText_any (B k g : Nat) (v : Value) (w : World) (h : Rdr w B k g v) (hk : k ≤ 500000) :
    Calls Tryz.prog 53 #[v] w fun e w' => ∃ (l : List UInt8) (k' : Nat), e = .returned (.string (TB l)) ∧ l.length ≤ 6061 ∧ k' ≤ k + 340 ∧ Rdr w' B k' g v ∧ w.grownBy w' (some g) := by
  have hg0 := h.lt
  have hva : ∃ gg, v = .pointer gg := by obtain ⟨_, _, _, _, e, _⟩ := h; exact ⟨_, e⟩
  obtain ⟨gg, rfl⟩ := hva
  go_enter Tryz.func53, Tryz.ntmps53
  go_wp2_with fail
  refine (anyBook_any B k g _ w h (by omega)).mono ?_
  rintro e w1 ⟨A, n0, c, evs, rfl, hn0, hts, hl20, bg, k1, hk1, hr1⟩
  subst hn0
  obtain ⟨T, hT⟩ : ∃ T, T = fmtB (evT evs) := ⟨_, rfl⟩
  have HT := Lib.hid hT
  have HTL := Lib.hid (show T.length ≤ 6060 by rw [hT]; exact fmtB_lenQ _)
  obtain ⟨zt, hzt⟩ : ∃ z, z = TB T := ⟨_, rfl⟩
  have HZ := Lib.hid hzt
  obtain ⟨n, hn⟩ : ∃ n, n = zt.size := ⟨_, rfl⟩
  have hsn : zt.size = n := hn.symm
  have hnl : n ≤ T.length := by rw [hn, hzt, TB_size]; exact Nat.le_refl _
  have hnl2 : T.length ≤ n := by rw [hn, hzt, TB_size]; exact Nat.le_refl _
  have hn6 : n ≤ 6060 := by have := HTL.out; omega
  have HG1 := Lib.hid bg
  have Hts := Lib.hid hts
  clear hT hzt hn bg hts h
  go_wp2_with fail
  refine (FormatBookS_any _ _ _ (evT evs) w1 Hts.out (Nat.le_refl _)).mono ?_
  rw [← HT.out, ← HZ.out]
  rintro e w2 ⟨rfl, b2⟩
  have hr2 := hr1.below b2
  have HG2 := Lib.hid (grown_trans HG1.out (grown_below b2 (some g)))
  clear b2 hr1 HG1 Hts
  go_wp2_with fail
  refine (pick_any B k1 g _ 4 w2 hr2 (by omega) (by omega)).mono ?_
  rintro e w3 ⟨q, rfl, _, hr3, bo⟩
  have HG3 := Lib.hid (grown_trans HG2.out (grown_only bo))
  clear bo hr2 HG2
  by_cases h0 : q = 0
  · have q0 : (q == 0) = true := beq_t h0
    clear h0
    go_wp2_with fail
    refine (mutate_any B (k1 + 1) g _ T zt HZ.out w3 hr3 (by omega) (by omega)).mono ?_
    rintro e w4 ⟨l', k4, rfl, hl', hk4, hr4, bg⟩
    have HG4 := Lib.hid (grown_trans HG3.out bg)
    have HL4 := Lib.hid (show l'.length ≤ 6061 by omega)
    clear bg hl'
    go_wp2
    go_ret
    exact ⟨_, k4, rfl, HL4.out, by omega, hr4, HG4.out⟩
  have q0 : (q == 0) = false := beq_f h0
  clear h0
  by_cases h1 : q = 1
  · have q1 : (q == 1) = true := beq_t h1
    have gn1 : IntKind.i64.wrap ((n : Int) + 1) = (n : Int) + 1 := IntWalk.i64_in _ (by omega)
    clear h1
    go_wp2_with fail
    refine (pick_any B (k1 + 1) g _ ((n : Int) + 1) w3 hr3 (by omega) (by omega)).mono ?_
    rintro e w4 ⟨y, rfl, hy, hr4, bo⟩
    have hy1 := hy.rng (m := (n : Int) + 1) (by omega) (by omega)
    obtain ⟨i, rfl⟩ := Int.eq_ofNat_of_zero_le hy1.1
    have i0 : (0 : Int) ≤ (i : Int) := by omega
    have i2 : (i : Int) ≤ (n : Int) := by omega
    obtain ⟨E1, hE1⟩ : ∃ E, E = zt.extract 0 i := ⟨_, rfl⟩
    have hex1 : zt.extract 0 i = E1 := hE1.symm
    have HE1 := Lib.hid (show E1 = TB (T.take i) by rw [hE1, HZ.out, TB_ext]; simp)
    have HL4 := Lib.hid (show (T.take i).length ≤ 6061 by rw [List.length_take]; omega)
    have HG4 := Lib.hid (grown_trans HG3.out (grown_only bo))
    clear hE1 bo hr3 hy hy1
    go_wp2
    go_ret
    exact ⟨_, k1 + 1 + 1, congrArg (fun z => Ending.returned (Value.string z)) HE1.out, HL4.out, by omega, hr4, HG4.out⟩
  have q1 : (q == 1) = false := beq_f h1
  clear h1
  go_wp2
  go_ret
  exact ⟨T, k1 + 1, congrArg (fun z => Ending.returned (Value.string z)) HZ.out, by omega, by omega, hr3, HG3.out⟩
end Go.Proofs.YtkgepklapglmdaaGreatDoor
