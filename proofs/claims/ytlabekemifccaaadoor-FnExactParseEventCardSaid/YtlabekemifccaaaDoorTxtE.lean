/-
  Lemmas and contracts of single functions of this program, used by the proofs of its laws: what each call returns and what becomes of memory. Conditions: the hypotheses of each theorem.
-/
import Derived.Test.YtlabekemifccaaaDoorTxtS
import Derived.Test.YtlabekemifccaaaDoorTxtP
namespace Go.Proofs.YtlabekemifccaaaDoor
open Go.RowKit
attribute [local go_sem ↓] Go.wp_at_zero Go.wp_at_succ

/-! bytes of texts -/
def gb (l : List UInt8) (j : Nat) : Int := ((l.getD j 0).toNat : Int)
theorem gb_rng (l : List UInt8) (j : Nat) : 0 ≤ gb l j ∧ gb l j ≤ 255 := by
  unfold gb
  have := (l.getD j 0).toNat_lt
  omega
theorem gb_eq {l : List UInt8} {j : Nat} (h : j < l.length) : gb l j = (l[j].toNat : Int) := by unfold gb; rw [List.getD_eq_getElem?_getD, List.getElem?_eq_getElem h]; rfl
theorem TB_get {l : List UInt8} {j : Nat} (h : j < l.length) (h2 : j < (TB l).size) : (TB l)[j]'h2 = l[j] := by
  show (TB l).data[j]'_ = _
  simp [TB]
  rfl
theorem idx_run (l : List UInt8) (s : ByteArray) (hs : s = TB l) (j : Nat) (hj : j < l.length) (w : World) : (Instr.index 9 (.string s) (.int .i64 (j : Int))).run Tryd.prog w = .ok (.int .u8 (gb l j)) w := by
  subst hs
  rw [run_index_string w 9 (TB l) .i64 j Tryd.underlying9, dif_pos ⟨by omega, by rw [TB_size]; omega⟩, gb_eq hj]
  congr 2
theorem TB_ext (l : List UInt8) (a b : Nat) : (TB l).extract a b = TB ((l.drop a).take (b - a)) := by
  unfold TB
  rw [ByteArray.extract_mk]
theorem valD_lt : ∀ (s : List UInt8) (n : Int) (k : Nat), s.all dgt = true → 0 ≤ n → n < 10 ^ k → valD n s < 10 ^ (k + s.length)
  | [], n, k, _, _, h => h
  | b :: t, n, k, h, h0, h1 => by
    rw [List.all_cons, Bool.and_eq_true] at h
    have hb := dgt_iff.1 h.1
    have := valD_lt t (10 * n + ((b.toNat : Int) - 48)) (k + 1) h.2 (by omega) (by rw [Int.pow_succ]; omega)
    rw [List.length_cons, show k + (t.length + 1) = k + 1 + t.length by omega]
    exact this
theorem take_b {l : List UInt8} {j : Nat} (h : j < l.length) : l.take (j + 1) = l.take j ++ [l[j]] := List.take_succ_eq_append_getElem h
theorem dgt_gb {l : List UInt8} {j : Nat} (h : j < l.length) : dgt l[j] = true ↔ 48 ≤ gb l j ∧ gb l j ≤ 57 := by rw [dgt_iff, gb_eq h]; omega
theorem nmL_no {l : List UInt8} (h : ¬ (1 ≤ l.length ∧ l.length ≤ 6 ∧ ¬ (1 < l.length ∧ l.headD 0 = 48) ∧ l.all dgt = true)) : nmL l = -1 := by unfold nmL; rw [if_neg h]
theorem nmL_yes {l : List UInt8} (h : 1 ≤ l.length ∧ l.length ≤ 6 ∧ ¬ (1 < l.length ∧ l.headD 0 = 48) ∧ l.all dgt = true) : nmL l = valD 0 l := by unfold nmL; rw [if_pos h]
theorem head_gb {l : List UInt8} (h : 0 < l.length) : l.headD 0 = 48 ↔ gb l 0 = 48 := by
  cases l with
  | nil => exact absurd h (by simp)
  | cons b t =>
    show b = 48 ↔ ((b.toNat : Int)) = 48
    constructor
    · rintro rfl; rfl
    · intro e; exact UInt8.toNat_inj.1 (by show b.toNat = 48; omega)
def NmPost (l : List UInt8) (w : World) (e : Ending) (w' : World) : Prop := w = w' ∧ ((nmL l < 0 ∧ e = .returned (.tuple #[.int .i64 0, .bool false])) ∨ (0 ≤ nmL l ∧ e = .returned (.tuple #[.int .i64 (nmL l), .bool true])))
set_option maxRecDepth 100000 in
set_option maxHeartbeats 2000000 in
theorem parseNumber_any (l : List UInt8) (s : ByteArray) (hs : s = TB l) (w : World) (hl : l.length ≤ 4294967296) :
    Calls Tryd.prog 43 #[.string s] w fun e w' => NmPost l w e w' := by
  have hsz : s.size = l.length := by rw [hs, TB_size]
  have HS := Lib.hid hs
  have HZ := Lib.hid hsz
  obtain ⟨n, hn⟩ : ∃ n, n = s.size := ⟨_, rfl⟩
  have hsn : s.size = n := hn.symm
  have hnl : n ≤ l.length := by omega
  have hnl2 : l.length ≤ n := by omega
  clear hs hsz hn
  by_cases h1 : n < 1
  · have y1 : (n : Int) < 1 := by omega
    have HN := Lib.hid (show nmL l < 0 by rw [nmL_no (fun h => by omega)]; omega)
    go_enter Tryd.func43, Tryd.ntmps43
    go_wp2
    go_ret2
    exact ⟨rfl, .inl ⟨HN.out, rfl⟩⟩
  have y1 : ¬ (n : Int) < 1 := by omega
  by_cases h6 : 6 < n
  · have y2 : (6 : Int) < (n : Int) := by omega
    have HN := Lib.hid (show nmL l < 0 by rw [nmL_no (fun h => by omega)]; omega)
    go_enter Tryd.func43, Tryd.ntmps43
    go_wp2
    go_ret2
    exact ⟨rfl, .inl ⟨HN.out, rfl⟩⟩
  have y2 : ¬ (6 : Int) < (n : Int) := by omega
  have hix0 : ∀ w : World, (Instr.index 9 (.string s) (.int .i64 0)).run Tryd.prog w = .ok (.int .u8 (gb l 0)) w := fun w => idx_run l s HS.out 0 (by omega) w
  obtain ⟨b0, hb0⟩ : ∃ b, b = gb l 0 := ⟨_, rfl⟩
  have HB0 := Lib.hid hb0
  rw [← hb0] at hix0
  clear hb0
  by_cases h0 : 1 < n ∧ b0 = 48
  · have y3 : (1 : Int) < (n : Int) := by omega
    have y4 : (b0 == 48) = true := beq_t h0.2
    have HN := Lib.hid (show nmL l < 0 by rw [nmL_no (fun h => h.2.2.1 ⟨by omega, (head_gb (by omega)).2 (by rw [← HB0.out]; exact h0.2)⟩)]; omega)
    clear h0
    go_enter Tryd.func43, Tryd.ntmps43
    go_wp2
    go_ret2
    exact ⟨rfl, .inl ⟨HN.out, rfl⟩⟩
  have HOK := Lib.hid (show l.all dgt = true → nmL l = valD 0 l from fun h => nmL_yes ⟨by omega, by omega, fun h9 => h0 ⟨by omega, by rw [HB0.out]; exact (head_gb (by omega)).1 h9.2⟩, h⟩)
  have hcond : ((1 : Int) < (n : Int) ∧ (b0 == 48) = false) ∨ ¬ (1 : Int) < (n : Int) := by
    by_cases h9 : 1 < n
    · exact .inl ⟨by omega, beq_f fun e => h0 ⟨h9, e⟩⟩
    · exact .inr (by omega)
  clear h0
  have key : ∀ W : World, W = w → Calls Tryd.prog 43 #[.string s] W fun e w' => NmPost l w e w' := by
    intro W hWw
    subst hWw
    rcases hcond with ⟨y3, y4⟩ | y3
    all_goals
      go_enter Tryd.func43, Tryd.ntmps43
      go_wp2
      clear hix0
      go_loop [4, 5, 26] (fun nv _ i => ∃ j : Nat, j ≤ n ∧ i = .int .i64 j ∧ nv = .int .i64 (valD 0 (l.take j)) ∧ Hid ((l.take j).all dgt = true)) (fun _ _ i => n - (intOf i).toNat)
      case atStart => exact ⟨0, Nat.zero_le _, rfl, rfl, rfl⟩
      case round =>
        obtain ⟨j, hj, rfl, rfl, HD⟩ := hrel
        by_cases hlt : j < n
        rotate_left
        · have hnj : ¬ (j : Int) < (n : Int) := by omega
          have HE := Lib.hid (show nmL l = valD 0 (l.take j) by
            have e : l.take j = l := List.take_of_length_le (by omega)
            have h9 := HD.out
            rw [e] at h9 ⊢
            exact HOK.out h9)
          have HN := Lib.hid (valD_nn (l.take j) 0 HD.out (Int.le_refl _))
          go_wp2
          go_ret2
          exact ⟨rfl, .inr ⟨by rw [HE.out]; exact HN.out, by rw [HE.out]; rfl⟩⟩
        have hjl : j < l.length := by omega
        have j0 : (0 : Int) ≤ (j : Int) := by omega
        have j1 : (j : Int) < (n : Int) := by omega
        have hix : ∀ w : World, (Instr.index 9 (.string s) (.int .i64 (j : Int))).run Tryd.prog w = .ok (.int .u8 (gb l j)) w := fun w => idx_run l s HS.out j hjl w
        have hbr := gb_rng l j
        have HDG := Lib.hid (dgt_gb hjl)
        have HNO := Lib.hid (show ¬ (48 ≤ gb l j ∧ gb l j ≤ 57) → nmL l < 0 from fun hno => by
          rw [nmL_no (fun h => hno ((dgt_gb hjl).1 (List.all_eq_true.1 h.2.2.2 _ (List.getElem_mem hjl))))]; omega)
        have HV := Lib.hid (show valD 0 (l.take (j + 1)) = 10 * valD 0 (l.take j) + (gb l j - 48) by rw [take_b hjl, valD_snoc, gb_eq hjl])
        have hv0 := valD_nn (l.take j) 0 HD.out (Int.le_refl _)
        have hv1 : valD 0 (l.take j) < 1000000 := by
          have h9 := valD_lt (l.take j) 0 0 HD.out (Int.le_refl _) (by omega)
          rw [List.length_take] at h9
          have h8 : (10 : Int) ^ (0 + min j l.length) ≤ 1000000 := (by decide : ∀ m : Fin 7, (10 : Int) ^ (m : Nat) ≤ 1000000) ⟨0 + min j l.length, by omega⟩
          omega
        have HD2 := Lib.hid (show 48 ≤ gb l j ∧ gb l j ≤ 57 → (l.take (j + 1)).all dgt = true from fun h9 => by
          rw [take_b hjl, List.all_append, HD.out]
          simp only [List.all_cons, List.all_nil, Bool.and_true, Bool.true_and]
          exact HDG.out.2 h9)
        obtain ⟨b, hb⟩ : ∃ b, b = gb l j := ⟨_, rfl⟩
        rw [← hb] at hix hbr HNO HV HD2
        obtain ⟨v, hv⟩ : ∃ v, v = valD 0 (l.take j) := ⟨_, rfl⟩
        rw [← hv] at HV hv0 hv1 ⊢
        clear hb hv HDG
        by_cases z1 : b < 48
        · have HN := Lib.hid (HNO.out fun h => by omega)
          clear HNO HD2 HV
          go_wp2
          go_ret2
          exact ⟨rfl, .inl ⟨HN.out, rfl⟩⟩
        by_cases z2 : 57 < b
        · have HN := Lib.hid (HNO.out fun h => by omega)
          clear HNO HD2 HV
          go_wp2
          go_ret2
          exact ⟨rfl, .inl ⟨HN.out, rfl⟩⟩
        have HD3 := Lib.hid (HD2.out ⟨by omega, by omega⟩)
        have g8 : IntKind.u8.wrap (b - 48) = b - 48 := IntWalk.u8_in _ (by omega)
        have g9 : IntKind.i64.wrap (b - 48) = b - 48 := IntWalk.i64_in _ (by omega)
        have ga : IntKind.i64.wrap (10 * v) = 10 * v := IntWalk.i64_in _ (by omega)
        have gc : IntKind.i64.wrap (10 * v + (b - 48)) = 10 * v + (b - 48) := IntWalk.i64_in _ (by omega)
        clear HNO HD2
        go_wp2
        go_round
        case rel => exact ⟨j + 1, hlt, by go_num, by rw [HV.out], HD3.out⟩
        case measure => simp [intOf]; omega
  exact key w rfl
theorem TB_toList (l : List UInt8) : (TB l).toList = l := ByteArray.toList_mk l
theorem drop_b {l : List UInt8} {j : Nat} (h : j < l.length) : l.drop j = l[j] :: l.drop (j + 1) := List.drop_eq_getElem_cons h
set_option maxRecDepth 100000 in
set_option maxHeartbeats 2000000 in
theorem readNumber_any (l : List UInt8) (s : ByteArray) (hs : s = TB l) (w : World) (hl : l.length ≤ 4294967296) :
    Calls Tryd.prog 73 #[.string s] w fun e w' => e = .returned (.int .i64 (nmL l)) ∧ w = w' := by
  have hsz : s.size = l.length := by rw [hs, TB_size]
  have HS := Lib.hid hs
  have htl : s.toList = l := by rw [hs, TB_toList]
  have HTL := Lib.hid htl
  obtain ⟨n, hn⟩ : ∃ n, n = s.size := ⟨_, rfl⟩
  have hsn : s.size = n := hn.symm
  have hnl : n ≤ l.length := by omega
  have hnl2 : l.length ≤ n := by omega
  obtain ⟨R, hR⟩ : ∃ R, R = nmL l := ⟨_, rfl⟩
  rw [← hR]
  have HR := Lib.hid hR
  have HRD := Lib.hid (show R = if rdN 0 l < 0 ∨ l = [] ∨ l ≠ Lib.decDigits (rdN 0 l).toNat then -1 else rdN 0 l by rw [hR]; exact rd_nm l)
  clear hs hsz hn htl hR
  go_enter Tryd.func73, Tryd.ntmps73
  go_wp2
  go_loop [3, 4] (fun nv i => ∃ (j : Nat) (v : Int), j ≤ n ∧ i = .int .i64 j ∧ nv = .int .i64 v ∧ 0 ≤ v ∧ v ≤ 999999 ∧ Hid (rdN v (l.drop j) = rdN 0 l)) (fun _ i => n - (intOf i).toNat)
  case atStart => exact ⟨0, 0, Nat.zero_le _, rfl, rfl, Int.le_refl _, by omega, by show _ = _; rw [List.drop_zero]⟩
  case round =>
    obtain ⟨j, v, hj, rfl, rfl, hv0, hv1, HD⟩ := hrel
    by_cases hlt : j < n
    rotate_left
    · have hnj : ¬ (j : Int) < (n : Int) := by omega
      have HE := Lib.hid (show rdN 0 l = v by
        have h9 := HD.out
        rw [List.drop_of_length_le (by omega)] at h9
        exact h9.symm)
      obtain ⟨m, rfl⟩ := Int.eq_ofNat_of_zero_le hv0
      clear HD
      by_cases h0 : n = 0
      · have q0 : (s.toList == []) = true := by rw [HTL.out]; have : l = [] := List.eq_nil_of_length_eq_zero (by omega); rw [this]; rfl
        have q1 : s.toList.isEmpty = true := by rw [HTL.out]; have : l = [] := List.eq_nil_of_length_eq_zero (by omega); rw [this]; rfl
        have HN := Lib.hid (show R = -1 by
          rw [HRD.out, if_pos (.inr (.inl (List.eq_nil_of_length_eq_zero (by omega))))])
        go_wp2
        go_ret
        exact ⟨ret_int HN.out.symm, rfl⟩
      have hne : l ≠ [] := fun e => by rw [e] at hnl2 hnl; simp at hnl; omega
      have q1 : s.toList.isEmpty = false := by rw [HTL.out]; cases l with
        | nil => exact absurd rfl hne
        | cons a t => rfl
      obtain ⟨D, hD⟩ : ∃ D, D = TB (Lib.decDigits m) := ⟨_, rfl⟩
      have HDD := Lib.hid hD
      have hDl : D.toList = Lib.decDigits m := by rw [hD, TB_toList]
      have HDL := Lib.hid hDl
      have HNE := Lib.hid hne
      have hm : m ≤ 1000000 := by omega
      clear hD hDl hne
      by_cases he : l = Lib.decDigits m
      · have q3 : (s.toList == D.toList) = true := by rw [HTL.out, HDL.out, ← he]; simp
        have HN := Lib.hid (show R = m by
          rw [HRD.out, HE.out, if_neg]
          rintro (h | h | h)
          · omega
          · exact HNE.out h
          · exact h he)
        clear he
        go_wp2_with fail
        refine (number_any m m w (Nat.le_refl _) hm).mono ?_
        rw [← HDD.out]
        rintro e x1 ⟨rfl, hx1⟩
        subst hx1
        go_wp2
        go_ret
        exact ⟨ret_int HN.out.symm, rfl⟩
      · have q3 : (s.toList == D.toList) = false := by rw [HTL.out, HDL.out]; exact beq_false_of_ne he
        have HN := Lib.hid (show R = -1 by
          rw [HRD.out, HE.out, if_pos (.inr (.inr he))])
        clear he
        go_wp2_with fail
        refine (number_any m m w (Nat.le_refl _) hm).mono ?_
        rw [← HDD.out]
        rintro e x1 ⟨rfl, hx1⟩
        subst hx1
        go_wp2
        go_ret
        exact ⟨ret_int HN.out.symm, rfl⟩
    have hjl : j < l.length := by omega
    have j0 : (0 : Int) ≤ (j : Int) := by omega
    have j1 : (j : Int) < (n : Int) := by omega
    have hix : ∀ w : World, (Instr.index 9 (.string s) (.int .i64 (j : Int))).run Tryd.prog w = .ok (.int .u8 (gb l j)) w := fun w => idx_run l s HS.out j hjl w
    have hbr := gb_rng l j
    have HRR := Lib.hid (show rdN 0 l = if ¬ (48 ≤ gb l j ∧ gb l j ≤ 57) ∨ 99999 < v then -1 else rdN (10 * v + (gb l j - 48)) (l.drop (j + 1)) by
      rw [← HD.out, drop_b hjl]
      show (if dgt l[j] = false ∨ 99999 < v then -1 else rdN (10 * v + ((l[j].toNat : Int) - 48)) (l.drop (j + 1))) = _
      rw [← gb_eq hjl]
      have h9 : (dgt l[j] = false) ↔ ¬ (48 ≤ gb l j ∧ gb l j ≤ 57) := by
        rw [← dgt_gb hjl]; cases dgt l[j] <;> simp
      by_cases hc : dgt l[j] = false ∨ 99999 < v
      · rw [if_pos hc, if_pos (by rw [← h9]; exact hc)]
      · rw [if_neg hc, if_neg (by rw [← h9]; exact hc)])
    obtain ⟨b, hb⟩ : ∃ b, b = gb l j := ⟨_, rfl⟩
    rw [← hb] at hix hbr HRR
    clear hb HD
    by_cases z1 : b < 48
    · have HN := Lib.hid (show R = -1 by rw [HRD.out, if_pos (.inl (by rw [HRR.out, if_pos (.inl (by omega))]; omega))])
      clear HRR
      go_wp2
      go_ret
      exact ⟨ret_int HN.out.symm, rfl⟩
    by_cases z2 : 57 < b
    · have HN := Lib.hid (show R = -1 by rw [HRD.out, if_pos (.inl (by rw [HRR.out, if_pos (.inl (by omega))]; omega))])
      clear HRR
      go_wp2
      go_ret
      exact ⟨ret_int HN.out.symm, rfl⟩
    by_cases z3 : 99999 < v
    · have HN := Lib.hid (show R = -1 by rw [HRD.out, if_pos (.inl (by rw [HRR.out, if_pos (.inr z3)]; omega))])
      clear HRR
      go_wp2
      go_ret
      exact ⟨ret_int HN.out.symm, rfl⟩
    have HD2 := Lib.hid (show rdN (10 * v + (b - 48)) (l.drop (j + 1)) = rdN 0 l by rw [HRR.out, if_neg (by omega)])
    have g8 : IntKind.u8.wrap (b - 48) = b - 48 := IntWalk.u8_in _ (by omega)
    have g9 : IntKind.i64.wrap (b - 48) = b - 48 := IntWalk.i64_in _ (by omega)
    have ga : IntKind.i64.wrap (10 * v) = 10 * v := IntWalk.i64_in _ (by omega)
    have gc : IntKind.i64.wrap (10 * v + (b - 48)) = 10 * v + (b - 48) := IntWalk.i64_in _ (by omega)
    clear HRR
    go_wp2
    go_round
    case rel => exact ⟨j + 1, 10 * v + (b - 48), hlt, by go_num, rfl, by omega, by omega, HD2.out⟩
    case measure => simp [intOf]; omega
theorem SlSt : SlT Tryd.prog 64 9 (.string .empty) 1 16 := ⟨Tryd.underlying64, by kernel_rfl, rfl, by omega⟩
theorem splitC_take (c : UInt8) : ∀ (l cur : List UInt8), (∀ b ∈ l, b ≠ c) → splitC c cur l = [cur ++ l]
  | [], cur, _ => by simp [splitC]
  | b :: t, cur, h => by
    rw [splitC, if_neg (h b (by simp)), splitC_take c t (cur ++ [b]) fun x hx => h x (by simp [hx])]
    simp
end Go.Proofs.YtlabekemifccaaaDoor
