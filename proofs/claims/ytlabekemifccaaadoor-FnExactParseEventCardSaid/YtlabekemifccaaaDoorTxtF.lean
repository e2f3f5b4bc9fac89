/-
  Lemmas and contracts of single functions of this program, used by the proofs of its laws: what each call returns and what becomes of memory. Conditions: the hypotheses of each theorem.
-/
import Derived.Test.YtlabekemifccaaaDoorTxtE
namespace Go.Proofs.YtlabekemifccaaaDoor
open Go.RowKit
attribute [local go_sem ↓] Go.wp_at_zero Go.wp_at_succ

theorem drop_take_succ {l : List UInt8} {k j : Nat} (hk : k ≤ j) (hj : j < l.length) : (l.drop k).take (j + 1 - k) = (l.drop k).take (j - k) ++ [l[j]] := by
  rw [show j + 1 - k = (j - k) + 1 by omega, List.take_succ_eq_append_getElem (by rw [List.length_drop]; omega)]
  congr 2
  rw [List.getElem_drop]
  congr 1
  omega
set_option maxRecDepth 100000 in
set_option maxHeartbeats 2000000 in
theorem splitAt_any (c : UInt8) (cv : Int) (hcv : cv = (c.toNat : Int)) (l : List UInt8) (s : ByteArray) (hs : s = TB l) (w : World) (hl : l.length ≤ 4294967296) :
    Calls Tryd.prog 72 #[.string s, .int .u8 cv] w fun e w' => ∃ v, e = .returned v ∧ OwnS w' w.heap.size 9 v (splitC c [] l) ∧ Below w.heap.size w w' := by
  have hsz : s.size = l.length := by rw [hs, TB_size]
  have HS := Lib.hid hs
  have HCV := Lib.hid hcv
  obtain ⟨n, hn⟩ : ∃ n, n = s.size := ⟨_, rfl⟩
  have hsn : s.size = n := hn.symm
  have hnl : n ≤ l.length := by omega
  have hnl2 : l.length ≤ n := by omega
  obtain ⟨R, hR⟩ : ∃ R, R = splitC c [] l := ⟨_, rfl⟩
  rw [← hR]
  have HR := Lib.hid hR
  clear hs hsz hn hR hcv
  have b1 : Below w.heap.size w (w.alloc (.cells #[] 9)) := (Below.refl _ _).alloc (Nat.le_refl _) _
  have HO0 := Lib.hid (OwnS.empty w w.heap.size 9 (Nat.le_refl _))
  have HB0 := Lib.hid b1
  have hz0 : w.heap.size ≤ (w.alloc (.cells #[] 9)).heap.size := b1.size
  clear b1
  go_enter Tryd.func72, Tryd.ntmps72
  go_wp2
  go_loopw [5, 6, 7] (fun o f i wr => ∃ (j k : Nat) (xs : List (List UInt8)), j ≤ n ∧ k ≤ j ∧ xs.length ≤ j ∧ i = .int .i64 j ∧ f = .int .i64 k ∧ Hid (xs ++ splitC c ((l.drop k).take (j - k)) (l.drop j) = R) ∧ Hid (OwnS wr w.heap.size 9 o xs) ∧ Hid (Below w.heap.size w wr) ∧ w.heap.size ≤ wr.heap.size) (fun _ _ i _ => n - (intOf i).toNat)
  case atStart => exact ⟨0, 0, [], Nat.zero_le _, Nat.le_refl _, Nat.le_refl _, rfl, rfl, by show _ = _; rw [HR.out]; simp, HO0.out, HB0.out, hz0⟩
  case round =>
    obtain ⟨j, k, xs, hj, hkj, hxl, rfl, rfl, HD, HO, HB, hzr⟩ := hrel
    clear HO0 HB0 hz0
    obtain ⟨Ao, co, rfl, hco, hco2⟩ := HO.out.form
    by_cases hlt : j < n
    rotate_left
    · have hnj : ¬ (j : Int) < (n : Int) := by omega
      obtain ⟨E, hE⟩ : ∃ E, E = s.extract k n := ⟨_, rfl⟩
      have hE2 : s.extract k n = E := hE.symm
      have HE := Lib.hid (show E = TB ((l.drop k).take (n - k)) by rw [hE, HS.out, TB_ext])
      have k0 : (0 : Int) ≤ (k : Int) := by omega
      have k1 : (k : Int) ≤ (n : Int) := by omega
      have HF := Lib.hid (show xs ++ [(l.drop k).take (n - k)] = R by
        obtain rfl : j = n := by omega
        have h9 := HD.out
        rw [List.drop_of_length_le hnl2] at h9
        exact h9)
      clear hE HD
      go_wp2_with (at_builtin; refine wpList_appendS SlSt wr rfl (.tmp 29) (.tmp 33) rfl _ (.string E) (by rw [HE.out]) w.heap.size _ xs rfl rfl HO.out (by omega) (by omega) (by omega) ?_; intro v6 w6 ho6 hg6)
      have HO6 := Lib.hid (show OwnS w6 w.heap.size 9 v6 R by rw [← HF.out]; exact ho6)
      have HB6 := Lib.hid (HB.out.trans hg6.below)
      clear ho6 hg6
      go_ret
      exact ⟨_, rfl, HO6.out, HB6.out⟩
    have hjl : j < l.length := by omega
    have j0 : (0 : Int) ≤ (j : Int) := by omega
    have j1 : (j : Int) < (n : Int) := by omega
    have hix : ∀ w : World, (Instr.index 9 (.string s) (.int .i64 (j : Int))).run Tryd.prog w = .ok (.int .u8 (gb l j)) w := fun w => idx_run l s HS.out j hjl w
    have HDD := Lib.hid (show xs ++ (if gb l j = cv then (l.drop k).take (j - k) :: splitC c [] (l.drop (j + 1)) else splitC c ((l.drop k).take (j + 1 - k)) (l.drop (j + 1))) = R by
      have h9 := HD.out
      rw [drop_b hjl, splitC] at h9
      rw [drop_take_succ hkj hjl]
      by_cases hc : l[j] = c
      · rw [if_pos hc] at h9
        rw [if_pos (by rw [gb_eq hjl, hc, HCV.out])]
        exact h9
      · rw [if_neg hc] at h9
        rw [if_neg (fun e => hc (UInt8.toNat_inj.1 (by rw [gb_eq hjl, HCV.out] at e; omega)))]
        exact h9)
    obtain ⟨b, hb⟩ : ∃ b, b = gb l j := ⟨_, rfl⟩
    rw [← hb] at hix HDD
    clear hb HD
    by_cases hc : b = cv
    · have y1 : (b == cv) = true := beq_t hc
      obtain ⟨E, hE⟩ : ∃ E, E = s.extract k j := ⟨_, rfl⟩
      have hE2 : s.extract k j = E := hE.symm
      have HE := Lib.hid (show E = TB ((l.drop k).take (j - k)) by rw [hE, HS.out, TB_ext])
      have k0 : (0 : Int) ≤ (k : Int) := by omega
      have k1 : (k : Int) ≤ (j : Int) := by omega
      have k2 : (j : Int) ≤ (n : Int) := by omega
      have HF := Lib.hid (show (xs ++ [(l.drop k).take (j - k)]) ++ splitC c ((l.drop (j + 1)).take (j + 1 - (j + 1))) (l.drop (j + 1)) = R by
        rw [Nat.sub_self, List.take_zero, List.append_assoc]
        have h9 := HDD.out
        rw [if_pos hc] at h9
        exact h9)
      clear hE HDD hc
      go_wp2_with (at_builtin; refine wpList_appendS SlSt wr rfl (.tmp 20) (.tmp 25) rfl _ (.string E) (by rw [HE.out]) w.heap.size _ xs rfl rfl HO.out (by omega) (by omega) (by omega) ?_; intro v6 w6 ho6 hg6)
      have HO6 := Lib.hid ho6
      have HB6 := Lib.hid (HB.out.trans hg6.below)
      clear ho6 hg6
      go_roundw
      case rel => exact ⟨j + 1, j + 1, _, hlt, Nat.le_refl _, by rw [List.length_append, List.length_singleton]; omega, by go_num, by go_num, HF.out, HO6.out, HB6.out, by have := HB6.out.size; omega⟩
      case measure => simp [intOf]; omega
    · have y1 : (b == cv) = false := beq_f hc
      have HF := Lib.hid (show xs ++ splitC c ((l.drop k).take (j + 1 - k)) (l.drop (j + 1)) = R by
        have h9 := HDD.out
        rw [if_neg hc] at h9
        exact h9)
      clear HDD hc
      go_wp2
      go_roundw
      case rel => exact ⟨j + 1, k, xs, hlt, by omega, by omega, by go_num, rfl, HF.out, HO.out, HB.out, hzr⟩
      case measure => simp [intOf]; omega
end Go.Proofs.YtlabekemifccaaaDoor
