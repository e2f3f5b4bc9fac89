/-
  Lemmas and contracts of single functions of this program, used by the proofs of its laws: what each call returns and what becomes of memory. Conditions: the hypotheses of each theorem.
-/
import Derived.Test.YtkgepklapglmdaaGrdR
import Derived.Test.YtkgepklapglmdaaZa
import Derived.Test.YtkgepklapglmdaaIntsS
namespace Go.Proofs.Ytkgepklapglmdaa
open Go.RowKit
attribute [local go_sem ↓] Go.wp_at_zero Go.wp_at_succ

theorem sumI_sumG (xs : List Int) : ∀ k, k ≤ xs.length → sumI xs k = (xs.take k).sum
  | 0, _ => rfl
  | k + 1, hk => by
    have ih := sumI_sumG xs k (by omega)
    show sumI xs k + gi xs k = _
    rw [take_gi hk, List.sum_append, ih]; simp
theorem sumI_all (xs : List Int) : sumI xs xs.length = xs.sum := by rw [sumI_sumG xs _ (Nat.le_refl _), List.take_length]
set_option maxHeartbeats 1000000 in
theorem ValidWants_any (lo hi l2 h2 : Nat) (W : Int) (v u : Value) (ws xs : List Int) (w : World) (h : Ints w lo hi v ws) (hy : Ints w l2 h2 u xs) :
    Calls Try.prog 47 #[.int .i64 W, v, u] w fun e w' => e = .returned (.bool (vWan W ws xs)) ∧ w = w' := by
  obtain ⟨A, c, rfl, hc, hm⟩ := h.form
  obtain ⟨B, d, rfl, hd, hm2⟩ := hy.form
  obtain ⟨R, hR⟩ : ∃ R, R = vWan W ws xs := ⟨_, rfl⟩
  rw [← hR]
  have HR := Lib.hid hR
  clear hR
  go_enter Try.func47, Try.ntmps47
  go_wp2_with fail
  refine (ValidWidths_any lo hi W _ ws w h).mono ?_
  rintro e w1 ⟨rfl, hw1⟩
  subst hw1
  cases x1 : vWid W ws
  · have Hno := Lib.hid (show R = false by rw [HR.out]; unfold vWan; rw [x1]; rfl)
    go_wp2
    go_ret
    exact ⟨ret_bool Hno.out.symm, rfl⟩
  by_cases x2 : xs.length = ws.length
  rotate_left
  · have Hno := Lib.hid (show R = false by rw [HR.out]; unfold vWan; rw [decide_eq_false x2]; simp)
    have e2 : ((xs.length : Int) != (ws.length : Int)) = true := bne_t (by omega)
    go_wp2
    go_ret
    exact ⟨ret_bool Hno.out.symm, rfl⟩
  have X2 := Lib.hid x2
  have X1 := Lib.hid x1
  have e2 : ((xs.length : Int) != (ws.length : Int)) = false := bne_f (by omega)
  have hxl : xs.length ≤ 6 := by have := (vWid_iff.1 x1).2.2.2.1; omega
  clear x1 x2
  go_wp2
  clear e2
  go_loop [7, 9, 23] (fun s _ i => ∃ k : Nat, k ≤ xs.length ∧ i = .int .i64 k ∧ s = .int .i64 (sumI xs k) ∧ Hid (∀ j, j < k → 0 ≤ gi xs j ∧ gi xs j ≤ 20)) (fun _ _ i => xs.length - (intOf i).toNat)
  case atStart => exact ⟨0, by omega, rfl, rfl, fun j hj => absurd hj (by omega)⟩
  case round =>
    obtain ⟨k, hk, rfl, rfl, HD⟩ := hrel
    have hsr := sumI_rng (xs := xs) (n := k) (b := 20) HD.out (Nat.le_refl _)
    by_cases hlt : k < xs.length
    · obtain ⟨b, o, rfl, _, _, hcell, h64⟩ := hy.cell hlt
      have hk0 : (0 : Int) ≤ (k : Int) := by omega
      have hk1 : (k : Int) < (xs.length : Int) := by omega
      have HS := Lib.hid (show sumI xs (k + 1) = sumI xs k + gi xs k from rfl)
      have HNO := Lib.hid (show ¬ (0 ≤ gi xs k ∧ gi xs k ≤ 20) → R = false from fun hn => by
        rw [HR.out]
        cases hv : vWan W ws xs
        · rfl
        · exact absurd ((vWan_iff.1 hv).2.2.1 k hlt) hn)
      have HYES := Lib.hid (show 0 ≤ gi xs k ∧ gi xs k ≤ 20 → ∀ j, j < k + 1 → 0 ≤ gi xs j ∧ gi xs j ≤ 20 from fun hy j hj => by
        rcases Nat.lt_or_ge j k with h' | h'
        · exact HD.out j h'
        · obtain rfl : j = k := by omega
          exact hy)
      obtain ⟨x, hx⟩ : ∃ x, x = gi xs k := ⟨_, rfl⟩
      obtain ⟨s, hs⟩ : ∃ s, s = sumI xs k := ⟨_, rfl⟩
      rw [← hx] at hcell h64 HS HNO HYES
      rw [← hs] at hsr HS ⊢
      clear hx hs
      by_cases y1 : x < 0
      · have Hno := Lib.hid (HNO.out fun h => by omega)
        go_wp2
        go_ret
        exact ⟨ret_bool Hno.out.symm, rfl⟩
      by_cases y2 : 20 < x
      · have Hno := Lib.hid (HNO.out fun h => by omega)
        go_wp2
        go_ret
        exact ⟨ret_bool Hno.out.symm, rfl⟩
      · have HY2 := Lib.hid (HYES.out ⟨by omega, by omega⟩)
        clear HNO HYES
        go_wp2
        go_round
        case rel => exact ⟨k + 1, by omega, by go_num, by rw [HS.out], HY2.out⟩
        case measure => simp [intOf]; omega
    · have hke : k = xs.length := by omega
      have hni : ¬ (k : Int) < (xs.length : Int) := by omega
      have Hyes := Lib.hid (show R = decide (sumI xs k ≤ 60) by
        rw [HR.out, hke, sumI_all]
        have hall : allR 0 20 xs = true := allR_iff.2 fun i hi => HD.out i (by omega)
        unfold vWan
        rw [X1.out, decide_eq_true X2.out, hall]; rfl)
      obtain ⟨s, hs⟩ : ∃ s, s = sumI xs k := ⟨_, rfl⟩
      rw [← hs] at Hyes ⊢
      clear hs hke hsr
      go_wp2
      go_ret
      exact ⟨ret_bool Hyes.out.symm, rfl⟩
theorem sTotalG_any (lo hi : Nat) (v : Value) (xs : List Int) (w : World) (h : Ints w lo hi v xs) (hl : xs.length ≤ 1000) (hb : ∀ i, i < xs.length → 0 ≤ gi xs i ∧ gi xs i ≤ 1000) :
    Calls Try.prog 28 #[v] w fun e w' => e = .returned (.int .i64 (sumI xs xs.length)) ∧ w = w' := by
  obtain ⟨A, c, rfl, hc, hm⟩ := h.form
  have HB := Lib.hid hb
  clear hb
  go_enter Try.func28, Try.ntmps28
  go_wp2
  go_loop [3, 4] (fun s i => ∃ k : Nat, k ≤ xs.length ∧ i = .int .i64 k ∧ s = .int .i64 (sumI xs k)) (fun _ i => xs.length - (intOf i).toNat)
  case atStart => exact ⟨0, by omega, rfl, rfl⟩
  case round =>
    obtain ⟨k, hk, rfl, rfl⟩ := hrel
    by_cases hlt : k < xs.length
    · obtain ⟨b, o, rfl, _, _, hcell, _⟩ := h.cell hlt
      have hs := sumI_rng HB.out hk
      have hx := HB.out k hlt
      go_wp2
      go_round
      case rel => exact ⟨k + 1, by omega, by go_num, rfl⟩
      case measure => simp [intOf]; omega
    · have He := Lib.hid (show k = xs.length by omega)
      go_wp2
      go_ret
      exact ⟨ret_int (by rw [He.out]), rfl⟩
set_option maxHeartbeats 1000000 in
theorem validWants_any (lo hi l2 h2 : Nat) (W : Int) (v u : Value) (ws xs : List Int) (w : World) (h : Ints w lo hi v ws) (hy : Ints w l2 h2 u xs) :
    Calls Try.prog 27 #[.int .i64 W, v, u] w fun e w' => e = .returned (.bool (vWan W ws xs)) ∧ Qt w w' := by
  obtain ⟨A, c, rfl, hc, hm⟩ := h.form
  obtain ⟨B, d, rfl, hd, hm2⟩ := hy.form
  obtain ⟨R, hR⟩ : ∃ R, R = vWan W ws xs := ⟨_, rfl⟩
  rw [← hR]
  have HR := Lib.hid hR
  clear hR
  go_enter Try.func27, Try.ntmps27
  go_wp2_with fail
  refine (validWidths_any lo hi W _ ws w h).mono ?_
  rintro e w1 ⟨rfl, q⟩
  have HQ := Lib.hid q
  have HY := Lib.hid (hy.qt q)
  clear q
  cases x1 : vWid W ws
  · have Hno := Lib.hid (show R = false by rw [HR.out]; unfold vWan; rw [x1]; rfl)
    go_wp2
    go_ret
    exact ⟨ret_bool Hno.out.symm, HQ.out⟩
  by_cases x2 : xs.length = ws.length
  rotate_left
  · have Hno := Lib.hid (show R = false by rw [HR.out]; unfold vWan; rw [decide_eq_false x2]; simp)
    have e2 : ((xs.length : Int) == (ws.length : Int)) = false := beq_f (by omega)
    go_wp2
    go_ret
    exact ⟨ret_bool Hno.out.symm, HQ.out⟩
  have X2 := Lib.hid x2
  have X1 := Lib.hid x1
  have e2 : ((xs.length : Int) == (ws.length : Int)) = true := beq_t (by omega)
  have hxl : xs.length ≤ 6 := by have := (vWid_iff.1 x1).2.2.2.1; omega
  clear x1 x2
  go_wp2_with fail
  refine (allIn_any l2 h2 _ xs 0 20 w1 HY.out).mono ?_
  rintro e w2 ⟨rfl, hw2⟩
  subst hw2
  cases x3 : allR 0 20 xs
  · have Hno := Lib.hid (show R = false by rw [HR.out]; unfold vWan; rw [x3]; simp)
    go_wp2
    go_ret
    exact ⟨ret_bool Hno.out.symm, HQ.out⟩
  have HA := Lib.hid (allR_iff.1 x3)
  have Hyes := Lib.hid (show R = decide (sumI xs xs.length ≤ 60) by
    rw [HR.out, sumI_all]
    unfold vWan
    rw [X1.out, decide_eq_true X2.out, x3]; rfl)
  clear x3
  go_wp2_with fail
  refine (sTotalG_any l2 h2 _ xs w1 HY.out (by omega) (fun i hi => by have := HA.out i hi; omega)).mono ?_
  rintro e w2 ⟨rfl, hw2⟩
  subst hw2
  obtain ⟨s, hs⟩ : ∃ s, s = sumI xs xs.length := ⟨_, rfl⟩
  rw [← hs] at Hyes ⊢
  clear hs
  go_wp2
  go_ret
  exact ⟨ret_bool Hyes.out.symm, HQ.out⟩
end Go.Proofs.Ytkgepklapglmdaa
