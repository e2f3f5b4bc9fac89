/-
  Lemmas and contracts of single functions of this program, used by the proofs of its laws: what each call returns and what becomes of memory. Conditions: the hypotheses of each theorem.
-/
import Derived.Test.YteckjiaaikdghaaSlitB
namespace Go.Proofs.Yteckjiaaikdghaa
open Go.RowKit
attribute [local go_sem ↓] Go.wp_at_zero Go.wp_at_succ

theorem sTotal_any (lo hi : Nat) (v : Value) (xs : List Int) (w : World) (h : Ints w lo hi v xs) (hl : xs.length ≤ 1000) (hb : ∀ i, i < xs.length → 0 ≤ gi xs i ∧ gi xs i ≤ 1000) :
    Calls Try.prog 79 #[v] w fun e w' => e = .returned (.int .i64 (sumI xs xs.length)) ∧ w = w' := by
  obtain ⟨A, c, rfl, hc, hm⟩ := h.form
  have HB := Lib.hid hb
  clear hb
  go_enter Try.func79, Try.ntmps79
  go_wp2
  go_loop [3, 4] (fun s i => ∃ k : Nat, k ≤ xs.length ∧ i = .int .i64 k ∧ s = .int .i64 (sumI xs k)) (fun _ i => xs.length - (intOf i).toNat)
  case atStart => exact ⟨0, by omega, rfl, rfl⟩
  case round =>
    obtain ⟨k, hk, rfl, rfl⟩ := hrel
    by_cases hlt : k < xs.length
    · obtain ⟨b, o, rfl, _, _, hcell, _⟩ := h.cell hlt
      have hs := sumI_rng HB.out hk
      have hx := HB.out k hlt
      go_wp2
      go_round
      case rel => exact ⟨k + 1, by omega, by go_num, rfl⟩
      case measure => simp [intOf]; omega
    · have He := Lib.hid (show k = xs.length by omega)
      go_wp2
      go_ret
      exact ⟨ret_int (by rw [He.out]), rfl⟩
/-- lengths are valid -/
def vLen (xs : List Int) : Bool := decide (xs.length ≤ 60) && allR 1 400 xs
theorem vLen_iff {xs : List Int} : vLen xs = true ↔ xs.length ≤ 60 ∧ ∀ i, i < xs.length → 1 ≤ gi xs i ∧ gi xs i ≤ 400 := by
  unfold vLen; rw [Bool.and_eq_true, decide_eq_true_eq, allR_iff]
theorem validLengths_any (lo hi : Nat) (v : Value) (xs : List Int) (w : World) (h : Ints w lo hi v xs) :
    Calls Try.prog 87 #[v] w fun e w' => e = .returned (.bool (vLen xs)) ∧ w = w' := by
  obtain ⟨A, c, rfl, hc, hm⟩ := h.form
  by_cases hl : xs.length ≤ 60
  · have hl' : (xs.length : Int) ≤ 60 := by omega
    have HR := Lib.hid (show vLen xs = allR 1 400 xs by unfold vLen; rw [decide_eq_true hl, Bool.true_and])
    go_enter Try.func87, Try.ntmps87
    go_wp2_with fail
    refine (allIn_any lo hi _ xs 1 400 w h).mono ?_
    rintro e w1 ⟨rfl, rfl⟩
    go_wp2
    go_ret
    exact ⟨ret_bool HR.out.symm, rfl⟩
  · have hl' : ¬ (xs.length : Int) ≤ 60 := by omega
    have HR := Lib.hid (show vLen xs = false by unfold vLen; rw [decide_eq_false hl, Bool.false_and])
    go_enter Try.func87, Try.ntmps87
    go_wp2
    go_ret
    exact ⟨ret_bool HR.out.symm, rfl⟩
theorem ValidLengths_any (lo hi : Nat) (v : Value) (xs : List Int) (w : World) (h : Ints w lo hi v xs) :
    Calls Try.prog 92 #[v] w fun e w' => e = .returned (.bool (vLen xs)) ∧ w = w' := by
  obtain ⟨A, c, rfl, hc, hm⟩ := h.form
  by_cases hl : xs.length ≤ 60
  rotate_left
  · have hl' : (60 : Int) < (xs.length : Int) := by omega
    have HR := Lib.hid (show vLen xs = false by unfold vLen; rw [decide_eq_false hl, Bool.false_and])
    go_enter Try.func92, Try.ntmps92
    go_wp2
    go_ret
    exact ⟨ret_bool HR.out.symm, rfl⟩
  have hl' : ¬ (60 : Int) < (xs.length : Int) := by omega
  go_enter Try.func92, Try.ntmps92
  go_wp2
  go_loop [10] (fun i => ∃ k : Nat, k ≤ xs.length ∧ i = .int .i64 k ∧ Hid (∀ j, j < k → 1 ≤ gi xs j ∧ gi xs j ≤ 400)) (fun i => xs.length - (intOf i).toNat)
  case atStart => exact ⟨0, by omega, rfl, fun j hj => absurd hj (by omega)⟩
  case round =>
    obtain ⟨k, hk, rfl, HD⟩ := hrel
    by_cases hlt : k < xs.length
    · obtain ⟨b', o, rfl, _, _, hcell, h64⟩ := h.cell hlt
      have hk0 : (0 : Int) ≤ (k : Int) := by omega
      have hk1 : (k : Int) < (xs.length : Int) := by omega
      obtain ⟨x, hx⟩ : ∃ x, x = gi xs k := ⟨_, rfl⟩
      rw [← hx] at hcell h64
      have Hx := Lib.hid hx
      clear hx
      by_cases hin : 1 ≤ x ∧ x ≤ 400
      · have i1 : ¬ x < 1 := by omega
        have i2 : ¬ 400 < x := by omega
        have Hin := Lib.hid hin
        clear hin
        go_wp2
        go_round
        case rel =>
          refine ⟨k + 1, by omega, by go_num, fun j hj => ?_⟩
          rcases Nat.lt_or_ge j k with h' | h'
          · exact HD.out j h'
          · obtain rfl : j = k := by omega
            rw [← Hx.out]; exact Hin.out
        case measure => simp [intOf]; omega
      · have HR := Lib.hid (show vLen xs = false by
          cases hv : vLen xs
          · rfl
          · have := (vLen_iff.1 hv).2 k hlt; rw [← Hx.out] at this; exact absurd this hin)
        by_cases i1 : x < 1
        · go_wp2
          go_ret
          exact ⟨ret_bool HR.out.symm, rfl⟩
        · have i2 : 400 < x := by omega
          clear hin
          go_wp2
          go_ret
          exact ⟨ret_bool HR.out.symm, rfl⟩
    · have HR := Lib.hid (show vLen xs = true from vLen_iff.2 ⟨hl, fun i hi => HD.out i (by omega)⟩)
      go_wp2
      go_ret
      exact ⟨ret_bool HR.out.symm, rfl⟩
/-- the paper is long enough -/
def enL (ps ws : List Int) (skip : Int) : Bool := vLen ps && vLen ws && (decide (0 ≤ skip) && decide (skip ≤ sumI ps ps.length - sumI ws ws.length))
theorem vLen_sum {xs : List Int} (h : vLen xs = true) : xs.length ≤ 1000 ∧ (∀ i, i < xs.length → 0 ≤ gi xs i ∧ gi xs i ≤ 1000) ∧ 0 ≤ sumI xs xs.length ∧ sumI xs xs.length ≤ 60000 := by
  have h1 := vLen_iff.1 h
  have h2 : ∀ i, i < xs.length → 0 ≤ gi xs i ∧ gi xs i ≤ 1000 := fun i hi => by have := h1.2 i hi; omega
  have h3 := sumI_rng h2 (Nat.le_refl _)
  refine ⟨by omega, h2, h3.1, ?_⟩
  have := h3.2
  omega
theorem longEnough_any (lo hi l2 h2 : Nat) (v u : Value) (ps ws : List Int) (skip : Int) (w : World) (h : Ints w lo hi v ps) (hy : Ints w l2 h2 u ws) :
    Calls Try.prog 48 #[v, u, .int .i64 skip] w fun e w' => e = .returned (.bool (enL ps ws skip)) ∧ w = w' := by
  obtain ⟨R, hR⟩ : ∃ R, R = enL ps ws skip := ⟨_, rfl⟩
  rw [← hR]
  unfold enL at hR
  cases hp : vLen ps
  · have HR := Lib.hid (show R = false by rw [hR, hp]; rfl)
    clear hR
    go_enter Try.func48, Try.ntmps48
    go_wp2_with fail
    refine (ValidLengths_any lo hi _ ps w h).mono ?_
    rw [hp]
    rintro e w1 ⟨rfl, rfl⟩
    go_wp2
    go_ret
    exact ⟨ret_bool HR.out.symm, rfl⟩
  cases hw : vLen ws
  · have HR := Lib.hid (show R = false by rw [hR, hp, hw]; rfl)
    clear hR
    go_enter Try.func48, Try.ntmps48
    go_wp2_with fail
    refine (ValidLengths_any lo hi _ ps w h).mono ?_
    rw [hp]
    rintro e w1 ⟨rfl, rfl⟩
    go_wp2_with fail
    refine (ValidLengths_any l2 h2 _ ws w hy).mono ?_
    rw [hw]
    rintro e w1 ⟨rfl, rfl⟩
    go_wp2
    go_ret
    exact ⟨ret_bool HR.out.symm, rfl⟩
  have hps := vLen_sum hp
  have hws := vLen_sum hw
  have HR := Lib.hid (show R = (decide (0 ≤ skip) && decide (skip ≤ sumI ps ps.length - sumI ws ws.length)) by rw [hR, hp, hw]; rfl)
  clear hR
  go_enter Try.func48, Try.ntmps48
  go_wp2_with fail
  refine (ValidLengths_any lo hi _ ps w h).mono ?_
  rw [hp]
  rintro e w1 ⟨rfl, rfl⟩
  go_wp2_with fail
  refine (ValidLengths_any l2 h2 _ ws w hy).mono ?_
  rw [hw]
  rintro e w1 ⟨rfl, rfl⟩
  by_cases hs : 0 ≤ skip
  · have hs' : skip ≥ 0 := hs
    go_wp2_with fail
    refine (sumOf_any lo hi _ ps w h hps.1 hps.2.1).mono ?_
    rintro e w1 ⟨rfl, rfl⟩
    go_wp2_with fail
    refine (sumOf_any l2 h2 _ ws w hy hws.1 hws.2.1).mono ?_
    rintro e w1 ⟨rfl, rfl⟩
    have HR2 := Lib.hid (show R = decide (skip ≤ sumI ps ps.length - sumI ws ws.length) by rw [HR.out, decide_eq_true hs, Bool.true_and])
    obtain ⟨a, ha⟩ : ∃ a, a = sumI ps ps.length := ⟨_, rfl⟩
    obtain ⟨b, hb⟩ : ∃ a, a = sumI ws ws.length := ⟨_, rfl⟩
    rw [← ha] at hps HR2 ⊢
    rw [← hb] at hws HR2 ⊢
    have g1 : wrap64 (a - b) = a - b := w64 (by omega)
    clear hs hs' ha hb
    go_wp2
    go_ret
    exact ⟨ret_bool HR2.out.symm, rfl⟩
  · have hs' : ¬ skip ≥ 0 := hs
    have HR2 := Lib.hid (show R = false by rw [HR.out, decide_eq_false hs, Bool.false_and])
    go_wp2
    go_ret
    exact ⟨ret_bool HR2.out.symm, rfl⟩
theorem enough_any (lo hi l2 h2 : Nat) (v u : Value) (ps ws : List Int) (skip : Int) (w : World) (h : Ints w lo hi v ps) (hy : Ints w l2 h2 u ws) :
    Calls Try.prog 46 #[v, u, .int .i64 skip] w fun e w' => e = .returned (.bool (enL ps ws skip)) ∧ w = w' := by
  obtain ⟨R, hR⟩ : ∃ R, R = enL ps ws skip := ⟨_, rfl⟩
  rw [← hR]
  unfold enL at hR
  cases hp : vLen ps
  · have HR := Lib.hid (show R = false by rw [hR, hp]; rfl)
    clear hR
    go_enter Try.func46, Try.ntmps46
    go_wp2_with fail
    refine (validLengths_any lo hi _ ps w h).mono ?_
    rw [hp]
    rintro e w1 ⟨rfl, rfl⟩
    go_wp2
    go_ret
    exact ⟨ret_bool HR.out.symm, rfl⟩
  cases hw : vLen ws
  · have HR := Lib.hid (show R = false by rw [hR, hp, hw]; rfl)
    clear hR
    go_enter Try.func46, Try.ntmps46
    go_wp2_with fail
    refine (validLengths_any lo hi _ ps w h).mono ?_
    rw [hp]
    rintro e w1 ⟨rfl, rfl⟩
    go_wp2_with fail
    refine (validLengths_any l2 h2 _ ws w hy).mono ?_
    rw [hw]
    rintro e w1 ⟨rfl, rfl⟩
    go_wp2
    go_ret
    exact ⟨ret_bool HR.out.symm, rfl⟩
  have hps := vLen_sum hp
  have hws := vLen_sum hw
  have HR := Lib.hid (show R = (decide (0 ≤ skip) && decide (skip ≤ sumI ps ps.length - sumI ws ws.length)) by rw [hR, hp, hw]; rfl)
  clear hR
  go_enter Try.func46, Try.ntmps46
  go_wp2_with fail
  refine (validLengths_any lo hi _ ps w h).mono ?_
  rw [hp]
  rintro e w1 ⟨rfl, rfl⟩
  go_wp2_with fail
  refine (validLengths_any l2 h2 _ ws w hy).mono ?_
  rw [hw]
  rintro e w1 ⟨rfl, rfl⟩
  by_cases hs : 0 ≤ skip
  · have hs' : skip ≥ 0 := hs
    go_wp2_with fail
    refine (sTotal_any lo hi _ ps w h hps.1 hps.2.1).mono ?_
    rintro e w1 ⟨rfl, rfl⟩
    go_wp2_with fail
    refine (sTotal_any l2 h2 _ ws w hy hws.1 hws.2.1).mono ?_
    rintro e w1 ⟨rfl, rfl⟩
    have HR2 := Lib.hid (show R = decide (skip ≤ sumI ps ps.length - sumI ws ws.length) by rw [HR.out, decide_eq_true hs, Bool.true_and])
    obtain ⟨a, ha⟩ : ∃ a, a = sumI ps ps.length := ⟨_, rfl⟩
    obtain ⟨b, hb⟩ : ∃ a, a = sumI ws ws.length := ⟨_, rfl⟩
    rw [← ha] at hps HR2 ⊢
    rw [← hb] at hws HR2 ⊢
    have g1 : wrap64 (a - b) = a - b := w64 (by omega)
    clear hs hs' ha hb
    go_wp2
    go_ret
    exact ⟨ret_bool HR2.out.symm, rfl⟩
  · have hs' : ¬ skip ≥ 0 := hs
    have HR2 := Lib.hid (show R = false by rw [HR.out, decide_eq_false hs, Bool.false_and])
    have hs2 : skip < 0 := by omega
    have hs3 : ¬ 0 ≤ skip := hs
    go_wp2_with fail
    all_goals first | (exfalso; omega) | (go_ret; exact ⟨ret_bool HR2.out.symm, rfl⟩)
end Go.Proofs.Yteckjiaaikdghaa
