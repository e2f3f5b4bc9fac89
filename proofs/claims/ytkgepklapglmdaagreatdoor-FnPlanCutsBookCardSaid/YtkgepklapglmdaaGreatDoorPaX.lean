/-
  Texts merged into one: what each function does, and plain lemmas. No condition.
-/
import Derived.Test.YtkgepklapglmdaaGreatDoorLAS
import Derived.IntWalk
namespace Go.Proofs.YtkgepklapglmdaaGreatDoor
open Go.RowKit

def wOk (W : Int) (ws : List Int) (i : Nat) : Bool := decide (1 ≤ gi ws i) && decide (gi ws i ≤ W) && !inL (ws.take i) (gi ws i)
/-- widths are valid -/
def vWid (W : Int) (ws : List Int) : Bool := decide (1 ≤ W) && decide (W ≤ 60) && decide (1 ≤ ws.length) && decide (ws.length ≤ 6) && (List.range ws.length).all (wOk W ws)
theorem vWid_iff {W : Int} {ws : List Int} : vWid W ws = true ↔ 1 ≤ W ∧ W ≤ 60 ∧ 1 ≤ ws.length ∧ ws.length ≤ 6 ∧ ∀ i, i < ws.length → wOk W ws i = true := by
  unfold vWid
  simp only [Bool.and_eq_true, decide_eq_true_eq, List.all_eq_true, List.mem_range, and_assoc]
theorem vWid_no {W : Int} {ws : List Int} {k : Nat} (hk : k < ws.length) (h : wOk W ws k = false) : vWid W ws = false := by
  cases hv : vWid W ws
  · rfl
  · have := (vWid_iff.1 hv).2.2.2.2 k hk; rw [h] at this; cases this
theorem vWid_out {W : Int} {ws : List Int} (h : ¬ (1 ≤ W ∧ W ≤ 60 ∧ 1 ≤ ws.length ∧ ws.length ≤ 6)) : vWid W ws = false := by
  cases hv : vWid W ws
  · rfl
  · have := vWid_iff.1 hv; omega
theorem wOk_rng {W : Int} {ws : List Int} {i : Nat} (h : wOk W ws i = true) : 1 ≤ gi ws i ∧ gi ws i ≤ W ∧ inL (ws.take i) (gi ws i) = false := by
  unfold wOk at h; simp at h; exact ⟨h.1.1, h.1.2, h.2⟩
theorem wOk_mk {W : Int} {ws : List Int} {i : Nat} (h1 : 1 ≤ gi ws i) (h2 : gi ws i ≤ W) (h3 : inL (ws.take i) (gi ws i) = false) : wOk W ws i = true := by
  unfold wOk; simp [h1, h2, h3]
theorem vWid_w {W : Int} {ws : List Int} (h : vWid W ws = true) {i : Nat} (hi : i < ws.length) : 1 ≤ gi ws i ∧ gi ws i ≤ W := by
  have := wOk_rng ((vWid_iff.1 h).2.2.2.2 i hi); omega
theorem plcFrom_inL (n : Int) : ∀ (xs : List Int) (k : Nat), 0 ≤ plcFrom xs n k ↔ inL xs n = true
  | [], k => by simp [plcFrom, inL]
  | x :: t, k => by
    rw [plcFrom, inL_cons]
    by_cases h : x = n
    · simp [h]
    · simp [h, plcFrom_inL n t (k + 1)]
theorem plc_inL (xs : List Int) (n : Int) : 0 ≤ plc xs n ↔ inL xs n = true := plcFrom_inL n xs 0
/-- how much the first k counts take -/
def usedL (ws cs : List Int) : Nat → Int
  | 0 => 0
  | k + 1 => usedL ws cs k + gi cs k * gi ws k
def allR (a b : Int) (xs : List Int) : Bool := xs.all (inR a b)
theorem allR_iff {a b : Int} {xs : List Int} : allR a b xs = true ↔ ∀ i, i < xs.length → a ≤ gi xs i ∧ gi xs i ≤ b := by
  unfold allR
  rw [List.all_eq_true]
  constructor
  · intro h i hi; exact inR_true (h _ (by rw [gi_eq hi]; exact List.getElem_mem hi))
  · intro h x hx
    obtain ⟨i, hi, rfl⟩ := List.getElem_of_mem hx
    have := h i hi; rw [gi_eq hi] at this; exact inR_mk this
theorem allR_no {a b : Int} {xs : List Int} {i : Nat} (hi : i < xs.length) (h : ¬ (a ≤ gi xs i ∧ gi xs i ≤ b)) : allR a b xs = false := by
  cases hv : allR a b xs
  · rfl
  · exact absurd (allR_iff.1 hv i hi) h
/-- a pattern is valid -/
def vPat (W : Int) (ws cs : List Int) : Bool := vWid W ws && decide (cs.length = ws.length) && allR 0 W cs && decide (usedL ws cs cs.length ≤ W)
theorem vPat_iff {W : Int} {ws cs : List Int} : vPat W ws cs = true ↔ vWid W ws = true ∧ cs.length = ws.length ∧ (∀ i, i < cs.length → 0 ≤ gi cs i ∧ gi cs i ≤ W) ∧ usedL ws cs cs.length ≤ W := by
  unfold vPat
  simp only [Bool.and_eq_true, decide_eq_true_eq, and_assoc, allR_iff]
theorem used_step {ws cs : List Int} {n : Nat} (h : ∀ i, i < n → 0 ≤ gi cs i ∧ 0 ≤ gi ws i) {k : Nat} (hk : k ≤ n) : ∀ {m : Nat}, k ≤ m → m ≤ n → usedL ws cs k ≤ usedL ws cs m
  | 0, h1, _ => by obtain rfl : k = 0 := by omega
                   exact Int.le_refl _
  | m + 1, h1, h2 => by
    rcases Nat.lt_or_ge k (m + 1) with h' | h'
    · have := used_step h hk (m := m) (by omega) (by omega)
      have h3 := h m (by omega)
      have h4 : 0 ≤ gi cs m * gi ws m := Int.mul_nonneg h3.1 h3.2
      show _ ≤ usedL ws cs m + gi cs m * gi ws m
      omega
    · obtain rfl : k = m + 1 := by omega
      exact Int.le_refl _
theorem used_nonneg {ws cs : List Int} {n : Nat} (h : ∀ i, i < n → 0 ≤ gi cs i ∧ 0 ≤ gi ws i) {m : Nat} (hm : m ≤ n) : 0 ≤ usedL ws cs m := used_step h (Nat.zero_le _) (Nat.zero_le m) hm
theorem used_le {ws cs : List Int} {b : Int} {n : Nat} (h : ∀ i, i < n → 0 ≤ gi cs i ∧ gi cs i ≤ 1000 ∧ 0 ≤ gi ws i ∧ gi ws i ≤ 1000) : ∀ {m : Nat}, m ≤ n → usedL ws cs m ≤ 1000000 * m
  | 0, _ => by simp [usedL]
  | m + 1, hm => by
    have h1 := used_le (b := b) h (m := m) (by omega)
    have h2 := h m (by omega)
    have h3 : gi cs m * gi ws m ≤ 1000 * 1000 := Int.mul_le_mul h2.2.1 h2.2.2.2 h2.2.2.1 (by omega)
    show usedL ws cs m + gi cs m * gi ws m ≤ _
    omega

set_option maxHeartbeats 800000 in
theorem ValidWidths_any (lo hi : Nat) (W : Int) (v : Value) (ws : List Int) (w : World) (h : Ints w lo hi v ws) :
    Calls Tryz.prog 102 #[.int .i64 W, v] w fun e w' => e = .returned (.bool (vWid W ws)) ∧ w = w' := by
  obtain ⟨A, c, rfl, hc, hm⟩ := h.form
  by_cases hb : 1 ≤ W ∧ W ≤ 60 ∧ 1 ≤ ws.length ∧ ws.length ≤ 6
  · have Hb := Lib.hid hb
    obtain ⟨b1, b2, b3, b4⟩ := hb
    go_enter Tryz.func102, Tryz.ntmps102
    go_wp2
    go_loop [25] (fun i => ∃ k : Nat, k ≤ ws.length ∧ i = .int .i64 k ∧ Hid (∀ j, j < k → wOk W ws j = true)) (fun i => ws.length - (intOf i).toNat)
    case atStart => exact ⟨0, by omega, rfl, fun j hj => absurd hj (by omega)⟩
    case round =>
      obtain ⟨k, hk, rfl, HD⟩ := hrel
      by_cases hlt : k < ws.length
      · have hT := h.take (Nat.le_of_lt hlt)
        obtain ⟨b, o, rfl, _, _, hcell, h64⟩ := h.cell hlt
        have hk0 : (0 : Int) ≤ (k : Int) := by omega
        have hk2 : (k : Int) ≤ (c : Int) := by omega
        by_cases x1 : gi ws k < 1
        · have Hno := Lib.hid (vWid_no (W := W) hlt (by unfold wOk; rw [decide_eq_false (show ¬ 1 ≤ gi ws k by omega)]; rfl))
          go_wp2
          go_ret
          exact ⟨ret_bool Hno.out.symm, rfl⟩
        · by_cases x2 : W < gi ws k
          · have Hno := Lib.hid (vWid_no (W := W) hlt (by unfold wOk; rw [decide_eq_false (show ¬ gi ws k ≤ W by omega)]; simp))
            go_wp2
            go_ret
            exact ⟨ret_bool Hno.out.symm, rfl⟩
          · cases x3 : inL (ws.take k) (gi ws k)
            · have Hok := Lib.hid (wOk_mk (W := W) (ws := ws) (i := k) (by omega) (by omega) x3)
              have X3 := Lib.hid x3
              clear x3
              go_wp2_with (go_at_call 123; refine (contains_any lo hi _ _ _ _ hT).mono ?_; rw [X3.out]; rintro e w' ⟨rfl, rfl⟩)
              go_round
              case rel =>
                refine ⟨k + 1, by omega, by go_num, fun j hj => ?_⟩
                rcases Nat.lt_or_ge j k with h' | h'
                · exact HD.out j h'
                · obtain rfl : j = k := by omega
                  exact Hok.out
              case measure => simp [intOf]; omega
            · have Hno := Lib.hid (vWid_no (W := W) hlt (by unfold wOk; rw [x3]; simp))
              have X3 := Lib.hid x3
              clear x3
              go_wp2_with (go_at_call 123; refine (contains_any lo hi _ _ _ _ hT).mono ?_; rw [X3.out]; rintro e w' ⟨rfl, rfl⟩)
              go_ret
              exact ⟨ret_bool Hno.out.symm, rfl⟩
      · have Hyes := Lib.hid (show vWid W ws = true from vWid_iff.2 ⟨b1, b2, b3, b4, fun j hj => HD.out j (by omega)⟩)
        go_wp2
        go_ret
        exact ⟨ret_bool Hyes.out.symm, rfl⟩
  · have Hno := Lib.hid (vWid_out hb)
    go_enter Tryz.func102, Tryz.ntmps102
    go_wp2
    all_goals first | (exfalso; omega) | skip
    all_goals go_ret
    all_goals exact ⟨ret_bool Hno.out.symm, rfl⟩
set_option maxHeartbeats 800000 in
theorem validWidths_any (lo hi : Nat) (W : Int) (v : Value) (ws : List Int) (w : World) (h : Ints w lo hi v ws) :
    Calls Tryz.prog 70 #[.int .i64 W, v] w fun e w' => e = .returned (.bool (vWid W ws)) ∧ Qt w w' := by
  obtain ⟨A, c, rfl, hc, hm⟩ := h.form
  go_enter Tryz.func70, Tryz.ntmps70
  go_wp2
  go_loopw [5] (fun i wr => ∃ k : Nat, k ≤ ws.length ∧ i = .int .i64 k ∧ Qt w wr ∧ Hid (∀ j, j < k → wOk W ws j = true)) (fun i _ => ws.length - (intOf i).toNat)
  case atStart => exact ⟨0, by omega, rfl, Qt.refl _, fun j hj => absurd hj (by omega)⟩
  case round =>
    obtain ⟨k, hk, rfl, hq, HD⟩ := hrel
    by_cases hlt : k < ws.length
    · have hr := h.qt hq
      have HT := Lib.hid (hr.take (Nat.le_of_lt hlt))
      obtain ⟨b, o, rfl, _, _, hcell, h64⟩ := hr.cell hlt
      have hk0 : (0 : Int) ≤ (k : Int) := by omega
      have hk1 : (k : Int) < (ws.length : Int) := by omega
      have hk2 : (k : Int) ≤ (c : Int) := by omega
      clear h hr
      cases x1 : inR 1 W (gi ws k)
      · have Hno := Lib.hid (vWid_no (W := W) hlt (by cases hv : wOk W ws k; rfl; have := wOk_rng hv; rw [inR_mk ⟨this.1, this.2.1⟩] at x1; cases x1))
        have H1 : Hid (∀ n, Calls Tryz.prog 68 #[.int .i64 (gi ws k), .int .i64 1, .int .i64 W] (wr.drewN n) fun e w' => e = .returned (.bool false) ∧ Qt (wr.drewN n) w') := fun n => (inRange_any _ _ _ _).mono fun e w' ⟨a, b⟩ => ⟨by rw [a, x1], by subst b; exact Qt.refl _⟩
        clear x1
        go_wp2
        go_quiet ((go_at_call 68; with_reducible exact Qt.call (H1.out _)))
        go_wp2
        go_ret
        exact ⟨ret_bool Hno.out.symm, hq.trans (Qt.one _ _)⟩
      · have H1 : Hid (∀ n, Calls Tryz.prog 68 #[.int .i64 (gi ws k), .int .i64 1, .int .i64 W] (wr.drewN n) fun e w' => e = .returned (.bool true) ∧ Qt (wr.drewN n) w') := fun n => (inRange_any _ _ _ _).mono fun e w' ⟨a, b⟩ => ⟨by rw [a, x1], by subst b; exact Qt.refl _⟩
        have X1 := Lib.hid (inR_true x1)
        have H2 : Hid (∀ n, Calls Tryz.prog 99 #[.slice (some ⟨b, o, none⟩) k c, .int .i64 (gi ws k)] (wr.drewN n) fun e w' => e = .returned (.int .i64 (plc (ws.take k) (gi ws k))) ∧ Qt (wr.drewN n) w') := fun n => (placeIn_any lo hi _ _ _ _ (HT.out.drewN n)).mono fun e w' ⟨a, b⟩ => ⟨a, by subst b; exact Qt.refl _⟩
        clear x1
        obtain ⟨q, hq9⟩ : ∃ q, q = plc (ws.take k) (gi ws k) := ⟨_, rfl⟩
        rw [← hq9] at H2
        have HQ := Lib.hid hq9
        clear hq9
        by_cases x3 : 0 ≤ q
        · have Hno := Lib.hid (vWid_no (W := W) hlt (by unfold wOk; rw [(plc_inL _ _).1 (by rw [← HQ.out]; exact x3)]; simp))
          have d3 : decide (0 ≤ q) = true := decide_eq_true x3
          go_wp2
          go_quiet ((first | (go_at_call 68; with_reducible exact Qt.call (H1.out _)) | (go_at_call 99; with_reducible exact Qt.call (H2.out _))))
          go_wp2
          go_ret
          exact ⟨ret_bool Hno.out.symm, hq.trans (Qt.one _ _)⟩
        · have Hok := Lib.hid (wOk_mk (W := W) (ws := ws) (i := k) X1.out.1 X1.out.2 (by cases hv : inL (ws.take k) (gi ws k); rfl; exact absurd ((plc_inL _ _).2 hv) (by rw [← HQ.out]; exact x3)))
          have d3 : decide (0 ≤ q) = false := decide_eq_false x3
          go_wp2
          go_quiet ((first | (go_at_call 68; with_reducible exact Qt.call (H1.out _)) | (go_at_call 99; with_reducible exact Qt.call (H2.out _))))
          go_wp2
          go_roundw
          case rel =>
            refine ⟨k + 1, by omega, by go_num, hq.trans (Qt.one _ _), fun j hj => ?_⟩
            rcases Nat.lt_or_ge j k with h' | h'
            · exact HD.out j h'
            · obtain rfl : j = k := by omega
              exact Hok.out
          case measure => simp [intOf]; omega
    · have HR : Hid (vWid W ws = (inR 1 60 W && inR 1 6 (ws.length : Int))) := by
        rw [Bool.eq_iff_iff, vWid_iff, Bool.and_eq_true]
        exact ⟨fun ⟨a, b, c, d, _⟩ => ⟨inR_mk ⟨a, b⟩, inR_mk ⟨by omega, by omega⟩⟩, fun ⟨a, b⟩ => by have := inR_true a; have := inR_true b; exact ⟨by omega, by omega, by omega, by omega, fun j hj => HD.out j (by omega)⟩⟩
      go_wp2_with (go_at_call 68; refine (inRange_any _ _ _ _).mono ?_; rintro e w' ⟨rfl, rfl⟩)
      all_goals go_ret
      all_goals exact ⟨ret_bool (by rw [HR.out]; simp [*]), hq⟩
theorem allIn_any (lo hi : Nat) (v : Value) (xs : List Int) (a b : Int) (w : World) (h : Ints w lo hi v xs) :
    Calls Tryz.prog 71 #[v, .int .i64 a, .int .i64 b] w fun e w' => e = .returned (.bool (allR a b xs)) ∧ w = w' := by
  obtain ⟨A, c, rfl, hc, hm⟩ := h.form
  go_enter Tryz.func71, Tryz.ntmps71
  go_wp2
  go_loop [7] (fun i => ∃ k : Nat, k ≤ xs.length ∧ i = .int .i64 k ∧ Hid (∀ j, j < k → inR a b (gi xs j) = true)) (fun i => xs.length - (intOf i).toNat)
  case atStart => exact ⟨0, by omega, rfl, fun j hj => absurd hj (by omega)⟩
  case round =>
    obtain ⟨k, hk, rfl, HD⟩ := hrel
    by_cases hlt : k < xs.length
    · obtain ⟨b', o, rfl, _, _, hcell, h64⟩ := h.cell hlt
      cases x1 : inR a b (gi xs k)
      · have Hno := Lib.hid (allR_no (a := a) (b := b) hlt (fun hh => by rw [inR_mk hh] at x1; cases x1))
        go_wp2_with (go_at_call 68; refine (inRange_any _ _ _ _).mono ?_; rintro e w' ⟨rfl, rfl⟩)
        go_ret
        exact ⟨ret_bool Hno.out.symm, rfl⟩
      · have Hok := Lib.hid x1
        go_wp2_with (go_at_call 68; refine (inRange_any _ _ _ _).mono ?_; rintro e w' ⟨rfl, rfl⟩)
        go_round
        case rel =>
          refine ⟨k + 1, by omega, by go_num, fun j hj => ?_⟩
          rcases Nat.lt_or_ge j k with h' | h'
          · exact HD.out j h'
          · obtain rfl : j = k := by omega
            exact Hok.out
        case measure => simp [intOf]; omega
    · have Hyes := Lib.hid (show allR a b xs = true from allR_iff.2 fun i hi => inR_true (HD.out i (by omega)))
      go_wp2
      go_ret
      exact ⟨ret_bool Hyes.out.symm, rfl⟩
set_option maxHeartbeats 800000 in
theorem used_any (lo hi l2 h2 : Nat) (v u : Value) (ws cs : List Int) (w : World) (h : Ints w lo hi v ws) (hy : Ints w l2 h2 u cs) (hl : cs.length ≤ ws.length) (hl2 : cs.length ≤ 1000) (hr : ∀ i, i < cs.length → 0 ≤ gi cs i ∧ gi cs i ≤ 1000 ∧ 0 ≤ gi ws i ∧ gi ws i ≤ 1000) :
    Calls Tryz.prog 109 #[v, u] w fun e w' => e = .returned (.int .i64 (usedL ws cs cs.length)) ∧ Qt w w' := by
  obtain ⟨A, c, rfl, hc, hm⟩ := h.form
  obtain ⟨B, d, rfl, hd, hm2⟩ := hy.form
  have HR := Lib.hid hr
  clear hr
  go_enter Tryz.func109, Tryz.ntmps109
  go_wp2
  go_loopw [5, 6] (fun s i wr => ∃ k : Nat, k ≤ cs.length ∧ i = .int .i64 k ∧ s = .int .i64 (usedL ws cs k) ∧ Qt w wr) (fun _ i _ => cs.length - (intOf i).toNat)
  case atStart => exact ⟨0, by omega, rfl, rfl, Qt.refl _⟩
  case round =>
    obtain ⟨k, hk, rfl, rfl, hq⟩ := hrel
    by_cases hlt : k < cs.length
    · obtain ⟨b1, o1, rfl, _, _, hcell, _⟩ := (h.qt hq).cell (k := k) (by omega)
      obtain ⟨b2, o2, rfl, _, _, hcell2, _⟩ := (hy.qt hq).cell hlt
      have hk0 : (0 : Int) ≤ (k : Int) := by omega
      have hk1 : (k : Int) < (ws.length : Int) := by omega
      have hk2 : (k : Int) < (cs.length : Int) := by omega
      have hx := HR.out k hlt
      have p0 : 0 ≤ gi cs k * gi ws k := Int.mul_nonneg hx.1 hx.2.2.1
      have p1 : gi cs k * gi ws k ≤ 1000 * 1000 := Int.mul_le_mul hx.2.1 hx.2.2.2 hx.2.2.1 (by omega)
      have u0 : 0 ≤ usedL ws cs k := used_nonneg (n := cs.length) (fun i hi => ⟨(HR.out i hi).1, (HR.out i hi).2.2.1⟩) (by omega)
      have u1 : usedL ws cs k ≤ 1000000 * k := used_le (b := 0) (n := cs.length) HR.out (by omega)
      have g1 : IntKind.i64.wrap (gi cs k * gi ws k) = gi cs k * gi ws k := IntWalk.i64_in _ (by omega)
      have g2 : IntKind.i64.wrap (usedL ws cs k + gi cs k * gi ws k) = usedL ws cs k + gi cs k * gi ws k := IntWalk.i64_in _ (by omega)
      clear h hy hx p0 p1 u0 u1
      go_wp2
      go_quiet (fail)
      clear g1 g2
      go_wp2
      go_roundw
      case rel => exact ⟨k + 1, by omega, by go_num, rfl, hq.trans (Qt.one _ _)⟩
      case measure => simp [intOf]; omega
    · have He := Lib.hid (show k = cs.length by omega)
      go_wp2
      go_ret
      exact ⟨ret_int (by rw [He.out]), hq⟩
end Go.Proofs.YtkgepklapglmdaaGreatDoor

namespace Go.Proofs.YtkgepklapglmdaaGreatDoor
open Go.RowKit

theorem vPat_len {W : Int} {ws cs : List Int} (h : ¬ cs.length = ws.length) : vPat W ws cs = false := by
  cases hv : vPat W ws cs
  · rfl
  · exact absurd (vPat_iff.1 hv).2.1 h
theorem vPat_wid {W : Int} {ws cs : List Int} (h : vWid W ws = false) : vPat W ws cs = false := by
  unfold vPat; rw [h]; rfl
theorem vPat_neg {W : Int} {ws cs : List Int} {k : Nat} (hk : k < cs.length) (h : gi cs k < 0) : vPat W ws cs = false := by
  cases hv : vPat W ws cs
  · rfl
  · have := (vPat_iff.1 hv).2.2.1 k hk; omega
theorem vPat_used {W : Int} {ws cs : List Int} {k : Nat} (hk : k ≤ cs.length) (h : W < usedL ws cs k) : vPat W ws cs = false := by
  cases hv : vPat W ws cs
  · rfl
  · obtain ⟨a, b, c, d⟩ := vPat_iff.1 hv
    have := used_step (ws := ws) (cs := cs) (n := cs.length) (fun i hi => ⟨(c i hi).1, by have := vWid_w a (i := i) (by omega); omega⟩) hk (m := cs.length) hk (Nat.le_refl _)
    omega
theorem vPat_mk {W : Int} {ws cs : List Int} (hw : vWid W ws = true) (hl : cs.length = ws.length) (h0 : ∀ i, i < cs.length → 0 ≤ gi cs i) (hu : usedL ws cs cs.length ≤ W) : vPat W ws cs = true := by
  refine vPat_iff.2 ⟨hw, hl, fun i hi => ⟨h0 i hi, ?_⟩, hu⟩
  have hx := vWid_w hw (i := i) (by omega)
  have hn : ∀ j, j < cs.length → 0 ≤ gi cs j ∧ 0 ≤ gi ws j := fun j hj => ⟨h0 j hj, by have := vWid_w hw (i := j) (by omega); omega⟩
  have h1 := used_step (ws := ws) (cs := cs) hn (k := i + 1) (by omega) (m := cs.length) (by omega) (Nat.le_refl _)
  have h2 := used_nonneg (ws := ws) (cs := cs) hn (m := i) (by omega)
  have h3 : gi cs i * 1 ≤ gi cs i * gi ws i := Int.mul_le_mul_of_nonneg_left hx.1 (h0 i hi)
  have h4 : usedL ws cs (i + 1) = usedL ws cs i + gi cs i * gi ws i := rfl
  omega
theorem quo_lt {a n q : Int} (_h0 : 0 ≤ a) (hq : 1 ≤ q) : a / q < n ↔ a < n * q := by
  rw [Int.ediv_lt_iff_lt_mul (by omega)]
set_option maxHeartbeats 800000 in
theorem validPattern_any (lo hi l2 h2 : Nat) (W : Int) (v u : Value) (ws cs : List Int) (w : World) (h : Ints w lo hi v ws) (hy : Ints w l2 h2 u cs) :
    Calls Tryz.prog 73 #[.int .i64 W, v, u] w fun e w' => e = .returned (.bool (vPat W ws cs)) ∧ Qt w w' := by
  obtain ⟨A, c, rfl, hc, hm⟩ := h.form
  obtain ⟨B, d, rfl, hd, hm2⟩ := hy.form
  obtain ⟨R, hR⟩ : ∃ R, R = vPat W ws cs := ⟨_, rfl⟩
  rw [← hR]
  have HR := Lib.hid hR
  clear hR
  go_enter Tryz.func73, Tryz.ntmps73
  go_wp2_with fail
  refine (validWidths_any lo hi W _ ws w h).mono ?_
  rintro e w1 ⟨rfl, hq⟩
  cases x1 : vWid W ws
  · have Hno := Lib.hid (show R = false by rw [HR.out]; exact vPat_wid x1)
    go_wp2
    go_ret
    exact ⟨ret_bool Hno.out.symm, hq⟩
  · by_cases x2 : cs.length = ws.length
    · have X2 := Lib.hid x2
      have x2' : (cs.length : Int) = (ws.length : Int) := by omega
      have Hwid := Lib.hid (vWid_iff.1 x1)
      have HW := Lib.hid x1
      have e2 : ((cs.length : Int) == (ws.length : Int)) = true := beq_t x2'
      clear x1 x2 x2'
      go_wp2_with fail
      clear e2
      refine (allIn_any l2 h2 _ cs 0 W w1 (hy.qt hq)).mono ?_
      rintro e w' ⟨rfl, rfl⟩
      cases x3 : allR 0 W cs
      · have Hno := Lib.hid (show R = false by rw [HR.out]; unfold vPat; rw [x3]; simp)
        go_wp2
        go_ret
        exact ⟨ret_bool Hno.out.symm, hq⟩
      · have HA := Lib.hid (allR_iff.1 x3)
        clear x3
        go_wp2_with fail
        refine (used_any lo hi l2 h2 _ _ ws cs w1 (h.qt hq) (hy.qt hq) (by have := X2.out; omega) (by have := Hwid.out; have := X2.out; omega) (fun i hi => by have h1 := HA.out i hi; have h2 := vWid_w HW.out (i := i) (by have := X2.out; omega); have h3 := Hwid.out; omega)).mono ?_
        rintro e w2 ⟨rfl, hq2⟩
        by_cases x4 : usedL ws cs cs.length ≤ W
        · have Hyes := Lib.hid (show R = true by rw [HR.out]; exact vPat_iff.2 ⟨HW.out, X2.out, HA.out, x4⟩)
          go_wp2
          go_ret
          exact ⟨ret_bool Hyes.out.symm, hq.trans hq2⟩
        · have Hno := Lib.hid (show R = false by rw [HR.out]; exact vPat_used (Nat.le_refl _) (by omega))
          go_wp2
          go_ret
          exact ⟨ret_bool (by rw [Hno.out]; simp [x4]), hq.trans hq2⟩
    · have Hno := Lib.hid (show R = false by rw [HR.out]; exact vPat_len x2)
      have e2 : ((cs.length : Int) == (ws.length : Int)) = false := beq_f (by omega)
      go_wp2
      go_ret
      exact ⟨ret_bool Hno.out.symm, hq⟩
set_option maxHeartbeats 800000 in
theorem ValidPattern_any (lo hi l2 h2 : Nat) (W : Int) (v u : Value) (ws cs : List Int) (w : World) (h : Ints w lo hi v ws) (hy : Ints w l2 h2 u cs) :
    Calls Tryz.prog 66 #[.int .i64 W, v, u] w fun e w' => e = .returned (.bool (vPat W ws cs)) ∧ w = w' := by
  obtain ⟨A, c, rfl, hc, hm⟩ := h.form
  obtain ⟨B, d, rfl, hd, hm2⟩ := hy.form
  obtain ⟨R, hR⟩ : ∃ R, R = vPat W ws cs := ⟨_, rfl⟩
  rw [← hR]
  have HR := Lib.hid hR
  clear hR
  go_enter Tryz.func66, Tryz.ntmps66
  go_wp2_with fail
  refine (ValidWidths_any lo hi W _ ws w h).mono ?_
  rintro e w1 ⟨rfl, rfl⟩
  cases x1 : vWid W ws
  · have Hno := Lib.hid (show R = false by rw [HR.out]; exact vPat_wid x1)
    go_wp2
    go_ret
    exact ⟨ret_bool Hno.out.symm, rfl⟩
  · by_cases x2 : cs.length = ws.length
    · have X2 := Lib.hid x2
      have e2 : ((cs.length : Int) != (ws.length : Int)) = false := bne_f (by omega)
      have hlw : cs.length ≤ ws.length := by omega
      have Hwid := Lib.hid (vWid_iff.1 x1)
      have HW := Lib.hid x1
      have hW1 : 1 ≤ W := by have := Hwid.out; omega
      have hW2 : W ≤ 60 := by have := Hwid.out; omega
      clear x1 x2
      go_wp2
      clear e2
      go_loop [7, 24] (fun l i => ∃ k : Nat, ∃ z : Int, k ≤ cs.length ∧ i = .int .i64 k ∧ l = .int .i64 z ∧ 0 ≤ z ∧ z ≤ W ∧ Hid (z = W - usedL ws cs k ∧ ∀ j, j < k → 0 ≤ gi cs j)) (fun _ i => cs.length - (intOf i).toNat)
      case atStart => exact ⟨0, W, by omega, rfl, rfl, by omega, by omega, by simp [usedL], fun j hj => absurd hj (by omega)⟩
      case round =>
        obtain ⟨k, z, hk, rfl, rfl, hz0, hz1, HD⟩ := hrel
        by_cases hlt : k < cs.length
        · obtain ⟨b, o, rfl, _, _, hcell, h64⟩ := h.cell (k := k) (by omega)
          obtain ⟨b2, o2, rfl, _, _, hcell2, h642⟩ := hy.cell hlt
          have hx := vWid_w HW.out (i := k) (by omega)
          have hk0 : (0 : Int) ≤ (k : Int) := by omega
          have hk1 : (k : Int) < (ws.length : Int) := by omega
          have hxa := hx.1
          have hxb := hx.2
          clear hx
          by_cases y1 : gi cs k < 0
          · have Hno := Lib.hid (show R = false by rw [HR.out]; exact vPat_neg hlt y1)
            go_wp2
            go_ret
            exact ⟨ret_bool Hno.out.symm, rfl⟩
          · have y1' : 0 ≤ gi cs k := by omega
            obtain ⟨q, hq⟩ : ∃ q, q = z / gi ws k := ⟨_, rfl⟩
            have HQ := Lib.hid (show q < gi cs k ↔ z < gi cs k * gi ws k by rw [hq]; exact quo_lt hz0 hxa)
            have hq2 : z / gi ws k = q := hq.symm
            clear hq
            by_cases y2 : q < gi cs k
            · have Hno := Lib.hid (show R = false by
                rw [HR.out]
                refine vPat_used (k := k + 1) (by omega) ?_
                have h1 := HQ.out.1 y2
                have h2 := HD.out.1
                show W < usedL ws cs k + gi cs k * gi ws k
                omega)
              go_wp2
              go_ret
              exact ⟨ret_bool Hno.out.symm, rfl⟩
            · have hp : gi cs k * gi ws k ≤ z := by have h1 := HQ.out; omega
              have hp0 : 0 ≤ gi cs k * gi ws k := Int.mul_nonneg y1' (by omega)
              obtain ⟨p, hp9⟩ : ∃ p, p = gi cs k * gi ws k := ⟨_, rfl⟩
              have HP := Lib.hid hp9
              have g1 : wrap64 (gi cs k * gi ws k) = p := by rw [← hp9] at hp hp0 ⊢; unfold wrap64; omega
              rw [← hp9] at hp hp0
              clear hp9
              go_wp2
              clear g1 hq2
              go_round
              case rel =>
                refine ⟨k + 1, z - p, by omega, by go_num, rfl, by omega, by omega, ?_, fun j hj => ?_⟩
                · have h1 := HD.out.1
                  have h2 := HP.out
                  show z - p = W - (usedL ws cs k + gi cs k * gi ws k)
                  omega
                · rcases Nat.lt_or_ge j k with h' | h'
                  · exact HD.out.2 j h'
                  · obtain rfl : j = k := by omega
                    exact y1'
              case measure => simp [intOf]; omega
        · have Hyes := Lib.hid (show R = true by
            rw [HR.out]
            have h1 := HD.out.1
            obtain rfl : k = cs.length := by omega
            exact vPat_mk HW.out X2.out HD.out.2 (by omega))
          go_wp2
          go_ret
          exact ⟨ret_bool Hyes.out.symm, rfl⟩
    · have Hno := Lib.hid (show R = false by rw [HR.out]; exact vPat_len x2)
      have e2 : ((cs.length : Int) != (ws.length : Int)) = true := bne_t (by omega)
      go_wp2
      go_ret
      exact ⟨ret_bool Hno.out.symm, rfl⟩
end Go.Proofs.YtkgepklapglmdaaGreatDoor
