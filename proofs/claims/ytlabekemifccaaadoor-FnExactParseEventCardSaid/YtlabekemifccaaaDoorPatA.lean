/-
  Lemmas and contracts of single functions of this program, used by the proofs of its laws: what each call returns and what becomes of memory. Conditions: the hypotheses of each theorem.
-/
import Derived.Test.YtlabekemifccaaaDoorLibS
import Derived.IntWalk
namespace Go.Proofs.YtlabekemifccaaaDoor
open Go.RowKit

def wOk (W : Int) (ws : List Int) (i : Nat) : Bool := decide (1 ≤ gi ws i) && decide (gi ws i ≤ W) && !inL (ws.take i) (gi ws i)
/-- widths are valid -/
def vWid (W : Int) (ws : List Int) : Bool := decide (1 ≤ W) && decide (W ≤ 60) && decide (1 ≤ ws.length) && decide (ws.length ≤ 6) && (List.range ws.length).all (wOk W ws)
theorem vWid_iff {W : Int} {ws : List Int} : vWid W ws = true ↔ 1 ≤ W ∧ W ≤ 60 ∧ 1 ≤ ws.length ∧ ws.length ≤ 6 ∧ ∀ i, i < ws.length → wOk W ws i = true := by
  unfold vWid
  simp only [Bool.and_eq_true, decide_eq_true_eq, List.all_eq_true, List.mem_range, and_assoc]
theorem vWid_no {W : Int} {ws : List Int} {k : Nat} (hk : k < ws.length) (h : wOk W ws k = false) : vWid W ws = false := by
  cases hv : vWid W ws
  · rfl
  · have := (vWid_iff.1 hv).2.2.2.2 k hk; rw [h] at this; cases this
theorem vWid_out {W : Int} {ws : List Int} (h : ¬ (1 ≤ W ∧ W ≤ 60 ∧ 1 ≤ ws.length ∧ ws.length ≤ 6)) : vWid W ws = false := by
  cases hv : vWid W ws
  · rfl
  · have := vWid_iff.1 hv; omega
theorem wOk_rng {W : Int} {ws : List Int} {i : Nat} (h : wOk W ws i = true) : 1 ≤ gi ws i ∧ gi ws i ≤ W ∧ inL (ws.take i) (gi ws i) = false := by
  unfold wOk at h; simp at h; exact ⟨h.1.1, h.1.2, h.2⟩
theorem wOk_mk {W : Int} {ws : List Int} {i : Nat} (h1 : 1 ≤ gi ws i) (h2 : gi ws i ≤ W) (h3 : inL (ws.take i) (gi ws i) = false) : wOk W ws i = true := by
  unfold wOk; simp [h1, h2, h3]
theorem vWid_w {W : Int} {ws : List Int} (h : vWid W ws = true) {i : Nat} (hi : i < ws.length) : 1 ≤ gi ws i ∧ gi ws i ≤ W := by
  have := wOk_rng ((vWid_iff.1 h).2.2.2.2 i hi); omega
theorem plcFrom_inL (n : Int) : ∀ (xs : List Int) (k : Nat), 0 ≤ plcFrom xs n k ↔ inL xs n = true
  | [], k => by simp [plcFrom, inL]
  | x :: t, k => by
    rw [plcFrom, inL_cons]
    by_cases h : x = n
    · simp [h]
    · simp [h, plcFrom_inL n t (k + 1)]
theorem plc_inL (xs : List Int) (n : Int) : 0 ≤ plc xs n ↔ inL xs n = true := plcFrom_inL n xs 0
/-- how much the first k counts take -/
def usedL (ws cs : List Int) : Nat → Int
  | 0 => 0
  | k + 1 => usedL ws cs k + gi cs k * gi ws k
def allR (a b : Int) (xs : List Int) : Bool := xs.all (inR a b)
theorem allR_iff {a b : Int} {xs : List Int} : allR a b xs = true ↔ ∀ i, i < xs.length → a ≤ gi xs i ∧ gi xs i ≤ b := by
  unfold allR
  rw [List.all_eq_true]
  constructor
  · intro h i hi; exact inR_true (h _ (by rw [gi_eq hi]; exact List.getElem_mem hi))
  · intro h x hx
    obtain ⟨i, hi, rfl⟩ := List.getElem_of_mem hx
    have := h i hi; rw [gi_eq hi] at this; exact inR_mk this
theorem allR_no {a b : Int} {xs : List Int} {i : Nat} (hi : i < xs.length) (h : ¬ (a ≤ gi xs i ∧ gi xs i ≤ b)) : allR a b xs = false := by
  cases hv : allR a b xs
  · rfl
  · exact absurd (allR_iff.1 hv i hi) h
/-- a pattern is valid -/
def vPat (W : Int) (ws cs : List Int) : Bool := vWid W ws && decide (cs.length = ws.length) && allR 0 W cs && decide (usedL ws cs cs.length ≤ W)
theorem vPat_iff {W : Int} {ws cs : List Int} : vPat W ws cs = true ↔ vWid W ws = true ∧ cs.length = ws.length ∧ (∀ i, i < cs.length → 0 ≤ gi cs i ∧ gi cs i ≤ W) ∧ usedL ws cs cs.length ≤ W := by
  unfold vPat
  simp only [Bool.and_eq_true, decide_eq_true_eq, and_assoc, allR_iff]
theorem used_step {ws cs : List Int} {n : Nat} (h : ∀ i, i < n → 0 ≤ gi cs i ∧ 0 ≤ gi ws i) {k : Nat} (hk : k ≤ n) : ∀ {m : Nat}, k ≤ m → m ≤ n → usedL ws cs k ≤ usedL ws cs m
  | 0, h1, _ => by obtain rfl : k = 0 := by omega
                   exact Int.le_refl _
  | m + 1, h1, h2 => by
    rcases Nat.lt_or_ge k (m + 1) with h' | h'
    · have := used_step h hk (m := m) (by omega) (by omega)
      have h3 := h m (by omega)
      have h4 : 0 ≤ gi cs m * gi ws m := Int.mul_nonneg h3.1 h3.2
      show _ ≤ usedL ws cs m + gi cs m * gi ws m
      omega
    · obtain rfl : k = m + 1 := by omega
      exact Int.le_refl _
theorem used_nonneg {ws cs : List Int} {n : Nat} (h : ∀ i, i < n → 0 ≤ gi cs i ∧ 0 ≤ gi ws i) {m : Nat} (hm : m ≤ n) : 0 ≤ usedL ws cs m := used_step h (Nat.zero_le _) (Nat.zero_le m) hm
theorem used_le {ws cs : List Int} {b : Int} {n : Nat} (h : ∀ i, i < n → 0 ≤ gi cs i ∧ gi cs i ≤ 1000 ∧ 0 ≤ gi ws i ∧ gi ws i ≤ 1000) : ∀ {m : Nat}, m ≤ n → usedL ws cs m ≤ 1000000 * m
  | 0, _ => by simp [usedL]
  | m + 1, hm => by
    have h1 := used_le (b := b) h (m := m) (by omega)
    have h2 := h m (by omega)
    have h3 : gi cs m * gi ws m ≤ 1000 * 1000 := Int.mul_le_mul h2.2.1 h2.2.2.2 h2.2.2.1 (by omega)
    show usedL ws cs m + gi cs m * gi ws m ≤ _
    omega

theorem allIn_any (lo hi : Nat) (v : Value) (xs : List Int) (a b : Int) (w : World) (h : Ints w lo hi v xs) :
    Calls Tryd.prog 68 #[v, .int .i64 a, .int .i64 b] w fun e w' => e = .returned (.bool (allR a b xs)) ∧ w = w' := by
  obtain ⟨A, c, rfl, hc, hm⟩ := h.form
  go_enter Tryd.func68, Tryd.ntmps68
  go_wp2
  go_loop [7] (fun i => ∃ k : Nat, k ≤ xs.length ∧ i = .int .i64 k ∧ Hid (∀ j, j < k → inR a b (gi xs j) = true)) (fun i => xs.length - (intOf i).toNat)
  case atStart => exact ⟨0, by omega, rfl, fun j hj => absurd hj (by omega)⟩
  case round =>
    obtain ⟨k, hk, rfl, HD⟩ := hrel
    by_cases hlt : k < xs.length
    · obtain ⟨b', o, rfl, _, _, hcell, h64⟩ := h.cell hlt
      cases x1 : inR a b (gi xs k)
      · have Hno := Lib.hid (allR_no (a := a) (b := b) hlt (fun hh => by rw [inR_mk hh] at x1; cases x1))
        go_wp2_with (go_at_call 92; refine (inRange_any _ _ _ _).mono ?_; rintro e w' ⟨rfl, rfl⟩)
        go_ret
        exact ⟨ret_bool Hno.out.symm, rfl⟩
      · have Hok := Lib.hid x1
        go_wp2_with (go_at_call 92; refine (inRange_any _ _ _ _).mono ?_; rintro e w' ⟨rfl, rfl⟩)
        go_round
        case rel =>
          refine ⟨k + 1, by omega, by go_num, fun j hj => ?_⟩
          rcases Nat.lt_or_ge j k with h' | h'
          · exact HD.out j h'
          · obtain rfl : j = k := by omega
            exact Hok.out
        case measure => simp [intOf]; omega
    · have Hyes := Lib.hid (show allR a b xs = true from allR_iff.2 fun i hi => inR_true (HD.out i (by omega)))
      go_wp2
      go_ret
      exact ⟨ret_bool Hyes.out.symm, rfl⟩
end Go.Proofs.YtlabekemifccaaaDoor
