/-
  Lemmas and contracts of single functions of this program, used by the proofs of its laws: what each call returns and what becomes of memory. Conditions: the hypotheses of each theorem.
-/
import Derived.Test.YteckjiaaikdghaaPriP
namespace Go.Proofs.Yteckjiaaikdghaa
open Go.RowKit

/-! counts as numbers: each count a digit -/
/-- what is left of a number behind k digits -/
def nAt (ns : List Int) (q : Int) : Nat → Int
  | 0 => q
  | k + 1 => nAt ns q k / (gi ns k + 1)
def dAt (ns : List Int) (q : Int) (k : Nat) : Int := nAt ns q k % (gi ns k + 1)
def cAt (ns : List Int) (q : Int) : List Int := (List.range ns.length).map (dAt ns q)
/-- how many numbers k digits have -/
def stN (ns : List Int) : Nat → Int
  | 0 => 1
  | k + 1 => stN ns k * (gi ns k + 1)
theorem stN_pos {ns : List Int} (h : ∀ i, 0 ≤ gi ns i) : ∀ k, 1 ≤ stN ns k
  | 0 => Int.le_refl _
  | k + 1 => by
    have h1 := stN_pos h k
    have h2 := h k
    have := Int.mul_le_mul h1 (show (1 : Int) ≤ gi ns k + 1 by omega) (by omega) (by omega)
    show 1 ≤ stN ns k * (gi ns k + 1)
    omega
theorem nAt_nn {ns : List Int} (h : ∀ i, 0 ≤ gi ns i) {q : Int} (hq : 0 ≤ q) : ∀ k, 0 ≤ nAt ns q k ∧ nAt ns q k ≤ q
  | 0 => ⟨hq, Int.le_refl _⟩
  | k + 1 => by
    have h1 := nAt_nn h hq k
    have h2 := h k
    refine ⟨Int.ediv_nonneg h1.1 (by omega), ?_⟩
    have := Int.ediv_le_self (gi ns k + 1) h1.1
    show nAt ns q k / _ ≤ q
    omega
theorem dAt_rng {ns : List Int} (h : ∀ i, 0 ≤ gi ns i) (q : Int) (k : Nat) : 0 ≤ dAt ns q k ∧ dAt ns q k ≤ gi ns k := by
  have h2 := h k
  have h3 := Int.emod_nonneg (nAt ns q k) (show gi ns k + 1 ≠ 0 by omega)
  have h4 := Int.emod_lt_of_pos (nAt ns q k) (show 0 < gi ns k + 1 by omega)
  unfold dAt
  omega
/-- the number of the digits from the back: enc k = the value of the digits k, k+1, .., n-1 -/
def encF (ns : List Int) (c : Nat → Int) : Nat → Nat → Int
  | 0, _ => 0
  | m + 1, k => c k + (gi ns k + 1) * encF ns c m (k + 1)
theorem nAt_enc {ns : List Int} (h : ∀ i, 0 ≤ gi ns i) {c : Nat → Int} (hc : ∀ i, 0 ≤ c i ∧ c i ≤ gi ns i) {n : Nat} : ∀ k, k ≤ n → nAt ns (encF ns c n 0) k = encF ns c (n - k) k
  | 0, _ => rfl
  | k + 1, hk => by
    have ih := nAt_enc h hc (n := n) k (by omega)
    obtain ⟨m, hm⟩ : ∃ m, n - k = m + 1 := ⟨n - k - 1, by omega⟩
    have e : n - (k + 1) = m := by omega
    show nAt ns _ k / (gi ns k + 1) = _
    rw [ih, hm, e, encF]
    have h1 := hc k
    have h2 := h k
    rw [Int.add_mul_ediv_left _ _ (show gi ns k + 1 ≠ 0 by omega), Int.ediv_eq_zero_of_lt h1.1 (by omega)]
    omega
theorem dAt_enc {ns : List Int} (h : ∀ i, 0 ≤ gi ns i) {c : Nat → Int} (hc : ∀ i, 0 ≤ c i ∧ c i ≤ gi ns i) {n k : Nat} (hk : k < n) : dAt ns (encF ns c n 0) k = c k := by
  unfold dAt
  rw [nAt_enc h hc k (by omega)]
  obtain ⟨m, hm⟩ : ∃ m, n - k = m + 1 := ⟨n - k - 1, by omega⟩
  rw [hm, encF, Int.add_mul_emod_self_left]
  have h1 := hc k
  exact Int.emod_eq_of_lt h1.1 (by omega)
theorem nAt_small {ns : List Int} (h : ∀ i, 0 ≤ gi ns i) {q : Int} (hq : 0 ≤ q) : ∀ k, nAt ns q k * stN ns k ≤ q
  | 0 => by show q * 1 ≤ q; omega
  | k + 1 => by
    have ih := nAt_small h hq k
    have h2 := h k
    have h3 : nAt ns q k / (gi ns k + 1) * (gi ns k + 1) ≤ nAt ns q k := Int.ediv_mul_le _ (by omega)
    have h4 := stN_pos h k
    have h5 := Int.mul_le_mul_of_nonneg_right h3 (show 0 ≤ stN ns k by omega)
    show nAt ns q k / (gi ns k + 1) * (stN ns k * (gi ns k + 1)) ≤ q
    rw [Int.mul_comm (stN ns k), ← Int.mul_assoc]
    omega
theorem enc_nAt {ns : List Int} (q : Int) : ∀ (m k : Nat), nAt ns q (k + m) = 0 → encF ns (dAt ns q) m k = nAt ns q k
  | 0, k, h => by show 0 = nAt ns q k; rw [← h]; rfl
  | m + 1, k, h => by
    have ih := enc_nAt q m (k + 1) (by rw [← h]; congr 1; omega)
    rw [encF, ih]
    have := Int.emod_add_mul_ediv (nAt ns q k) (gi ns k + 1)
    exact this
theorem enc_cAt {ns : List Int} (h : ∀ i, 0 ≤ gi ns i) {q : Int} (hq : 0 ≤ q) (hS : q < stN ns ns.length) : encF ns (dAt ns q) ns.length 0 = q := by
  refine enc_nAt q ns.length 0 ?_
  rw [Nat.zero_add]
  have h1 := nAt_small h hq ns.length
  have h2 := nAt_nn h hq ns.length
  rcases Int.lt_or_le 0 (nAt ns q ns.length) with h3 | h3
  · have h4 := Int.mul_le_mul_of_nonneg_right (show 1 ≤ nAt ns q ns.length by omega) (show 0 ≤ stN ns ns.length by have := stN_pos h ns.length; omega)
    omega
  · omega
theorem encF_sub {ns : List Int} {a b : Nat → Int} : ∀ (m k : Nat), encF ns (fun i => a i - b i) m k = encF ns a m k - encF ns b m k
  | 0, _ => by simp [encF]
  | m + 1, k => by
    rw [encF, encF, encF, encF_sub m (k + 1), Int.mul_sub]; omega
theorem encF_nn {ns : List Int} (h : ∀ i, 0 ≤ gi ns i) {c : Nat → Int} (hc : ∀ i, 0 ≤ c i) : ∀ (m k : Nat), 0 ≤ encF ns c m k
  | 0, _ => Int.le_refl _
  | m + 1, k => by
    have h1 := encF_nn h hc m (k + 1)
    have h2 := hc k
    have h3 := Int.mul_nonneg (show 0 ≤ gi ns k + 1 by have := h k; omega) h1
    rw [encF]; omega
theorem encF_zero {ns : List Int} (h : ∀ i, 0 ≤ gi ns i) {c : Nat → Int} (hc : ∀ i, 0 ≤ c i) : ∀ (m k : Nat), encF ns c m k ≤ 0 → ∀ i, k ≤ i → i < k + m → c i = 0
  | 0, k, _, i, h1, h2 => by omega
  | m + 1, k, hz, i, h1, h2 => by
    have h3 := encF_nn h hc m (k + 1)
    have h4 := hc k
    rw [encF] at hz
    have h6 := h k
    have h7 : encF ns c m (k + 1) ≤ (gi ns k + 1) * encF ns c m (k + 1) := by
      have := Int.mul_le_mul_of_nonneg_right (show (1 : Int) ≤ gi ns k + 1 by omega) h3
      omega
    by_cases hik : i = k
    · subst hik; omega
    · exact encF_zero h hc m (k + 1) (by omega) i (by omega) (by omega)
theorem encF_top {ns : List Int} (h : ∀ i, 0 ≤ gi ns i) : ∀ (m k : Nat), stN ns k * encF ns (gi ns) m k = stN ns (k + m) - stN ns k
  | 0, k => by show stN ns k * 0 = stN ns k - stN ns k; omega
  | m + 1, k => by
    have ih := encF_top h m (k + 1)
    rw [encF, Int.mul_add, ← Int.mul_assoc]
    have e : stN ns (k + 1) = stN ns k * (gi ns k + 1) := rfl
    rw [← e, ih]
    have e2 : k + 1 + m = k + (m + 1) := by omega
    rw [e2, e, Int.mul_add]
    omega
theorem encF_congr {ns : List Int} {a b : Nat → Int} : ∀ (m k : Nat), (∀ i, k ≤ i → i < k + m → a i = b i) → encF ns a m k = encF ns b m k
  | 0, _, _ => rfl
  | m + 1, k, h => by
    rw [encF, encF, h k (Nat.le_refl _) (by omega), encF_congr m (k + 1) fun i h1 h2 => h i (by omega) (by omega)]
/-- the last number has all counts -/
theorem cAt_top {ns : List Int} (h : ∀ i, 0 ≤ gi ns i) : cAt ns (stN ns ns.length - 1) = ns := by
  have h1 := encF_top h ns.length 0
  rw [Nat.zero_add] at h1
  have e : encF ns (gi ns) ns.length 0 = stN ns ns.length - 1 := by
    have : stN ns 0 = 1 := rfl
    rw [this] at h1; omega
  unfold cAt
  rw [← e]
  apply List.ext_getElem
  · simp
  · intro i h2 h3
    simp only [List.getElem_map, List.getElem_range]
    rw [dAt_enc h (fun i => ⟨h i, Int.le_refl _⟩) h3, gi_eq h3]
theorem cAt_gi {ns : List Int} {q : Int} {i : Nat} (h : i < ns.length) : gi (cAt ns q) i = dAt ns q i := by unfold cAt; rw [gi_map_range h]
theorem cAt_len (ns : List Int) (q : Int) : (cAt ns q).length = ns.length := by simp [cAt]
/-- fewer counts have a smaller number, and what is left is the number that is left -/
theorem cAt_sub {ns : List Int} (h : ∀ i, 0 ≤ gi ns i) {s q : Int} (hs : 0 ≤ s) (hS : s < stN ns ns.length) (hq : 0 ≤ q) (hqs : q ≤ s) (hle : ∀ i, i < ns.length → dAt ns q i ≤ dAt ns s i) {i : Nat} (hi : i < ns.length) : dAt ns (s - q) i = dAt ns s i - dAt ns q i := by
  have e1 := enc_cAt h hs hS
  have e2 := enc_cAt h hq (by omega)
  have e3 := encF_sub (ns := ns) (a := dAt ns s) (b := dAt ns q) ns.length 0
  rw [e1, e2] at e3
  have e4 : encF ns (fun i => if i < ns.length then dAt ns s i - dAt ns q i else 0) ns.length 0 = s - q := by
    rw [← e3]
    refine encF_congr _ _ fun i _ hi => ?_
    show (if i < ns.length then _ else _) = _
    rw [if_pos (by omega)]
  rw [← e4, dAt_enc h (c := fun i => if i < ns.length then dAt ns s i - dAt ns q i else 0) (fun i => ?_) hi]
  · show (if i < ns.length then _ else _) = _
    rw [if_pos hi]
  · show 0 ≤ (if i < ns.length then _ else _) ∧ (if i < ns.length then _ else _) ≤ _
    split
    · rename_i hi
      have := hle i hi
      have := dAt_rng h s i
      have := dAt_rng h q i
      omega
    · have := h i; omega
/-- counts have a number -/
theorem cAt_mk {ns : List Int} (h : ∀ i, 0 ≤ gi ns i) {s : Int} (hs : 0 ≤ s) (hS : s < stN ns ns.length) {c : Nat → Int} (hc : ∀ i, 0 ≤ c i) (hcs : ∀ i, i < ns.length → c i ≤ dAt ns s i) : ∃ q, 0 ≤ q ∧ q ≤ s ∧ (∀ i, i < ns.length → dAt ns q i = c i) ∧ (q = 0 → ∀ i, i < ns.length → c i = 0) := by
  obtain ⟨c', hc'⟩ : ∃ c' : Nat → Int, c' = fun i => if i < ns.length then c i else 0 := ⟨_, rfl⟩
  have h1 : ∀ i, 0 ≤ c' i ∧ c' i ≤ gi ns i := fun i => by
    rw [hc']
    show 0 ≤ (if i < ns.length then _ else _) ∧ (if i < ns.length then _ else _) ≤ _
    split
    · rename_i hi
      have := hcs i hi; have := hc i; have := dAt_rng h s i; omega
    · have := h i; omega
  have h2 : ∀ i, i < ns.length → c' i = c i := fun i hi => by rw [hc']; show (if i < ns.length then _ else _) = _; rw [if_pos hi]
  refine ⟨encF ns c' ns.length 0, encF_nn h (fun i => (h1 i).1) _ _, ?_, fun i hi => by rw [dAt_enc h h1 hi, h2 i hi], fun hz i hi => ?_⟩
  · have e1 := enc_cAt h hs hS
    have e3 := encF_sub (ns := ns) (a := dAt ns s) (b := c') ns.length 0
    have h4 : 0 ≤ encF ns (fun i => dAt ns s i - c' i) ns.length 0 := by
      rw [encF_congr (b := fun i => if i < ns.length then dAt ns s i - c' i else 0) ns.length 0 fun i _ hi => by show _ = (if i < ns.length then _ else _); rw [if_pos (by omega)]]
      refine encF_nn h (fun i => ?_) _ _
      show 0 ≤ (if i < ns.length then _ else _)
      split
      · rename_i hi; have := hcs i hi; rw [h2 i hi]; omega
      · omega
    omega
  · rw [← h2 i hi]
    exact encF_zero h (fun i => (h1 i).1) ns.length 0 (by omega) i (Nat.zero_le _) (by omega)
theorem stN_le {ns : List Int} (h : ∀ i, 0 ≤ gi ns i) : ∀ k, stN ns k ≤ 2 ^ (sumI ns k).toNat
  | 0 => by show (1 : Int) ≤ 2 ^ 0; omega
  | k + 1 => by
    have ih := stN_le h k
    have h2 := h k
    have h3 : ∀ m : Nat, (m : Int) + 1 ≤ 2 ^ m := fun m => by
      induction m with
      | zero => omega
      | succ m ih => rw [Int.pow_succ]; omega
    have h4 := h3 (gi ns k).toNat
    have h5 : 0 ≤ sumI ns k := by
      clear ih h4
      induction k with
      | zero => exact Int.le_refl _
      | succ k ih => have := ih (h k); have := h k; show 0 ≤ sumI ns k + gi ns k; omega
    have e : (sumI ns (k + 1)).toNat = (sumI ns k).toNat + (gi ns k).toNat := by
      show (sumI ns k + gi ns k).toNat = _
      omega
    rw [e, Int.pow_add]
    show stN ns k * (gi ns k + 1) ≤ _
    have h6 : gi ns k + 1 ≤ 2 ^ (gi ns k).toNat := by omega
    have h7 := stN_pos h k
    exact Int.mul_le_mul ih h6 (by omega) (by omega)
end Go.Proofs.Yteckjiaaikdghaa
