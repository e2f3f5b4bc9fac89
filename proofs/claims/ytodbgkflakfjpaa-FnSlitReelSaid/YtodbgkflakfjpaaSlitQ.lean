/-
  Lemmas and contracts of single functions of this program, used by the proofs of its laws: what each call returns and what becomes of memory. Conditions: the hypotheses of each theorem.
-/
import Derived.Test.YtodbgkflakfjpaaSlitP
namespace Go.Proofs.Ytodbgkflakfjpaa
open Go.RowKit

theorem rows_lt {w a fr til : Int} (hw : 1 ≤ w) : ∀ m, ∀ y ∈ rowsOf w a fr til m, gi y 0 < gi y 1
  | 0, y, h => by simp [rowsOf] at h
  | m + 1, y, h => by
    rw [rowsOf, List.mem_append, List.mem_singleton] at h
    rcases h with h | rfl
    · exact rows_lt hw m y h
    · show a + m * w < a + m * w + w
      omega
theorem slit_lt {W : Int} {ws cs : List Int} (fr til : Int) (h : vPat W ws cs = true) : ∀ {k : Nat}, k ≤ cs.length → ∀ y ∈ slitT ws cs fr til k, gi y 0 < gi y 1
  | 0, _, y, hy => by simp [slitT] at hy
  | k + 1, hk, y, hy => by
    rw [slitT, List.mem_append] at hy
    rcases hy with hy | hy
    · exact slit_lt fr til h (k := k) (by omega) y hy
    · obtain ⟨a, b, c, d⟩ := vPat_iff.1 h
      have h3 := vWid_w a (i := k) (by omega)
      exact rows_lt h3.1 _ y hy
theorem ch_mono {fr til b : Int} {xs : List (List Int)} (H : Ch fr til xs b) (hl : ∀ y ∈ xs, gi y 0 < gi y 1) {i : Nat} : ∀ {j : Nat}, i ≤ j → j ≤ xs.length → gi (rgt xs) i ≤ gi (rgt xs) j
  | 0, hij, _ => by obtain rfl : i = 0 := by omega
                    exact Int.le_refl _
  | j + 1, hij, hj => by
    rcases Nat.lt_or_ge j i with h | h
    · obtain rfl : i = j + 1 := by omega
      exact Int.le_refl _
    · have h1 := ch_mono H hl (i := i) (j := j) h (by omega)
      have h2 := (H.at_ j (by omega)).1
      have h3 := hl _ (gr_mem (show j < xs.length by omega))
      rw [rgt_succ (by omega)]
      omega
theorem rgt_zero (xs : List (List Int)) : gi (rgt xs) 0 = 0 := rfl
theorem ch_area {fr til b : Int} {xs : List (List Int)} (H : Ch fr til xs b) : ∀ {k : Nat}, k ≤ xs.length → areaL xs k = gi (rgt xs) k * (til - fr)
  | 0, _ => by rw [rgt_zero, Int.zero_mul]; rfl
  | k + 1, hk => by
    obtain ⟨h1, h2, h3⟩ := H.at_ k (by omega)
    show areaL xs k + areaT (gr xs k) = _
    rw [ch_area H (k := k) (by omega), rgt_succ (by omega)]
    unfold areaT
    rw [h2, h3, h1, ← Int.add_mul]
    congr 1
    omega
theorem slit_cuts {W L : Int} {ds : List (List Int)} {ws cs : List Int} {fr til : Int} (h : vReel W L ds = true ∧ vPat W ws cs = true ∧ 0 ≤ fr ∧ fr < til ∧ til ≤ L) : vCuts W L ds (slitT ws cs fr til cs.length) = true := by
  obtain ⟨hr, hp, hf, ht, hL⟩ := h
  have H := slit_ch fr til hp (k := cs.length) (Nat.le_refl _)
  have hl := slit_lt fr til hp (k := cs.length) (Nat.le_refl _)
  have h1 := slitT_len fr til hp (k := cs.length) (Nat.le_refl _)
  have hu := pat_used hp (k := cs.length) (Nat.le_refl _)
  obtain ⟨xs, hx⟩ : ∃ xs, xs = slitT ws cs fr til cs.length := ⟨_, rfl⟩
  rw [← hx] at H hl h1 ⊢
  refine vCuts_iff.2 ⟨hr, by omega, fun j hj => ?_⟩
  obtain ⟨a0, a2, a3⟩ := H.at_ j hj
  have a1 := rgt_succ hj
  have b0 := ch_mono H hl (i := 0) (j := j) (by omega) (by omega)
  have b1 := ch_mono H hl (i := j + 1) (j := xs.length) (by omega) (by omega)
  have b2 := hl _ (gr_mem hj)
  rw [rgt_zero] at b0
  rw [H.end_] at b1
  unfold cutOk
  rw [Bool.and_eq_true]
  refine ⟨insB_iff.2 ⟨by omega, b2, by omega, by omega, by omega, by omega⟩, (noMeet_iff (by omega)).2 fun i hi => ?_⟩
  have c1 := rgt_succ (show i < xs.length by omega)
  have c2 := ch_mono H hl (i := i + 1) (j := j) (by omega) (by omega)
  unfold mT meetB
  rw [show decide (gi (gr xs j) 0 < gi (gr xs i) 1) = false from decide_eq_false (by omega)]
  rfl
theorem slit_area {W : Int} {ws cs : List Int} (fr til : Int) (h : vPat W ws cs = true) : areaL (slitT ws cs fr til cs.length) (slitT ws cs fr til cs.length).length = usedL ws cs cs.length * (til - fr) := by
  have H := slit_ch fr til h (k := cs.length) (Nat.le_refl _)
  rw [ch_area H (Nat.le_refl _), H.end_]
theorem slit_eq (W L u fr til : Int) : (W - u) * (til - fr) + W * (L - til + fr) = W * L - u * (til - fr) := by
  rw [Int.sub_mul, show L - til + fr = L - (til - fr) by omega, Int.mul_sub W L (til - fr)]
  omega
end Go.Proofs.Ytodbgkflakfjpaa
