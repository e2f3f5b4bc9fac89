/-
  Texts merged into one: what each function does, and plain lemmas. No condition.
-/
import Derived.Test.YtkgepklapglmdaaGreatDoorSlitC
namespace Go.Proofs.YtkgepklapglmdaaGreatDoor
open Go.RowKit

def rgt (xs : List (List Int)) : List Int := 0 :: xs.map fun r => gi r 1
/-- rolls side by side from lane 0 to lane b -/
structure Ch (fr til : Int) (xs : List (List Int)) (b : Int) : Prop where
  at_ : ∀ i, i < xs.length → gi (gr xs i) 0 = gi (rgt xs) i ∧ gi (gr xs i) 2 = fr ∧ gi (gr xs i) 3 = til
  end_ : gi (rgt xs) xs.length = b
theorem rgt_snoc (xs : List (List Int)) (y : List Int) : rgt (xs ++ [y]) = rgt xs ++ [gi y 1] := by simp [rgt]
theorem rgt_len (xs : List (List Int)) : (rgt xs).length = xs.length + 1 := by simp [rgt]
theorem gi_app {xs ys : List Int} {i : Nat} (h : i < xs.length) : gi (xs ++ ys) i = gi xs i := by
  unfold gi; rw [List.getD_eq_getElem?_getD, List.getD_eq_getElem?_getD, List.getElem?_append_left h]
theorem gi_last (xs : List Int) (y : Int) : gi (xs ++ [y]) xs.length = y := by simp [gi]
theorem Ch.snoc {fr til b r : Int} {xs : List (List Int)} (h : Ch fr til xs b) : Ch fr til (xs ++ [[b, r, fr, til]]) r := by
  refine ⟨fun i hi => ?_, ?_⟩
  · rw [rgt_snoc]
    rw [List.length_append, List.length_cons, List.length_nil] at hi
    rw [gi_app (by rw [rgt_len]; omega)]
    rcases Nat.lt_or_ge i xs.length with h' | h'
    · rw [gr_append_lt h']; exact h.at_ i h'
    · obtain rfl : i = xs.length := by omega
      rw [gr_append_eq, h.end_]
      exact ⟨rfl, rfl, rfl⟩
  · rw [rgt_snoc, List.length_append, List.length_cons, List.length_nil]
    have := gi_last (rgt xs) (gi [b, r, fr, til] 1)
    rw [rgt_len] at this
    exact this
theorem rows_ch {fr til a w : Int} {xs : List (List Int)} (h : Ch fr til xs a) : ∀ m : Nat, Ch fr til (xs ++ rowsOf w a fr til m) (a + m * w)
  | 0 => by simpa [rowsOf] using h
  | m + 1 => by
    have ih := (rows_ch (w := w) h m).snoc (r := a + m * w + w)
    rw [rowsOf, ← List.append_assoc]
    have e : a + ((m + 1 : Nat) : Int) * w = a + m * w + w := by rw [Int.natCast_succ, Int.add_mul, Int.one_mul, Int.add_assoc]
    rw [e]; exact ih
theorem slit_ch {W : Int} {ws cs : List Int} (fr til : Int) (h : vPat W ws cs = true) : ∀ {k : Nat}, k ≤ cs.length → Ch fr til (slitT ws cs fr til k) (usedL ws cs k)
  | 0, _ => ⟨fun i hi => absurd hi (by simp [slitT]), rfl⟩
  | k + 1, hk => by
    have ih := slit_ch fr til h (k := k) (by omega)
    have h2 := (vPat_iff.1 h).2.2.1 k (by omega)
    have h3 := rows_ch (w := gi ws k) ih (gi cs k).toNat
    rw [Int.toNat_of_nonneg h2.1] at h3
    exact h3
theorem rgt_succ {xs : List (List Int)} {i : Nat} (hi : i < xs.length) : gi (rgt xs) (i + 1) = gi (gr xs i) 1 := by
  unfold rgt gi gr
  simp [hi]
end Go.Proofs.YtkgepklapglmdaaGreatDoor

namespace Go.Proofs.YtkgepklapglmdaaGreatDoor
open Go.RowKit

theorem rows_lt {w a fr til : Int} (hw : 1 ≤ w) : ∀ m, ∀ y ∈ rowsOf w a fr til m, gi y 0 < gi y 1
  | 0, y, h => by simp [rowsOf] at h
  | m + 1, y, h => by
    rw [rowsOf, List.mem_append, List.mem_singleton] at h
    rcases h with h | rfl
    · exact rows_lt hw m y h
    · show a + m * w < a + m * w + w
      omega
theorem slit_lt {W : Int} {ws cs : List Int} (fr til : Int) (h : vPat W ws cs = true) : ∀ {k : Nat}, k ≤ cs.length → ∀ y ∈ slitT ws cs fr til k, gi y 0 < gi y 1
  | 0, _, y, hy => by simp [slitT] at hy
  | k + 1, hk, y, hy => by
    rw [slitT, List.mem_append] at hy
    rcases hy with hy | hy
    · exact slit_lt fr til h (k := k) (by omega) y hy
    · obtain ⟨a, b, c, d⟩ := vPat_iff.1 h
      have h3 := vWid_w a (i := k) (by omega)
      exact rows_lt h3.1 _ y hy
theorem ch_mono {fr til b : Int} {xs : List (List Int)} (H : Ch fr til xs b) (hl : ∀ y ∈ xs, gi y 0 < gi y 1) {i : Nat} : ∀ {j : Nat}, i ≤ j → j ≤ xs.length → gi (rgt xs) i ≤ gi (rgt xs) j
  | 0, hij, _ => by obtain rfl : i = 0 := by omega
                    exact Int.le_refl _
  | j + 1, hij, hj => by
    rcases Nat.lt_or_ge j i with h | h
    · obtain rfl : i = j + 1 := by omega
      exact Int.le_refl _
    · have h1 := ch_mono H hl (i := i) (j := j) h (by omega)
      have h2 := (H.at_ j (by omega)).1
      have h3 := hl _ (gr_mem (show j < xs.length by omega))
      rw [rgt_succ (by omega)]
      omega
theorem rgt_zero (xs : List (List Int)) : gi (rgt xs) 0 = 0 := rfl
theorem ch_area {fr til b : Int} {xs : List (List Int)} (H : Ch fr til xs b) : ∀ {k : Nat}, k ≤ xs.length → areaL xs k = gi (rgt xs) k * (til - fr)
  | 0, _ => by rw [rgt_zero, Int.zero_mul]; rfl
  | k + 1, hk => by
    obtain ⟨h1, h2, h3⟩ := H.at_ k (by omega)
    show areaL xs k + areaT (gr xs k) = _
    rw [ch_area H (k := k) (by omega), rgt_succ (by omega)]
    unfold areaT
    rw [h2, h3, h1, ← Int.add_mul]
    congr 1
    omega
theorem slit_cuts {W L : Int} {ds : List (List Int)} {ws cs : List Int} {fr til : Int} (h : vReel W L ds = true ∧ vPat W ws cs = true ∧ 0 ≤ fr ∧ fr < til ∧ til ≤ L) : vCuts W L ds (slitT ws cs fr til cs.length) = true := by
  obtain ⟨hr, hp, hf, ht, hL⟩ := h
  have H := slit_ch fr til hp (k := cs.length) (Nat.le_refl _)
  have hl := slit_lt fr til hp (k := cs.length) (Nat.le_refl _)
  have h1 := slitT_len fr til hp (k := cs.length) (Nat.le_refl _)
  have hu := pat_used hp (k := cs.length) (Nat.le_refl _)
  obtain ⟨xs, hx⟩ : ∃ xs, xs = slitT ws cs fr til cs.length := ⟨_, rfl⟩
  rw [← hx] at H hl h1 ⊢
  refine vCuts_iff.2 ⟨hr, by omega, fun j hj => ?_⟩
  obtain ⟨a0, a2, a3⟩ := H.at_ j hj
  have a1 := rgt_succ hj
  have b0 := ch_mono H hl (i := 0) (j := j) (by omega) (by omega)
  have b1 := ch_mono H hl (i := j + 1) (j := xs.length) (by omega) (by omega)
  have b2 := hl _ (gr_mem hj)
  rw [rgt_zero] at b0
  rw [H.end_] at b1
  unfold cutOk
  rw [Bool.and_eq_true]
  refine ⟨insB_iff.2 ⟨by omega, b2, by omega, by omega, by omega, by omega⟩, (noMeet_iff (by omega)).2 fun i hi => ?_⟩
  have c1 := rgt_succ (show i < xs.length by omega)
  have c2 := ch_mono H hl (i := i + 1) (j := j) (by omega) (by omega)
  unfold mT meetB
  rw [show decide (gi (gr xs j) 0 < gi (gr xs i) 1) = false from decide_eq_false (by omega)]
  rfl
theorem slit_area {W : Int} {ws cs : List Int} (fr til : Int) (h : vPat W ws cs = true) : areaL (slitT ws cs fr til cs.length) (slitT ws cs fr til cs.length).length = usedL ws cs cs.length * (til - fr) := by
  have H := slit_ch fr til h (k := cs.length) (Nat.le_refl _)
  rw [ch_area H (Nat.le_refl _), H.end_]
end Go.Proofs.YtkgepklapglmdaaGreatDoor
