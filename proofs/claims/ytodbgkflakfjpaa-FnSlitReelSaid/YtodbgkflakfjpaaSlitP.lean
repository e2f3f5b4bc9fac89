/-
  Lemmas and contracts of single functions of this program, used by the proofs of its laws: what each call returns and what becomes of memory. Conditions: the hypotheses of each theorem.
-/
import Derived.Test.YtodbgkflakfjpaaSlitC
namespace Go.Proofs.Ytodbgkflakfjpaa
open Go.RowKit

def rgt (xs : List (List Int)) : List Int := 0 :: xs.map fun r => gi r 1
/-- rolls side by side from lane 0 to lane b -/
structure Ch (fr til : Int) (xs : List (List Int)) (b : Int) : Prop where
  at_ : ∀ i, i < xs.length → gi (gr xs i) 0 = gi (rgt xs) i ∧ gi (gr xs i) 2 = fr ∧ gi (gr xs i) 3 = til
  end_ : gi (rgt xs) xs.length = b
theorem rgt_snoc (xs : List (List Int)) (y : List Int) : rgt (xs ++ [y]) = rgt xs ++ [gi y 1] := by simp [rgt]
theorem rgt_len (xs : List (List Int)) : (rgt xs).length = xs.length + 1 := by simp [rgt]
theorem gi_app {xs ys : List Int} {i : Nat} (h : i < xs.length) : gi (xs ++ ys) i = gi xs i := by
  unfold gi; rw [List.getD_eq_getElem?_getD, List.getD_eq_getElem?_getD, List.getElem?_append_left h]
theorem gi_last (xs : List Int) (y : Int) : gi (xs ++ [y]) xs.length = y := by simp [gi]
theorem Ch.snoc {fr til b r : Int} {xs : List (List Int)} (h : Ch fr til xs b) : Ch fr til (xs ++ [[b, r, fr, til]]) r := by
  refine ⟨fun i hi => ?_, ?_⟩
  · rw [rgt_snoc]
    rw [List.length_append, List.length_cons, List.length_nil] at hi
    rw [gi_app (by rw [rgt_len]; omega)]
    rcases Nat.lt_or_ge i xs.length with h' | h'
    · rw [gr_append_lt h']; exact h.at_ i h'
    · obtain rfl : i = xs.length := by omega
      rw [gr_append_eq, h.end_]
      exact ⟨rfl, rfl, rfl⟩
  · rw [rgt_snoc, List.length_append, List.length_cons, List.length_nil]
    have := gi_last (rgt xs) (gi [b, r, fr, til] 1)
    rw [rgt_len] at this
    exact this
theorem rows_ch {fr til a w : Int} {xs : List (List Int)} (h : Ch fr til xs a) : ∀ m : Nat, Ch fr til (xs ++ rowsOf w a fr til m) (a + m * w)
  | 0 => by simpa [rowsOf] using h
  | m + 1 => by
    have ih := (rows_ch (w := w) h m).snoc (r := a + m * w + w)
    rw [rowsOf, ← List.append_assoc]
    have e : a + ((m + 1 : Nat) : Int) * w = a + m * w + w := by rw [Int.natCast_succ, Int.add_mul, Int.one_mul, Int.add_assoc]
    rw [e]; exact ih
theorem slit_ch {W : Int} {ws cs : List Int} (fr til : Int) (h : vPat W ws cs = true) : ∀ {k : Nat}, k ≤ cs.length → Ch fr til (slitT ws cs fr til k) (usedL ws cs k)
  | 0, _ => ⟨fun i hi => absurd hi (by simp [slitT]), rfl⟩
  | k + 1, hk => by
    have ih := slit_ch fr til h (k := k) (by omega)
    have h2 := (vPat_iff.1 h).2.2.1 k (by omega)
    have h3 := rows_ch (w := gi ws k) ih (gi cs k).toNat
    rw [Int.toNat_of_nonneg h2.1] at h3
    exact h3
theorem rows_rgt (w a fr til : Int) : ∀ m, (rowsOf w a fr til m).map (fun r => gi r 1) = (rowsOf w a 0 0 m).map (fun r => gi r 1)
  | 0 => rfl
  | m + 1 => by rw [rowsOf, rowsOf, List.map_append, List.map_append, rows_rgt w a fr til m]; rfl
theorem slit_rgt (ws cs : List Int) (fr til : Int) : ∀ k, (slitT ws cs fr til k).map (fun r => gi r 1) = (slitT ws cs 0 0 k).map (fun r => gi r 1)
  | 0 => rfl
  | k + 1 => by rw [slitT, slitT, List.map_append, List.map_append, slit_rgt ws cs fr til k, rows_rgt]
theorem rgt_succ {xs : List (List Int)} {i : Nat} (hi : i < xs.length) : gi (rgt xs) (i + 1) = gi (gr xs i) 1 := by
  unfold rgt gi gr
  simp [hi]
/-- the knives of a pattern with rolls -/
theorem kn_slit {W : Int} {ws cs : List Int} (fr til : Int) (h : vPat W ws cs = true) (h1 : 0 < (slitT ws cs fr til cs.length).length) : knL W ws cs = if (slitT ws cs fr til cs.length).length + 1 ≤ 24 then rgt (slitT ws cs fr til cs.length) else [] := by
  have e := slitT_sum fr til h (k := cs.length) (Nat.le_refl _)
  unfold knL rgt
  rw [slit_rgt ws cs fr til]
  by_cases h2 : (slitT ws cs fr til cs.length).length + 1 ≤ 24
  · rw [if_pos h2, if_pos ⟨h, by omega, by omega⟩]
  · rw [if_neg h2, if_neg (by omega)]
end Go.Proofs.Ytodbgkflakfjpaa
