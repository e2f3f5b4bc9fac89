/-
  Lemmas and contracts of single functions of this program, used by the proofs of its laws: what each call returns and what becomes of memory. Conditions: the hypotheses of each theorem.
-/
import Derived.Test.YtodbgkflakfjpaaReelM
import Derived.Test.YtodbgkflakfjpaaLibS
namespace Go.Proofs.Ytodbgkflakfjpaa
open Go.RowKit
attribute [local go_sem ↓] Go.wp_at_zero Go.wp_at_succ

/-- one pass: the numbers below n that fit and are not there yet, appended -/
def inn (P : Nat → Bool) (xs : List Int) : Nat → List Int
  | 0 => xs
  | n + 1 => if P n && !inL (inn P xs n) (n : Int) then inn P xs n ++ [(n : Int)] else inn P xs n
/-- b was next to a -/
def nxt (ps : List (List Int)) (a b : Nat) : Bool := neighB (gr ps a) (gr ps b)
/-- behind k passes -/
def stp (B : Nat → Bool) (N : Nat → Nat → Bool) (m : Nat) (i : Int) : Nat → List Int
  | 0 => [i]
  | k + 1 => if k < (stp B N m i k).length then inn (fun n => N (gi (stp B N m i k) k).toNat n && B n) (stp B N m i k) m else stp B N m i k
/-- distinct, and below m -/
structure Fair (m : Nat) (xs : List Int) : Prop where
  nd : xs.Nodup
  rg : ∀ x ∈ xs, 0 ≤ x ∧ x < m
theorem Fair.len {m : Nat} {xs : List Int} (h : Fair m xs) : xs.length ≤ m := by
  have h1 : (xs.map Int.toNat).Nodup := by
    rw [List.nodup_iff_pairwise_ne, List.pairwise_map]
    refine List.Pairwise.imp_of_mem ?_ h.nd
    intro a b ha hb hne e
    have := h.rg a ha; have := h.rg b hb
    exact hne (by omega)
  have h2 : (xs.map Int.toNat) ⊆ List.range m := by
    intro x hx
    obtain ⟨y, hy, rfl⟩ := List.mem_map.1 hx
    have := h.rg y hy
    exact List.mem_range.2 (by omega)
  have h3 := List.Nodup.length_le_of_subset h1 h2
  simpa using h3
theorem inn_fair {P : Nat → Bool} {m : Nat} {xs : List Int} (h : Fair m xs) : ∀ {n : Nat}, n ≤ m → Fair m (inn P xs n)
  | 0, _ => h
  | n + 1, hn => by
    have ih := inn_fair (P := P) h (n := n) (by omega)
    rw [inn]
    split
    · rename_i hc
      rw [Bool.and_eq_true] at hc
      have hni : (n : Int) ∉ inn P xs n := fun hm => by
        have : inL (inn P xs n) (n : Int) = true := List.any_eq_true.2 ⟨_, hm, by simp⟩
        rw [this] at hc; exact absurd hc.2 (by simp)
      refine ⟨?_, ?_⟩
      · rw [List.nodup_append]
        refine ⟨ih.nd, by simp, fun a ha b hb => ?_⟩
        rw [List.mem_singleton.1 hb]
        intro e; subst e; exact hni ha
      · intro x hx
        rcases List.mem_append.1 hx with hx | hx
        · exact ih.rg x hx
        · rw [List.mem_singleton.1 hx]; omega
    · exact ih
theorem stp_fair {B : Nat → Bool} {N : Nat → Nat → Bool} {m : Nat} {i : Int} (h0 : 0 ≤ i) (h1 : i < m) : ∀ k, Fair m (stp B N m i k)
  | 0 => ⟨by simp [stp], fun x hx => by rw [List.mem_singleton.1 hx]; exact ⟨h0, h1⟩⟩
  | k + 1 => by
    have ih := stp_fair (B := B) (N := N) h0 h1 k
    rw [stp]
    split
    · exact inn_fair ih (Nat.le_refl _)
    · exact ih
theorem stp_stay {B : Nat → Bool} {N : Nat → Nat → Bool} {m : Nat} {i : Int} {k : Nat} (h : (stp B N m i k).length ≤ k) : ∀ j, stp B N m i (k + j) = stp B N m i k
  | 0 => rfl
  | j + 1 => by
    have ih := stp_stay h j
    rw [← Nat.add_assoc, stp, ih, if_neg (by omega)]
theorem inL_mem {xs : List Int} {n : Int} : inL xs n = true ↔ n ∈ xs := by
  unfold inL
  rw [List.any_eq_true]
  exact ⟨fun ⟨x, hx, e⟩ => by rw [beq_iff_eq] at e; subst e; exact hx, fun h => ⟨n, h, by simp⟩⟩
/-- a fair list, sorted -/
theorem sort_fair {m : Nat} {xs : List Int} (h : Fair m xs) : sortL xs = selL (fun n => inL xs (n : Int)) m := by
  have hp : (sortL xs).Perm (selL (fun n => inL xs (n : Int)) m) := by
    refine (List.mergeSort_perm xs _).trans ?_
    refine (List.perm_ext_iff_of_nodup h.nd ?_).2 fun x => ?_
    · unfold selL
      rw [List.nodup_iff_pairwise_ne, List.pairwise_map]
      exact (List.Pairwise.filter _ List.nodup_range).imp fun {a b} hab e => hab (by omega)
    · rw [selL_mem]
      constructor
      · intro hx
        have := h.rg x hx
        exact ⟨x.toNat, by omega, by rw [Int.toNat_of_nonneg this.1]; exact inL_mem.2 hx, by omega⟩
      · rintro ⟨j, _, hj, rfl⟩
        exact inL_mem.1 hj
  have s1 : (sortL xs).Pairwise (· ≤ ·) := by
    have := List.pairwise_mergeSort (le := fun x y : Int => decide (x ≤ y)) (fun a b c h1 h2 => by simp at *; omega) (fun a b => by simp; omega) xs
    exact this.imp fun h => by simpa using h
  have s2 : (selL (fun n => inL xs (n : Int)) m).Pairwise (· ≤ ·) := by
    unfold selL
    rw [List.pairwise_map]
    exact (List.Pairwise.filter _ List.pairwise_lt_range).imp fun {a b} hab => by omega
  exact List.Perm.eq_of_pairwise (le := fun a b : Int => a ≤ b) (fun a b _ _ h1 h2 => by omega) s1 s2 hp
/-- what is recalled -/
def rcL (W L : Int) (ds ps : List (List Int)) (i m : Int) : List Int :=
  if vCuts W L ds ps = true ∧ 0 ≤ i ∧ i < ps.length then selL (fun n => inL (stp (fun n => decide (m < worstL ds (gr ps n))) (nxt ps) ps.length i ps.length) (n : Int)) ps.length else []
theorem rcL_len (W L : Int) (ds ps : List (List Int)) (i m : Int) (h : ps.length ≤ 1048576) : (rcL W L ds ps i m).length ≤ 1048576 := by
  unfold rcL
  split
  · exact Nat.le_trans (selL_len _ _) h
  · simp
end Go.Proofs.Ytodbgkflakfjpaa
