/-
  Lemmas and contracts of single functions of this program, used by the proofs of its laws: what each call returns and what becomes of memory. Conditions: the hypotheses of each theorem.
-/
import Derived.Test.YtpimbibmlmjjpaaPilePlain4
import Derived.Test.YtpimbibmlmjjpaaPileJ
namespace Go.Proofs.Ytpimbibmlmjjpaa
open Go.Lib

theorem compactUpTo_facts (d : Array Int) (hs : ∀ i j, i ≤ j → j < d.size → d[i]! ≤ d[j]!) : ∀ m, m ≤ d.size → (compactUpTo d m).Pairwise (· < ·) ∧ ∀ x, x ∈ compactUpTo d m ↔ ∃ j, j < m ∧ x = d[j]!
  | 0, _ => by simp [compactUpTo]
  | m + 1, hm => by
    obtain ⟨h1, h2⟩ := compactUpTo_facts d hs m (by omega)
    rw [compactUpTo_succ]
    by_cases hk : keeps d m = true
    · rw [if_pos hk]
      refine ⟨List.pairwise_append.2 ⟨h1, by simp, fun x hx y hy => ?_⟩, fun x => ?_⟩
      · simp only [List.mem_singleton] at hy
        subst hy
        obtain ⟨j, hj, rfl⟩ := (h2 x).1 hx
        unfold keeps at hk
        simp only [decide_eq_true_eq] at hk
        have k1 := hs j (m - 1) (by omega) (by omega)
        have k2 := hs (m - 1) m (by omega) (by omega)
        rcases hk with hk | hk <;> omega
      · rw [List.mem_append, h2, List.mem_singleton]
        constructor
        · rintro (⟨j, hj, rfl⟩ | rfl)
          · exact ⟨j, by omega, rfl⟩
          · exact ⟨m, by omega, rfl⟩
        · rintro ⟨j, hj, rfl⟩
          rcases Nat.lt_or_ge j m with h3 | h3
          · exact .inl ⟨j, h3, rfl⟩
          · exact .inr (by rw [show j = m by omega])
    · rw [if_neg hk, List.append_nil]
      refine ⟨h1, fun x => ?_⟩
      rw [h2]
      constructor
      · rintro ⟨j, hj, rfl⟩
        exact ⟨j, by omega, rfl⟩
      · rintro ⟨j, hj, rfl⟩
        rcases Nat.lt_or_ge j m with h3 | h3
        · exact ⟨j, h3, rfl⟩
        · unfold keeps at hk
          simp only [decide_eq_true_eq] at hk
          refine ⟨m - 1, by omega, ?_⟩
          rw [show j = m by omega]
          by_cases h4 : d[m]! = d[m - 1]!
          · exact h4
          · exact absurd (.inr h4) hk
theorem compact_sort (xs : List Int) : (compact (sortL xs)).Nodup ∧ ∀ x, x ∈ compact (sortL xs) ↔ x ∈ xs := by
  have hp : (sortL xs).Pairwise (fun x y => decide (x ≤ y) = true) := List.pairwise_mergeSort (by intro a b c; simp; omega) (by intro a b; simp; omega) xs
  have hmem : ∀ x, x ∈ sortL xs ↔ x ∈ xs := fun x => (List.mergeSort_perm xs _).mem_iff
  obtain ⟨S, hS⟩ : ∃ S, S = sortL xs := ⟨_, rfl⟩
  rw [← hS] at hp hmem ⊢
  have hs : ∀ i j, i ≤ j → j < S.toArray.size → S.toArray[i]! ≤ S.toArray[j]! := by
    intro i j hij hj
    have hj' : j < S.length := by simpa using hj
    have hi' : i < S.length := by omega
    simp only [List.getElem!_toArray, getElem!_pos, hj', hi']
    rcases Nat.lt_or_ge i j with h | h
    · have := (List.pairwise_iff_getElem.1 hp) i j hi' hj' h
      simpa using this
    · have : i = j := by omega
      subst this; exact Int.le_refl _
  obtain ⟨h1, h2⟩ := compactUpTo_facts S.toArray hs S.length (by simp)
  refine ⟨h1.imp fun {a b} h => by omega, fun x => ?_⟩
  unfold compact
  rw [h2, ← hmem]
  constructor
  · rintro ⟨j, hj, rfl⟩
    simp only [List.getElem!_toArray, getElem!_pos, hj]
    exact List.getElem_mem hj
  · intro hx
    obtain ⟨j, hj, e⟩ := List.getElem_of_mem hx
    exact ⟨j, hj, by simp only [List.getElem!_toArray, getElem!_pos, hj]; exact e.symm⟩
end Go.Proofs.Ytpimbibmlmjjpaa
