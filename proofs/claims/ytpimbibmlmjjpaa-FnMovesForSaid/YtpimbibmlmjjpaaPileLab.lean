/-
  Lemmas and contracts of single functions of this program, used by the proofs of its laws: what each call returns and what becomes of memory. Conditions: the hypotheses of each theorem.
-/
import Derived.Test.YtpimbibmlmjjpaaPilePlain4
namespace Go.Proofs.Ytpimbibmlmjjpaa

theorem seen_nodup {p : List (List Int)} (hv : ValidP p) {r : Nat} (hr : r < p.length) (h0 : (labelsL (p.take r)).Nodup) : ∀ i, i ≤ (gr p r).length → (seen p r i).Nodup
  | 0, _ => by rw [seen_zero]; exact h0
  | i + 1, hi => by
    have ih := seen_nodup hv hr h0 i (by omega)
    rw [seen_succ (by omega)]
    by_cases hp : 0 < cell p r i
    · rw [if_pos hp]
      have h1 := (((hv.2.2 r hr).2.2 i (by omega)).2.2 hp).1
      rw [inL_false] at h1
      exact List.nodup_append.2 ⟨ih, by simp, fun a ha b hb => by
        simp only [List.mem_singleton] at hb
        subst hb
        exact fun e => h1 (e ▸ ha)⟩
    · rw [if_neg hp]; exact ih
theorem labels_nodup_take {p : List (List Int)} (hv : ValidP p) : ∀ r, r ≤ p.length → (labelsL (p.take r)).Nodup
  | 0, _ => by simp [labelsL]
  | r + 1, hr => by
    rw [← seen_row (r := r) (i := (gr p r).length) (by omega) (Nat.le_refl _)]
    exact seen_nodup hv (by omega) (labels_nodup_take hv r (by omega)) _ (Nat.le_refl _)
theorem labels_nodup {p : List (List Int)} (hv : ValidP p) : (labelsL p).Nodup := by
  have := labels_nodup_take hv p.length (Nat.le_refl _)
  rwa [List.take_length] at this
theorem mem_labels {p : List (List Int)} {x : Int} : x ∈ labelsL p ↔ ∃ r i, r < p.length ∧ i < (gr p r).length ∧ cell p r i = x ∧ 0 < x := by
  unfold labelsL posL
  rw [List.mem_flatMap]
  constructor
  · rintro ⟨row, hrow, hx⟩
    rw [List.mem_filter] at hx
    obtain ⟨r, hr, rfl⟩ := List.getElem_of_mem hrow
    obtain ⟨i, hi, e⟩ := List.getElem_of_mem hx.1
    have e0 := gr_eq hr
    refine ⟨r, i, hr, by rw [e0]; exact hi, ?_, by simpa using hx.2⟩
    unfold cell
    rw [e0, gi_eq hi]; exact e
  · rintro ⟨r, i, hr, hi, rfl, hp⟩
    refine ⟨gr p r, by rw [gr_eq hr]; exact List.getElem_mem hr, ?_⟩
    rw [List.mem_filter]
    refine ⟨?_, by simpa using hp⟩
    unfold cell
    rw [gi_eq hi]; exact List.getElem_mem hi
end Go.Proofs.Ytpimbibmlmjjpaa
