/-
  Lemmas and contracts of single functions of this program, used by the proofs of its laws: what each call returns and what becomes of memory. Conditions: the hypotheses of each theorem.
-/
import Derived.Test.YtpimbibmlmjjpaaPilePlain5
import Derived.Test.YtpimbibmlmjjpaaPileLab
namespace Go.Proofs.Ytpimbibmlmjjpaa
open Go.Lib

theorem mem_away {p : List (List Int)} (hv : ValidP p) {l : Int} (hl : l ∈ labelsL p) (x : Int) : x ∈ coneOf p l ↔ x = l ∨ x ∈ abvL p l := by
  obtain ⟨r, i, hr, hi, rfl, hp⟩ := mem_labels.1 hl
  obtain ⟨e1, e2⟩ := valid_fnd hv hr hi hp
  obtain ⟨e3, e4⟩ := valid_FR hv hr hi hp
  have e5 : coneOf p (cell p r i) = coneL p r i := by unfold coneOf; rw [e1, e2]; rfl
  have e6 : abvL p (cell p r i) = aboveL p r i := by unfold abvL; rw [e3, e4, if_pos (by omega)]; rfl
  rw [e5, e6, coneL_above hr hi hp, List.mem_append, List.mem_singleton]
  exact Or.comm
theorem cone_labels {p : List (List Int)} {l x : Int} (h : x ∈ coneOf p l) : x ∈ labelsL p := by
  obtain ⟨a, b, _, h2, _, _, h5, h6, h7⟩ := mem_coneL.1 h
  exact mem_labels.2 ⟨a, b, h2, h5, h6, h7⟩
theorem plc_mem (xs : List Int) (n : Int) : inL xs n = decide (0 ≤ plc xs n) := by
  by_cases h : 0 ≤ plc xs n
  · obtain ⟨i, _, hi, e⟩ := plc_spec h
    rw [decide_eq_true h, inL_iff, ← e, gi_eq hi]; exact List.getElem_mem hi
  · rw [decide_eq_false h, inL_false]
    intro hm
    obtain ⟨i, hi, e⟩ := List.getElem_of_mem hm
    exact h (plcFrom_some n xs 0 i hi (by rw [gi_eq hi]; exact e))
theorem mov_eq (p : List (List Int)) (L : List Int) : movI p L = movS p L := by
  unfold movI movS
  by_cases hV : vPile p = true
  · have hv := vPile_true hV
    rw [if_pos hV, if_pos hV]
    have hbad : ∀ j, j < L.length → badI p L j = badS p L j := by
      intro j _
      unfold badI badS
      have e1 : inL (L.take j) (gi L j) = decide (0 ≤ plc (L.take j) (gi L j)) := plc_mem _ _
      have e2 : decide (FR p (gi L j) < 0) = (decide (gi L j < 1) || decide (plc (labelsL p) (gi L j) < 0)) := by
        by_cases hm : gi L j ∈ labelsL p
        · have h3 : 0 ≤ plc (labelsL p) (gi L j) := by have := plc_mem (labelsL p) (gi L j); rw [inL_iff.2 hm] at this; simpa using this.symm
          obtain ⟨r, i, hr, hi, he, hp⟩ := mem_labels.1 hm
          have h4 := (valid_FR hv hr hi (by omega)).1
          rw [he] at h4
          rw [decide_eq_false (by omega), decide_eq_false (by omega), decide_eq_false (by omega)]; rfl
        · have h3 : plc (labelsL p) (gi L j) < 0 := by
            have := plc_mem (labelsL p) (gi L j)
            rw [inL_false.2 hm] at this
            have := of_decide_eq_false this.symm
            omega
          have h4 : FR p (gi L j) < 0 := by
            rcases Int.lt_or_le (FR p (gi L j)) 0 with h | h
            · exact h
            · obtain ⟨r, i, _, _, hr, hi, he, _, hp, _⟩ := FR_spec h
              exact absurd (mem_labels.2 ⟨r, i, hr, hi, he, by omega⟩) hm
          rw [decide_eq_true h4, decide_eq_true h3, Bool.or_true]
      rw [e1, e2]
    rw [anyB_congr hbad]
    by_cases hb : anyB (badS p L) L.length = true
    · rw [if_pos hb, if_pos hb]
    · rw [if_neg hb, if_neg hb]
      have hin : ∀ l ∈ L, l ∈ labelsL p := by
        intro l hl
        obtain ⟨j, hj, rfl⟩ := List.getElem_of_mem hl
        have h1 : badS p L j = false := by
          cases h : badS p L j
          · rfl
          · exact absurd (anyB_true hj h) hb
        unfold badS at h1
        simp only [Bool.or_eq_false_iff, decide_eq_false_iff_not] at h1
        have h2 := plc_mem (labelsL p) (gi L j)
        rw [decide_eq_true (by omega), inL_iff, gi_eq hj] at h2
        exact h2
      have hrest : restL p L = less p (L.flatMap (coneOf p)) := by
        have := rest_less (uniq_of_valid hv) L [] (fun _ _ _ _ h => absurd h (by simp)) fun l hl => mem_labels.1 (hin l hl)
        rw [less_nil, List.nil_append] at this
        exact this
      obtain ⟨c1, c2⟩ := compact_sort (awayL p L)
      obtain ⟨U, hU⟩ : ∃ U, U = L.flatMap (coneOf p) := ⟨_, rfl⟩
      have hmem : ∀ x, x ∈ awayL p L ↔ x ∈ U := by
        intro x
        rw [hU, awayL, List.mem_flatMap, List.mem_flatMap]
        constructor
        · rintro ⟨l, h1, h2⟩; exact ⟨l, h1, (mem_away hv (hin l h1) x).2 (by simpa using h2)⟩
        · rintro ⟨l, h1, h2⟩; exact ⟨l, h1, by simpa using (mem_away hv (hin l h1) x).1 h2⟩
      have hsub : ∀ x ∈ U, x ∈ labelsL p := by
        intro x hx
        rw [hU, List.mem_flatMap] at hx
        obtain ⟨l, _, h2⟩ := hx
        exact cone_labels h2
      rw [hrest, ← hU, labels_less]
      have hn := labels_nodup hv
      have hlen : (compact (sortL (awayL p L))).length = ((labelsL p).filter fun x => inL U x).length := by
        refine (List.Perm.length_eq ((List.perm_ext_iff_of_nodup c1 (hn.filter _)).2 fun x => ?_))
        rw [c2, hmem, List.mem_filter, inL_iff]
        exact ⟨fun h => ⟨hsub x h, h⟩, fun h => h.2⟩
      have hsplit : ∀ xs : List Int, (xs.filter fun x => inL U x).length + (xs.filter fun x => !inL U x).length = xs.length := by
        intro xs
        induction xs with
        | nil => rfl
        | cons x t ih =>
          rw [List.filter_cons, List.filter_cons]
          cases inL U x <;> simp <;> omega
      have := hsplit (labelsL p)
      rw [hlen]; omega
  · rw [if_neg hV, if_neg hV]
end Go.Proofs.Ytpimbibmlmjjpaa
