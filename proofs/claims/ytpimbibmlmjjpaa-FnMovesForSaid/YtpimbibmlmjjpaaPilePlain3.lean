/-
  Lemmas and contracts of single functions of this program, used by the proofs of its laws: what each call returns and what becomes of memory. Conditions: the hypotheses of each theorem.
-/
import Derived.Test.YtpimbibmlmjjpaaPilePlain2
namespace Go.Proofs.Ytpimbibmlmjjpaa

/-- no positive label twice, no negative place -/
def Uniq (p : List (List Int)) : Prop := (∀ r i r' i', r < p.length → i < (gr p r).length → r' < p.length → i' < (gr p r').length → 0 < cell p r i → cell p r i = cell p r' i' → r = r' ∧ i = i') ∧ ∀ r i, r < p.length → i < (gr p r).length → 0 ≤ cell p r i
theorem uniq_of_valid {p : List (List Int)} (hv : ValidP p) : Uniq p := ⟨fun _ _ _ _ a b c d e f => valid_unique hv a b c d e f, fun _ _ a b => valid_nonneg hv a b⟩
theorem uniq_fnd {p : List (List Int)} (hv : Uniq p) {r i : Nat} (hr : r < p.length) (hi : i < (gr p r).length) (hp : 0 < cell p r i) : fndR p (cell p r i) = r ∧ fndC p (cell p r i) = i := by
  obtain ⟨r', i', h1, h2, h3, h4, h5⟩ := fnd_spec (fnd_some hr hi)
  have := hv.1 _ _ _ _ hr hi h3 h4 hp h5.symm
  rw [h1, h2]; omega
theorem uniq_zaps {p : List (List Int)} (hv : Uniq p) : ∀ (L : List Int) (q : List (List Int)), SameShape q p → (∀ l ∈ L, ∃ r i, r < p.length ∧ i < (gr p r).length ∧ cell p r i = l ∧ 0 < l) →
    ∀ r i, r < p.length → i < (gr p r).length → cell (L.foldl (zap p) q) r i = if inL L (cell p r i) = true then 0 else cell q r i
  | [], q, _, _, r, i, _, _ => by simp [inL]
  | l :: t, q, hs, hL, r, i, hr, hi => by
    rw [List.foldl_cons, uniq_zaps hv t (zap p q l) (set2_shape hs _ _ _) (fun l' h' => hL l' (List.mem_cons_of_mem _ h')) r i hr hi, inL_cons]
    obtain ⟨a, b, ha, hb, hab, hp⟩ := hL l List.mem_cons_self
    obtain ⟨e1, e2⟩ := uniq_fnd hv ha hb (by omega)
    rw [hab] at e1 e2
    unfold zap
    rw [e1, e2, cell_set2]
    by_cases hc : cell p r i = l
    · obtain ⟨rfl, rfl⟩ := hv.1 _ _ _ _ hr hi ha hb (by omega) (by omega)
      simp [hc, hs.1, hs.2, hr, hi]
    · have h1 : ¬ (a = r ∧ b = i) := by
        rintro ⟨rfl, rfl⟩; exact hc hab
      have h2 : ¬ ((a : Int).toNat = r ∧ (b : Int).toNat = i ∧ (a : Int).toNat < q.length ∧ (b : Int).toNat < (gr q (a : Int).toNat).length) := by
        rintro ⟨h3, h4, _⟩; exact h1 ⟨by omega, by omega⟩
      rw [if_neg h2]
      have h3 : (l == cell p r i) = false := by simp; omega
      rw [h3, Bool.false_or]
theorem uniq_without {p : List (List Int)} (hv : Uniq p) {n : Int} {r i : Nat} (hr : r < p.length) (hi : i < (gr p r).length) :
    cell (withoutL p n) r i = if inL (coneL p (fndR p n).toNat (fndC p n).toNat) (cell p r i) = true then 0 else cell p r i := by
  unfold withoutL
  refine uniq_zaps hv _ p (SameShape.refl p) (fun l hl => ?_) r i hr hi
  obtain ⟨a, b, _, h2, _, _, h5, h6, h7⟩ := mem_coneL.1 hl
  exact ⟨a, b, h2, h5, h6, h7⟩
/-- the pile without the labels of U -/
def less (p : List (List Int)) (U : List Int) : List (List Int) := p.map (zeroIn U)
theorem less_shape (p : List (List Int)) (U : List Int) : SameShape (less p U) p := map_shape (SameShape.refl p) U
theorem cell_less {p : List (List Int)} {U : List Int} {r i : Nat} (h : r < p.length) (hi : i < (gr p r).length) : cell (less p U) r i = if inL U (cell p r i) = true then 0 else cell p r i := cell_zeroIn h hi
theorem less_uniq {p : List (List Int)} (hv : Uniq p) (U : List Int) : Uniq (less p U) := by
  have hs := less_shape p U
  refine ⟨fun r i r' i' a b c d e f => ?_, fun r i a b => ?_⟩
  · rw [hs.1] at a c
    rw [hs.2] at b d
    rw [cell_less a b] at e f
    rw [cell_less c d] at f
    split at e
    · omega
    · rw [if_neg (by assumption)] at f
      split at f
      · omega
      · exact hv.1 _ _ _ _ a b c d e f
  · rw [hs.1] at a
    rw [hs.2] at b
    rw [cell_less a b]
    split
    · omega
    · exact hv.2 _ _ a b
theorem mem_cone_less {p : List (List Int)} {U : List Int} {row at_ : Nat} {x : Int} : x ∈ coneL (less p U) row at_ ↔ x ∈ coneL p row at_ ∧ x ∉ U := by
  have hs := less_shape p U
  rw [mem_coneL, mem_coneL]
  constructor
  · rintro ⟨r, j, h1, h2, h3, h4, h5, h6, h7⟩
    rw [hs.1] at h2
    rw [hs.2] at h5
    rw [cell_less h2 h5] at h6
    split at h6
    · omega
    · rename_i h8
      exact ⟨⟨r, j, h1, h2, h3, h4, h5, h6, h7⟩, fun h9 => h8 (by rw [h6]; exact inL_iff.2 h9)⟩
  · rintro ⟨⟨r, j, h1, h2, h3, h4, h5, h6, h7⟩, h8⟩
    refine ⟨r, j, h1, by rw [hs.1]; exact h2, h3, h4, by rw [hs.2]; exact h5, ?_, h7⟩
    rw [cell_less h2 h5, h6, if_neg (by rw [inL_iff]; exact h8)]
theorem less_fnd {p : List (List Int)} (hv : Uniq p) {U : List Int} {r i : Nat} (hr : r < p.length) (hi : i < (gr p r).length) (hp : 0 < cell p r i) (hU : cell p r i ∉ U) : fndR (less p U) (cell p r i) = r ∧ fndC (less p U) (cell p r i) = i := by
  have hs := less_shape p U
  have e : cell (less p U) r i = cell p r i := by rw [cell_less hr hi, if_neg (by rw [inL_iff]; exact hU)]
  have := uniq_fnd (less_uniq hv U) (by rw [hs.1]; exact hr) (by rw [hs.2]; exact hi) (by rw [e]; exact hp)
  rwa [e] at this
/-- taking one roll and its cone away from a lessened pile -/
theorem less_without {p : List (List Int)} (hv : Uniq p) {U : List Int} {r i : Nat} (hr : r < p.length) (hi : i < (gr p r).length) (hp : 0 < cell p r i) (hU : cell p r i ∉ U) : withoutL (less p U) (cell p r i) = less p (U ++ coneL p r i) := by
  obtain ⟨e1, e2⟩ := less_fnd hv hr hi hp hU
  have hs := less_shape p U
  have hs2 := less_shape p (U ++ coneL p r i)
  have hs3 := withoutL_shape (less p U) (cell p r i)
  refine pile_ext (p := withoutL (less p U) (cell p r i)) (q := less p (U ++ coneL p r i)) ⟨by rw [hs2.1, hs3.1, hs.1], fun k => by rw [hs2.2, hs3.2, hs.2]⟩ fun a b ha hb => ?_
  rw [hs3.1] at ha
  rw [hs3.2] at hb
  rw [uniq_without (less_uniq hv U) ha hb, e1, e2]
  rw [hs.1] at ha
  rw [hs.2] at hb
  rw [cell_less ha hb, cell_less ha hb]
  simp only [inL_iff, Int.toNat_natCast, mem_cone_less, List.mem_append]
  by_cases h1 : cell p a b ∈ U
  · simp [h1]
  · by_cases h2 : cell p a b ∈ coneL p r i <;> simp [h1, h2]
end Go.Proofs.Ytpimbibmlmjjpaa
