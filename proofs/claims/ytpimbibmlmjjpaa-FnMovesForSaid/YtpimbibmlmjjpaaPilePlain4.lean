/-
  Lemmas and contracts of single functions of this program, used by the proofs of its laws: what each call returns and what becomes of memory. Conditions: the hypotheses of each theorem.
-/
import Derived.Test.YtpimbibmlmjjpaaPilePlain3
namespace Go.Proofs.Ytpimbibmlmjjpaa

theorem less_nil (p : List (List Int)) : less p [] = p := by
  unfold less
  have : zeroIn [] = id := by funext xs; simp [zeroIn, inL]
  rw [this, List.map_id]
theorem less_congr {p : List (List Int)} {U V : List Int} (h : ∀ x, x ∈ U ↔ x ∈ V) : less p U = less p V := by
  have e : zeroIn U = zeroIn V := by
    funext xs
    unfold zeroIn
    congr 1
    funext x
    have : inL U x = inL V x := Bool.eq_iff_iff.2 (by rw [inL_iff, inL_iff]; exact h x)
    rw [this]
  unfold less; rw [e]
/-- U holds the cone of each of its labels -/
def UpSet (p : List (List Int)) (U : List Int) : Prop := ∀ r i, r < p.length → i < (gr p r).length → cell p r i ∈ U → ∀ x ∈ coneL p r i, x ∈ U
theorem cone_trans {p : List (List Int)} (hv : Uniq p) {r i a b : Nat} (ha : a < p.length) (hb : b < (gr p a).length) (h : cell p a b ∈ coneL p r i) : ∀ x ∈ coneL p a b, x ∈ coneL p r i := by
  intro x hx
  obtain ⟨a', b', h1, h2, h3, h4, h5, h6, h7⟩ := mem_coneL.1 h
  obtain ⟨rfl, rfl⟩ := hv.1 a' b' a b h2 h5 ha hb (by omega) h6
  obtain ⟨c, d, k1, k2, k3, k4, k5, k6, k7⟩ := mem_coneL.1 hx
  exact mem_coneL.2 ⟨c, d, by omega, k2, by omega, by omega, k5, k6, k7⟩
def coneOf (p : List (List Int)) (l : Int) : List Int := coneL p (fndR p l).toNat (fndC p l).toNat
theorem rest_less {p : List (List Int)} (hv : Uniq p) : ∀ (L U : List Int), UpSet p U → (∀ l ∈ L, ∃ r i, r < p.length ∧ i < (gr p r).length ∧ cell p r i = l ∧ 0 < l) →
    L.foldl (fun q l => if 0 ≤ fndR q l then withoutL q l else q) (less p U) = less p (U ++ L.flatMap (coneOf p))
  | [], U, _, _ => by simp
  | l :: t, U, hU, hL => by
    obtain ⟨r, i, hr, hi, rfl, hp⟩ := hL l List.mem_cons_self
    have hL' := fun l' h' => hL l' (List.mem_cons_of_mem _ h')
    obtain ⟨e1, e2⟩ := uniq_fnd hv hr hi hp
    have ec : coneOf p (cell p r i) = coneL p r i := by unfold coneOf; rw [e1, e2]; rfl
    have hs := less_shape p U
    rw [List.foldl_cons, List.flatMap_cons, ec, ← List.append_assoc]
    have hUC : UpSet p (U ++ coneL p r i) := by
      intro a b ha hb h x hx
      rcases List.mem_append.1 h with h | h
      · exact List.mem_append_left _ (hU a b ha hb h x hx)
      · exact List.mem_append_right _ (cone_trans hv ha hb h x hx)
    by_cases hin : cell p r i ∈ U
    · have hneg : ¬ 0 ≤ fndR (less p U) (cell p r i) := by
        intro h0
        obtain ⟨a, b, _, _, ha, hb, hc⟩ := fnd_spec h0
        rw [hs.1] at ha
        rw [hs.2] at hb
        rw [cell_less ha hb] at hc
        split at hc
        · omega
        · rename_i h9
          exact h9 (by rw [hc, inL_iff]; exact hin)
      rw [if_neg hneg, ← rest_less hv t _ hUC hL']
      congr 1
      exact less_congr fun x => by
        rw [List.mem_append]
        exact ⟨.inl, fun h => h.elim id fun h => hU r i hr hi hin x h⟩
    · have hpos : 0 ≤ fndR (less p U) (cell p r i) := by rw [(less_fnd hv hr hi hp hin).1]; omega
      rw [if_pos hpos, less_without hv hr hi hp hin, rest_less hv t _ hUC hL']
theorem posL_zeroIn (U : List Int) : ∀ xs : List Int, posL (zeroIn U xs) = (posL xs).filter fun x => !inL U x
  | [] => rfl
  | x :: t => by
    have ih := posL_zeroIn U t
    unfold posL zeroIn at *
    rw [List.map_cons, List.filter_cons, List.filter_cons, ih]
    by_cases h : inL U x = true
    · by_cases hp : 0 < x <;> simp [h, hp]
    · by_cases hp : 0 < x <;> simp [h, hp]
theorem labels_less (p : List (List Int)) (U : List Int) : labelsL (less p U) = (labelsL p).filter fun x => !inL U x := by
  unfold labelsL less
  induction p with
  | nil => rfl
  | cons x t ih => rw [List.map_cons, List.flatMap_cons, List.flatMap_cons, List.filter_append, ih, posL_zeroIn]
end Go.Proofs.Ytpimbibmlmjjpaa
