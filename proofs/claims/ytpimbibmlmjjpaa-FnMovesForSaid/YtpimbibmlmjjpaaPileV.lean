/-
  Lemmas and contracts of single functions of this program, used by the proofs of its laws: what each call returns and what becomes of memory. Conditions: the hypotheses of each theorem.
-/
import Derived.Test.YtpimbibmlmjjpaaPileCt
import Derived.Test.YtpimbibmlmjjpaaPut
namespace Go.Proofs.Ytpimbibmlmjjpaa
open Go.RowKit

theorem mem_posL_at {xs : List Int} {x : Int} (h : x ∈ posL xs) : ∃ i, i < xs.length ∧ gi xs i = x ∧ 0 < x := by
  unfold posL at h
  rw [List.mem_filter] at h
  obtain ⟨i, hi, e⟩ := List.getElem_of_mem h.1
  exact ⟨i, hi, by rw [gi_eq hi]; exact e, by simpa using h.2⟩
theorem gi_take {xs : List Int} {k i : Nat} (h : i < k) : gi (xs.take k) i = gi xs i := by
  unfold gi; simp [List.getD, h]
theorem gr_take {xs : List (List Int)} {k i : Nat} (h : i < k) : gr (xs.take k) i = gr xs i := by
  unfold gr; simp [List.getD, h]
theorem mem_seen_iff {p : List (List Int)} {r i : Nat} {x : Int} (hr : r < p.length) (h : x ∈ seen p r i) : ∃ r' i', r' < p.length ∧ i' < (gr p r').length ∧ cell p r' i' = x ∧ 0 < x ∧ (r' < r ∨ (r' = r ∧ i' < i)) := by
  unfold seen at h
  rcases List.mem_append.1 h with h | h
  · obtain ⟨r', i', h1, h2, h3, h4⟩ := mem_labels.1 h
    rw [List.length_take] at h1
    have e := gr_take (xs := p) (k := r) (i := r') (by omega)
    rw [e] at h2
    unfold cell at h3
    rw [e] at h3
    exact ⟨r', i', by omega, h2, h3, h4, .inl (by omega)⟩
  · obtain ⟨j, h1, h2, h3⟩ := mem_posL_at h
    rw [List.length_take] at h1
    rw [gi_take (by omega)] at h2
    exact ⟨r, j, hr, by omega, h2, h3, .inr ⟨rfl, by omega⟩⟩
/-- a pile is valid by its places alone -/
theorem valid_mk {p : List (List Int)} (h1 : p.length ≤ 6) (h2 : p.length = 0 ∨ (gr p 0).length ≤ 6) (h3 : ∀ r, r < p.length → (gr p r).length + r = (gr p 0).length ∧ (gr p r).length ≠ 0)
    (h4 : ∀ r i, r < p.length → i < (gr p r).length → 0 ≤ cell p r i ∧ cell p r i ≤ 9999 ∧ (0 < cell p r i → liesB p r i = true)) (h5 : Uniq p) : ValidP p := by
  refine ⟨h1, h2, fun r hr => ⟨(h3 r hr).1, (h3 r hr).2, fun i hi => ?_⟩⟩
  obtain ⟨a, b, c⟩ := h4 r i hr hi
  refine ⟨a, b, fun hp => ⟨?_, c hp⟩⟩
  rw [inL_false]
  intro hm
  obtain ⟨r', i', k1, k2, k3, k4, k5⟩ := mem_seen_iff hr hm
  have := h5.1 r i r' i' hr hi k1 k2 hp k3.symm
  omega
theorem valid_lies {p : List (List Int)} (hv : ValidP p) {r i : Nat} (hr : r < p.length) (hi : i < (gr p r).length) (hp : 0 < cell p r i) : liesB p r i = true := (((hv.2.2 r hr).2.2 i hi).2.2 hp).2
theorem lies_iff {p : List (List Int)} {r i : Nat} : liesB p r i = true ↔ r = 0 ∨ (cell p (r - 1) i ≠ 0 ∧ cell p (r - 1) (i + 1) ≠ 0) := by
  unfold liesB
  simp
theorem valid_up {p : List (List Int)} (hv : ValidP p) {r : Nat} (hr : r < p.length) (h0 : 0 < r) : (gr p (r - 1)).length = (gr p r).length + 1 := by
  have h1 := (hv.2.2 (r - 1) (by omega)).1
  have h3 := (hv.2.2 r hr).1
  omega
/-- U holds what lies above each of its labels -/
def UpA (p : List (List Int)) (U : List Int) : Prop := ∀ r i, r < p.length → i < (gr p r).length → 0 < cell p r i → cell p r i ∈ U → ∀ x ∈ aboveL p r i, x ∈ U
theorem less_valid {p : List (List Int)} (hv : ValidP p) {U : List Int} (hU : UpA p U) : ValidP (less p U) := by
  have hs := less_shape p U
  refine valid_mk (by rw [hs.1]; exact hv.1) (by rw [hs.1, hs.2]; exact hv.2.1) (fun r hr => ?_) (fun r i hr hi => ?_) (less_uniq (uniq_of_valid hv) U)
  · rw [hs.1] at hr
    rw [hs.2, hs.2]
    exact ⟨(hv.2.2 r hr).1, (hv.2.2 r hr).2.1⟩
  · rw [hs.1] at hr
    rw [hs.2] at hi
    obtain ⟨a, b, c⟩ := (hv.2.2 r hr).2.2 i hi
    rw [cell_less hr hi]
    by_cases hin : inL U (cell p r i) = true
    · rw [if_pos hin]; exact ⟨by omega, by omega, fun h => absurd h (by omega)⟩
    · rw [if_neg hin]
      refine ⟨a, b, fun hp => ?_⟩
      rcases lies_iff.1 (c hp).2 with h0 | ⟨k1, k2⟩
      · exact lies_iff.2 (.inl h0)
      · rcases Nat.eq_zero_or_pos r with h0 | h0
        · exact lies_iff.2 (.inl h0)
        · have hup := valid_up hv hr h0
          have n1 := valid_nonneg hv (r := r - 1) (i := i) (by omega) (by omega)
          have n2 := valid_nonneg hv (r := r - 1) (i := i + 1) (by omega) (by omega)
          refine lies_iff.2 (.inr ⟨?_, ?_⟩)
          · rw [cell_less (by omega) (by omega), if_neg]
            · exact k1
            · intro h
              rw [inL_iff] at h
              exact hin (inL_iff.2 (hU (r - 1) i (by omega) (by omega) (by omega) h _ (mem_aboveL.2 ⟨r, i, by omega, hr, by omega, by omega, hi, rfl, hp⟩)))
          · rw [cell_less (by omega) (by omega), if_neg]
            · exact k2
            · intro h
              rw [inL_iff] at h
              exact hin (inL_iff.2 (hU (r - 1) (i + 1) (by omega) (by omega) (by omega) h _ (mem_aboveL.2 ⟨r, i, by omega, hr, by omega, by omega, hi, rfl, hp⟩)))
theorem above_trans {p : List (List Int)} (hv : Uniq p) {r i a b : Nat} (ha : a < p.length) (hb : b < (gr p a).length) (h : cell p a b ∈ aboveL p r i) : ∀ x ∈ aboveL p a b, x ∈ aboveL p r i := by
  intro x hx
  obtain ⟨a', b', h1, h2, h3, h4, h5, h6, h7⟩ := mem_aboveL.1 h
  obtain ⟨rfl, rfl⟩ := hv.1 a' b' a b h2 h5 ha hb (by omega) h6
  obtain ⟨c, d, k1, k2, k3, k4, k5, k6, k7⟩ := mem_aboveL.1 hx
  exact mem_aboveL.2 ⟨c, d, by omega, k2, by omega, by omega, k5, k6, k7⟩
theorem cone_up {p : List (List Int)} (hv : Uniq p) {r i : Nat} : UpA p (coneL p r i) := by
  intro a b ha hb hp h x hx
  obtain ⟨a', b', h1, h2, h3, h4, h5, h6, h7⟩ := mem_coneL.1 h
  obtain ⟨rfl, rfl⟩ := hv.1 a' b' a b h2 h5 ha hb (by omega) h6
  obtain ⟨c, d, k1, k2, k3, k4, k5, k6, k7⟩ := mem_aboveL.1 hx
  exact mem_coneL.2 ⟨c, d, by omega, k2, by omega, by omega, k5, k6, k7⟩
theorem not_self_above {p : List (List Int)} (hv : Uniq p) {r i : Nat} (hr : r < p.length) (hi : i < (gr p r).length) (hp : 0 < cell p r i) : cell p r i ∉ aboveL p r i := by
  intro h
  obtain ⟨a, b, h1, h2, h3, h4, h5, h6, h7⟩ := mem_aboveL.1 h
  have := hv.1 a b r i h2 h5 hr hi (by omega) h6
  omega
/-- without a roll and all above it: a lessened pile -/
theorem take_less {p : List (List Int)} (hv : ValidP p) {r i : Nat} (hr : r < p.length) (hi : i < (gr p r).length) (hp : 0 < cell p r i) : withoutL p (cell p r i) = less p (coneL p r i) := by
  have := less_without (uniq_of_valid hv) (U := []) hr hi hp (by simp)
  rwa [less_nil, List.nil_append] at this
theorem row_nodup {p : List (List Int)} (hv : ValidP p) {r : Nat} (hr : r < p.length) : (posL (gr p r)).Nodup := by
  have h1 := labels_nodup hv
  have h2 : (posL (gr p r)).Sublist (labelsL p) := by
    unfold labelsL
    rw [gr_eq hr]
    have := List.sublist_flatten_of_mem (L := p.map posL) (l := posL p[r]) (List.mem_map.2 ⟨p[r], List.getElem_mem hr, rfl⟩)
    rw [List.flatMap_def]; exact this
  exact h1.sublist h2
theorem rowRest_nodup {p : List (List Int)} (hv : ValidP p) {r : Nat} (hr : r < p.length) (at_ i : Nat) : (rowRest p at_ r i).Nodup := by
  refine (row_nodup hv hr).sublist ?_
  unfold rowRest posL
  exact List.Sublist.filter _ ((List.take_sublist _ _).trans (List.drop_sublist _ _))
theorem coneGo_order {p : List (List Int)} (hv : ValidP p) {row at_ k : Nat} : ∀ n, row + k + n ≤ p.length → (coneGo p row at_ k n).Pairwise (fun a b => a ≠ b ∧ fndR p b ≤ fndR p a)
  | 0, _ => by simp [coneGo]
  | n + 1, h => by
    have hu := uniq_of_valid hv
    have hrow : ∀ x ∈ rowRest p at_ (row + k + n) (at_ - (k + n)), fndR p x = ((row + k + n : Nat) : Int) := by
      intro x hx
      obtain ⟨j, _, _, h3, h4, h5⟩ := mem_rowRest hx
      have := (uniq_fnd hu (r := row + k + n) (i := j) (by omega) h3 (by omega)).1
      rw [h4] at this; exact this
    have hrest : ∀ x ∈ coneGo p row at_ k n, ∃ m, m < n ∧ fndR p x = ((row + k + m : Nat) : Int) := by
      intro x hx
      obtain ⟨m, hm, hx⟩ := mem_coneGo hx
      obtain ⟨j, _, _, h3, h4, h5⟩ := mem_rowRest hx
      have := (uniq_fnd hu (r := row + k + m) (i := j) (by omega) h3 (by omega)).1
      rw [h4] at this; exact ⟨m, hm, this⟩
    rw [coneGo]
    refine List.pairwise_append.2 ⟨?_, coneGo_order hv n (by omega), fun a ha b hb => ?_⟩
    · refine List.Pairwise.imp_of_mem (R := fun a b => a ≠ b) (fun {a b} ha hb hne => ⟨hne, by rw [hrow a ha, hrow b hb]; exact Int.le_refl _⟩) (rowRest_nodup hv (by omega) _ _)
    · obtain ⟨m, hm, e⟩ := hrest b hb
      have e2 := hrow a ha
      exact ⟨fun h => by rw [h] at e2; omega, by omega⟩
theorem above_order {p : List (List Int)} (hv : ValidP p) {r i : Nat} (hr : r < p.length) : (aboveL p r i).Pairwise (fun a b => a ≠ b ∧ fndR p b ≤ fndR p a) := coneGo_order hv _ (by omega)
theorem above_nodup {p : List (List Int)} (hv : ValidP p) {r i : Nat} (hr : r < p.length) : (aboveL p r i).Nodup := (above_order hv hr).imp fun h => h.1
theorem cone_nodup {p : List (List Int)} (hv : ValidP p) {r i : Nat} (hr : r < p.length) : (coneL p r i).Nodup := (coneGo_order hv (k := 0) (p.length - r) (by omega)).imp fun h => h.1
/-- what lies above a roll that is taken comes first -/
theorem above_before {p : List (List Int)} (hv : ValidP p) {r i k : Nat} (hr : r < p.length) (hk : k < (aboveL p r i).length) {a b : Nat} (ha : a < p.length) (hb : b < (gr p a).length) (he : cell p a b = gi (aboveL p r i) k) :
    ∀ x ∈ aboveL p a b, x ∈ (aboveL p r i).take k := by
  intro x hx
  have hu := uniq_of_valid hv
  have hmem : cell p a b ∈ aboveL p r i := by rw [he]; exact gi_mem hk
  have hx2 := above_trans hu ha hb hmem x hx
  obtain ⟨j, hj, e⟩ := mem_gi hx2
  obtain ⟨c, d, k1, k2, k3, k4, k5, k6, k7⟩ := mem_aboveL.1 hx
  obtain ⟨c', d', m1, m2, m3, m4, m5, m6, m7⟩ := mem_aboveL.1 hmem
  have f1 := (uniq_fnd hu k2 k5 (by omega)).1
  have f2 := (uniq_fnd hu ha hb m7).1
  have ho := List.pairwise_iff_getElem.1 (above_order hv (i := i) hr)
  have hjk : j < k := by
    rcases Nat.lt_trichotomy j k with h | h | h
    · exact h
    · exfalso
      subst h
      rw [← he] at e
      rw [k6, ← e] at f1
      omega
    · exfalso
      have := (ho k j hk hj h).2
      rw [← gi_eq hk, ← gi_eq hj, e, ← he] at this
      rw [k6] at f1
      omega
  rw [← e]
  have : gi ((aboveL p r i).take k) j = gi (aboveL p r i) j := gi_take hjk
  rw [← this]
  exact gi_mem (by rw [List.length_take]; omega)
theorem mem_take_gi {L : List Int} {k : Nat} {x : Int} (h : x ∈ L.take k) : ∃ j, j < k ∧ j < L.length ∧ gi L j = x := by
  obtain ⟨j, hj, e⟩ := mem_gi h
  rw [List.length_take] at hj
  rw [gi_take (by omega)] at e
  exact ⟨j, by omega, by omega, e⟩
theorem take_up {p : List (List Int)} (hv : ValidP p) {r i k : Nat} (hr : r < p.length) : UpA p ((aboveL p r i).take k) := by
  intro a b ha hb hp h x hx
  obtain ⟨j, hj, hjl, e⟩ := mem_take_gi h
  have := above_before hv hr hjl ha hb e.symm x hx
  obtain ⟨j', h1, h2, h3⟩ := mem_take_gi this
  have e2 := gi_take (xs := aboveL p r i) (k := k) (i := j') (by omega)
  rw [← h3, ← e2]
  exact gi_mem (by rw [List.length_take]; omega)
/-- an empty place has nothing above it -/
theorem cone_zero {p : List (List Int)} (hv : ValidP p) {r i : Nat} (hz : cell p r i = 0) : ∀ (d r' j : Nat), r' = r + d → r' < p.length → i - d ≤ j → j ≤ i → j < (gr p r').length → i < (gr p r).length → cell p r' j = 0
  | 0, r', j, h1, _, h3, h4, _, _ => by
    obtain rfl : r' = r := by omega
    obtain rfl : j = i := by omega
    exact hz
  | d + 1, r', j, h1, h2, h3, h4, h5, h6 => by
    have hn := valid_nonneg hv h2 h5
    rcases Int.lt_or_eq_of_le hn with hp | he
    · exfalso
      have hup := valid_up hv h2 (by omega)
      rcases lies_iff.1 (valid_lies hv h2 h5 hp) with h0 | ⟨k1, k2⟩
      · omega
      · by_cases hj : i - d ≤ j
        · exact k1 (cone_zero hv hz d (r' - 1) j (by omega) (by omega) hj h4 (by omega) h6)
        · exact k2 (cone_zero hv hz d (r' - 1) (j + 1) (by omega) (by omega) (by omega) (by omega) (by omega) h6)
    · exact he.symm
theorem fnd_not {p : List (List Int)} {n : Int} (h : n ∉ labelsL p) (hn : 0 < n) : fndR p n < 0 := by
  rcases Int.lt_or_le (fndR p n) 0 with h1 | h1
  · exact h1
  · obtain ⟨r, i, _, _, h2, h3, h4⟩ := fnd_spec h1
    exact absurd (mem_labels.2 ⟨r, i, h2, h3, h4, hn⟩) h
theorem FR_iff {p : List (List Int)} (hv : ValidP p) {n : Int} : 0 ≤ FR p n ↔ n ∈ labelsL p := by
  constructor
  · intro h
    obtain ⟨r, i, _, _, hr, hi, he, _, hp, _⟩ := FR_spec h
    exact mem_labels.2 ⟨r, i, hr, hi, he, by omega⟩
  · intro h
    obtain ⟨r, i, hr, hi, he, hp⟩ := mem_labels.1 h
    have := (valid_FR hv hr hi (by omega)).1
    rw [he] at this
    omega
theorem vPile_of {p : List (List Int)} (h : ValidP p) : vPile p = true := by unfold vPile; exact decide_eq_true h
theorem okLabel_of {p : List (List Int)} (h : ValidP p) {n : Int} (h1 : 1 ≤ n) (h2 : n ≤ 9999) : okLabel p n = true := by unfold okLabel; rw [vPile_of h, inR_mk ⟨h1, h2⟩]; rfl
theorem labV_of {p : List (List Int)} (h : ValidP p) : labV p = labelsL p := by unfold labV; rw [if_pos (vPile_of h)]
end Go.Proofs.Ytpimbibmlmjjpaa
