/-
  Lemmas and contracts of single functions of this program, used by the proofs of its laws: what each call returns and what becomes of memory. Conditions: the hypotheses of each theorem.
-/
import Derived.Test.YtpimbibmlmjjpaaPileV
namespace Go.Proofs.Ytpimbibmlmjjpaa
open Go.RowKit

-- FnAboveOf: one roll after the other
theorem above_step {p : List (List Int)} (hv : ValidP p) {r i k : Nat} (hr : r < p.length) (hk : k < (aboveL p r i).length) :
    ValidP (less p ((aboveL p r i).take k)) ∧ gi (aboveL p r i) k ∈ labelsL (less p ((aboveL p r i).take k)) ∧ takeL (less p ((aboveL p r i).take k)) (gi (aboveL p r i) k) = less p ((aboveL p r i).take (k + 1)) ∧
      (labelsL (less p ((aboveL p r i).take k))).length = (labelsL (less p ((aboveL p r i).take (k + 1)))).length + 1 := by
  have hu := uniq_of_valid hv
  have hn := above_nodup hv (i := i) hr
  have hvq : ValidP (less p ((aboveL p r i).take k)) := less_valid hv (take_up hv hr)
  have hm : gi (aboveL p r i) k ∈ aboveL p r i := gi_mem hk
  have hU : gi (aboveL p r i) k ∉ (aboveL p r i).take k := by
    intro h
    obtain ⟨j, h1, h2, h3⟩ := mem_take_gi h
    have := gi_inj hn h2 hk h3
    omega
  have hl : gi (aboveL p r i) k ∈ labelsL p := above_labels hm
  have hq : gi (aboveL p r i) k ∈ labelsL (less p ((aboveL p r i).take k)) := less_label.2 ⟨hl, hU⟩
  obtain ⟨a, b, ha, hb, he, hp⟩ := mem_labels.1 hl
  have hf : freeB (less p ((aboveL p r i).take k)) (cell p a b) = true := (free_less hu ha hb (by omega) (by rw [he]; exact hU)).2 (above_before hv hr hk ha hb he)
  have hw := free_without hu ha hb (by omega) (by rw [he]; exact hU) hf (V := (aboveL p r i).take (k + 1)) (by
    intro x
    rw [take_gi hk, List.mem_append, List.mem_singleton, he])
  have hc := free_count hu (labels_nodup hv) ha hb (by omega) (by rw [he]; exact hU) hf
  rw [hw] at hc
  rw [he] at hw
  refine ⟨hvq, hq, ?_, hc⟩
  rw [takeL_eq, takeS, if_pos ((FR_iff hvq).2 hq), hw]
theorem above_end {p : List (List Int)} (hv : ValidP p) {r i : Nat} (hr : r < p.length) (hi : i < (gr p r).length) (hp : 0 < cell p r i) :
    0 ≤ FR (less p (aboveL p r i)) (cell p r i) ∧ abvL (less p (aboveL p r i)) (cell p r i) = [] := by
  have hu := uniq_of_valid hv
  have hvq : ValidP (less p (aboveL p r i)) := by
    have := less_valid hv (U := (aboveL p r i).take (aboveL p r i).length) (take_up hv hr)
    rwa [List.take_length] at this
  have hns := not_self_above hu hr hi hp
  have hs := less_shape p (aboveL p r i)
  have hc : cell (less p (aboveL p r i)) r i = cell p r i := by rw [cell_less hr hi, if_neg (by rw [inL_iff]; exact hns)]
  refine ⟨(FR_iff hvq).2 (less_label.2 ⟨mem_labels.2 ⟨r, i, hr, hi, rfl, hp⟩, hns⟩), ?_⟩
  have := abv_of hvq (r := r) (i := i) (by rw [hs.1]; exact hr) (by rw [hs.2]; exact hi) (by rw [hc]; exact hp)
  rw [hc] at this
  rw [this]
  refine List.eq_nil_iff_forall_not_mem.2 fun x hx => ?_
  have := mem_above_less.1 hx
  exact this.2 this.1

-- FnTakeRoll
theorem take_facts {p : List (List Int)} (hv : ValidP p) {n : Int} (hn : n ∈ labelsL p) :
    ValidP (takeL p n) ∧ (∀ x ∈ labelsL p, inL (labelsL (takeL p n)) x = !inL (abvL p n ++ [n]) x) ∧ (labelsL (takeL p n)).length + (abvL p n ++ [n]).length = (labelsL p).length := by
  have hu := uniq_of_valid hv
  have hF := (FR_iff hv).2 hn
  obtain ⟨r, i, hr, hi, rfl, hp⟩ := mem_labels.1 hn
  have e : takeL p (cell p r i) = less p (coneL p r i) := by rw [takeL_eq, takeS, if_pos hF, take_less hv hr hi hp]
  have ec : abvL p (cell p r i) ++ [cell p r i] = coneL p r i := by rw [abv_of hv hr hi hp, coneL_above hr hi hp]
  rw [e, ec]
  refine ⟨less_valid hv (cone_up hu), fun x hx => ?_, ?_⟩
  · cases h : inL (coneL p r i) x
    · rw [inL_iff.2 (less_label.2 ⟨hx, inL_false.1 h⟩)]; rfl
    · rw [inL_false.2 (fun hm => (less_label.1 hm).2 (inL_iff.1 h))]; rfl
  · have h1 : (coneL p r i).length = ((labelsL p).filter fun x => inL (coneL p r i) x).length := by
      refine (List.Perm.length_eq ((List.perm_ext_iff_of_nodup (cone_nodup hv hr) ((labels_nodup hv).filter _)).2 fun x => ?_))
      rw [List.mem_filter, inL_iff]
      refine ⟨fun h => ⟨?_, h⟩, fun h => h.2⟩
      obtain ⟨a, b, _, h2, _, _, h5, h6, h7⟩ := mem_coneL.1 h
      exact mem_labels.2 ⟨a, b, h2, h5, h6, h7⟩
    have hsplit : ∀ xs : List Int, (xs.filter fun x => inL (coneL p r i) x).length + (xs.filter fun x => !inL (coneL p r i) x).length = xs.length := by
      intro xs
      induction xs with
      | nil => rfl
      | cons x t ih =>
        rw [List.filter_cons, List.filter_cons]
        cases inL (coneL p r i) x <;> simp <;> omega
    have := hsplit (labelsL p)
    rw [labels_less, h1]; omega

-- PutRoll
theorem can_not {p : List (List Int)} {n : Int} (h : Can p n) : ValidP p ∧ 1 ≤ n ∧ n ≤ 9999 ∧ n ∉ labelsL p := by
  obtain ⟨h1, h2⟩ := h
  have h3 := h1
  unfold okLabel at h3
  rw [Bool.and_eq_true] at h3
  have hv := vPile_true h3.1
  have hr := inR_true h3.2
  refine ⟨hv, hr.1, hr.2, fun hm => ?_⟩
  have := (FR_iff hv).2 hm
  omega
theorem cell_no {p : List (List Int)} {n : Int} (hp : 0 < n) (h : n ∉ labelsL p) {r i : Nat} (hr : r < p.length) (hi : i < (gr p r).length) : cell p r i ≠ n :=
  fun e => h (mem_labels.2 ⟨r, i, hr, hi, e, hp⟩)
theorem cell_put {p : List (List Int)} {n : Int} {r i a b : Nat} (hr : r < p.length) (hi : i < (gr p r).length) : cell (set2 p r i n) a b = if r = a ∧ i = b then n else cell p a b := by
  rw [cell_set2]
  by_cases h : r = a ∧ i = b
  · rw [if_pos h, if_pos ⟨h.1, h.2, hr, hi⟩]
  · rw [if_neg h, if_neg (fun k => h ⟨k.1, k.2.1⟩)]
theorem put_valid {p : List (List Int)} {n : Int} {r i : Nat} (hc : Can p n) (hp : PutAt p r i) : ValidP (set2 p r i n) ∧ cell p r i = 0 := by
  obtain ⟨hv, h1, h2, h3⟩ := can_not hc
  obtain ⟨hr, hi, hf, _, _⟩ := hp
  have hu := uniq_of_valid hv
  have hs := set2_shape (SameShape.refl p) r i n
  unfold freeAt at hf
  rw [Bool.and_eq_true] at hf
  have hz : cell p r i = 0 := by simpa using hf.1
  have hl := lies_iff.1 hf.2
  refine ⟨valid_mk (by rw [hs.1]; exact hv.1) (by rw [hs.1, hs.2]; exact hv.2.1) (fun a ha => ?_) (fun a b ha hb => ?_) ⟨fun a b a' b' ha hb ha' hb' h0 he => ?_, fun a b ha hb => ?_⟩, hz⟩
  · rw [hs.1] at ha
    rw [hs.2, hs.2]
    exact ⟨(hv.2.2 a ha).1, (hv.2.2 a ha).2.1⟩
  · rw [hs.1] at ha
    rw [hs.2] at hb
    have hcell : ∀ a b, cell p a b ≠ 0 → cell (set2 p r i n) a b ≠ 0 := by
      intro a b h
      rw [cell_put hr hi]
      split
      · omega
      · exact h
    rw [cell_put hr hi]
    by_cases hab : r = a ∧ i = b
    · rw [if_pos hab]
      obtain ⟨rfl, rfl⟩ := hab
      refine ⟨by omega, by omega, fun _ => lies_iff.2 ?_⟩
      rcases hl with h0 | ⟨k1, k2⟩
      · exact .inl h0
      · exact .inr ⟨hcell _ _ k1, hcell _ _ k2⟩
    · rw [if_neg hab]
      obtain ⟨c1, c2, c3⟩ := (hv.2.2 a ha).2.2 b hb
      refine ⟨c1, c2, fun hpos => lies_iff.2 ?_⟩
      rcases lies_iff.1 (c3 hpos).2 with h0 | ⟨k1, k2⟩
      · exact .inl h0
      · exact .inr ⟨hcell _ _ k1, hcell _ _ k2⟩
  · rw [hs.1] at ha ha'
    rw [hs.2] at hb hb'
    rw [cell_put hr hi] at h0
    rw [cell_put hr hi, cell_put hr hi] at he
    by_cases hab : r = a ∧ i = b
    · rw [if_pos hab] at he
      by_cases hab' : r = a' ∧ i = b'
      · omega
      · rw [if_neg hab'] at he
        exact absurd he.symm (cell_no (by omega) h3 ha' hb')
    · rw [if_neg hab] at he h0
      by_cases hab' : r = a' ∧ i = b'
      · rw [if_pos hab'] at he
        exact absurd he (cell_no (by omega) h3 ha hb)
      · rw [if_neg hab'] at he
        exact hu.1 a b a' b' ha hb ha' hb' h0 he
  · rw [hs.1] at ha
    rw [hs.2] at hb
    rw [cell_put hr hi]
    split
    · omega
    · exact hu.2 a b ha hb
theorem zeroIn_nil (xs : List Int) : zeroIn [] xs = xs := by
  unfold zeroIn
  have : (fun x : Int => if inL [] x = true then 0 else x) = id := by funext x; simp [inL]
  rw [this, List.map_id]
theorem put_take {p : List (List Int)} {n : Int} {r i : Nat} (hc : Can p n) (hp : PutAt p r i) : 0 ≤ FR (set2 p r i n) n ∧ takeL (set2 p r i n) n = p ∧ abvL (set2 p r i n) n = [] := by
  obtain ⟨hvq, hz⟩ := put_valid hc hp
  obtain ⟨hv, h1, h2, h3⟩ := can_not hc
  obtain ⟨hr, hi, _, _, _⟩ := hp
  have hs := set2_shape (SameShape.refl p) r i n
  have hcn : cell (set2 p r i n) r i = n := by rw [cell_put hr hi, if_pos ⟨rfl, rfl⟩]
  have hr' : r < (set2 p r i n).length := by rw [hs.1]; exact hr
  have hi' : i < (gr (set2 p r i n) r).length := by rw [hs.2]; exact hi
  obtain ⟨f1, f2⟩ := valid_FR hvq hr' hi' (by omega)
  have ha := abv_of hvq hr' hi' (by omega)
  rw [hcn] at f1 f2 ha
  have hnil : aboveL (set2 p r i n) r i = [] := by
    refine List.eq_nil_iff_forall_not_mem.2 fun x hx => ?_
    obtain ⟨a, b, k1, k2, k3, k4, k5, k6, k7⟩ := mem_aboveL.1 hx
    rw [hs.1] at k2
    rw [hs.2] at k5
    rw [cell_put hr hi, if_neg (by omega)] at k6
    have := cone_zero hv hz (a - r) a b (by omega) k2 k3 k4 k5 hi
    omega
  rw [hnil] at ha
  refine ⟨by omega, ?_, ha⟩
  unfold takeL
  rw [if_pos (by omega), f1, f2, ha, Int.toNat_natCast, Int.toNat_natCast]
  have e : (set2 (set2 p r i n) r i 0).map (zeroIn []) = set2 (set2 p r i n) r i 0 := by
    rw [show zeroIn [] = id from funext zeroIn_nil, List.map_id]
  rw [e]
  have hs2 := set2_shape hs r i 0
  refine pile_ext (p := set2 (set2 p r i n) r i 0) (q := p) hs2 fun a b ha hb => ?_
  rw [hs2.1] at ha
  rw [hs2.2] at hb
  rw [cell_put hr' hi', cell_put hr hi]
  by_cases hab : r = a ∧ i = b
  · rw [if_pos hab, ← hab.1, ← hab.2, hz]
  · rw [if_neg hab, if_neg hab]

-- PutRoll again and again
theorem exists_least {P : Nat → Prop} : ∀ n, P n → ∃ m, P m ∧ ∀ k, k < m → ¬ P k := by
  intro n
  induction n using Nat.strongRecOn with
  | _ n ih =>
    intro hn
    by_cases h : ∃ k, k < n ∧ P k
    · obtain ⟨k, hk, hp⟩ := h
      exact ih k hk hp
    · exact ⟨n, hn, fun k hk hp => h ⟨k, hk, hp⟩⟩
theorem put_exists {p : List (List Int)} (hv : ValidP p) {r i : Nat} (hr : r < p.length) (hi : i < (gr p r).length) (hz : cell p r i = 0) : ∃ a b, PutAt p a b := by
  obtain ⟨a, ⟨ha, b, hb, hab⟩, hmin⟩ := exists_least (P := fun a => a < p.length ∧ ∃ b, b < (gr p a).length ∧ cell p a b = 0) r ⟨hr, i, hi, hz⟩
  have hfree : freeAt p a b = true := by
    unfold freeAt
    rw [hab]
    have : liesB p a b = true := by
      refine lies_iff.2 ?_
      rcases Nat.eq_zero_or_pos a with h0 | h0
      · exact .inl h0
      · have hup := valid_up hv ha h0
        have hm := hmin (a - 1) (by omega)
        refine .inr ⟨fun e => hm ⟨by omega, b, by omega, e⟩, fun e => hm ⟨by omega, b + 1, by omega, e⟩⟩
    rw [this]; rfl
  obtain ⟨a', ⟨ha', b', hb', hf'⟩, hmin'⟩ := exists_least (P := fun a => a < p.length ∧ ∃ b, b < (gr p a).length ∧ freeAt p a b = true) a ⟨ha, b, hb, hfree⟩
  obtain ⟨c, ⟨hc1, hc2⟩, hminc⟩ := exists_least (P := fun b => b < (gr p a').length ∧ freeAt p a' b = true) b' ⟨hb', hf'⟩
  refine ⟨a', c, ha', hc1, hc2, fun x hx y hy => ?_, fun y hy => ?_⟩
  · cases h : freeAt p x y
    · rfl
    · exact absurd ⟨by omega, y, hy, h⟩ (hmin' x hx)
  · cases h : freeAt p a' y
    · rfl
    · exact absurd ⟨by omega, h⟩ (hminc y hy)
theorem posL_full : ∀ xs : List Int, (posL xs).length = xs.length → ∀ x ∈ xs, 0 < x
  | [], _, x, hx => by cases hx
  | y :: t, h, x, hx => by
    unfold posL at h
    have hle := List.length_filter_le (fun x : Int => decide (0 < x)) t
    by_cases hy : 0 < y
    · rw [List.filter_cons, if_pos (by simpa using hy), List.length_cons, List.length_cons] at h
      rcases List.mem_cons.1 hx with rfl | hx
      · exact hy
      · exact posL_full t (by unfold posL; omega) x hx
    · rw [List.filter_cons, if_neg (by simpa using hy), List.length_cons] at h
      omega
theorem labels_full : ∀ p : List (List Int), (labelsL p).length = tot p → ∀ r ∈ p, (posL r).length = r.length
  | [], _, r, hr => by cases hr
  | y :: t, h, r, hr => by
    have h1 := labelsL_len t
    have h2 : (posL y).length ≤ y.length := List.length_filter_le _ _
    have e1 : (labelsL (y :: t)).length = (posL y).length + (labelsL t).length := by simp [labelsL]
    have e2 : tot (y :: t) = y.length + tot t := by simp [tot]
    rcases List.mem_cons.1 hr with rfl | hr
    · omega
    · exact labels_full t (by omega) r hr
theorem full_pos {p : List (List Int)} (h : (labelsL p).length = tot p) {r i : Nat} (hr : r < p.length) (hi : i < (gr p r).length) : 0 < cell p r i := by
  have h1 := labels_full p h (gr p r) (by rw [gr_eq hr]; exact List.getElem_mem hr)
  exact posL_full _ h1 _ (by unfold cell; exact gi_mem hi)
theorem pos_full' : ∀ p : List (List Int), (∀ r ∈ p, ∀ x ∈ r, 0 < x) → (labelsL p).length = tot p
  | [], _ => rfl
  | y :: t, h => by
    have ih := pos_full' t fun r hr => h r (List.mem_cons_of_mem _ hr)
    have e1 : (labelsL (y :: t)).length = (posL y).length + (labelsL t).length := by simp [labelsL]
    have e2 : tot (y :: t) = y.length + tot t := by simp [tot]
    have e3 : posL y = y := by
      unfold posL
      exact List.filter_eq_self.2 fun x hx => by simpa using h y List.mem_cons_self x hx
    rw [e1, e2, e3, ih]
theorem zero_exists {p : List (List Int)} (hv : ValidP p) (h : (labelsL p).length < tot p) : ∃ r i, r < p.length ∧ i < (gr p r).length ∧ cell p r i = 0 := by
  apply Classical.byContradiction
  intro hno
  have : (labelsL p).length = tot p := by
    refine pos_full' p fun row hrow x hx => ?_
    obtain ⟨r, hr, rfl⟩ := List.getElem_of_mem hrow
    obtain ⟨i, hi, rfl⟩ := List.getElem_of_mem hx
    have e := gr_eq hr
    have hi' : i < (gr p r).length := by rw [e]; exact hi
    have hn := valid_nonneg hv hr hi'
    have hc : cell p r i = p[r][i] := by unfold cell; rw [gi_eq hi']; simp [e]
    rcases Int.lt_or_eq_of_le hn with h1 | h1
    · rw [← hc]; exact h1
    · exact absurd ⟨r, i, hr, hi', h1.symm⟩ hno
  omega
theorem nodup_le : ∀ (A B : List Int), A.Nodup → (∀ x ∈ A, x ∈ B) → A.length ≤ B.length
  | [], _, _, _ => Nat.zero_le _
  | a :: t, B, hn, hs => by
    rw [List.nodup_cons] at hn
    have ha := hs a List.mem_cons_self
    have := nodup_le t (B.erase a) hn.2 fun x hx => (List.mem_erase_of_ne (fun e => hn.1 (by rw [← e]; exact hx))).2 (hs x (List.mem_cons_of_mem _ hx))
    rw [List.length_erase_of_mem ha] at this
    have : 0 < B.length := List.length_pos_iff.2 (List.ne_nil_of_mem ha)
    rw [List.length_cons]; omega
/-- all numbers up to k are labels -/
def HasUp (p : List (List Int)) (k : Nat) : Prop := ∀ j : Nat, 1 ≤ j → j ≤ k → (j : Int) ∈ labelsL p
theorem hasUp_le {p : List (List Int)} {k : Nat} (h : HasUp p k) : k ≤ (labelsL p).length := by
  have := nodup_le ((List.range k).map fun j => ((j + 1 : Nat) : Int)) (labelsL p) ?_ ?_
  · simpa using this
  · exact List.Pairwise.map (R := fun a b : Nat => a ≠ b) _ (fun a b hab => by intro e; apply hab; omega) List.nodup_range
  · intro x hx
    obtain ⟨j, hj, rfl⟩ := List.mem_map.1 hx
    rw [List.mem_range] at hj
    exact h (j + 1) (by omega) (by omega)
theorem put_labels {p : List (List Int)} {n : Int} {r i : Nat} (hc : Can p n) (hp : PutAt p r i) : n ∈ labelsL (set2 p r i n) ∧ ∀ x ∈ labelsL p, x ∈ labelsL (set2 p r i n) := by
  obtain ⟨hvq, hz⟩ := put_valid hc hp
  obtain ⟨hv, h1, h2, h3⟩ := can_not hc
  obtain ⟨hr, hi, _, _, _⟩ := hp
  have hs := set2_shape (SameShape.refl p) r i n
  refine ⟨mem_labels.2 ⟨r, i, by rw [hs.1]; exact hr, by rw [hs.2]; exact hi, by rw [cell_put hr hi, if_pos ⟨rfl, rfl⟩], by omega⟩, fun x hx => ?_⟩
  obtain ⟨a, b, ha, hb, he, hp0⟩ := mem_labels.1 hx
  refine mem_labels.2 ⟨a, b, by rw [hs.1]; exact ha, by rw [hs.2]; exact hb, ?_, hp0⟩
  rw [cell_put hr hi, if_neg]
  · exact he
  · rintro ⟨rfl, rfl⟩; omega
/-- one round: what PutRoll of the next number does -/
theorem put_round {p : List (List Int)} (hv : ValidP p) {k : Nat} (hk : k + 1 ≤ 9999) (hu : HasUp p k) (hlt : (labelsL p).length < tot p) {q : List (List Int)} {b : Bool} (h : PutRel p ((k + 1 : Nat) : Int) q b) :
    (b = false ∧ HasUp p (k + 1)) ∨ (b = true ∧ ValidP q ∧ SameShape q p ∧ HasUp q (k + 1)) := by
  rcases h with ⟨rfl, hc, r, i, hp, rfl⟩ | ⟨rfl, rfl, hno⟩
  · obtain ⟨hvq, _⟩ := put_valid hc hp
    obtain ⟨l1, l2⟩ := put_labels hc hp
    refine .inr ⟨rfl, hvq, set2_shape (SameShape.refl p) r i _, fun j h1 h2 => ?_⟩
    rcases Nat.lt_or_ge j (k + 1) with h3 | h3
    · exact l2 _ (hu j h1 (by omega))
    · obtain rfl : j = k + 1 := by omega
      exact l1
  · refine .inl ⟨rfl, fun j h1 h2 => ?_⟩
    rcases Nat.lt_or_ge j (k + 1) with h3 | h3
    · exact hu j h1 (by omega)
    · obtain rfl : j = k + 1 := by omega
      apply Classical.byContradiction
      intro hnot
      obtain ⟨r, i, hr, hi, hz⟩ := zero_exists hv hlt
      obtain ⟨a, c, hab⟩ := put_exists hv hr hi hz
      rcases hno with hno | hno
      · refine hno ⟨okLabel_of hv (by omega) (by omega), ?_⟩
        rcases Int.lt_or_le (FR p ((k + 1 : Nat) : Int)) 0 with h | h
        · exact h
        · exact absurd ((FR_iff hv).1 h) hnot
      · exact hno a c hab
theorem put_full {p : List (List Int)} (h : tot p ≤ (labelsL p).length) {n : Int} {q : List (List Int)} {b : Bool} (hp : PutRel p n q b) : b = false := by
  rcases hp with ⟨rfl, hc, r, i, hp, rfl⟩ | ⟨rfl, _, _⟩
  · have hz := (put_valid hc hp).2
    have h2 := labelsL_len p
    have := full_pos (p := p) (by omega) hp.1 hp.2.1
    omega
  · rfl
end Go.Proofs.Ytpimbibmlmjjpaa
