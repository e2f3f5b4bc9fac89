/-
  Lemmas and contracts of single functions of this program, used by the proofs of its laws: what each call returns and what becomes of memory. Conditions: the hypotheses of each theorem.
-/
import Derived.Test.YtpimbibmlmjjpaaPilePlain
namespace Go.Proofs.Ytpimbibmlmjjpaa

theorem inL_iff {xs : List Int} {n : Int} : inL xs n = true ↔ n ∈ xs := by simp [inL]
theorem inL_false {xs : List Int} {n : Int} : inL xs n = false ↔ n ∉ xs := by
  rw [← inL_iff]; cases inL xs n <;> simp
theorem ints_ext {xs ys : List Int} (h : xs.length = ys.length) (hi : ∀ i, i < xs.length → gi xs i = gi ys i) : xs = ys := by
  apply List.ext_getElem h
  intro i h1 h2
  have := hi i h1
  rw [gi_eq h1, gi_eq h2] at this
  exact this
theorem pile_ext {p q : List (List Int)} (h : SameShape p q) (hc : ∀ r i, r < p.length → i < (gr p r).length → cell p r i = cell q r i) : p = q := by
  apply List.ext_getElem h.1
  intro r h1 h2
  rw [← gr_eq h1, ← gr_eq h2]
  exact ints_ext (h.2 r) fun i hi => hc r i h1 hi
theorem gi_set {xs : List Int} {i j : Nat} {x : Int} : gi (xs.set i x) j = if i = j ∧ i < xs.length then x else gi xs j := by
  unfold gi
  rw [List.getD_eq_getElem?_getD, List.getD_eq_getElem?_getD, List.getElem?_set]
  by_cases h : i = j
  · subst h
    by_cases h2 : i < xs.length <;> simp [h2]
  · simp [h]
theorem cell_set2 {q : List (List Int)} {r i r' i' : Nat} {x : Int} : cell (set2 q r i x) r' i' = if r = r' ∧ i = i' ∧ r < q.length ∧ i < (gr q r).length then x else cell q r' i' := by
  unfold cell
  by_cases h : r = r'
  · subst h
    by_cases h2 : r < q.length
    · rw [gr_set2_eq h2, gi_set]
      by_cases h3 : i = i' <;> by_cases h4 : i < (gr q r).length <;> simp [h2, h3, h4]
    · have : set2 q r i x = q := by unfold set2; exact List.set_eq_of_length_le (by omega)
      rw [this]; simp [h2]
  · rw [gr_set2_ne h]; simp [h]
theorem gr_map {q : List (List Int)} {f : List Int → List Int} {r : Nat} (h : r < q.length) : gr (q.map f) r = f (gr q r) := by
  unfold gr; simp [h]
theorem gi_map {xs : List Int} {f : Int → Int} {i : Nat} (h : i < xs.length) : gi (xs.map f) i = f (gi xs i) := by
  unfold gi; simp [h]
theorem cell_zeroIn {q : List (List Int)} {L : List Int} {r i : Nat} (h : r < q.length) (hi : i < (gr q r).length) : cell (q.map (zeroIn L)) r i = if inL L (cell q r i) = true then 0 else cell q r i := by
  unfold cell
  rw [gr_map h]
  unfold zeroIn
  rw [gi_map hi]
theorem map_shape {q p : List (List Int)} (h : SameShape q p) (L : List Int) : SameShape (q.map (zeroIn L)) p := by
  refine ⟨by rw [List.length_map, h.1], fun r => ?_⟩
  by_cases hr : r < q.length
  · rw [gr_map hr, zeroIn, List.length_map, h.2]
  · rw [← h.2]
    unfold gr
    rw [List.getD_eq_getElem?_getD, List.getD_eq_getElem?_getD, List.getElem?_eq_none (by simp; omega), List.getElem?_eq_none (by omega)]

theorem mem_posL {xs : List Int} {i : Nat} (h : i < xs.length) (hp : 0 < gi xs i) : gi xs i ∈ posL xs := by
  unfold posL; rw [List.mem_filter]
  exact ⟨by rw [gi_eq h]; exact List.getElem_mem h, by simpa using hp⟩
theorem mem_seen {p : List (List Int)} {r i r' i' : Nat} (hr : r < p.length) (hr' : r' < p.length) (hi' : i' < (gr p r').length) (hp : 0 < cell p r' i') (h : r' < r ∨ (r' = r ∧ i' < i)) : cell p r' i' ∈ seen p r i := by
  unfold seen
  rw [List.mem_append]
  rcases h with h | ⟨rfl, h⟩
  · left
    unfold labelsL
    rw [List.mem_flatMap]
    refine ⟨gr p r', ?_, mem_posL hi' hp⟩
    rw [gr_eq hr', List.mem_iff_getElem]
    exact ⟨r', by simp; omega, by rw [List.getElem_take]⟩
  · right
    have h1 : i' < ((gr p r').take i).length := by rw [List.length_take]; omega
    have h2 : gi ((gr p r').take i) i' = cell p r' i' := by unfold cell; rw [gi_eq h1, List.getElem_take, gi_eq hi']
    rw [← h2]
    exact mem_posL h1 (by rw [h2]; exact hp)
/-- no label twice -/
theorem valid_unique {p : List (List Int)} (hv : ValidP p) {r i r' i' : Nat} (hr : r < p.length) (hi : i < (gr p r).length) (hr' : r' < p.length) (hi' : i' < (gr p r').length) (hp : 0 < cell p r i) (he : cell p r i = cell p r' i') : r = r' ∧ i = i' := by
  have key : ∀ {a b c d : Nat}, a < p.length → b < (gr p a).length → c < p.length → d < (gr p c).length → 0 < cell p a b → cell p a b = cell p c d → ¬ (c < a ∨ (c = a ∧ d < b)) := by
    intro a b c d ha hb hc hd hpos heq hlt
    have h1 := ((hv.2.2 a ha).2.2 b hb).2.2 hpos
    have h2 := mem_seen (i := b) ha hc hd (by omega) hlt
    rw [← heq] at h2
    rw [inL_iff.2 h2] at h1
    cases h1.1
  have k1 := key hr hi hr' hi' hp he
  have k2 := key hr' hi' hr hi (by omega) he.symm
  omega
theorem valid_nonneg {p : List (List Int)} (hv : ValidP p) {r i : Nat} (hr : r < p.length) (hi : i < (gr p r).length) : 0 ≤ cell p r i := ((hv.2.2 r hr).2.2 i hi).1
theorem valid_fnd {p : List (List Int)} (hv : ValidP p) {r i : Nat} (hr : r < p.length) (hi : i < (gr p r).length) (hp : 0 < cell p r i) : fndR p (cell p r i) = r ∧ fndC p (cell p r i) = i := by
  obtain ⟨r', i', h1, h2, h3, h4, h5⟩ := fnd_spec (fnd_some hr hi)
  have := valid_unique hv hr hi h3 h4 hp h5.symm
  rw [h1, h2]; omega
theorem valid_FR {p : List (List Int)} (hv : ValidP p) {r i : Nat} (hr : r < p.length) (hi : i < (gr p r).length) (hp : 0 < cell p r i) : FR p (cell p r i) = r ∧ FC p (cell p r i) = i := by
  have h := valid_fnd hv hr hi hp
  have hok : okLabel p (cell p r i) = true := by
    have h9 := ((hv.2.2 r hr).2.2 i hi).2.1
    simp [okLabel, vPile, hv, inR_mk (lo := 1) (hi := 9999) (n := cell p r i) ⟨by omega, h9⟩]
  unfold FR FC
  rw [if_pos hok, if_pos hok]; exact h

theorem cell_zaps {p : List (List Int)} (hv : ValidP p) : ∀ (L : List Int) (q : List (List Int)), SameShape q p → (∀ l ∈ L, ∃ r i, r < p.length ∧ i < (gr p r).length ∧ cell p r i = l ∧ 0 < l) →
    ∀ r i, r < p.length → i < (gr p r).length → cell (L.foldl (zap p) q) r i = if inL L (cell p r i) = true then 0 else cell q r i
  | [], q, _, _, r, i, _, _ => by simp [inL]
  | l :: t, q, hs, hL, r, i, hr, hi => by
    rw [List.foldl_cons, cell_zaps hv t (zap p q l) (set2_shape hs _ _ _) (fun l' h' => hL l' (List.mem_cons_of_mem _ h')) r i hr hi, inL_cons]
    obtain ⟨a, b, ha, hb, hab, hp⟩ := hL l List.mem_cons_self
    obtain ⟨e1, e2⟩ := valid_fnd hv ha hb (by omega)
    rw [hab] at e1 e2
    unfold zap
    rw [e1, e2, cell_set2]
    by_cases hc : cell p r i = l
    · obtain ⟨rfl, rfl⟩ := valid_unique hv hr hi ha hb (by omega) (by omega)
      simp [hc, hs.1, hs.2, hr, hi]
    · have h1 : ¬ (a = r ∧ b = i) := by
        rintro ⟨rfl, rfl⟩; exact hc hab
      have h2 : ¬ ((a : Int).toNat = r ∧ (b : Int).toNat = i ∧ (a : Int).toNat < q.length ∧ (b : Int).toNat < (gr q (a : Int).toNat).length) := by
        rintro ⟨h3, h4, _⟩; exact h1 ⟨by omega, by omega⟩
      rw [if_neg h2]
      have h3 : (l == cell p r i) = false := by simp; omega
      rw [h3, Bool.false_or]
theorem cell_withoutL {p : List (List Int)} (hv : ValidP p) {n : Int} {r i : Nat} (hr : r < p.length) (hi : i < (gr p r).length) :
    cell (withoutL p n) r i = if inL (coneL p (fndR p n).toNat (fndC p n).toNat) (cell p r i) = true then 0 else cell p r i := by
  unfold withoutL
  refine cell_zaps hv _ p (SameShape.refl p) (fun l hl => ?_) r i hr hi
  obtain ⟨a, b, _, h2, _, _, h5, h6, h7⟩ := mem_coneL.1 hl
  exact ⟨a, b, h2, h5, h6, h7⟩
theorem withoutL_shape (p : List (List Int)) (n : Int) : SameShape (withoutL p n) p := zap_shape p _ _ (SameShape.refl p)

theorem takeL_eq (p : List (List Int)) (n : Int) : takeL p n = takeS p n := by
  unfold takeL takeS
  by_cases h : 0 ≤ FR p n
  · rw [if_pos h, if_pos h]
    obtain ⟨row, at_, hR, hC, hrow, hat, hcel, hv, hn1, hn2⟩ := FR_spec h
    obtain ⟨e1, e2⟩ := valid_fnd hv hrow hat (by omega)
    rw [hcel] at e1 e2
    have hs1 : SameShape (set2 p row at_ 0) p := set2_shape (SameShape.refl p) _ _ _
    have hs2 := map_shape hs1 (abvL p n)
    have habv : abvL p n = aboveL p row at_ := by rw [abvL, if_pos h, hR, hC]; rfl
    rw [hR, hC]
    show (set2 p row at_ 0).map (zeroIn (abvL p n)) = withoutL p n
    have hws := withoutL_shape p n
    refine pile_ext ⟨by rw [hs2.1, hws.1], fun r => by rw [hs2.2, hws.2]⟩ fun r i hr hi => ?_
    rw [hs2.1] at hr
    rw [hs2.2] at hi
    rw [cell_zeroIn (by rw [hs1.1]; exact hr) (by rw [hs1.2]; exact hi), cell_withoutL hv hr hi, e1, e2, habv]
    show _ = if inL (coneL p row at_) (cell p r i) = true then 0 else cell p r i
    rw [coneL_above hrow hat (by omega)]
    by_cases hc : row = r ∧ at_ = i
    · obtain ⟨rfl, rfl⟩ := hc
      have h0 : inL (aboveL p row at_ ++ [cell p row at_]) (cell p row at_) = true := inL_iff.2 (by simp)
      have h1 : cell (set2 p row at_ 0) row at_ = 0 := by rw [cell_set2, if_pos ⟨rfl, rfl, hrow, hat⟩]
      rw [if_pos h0, h1]
      simp
    · have h2 : cell (set2 p row at_ 0) r i = cell p r i := by rw [cell_set2, if_neg (fun hh => hc ⟨hh.1, hh.2.1⟩)]
      have h1 : inL (aboveL p row at_ ++ [cell p row at_]) (cell p r i) = inL (aboveL p row at_) (cell p r i) := by
        unfold inL
        rw [List.any_append]
        have : (cell p row at_ == cell p r i) = false := by
          rw [beq_eq_false_iff_ne]; intro e
          exact hc (valid_unique hv hrow hat hr hi (by omega) e)
        simp [this]
      rw [h1, h2]
  · rw [if_neg h, if_neg h]
end Go.Proofs.Ytpimbibmlmjjpaa
