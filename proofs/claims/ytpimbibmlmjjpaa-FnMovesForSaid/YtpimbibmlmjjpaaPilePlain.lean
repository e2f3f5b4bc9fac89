/-
  Lemmas and contracts of single functions of this program, used by the proofs of its laws: what each call returns and what becomes of memory. Conditions: the hypotheses of each theorem.
-/
import Derived.Test.YtpimbibmlmjjpaaOwn
namespace Go.Proofs.Ytpimbibmlmjjpaa

def posL (xs : List Int) : List Int := xs.filter (0 < ·)
def labelsL (xss : List (List Int)) : List Int := xss.flatMap posL
theorem labelsL_len (xss : List (List Int)) : (labelsL xss).length ≤ tot xss := by
  unfold labelsL tot posL
  induction xss with
  | nil => simp
  | cons x t ih => have := List.length_filter_le (fun x : Int => decide (0 < x)) x; simp only [List.flatMap_cons, List.length_append, List.map_cons, List.sum_cons]; omega
theorem posL_len (xs : List Int) (j : Nat) : (posL (xs.take j)).length ≤ j := by
  have := List.length_filter_le (fun x : Int => decide (0 < x)) (xs.take j)
  unfold posL; simp at this ⊢; omega
theorem posL_take {xs : List Int} {j : Nat} (h : j < xs.length) : posL (xs.take (j + 1)) = if 0 < gi xs j then posL (xs.take j) ++ [gi xs j] else posL (xs.take j) := by
  rw [take_gi h]; unfold posL; rw [List.filter_append]
  by_cases hp : 0 < gi xs j <;> simp [hp]
theorem labelsL_take {xss : List (List Int)} {k : Nat} (h : k < xss.length) : labelsL (xss.take (k + 1)) = labelsL (xss.take k) ++ posL (gr xss k) := by
  rw [take_gr h]; simp [labelsL]

def cell (p : List (List Int)) (r i : Nat) : Int := gi (gr p r) i
def liesB (p : List (List Int)) (r i : Nat) : Bool := decide (r = 0) || (!(cell p (r - 1) i == 0) && !(cell p (r - 1) (i + 1) == 0))
def seen (p : List (List Int)) (r i : Nat) : List Int := labelsL (p.take r) ++ posL ((gr p r).take i)
def CellOk (p : List (List Int)) (r i : Nat) : Prop := 0 ≤ cell p r i ∧ cell p r i ≤ 9999 ∧ (0 < cell p r i → inL (seen p r i) (cell p r i) = false ∧ liesB p r i = true)
def RowOk (p : List (List Int)) (r : Nat) : Prop := (gr p r).length + r = (gr p 0).length ∧ (gr p r).length ≠ 0 ∧ ∀ i, i < (gr p r).length → CellOk p r i
def ValidP (p : List (List Int)) : Prop := p.length ≤ 6 ∧ (p.length = 0 ∨ (gr p 0).length ≤ 6) ∧ ∀ r, r < p.length → RowOk p r
instance (p : List (List Int)) (r i : Nat) : Decidable (CellOk p r i) := by unfold CellOk; infer_instance
instance (p : List (List Int)) (r : Nat) : Decidable (RowOk p r) := by unfold RowOk; infer_instance
instance (p : List (List Int)) : Decidable (ValidP p) := by unfold ValidP; infer_instance
def vPile (p : List (List Int)) : Bool := decide (ValidP p)
theorem vPile_true {p : List (List Int)} (h : vPile p = true) : ValidP p := by simpa [vPile] using h
theorem vPile_row {p : List (List Int)} {r : Nat} (h : r < p.length) (hn : ¬ RowOk p r) : vPile p = false := by
  unfold vPile; simp; intro hv; exact hn (hv.2.2 r h)
theorem vPile_cell {p : List (List Int)} {r i : Nat} (h : r < p.length) (hi : i < (gr p r).length) (hn : ¬ CellOk p r i) : vPile p = false :=
  vPile_row h fun hr => hn (hr.2.2 i hi)
theorem vPile_end {p : List (List Int)} (h : ∀ r, r < p.length → RowOk p r) : vPile p = (decide (p.length ≤ 6) && (decide (p.length = 0) || decide ((gr p 0).length ≤ 6))) := by
  unfold vPile ValidP
  by_cases h1 : p.length ≤ 6 <;> by_cases h2 : p.length = 0 <;> by_cases h3 : (gr p 0).length ≤ 6 <;> simp [h1, h2, h3] <;> first | exact h | (intro r hr; exact h r (by omega)) | skip
theorem seen_zero (p : List (List Int)) (r : Nat) : seen p r 0 = labelsL (p.take r) := by simp [seen, posL]
theorem seen_row {p : List (List Int)} {r i : Nat} (h : r < p.length) (hi : (gr p r).length ≤ i) : seen p r i = labelsL (p.take (r + 1)) := by
  rw [labelsL_take h, seen, List.take_of_length_le hi]
theorem seen_succ {p : List (List Int)} {r i : Nat} (hi : i < (gr p r).length) : seen p r (i + 1) = if 0 < cell p r i then seen p r i ++ [cell p r i] else seen p r i := by
  unfold seen cell
  rw [posL_take hi]
  by_cases hp : 0 < gi (gr p r) i <;> simp [hp]
theorem seen_len {p : List (List Int)} {r i : Nat} (h : r < p.length) (hi : i ≤ (gr p r).length) : (seen p r i).length ≤ tot p := by
  unfold seen
  rw [List.length_append]
  have h1 := labelsL_len (p.take r)
  have h2 := posL_len (gr p r) i
  have h3 := tot_take h
  omega

/-- the rolls of row r in the cone over a place: from index i on -/
def rowRest (p : List (List Int)) (at_ r i : Nat) : List Int := posL (((gr p r).drop i).take (at_ + 1 - i))
/-- rows row + k .. row + k + n - 1 of the cone, the highest first -/
def coneGo (p : List (List Int)) (row at_ k : Nat) : Nat → List Int
  | 0 => []
  | n + 1 => rowRest p at_ (row + k + n) (at_ - (k + n)) ++ coneGo p row at_ k n
def coneL (p : List (List Int)) (row at_ : Nat) : List Int := coneGo p row at_ 0 (p.length - row)
def aboveL (p : List (List Int)) (row at_ : Nat) : List Int := coneGo p row at_ 1 (p.length - row - 1)
theorem rowRest_step {p : List (List Int)} {at_ r i : Nat} (h1 : i ≤ at_) (h2 : i < (gr p r).length) :
    rowRest p at_ r i = if 0 < cell p r i then cell p r i :: rowRest p at_ r (i + 1) else rowRest p at_ r (i + 1) := by
  unfold rowRest posL cell
  rw [drop_gi h2, show at_ + 1 - i = (at_ + 1 - (i + 1)) + 1 by omega, List.take_succ_cons]
  by_cases hp : 0 < gi (gr p r) i <;> simp [hp]
theorem rowRest_end {p : List (List Int)} {at_ r i : Nat} (h : at_ < i ∨ (gr p r).length ≤ i) : rowRest p at_ r i = [] := by
  unfold rowRest
  rcases h with h | h
  · rw [show at_ + 1 - i = 0 by omega]; simp [posL]
  · rw [drop_end h]; simp [posL]
theorem rowRest_len (p : List (List Int)) (at_ r i : Nat) : (rowRest p at_ r i).length ≤ (gr p r).length := by
  unfold rowRest posL
  refine Nat.le_trans (List.length_filter_le _ _) ?_
  simp; omega
theorem coneGo_len {p : List (List Int)} {row at_ k : Nat} : ∀ n, row + k + n ≤ p.length → (coneGo p row at_ k n).length + tot (p.take (row + k)) ≤ tot (p.take (row + k + n))
  | 0, _ => by simp [coneGo]
  | n + 1, h => by
    have ih := coneGo_len (p := p) (row := row) (at_ := at_) (k := k) n (by omega)
    have h1 := rowRest_len p at_ (row + k + n) (at_ - (k + n))
    have h2 := tot_succ (xss := p) (k := row + k + n) (by omega)
    rw [coneGo, List.length_append, ← Nat.add_assoc, h2]
    omega
theorem tot_append (a b : List (List Int)) : tot (a ++ b) = tot a + tot b := by simp [tot]
theorem tot_take_le (p : List (List Int)) (k : Nat) : tot (p.take k) ≤ tot p := by
  have h : tot p = tot (p.take k) + tot (p.drop k) := by rw [← tot_append, List.take_append_drop]
  omega
theorem coneL_len {p : List (List Int)} {row at_ : Nat} (h : row ≤ p.length) : (coneL p row at_).length ≤ tot p := by
  have h1 := coneGo_len (p := p) (row := row) (at_ := at_) (k := 0) (p.length - row) (by omega)
  have h2 := tot_take_le p (row + 0 + (p.length - row))
  unfold coneL; omega
theorem aboveL_len {p : List (List Int)} {row at_ : Nat} (h : row < p.length) : (aboveL p row at_).length ≤ tot p := by
  have h1 := coneGo_len (p := p) (row := row) (at_ := at_) (k := 1) (p.length - row - 1) (by omega)
  have h2 := tot_take_le p (row + 1 + (p.length - row - 1))
  unfold aboveL; omega
theorem coneGo_snoc (p : List (List Int)) (row at_ : Nat) : ∀ n, coneGo p row at_ 0 (n + 1) = coneGo p row at_ 1 n ++ rowRest p at_ row at_
  | 0 => by simp [coneGo]
  | n + 1 => by
    rw [coneGo, coneGo_snoc p row at_ n, coneGo, List.append_assoc]
    rw [show row + 0 + (n + 1) = row + 1 + n by omega, show 0 + (n + 1) = 1 + n by omega]
theorem coneL_above {p : List (List Int)} {row at_ : Nat} (h : row < p.length) (h2 : at_ < (gr p row).length) (h3 : 0 < cell p row at_) : coneL p row at_ = aboveL p row at_ ++ [cell p row at_] := by
  unfold coneL aboveL
  rw [show p.length - row = (p.length - row - 1) + 1 by omega, coneGo_snoc, rowRest_step (Nat.le_refl _) h2, if_pos h3, rowRest_end (.inl (by omega))]
  rfl

theorem plcFrom_spec (n : Int) : ∀ (xs : List Int) (k : Nat), 0 ≤ plcFrom xs n k → ∃ i, plcFrom xs n k = ((k + i : Nat) : Int) ∧ i < xs.length ∧ gi xs i = n
  | [], k, h => by simp [plcFrom] at h
  | x :: t, k, h => by
    rw [plcFrom] at h ⊢
    by_cases hx : x = n
    · rw [if_pos hx]; exact ⟨0, by simp, by simp, by simp [gi, hx]⟩
    · rw [if_neg hx] at h ⊢
      obtain ⟨i, h1, h2, h3⟩ := plcFrom_spec n t (k + 1) h
      exact ⟨i + 1, by rw [h1]; omega, by simp; omega, by simpa [gi] using h3⟩
theorem plc_spec {xs : List Int} {n : Int} (h : 0 ≤ plc xs n) : ∃ i : Nat, plc xs n = i ∧ i < xs.length ∧ gi xs i = n := by
  obtain ⟨i, h1, h2, h3⟩ := plcFrom_spec n xs 0 h
  exact ⟨i, by rw [plc, h1]; omega, h2, h3⟩
theorem fndFrom_spec (n : Int) : ∀ (p : List (List Int)) (k : Nat), 0 ≤ (fndFrom p n k).1 →
    ∃ r i : Nat, fndFrom p n k = (((k + r : Nat) : Int), (i : Int)) ∧ r < p.length ∧ i < (gr p r).length ∧ cell p r i = n
  | [], k, h => by simp [fndFrom] at h
  | x :: t, k, h => by
    rw [fndFrom] at h ⊢
    by_cases hx : 0 ≤ plc x n
    · rw [if_pos hx]
      obtain ⟨i, h1, h2, h3⟩ := plc_spec hx
      exact ⟨0, i, by rw [h1]; simp, by simp, by simpa [gr] using h2, by simpa [cell, gr] using h3⟩
    · rw [if_neg hx] at h ⊢
      obtain ⟨r, i, h1, h2, h3, h4⟩ := fndFrom_spec n t (k + 1) h
      exact ⟨r + 1, i, by rw [h1]; congr 1; omega, by simp; omega, by simpa [gr] using h3, by simpa [cell, gr] using h4⟩
theorem fnd_spec {p : List (List Int)} {n : Int} (h : 0 ≤ fndR p n) : ∃ r i : Nat, fndR p n = r ∧ fndC p n = i ∧ r < p.length ∧ i < (gr p r).length ∧ cell p r i = n := by
  obtain ⟨r, i, h1, h2, h3, h4⟩ := fndFrom_spec n p 0 h
  exact ⟨r, i, by simp [fndR, fnd, h1], by simp [fndC, fnd, h1], h2, h3, h4⟩
theorem fndFrom_neg (n : Int) : ∀ (p : List (List Int)) (k : Nat), (fndFrom p n k).1 < 0 → fndFrom p n k = (-1, -1)
  | [], k, _ => rfl
  | x :: t, k, h => by
    rw [fndFrom] at h ⊢
    by_cases hx : 0 ≤ plc x n
    · rw [if_pos hx] at h; simp at h; omega
    · rw [if_neg hx] at h ⊢; exact fndFrom_neg n t (k + 1) h
def okLabel (p : List (List Int)) (l : Int) : Bool := vPile p && inR 1 9999 l
def FR (p : List (List Int)) (l : Int) : Int := if okLabel p l = true then fndR p l else -1
def FC (p : List (List Int)) (l : Int) : Int := if okLabel p l = true then fndC p l else -1
/-- what impl.FindRoll finds is there -/
theorem FR_spec {p : List (List Int)} {n : Int} (h : 0 ≤ FR p n) : ∃ r i : Nat, FR p n = r ∧ FC p n = i ∧ r < p.length ∧ i < (gr p r).length ∧ cell p r i = n ∧ ValidP p ∧ 1 ≤ n ∧ n ≤ 9999 := by
  unfold FR FC at *
  by_cases hk : okLabel p n = true
  · rw [if_pos hk] at h ⊢
    rw [if_pos hk]
    obtain ⟨r, i, h1, h2, h3, h4, h5⟩ := fnd_spec h
    simp only [okLabel, Bool.and_eq_true] at hk
    exact ⟨r, i, h1, h2, h3, h4, h5, vPile_true hk.1, (inR_true hk.2).1, (inR_true hk.2).2⟩
  · rw [if_neg hk] at h; omega
def abvL (p : List (List Int)) (n : Int) : List Int := if 0 ≤ FR p n then aboveL p (FR p n).toNat (FC p n).toNat else []

/-- zeros at the places where labels are first found -/
def zap (p : List (List Int)) (q : List (List Int)) (l : Int) : List (List Int) := set2 q (fndR p l).toNat (fndC p l).toNat 0
def withoutL (p : List (List Int)) (n : Int) : List (List Int) := (coneL p (fndR p n).toNat (fndC p n).toNat).foldl (zap p) p
/-- a list, some numbers of it made 0 -/
def zeroIn (L : List Int) (xs : List Int) : List Int := xs.map fun x => if inL L x then 0 else x
def takeL (p : List (List Int)) (n : Int) : List (List Int) := if 0 ≤ FR p n then (set2 p (FR p n).toNat (FC p n).toNat 0).map (zeroIn (abvL p n)) else []
def takeS (p : List (List Int)) (n : Int) : List (List Int) := if 0 ≤ FR p n then withoutL p n else []

def SameShape (q p : List (List Int)) : Prop := q.length = p.length ∧ ∀ r, (gr q r).length = (gr p r).length
theorem SameShape.refl (p : List (List Int)) : SameShape p p := ⟨rfl, fun _ => rfl⟩
theorem set2_shape {q p : List (List Int)} (h : SameShape q p) (r i : Nat) (x : Int) : SameShape (set2 q r i x) p := by
  refine ⟨by rw [set2_len, h.1], fun k => ?_⟩
  by_cases hk : r = k
  · subst hk
    by_cases hr : r < q.length
    · rw [gr_set2_eq hr, List.length_set, h.2]
    · have : set2 q r i x = q := by unfold set2; exact List.set_eq_of_length_le (by omega)
      rw [this, h.2]
  · rw [gr_set2_ne hk, h.2]
theorem zap_shape (p : List (List Int)) : ∀ (L : List Int) (q : List (List Int)), SameShape q p → SameShape (L.foldl (zap p) q) p
  | [], _, h => h
  | _ :: t, _, h => zap_shape p t _ (set2_shape h _ _ _)
theorem plcFrom_some (n : Int) : ∀ (xs : List Int) (k i : Nat), i < xs.length → gi xs i = n → 0 ≤ plcFrom xs n k
  | [], _, _, h, _ => absurd h (by simp)
  | x :: t, k, i, h, hx => by
    rw [plcFrom]
    by_cases e : x = n
    · rw [if_pos e]; omega
    · rw [if_neg e]
      cases i with
      | zero => exact absurd (by simpa [gi] using hx) e
      | succ i => exact plcFrom_some n t (k + 1) i (by simpa using h) (by simpa [gi] using hx)
theorem fndFrom_some (n : Int) : ∀ (p : List (List Int)) (k r i : Nat), r < p.length → i < (gr p r).length → cell p r i = n → 0 ≤ (fndFrom p n k).1
  | [], _, _, _, h, _, _ => absurd h (by simp)
  | x :: t, k, r, i, h, hi, hx => by
    rw [fndFrom]
    by_cases e : 0 ≤ plc x n
    · rw [if_pos e]; simp
    · rw [if_neg e]
      cases r with
      | zero => exact absurd (plcFrom_some n x 0 i (by simpa [gr] using hi) (by simpa [cell, gr] using hx)) e
      | succ r => exact fndFrom_some n t (k + 1) r i (by simpa using h) (by simpa [gr] using hi) (by simpa [cell, gr] using hx)
theorem fnd_some {p : List (List Int)} {r i : Nat} (h : r < p.length) (hi : i < (gr p r).length) : 0 ≤ fndR p (cell p r i) := fndFrom_some _ p 0 r i h hi rfl
theorem mem_rowRest {p : List (List Int)} {at_ r i : Nat} {x : Int} (h : x ∈ rowRest p at_ r i) : ∃ j, i ≤ j ∧ j ≤ at_ ∧ j < (gr p r).length ∧ cell p r j = x ∧ 0 < x := by
  unfold rowRest posL at h
  rw [List.mem_filter] at h
  obtain ⟨h1, h2⟩ := h
  obtain ⟨k, hk, e⟩ := List.getElem_of_mem h1
  simp only [List.length_take, List.length_drop] at hk
  rw [List.getElem_take, List.getElem_drop] at e
  refine ⟨i + k, by omega, by omega, by omega, ?_, by simpa using h2⟩
  unfold cell
  rw [gi_eq (by omega)]; exact e
theorem mem_rowRest_mk {p : List (List Int)} {at_ r i j : Nat} (h1 : i ≤ j) (h2 : j ≤ at_) (h3 : j < (gr p r).length) (h4 : 0 < cell p r j) : cell p r j ∈ rowRest p at_ r i := by
  unfold rowRest posL
  rw [List.mem_filter]
  refine ⟨?_, by simpa using h4⟩
  rw [List.mem_iff_getElem]
  refine ⟨j - i, by simp; omega, ?_⟩
  rw [List.getElem_take, List.getElem_drop]
  unfold cell
  rw [gi_eq h3]
  congr 1; omega
theorem mem_coneGo {p : List (List Int)} {row at_ k : Nat} {x : Int} : ∀ {n}, x ∈ coneGo p row at_ k n → ∃ m, m < n ∧ x ∈ rowRest p at_ (row + k + m) (at_ - (k + m))
  | 0, h => by simp [coneGo] at h
  | n + 1, h => by
    rw [coneGo, List.mem_append] at h
    rcases h with h | h
    · exact ⟨n, by omega, h⟩
    · obtain ⟨m, h1, h2⟩ := mem_coneGo h
      exact ⟨m, by omega, h2⟩
theorem mem_coneGo_mk {p : List (List Int)} {row at_ k m : Nat} {x : Int} : ∀ {n}, m < n → x ∈ rowRest p at_ (row + k + m) (at_ - (k + m)) → x ∈ coneGo p row at_ k n
  | 0, h, _ => absurd h (by omega)
  | n + 1, h, hx => by
    rw [coneGo, List.mem_append]
    rcases Nat.lt_or_ge m n with h' | h'
    · exact .inr (mem_coneGo_mk h' hx)
    · obtain rfl : m = n := by omega
      exact .inl hx
/-- the cone: rows from 'row' on, places from at - (r - row) to at -/
theorem mem_coneL {p : List (List Int)} {row at_ : Nat} {x : Int} : x ∈ coneL p row at_ ↔ ∃ r j, row ≤ r ∧ r < p.length ∧ at_ - (r - row) ≤ j ∧ j ≤ at_ ∧ j < (gr p r).length ∧ cell p r j = x ∧ 0 < x := by
  constructor
  · intro h
    obtain ⟨m, h1, h2⟩ := mem_coneGo h
    obtain ⟨j, h3, h4, h5, h6, h7⟩ := mem_rowRest h2
    exact ⟨row + 0 + m, j, by omega, by omega, by omega, h4, h5, h6, h7⟩
  · rintro ⟨r, j, h1, h2, h3, h4, h5, rfl, h7⟩
    obtain ⟨m, rfl⟩ : ∃ m, r = row + m := ⟨r - row, by omega⟩
    refine mem_coneGo_mk (m := m) (by omega) ?_
    rw [Nat.add_zero, Nat.zero_add]
    exact mem_rowRest_mk (by omega) h4 h5 h7
theorem mem_aboveL {p : List (List Int)} {row at_ : Nat} {x : Int} : x ∈ aboveL p row at_ ↔ ∃ r j, row < r ∧ r < p.length ∧ at_ - (r - row) ≤ j ∧ j ≤ at_ ∧ j < (gr p r).length ∧ cell p r j = x ∧ 0 < x := by
  constructor
  · intro h
    obtain ⟨m, h1, h2⟩ := mem_coneGo h
    obtain ⟨j, h3, h4, h5, h6, h7⟩ := mem_rowRest h2
    exact ⟨row + 1 + m, j, by omega, by omega, by omega, h4, h5, h6, h7⟩
  · rintro ⟨r, j, h1, h2, h3, h4, h5, rfl, h7⟩
    obtain ⟨m, rfl⟩ : ∃ m, r = row + 1 + m := ⟨r - row - 1, by omega⟩
    refine mem_coneGo_mk (m := m) (by omega) ?_
    exact mem_rowRest_mk (by omega) h4 h5 h7
end Go.Proofs.Ytpimbibmlmjjpaa
