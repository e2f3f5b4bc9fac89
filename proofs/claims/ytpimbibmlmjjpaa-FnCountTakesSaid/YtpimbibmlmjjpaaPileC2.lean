/-
  Lemmas and contracts of single functions of this program, used by the proofs of its laws: what each call returns and what becomes of memory. Conditions: the hypotheses of each theorem.
-/
import Derived.Test.YtpimbibmlmjjpaaPileV
import Derived.Test.YtpimbibmlmjjpaaCtI
namespace Go.Proofs.Ytpimbibmlmjjpaa
open Go.RowKit

theorem ct_eq (p : List (List Int)) : ctI p = ctS p := by
  unfold ctI ctS
  split
  · split
    · rw [CT_all]
    · rfl
  · rfl
def fct : Nat → Nat
  | 0 => 1
  | n + 1 => (n + 1) * fct n
theorem fct_le : ∀ m, m ≤ 8 → fct m ≤ 40320 := by
  intro m hm
  have : m = 0 ∨ m = 1 ∨ m = 2 ∨ m = 3 ∨ m = 4 ∨ m = 5 ∨ m = 6 ∨ m = 7 ∨ m = 8 := by omega
  rcases this with rfl | rfl | rfl | rfl | rfl | rfl | rfl | rfl | rfl <;> decide
theorem fold_bound {q : List (List Int)} {B : Nat} (hB : B ≤ 40320) : ∀ (xs : List Int) (b : Int), (∀ x ∈ xs, freeB q x = true → 1 ≤ cnt (withoutL q x) ∧ cnt (withoutL q x) ≤ B) → 0 ≤ b → b + xs.length * (B : Int) ≤ 1000000 →
    b ≤ xs.foldl (fun n l => if freeB q l = true then wrap64 (n + cnt (withoutL q l)) else n) b ∧ xs.foldl (fun n l => if freeB q l = true then wrap64 (n + cnt (withoutL q l)) else n) b ≤ b + xs.length * (B : Int) ∧
      ((∃ x ∈ xs, freeB q x = true) → b + 1 ≤ xs.foldl (fun n l => if freeB q l = true then wrap64 (n + cnt (withoutL q l)) else n) b)
  | [], b, _, h0, _ => by simp
  | x :: t, b, hx, h0, hl => by
    have hlen : (((x :: t).length : Nat) : Int) * (B : Int) = (t.length : Int) * B + B := by
      rw [List.length_cons, Int.natCast_add, Int.add_mul]; simp
    rw [hlen] at hl ⊢
    have hB0 : (0 : Int) ≤ (t.length : Int) * B := by
      have : ((t.length * B : Nat) : Int) = (t.length : Int) * B := Int.natCast_mul _ _
      omega
    rw [List.foldl_cons]
    by_cases hf : freeB q x = true
    · obtain ⟨c1, c2⟩ := hx x List.mem_cons_self hf
      rw [if_pos hf]
      have hw : wrap64 (b + cnt (withoutL q x)) = b + cnt (withoutL q x) := by unfold wrap64; omega
      rw [hw]
      obtain ⟨h1, h2, h3⟩ := fold_bound hB t (b + cnt (withoutL q x)) (fun y hy => hx y (List.mem_cons_of_mem _ hy)) (by omega) (by omega)
      exact ⟨by omega, by omega, fun _ => by omega⟩
    · rw [if_neg hf]
      obtain ⟨h1, h2, h3⟩ := fold_bound hB t b (fun y hy => hx y (List.mem_cons_of_mem _ hy)) h0 (by omega)
      refine ⟨h1, by omega, ?_⟩
      rintro ⟨y, hy, hyf⟩
      rcases List.mem_cons.1 hy with rfl | hy
      · exact absurd hyf hf
      · exact h3 ⟨y, hy, hyf⟩
theorem exists_free {p : List (List Int)} (hv : Uniq p) (U : List Int) : ∀ (d r i : Nat), r < p.length → i < (gr p r).length → 0 < cell p r i → cell p r i ∉ U → p.length - r ≤ d → ∃ x ∈ labelsL (less p U), freeB (less p U) x = true
  | 0, r, i, hr, _, _, _, h => absurd h (by omega)
  | d + 1, r, i, hr, hi, hp, hU, h => by
    by_cases hf : freeB (less p U) (cell p r i) = true
    · exact ⟨_, less_label.2 ⟨mem_labels.2 ⟨r, i, hr, hi, rfl, hp⟩, hU⟩, hf⟩
    · rw [free_less hv hr hi hp hU] at hf
      simp only [Classical.not_forall] at hf
      obtain ⟨x, hx, hxU⟩ := hf
      obtain ⟨a, b, k1, k2, k3, k4, k5, k6, k7⟩ := mem_aboveL.1 hx
      exact exists_free hv U d a b k2 k5 (by omega) (by rw [k6]; exact hxU) (by omega)
theorem cnt_bound {p : List (List Int)} (hv : ValidP p) : ∀ (m : Nat) (U : List Int), (labelsL (less p U)).length = m → m ≤ 8 → 1 ≤ cnt (less p U) ∧ cnt (less p U) ≤ fct m
  | 0, U, h, _ => by
    have : labelsL (less p U) = [] := List.eq_nil_of_length_eq_zero h
    unfold cnt; rw [this]; simp [sCnt, fct]
  | m + 1, U, h, hm => by
    have hu := uniq_of_valid hv
    have hn := labels_nodup hv
    have hne : labelsL (less p U) ≠ [] := by intro e; rw [e] at h; simp at h
    rw [cnt_less hu hn, if_neg hne]
    have hfm := fct_le m (by omega)
    have hB : ∀ x ∈ labelsL (less p U), freeB (less p U) x = true → 1 ≤ cnt (withoutL (less p U) x) ∧ cnt (withoutL (less p U) x) ≤ fct m := by
      intro x hx hf
      obtain ⟨h1, h2⟩ := less_label.1 hx
      obtain ⟨r, i, hr, hi, rfl, hp⟩ := mem_labels.1 h1
      have hc := free_count hu hn hr hi hp h2 hf
      have hw := free_without hu hr hi hp h2 hf (V := U ++ [cell p r i]) (by intro x; simp)
      rw [hw] at hc ⊢
      exact cnt_bound hv m _ (by omega) (by omega)
    have hlen : ((m : Int) + 1) * (fct m : Int) ≤ 1000000 := by
      have h1 : (m + 1) * fct m ≤ 8 * 40320 := Nat.mul_le_mul hm hfm
      have h2 : (((m + 1) * fct m : Nat) : Int) = ((m : Int) + 1) * (fct m : Int) := by rw [Int.natCast_mul]; rfl
      omega
    obtain ⟨b1, b2, b3⟩ := fold_bound hfm (labelsL (less p U)) 0 hB (by omega) (by rw [h, Int.zero_add]; exact hlen)
    refine ⟨?_, ?_⟩
    · cases hl : labelsL (less p U) with
      | nil => exact absurd hl hne
      | cons x t =>
        have hx : x ∈ labelsL (less p U) := by rw [hl]; exact List.mem_cons_self
        obtain ⟨h1, h2⟩ := less_label.1 hx
        obtain ⟨r, i, hr, hi, rfl, hp⟩ := mem_labels.1 h1
        have := b3 (exists_free hu U p.length r i hr hi hp h2 (by omega))
        rw [hl] at this
        omega
    · rw [h] at b2
      have h2 : ((fct (m + 1) : Nat) : Int) = ((m : Int) + 1) * (fct m : Int) := by
        show (((m + 1) * fct m : Nat) : Int) = _
        rw [Int.natCast_mul]; rfl
      rw [h2]
      rw [Int.zero_add] at b2
      exact b2
theorem cnt_valid {p : List (List Int)} (hv : ValidP p) (hl : (labelsL p).length ≤ 8) : 1 ≤ cnt p ∧ cnt p ≤ 40320 := by
  have h := cnt_bound hv (labelsL p).length [] (by rw [less_nil]) hl
  rw [less_nil] at h
  have := fct_le _ hl
  omega
theorem ct_pos {p : List (List Int)} (h : ¬ ctS p < 0) : ValidP p ∧ (labelsL p).length ≤ 8 ∧ ctS p = cnt p := by
  unfold ctS at *
  by_cases hv : vPile p = true
  · rw [if_pos hv] at h ⊢
    by_cases hl : (labelsL p).length ≤ 8
    · rw [if_pos hl]; exact ⟨vPile_true hv, hl, rfl⟩
    · rw [if_neg hl] at h; omega
  · rw [if_neg hv] at h; omega
theorem free_iff {p : List (List Int)} (hv : ValidP p) {l : Int} (hl : l ∈ labelsL p) : freeB p l = true ↔ abvL p l = [] := by
  obtain ⟨r, i, hr, hi, rfl, hp⟩ := mem_labels.1 hl
  have h := free_less (uniq_of_valid hv) (U := []) hr hi hp (by simp)
  rw [less_nil] at h
  rw [h, abv_of hv hr hi hp]
  constructor
  · intro h'
    exact List.eq_nil_iff_forall_not_mem.2 fun x hx => by simpa using h' x hx
  · intro h' x hx
    rw [h'] at hx; cases hx
/-- the count without a free roll -/
theorem ct_take {p : List (List Int)} (hv : ValidP p) (h8 : (labelsL p).length ≤ 8) {l : Int} (hl : l ∈ labelsL p) : ctS (takeL p l) = cnt (withoutL p l) ∧ (labelsL (takeL p l)).length ≤ 8 := by
  have hF := (FR_iff hv).2 hl
  obtain ⟨r, i, hr, hi, rfl, hp⟩ := mem_labels.1 hl
  have e : takeL p (cell p r i) = withoutL p (cell p r i) := by rw [takeL_eq, takeS, if_pos hF]
  have e2 := take_less hv hr hi hp
  have hv2 : ValidP (less p (coneL p r i)) := less_valid hv (cone_up (uniq_of_valid hv))
  have hlen : (labelsL (less p (coneL p r i))).length ≤ 8 := by
    rw [labels_less]
    exact Nat.le_trans (List.length_filter_le _ _) h8
  rw [e, e2]
  refine ⟨?_, hlen⟩
  unfold ctS
  rw [if_pos (vPile_of hv2), if_pos hlen]
theorem cnt_fold {p : List (List Int)} (hv : ValidP p) (hne : labelsL p ≠ []) : cnt p = (labelsL p).foldl (cntStep p) 0 := by
  have h := cnt_less (uniq_of_valid hv) (labels_nodup hv) []
  rw [less_nil, if_neg hne] at h
  exact h
theorem cnt_nil {p : List (List Int)} (h : labelsL p = []) : cnt p = 1 := by unfold cnt; rw [h]; rfl
end Go.Proofs.Ytpimbibmlmjjpaa
