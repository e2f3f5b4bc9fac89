/-
  Lemmas and contracts of single functions of this program, used by the proofs of its laws: what each call returns and what becomes of memory. Conditions: the hypotheses of each theorem.
-/
import Derived.Test.YtodbgkflakfjpaaRows
import Derived.Test.YtodbgkflakfjpaaWords
import Derived.Test.YtodbgkflakfjpaaShelf
namespace Go.Proofs.Ytodbgkflakfjpaa
open Go.RowKit

theorem idxFrom_plc (n : Int) : ∀ (xs : List Int) (k : Nat), Lib.idxFrom xs n k = plcFrom xs n k
  | [], _ => rfl
  | x :: t, k => by
    rw [plcFrom, Lib.idxFrom]
    by_cases h : x = n
    · simp [h]
    · simp [h, idxFrom_plc n t (k + 1)]
theorem Ints.cells {w : World} {lo hi n : Nat} {A : Option Addr} {xs : List Int} (h : Rd w lo hi 1 A n (xs.map (.int .i64))) (_hn : n = xs.length) (h0 : 0 < n) :
    ∃ b o, A = some ⟨b, o, none⟩ ∧ ∀ j, j < xs.length → w.cell? ⟨b, o + j, none⟩ = some (.int .i64 (xs.getD j 0)) := by
  obtain ⟨b, o, e, _, _, hc⟩ := h.2 h0
  exact ⟨b, o, e, fun j hj => hc j _ (by simp [hj])⟩
theorem index_any (lo hi : Nat) (v : Value) (xs : List Int) (n : Int) (w : World) (h : Ints w lo hi v xs) :
    Calls Try.prog 115 #[v, .int .i64 n] w fun e w' => e = .returned (.int .i64 (plc xs n)) ∧ w = w' := by
  obtain ⟨A, c, rfl, hc, hm, hr, _⟩ := h
  unfold maxLen at hm
  rcases Nat.eq_zero_or_pos xs.length with h0 | h0
  · have : xs = [] := List.eq_nil_of_length_eq_zero h0
    subst this
    exact (Try.slices_Index_int_empty A c n w).mono fun e w' ⟨he, hw⟩ => ⟨he.trans (ret_int (idxFrom_plc n [] 0)), hw.symm⟩
  · obtain ⟨b, o, rfl, hcell⟩ := Ints.cells hr rfl h0
    exact (Try.slices_Index_int b o xs.length c xs n w (Nat.le_refl _) (by omega) hcell).mono fun e w' ⟨he, hw⟩ => ⟨he.trans (ret_int (by rw [List.take_length]; exact idxFrom_plc n xs 0)), hw.symm⟩
theorem contains_any (lo hi : Nat) (v : Value) (xs : List Int) (n : Int) (w : World) (h : Ints w lo hi v xs) :
    Calls Try.prog 88 #[v, .int .i64 n] w fun e w' => e = .returned (.bool (inL xs n)) ∧ w = w' := by
  obtain ⟨A, c, rfl, hc, hm, hr, _⟩ := h
  unfold maxLen at hm
  rcases Nat.eq_zero_or_pos xs.length with h0 | h0
  · have : xs = [] := List.eq_nil_of_length_eq_zero h0
    subst this
    exact (Try.slices_Contains_int_empty A c n w).mono fun e w' ⟨he, hw⟩ => ⟨he, hw.symm⟩
  · obtain ⟨b, o, rfl, hcell⟩ := Ints.cells hr rfl h0
    exact (Try.slices_Contains_int b o xs.length c xs n w (Nat.le_refl _) (by omega) hcell).mono fun e w' ⟨he, hw⟩ => ⟨he.trans (ret_bool (by rw [List.take_length, inL, List.contains_eq_any_beq]; congr 1; funext x; exact Bool.beq_comm)), hw.symm⟩
end Go.Proofs.Ytodbgkflakfjpaa
