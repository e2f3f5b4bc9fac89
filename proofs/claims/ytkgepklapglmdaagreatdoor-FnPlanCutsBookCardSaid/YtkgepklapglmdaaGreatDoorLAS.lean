/-
  Texts merged into one: what each function does, and plain lemmas. No condition.
-/
import Derived.Test.YtkgepklapglmdaaGreatDoorRows
import Derived.Test.YtkgepklapglmdaaGreatDoorWords
import Derived.Test.YtkgepklapglmdaaGreatDoorShelf
import Derived.Test.YtkgepklapglmdaaGreatDoorLeafA
import Derived.Test.YtkgepklapglmdaaGreatDoorLitI
import Derived.Sort.OwnSortedInts
import Derived.Lib.OwnBridge
namespace Go.Proofs.YtkgepklapglmdaaGreatDoor
open Go.RowKit

theorem Ints.cells {w : World} {lo hi n : Nat} {A : Option Addr} {xs : List Int} (h : Rd w lo hi 1 A n (xs.map (.int .i64))) (_hn : n = xs.length) (h0 : 0 < n) :
    ∃ b o, A = some ⟨b, o, none⟩ ∧ ∀ j, j < xs.length → w.cell? ⟨b, o + j, none⟩ = some (.int .i64 (xs.getD j 0)) := by
  obtain ⟨b, o, e, _, _, hc⟩ := h.2 h0
  exact ⟨b, o, e, fun j hj => hc j _ (by simp [hj])⟩
theorem contains_any (lo hi : Nat) (v : Value) (xs : List Int) (n : Int) (w : World) (h : Ints w lo hi v xs) :
    Calls Tryz.prog 123 #[v, .int .i64 n] w fun e w' => e = .returned (.bool (inL xs n)) ∧ w = w' := by
  obtain ⟨A, c, rfl, hc, hm, hr, _⟩ := h
  unfold maxLen at hm
  rcases Nat.eq_zero_or_pos xs.length with h0 | h0
  · have : xs = [] := List.eq_nil_of_length_eq_zero h0
    subst this
    exact (Tryz.slices_Contains_int_empty A c n w).mono fun e w' ⟨he, hw⟩ => ⟨he, hw.symm⟩
  · obtain ⟨b, o, rfl, hcell⟩ := Ints.cells hr rfl h0
    exact (Tryz.slices_Contains_int b o xs.length c xs n w (Nat.le_refl _) (by omega) hcell).mono fun e w' ⟨he, hw⟩ => ⟨he.trans (ret_bool (by rw [List.take_length, inL, List.contains_eq_any_beq]; congr 1; funext x; exact Bool.beq_comm)), hw.symm⟩
theorem clone_any (lo hi : Nat) (v : Value) (xs : List Int) (w : World) (h : Ints w lo hi v xs) (hl : xs.length ≤ 1099511627776) :
    Calls Tryz.prog 63 #[v] w fun e w' => ∃ v', e = .returned v' ∧ OwnI w' w.heap.size 3 v' xs ∧ Below w.heap.size w w' := by
  obtain ⟨A, c, rfl, hc, hm, hr, h64⟩ := h
  rcases Nat.eq_zero_or_pos xs.length with h0 | h0
  · have : xs = [] := List.eq_nil_of_length_eq_zero h0
    subst this
    rcases A with _ | a
    · exact (Tryz.slices_Clone_int_nil 0 c w).mono fun e w' ⟨he, hw⟩ => by subst hw; exact ⟨_, he, OwnI.nil _ _ _, Below.refl _ _⟩
    · exact (Tryz.slices_Clone_int_zero a c w).mono fun e w' ⟨v', he, ho, _, hb⟩ => ⟨v', he, ⟨ho, h64⟩, hb⟩
  · obtain ⟨b, o, rfl, hcell⟩ := Ints.cells hr rfl h0
    exact (Tryz.slices_Clone_int b o xs.length c xs w (Nat.le_refl _) (by omega) hcell).mono fun e w' ⟨v', he, ho, _, hb⟩ => ⟨v', he, ⟨by simpa using ho, h64⟩, hb⟩
end Go.Proofs.YtkgepklapglmdaaGreatDoor

namespace Go.Proofs.YtkgepklapglmdaaGreatDoor
open Go.RowKit Go.Sort

end Go.Proofs.YtkgepklapglmdaaGreatDoor
