/-
  Lemmas and contracts of single functions of this program, used by the proofs of its laws: what each call returns and what becomes of memory. Conditions: the hypotheses of each theorem.
-/
import Derived.Test.YtkgepklapglmdaaGreatDoorRows
import Derived.Test.YtkgepklapglmdaaGreatDoorWords
import Derived.Test.YtkgepklapglmdaaGreatDoorShelf
namespace Go.Proofs.YtkgepklapglmdaaGreatDoor
open Go.RowKit

theorem Ints.cells {w : World} {lo hi n : Nat} {A : Option Addr} {xs : List Int} (h : Rd w lo hi 1 A n (xs.map (.int .i64))) (_hn : n = xs.length) (h0 : 0 < n) :
    ∃ b o, A = some ⟨b, o, none⟩ ∧ ∀ j, j < xs.length → w.cell? ⟨b, o + j, none⟩ = some (.int .i64 (xs.getD j 0)) := by
  obtain ⟨b, o, e, _, _, hc⟩ := h.2 h0
  exact ⟨b, o, e, fun j hj => hc j _ (by simp [hj])⟩
end Go.Proofs.YtkgepklapglmdaaGreatDoor
