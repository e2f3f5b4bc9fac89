/-
  Lemmas and contracts of single functions of this program, used by the proofs of its laws: what each call returns and what becomes of memory. Conditions: the hypotheses of each theorem.
-/
import Derived.Test.YtkgepklapglmdaaGreatDoorRows
import Derived.Test.YtkgepklapglmdaaGreatDoorWords
import Derived.Deep.QuietTactic
import Derived.BigQuiet
namespace Go.Proofs.YtkgepklapglmdaaGreatDoor
open Go.RowKit

theorem SlI : SlT Tryz.prog 26 3 (.int .i64 0) 1 8 := ⟨Tryz.underlying26, by kernel_rfl, rfl, by omega⟩
theorem SlR : SlT Tryz.prog 69 26 (.slice none 0 0) 1 24 := ⟨Tryz.underlying69, by kernel_rfl, rfl, by omega⟩

theorem inRange_any (n lo hi : Int) (w : World) :
    Calls Tryz.prog 68 #[.int .i64 n, .int .i64 lo, .int .i64 hi] w fun e w' => e = .returned (.bool (inR lo hi n)) ∧ w = w' := by
  go_enter Tryz.func68, Tryz.ntmps68
  go_wp2
  all_goals go_ret
  all_goals exact ⟨by unfold inR; simp [*] <;> omega, rfl⟩

theorem placeIn_any (lo hi : Nat) (v : Value) (xs : List Int) (n : Int) (w : World) (h : Ints w lo hi v xs) :
    Calls Tryz.prog 99 #[v, .int .i64 n] w fun e w' => e = .returned (.int .i64 (plc xs n)) ∧ w = w' := by
  obtain ⟨A, c, rfl, hc, hm, hr, _⟩ := h
  unfold maxLen at hm
  go_enter Tryz.func99, Tryz.ntmps99
  go_wp2
  go_loop [5] (fun i => ∃ k : Nat, k ≤ xs.length ∧ i = .int .i64 k ∧ plc xs n = plcFrom (xs.drop k) n k) (fun i => xs.length - (intOf i).toNat)
  case atStart => exact ⟨0, by omega, rfl, rfl⟩
  case round =>
    obtain ⟨k, hk, rfl, hno⟩ := hrel
    by_cases hlt : k < xs.length
    · have Hno := Lib.hid (hno.trans (by rw [drop_gi hlt, plcFrom]))
      clear hno
      obtain ⟨b, o, rfl, _, _, hcell⟩ := Ints.at_ hr hlt
      go_wp2
      · go_ret
        exact ⟨ret_int (by rw [Hno.out, if_pos (by simpa using ‹(gi xs k == n) = true›)]), rfl⟩
      · go_round
        case rel => exact ⟨k + 1, by omega, by go_num, by rw [Hno.out, if_neg (by simpa using ‹(gi xs k == n) = false›)]⟩
        case measure => simp [intOf]; omega
    · have Hno := Lib.hid (hno.trans (by rw [drop_end (by omega), plcFrom]))
      clear hno
      go_wp2
      go_ret
      exact ⟨ret_int Hno.out.symm, rfl⟩









end Go.Proofs.YtkgepklapglmdaaGreatDoor
