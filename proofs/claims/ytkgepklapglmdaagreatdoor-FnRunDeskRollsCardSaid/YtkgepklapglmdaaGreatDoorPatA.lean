/-
  Lemmas and contracts of single functions of this program, used by the proofs of its laws: what each call returns and what becomes of memory. Conditions: the hypotheses of each theorem.
-/
import Derived.Test.YtkgepklapglmdaaGreatDoorLibS
import Derived.IntWalk
namespace Go.Proofs.YtkgepklapglmdaaGreatDoor
open Go.RowKit

def allR (a b : Int) (xs : List Int) : Bool := xs.all (inR a b)
theorem allR_iff {a b : Int} {xs : List Int} : allR a b xs = true ↔ ∀ i, i < xs.length → a ≤ gi xs i ∧ gi xs i ≤ b := by
  unfold allR
  rw [List.all_eq_true]
  constructor
  · intro h i hi; exact inR_true (h _ (by rw [gi_eq hi]; exact List.getElem_mem hi))
  · intro h x hx
    obtain ⟨i, hi, rfl⟩ := List.getElem_of_mem hx
    have := h i hi; rw [gi_eq hi] at this; exact inR_mk this
theorem allR_no {a b : Int} {xs : List Int} {i : Nat} (hi : i < xs.length) (h : ¬ (a ≤ gi xs i ∧ gi xs i ≤ b)) : allR a b xs = false := by
  cases hv : allR a b xs
  · rfl
  · exact absurd (allR_iff.1 hv i hi) h
theorem allIn_any (lo hi : Nat) (v : Value) (xs : List Int) (a b : Int) (w : World) (h : Ints w lo hi v xs) :
    Calls Tryz.prog 71 #[v, .int .i64 a, .int .i64 b] w fun e w' => e = .returned (.bool (allR a b xs)) ∧ w = w' := by
  obtain ⟨A, c, rfl, hc, hm⟩ := h.form
  go_enter Tryz.func71, Tryz.ntmps71
  go_wp2
  go_loop [7] (fun i => ∃ k : Nat, k ≤ xs.length ∧ i = .int .i64 k ∧ Hid (∀ j, j < k → inR a b (gi xs j) = true)) (fun i => xs.length - (intOf i).toNat)
  case atStart => exact ⟨0, by omega, rfl, fun j hj => absurd hj (by omega)⟩
  case round =>
    obtain ⟨k, hk, rfl, HD⟩ := hrel
    by_cases hlt : k < xs.length
    · obtain ⟨b', o, rfl, _, _, hcell, h64⟩ := h.cell hlt
      cases x1 : inR a b (gi xs k)
      · have Hno := Lib.hid (allR_no (a := a) (b := b) hlt (fun hh => by rw [inR_mk hh] at x1; cases x1))
        go_wp2_with (go_at_call 68; refine (inRange_any _ _ _ _).mono ?_; rintro e w' ⟨rfl, rfl⟩)
        go_ret
        exact ⟨ret_bool Hno.out.symm, rfl⟩
      · have Hok := Lib.hid x1
        go_wp2_with (go_at_call 68; refine (inRange_any _ _ _ _).mono ?_; rintro e w' ⟨rfl, rfl⟩)
        go_round
        case rel =>
          refine ⟨k + 1, by omega, by go_num, fun j hj => ?_⟩
          rcases Nat.lt_or_ge j k with h' | h'
          · exact HD.out j h'
          · obtain rfl : j = k := by omega
            exact Hok.out
        case measure => simp [intOf]; omega
    · have Hyes := Lib.hid (show allR a b xs = true from allR_iff.2 fun i hi => inR_true (HD.out i (by omega)))
      go_wp2
      go_ret
      exact ⟨ret_bool Hyes.out.symm, rfl⟩
end Go.Proofs.YtkgepklapglmdaaGreatDoor
