/-
  Lemmas and contracts of single functions of this program, used by the proofs of its laws: what each call returns and what becomes of memory. Conditions: the hypotheses of each theorem.
-/
import Derived.Test.YtkgepklapglmdaaSlitA
import Derived.Test.YtkgepklapglmdaaMReel
namespace Go.Proofs.Ytkgepklapglmdaa
open Go.RowKit
attribute [local go_sem ↓] Go.wp_at_zero Go.wp_at_succ

def sumI (xs : List Int) : Nat → Int
  | 0 => 0
  | k + 1 => sumI xs k + gi xs k
theorem sumI_rng {xs : List Int} {n : Nat} {b : Int} (h : ∀ i, i < n → 0 ≤ gi xs i ∧ gi xs i ≤ b) : ∀ {k : Nat}, k ≤ n → 0 ≤ sumI xs k ∧ sumI xs k ≤ b * k
  | 0, _ => by simp [sumI]
  | k + 1, hk => by
    have h1 := sumI_rng h (k := k) (by omega)
    have h2 := h k (by omega)
    have h3 : b * ((k + 1 : Nat) : Int) = b * k + b := by rw [Int.natCast_succ, Int.mul_add, Int.mul_one]
    rw [h3]
    show 0 ≤ sumI xs k + gi xs k ∧ sumI xs k + gi xs k ≤ _
    omega
theorem sumOf_any (lo hi : Nat) (v : Value) (xs : List Int) (w : World) (h : Ints w lo hi v xs) (hl : xs.length ≤ 1000) (hb : ∀ i, i < xs.length → 0 ≤ gi xs i ∧ gi xs i ≤ 1000) :
    Calls Try.prog 51 #[v] w fun e w' => e = .returned (.int .i64 (sumI xs xs.length)) ∧ w = w' := by
  obtain ⟨A, c, rfl, hc, hm⟩ := h.form
  have HB := Lib.hid hb
  clear hb
  go_enter Try.func51, Try.ntmps51
  go_wp2
  go_loop [3, 8] (fun s i => ∃ k : Nat, k ≤ xs.length ∧ i = .int .i64 k ∧ s = .int .i64 (sumI xs k)) (fun _ i => xs.length - (intOf i).toNat)
  case atStart => exact ⟨0, by omega, rfl, rfl⟩
  case round =>
    obtain ⟨k, hk, rfl, rfl⟩ := hrel
    by_cases hlt : k < xs.length
    · obtain ⟨b, o, rfl, _, _, hcell, _⟩ := h.cell hlt
      have hs := sumI_rng HB.out hk
      have hx := HB.out k hlt
      go_wp2
      go_round
      case rel => exact ⟨k + 1, by omega, by go_num, rfl⟩
      case measure => simp [intOf]; omega
    · have He := Lib.hid (show k = xs.length by omega)
      go_wp2
      go_ret
      exact ⟨ret_int (by rw [He.out]), rfl⟩
end Go.Proofs.Ytkgepklapglmdaa
