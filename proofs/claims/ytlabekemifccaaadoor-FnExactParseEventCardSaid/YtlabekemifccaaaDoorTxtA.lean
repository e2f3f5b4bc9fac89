/-
  Lemmas and contracts of single functions of this program, used by the proofs of its laws: what each call returns and what becomes of memory. Conditions: the hypotheses of each theorem.
-/
import Derived.Test.YtlabekemifccaaaDoorMReel
import Derived.Test.YtlabekemifccaaaDoorShelf
namespace Go.Proofs.YtlabekemifccaaaDoor
open Go.RowKit
attribute [local go_sem ↓] Go.wp_at_zero Go.wp_at_succ

/-- a text of bytes -/
def TB (l : List UInt8) : ByteArray := ⟨l.toArray⟩
theorem TB_size (l : List UInt8) : (TB l).size = l.length := by simp [TB, ByteArray.size]
theorem TB_app (a b : List UInt8) : TB a ++ TB b = TB (a ++ b) := by unfold TB; rw [ByteArray.mk_append_mk]
theorem TB_inj {a b : List UInt8} (h : TB a = TB b) : a = b := by
  unfold TB at h
  injection h with h
  simpa using h
theorem dec_len {n : Nat} (h : n < 1000000) : 1 ≤ (Lib.decDigits n).length ∧ (Lib.decDigits n).length ≤ 6 := by
  have key : ∀ k m : Nat, m < 10 ^ (k + 1) → (Lib.decDigits m).length ≤ k + 1 := by
    intro k
    induction k with
    | zero => intro m hm; rw [Lib.decDigits_one (by simpa using hm)]; simp
    | succ k ih =>
      intro m hm
      by_cases h1 : m < 10
      · rw [Lib.decDigits_one h1]; simp
      · rw [Lib.decDigits, dif_neg h1, List.length_append, List.length_singleton]
        have := ih (m / 10) (by rw [Nat.pow_succ] at hm; omega)
        omega
  refine ⟨?_, key 5 n (by simpa using h)⟩
  rw [Lib.decDigits]
  split
  · simp
  · simp
set_option maxHeartbeats 1000000 in
theorem number_any : ∀ (m n : Nat) (w : World), n ≤ m → n ≤ 1000000 →
    Calls Tryd.prog 70 #[.int .i64 n] w fun e w' => e = .returned (.string (TB (Lib.decDigits n))) ∧ w = w' := by
  have small : ∀ (n : Nat) (w : World), n < 10 → Calls Tryd.prog 70 #[.int .i64 n] w fun e w' => e = .returned (.string (TB (Lib.decDigits n))) ∧ w = w' := by
    intro n w h
    have h3 : (n : Int) < 10 := by omega
    have HX := Lib.hid ((by decide +kernel : ∀ i : Fin 10, (ByteArray.mk #[48, 49, 50, 51, 52, 53, 54, 55, 56, 57]).extract i (i + 1) = TB [UInt8.ofNat (48 + i)]) ⟨n, h⟩)
    go_enter Tryd.func70, Tryd.ntmps70
    go_wp2
    go_ret
    exact ⟨by rw [Lib.decDigits_one h, ← HX.out]; rfl, rfl⟩
  intro m
  induction m with
  | zero => intro n w h1 h2; exact small n w (by omega)
  | succ m ih =>
    intro n w h1 h2
    by_cases h : n < 10
    · exact small n w h
    · go_enter Tryd.func70, Tryd.ntmps70
      have h3 : ¬ (n : Int) < 10 := by omega
      have hq : (n : Int).tdiv 10 = ((n / 10 : Nat) : Int) := by rw [Int.tdiv_eq_ediv_of_nonneg (by omega)]; omega
      have hr : (n : Int).tmod 10 = ((n % 10 : Nat) : Int) := by rw [Int.tmod_eq_emod_of_nonneg (by omega)]; omega
      have hs1 := (dec_len (n := n / 10) (by omega)).2
      have hs2 := (dec_len (n := n % 10) (by omega)).2
      obtain ⟨A, hA⟩ : ∃ A, A = TB (Lib.decDigits (n / 10)) := ⟨_, rfl⟩
      obtain ⟨B, hB⟩ : ∃ B, B = TB (Lib.decDigits (n % 10)) := ⟨_, rfl⟩
      have sA : A.size ≤ 6 := by rw [hA, TB_size]; exact hs1
      have sB : B.size ≤ 6 := by rw [hB, TB_size]; exact hs2
      have HAB := Lib.hid (show A ++ B = TB (Lib.decDigits n) by
        rw [hA, hB, TB_app]
        conv => rhs; rw [Lib.decDigits, dif_neg h]
        rw [Lib.decDigits_one (show n % 10 < 10 by omega)])
      have HA := Lib.hid hA
      have HB := Lib.hid hB
      have hsum : A.size + B.size ≤ 9223372036854775807 := by omega
      clear hA hB hs1 hs2
      go_wp2_with fail
      refine (ih (n / 10) w (by omega) (by omega)).mono ?_
      rw [← HA.out]
      rintro e w1 ⟨rfl, hw1⟩
      subst hw1
      go_wp2_with fail
      refine (ih (n % 10) w (by omega) (by omega)).mono ?_
      rw [← HB.out]
      rintro e w1 ⟨rfl, hw1⟩
      subst hw1
      go_wp2
      go_ret
      exact ⟨by rw [HAB.out]; rfl, rfl⟩
end Go.Proofs.YtlabekemifccaaaDoor
