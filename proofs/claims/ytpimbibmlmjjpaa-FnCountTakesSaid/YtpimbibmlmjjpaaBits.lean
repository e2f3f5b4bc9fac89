/-
  Lemmas and contracts of single functions of this program, used by the proofs of its laws: what each call returns and what becomes of memory. Conditions: the hypotheses of each theorem.
-/
import Derived.Test.YtpimbibmlmjjpaaWords
namespace Go.Proofs.Ytpimbibmlmjjpaa
open Go.RowKit

theorem i64_self {n : Nat} (h : n < 9223372036854775808) : IntKind.i64.wrap (n : Int) = n := by rw [IntKind.wrap_i64]; omega
theorem ofInt_i64' (a : Nat) (ha : a < 9223372036854775808) : (BitVec.ofInt 64 (a : Int)).toNat = a := by
  rw [BitVec.ofInt_natCast, BitVec.toNat_ofNat]; exact Nat.mod_eq_of_lt (by omega)
theorem run_shl1 {P : Program} {t : TypeId} (i : Nat) (hi : i ≤ 61) (w : World) : (binOp .shl t (.int .i64 1) (.int .i64 (i : Int))).run P w = .ok (.int .i64 ((1 <<< i : Nat) : Int)) w := by
  have hk : (binOp .shl t (.int .i64 1) (.int .i64 (i : Int))).run P w = .ok (.int .i64 (IntKind.i64.wrap ((2 ^ i : Nat) : Int))) w := by
    simp [binOp, go_sem]
  have h : 2 ^ i ≤ 2 ^ 61 := Nat.pow_le_pow_right (by omega) hi
  rw [hk, Nat.one_shiftLeft, i64_self (by omega)]
theorem run_or_nat {P : Program} {t : TypeId} (a b : Nat) (ha : a < 4611686018427387904) (hb : b < 4611686018427387904) (w : World) : (binOp .or t (.int .i64 (a : Int)) (.int .i64 (b : Int))).run P w = .ok (.int .i64 ((a ||| b : Nat) : Int)) w := by
  have hx : a ||| b < 2 ^ 62 := Nat.or_lt_two_pow (by omega) (by omega)
  have hk : ∀ x y : Int, (binOp .or t (.int .i64 x) (.int .i64 y)).run P w = .ok (.int .i64 (IntKind.i64.wrap ((BitVec.ofInt 64 x ||| BitVec.ofInt 64 y).toNat : Int))) w := fun x y => rfl
  rw [hk, BitVec.toNat_or, ofInt_i64' a (by omega), ofInt_i64' b (by omega), i64_self (by omega)]
theorem run_and_nat {P : Program} {t : TypeId} (a b : Nat) (ha : a < 4611686018427387904) (hb : b < 4611686018427387904) (w : World) : (binOp .and t (.int .i64 (a : Int)) (.int .i64 (b : Int))).run P w = .ok (.int .i64 ((a &&& b : Nat) : Int)) w := by
  have hx : a &&& b < 2 ^ 62 := Nat.and_lt_two_pow _ (by omega)
  have hk : ∀ x y : Int, (binOp .and t (.int .i64 x) (.int .i64 y)).run P w = .ok (.int .i64 (IntKind.i64.wrap ((BitVec.ofInt 64 x &&& BitVec.ofInt 64 y).toNat : Int))) w := fun x y => rfl
  rw [hk, BitVec.toNat_and, ofInt_i64' a (by omega), ofInt_i64' b (by omega), i64_self (by omega)]
theorem andNot_xor (a i : Nat) (ha : a < 18446744073709551616) (hi : a.testBit i = true) : a &&& (18446744073709551615 - 1 <<< i) = a ^^^ (1 <<< i) := by
  have hi64 : i < 64 := by
    rcases Nat.lt_or_ge i 64 with h | h
    · exact h
    · have := Nat.testBit_lt_two_pow (x := a) (i := i) (Nat.lt_of_lt_of_le ha (Nat.pow_le_pow_right (n := 2) (by omega) h))
      rw [this] at hi; cases hi
  have h1 : (1 <<< i : Nat) < 2 ^ 64 := by rw [Nat.one_shiftLeft]; exact Nat.pow_lt_pow_right (by omega) hi64
  refine Nat.eq_of_testBit_eq fun k => ?_
  have h2 : 18446744073709551615 - 1 <<< i = 2 ^ 64 - (1 <<< i + 1) := by omega
  rw [Nat.testBit_and, h2, Nat.testBit_two_pow_sub_succ h1, Nat.testBit_xor, Nat.one_shiftLeft, Nat.testBit_two_pow]
  by_cases hik : i = k
  · subst hik; simp [hi]
  · cases hak : a.testBit k
    · simp [hik]
    · have : k < 64 := by
        rcases Nat.lt_or_ge k 64 with h | h
        · exact h
        · have := Nat.testBit_lt_two_pow (x := a) (i := k) (Nat.lt_of_lt_of_le ha (Nat.pow_le_pow_right (n := 2) (by omega) h))
          rw [this] at hak; cases hak
      simp [hik, this]
theorem run_andNot_bit {P : Program} {t : TypeId} (a i : Nat) (ha : a < 4611686018427387904) (hi : a.testBit i = true) (w : World) : (binOp .andNot t (.int .i64 (a : Int)) (.int .i64 ((1 <<< i : Nat) : Int))).run P w = .ok (.int .i64 ((a ^^^ (1 <<< i) : Nat) : Int)) w := by
  have hi64 : i < 62 := by
    rcases Nat.lt_or_ge i 62 with h | h
    · exact h
    · have := Nat.testBit_lt_two_pow (x := a) (i := i) (Nat.lt_of_lt_of_le ha (Nat.pow_le_pow_right (n := 2) (by omega) h))
      rw [this] at hi; cases hi
  have h1 : (1 <<< i : Nat) < 2 ^ 62 := by rw [Nat.one_shiftLeft]; exact Nat.pow_lt_pow_right (by omega) hi64
  have hx : a ^^^ (1 <<< i) < 2 ^ 62 := Nat.xor_lt_two_pow (by omega) h1
  have hr : (BitVec.ofInt 64 (a : Int) &&& ~~~BitVec.ofInt 64 ((1 <<< i : Nat) : Int)).toNat = a ^^^ (1 <<< i) := by
    rw [BitVec.toNat_and, BitVec.toNat_not, ofInt_i64' a (by omega), ofInt_i64' (1 <<< i) (by omega)]
    have e : (2 ^ 64 - 1 - 1 <<< i : Nat) = 18446744073709551615 - 1 <<< i := by omega
    rw [e]
    exact andNot_xor a i (by omega) hi
  have hk : ∀ x y : Int, (binOp .andNot t (.int .i64 x) (.int .i64 y)).run P w = .ok (.int .i64 (IntKind.i64.wrap ((BitVec.ofInt 64 x &&& ~~~BitVec.ofInt 64 y).toNat : Int))) w := fun x y => rfl
  rw [hk, hr, i64_self (by omega)]
theorem shl_val {i : Nat} (h : i ≤ 61) : IntKind.i64.wrap ((2 : Int) ^ i) = ((1 <<< i : Nat) : Int) := by
  have h2 : 2 ^ i ≤ 2 ^ 61 := Nat.pow_le_pow_right (by omega) h
  have e : ((2 : Int) ^ i) = ((2 ^ i : Nat) : Int) := by rw [Int.natCast_pow]; rfl
  rw [e, i64_self (by omega)]
  congr 1
  rw [Nat.one_shiftLeft]
theorem or_val {a b : Nat} (ha : a < 4611686018427387904) (hb : b < 4611686018427387904) : bits .or .i64 (a : Int) (b : Int) = ((a ||| b : Nat) : Int) := by
  have hx : a ||| b < 2 ^ 62 := Nat.or_lt_two_pow (by omega) (by omega)
  show IntKind.i64.wrap ((BitVec.ofInt 64 (a : Int) ||| BitVec.ofInt 64 (b : Int)).toNat : Int) = _
  rw [BitVec.toNat_or, ofInt_i64' a (by omega), ofInt_i64' b (by omega), i64_self (by omega)]
theorem and_val {a b : Nat} (ha : a < 4611686018427387904) (hb : b < 4611686018427387904) : bits .and .i64 (a : Int) (b : Int) = ((a &&& b : Nat) : Int) := by
  have hx : a &&& b < 2 ^ 62 := Nat.and_lt_two_pow _ (by omega)
  show IntKind.i64.wrap ((BitVec.ofInt 64 (a : Int) &&& BitVec.ofInt 64 (b : Int)).toNat : Int) = _
  rw [BitVec.toNat_and, ofInt_i64' a (by omega), ofInt_i64' b (by omega), i64_self (by omega)]
theorem andNot_val {a i : Nat} (ha : a < 4611686018427387904) (hi : a.testBit i = true) : bits .andNot .i64 (a : Int) ((1 <<< i : Nat) : Int) = ((a ^^^ (1 <<< i) : Nat) : Int) := by
  have hi64 : i < 62 := by
    rcases Nat.lt_or_ge i 62 with h | h
    · exact h
    · have := Nat.testBit_lt_two_pow (x := a) (i := i) (Nat.lt_of_lt_of_le ha (Nat.pow_le_pow_right (n := 2) (by omega) h))
      rw [this] at hi; cases hi
  have h1 : (1 <<< i : Nat) < 2 ^ 62 := by rw [Nat.one_shiftLeft]; exact Nat.pow_lt_pow_right (by omega) hi64
  have hx : a ^^^ (1 <<< i) < 2 ^ 62 := Nat.xor_lt_two_pow (by omega) h1
  show IntKind.i64.wrap ((BitVec.ofInt 64 (a : Int) &&& ~~~BitVec.ofInt 64 ((1 <<< i : Nat) : Int)).toNat : Int) = _
  rw [BitVec.toNat_and, BitVec.toNat_not, ofInt_i64' a (by omega), ofInt_i64' (1 <<< i) (by omega)]
  have e : (2 ^ 64 - 1 - 1 <<< i : Nat) = 18446744073709551615 - 1 <<< i := by omega
  rw [e, andNot_xor a i (by omega) hi, i64_self (by omega)]
theorem wrap_wrap64 (z : Int) : IntKind.i64.wrap z = wrap64 z := by rw [IntKind.wrap_i64]; unfold wrap64; omega
theorem xor_pow_lt : ∀ (i a : Nat), a.testBit i = true → a ^^^ (2 ^ i) < a
  | 0, a, hi => by
    have h1 : (a ^^^ 1) / 2 = a / 2 := by rw [Nat.xor_div_two]; simp
    have h2 : (a ^^^ 1).testBit 0 = false := by rw [Nat.testBit_xor, hi]; rfl
    rw [Nat.testBit_zero] at hi h2
    have e1 : a % 2 = 1 := by simpa using hi
    have e2 : (a ^^^ 1) % 2 ≠ 1 := by simpa using h2
    rw [Nat.pow_zero]; omega
  | i + 1, a, hi => by
    have h1 : (a ^^^ 2 ^ (i + 1)) / 2 = a / 2 ^^^ 2 ^ i := by
      rw [Nat.xor_div_two, Nat.pow_succ, Nat.mul_div_cancel _ (by omega)]
    have h2 := xor_pow_lt i (a / 2) (by rw [Nat.testBit_div_two]; exact hi)
    omega
theorem xor_bit_lt {a i : Nat} (hi : a.testBit i = true) : a ^^^ (1 <<< i) < a := by
  rw [Nat.one_shiftLeft]; exact xor_pow_lt i a hi
theorem and_bit_zero {a i : Nat} (hi : a.testBit i = false) : a &&& (1 <<< i) = 0 := by
  refine Nat.eq_of_testBit_eq fun k => ?_
  rw [Nat.testBit_and, Nat.one_shiftLeft, Nat.testBit_two_pow, Nat.zero_testBit]
  by_cases e : i = k
  · subst e; rw [hi]; rfl
  · simp [e]
theorem and_bit_pos {a i : Nat} (hi : a.testBit i = true) : a &&& (1 <<< i) ≠ 0 := by
  intro h
  have := congrArg (·.testBit i) h
  simp [Nat.testBit_and, hi, Nat.one_shiftLeft] at this
end Go.Proofs.Ytpimbibmlmjjpaa
