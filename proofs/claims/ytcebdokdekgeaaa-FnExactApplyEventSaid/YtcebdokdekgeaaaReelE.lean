/-
  Lemmas and contracts of single functions of this program, used by the proofs of its laws: what each call returns and what becomes of memory. Conditions: the hypotheses of each theorem.
-/
import Derived.Test.YtcebdokdekgeaaaReelA
namespace Go.Proofs.Ytcebdokdekgeaaa
open Go.RowKit
attribute [local go_sem ↓] Go.wp_at_zero Go.wp_at_succ

theorem w64 {n : Int} (h : -9223372036854775808 ≤ n ∧ n ≤ 9223372036854775807) : wrap64 n = n := by unfold wrap64; omega
/-- 'validPart' of the reference, wraps and all -/
def spB (l r f t W L : Int) : Bool := inR 0 (wrap64 (W - 1)) l && inR (wrap64 (l + 1)) W r && inR 0 (wrap64 (L - 1)) f && inR (wrap64 (f + 1)) L t
theorem spB_ins {l r f t W L : Int} (h1 : 1 ≤ W) (h2 : W ≤ 60) (h3 : 1 ≤ L) (h4 : L ≤ 400) : spB l r f t W L = insB l r f t W L := by
  have w1 : wrap64 (W - 1) = W - 1 := w64 (by omega)
  have w2 : wrap64 (L - 1) = L - 1 := w64 (by omega)
  unfold spB
  rw [w1, w2]
  by_cases a : 0 ≤ l ∧ l ≤ W - 1
  · have w3 : wrap64 (l + 1) = l + 1 := w64 (by omega)
    rw [w3]
    by_cases b : 0 ≤ f ∧ f ≤ L - 1
    · have w4 : wrap64 (f + 1) = f + 1 := w64 (by omega)
      rw [w4, Bool.eq_iff_iff, insB_iff]
      unfold inR; simp; omega
    · rw [inR_no b]
      cases e : insB l r f t W L
      · simp
      · have := insB_true e; omega
  · rw [inR_no a]
    cases e : insB l r f t W L
    · simp
    · have := insB_true e; omega
def neighB (a b : List Int) : Bool :=
  ((decide (gi a 1 = gi b 0) || decide (gi b 1 = gi a 0)) && (decide (gi a 2 < gi b 3) && decide (gi b 2 < gi a 3))) ||
  ((decide (gi a 3 = gi b 2) || decide (gi b 3 = gi a 2)) && (decide (gi a 0 < gi b 1) && decide (gi b 0 < gi a 1)))

set_option maxHeartbeats 1000000 in
theorem validPart_any (l r f t W L : Int) (A : Option Addr) (n c : Nat) (w : World) :
    Calls Try.prog 103 #[.agg #[.int .i64 W, .int .i64 L, .slice A n c], .agg #[.int .i64 l, .int .i64 r, .int .i64 f, .int .i64 t]] w fun e w' => e = .returned (.bool (spB l r f t W L)) ∧ Below w.heap.size w w' := by
  go_enter Try.func103, Try.ntmps103
  go_wp2_with (go_at_call 69; refine (inRange_any _ _ _ _).mono ?_; rintro e w' ⟨rfl, rfl⟩)
  all_goals go_ret
  all_goals exact ⟨ret_bool (by unfold spB; simp [*]), ((Below.refl _ _).alloc (Nat.le_refl _) _).alloc (by simp) _⟩
set_option maxHeartbeats 800000 in
theorem meets_any (l1 r1 f1 t1 g l2 r2 f2 t2 : Int) (w : World) :
    Calls Try.prog 107 #[.agg #[.int .i64 l1, .int .i64 r1, .int .i64 f1, .int .i64 t1, .int .i64 g], .agg #[.int .i64 l2, .int .i64 r2, .int .i64 f2, .int .i64 t2]] w fun e w' => e = .returned (.bool (meetB l1 r1 f1 t1 l2 r2 f2 t2)) ∧ Below w.heap.size w w' := by
  go_enter Try.func107, Try.ntmps107
  go_wp2
  all_goals go_ret
  all_goals exact ⟨ret_bool (by unfold meetB; simp [*] <;> omega), ((Below.refl _ _).alloc (Nat.le_refl _) _).alloc (by simp) _⟩
set_option maxHeartbeats 800000 in
theorem partsMeet_any (l1 r1 f1 t1 l2 r2 f2 t2 : Int) (w : World) :
    Calls Try.prog 104 #[.agg #[.int .i64 l1, .int .i64 r1, .int .i64 f1, .int .i64 t1], .agg #[.int .i64 l2, .int .i64 r2, .int .i64 f2, .int .i64 t2]] w fun e w' => e = .returned (.bool (meetB l1 r1 f1 t1 l2 r2 f2 t2)) ∧ Below w.heap.size w w' := by
  go_enter Try.func104, Try.ntmps104
  go_wp2
  all_goals go_ret
  all_goals exact ⟨ret_bool (by unfold meetB; simp [*] <;> omega), ((Below.refl _ _).alloc (Nat.le_refl _) _).alloc (by simp) _⟩
set_option maxHeartbeats 1000000 in
theorem validDefect_any (l r f t g W L : Int) (A : Option Addr) (n c : Nat) (w : World) :
    Calls Try.prog 111 #[.agg #[.int .i64 W, .int .i64 L, .slice A n c], .agg #[.int .i64 l, .int .i64 r, .int .i64 f, .int .i64 t, .int .i64 g]] w fun e w' => e = .returned (.bool (spB l r f t W L && inR 1 9 g)) ∧ Below w.heap.size w w' := by
  go_enter Try.func111, Try.ntmps111
  go_wp2_with (go_at_call 69; refine (inRange_any _ _ _ _).mono ?_; rintro e w' ⟨rfl, rfl⟩)
  all_goals go_ret
  all_goals exact ⟨ret_bool (by unfold spB; simp [*]), ((Below.refl _ _).alloc (Nat.le_refl _) _).alloc (by simp) _⟩
end Go.Proofs.Ytcebdokdekgeaaa
