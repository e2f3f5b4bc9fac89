/-
  Texts merged into one: what each function does, and plain lemmas. No condition.
-/
import Derived.Test.YtkgepklapglmdaaGreatDoorZa
import Derived.Laws.EntriesVeiled
import Derived.Test.YtkgepklapglmdaaGreatDoorIntsS
import Derived.BigQuiet
import Derived.Test.YtkgepklapglmdaaGreatDoorRegLast
namespace Go.Proofs.YtkgepklapglmdaaGreatDoor
open Go.RowKit
attribute [local go_sem ↓] Go.wp_at_zero Go.wp_at_succ

end Go.Proofs.YtkgepklapglmdaaGreatDoor

namespace Go.Proofs.YtkgepklapglmdaaGreatDoor
open Go.RowKit
attribute [local go_sem ↓] Go.wp_at_zero Go.wp_at_succ

/-! how many splices the rolls have: a list whose sum is told -/
def SpI (m : Nat) (s lo hi : Int) (ys : List Int) : Prop := ys.length = m ∧ ys.sum = s ∧ ∀ i, i < m → lo ≤ gi ys i ∧ gi ys i ≤ hi
theorem sum_set : ∀ {ys : List Int} {r : Nat}, r < ys.length → ∀ y, (ys.set r y).sum = ys.sum - gi ys r + y
  | [], _, h, _ => absurd h (by simp)
  | x :: t, 0, _, y => by simp only [List.set_cons_zero, List.sum_cons]; have : gi (x :: t) 0 = x := rfl; omega
  | x :: t, r + 1, h, y => by
    have ih := sum_set (ys := t) (r := r) (by simpa using h) y
    have e : gi (x :: t) (r + 1) = gi t r := by simp [gi]
    simp only [List.set_cons_succ, List.sum_cons]; omega
theorem gi_set_eq {ys : List Int} {r : Nat} (h : r < ys.length) (y : Int) : gi (ys.set r y) r = y := by simp [gi, h]
theorem gi_set_ne {ys : List Int} {r i : Nat} (h : r ≠ i) (y : Int) : gi (ys.set r y) i = gi ys i := by simp [gi, List.getD, List.getElem?_set_ne h]
theorem SpI.set {m r : Nat} {s lo hi lo' hi' y s' : Int} {ys : List Int} (h : SpI m s lo hi ys) (hr : r < m) (h1 : lo' ≤ lo) (h2 : hi ≤ hi') (h3 : lo' ≤ y ∧ y ≤ hi') (hs : s' = s - gi ys r + y) : SpI m s' lo' hi' (ys.set r y) := by
  obtain ⟨a, b, c⟩ := h
  refine ⟨by rw [List.length_set]; exact a, by rw [sum_set (by omega), b, hs], fun i hi => ?_⟩
  by_cases e : r = i
  · subst e; rw [gi_set_eq (by omega)]; exact h3
  · rw [gi_set_ne e]; have := c i hi; omega
theorem SpI.zeros (m : Nat) : SpI m 0 0 0 (List.replicate m 0) := by
  refine ⟨by simp, ?_, fun i hi => by simp [gi, hi]⟩
  induction m with
  | zero => rfl
  | succ m ih => rw [List.replicate_succ, List.sum_cons, ih]; rfl
end Go.Proofs.YtkgepklapglmdaaGreatDoor

namespace Go.Proofs.YtkgepklapglmdaaGreatDoor
open Go.RowKit
attribute [local go_sem ↓] Go.wp_at_zero Go.wp_at_succ

end Go.Proofs.YtkgepklapglmdaaGreatDoor

namespace Go.Proofs.YtkgepklapglmdaaGreatDoor
open Go.RowKit
attribute [local go_sem ↓] Go.wp_at_zero Go.wp_at_succ

theorem copyIntsR_any (lo hi : Nat) (v : Value) (xs : List Int) (w : World) (h : Ints w lo hi v xs) (hhi : hi ≤ w.heap.size) (hl : xs.length ≤ 1099511627776) :
    Calls Tryz.prog 75 #[v] w fun e w' => ∃ v', e = .returned v' ∧ OwnI w' w.heap.size 3 v' xs ∧ Below w.heap.size w w' := by
  obtain ⟨A, c, rfl, hc, hm⟩ := h.form
  have h2 : Ints (w.alloc (.cells #[] 3)) lo hi (.slice A xs.length c) xs := h.kept fun k _ hk => Below.heap_alloc w _ k (by omega)
  go_enter Tryz.func75, Tryz.ntmps75
  go_wp2_with (at_builtin; refine wpList_appendIs SlI _ rfl (.tmp 3) (.tmp 4) rfl _ _ _ w.heap.size _ [] _ rfl rfl (OwnI.empty _ _ _ (Nat.le_refl _)) h2 (by simpa using hl) (by simp) ?_; intro v' w1 hown1 hg)
  go_ret
  exact ⟨_, rfl, by simpa using hown1, ((Below.refl _ _).alloc (Nat.le_refl _) _).trans hg.below⟩
end Go.Proofs.YtkgepklapglmdaaGreatDoor

namespace Go.Proofs.YtkgepklapglmdaaGreatDoor
open Go.RowKit

/-! knives: the program's table of ways (with a far number) and the reference's (with -1) say the same -/
def vKn (xs : List Int) : Bool := decide (xs.length ≤ 24) && allR 0 60 xs && (List.range xs.length).all fun i => decide (i = 0 ∨ gi xs (i - 1) < gi xs i)
theorem vKn_iff {xs : List Int} : vKn xs = true ↔ xs.length ≤ 24 ∧ (∀ i, i < xs.length → 0 ≤ gi xs i ∧ gi xs i ≤ 60) ∧ ∀ i, i < xs.length → i = 0 ∨ gi xs (i - 1) < gi xs i := by
  unfold vKn
  rw [Bool.and_eq_true, Bool.and_eq_true, decide_eq_true_eq, allR_iff, List.all_eq_true]
  constructor
  · rintro ⟨⟨h1, h2⟩, h3⟩
    exact ⟨h1, h2, fun i hi => of_decide_eq_true (h3 i (List.mem_range.2 hi))⟩
  · rintro ⟨h1, h2, h3⟩
    exact ⟨⟨h1, h2⟩, fun i hi => decide_eq_true (h3 i (List.mem_range.1 hi))⟩
end Go.Proofs.YtkgepklapglmdaaGreatDoor

namespace Go.Proofs.YtkgepklapglmdaaGreatDoor
open Go.RowKit
attribute [local go_sem ↓] Go.wp_at_zero Go.wp_at_succ

def KnUp (xs : List Int) (k : Nat) : Prop := ∀ j, j < k → (0 ≤ gi xs j ∧ gi xs j ≤ 60) ∧ (j = 0 ∨ gi xs (j - 1) < gi xs j)
theorem KnUp.next {xs : List Int} {k : Nat} (h : KnUp xs k) (h1 : 0 ≤ gi xs k ∧ gi xs k ≤ 60) (h2 : k = 0 ∨ gi xs (k - 1) < gi xs k) : KnUp xs (k + 1) := fun j hj => by
  rcases Nat.lt_or_ge j k with h' | h'
  · exact h j h'
  · obtain rfl : j = k := by omega
    exact ⟨h1, h2⟩
theorem KnUp.all {xs : List Int} (h : KnUp xs xs.length) (hl : xs.length ≤ 24) : vKn xs = true := vKn_iff.2 ⟨hl, fun i hi => (h i hi).1, fun i hi => (h i hi).2⟩
end Go.Proofs.YtkgepklapglmdaaGreatDoor

namespace Go.Proofs.YtkgepklapglmdaaGreatDoor
open Go.RowKit
attribute [local go_sem ↓] Go.wp_at_zero Go.wp_at_succ

end Go.Proofs.YtkgepklapglmdaaGreatDoor

namespace Go.Proofs.YtkgepklapglmdaaGreatDoor
open Go.RowKit
attribute [local go_sem ↓] Go.wp_at_zero Go.wp_at_succ

theorem OwnI.one {w : World} {base e : Nat} {y : Int} (hb : base ≤ w.heap.size) (hy : I64 y) : OwnI (w.alloc (.cells #[.int .i64 y] e)) base e (.slice (some ⟨w.heap.size, 0, none⟩) 1 1) [y] :=
  ⟨⟨by simp, .inr ⟨w.heap.size, 1, _, rfl, hb, heap_alloc_new w _, Nat.le_refl _, by simp [maxLen], by simp, by simp⟩⟩, fun z hz => by rw [List.mem_singleton.1 hz]; exact hy⟩
theorem OwnR.one {w : World} {base tS tI m c : Nat} {A : Option Addr} {ys : List Int} (hu : OwnI w base tI (.slice A m c) ys) (hb : base ≤ w.heap.size) : OwnR (w.alloc (.cells #[.slice A m c] tS)) base (w.heap.size + 1) tS tI (.slice (some ⟨w.heap.size, 0, none⟩) 1 1) [ys] := by
  refine ⟨[.slice A m c], ⟨by simp, .inr ⟨w.heap.size, 1, _, rfl, hb, heap_alloc_new w _, Nat.le_refl _, by simp [maxLen], by simp, by simp⟩⟩, fun g hg => by simp [Value.ownBlock] at hg; omega, fun k hk => ?_, fun j k hjk hk => by simp at hk; omega⟩
  have : k = 0 := by simp at hk; omega
  subst this
  exact ⟨hu.alloc _, fun g hg => by have := (hu.lt g hg).2; omega⟩
end Go.Proofs.YtkgepklapglmdaaGreatDoor

namespace Go.Proofs.YtkgepklapglmdaaGreatDoor
open Go.RowKit
attribute [local go_sem ↓] Go.wp_at_zero Go.wp_at_succ

end Go.Proofs.YtkgepklapglmdaaGreatDoor
