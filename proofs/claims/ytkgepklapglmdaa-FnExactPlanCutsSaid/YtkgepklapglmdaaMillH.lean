/-
  Lemmas and contracts of single functions of this program, used by the proofs of its laws: what each call returns and what becomes of memory. Conditions: the hypotheses of each theorem.
-/
import Derived.Test.YtkgepklapglmdaaMillF
namespace Go.Proofs.Ytkgepklapglmdaa
open Go.RowKit
attribute [local go_sem ↓] Go.wp_at_zero Go.wp_at_succ

theorem plcFrom_rng (n : Int) : ∀ (xs : List Int) (k : Nat), plcFrom xs n k = -1 ∨ ∃ i : Nat, plcFrom xs n k = ((k + i : Nat) : Int) ∧ i < xs.length
  | [], _ => .inl rfl
  | x :: t, k => by
    rw [plcFrom]
    by_cases hx : x = n
    · rw [if_pos hx]
      exact .inr ⟨0, rfl, by simp⟩
    · rw [if_neg hx]
      rcases plcFrom_rng n t (k + 1) with h | ⟨i, h, hi⟩
      · exact .inl h
      · exact .inr ⟨i + 1, by rw [h]; congr 1; omega, by simp; omega⟩
theorem entI_rng (es : List Ent) (lb : Int) : entI es lb < 0 ∨ ∃ i : Nat, entI es lb = (i : Int) ∧ i < es.length := by
  rcases plcFrom_rng lb (lbs es) 0 with h | ⟨i, h, hi⟩
  · left; show plcFrom (lbs es) lb 0 < 0; omega
  · right
    exact ⟨i, by show plcFrom (lbs es) lb 0 = _; rw [h, Nat.zero_add], by unfold lbs at hi; rwa [List.length_map] at hi⟩
/-- what a call returns that makes something of a mill -/
def ApPost (w : World) (r : Option Mil) (e : Ending) (w' : World) : Prop :=
  ∃ v', e = .returned (.tuple #[.agg #[v', .int .i64 (r.getD Mil.nil).a, .int .i64 (r.getD Mil.nil).b, .int .i64 (r.getD Mil.nil).z], .bool r.isSome]) ∧ ES w' w.heap.size w'.heap.size v' (r.getD Mil.nil).es ∧ Below w.heap.size w w'
theorem ES.nil (w : World) (lo hi : Nat) : ES w lo hi (.slice none 0 0) [] := ⟨none, 0, [], rfl, by simp, by simp [maxLen], ⟨by simp, fun h => absurd h (by simp)⟩, fun k hk => absurd hk (by simp)⟩
theorem ApPost.none {w w' : World} (h : Below w.heap.size w w') : ApPost w none (.returned (.tuple #[.agg #[.slice none 0 0, .int .i64 0, .int .i64 0, .int .i64 0], .bool false])) w' := ⟨_, rfl, ES.nil _ _ _, h⟩
theorem ApPost.some {w w' : World} {v : Value} {es : List Ent} {a b z : Int} (h : Below w.heap.size w w') (he : ES w' w.heap.size w'.heap.size v es) : ApPost w (some ⟨es, a, b, z⟩) (.returned (.tuple #[.agg #[v, .int .i64 a, .int .i64 b, .int .i64 z], .bool true])) w' := ⟨_, rfl, he, h⟩
end Go.Proofs.Ytkgepklapglmdaa
