/-
  Lemmas and contracts of single functions of this program, used by the proofs of its laws: what each call returns and what becomes of memory. Conditions: the hypotheses of each theorem.
-/
import Derived.Test.YtkgepklapglmdaaGreatDoorOwn
namespace Go.Proofs.YtkgepklapglmdaaGreatDoor
open Go.RowKit

theorem Ints.take {w : World} {lo hi n c : Nat} {A : Option Addr} {xs : List Int} (h : Ints w lo hi (.slice A n c) xs) {i : Nat} (hi' : i ≤ xs.length) : Ints w lo hi (.slice A i c) (xs.take i) := by
  obtain ⟨A', c', e, hc, hm, ⟨hl, hr⟩, h64⟩ := h
  obtain ⟨rfl, rfl, rfl⟩ : A = A' ∧ n = xs.length ∧ c = c' := by simpa using e
  have hli : (xs.take i).length = i := by rw [List.length_take]; omega
  refine ⟨A, c, by rw [hli], by omega, hm, ⟨by simp, fun h0 => ?_⟩, fun x hx => h64 x (List.mem_of_mem_take hx)⟩
  rw [hli] at h0
  obtain ⟨b, o, e1, h1, h2, h3⟩ := hr (by omega)
  refine ⟨b, o, e1, h1, h2, fun j u hu => h3 j u ?_⟩
  rw [List.map_take, List.getElem?_take] at hu
  split at hu
  · exact hu
  · cases hu
theorem lit_own (w : World) (t : TypeId) (xs : List Int) (hl : xs.length ≤ 1000) (hx : ∀ x ∈ xs, I64 x) : OwnI (w.alloc (.cells (xs.map (Value.int .i64)).toArray t)) w.heap.size t (.slice (some ⟨w.heap.size, 0, none⟩) xs.length xs.length) xs := by
  refine ⟨⟨by simp, .inr ⟨w.heap.size, xs.length, _, rfl, Nat.le_refl _, heap_alloc_new w _, Nat.le_refl _, by simp only [maxLen]; omega, by simp, ?_⟩⟩, hx⟩
  rw [List.take_of_length_le (by simp)]

end Go.Proofs.YtkgepklapglmdaaGreatDoor
