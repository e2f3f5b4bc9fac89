/-
  Lemmas and contracts of single functions of this program, used by the proofs of its laws: what each call returns and what becomes of memory. Conditions: the hypotheses of each theorem.
-/
import Derived.Test.YtkgepklapglmdaaGreatDoorFrame
import Derived.Test.YtkgepklapglmdaaGreatDoorTxt1
import Derived.SliceStrings
namespace Go.Proofs.YtkgepklapglmdaaGreatDoor
open Go.ChangeShapes Go.WideShapes Go.ChangeAt Go.RowKit Go.Deep

/-- a slice of texts among the arguments -/
theorem strs_of_trod {H : Type} {enc : TypeId × Value → H} {P : Program} {w : World} {t q : TypeId} {a0 : Option Addr} {len cap : Nat} {d : DataW H} {p : List MemPlace} (ht : P.underlying t = some (.slice q)) (hq : P.underlying q = some .string) (cq : P.cellsOf q = 1)
    (h : DataW.Trod enc P w 0 (fun _ => true) true t (.slice a0 len cap) d p) : ∃ xs, Strs w 0 w.heap.size (.slice a0 len cap) xs ∧ ∀ x ∈ xs, x.length ≤ 2 ^ 63 - 1 := by
  obtain ⟨fuel, hf⟩ := h
  rcases open_strings ht hq cq hf with ⟨hcs, _⟩ | ⟨x, l, c, zs, hcs, _, hl, hm, hz, _, hcell, hwz⟩
  · simp [Value.cells] at hcs
    obtain ⟨rfl, rfl, rfl⟩ := hcs
    exact ⟨[], ⟨none, 0, rfl, by simp, by simp [maxLen], ⟨by simp [sV], fun h => absurd h (by simp)⟩⟩, by simp⟩
  · simp [Value.cells] at hcs
    obtain ⟨rfl, rfl, rfl⟩ := hcs
    simp only [if_true] at hz
    have hlen : ((zs.take len).map fun s => s.data.toList).length = len := by rw [List.length_map, List.length_take]; omega
    refine ⟨(zs.take len).map fun s => s.data.toList, ⟨some x, cap, by rw [hlen], by omega, hm, ⟨by simp [sV], fun h0 => ?_⟩⟩, fun y hy => ?_⟩
    · rw [hlen] at h0
      have h00 := hcell 0 (by omega)
      rw [show x.add 0 = x from rfl] at h00
      have hs := spot_none h00
      refine ⟨x.block, x.off, by rw [← hs], Nat.zero_le _, World.block_lt_of_cell? w x h00, fun j u hu => ?_⟩
      have hj : j < len := by
        have := (List.getElem?_eq_some_iff.1 hu).1
        unfold sV at this
        rw [List.length_map, hlen] at this
        exact this
      have h1 := hcell j (by omega)
      rw [hs, add_plain] at h1
      rw [h1, ← hu]
      have : j < zs.length := by omega
      simp [sV, hj, this, TB]
    · obtain ⟨s, hs, rfl⟩ := List.mem_map.1 hy
      have := hwz s (List.mem_of_mem_take hs)
      unfold maxLen at this
      have e : s.data.toList.length = s.size := by cases s; simp [ByteArray.size]
      omega
end Go.Proofs.YtkgepklapglmdaaGreatDoor
