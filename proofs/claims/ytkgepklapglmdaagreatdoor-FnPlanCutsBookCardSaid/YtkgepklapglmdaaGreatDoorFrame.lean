/-
  Lemmas and contracts of single functions of this program, used by the proofs of its laws: what each call returns and what becomes of memory. Conditions: the hypotheses of each theorem.
-/
import Derived.Test.YtkgepklapglmdaaGreatDoorWords
import Derived.ProofKit
import Derived.OpenShut
import Derived.ShutString
import Derived.ChangeOld
import Derived.Below
import Derived.Deep.Matrix
namespace Go.Proofs.YtkgepklapglmdaaGreatDoor
open Go.ChangeShapes Go.WideShapes Go.ChangeAt Go.RowKit Go.Deep

theorem spot_none {w : World} {a : Addr} {v : Value} (h : w.cell? a = some v) : a = ⟨a.block, a.off, none⟩ := by
  obtain ⟨b, o, s⟩ := a
  unfold World.cell? at h
  cases s with
  | none => rfl
  | some x => simp at h; split at h <;> simp at h
theorem add_plain (b o j : Nat) : (⟨b, o, none⟩ : Addr).add j = ⟨b, o + j, none⟩ := by unfold Addr.add; split <;> simp_all

/-- a slice of bytes that is only read -/
def Bytes (w : World) (lo hi : Nat) (v : Value) (xs : List Int) : Prop :=
  ∃ A c, v = .slice A xs.length c ∧ xs.length ≤ c ∧ c ≤ maxLen ∧ Rd w lo hi 1 A xs.length (xs.map (.int .u8)) ∧ ∀ x ∈ xs, 0 ≤ x ∧ x ≤ 255
theorem bytes_of_trod {H : Type} {enc : TypeId × Value → H} {P : Program} {w : World} {t q : TypeId} {a0 : Option Addr} {len cap : Nat} {d : DataW H} {p : List MemPlace} (ht : P.underlying t = some (.slice q)) (hq : P.underlying q = some (.int .u8)) (cq : P.cellsOf q = 1)
    (h : DataW.Trod enc P w 0 (fun _ => true) true t (.slice a0 len cap) d p) : ∃ xs, Bytes w 0 w.heap.size (.slice a0 len cap) xs := by
  obtain ⟨fuel, hf⟩ := h
  rcases open_ints ht hq cq hf with ⟨hcs, _⟩ | ⟨x, l, c, zs, hcs, _, hl, hm, hz, _, hcell, hwz⟩
  · simp [Value.cells] at hcs
    obtain ⟨rfl, rfl, rfl⟩ := hcs
    exact ⟨[], none, 0, rfl, by simp, by simp [maxLen], ⟨by simp, fun h => absurd h (by simp)⟩, by simp⟩
  · simp [Value.cells] at hcs
    obtain ⟨rfl, rfl, rfl⟩ := hcs
    simp only [if_true] at hz
    have hlen : (zs.take len).length = len := by rw [List.length_take]; omega
    refine ⟨zs.take len, some x, cap, by rw [hlen], by omega, hm, ⟨by simp, fun h0 => ?_⟩, fun y hy => ?_⟩
    · rw [hlen] at h0
      have h00 := hcell 0 (by omega)
      rw [show x.add 0 = x from rfl] at h00
      have hs := spot_none h00
      refine ⟨x.block, x.off, by rw [← hs], Nat.zero_le _, World.block_lt_of_cell? w x h00, fun j u hu => ?_⟩
      have hj : j < len := by
        have := (List.getElem?_eq_some_iff.1 hu).1
        rw [List.length_map, hlen] at this; exact this
      have h1 := hcell j (by omega)
      rw [hs, add_plain] at h1
      rw [h1, ← hu]
      have : j < zs.length := by omega
      simp [hj, this]
    · have := hwz y (List.mem_of_mem_take hy)
      simp [Lit.wf] at this
      exact this
end Go.Proofs.YtkgepklapglmdaaGreatDoor
