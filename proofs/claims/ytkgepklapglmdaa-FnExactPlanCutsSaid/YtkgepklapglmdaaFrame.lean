/-
  Lemmas and contracts of single functions of this program, used by the proofs of its laws: what each call returns and what becomes of memory. Conditions: the hypotheses of each theorem.
-/
import Derived.Test.YtkgepklapglmdaaWords
import Derived.ProofKit
import Derived.OpenShut
import Derived.ShutString
import Derived.ChangeOld
import Derived.Below
import Derived.Deep.Matrix
namespace Go.Proofs.Ytkgepklapglmdaa
open Go.ChangeShapes Go.WideShapes Go.ChangeAt Go.RowKit Go.Deep

theorem I64.of_wf {n : Int} (h : (Lit.int .i64 n).wf = true) : I64 n := by
  simp [Lit.wf] at h; unfold I64; exact h
theorem spot_none {w : World} {a : Addr} {v : Value} (h : w.cell? a = some v) : a = ⟨a.block, a.off, none⟩ := by
  obtain ⟨b, o, s⟩ := a
  unfold World.cell? at h
  cases s with
  | none => rfl
  | some x => simp at h; split at h <;> simp at h
theorem add_plain (b o j : Nat) : (⟨b, o, none⟩ : Addr).add j = ⟨b, o + j, none⟩ := by unfold Addr.add; split <;> simp_all

/-- a list that was read before the call -/
theorem ints_of_open {w : World} {A : Option Addr} {len cap : Nat} {zs : List Int} (hl : len ≤ cap) (hm : cap ≤ maxLen) (hz : zs.length = cap) (hA : A = none → cap = 0)
    (hc : ∀ a, A = some a → ∀ j, j < cap → w.cell? (a.add j) = some (.int .i64 (zs.getD j 0))) (hwf : ∀ n ∈ zs, (Lit.int .i64 n).wf = true) : Ints w 0 w.heap.size (.slice A len cap) (zs.take len) := by
  have hlen : (zs.take len).length = len := by rw [List.length_take]; omega
  refine ⟨A, cap, by rw [hlen], by omega, hm, ⟨by simp, fun h0 => ?_⟩, fun x hx => I64.of_wf (hwf x (List.mem_of_mem_take hx))⟩
  rw [hlen] at h0
  rcases A with _ | a
  · have := hA rfl; omega
  · have h00 := hc a rfl 0 (by omega)
    rw [show a.add 0 = a from rfl] at h00
    have hs := spot_none h00
    refine ⟨a.block, a.off, by rw [← hs], Nat.zero_le _, World.block_lt_of_cell? w a h00, fun j u hu => ?_⟩
    have hj : j < len := by
      have := (List.getElem?_eq_some_iff.1 hu).1
      rw [List.length_map, hlen] at this; exact this
    have h1 := hc a rfl j (by omega)
    rw [hs, add_plain] at h1
    rw [h1, ← hu]
    have : j < zs.length := by omega
    simp [hj, this]
theorem ints_of_trod {H : Type} {enc : TypeId × Value → H} {P : Program} {w : World} {t q : TypeId} {a0 : Option Addr} {len cap : Nat} {d : DataW H} {p : List MemPlace} (ht : P.underlying t = some (.slice q)) (hq : P.underlying q = some (.int .i64)) (cq : P.cellsOf q = 1)
    (h : DataW.Trod enc P w 0 (fun _ => true) true t (.slice a0 len cap) d p) : ∃ xs, Ints w 0 w.heap.size (.slice a0 len cap) xs := by
  obtain ⟨fuel, hf⟩ := h
  rcases open_ints ht hq cq hf with ⟨hcs, _⟩ | ⟨x, l, c, zs, hcs, _, hl, hm, hz, _, hcell, hwz⟩
  · simp [Value.cells] at hcs
    obtain ⟨rfl, rfl, rfl⟩ := hcs
    exact ⟨[], none, 0, rfl, by simp, by simp [maxLen], ⟨by simp, fun h => absurd h (by simp)⟩, by simp⟩
  · simp [Value.cells] at hcs
    obtain ⟨rfl, rfl, rfl⟩ := hcs
    simp only [if_true] at hz
    exact ⟨_, ints_of_open hl hm hz (fun e => by cases e) (fun a e j hj => by cases e; exact hcell j (by omega)) hwz⟩
end Go.Proofs.Ytkgepklapglmdaa
