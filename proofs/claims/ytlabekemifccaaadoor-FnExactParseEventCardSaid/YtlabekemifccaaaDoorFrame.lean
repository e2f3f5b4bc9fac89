/-
  Lemmas and contracts of single functions of this program, used by the proofs of its laws: what each call returns and what becomes of memory. Conditions: the hypotheses of each theorem.
-/
import Derived.Test.YtlabekemifccaaaDoorWords
import Derived.ProofKit
import Derived.OpenShut
import Derived.ShutString
import Derived.ChangeOld
import Derived.Below
import Derived.Deep.Matrix
namespace Go.Proofs.YtlabekemifccaaaDoor
open Go.ChangeShapes Go.WideShapes Go.ChangeAt Go.RowKit Go.Deep

theorem I64.of_wf {n : Int} (h : (Lit.int .i64 n).wf = true) : I64 n := by
  simp [Lit.wf] at h; unfold I64; exact h
theorem spot_none {w : World} {a : Addr} {v : Value} (h : w.cell? a = some v) : a = ⟨a.block, a.off, none⟩ := by
  obtain ⟨b, o, s⟩ := a
  unfold World.cell? at h
  cases s with
  | none => rfl
  | some x => simp at h; split at h <;> simp at h
theorem add_plain (b o j : Nat) : (⟨b, o, none⟩ : Addr).add j = ⟨b, o + j, none⟩ := by unfold Addr.add; split <;> simp_all

/-- a list that was read before the call -/
theorem ints_of_open {w : World} {A : Option Addr} {len cap : Nat} {zs : List Int} (hl : len ≤ cap) (hm : cap ≤ maxLen) (hz : zs.length = cap) (hA : A = none → cap = 0)
    (hc : ∀ a, A = some a → ∀ j, j < cap → w.cell? (a.add j) = some (.int .i64 (zs.getD j 0))) (hwf : ∀ n ∈ zs, (Lit.int .i64 n).wf = true) : Ints w 0 w.heap.size (.slice A len cap) (zs.take len) := by
  have hlen : (zs.take len).length = len := by rw [List.length_take]; omega
  refine ⟨A, cap, by rw [hlen], by omega, hm, ⟨by simp, fun h0 => ?_⟩, fun x hx => I64.of_wf (hwf x (List.mem_of_mem_take hx))⟩
  rw [hlen] at h0
  rcases A with _ | a
  · have := hA rfl; omega
  · have h00 := hc a rfl 0 (by omega)
    rw [show a.add 0 = a from rfl] at h00
    have hs := spot_none h00
    refine ⟨a.block, a.off, by rw [← hs], Nat.zero_le _, World.block_lt_of_cell? w a h00, fun j u hu => ?_⟩
    have hj : j < len := by
      have := (List.getElem?_eq_some_iff.1 hu).1
      rw [List.length_map, hlen] at this; exact this
    have h1 := hc a rfl j (by omega)
    rw [hs, add_plain] at h1
    rw [h1, ← hu]
    have : j < zs.length := by omega
    simp [hj, this]
theorem ints_of_trod {H : Type} {enc : TypeId × Value → H} {P : Program} {w : World} {t q : TypeId} {a0 : Option Addr} {len cap : Nat} {d : DataW H} {p : List MemPlace} (ht : P.underlying t = some (.slice q)) (hq : P.underlying q = some (.int .i64)) (cq : P.cellsOf q = 1)
    (h : DataW.Trod enc P w 0 (fun _ => true) true t (.slice a0 len cap) d p) : ∃ xs, Ints w 0 w.heap.size (.slice a0 len cap) xs := by
  obtain ⟨fuel, hf⟩ := h
  rcases open_ints ht hq cq hf with ⟨hcs, _⟩ | ⟨x, l, c, zs, hcs, _, hl, hm, hz, _, hcell, hwz⟩
  · simp [Value.cells] at hcs
    obtain ⟨rfl, rfl, rfl⟩ := hcs
    exact ⟨[], none, 0, rfl, by simp, by simp [maxLen], ⟨by simp, fun h => absurd h (by simp)⟩, by simp⟩
  · simp [Value.cells] at hcs
    obtain ⟨rfl, rfl, rfl⟩ := hcs
    simp only [if_true] at hz
    exact ⟨_, ints_of_open hl hm hz (fun e => by cases e) (fun a e j hj => by cases e; exact hcell j (by omega)) hwz⟩
theorem rows_of_trod {H : Type} {enc : TypeId × Value → H} {P : Program} {w : World} {t e q : TypeId} {a0 : Option Addr} {len cap : Nat} {d : DataW H} {p : List MemPlace} (ht : P.underlying t = some (.slice e)) (he : P.underlying e = some (.slice q)) (hq : P.underlying q = some (.int .i64)) (ce : P.cellsOf e = 1) (cq : P.cellsOf q = 1)
    (h : DataW.Trod enc P w 0 (fun _ => true) true t (.slice a0 len cap) d p) : ∃ xss, IRows w 0 w.heap.size (.slice a0 len cap) xss := by
  obtain ⟨fuel, hf⟩ := h
  rcases open_int_rows ht he hq ce cq hf with ⟨hcs, _⟩ | ⟨a, l, c, A, L, C, Z, hcs, _, hl, hm, _, hr⟩
  · simp [Value.cells] at hcs
    obtain ⟨rfl, rfl, rfl⟩ := hcs
    exact ⟨[], none, 0, [], rfl, by simp, by simp [maxLen], ⟨by simp, fun h => absurd h (by simp)⟩, fun k hk => absurd hk (by simp)⟩
  · simp [Value.cells] at hcs
    obtain ⟨rfl, rfl, rfl⟩ := hcs
    refine ⟨(List.range len).map fun r => (Z r).take (L r), some a, cap, (List.range len).map fun r => .slice (A r) (L r) (C r), by simp, by simpa using hl, hm, ⟨by simp, fun h0 => ?_⟩, fun k hk => ?_⟩
    · simp only [List.length_map, List.length_range] at h0
      have h00 := (hr 0 (by omega)).1
      rw [show a.add 0 = a from rfl] at h00
      have hs := spot_none h00
      refine ⟨a.block, a.off, by rw [← hs], Nat.zero_le _, World.block_lt_of_cell? w a h00, fun j u hu => ?_⟩
      have hj : j < len := by simpa using (List.getElem?_eq_some_iff.1 hu).1
      have h1 := (hr j (by omega)).1
      rw [hs, add_plain] at h1
      rw [h1, ← hu]
      simp [hj]
    · simp only [List.length_map, List.length_range] at hk
      obtain ⟨_, h2, h3, h4, h5, h6, h7⟩ := hr k (by omega)
      have e1 : gv ((List.range len).map fun r => .slice (A r) (L r) (C r)) k = .slice (A k) (L k) (C k) := by simp [gv, hk]
      have e2 : gr ((List.range len).map fun r => (Z r).take (L r)) k = (Z k).take (L k) := by simp [gr, hk]
      rw [e1, e2]
      exact ints_of_open h2 h3 h4 h6 (fun a' e j hj => (h7 a' e).2 j hj) h5

/-- a slice of bytes that is only read -/
def Bytes (w : World) (lo hi : Nat) (v : Value) (xs : List Int) : Prop :=
  ∃ A c, v = .slice A xs.length c ∧ xs.length ≤ c ∧ c ≤ maxLen ∧ Rd w lo hi 1 A xs.length (xs.map (.int .u8)) ∧ ∀ x ∈ xs, 0 ≤ x ∧ x ≤ 255
theorem bytes_of_trod {H : Type} {enc : TypeId × Value → H} {P : Program} {w : World} {t q : TypeId} {a0 : Option Addr} {len cap : Nat} {d : DataW H} {p : List MemPlace} (ht : P.underlying t = some (.slice q)) (hq : P.underlying q = some (.int .u8)) (cq : P.cellsOf q = 1)
    (h : DataW.Trod enc P w 0 (fun _ => true) true t (.slice a0 len cap) d p) : ∃ xs, Bytes w 0 w.heap.size (.slice a0 len cap) xs := by
  obtain ⟨fuel, hf⟩ := h
  rcases open_ints ht hq cq hf with ⟨hcs, _⟩ | ⟨x, l, c, zs, hcs, _, hl, hm, hz, _, hcell, hwz⟩
  · simp [Value.cells] at hcs
    obtain ⟨rfl, rfl, rfl⟩ := hcs
    exact ⟨[], none, 0, rfl, by simp, by simp [maxLen], ⟨by simp, fun h => absurd h (by simp)⟩, by simp⟩
  · simp [Value.cells] at hcs
    obtain ⟨rfl, rfl, rfl⟩ := hcs
    simp only [if_true] at hz
    have hlen : (zs.take len).length = len := by rw [List.length_take]; omega
    refine ⟨zs.take len, some x, cap, by rw [hlen], by omega, hm, ⟨by simp, fun h0 => ?_⟩, fun y hy => ?_⟩
    · rw [hlen] at h0
      have h00 := hcell 0 (by omega)
      rw [show x.add 0 = x from rfl] at h00
      have hs := spot_none h00
      refine ⟨x.block, x.off, by rw [← hs], Nat.zero_le _, World.block_lt_of_cell? w x h00, fun j u hu => ?_⟩
      have hj : j < len := by
        have := (List.getElem?_eq_some_iff.1 hu).1
        rw [List.length_map, hlen] at this; exact this
      have h1 := hcell j (by omega)
      rw [hs, add_plain] at h1
      rw [h1, ← hu]
      have : j < zs.length := by omega
      simp [hj, this]
    · have := hwz y (List.mem_of_mem_take hy)
      simp [Lit.wf] at this
      exact this
end Go.Proofs.YtlabekemifccaaaDoor
