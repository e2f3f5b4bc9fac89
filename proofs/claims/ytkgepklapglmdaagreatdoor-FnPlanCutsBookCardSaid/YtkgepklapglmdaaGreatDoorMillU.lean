/-
  Lemmas and contracts of single functions of this program, used by the proofs of its laws: what each call returns and what becomes of memory. Conditions: the hypotheses of each theorem.
-/
import Derived.Test.YtkgepklapglmdaaGreatDoorMillT
namespace Go.Proofs.YtkgepklapglmdaaGreatDoor
open Go.RowKit
attribute [local go_sem ↓] Go.wp_at_zero Go.wp_at_succ


/-- what a call returns that makes something of a mill, opened -/
def GenR (r : Option Mil) (rs : Bool) (es : List Ent) (a b z : Int) : Prop := (rs = true ∧ r = some ⟨es, a, b, z⟩) ∨ (rs = false ∧ r = none)
theorem GenR.mk (r : Option Mil) : GenR r r.isSome (r.getD Mil.nil).es (r.getD Mil.nil).a (r.getD Mil.nil).b (r.getD Mil.nil).z := by
  cases r with
  | none => exact .inr ⟨rfl, rfl⟩
  | some m => exact .inl ⟨rfl, rfl⟩
theorem Mil.i64 {m : Mil} (h : m.ok = true) : I64 m.a ∧ I64 m.b ∧ I64 m.z := by
  have hv := vMill_iff.1 h
  exact ⟨⟨by omega, by omega⟩, ⟨by omega, by omega⟩, ⟨by omega, by omega⟩⟩
end Go.Proofs.YtkgepklapglmdaaGreatDoor
