/-
  A region that draws its order, whose last operation (a store) may end what the loads rely on: a law of my own beside the library's. Conditions: the hypotheses of each theorem.
-/
import Derived.Deep.RegionHeld3
import Derived.Deep.RegionWith
namespace Go.Proofs.YtkgepklapglmdaaGreatDoor
open Go

section
variable {P : Program} {ops : Array Oper} {Q : Exit → Act → World → Prop} {md : Region.Mode} {S : World → Prop} {z : Nat}

/-- whatever comes up next: S holds behind it, unless it is operation z -/
def AnyL (P : Program) (md : Region.Mode) (ops : Array Oper) (Q : Exit → Act → World → Prop) (S : World → Prop) (z : Nat) (fuel : Nat) (l : Array Bool) (a : Act) (w : World) : Prop :=
  match fuel with
  | 0 => Region.ready md ops l = [] ∧ Q .normal a w
  | f + 1 => (Region.ready md ops l = [] → Q .normal a w) ∧ ∀ j, j ∈ Region.ready md ops l → wpOp P ops Q j (fun a2 w2 => (j ≠ z → S w2) ∧ AnyL P md ops Q S z f (l.setIfInBounds j true) a2 w2) a w
theorem AnyL.any : ∀ {fuel : Nat} {l : Array Bool} {a : Act} {w : World}, AnyL P md ops Q S z fuel l a w → wpAny P md ops Q fuel l a w
  | 0, _, _, _, h => h
  | _ + 1, _, _, _, h => ⟨h.1, fun j hj => wpOp_mono (fun _ _ h2 => AnyL.any h2.2) (h.2 j hj)⟩
/-- z waits for i by an edge of its own -/
def waits (md : Region.Mode) (ops : Array Oper) (z i : Nat) : Bool := match ops[z]? with
  | some o => o.after.any fun e => Region.binds md e && e.on == i
  | none => true
theorem waits_not {i : Nat} {l : Array Bool} (h : waits md ops z i = true) (hi : i ∈ Region.ready md ops l) (hz : z ∈ Region.ready md ops l) : False := by
  obtain ⟨_, oz, hoz, hall⟩ := mem_ready.1 hz
  have h0 := (mem_ready.1 hi).1
  unfold waits at h
  rw [hoz] at h
  obtain ⟨k, hk, he⟩ := Array.any_eq_true.1 h
  rw [Bool.and_eq_true, beq_iff_eq] at he
  have h1 := hall _ (Array.getElem_mem hk) he.1
  rw [he.2] at h1
  rcases Nat.lt_or_ge i l.size with h2 | h2
  · simp [h2] at h0 h1; rw [h0] at h1; cases h1
  · simp [Array.getElem?_eq_none h2] at h1
/-- an operation that yields in every world that meets S may be taken first -/
theorem AnyL.first {i : Nat} {oi : Oper} {v : Value} (hi : ops[i]? = some oi) (hsel : ∀ (j : Nat) (o : Oper) cs b, ops[j]? = some o → o.op ≠ .select cs b) (hw : waits md ops z i = true)
    (hQ : ∀ c a w, Q (.panic c) (a.put oi.dst v) w → Q (.panic c) a w) : ∀ {fuel : Nat} {l : Array Bool} {a : Act} {w : World},
      (∀ j oj, ops[j]? = some oj → j ≠ i → l.getD j true = false → (∀ e ∈ oj.after, Region.binds md e = true → e.on ≠ i) → oi.apart ops oj = true) →
      i ∈ Region.ready md ops l → YieldsIf P ops S oi v a → S w → AnyL P md ops Q S z fuel (l.setIfInBounds i true) (a.put oi.dst v) w → AnyL P md ops Q S z (fuel + 1) l a w := by
  intro fuel
  induction fuel with
  | zero =>
    intro l a w _ hr hy hS H
    refine ⟨fun h => absurd hr (by rw [h]; exact List.not_mem_nil), fun j hj => ?_⟩
    rcases Nat.lt_trichotomy j i with hji | rfl | hji
    · have := ready_mono hj (show j ≠ i by omega); rw [H.1] at this; cases this
    · exact hy.wpOp hi hS ⟨fun _ => hS, H⟩
    · have := ready_mono hj (show j ≠ i by omega); rw [H.1] at this; cases this
  | succ fuel ih =>
    intro l a w hf hr hy hS H
    refine ⟨fun h => absurd hr (by rw [h]; exact List.not_mem_nil), fun j hj => ?_⟩
    by_cases hji : j = i
    · subst hji; exact hy.wpOp hi hS ⟨fun _ => hS, H⟩
    · have hjz : j ≠ z := fun e => waits_not hw hr (e ▸ hj)
      obtain ⟨hun, oj, hoj, hall⟩ := mem_ready.1 hj
      have hno : ∀ e ∈ oj.after, Region.binds md e = true → e.on ≠ i := fun e he hb heq => by
        have h1 := hall e he hb
        have h0 := (mem_ready.1 hr).1
        rw [heq] at h1
        rcases Nat.lt_or_ge i l.size with h2 | h2
        · simp [h2] at h0 h1; rw [h0] at h1; cases h1
        · simp [Array.getElem?_eq_none h2] at h1
      have step := wpOp_putIf hoj (hf j oj hoj hji hun hno) (fun cs b => hsel i oi cs b hi) (fun cs b => hsel j oj cs b hoj) hQ hy (H.2 j (ready_mono hj hji))
      refine wpOp_mono (fun a2 w2 h3 => ⟨h3.2.1, ?_⟩) step
      refine ih (fun k ok hk hki hunk hnok => ?_) (ready_mono hr (Ne.symm hji)) h3.1 (h3.2.1 hjz) ?_
      · refine hf k ok hk hki ?_ hnok
        by_cases e : j = k
        · subst e; exact hun
        · rwa [getD_set_ne true e] at hunk
      · rw [Array.setIfInBounds_comm _ _ hji]; exact h3.2.2
/-- take it first: the side conditions as the base's own Bools -/
theorem AnyL.take {i : Nat} {oi : Oper} {v : Value} {fuel : Nat} {l : Array Bool} {a : Act} {w : World} (hi : ops[i]? = some oi) (hs : Region.noSelect ops = true) (hf : Region.free md ops l i = true) (hr : (Region.ready md ops l).contains i = true) (hw : waits md ops z i = true)
    (hQ : ∀ c a w, Q (.panic c) (a.put oi.dst v) w → Q (.panic c) a w) (hy : YieldsIf P ops S oi v a) (hS : S w)
    (h : AnyL P md ops Q S z fuel (l.setIfInBounds i true) (a.put oi.dst v) w) : AnyL P md ops Q S z (fuel + 1) l a w :=
  AnyL.first hi (Region.noSelect_spec hs) hw hQ (Region.free_spec hi hf) (by simpa using hr) hy hS h
/-- the one that alone may come up -/
theorem AnyL.one {i : Nat} {o : Oper} {fuel : Nat} {l : Array Bool} {a : Act} {w : World} (hr : Region.ready md ops l = [i]) (ho : ops[i]? = some o)
    (h : ∀ K : Act → World → Prop, Shut (∀ a2 w2, S w2 → (S w2 → AnyL P md ops Q S z fuel (l.setIfInBounds i true) a2 w2) → K a2 w2) → if Region.wanted o (yielded ops a.tmps) = true then Oper.wp P o a w K Q else K (a.put o.dst undef) w) : AnyL P md ops Q S z (fuel + 1) l a w :=
  ⟨fun e => absurd (hr.symm.trans e) (by simp), fun j hj => by
    rw [hr] at hj
    obtain rfl := List.mem_singleton.1 hj
    exact wpOp_step ho fun K hK => h K fun a2 w2 hS hW => hK a2 w2 ⟨fun _ => hS, hW hS⟩⟩
/-- z itself, the last: behind it nothing is asked of S -/
theorem AnyL.last {o : Oper} {fuel : Nat} {l : Array Bool} {a : Act} {w : World} (hr : Region.ready md ops l = [z]) (ho : ops[z]? = some o) (he : Region.ready md ops (l.setIfInBounds z true) = [])
    (h : ∀ K : Act → World → Prop, Shut (∀ a2 w2, Q .normal a2 w2 → K a2 w2) → if Region.wanted o (yielded ops a.tmps) = true then Oper.wp P o a w K Q else K (a.put o.dst undef) w) : AnyL P md ops Q S z (fuel + 1) l a w :=
  ⟨fun e => absurd (hr.symm.trans e) (by simp), fun j hj => by
    rw [hr] at hj
    obtain rfl := List.mem_singleton.1 hj
    exact wpOp_step ho fun K hK => h K fun a2 w2 hQ => hK a2 w2 ⟨fun e => absurd rfl e, by
      cases fuel with
      | zero => exact ⟨he, hQ⟩
      | succ f => exact ⟨fun _ => hQ, fun k hk => by rw [he] at hk; cases hk⟩⟩⟩
theorem wp_region_last {id : Nat} {a : Act} {w : World} (z : Nat) (hm : P.follows .mixedOrders = true) (hS : S w.drew)
    (h : S w.drew → AnyL P .any ops Q S z ops.size (Array.replicate ops.size false) a w.drew) : (Code.region id ops true).wp P Q a w :=
  wp_region_any hm (AnyL.any (h hS))
end
end Go.Proofs.YtkgepklapglmdaaGreatDoor
