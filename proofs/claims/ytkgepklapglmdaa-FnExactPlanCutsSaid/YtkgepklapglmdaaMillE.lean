/-
  Lemmas and contracts of single functions of this program, used by the proofs of its laws: what each call returns and what becomes of memory. Conditions: the hypotheses of each theorem.
-/
import Derived.Test.YtkgepklapglmdaaMillD
import Derived.Test.YtkgepklapglmdaaMillX
import Derived.Test.YtkgepklapglmdaaMillG
import Derived.Test.YtkgepklapglmdaaRegLast
namespace Go.Proofs.Ytkgepklapglmdaa
open Go.RowKit
attribute [local go_sem ↓] Go.wp_at_zero Go.wp_at_succ

theorem TS.nil (w : World) (lo hi k : Nat) : TS w lo hi k (.slice none 0 0) [] := ⟨none, 0, rfl, by simp, by simp [maxLen], ⟨by simp [flatT], fun h => absurd h (by simp)⟩, by simp⟩
theorem OwnX.apart {w : World} {base lo hi tE : Nat} {v : Value} {es : List Ent} (h : OwnX w base lo hi tE v es) {B : Nat} {cs : Array Value} {t : TypeId} (hp : w.heap[B]? = some (.cells cs t (0, 0))) (h1 : tE ≠ t) : some B ≠ v.ownBlock := by
  obtain ⟨c9, vd, vp, k1, _⟩ := h
  intro e
  obtain ⟨cur, hc⟩ := own_home k1 e.symm
  rw [hp] at hc
  simp at hc
  exact h1 hc.2.symm
theorem OwnX.setFar {w : World} {base lo hi tE : Nat} {v : Value} {es : List Ent} (h : OwnX w base lo hi tE v es) {p : Addr} (h1 : some p.block ≠ v.ownBlock) (h2 : p.block < lo ∨ hi ≤ p.block) (u : Value) : OwnX (w.setCell p u) base lo hi tE v es := by
  obtain ⟨cs, vd, vp, k1, k2⟩ := h
  have hk : Kept lo hi w (w.setCell p u) := fun g hg1 hg2 => Below.heap_setCell w _ _ g (by intro e; subst e; omega)
  refine ⟨cs, vd, vp, ownsRow_keptBlock k1 fun g hg => Below.heap_setCell w _ _ g (by intro e; subst e; exact h1 hg.symm), fun k hkl => ?_⟩
  obtain ⟨a, b, c, d⟩ := k2 k hkl
  exact ⟨a, b, c.kept hk, d.kept hk⟩
theorem new_apart {v v' : Value} {F g : Nat} (h : some F ≠ v.ownBlock) (hb : v'.ownBlock = v.ownBlock ∨ v'.ownBlock = some g) (hg : F ≠ g) : some F ≠ v'.ownBlock := by
  rcases hb with e | e <;> rw [e]
  · exact h
  · intro e2; injection e2 with e2; exact hg e2
/-- the mill that grows (block B), the new entry beside it (block F) -/
def OutM (w : World) (base lo hi tE tM B F : Nat) (u : Value) (es : List Ent) (a b z lb W L : Int) : Prop :=
  OwnX w base lo hi tE u es ∧ (w.cell? ⟨B, 0, none⟩ = some u ∧ w.cell? ⟨B, 1, none⟩ = some (.int .i64 a) ∧ w.cell? ⟨B, 2, none⟩ = some (.int .i64 b) ∧ w.cell? ⟨B, 3, none⟩ = some (.int .i64 z) ∧ w.frozen? ⟨B, 0, none⟩ = false) ∧ (∃ cs, w.heap[B]? = some (.cells cs tM (0, 0))) ∧
    (w.cell? ⟨F, 0, none⟩ = some (.int .i64 lb) ∧ w.cell? ⟨F, 1, none⟩ = some (.int .i64 W) ∧ w.cell? ⟨F, 2, none⟩ = some (.int .i64 L) ∧ w.cell? ⟨F, 3, none⟩ = some (.slice none 0 0) ∧ w.cell? ⟨F, 4, none⟩ = some (.slice none 0 0)) ∧ some F ≠ u.ownBlock
theorem OutM.step {w w2 : World} {base lo hi tE tM B F g : Nat} {u v : Value} {es fs : List Ent} {a b z lb W L : Int} (h : OutM w base lo hi tE tM B F u es a b z lb W L) (hT : tE ≠ tM) (hBF : ¬ B = F) (hhi : hi ≤ B) (ho : OwnX w2 base lo hi tE v fs) (hg : Grew base u v w w2) (hb : v.ownBlock = u.ownBlock ∨ v.ownBlock = some g) (hw : w.heap.size ≤ g) :
    OutM (w2.setCell ⟨B, 0, none⟩ v) base lo hi tE tM B F v fs a b z lb W L := by
  obtain ⟨h1, ⟨q0, q1, q2, q3, fq⟩, ⟨cs, hB⟩, ⟨p0, p1, p2, p3, p4⟩, hF⟩ := h
  have hBz : B < w.heap.size := (Array.getElem?_eq_some_iff.1 hB).1
  have hFz : F < w.heap.size := World.block_lt_of_cell? w _ p0
  have e1 := hg.other B hBz (h1.apart hB hT)
  have e2 := hg.other F hFz hF
  have e3 : (w2.setCell ⟨B, 0, none⟩ v).heap[F]? = w.heap[F]? := (Below.heap_setCell w2 _ _ F (Ne.symm hBF)).trans e2
  have hB2 : w2.heap[B]? = some (.cells cs tM (0, 0)) := e1.trans hB
  have hF2 : some F ≠ v.ownBlock := new_apart hF hb (by omega)
  have hB3 : some B ≠ v.ownBlock := ho.apart hB2 hT
  have fr := frozen_same e1 fq
  have k0 := cell_same e1 q0
  have k1 := cell_same e1 q1
  have k2 := cell_same e1 q2
  have k3 := cell_same e1 q3
  refine ⟨ho.setFar hB3 (.inr hhi) v, ⟨by go_simp, by go_simp, by go_simp, by go_simp, by go_simp⟩, block_set ⟨cs, hB2⟩ _ _, ⟨cell_same e3 p0, cell_same e3 p1, cell_same e3 p2, cell_same e3 p3, cell_same e3 p4⟩, hF2⟩
theorem OwnX.base {w : World} {base base' lo hi tE : Nat} {v : Value} {es : List Ent} (h : OwnX w base lo hi tE v es) (hb : base' ≤ base) : OwnX w base' lo hi tE v es := by
  obtain ⟨cs, vd, vp, h1, h2⟩ := h
  exact ⟨cs, vd, vp, ownsRow_base h1 hb, h2⟩
theorem OutM.drew {w : World} {base lo hi tE tM B F : Nat} {u : Value} {es : List Ent} {a b z lb W L : Int} (h : OutM w base lo hi tE tM B F u es a b z lb W L) : OutM w.drew base lo hi tE tM B F u es a b z lb W L := h
end Go.Proofs.Ytkgepklapglmdaa
