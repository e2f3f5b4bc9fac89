/-
  Lemmas and contracts of single functions of this program, used by the proofs of its laws: what each call returns and what becomes of memory. Conditions: the hypotheses of each theorem.
-/
import Derived.Test.YtcebdokdekgeaaaTup
import Derived.Test.YtcebdokdekgeaaaLeafA
import Derived.BigGuardPart
import Derived.Deep.RegionHeld3
import Derived.Deep.RegionWith
import Derived.Deep.DrawnRows
import Derived.Deep.CutRange
namespace Go.Proofs.Ytcebdokdekgeaaa
open Go.RowKit

def insB (l r f t W L : Int) : Bool := decide (0 ≤ l) && decide (l < r) && decide (r ≤ W) && decide (0 ≤ f) && decide (f < t) && decide (t ≤ L)
def meetB (l1 r1 f1 t1 l2 r2 f2 t2 : Int) : Bool := decide (l1 < r2) && decide (l2 < r1) && decide (f1 < t2) && decide (f2 < t1)
theorem insB_true {l r f t W L : Int} (h : insB l r f t W L = true) : 0 ≤ l ∧ l < r ∧ r ≤ W ∧ 0 ≤ f ∧ f < t ∧ t ≤ L := by unfold insB at h; simp at h; omega
theorem insB_iff {l r f t W L : Int} : insB l r f t W L = true ↔ 0 ≤ l ∧ l < r ∧ r ≤ W ∧ 0 ≤ f ∧ f < t ∧ t ≤ L := ⟨insB_true, fun h => by unfold insB; simp; omega⟩
theorem meetB_iff {l1 r1 f1 t1 l2 r2 f2 t2 : Int} : meetB l1 r1 f1 t1 l2 r2 f2 t2 = true ↔ l1 < r2 ∧ l2 < r1 ∧ f1 < t2 ∧ f2 < t1 := by unfold meetB; simp; omega
/-- what is there stays, behind a call that makes memory alone -/
theorem keepB {W w1 : World} {a : Addr} {v : Value} (hb : Below W.heap.size W w1) (h : W.cell? a = some v) : w1.cell? a = some v := (hb.cell (World.block_lt_of_cell? W _ h)).trans h
theorem of_drew {w x : World} (h : Below w.drew.heap.size w.drew x) : Below w.heap.size w x := ⟨h.os, h.tape, h.output, h.size, h.block⟩
/-- a struct value of five, of four ints -/
def agg5 (d : List Int) : Value := .agg #[.int .i64 (gi d 0), .int .i64 (gi d 1), .int .i64 (gi d 2), .int .i64 (gi d 3), .int .i64 (gi d 4)]
def agg4 (d : List Int) : Value := .agg #[.int .i64 (gi d 0), .int .i64 (gi d 1), .int .i64 (gi d 2), .int .i64 (gi d 3)]
def dOk (W L : Int) (d : List Int) : Bool := insB (gi d 0) (gi d 1) (gi d 2) (gi d 3) W L && (decide (1 ≤ gi d 4) && decide (gi d 4 ≤ 9))
def vReel (W L : Int) (ds : List (List Int)) : Bool := decide (1 ≤ W) && decide (W ≤ 60) && decide (1 ≤ L) && decide (L ≤ 400) && decide (ds.length ≤ 16) && ds.all (dOk W L)
theorem vReel_iff {W L : Int} {ds : List (List Int)} : vReel W L ds = true ↔ 1 ≤ W ∧ W ≤ 60 ∧ 1 ≤ L ∧ L ≤ 400 ∧ ds.length ≤ 16 ∧ ∀ d ∈ ds, dOk W L d = true := by
  unfold vReel
  simp only [Bool.and_eq_true, decide_eq_true_eq, List.all_eq_true, and_assoc]
theorem vReel_no {W L : Int} {ds : List (List Int)} {k : Nat} (hk : k < ds.length) (h : dOk W L (gr ds k) = false) : vReel W L ds = false := by
  cases hv : vReel W L ds
  · rfl
  · have := (vReel_iff.1 hv).2.2.2.2.2 _ (gr_mem hk)
    rw [h] at this; cases this
theorem vReel_false {W L : Int} {ds : List (List Int)} (h : ¬ (1 ≤ W ∧ W ≤ 60 ∧ 1 ≤ L ∧ L ≤ 400 ∧ ds.length ≤ 16)) : vReel W L ds = false := by
  cases hv : vReel W L ds
  · rfl
  · have := vReel_iff.1 hv; omega

set_option maxHeartbeats 800000 in
theorem inside_any (l r f t W L : Int) (w : World) :
    Calls Try.prog 66 #[.agg #[.int .i64 l, .int .i64 r, .int .i64 f, .int .i64 t], .int .i64 W, .int .i64 L] w fun e w' => e = .returned (.bool (insB l r f t W L)) ∧ Below w.heap.size w w' := by
  go_enter Try.func66, Try.ntmps66
  go_wp2
  all_goals go_ret
  all_goals exact ⟨ret_bool (by unfold insB; simp [*] <;> omega), (Below.refl _ _).alloc (Nat.le_refl _) _⟩
set_option maxHeartbeats 800000 in
theorem meet_any (l1 r1 f1 t1 l2 r2 f2 t2 : Int) (w : World) :
    Calls Try.prog 67 #[.agg #[.int .i64 l1, .int .i64 r1, .int .i64 f1, .int .i64 t1], .agg #[.int .i64 l2, .int .i64 r2, .int .i64 f2, .int .i64 t2]] w fun e w' => e = .returned (.bool (meetB l1 r1 f1 t1 l2 r2 f2 t2)) ∧ Below w.heap.size w w' := by
  go_enter Try.func67, Try.ntmps67
  go_wp2
  all_goals go_ret
  all_goals exact ⟨ret_bool (by unfold meetB; simp [*] <;> omega), ((Below.refl _ _).alloc (Nat.le_refl _) _).alloc (by simp) _⟩
theorem partOf_any (l r f t g : Int) (w : World) :
    Calls Try.prog 83 #[.agg #[.int .i64 l, .int .i64 r, .int .i64 f, .int .i64 t, .int .i64 g]] w fun e w' => e = .returned (.agg #[.int .i64 l, .int .i64 r, .int .i64 f, .int .i64 t]) ∧ Below w.heap.size w w' := by
  go_enter Try.func83, Try.ntmps83
  go_wp2
  exact bodyPost_ret (v := .agg #[.int .i64 l, .int .i64 r, .int .i64 f, .int .i64 t]) (by simp [results, Try.results83, go_sem]) rfl ⟨rfl, ((Below.refl _ _).alloc (Nat.le_refl _) _).alloc (by simp) _⟩
theorem areaOf_any (l r f t : Int) (w : World) (h1 : 0 ≤ l) (h2 : l ≤ r) (h3 : r ≤ 1000) (h4 : 0 ≤ f) (h5 : f ≤ t) (h6 : t ≤ 1000) :
    Calls Try.prog 43 #[.agg #[.int .i64 l, .int .i64 r, .int .i64 f, .int .i64 t]] w fun e w' => e = .returned (.int .i64 ((r - l) * (t - f))) ∧ Below w.heap.size w w' := by
  have b1 : 0 ≤ (r - l) * (t - f) := Int.mul_nonneg (by omega) (by omega)
  have b2 : (r - l) * (t - f) ≤ 1000 * 1000 := Int.mul_le_mul (by omega) (by omega) (by omega) (by omega)
  go_enter Try.func43, Try.ntmps43
  go_wp2
  go_ret
  exact ⟨rfl, (Below.refl _ _).alloc (Nat.le_refl _) _⟩

end Go.Proofs.Ytcebdokdekgeaaa
