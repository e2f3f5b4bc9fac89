/-
  Lemmas and contracts of single functions of this program, used by the proofs of its laws: what each call returns and what becomes of memory. Conditions: the hypotheses of each theorem.
-/
import Derived.Test.YtkgepklapglmdaaGreatDoorTup
import Derived.Test.YtkgepklapglmdaaGreatDoorLeafA
import Derived.BigGuardPart
import Derived.Deep.RegionHeld3
import Derived.Deep.RegionWith
import Derived.Deep.DrawnRows
import Derived.Deep.CutRange
import Derived.Test.YtkgepklapglmdaaGreatDoorOwn
namespace Go.Proofs.YtkgepklapglmdaaGreatDoor
open Go.RowKit

def insB (l r f t W L : Int) : Bool := decide (0 ≤ l) && decide (l < r) && decide (r ≤ W) && decide (0 ≤ f) && decide (f < t) && decide (t ≤ L)
def meetB (l1 r1 f1 t1 l2 r2 f2 t2 : Int) : Bool := decide (l1 < r2) && decide (l2 < r1) && decide (f1 < t2) && decide (f2 < t1)
theorem insB_true {l r f t W L : Int} (h : insB l r f t W L = true) : 0 ≤ l ∧ l < r ∧ r ≤ W ∧ 0 ≤ f ∧ f < t ∧ t ≤ L := by unfold insB at h; simp at h; omega
theorem insB_iff {l r f t W L : Int} : insB l r f t W L = true ↔ 0 ≤ l ∧ l < r ∧ r ≤ W ∧ 0 ≤ f ∧ f < t ∧ t ≤ L := ⟨insB_true, fun h => by unfold insB; simp; omega⟩
theorem meetB_iff {l1 r1 f1 t1 l2 r2 f2 t2 : Int} : meetB l1 r1 f1 t1 l2 r2 f2 t2 = true ↔ l1 < r2 ∧ l2 < r1 ∧ f1 < t2 ∧ f2 < t1 := by unfold meetB; simp; omega
/-- what is there stays, behind a call that makes memory alone -/
theorem keepB {W w1 : World} {a : Addr} {v : Value} (hb : Below W.heap.size W w1) (h : W.cell? a = some v) : w1.cell? a = some v := (hb.cell (World.block_lt_of_cell? W _ h)).trans h
theorem of_drew {w x : World} (h : Below w.drew.heap.size w.drew x) : Below w.heap.size w x := ⟨h.os, h.tape, h.output, h.size, h.block⟩
def dOk (W L : Int) (d : List Int) : Bool := insB (gi d 0) (gi d 1) (gi d 2) (gi d 3) W L && (decide (1 ≤ gi d 4) && decide (gi d 4 ≤ 9))
def vReel (W L : Int) (ds : List (List Int)) : Bool := decide (1 ≤ W) && decide (W ≤ 60) && decide (1 ≤ L) && decide (L ≤ 400) && decide (ds.length ≤ 16) && ds.all (dOk W L)
theorem vReel_iff {W L : Int} {ds : List (List Int)} : vReel W L ds = true ↔ 1 ≤ W ∧ W ≤ 60 ∧ 1 ≤ L ∧ L ≤ 400 ∧ ds.length ≤ 16 ∧ ∀ d ∈ ds, dOk W L d = true := by
  unfold vReel
  simp only [Bool.and_eq_true, decide_eq_true_eq, List.all_eq_true, and_assoc]
theorem vReel_no {W L : Int} {ds : List (List Int)} {k : Nat} (hk : k < ds.length) (h : dOk W L (gr ds k) = false) : vReel W L ds = false := by
  cases hv : vReel W L ds
  · rfl
  · have := (vReel_iff.1 hv).2.2.2.2.2 _ (gr_mem hk)
    rw [h] at this; cases this
theorem vReel_false {W L : Int} {ds : List (List Int)} (h : ¬ (1 ≤ W ∧ W ≤ 60 ∧ 1 ≤ L ∧ L ≤ 400 ∧ ds.length ≤ 16)) : vReel W L ds = false := by
  cases hv : vReel W L ds
  · rfl
  · have := vReel_iff.1 hv; omega

set_option maxHeartbeats 800000 in
theorem inside_any (l r f t W L : Int) (w : World) :
    Calls Tryz.prog 100 #[.agg #[.int .i64 l, .int .i64 r, .int .i64 f, .int .i64 t], .int .i64 W, .int .i64 L] w fun e w' => e = .returned (.bool (insB l r f t W L)) ∧ Below w.heap.size w w' := by
  go_enter Tryz.func100, Tryz.ntmps100
  go_wp2
  all_goals go_ret
  all_goals exact ⟨ret_bool (by unfold insB; simp [*] <;> omega), (Below.refl _ _).alloc (Nat.le_refl _) _⟩
set_option maxHeartbeats 800000 in
theorem meet_any (l1 r1 f1 t1 l2 r2 f2 t2 : Int) (w : World) :
    Calls Tryz.prog 101 #[.agg #[.int .i64 l1, .int .i64 r1, .int .i64 f1, .int .i64 t1], .agg #[.int .i64 l2, .int .i64 r2, .int .i64 f2, .int .i64 t2]] w fun e w' => e = .returned (.bool (meetB l1 r1 f1 t1 l2 r2 f2 t2)) ∧ Below w.heap.size w w' := by
  go_enter Tryz.func101, Tryz.ntmps101
  go_wp2
  all_goals go_ret
  all_goals exact ⟨ret_bool (by unfold meetB; simp [*] <;> omega), ((Below.refl _ _).alloc (Nat.le_refl _) _).alloc (by simp) _⟩
theorem partOf_any (l r f t g : Int) (w : World) :
    Calls Tryz.prog 105 #[.agg #[.int .i64 l, .int .i64 r, .int .i64 f, .int .i64 t, .int .i64 g]] w fun e w' => e = .returned (.agg #[.int .i64 l, .int .i64 r, .int .i64 f, .int .i64 t]) ∧ Below w.heap.size w w' := by
  go_enter Tryz.func105, Tryz.ntmps105
  go_wp2
  exact bodyPost_ret (v := .agg #[.int .i64 l, .int .i64 r, .int .i64 f, .int .i64 t]) (by simp [results, Tryz.results105, go_sem]) rfl ⟨rfl, ((Below.refl _ _).alloc (Nat.le_refl _) _).alloc (by simp) _⟩
theorem areaOf_any (l r f t : Int) (w : World) (h1 : 0 ≤ l) (h2 : l ≤ r) (h3 : r ≤ 1000) (h4 : 0 ≤ f) (h5 : f ≤ t) (h6 : t ≤ 1000) :
    Calls Tryz.prog 87 #[.agg #[.int .i64 l, .int .i64 r, .int .i64 f, .int .i64 t]] w fun e w' => e = .returned (.int .i64 ((r - l) * (t - f))) ∧ Below w.heap.size w w' := by
  have b1 : 0 ≤ (r - l) * (t - f) := Int.mul_nonneg (by omega) (by omega)
  have b2 : (r - l) * (t - f) ≤ 1000 * 1000 := Int.mul_le_mul (by omega) (by omega) (by omega) (by omega)
  go_enter Tryz.func87, Tryz.ntmps87
  go_wp2
  go_ret
  exact ⟨rfl, (Below.refl _ _).alloc (Nat.le_refl _) _⟩

end Go.Proofs.YtkgepklapglmdaaGreatDoor

namespace Go.Proofs.YtkgepklapglmdaaGreatDoor
open Go.RowKit
attribute [local go_sem ↓] Go.wp_at_zero Go.wp_at_succ

end Go.Proofs.YtkgepklapglmdaaGreatDoor

namespace Go.Proofs.YtkgepklapglmdaaGreatDoor
open Go.RowKit

theorem set2_set {xss : List (List Int)} {i : Nat} (hi : i < xss.length) {r : List Int} {j : Nat} {y : Int} : set2 (xss.set i r) i j y = xss.set i (r.set j y) := by
  unfold set2 gr
  rw [List.getD_eq_getElem?_getD, List.getElem?_set_self hi, Option.getD_some, List.set_set]
theorem OwnT.setRow {w : World} {base e k n c g : Nat} {xss : List (List Int)} {i : Nat} {r : List Int} (h : OwnT w base e k (.slice (some ⟨g, 0, none⟩) n c) (xss.set i r)) (hi : i < xss.length) (j : Nat) (hj : j < k) (y : Int) (hy : I64 y) :
    OwnT (w.setCell ⟨g, i * k + j, none⟩ (.int .i64 y)) base e k (.slice (some ⟨g, 0, none⟩) n c) (xss.set i (r.set j y)) := by
  obtain ⟨g0, e0, _, _, _, _, s0⟩ := h.at_ (i := i) (by rw [List.length_set]; exact hi) (by omega)
  simp only [Option.some.injEq, Addr.mk.injEq, and_true] at e0
  subst e0
  have h0 := s0 j y hj hy
  rw [set2_set hi] at h0
  exact h0

set_option maxHeartbeats 1000000 in
theorem OwnT.row7 {w : World} {base e n c g : Nat} {xss : List (List Int)} (h : OwnT w base e 7 (.slice (some ⟨g, 0, none⟩) n c) xss) {i : Nat} (hi : i < xss.length) (y0 y1 y2 y3 y4 y5 y6 : Int) (hy : I64 y0 ∧ I64 y1 ∧ I64 y2 ∧ I64 y3 ∧ I64 y4 ∧ I64 y5 ∧ I64 y6) :
    OwnT (((((((w.setCell ⟨g, i * 7, none⟩ (.int .i64 y0)).setCell ⟨g, i * 7 + 1, none⟩ (.int .i64 y1)).setCell ⟨g, i * 7 + 2, none⟩ (.int .i64 y2)).setCell ⟨g, i * 7 + 3, none⟩ (.int .i64 y3)).setCell ⟨g, i * 7 + 4, none⟩ (.int .i64 y4)).setCell ⟨g, i * 7 + 5, none⟩ (.int .i64 y5)).setCell ⟨g, i * 7 + 6, none⟩ (.int .i64 y6)) base e 7 (.slice (some ⟨g, 0, none⟩) n c) (xss.set i [y0, y1, y2, y3, y4, y5, y6]) := by
  obtain ⟨i0, i1, i2, i3, i4, i5, i6⟩ := hy
  have hrow := (h.2 _ (gr_mem hi)).1
  have e0 : xss.set i (gr xss i) = xss := by rw [gr_eq hi]; exact List.set_getElem_self hi
  rw [← e0] at h
  clear e0
  obtain ⟨q, hq⟩ : ∃ q, q = gr xss i := ⟨_, rfl⟩
  rw [← hq] at hrow h
  clear hq
  match q, hrow, h with
  | [a0, a1, a2, a3, a4, a5, a6], _, h =>
    have h0 := h.setRow hi 0 (by omega) y0 i0
    rw [Nat.add_zero] at h0
    rw [show ([a0, a1, a2, a3, a4, a5, a6] : List Int).set 0 y0 = [y0, a1, a2, a3, a4, a5, a6] from rfl] at h0
    have h1 := h0.setRow hi 1 (by omega) y1 i1
    rw [show ([y0, a1, a2, a3, a4, a5, a6] : List Int).set 1 y1 = [y0, y1, a2, a3, a4, a5, a6] from rfl] at h1
    have h2 := h1.setRow hi 2 (by omega) y2 i2
    rw [show ([y0, y1, a2, a3, a4, a5, a6] : List Int).set 2 y2 = [y0, y1, y2, a3, a4, a5, a6] from rfl] at h2
    have h3 := h2.setRow hi 3 (by omega) y3 i3
    rw [show ([y0, y1, y2, a3, a4, a5, a6] : List Int).set 3 y3 = [y0, y1, y2, y3, a4, a5, a6] from rfl] at h3
    have h4 := h3.setRow hi 4 (by omega) y4 i4
    rw [show ([y0, y1, y2, y3, a4, a5, a6] : List Int).set 4 y4 = [y0, y1, y2, y3, y4, a5, a6] from rfl] at h4
    have h5 := h4.setRow hi 5 (by omega) y5 i5
    rw [show ([y0, y1, y2, y3, y4, a5, a6] : List Int).set 5 y5 = [y0, y1, y2, y3, y4, y5, a6] from rfl] at h5
    have h6 := h5.setRow hi 6 (by omega) y6 i6
    rw [show ([y0, y1, y2, y3, y4, y5, a6] : List Int).set 6 y6 = [y0, y1, y2, y3, y4, y5, y6] from rfl] at h6
    exact h6
end Go.Proofs.YtkgepklapglmdaaGreatDoor

namespace Go.Proofs.YtkgepklapglmdaaGreatDoor
open Go.RowKit

theorem OwnT.made {w : World} {base e k n c : Nat} {A : Option Addr} (h : w.ownsRow base e k (.slice A n c) n (List.replicate (n * k) (.int .i64 0))) : OwnT w base e k (.slice A n c) (List.replicate n (List.replicate k 0)) := by
  refine ⟨?_, fun x hx => ?_⟩
  · have e1 : flatT (List.replicate n (List.replicate k 0)) = List.replicate (n * k) (.int .i64 0) := by
      unfold flatT; rw [List.flatten_replicate_replicate, List.map_replicate]
    rw [List.length_replicate, e1]; exact h
  · rw [(List.mem_replicate.1 hx).2]
    exact ⟨List.length_replicate, fun y hy => by rw [(List.mem_replicate.1 hy).2]; exact ⟨by omega, by omega⟩⟩
theorem SlPart : SlT Tryz.prog 56 38 (.agg #[.int .i64 0, .int .i64 0, .int .i64 0, .int .i64 0]) 4 32 := ⟨Tryz.underlying56, by kernel_rfl, rfl, by omega⟩
theorem SlDefect : SlT Tryz.prog 53 92 (.agg #[.int .i64 0, .int .i64 0, .int .i64 0, .int .i64 0, .int .i64 0]) 5 40 := ⟨Tryz.underlying53, by kernel_rfl, rfl, by omega⟩
end Go.Proofs.YtkgepklapglmdaaGreatDoor

namespace Go.Proofs.YtkgepklapglmdaaGreatDoor
open Go.RowKit
attribute [local go_sem ↓] Go.wp_at_zero Go.wp_at_succ

theorem w64 {n : Int} (h : -9223372036854775808 ≤ n ∧ n ≤ 9223372036854775807) : wrap64 n = n := by unfold wrap64; omega
/-- 'validPart' of the reference, wraps and all -/
def spB (l r f t W L : Int) : Bool := inR 0 (wrap64 (W - 1)) l && inR (wrap64 (l + 1)) W r && inR 0 (wrap64 (L - 1)) f && inR (wrap64 (f + 1)) L t
theorem spB_ins {l r f t W L : Int} (h1 : 1 ≤ W) (h2 : W ≤ 60) (h3 : 1 ≤ L) (h4 : L ≤ 400) : spB l r f t W L = insB l r f t W L := by
  have w1 : wrap64 (W - 1) = W - 1 := w64 (by omega)
  have w2 : wrap64 (L - 1) = L - 1 := w64 (by omega)
  unfold spB
  rw [w1, w2]
  by_cases a : 0 ≤ l ∧ l ≤ W - 1
  · have w3 : wrap64 (l + 1) = l + 1 := w64 (by omega)
    rw [w3]
    by_cases b : 0 ≤ f ∧ f ≤ L - 1
    · have w4 : wrap64 (f + 1) = f + 1 := w64 (by omega)
      rw [w4, Bool.eq_iff_iff, insB_iff]
      unfold inR; simp; omega
    · rw [inR_no b]
      cases e : insB l r f t W L
      · simp
      · have := insB_true e; omega
  · rw [inR_no a]
    cases e : insB l r f t W L
    · simp
    · have := insB_true e; omega
set_option maxHeartbeats 1000000 in
theorem validPart_any (l r f t W L : Int) (A : Option Addr) (n c : Nat) (w : World) :
    Calls Tryz.prog 134 #[.agg #[.int .i64 W, .int .i64 L, .slice A n c], .agg #[.int .i64 l, .int .i64 r, .int .i64 f, .int .i64 t]] w fun e w' => e = .returned (.bool (spB l r f t W L)) ∧ Below w.heap.size w w' := by
  go_enter Tryz.func134, Tryz.ntmps134
  go_wp2_with (go_at_call 68; refine (inRange_any _ _ _ _).mono ?_; rintro e w' ⟨rfl, rfl⟩)
  all_goals go_ret
  all_goals exact ⟨ret_bool (by unfold spB; simp [*]), ((Below.refl _ _).alloc (Nat.le_refl _) _).alloc (by simp) _⟩
set_option maxHeartbeats 800000 in
theorem meets_any (l1 r1 f1 t1 g l2 r2 f2 t2 : Int) (w : World) :
    Calls Tryz.prog 166 #[.agg #[.int .i64 l1, .int .i64 r1, .int .i64 f1, .int .i64 t1, .int .i64 g], .agg #[.int .i64 l2, .int .i64 r2, .int .i64 f2, .int .i64 t2]] w fun e w' => e = .returned (.bool (meetB l1 r1 f1 t1 l2 r2 f2 t2)) ∧ Below w.heap.size w w' := by
  go_enter Tryz.func166, Tryz.ntmps166
  go_wp2
  all_goals go_ret
  all_goals exact ⟨ret_bool (by unfold meetB; simp [*] <;> omega), ((Below.refl _ _).alloc (Nat.le_refl _) _).alloc (by simp) _⟩
set_option maxHeartbeats 800000 in
theorem partsMeet_any (l1 r1 f1 t1 l2 r2 f2 t2 : Int) (w : World) :
    Calls Tryz.prog 135 #[.agg #[.int .i64 l1, .int .i64 r1, .int .i64 f1, .int .i64 t1], .agg #[.int .i64 l2, .int .i64 r2, .int .i64 f2, .int .i64 t2]] w fun e w' => e = .returned (.bool (meetB l1 r1 f1 t1 l2 r2 f2 t2)) ∧ Below w.heap.size w w' := by
  go_enter Tryz.func135, Tryz.ntmps135
  go_wp2
  all_goals go_ret
  all_goals exact ⟨ret_bool (by unfold meetB; simp [*] <;> omega), ((Below.refl _ _).alloc (Nat.le_refl _) _).alloc (by simp) _⟩
set_option maxHeartbeats 1000000 in
theorem validDefect_any (l r f t g W L : Int) (A : Option Addr) (n c : Nat) (w : World) :
    Calls Tryz.prog 108 #[.agg #[.int .i64 W, .int .i64 L, .slice A n c], .agg #[.int .i64 l, .int .i64 r, .int .i64 f, .int .i64 t, .int .i64 g]] w fun e w' => e = .returned (.bool (spB l r f t W L && inR 1 9 g)) ∧ Below w.heap.size w w' := by
  go_enter Tryz.func108, Tryz.ntmps108
  go_wp2_with (go_at_call 68; refine (inRange_any _ _ _ _).mono ?_; rintro e w' ⟨rfl, rfl⟩)
  all_goals go_ret
  all_goals exact ⟨ret_bool (by unfold spB; simp [*]), ((Below.refl _ _).alloc (Nat.le_refl _) _).alloc (by simp) _⟩
end Go.Proofs.YtkgepklapglmdaaGreatDoor

namespace Go.Proofs.YtkgepklapglmdaaGreatDoor
open Go.RowKit
attribute [local go_sem ↓] Go.wp_at_zero Go.wp_at_succ
set_option maxRecDepth 100000 in
set_option maxHeartbeats 2000000 in
theorem ValidReel_any (lo hi : Nat) (W L : Int) (v : Value) (ds : List (List Int)) (w : World) (h : TS w lo hi 5 v ds) (hhi : hi ≤ w.heap.size) :
    Calls Tryz.prog 65 #[.agg #[.int .i64 W, .int .i64 L, v]] w fun e w' => e = .returned (.bool (vReel W L ds)) ∧ Below w.heap.size w w' := by
  obtain ⟨A, c, rfl, hc, hm⟩ := h.form
  have Hs := Lib.hid (show ∃ w1, w1 = (w.alloc (.cells #[.int .i64 W, .int .i64 L, .slice A ds.length c] 55)) ∧ Below w.heap.size w w1 ∧ w1.cell? ⟨w.heap.size, 0, none⟩ = some (.int .i64 W) ∧ w1.cell? ⟨w.heap.size, 1, none⟩ = some (.int .i64 L) ∧ w1.cell? ⟨w.heap.size, 2, none⟩ = some (.slice A ds.length c) ∧ TS w1 lo hi 5 (.slice A ds.length c) ds ∧ w.heap.size < w1.heap.size from by
    have hb : Below w.heap.size w (w.alloc (.cells #[.int .i64 W, .int .i64 L, .slice A ds.length c] 55)) := (Below.refl _ _).alloc (Nat.le_refl _) _
    exact ⟨_, rfl, hb, by go_simp, by go_simp, by go_simp, h.below hb hhi, by simp⟩)
  by_cases hb : 1 ≤ W ∧ W ≤ 60 ∧ 1 ≤ L ∧ L ≤ 400 ∧ ds.length ≤ 16
  · have Hb := Lib.hid hb
    obtain ⟨b1, b2, b3, b4, b5⟩ := hb
    go_enter Tryz.func65, Tryz.ntmps65
    go_wp2
    obtain ⟨w1, hw1, hb0, c00, c01, c02, hT0, hz⟩ := Hs.out
    rw [← hw1]
    clear hw1 Hs
    clear h
    go_loopw [30] (fun i wr => ∃ k : Nat, k ≤ ds.length ∧ i = .int .i64 k ∧ Below w1.heap.size w1 wr ∧ Hid (∀ j, j < k → dOk W L (gr ds j) = true)) (fun i _ => ds.length - (intOf i).toNat)
    case atStart => exact ⟨0, by omega, rfl, Below.refl _ _, fun j hj => absurd hj (by omega)⟩
    case round =>
      obtain ⟨k, hk, rfl, bw, HD⟩ := hrel
      have hzr := bw.size
      replace c00 := keepB bw c00; replace c01 := keepB bw c01; replace c02 := keepB bw c02
      by_cases hlt : k < ds.length
      · obtain ⟨b, o, rfl, hb2, hb3, e0, e1, e2, e3, e4⟩ := (hT0.below bw (by omega)).c5 hlt
        have hk0 : (0 : Int) ≤ (k : Int) := by omega
        have hk1 : (k : Int) < (ds.length : Int) := by omega
        have HOk := Lib.hid (show dOk W L (gr ds k) = (insB (gi (gr ds k) 0) (gi (gr ds k) 1) (gi (gr ds k) 2) (gi (gr ds k) 3) W L && (decide (1 ≤ gi (gr ds k) 4) && decide (gi (gr ds k) 4 ≤ 9))) from rfl)
        clear hT0 b1 b2 b3 b4
        go_wp2
        obtain ⟨wd, hw1⟩ : ∃ wd, wd = wr.alloc (.cells #[.int .i64 (gi (gr ds k) 0), .int .i64 (gi (gr ds k) 1), .int .i64 (gi (gr ds k) 2), .int .i64 (gi (gr ds k) 3), .int .i64 (gi (gr ds k) 4)] 92) := ⟨_, rfl⟩
        have d0 : wd.cell? ⟨wr.heap.size, 0, none⟩ = some (.int .i64 (gi (gr ds k) 0)) := by rw [hw1]; go_simp
        have d1 : wd.cell? ⟨wr.heap.size, 1, none⟩ = some (.int .i64 (gi (gr ds k) 1)) := by rw [hw1]; go_simp
        have d2 : wd.cell? ⟨wr.heap.size, 2, none⟩ = some (.int .i64 (gi (gr ds k) 2)) := by rw [hw1]; go_simp
        have d3 : wd.cell? ⟨wr.heap.size, 3, none⟩ = some (.int .i64 (gi (gr ds k) 3)) := by rw [hw1]; go_simp
        have d4 : wd.cell? ⟨wr.heap.size, 4, none⟩ = some (.int .i64 (gi (gr ds k) 4)) := by rw [hw1]; go_simp
        have bd : Below wr.heap.size wr wd := by rw [hw1]; exact (Below.refl _ _).alloc (Nat.le_refl _) _
        have zd : wr.heap.size < wd.heap.size := by rw [hw1]; simp
        rw [← hw1]
        clear hw1
        replace c00 := keepB bd c00; replace c01 := keepB bd c01; replace c02 := keepB bd c02
        have bw2 := bw.trans (bd.mono (by omega))
        have hzd := bw2.size
        clear e0 e1 e2 e3 e4 bw bd
        cases hin : insB (gi (gr ds k) 0) (gi (gr ds k) 1) (gi (gr ds k) 2) (gi (gr ds k) 3) W L
        · have Hno := Lib.hid (vReel_no (W := W) (L := L) hlt (by rw [HOk.out, hin]; rfl))
          have HIN := Lib.hid hin
          clear hin
          go_wp2
          refine wp_region_held_drew (S := fun w' => w'.cell? ⟨w.heap.size, 0, none⟩ = some (.int .i64 W) ∧ w'.cell? ⟨w.heap.size, 1, none⟩ = some (.int .i64 L) ∧ w'.cell? ⟨w.heap.size, 2, none⟩ = some (.slice (some ⟨b, o, none⟩) ds.length c) ∧ w'.cell? ⟨wr.heap.size, 0, none⟩ = some (.int .i64 (gi (gr ds k) 0)) ∧ w'.cell? ⟨wr.heap.size, 1, none⟩ = some (.int .i64 (gi (gr ds k) 1)) ∧ w'.cell? ⟨wr.heap.size, 2, none⟩ = some (.int .i64 (gi (gr ds k) 2)) ∧ w'.cell? ⟨wr.heap.size, 3, none⟩ = some (.int .i64 (gi (gr ds k) 3)) ∧ w'.cell? ⟨wr.heap.size, 4, none⟩ = some (.int .i64 (gi (gr ds k) 4))) (by kernel_rfl) ?_ (fun hHeld => ?_)
          · (first | (try dsimp only); go_keep | (go_split_ands; refine ⟨?_, ?_, ?_, ?_, ?_, ?_, ?_, ?_⟩ <;> first | exact keepB bx2 (by assumption) | exact keepB bx1 (by assumption) | assumption))
          refine tkW 0 34 rfl rfl (by kernel_rfl) hHeld (by intro w hSw; (try dsimp only at hSw); go_simp; try with_reducible rfl) ?_ (fun _ _ _ h => h)
          simp only [Act.put, lyA, lyB, lyC]
          refine tkW 2 36 rfl rfl (by kernel_rfl) hHeld (by intro w hSw; (try dsimp only at hSw); go_simp; try with_reducible rfl) ?_ (fun _ _ _ h => h)
          simp only [Act.put, lyA, lyB, lyC]
          refine tkW 3 37 rfl rfl (by kernel_rfl) hHeld (by intro w hSw; (try dsimp only at hSw); go_simp; try with_reducible rfl) ?_ (fun _ _ _ h => h)
          simp only [Act.put, lyA, lyB, lyC]
          refine tkW 4 38 rfl rfl (by kernel_rfl) hHeld (by intro w hSw; (try dsimp only at hSw); go_simp; try with_reducible rfl) ?_ (fun _ _ _ h => h)
          simp only [Act.put, lyA, lyB, lyC]
          refine tkW 5 39 rfl rfl (by kernel_rfl) hHeld (by intro w hSw; (try dsimp only at hSw); go_simp; try with_reducible rfl) ?_ (fun _ _ _ h => h)
          simp only [Act.put, lyA, lyB, lyC]
          refine wpAnyH_ready (rs := [1]) (by kernel_rfl) (by simp) ?_
          refine AllReadyH.cons (o := ⟨some 35, _, _, _, _, _⟩) rfl (fun K hK => ?_) AllReadyH.nil
          go_simp
          go_at_call 105
          refine (partOf_any _ _ _ _ _ _).mono ?_
          rintro e x1 ⟨rfl, bx1⟩
          go_wp2_with fail
          refine hK.out _ _ ?_ (fun hHeld2 => ?_)
          · (first | (try dsimp only); go_keep | (go_split_ands; refine ⟨?_, ?_, ?_, ?_, ?_, ?_, ?_, ?_⟩ <;> first | exact keepB bx2 (by assumption) | exact keepB bx1 (by assumption) | assumption))
          clear hK K hHeld
          have hHeld := hHeld2
          clear hHeld2
          try simp only [Act.put, lyA, lyB, lyC]
          refine wpAnyH_ready (rs := [6]) (by kernel_rfl) (by simp) ?_
          refine AllReadyH.cons (o := ⟨some 40, _, _, _, _, _⟩) rfl (fun K hK => ?_) AllReadyH.nil
          go_simp
          go_at_call 100
          refine (inside_any _ _ _ _ _ _ _).mono ?_
          rw [HIN.out]
          rintro e x2 ⟨rfl, bx2⟩
          go_wp2_with fail
          refine hK.out _ _ ?_ (fun hHeld2 => ?_)
          · (first | (try dsimp only); go_keep | (go_split_ands; refine ⟨?_, ?_, ?_, ?_, ?_, ?_, ?_, ?_⟩ <;> first | exact keepB bx2 (by assumption) | exact keepB bx1 (by assumption) | assumption))
          clear hK K hHeld
          have hHeld := hHeld2
          clear hHeld2
          try simp only [Act.put, lyA, lyB, lyC]
          refine tkW 7 41 rfl rfl (by kernel_rfl) hHeld (by intro w hSw; (try dsimp only at hSw); go_simp; try with_reducible rfl) ?_ (fun _ _ _ h => h)
          simp only [Act.put, lyA, lyB, lyC]
          refine tkW 8 42 rfl rfl (by kernel_rfl) hHeld (by intro w hSw; (try dsimp only at hSw); go_simp; try with_reducible rfl) ?_ (fun _ _ _ h => h)
          simp only [Act.put, lyA, lyB, lyC]
          refine wpAnyH_take (i := 9) (oi := ⟨some 43, _, _, _, _, _⟩) (v := undef) rfl (by kernel_rfl) (by kernel_rfl) (by kernel_rfl) (fun _ _ _ h => h) (Or.inr ⟨by kernel_rfl, rfl⟩) (by assumption) ?_
          simp only [Act.put, lyA, lyB, lyC]
          refine wpAnyH_take (i := 10) (oi := ⟨some 44, _, _, _, _, _⟩) (v := undef) rfl (by kernel_rfl) (by kernel_rfl) (by kernel_rfl) (fun _ _ _ h => h) (Or.inr ⟨by kernel_rfl, rfl⟩) (by assumption) ?_
          simp only [Act.put, lyA, lyB, lyC]
          refine wpAnyH_take (i := 11) (oi := ⟨some 45, _, _, _, _, _⟩) (v := undef) rfl (by kernel_rfl) (by kernel_rfl) (by kernel_rfl) (fun _ _ _ h => h) (Or.inr ⟨by kernel_rfl, rfl⟩) (by assumption) ?_
          simp only [Act.put, lyA, lyB, lyC]
          refine tkW 12 46 rfl rfl (by kernel_rfl) hHeld (by intro w hSw; (try dsimp only at hSw); go_simp; try with_reducible rfl) ?_ (fun _ _ _ h => h)
          simp only [Act.put, lyA, lyB, lyC]
          refine tkW 13 47 rfl rfl (by kernel_rfl) hHeld (by intro w hSw; (try dsimp only at hSw); go_simp; try with_reducible rfl) ?_ (fun _ _ _ h => h)
          simp only [Act.put, lyA, lyB, lyC]
          refine wpAnyH_take (i := 14) (oi := ⟨some 48, _, _, _, _, _⟩) (v := undef) rfl (by kernel_rfl) (by kernel_rfl) (by kernel_rfl) (fun _ _ _ h => h) (Or.inr ⟨by kernel_rfl, rfl⟩) (by assumption) ?_
          simp only [Act.put, lyA, lyB, lyC]
          refine wpAnyH_take (i := 15) (oi := ⟨some 49, _, _, _, _, _⟩) (v := undef) rfl (by kernel_rfl) (by kernel_rfl) (by kernel_rfl) (fun _ _ _ h => h) (Or.inr ⟨by kernel_rfl, rfl⟩) (by assumption) ?_
          simp only [Act.put, lyA, lyB, lyC]
          refine wpAnyH_take (i := 16) (oi := ⟨some 50, _, _, _, _, _⟩) (v := undef) rfl (by kernel_rfl) (by kernel_rfl) (by kernel_rfl) (fun _ _ _ h => h) (Or.inr ⟨by kernel_rfl, rfl⟩) (by assumption) ?_
          simp only [Act.put, lyA, lyB, lyC]
          refine tkW 17 51 rfl rfl (by kernel_rfl) hHeld (by intro w hSw; (try dsimp only at hSw); go_simp; try with_reducible rfl) ?_ (fun _ _ _ h => h)
          simp only [Act.put, lyA, lyB, lyC]
          refine wpAnyH_done (by kernel_rfl) ?_ _
          go_wp2
          go_ret
          exact ⟨ret_bool (by rw [Hno.out]), hb0.trans ((bw2.trans (((of_drew bx1).trans (bx2.mono (of_drew bx1).size)).mono hzd)).mono (by omega))⟩
        · have HIN := Lib.hid hin
          have HOk2 := Lib.hid (show dOk W L (gr ds k) = (decide (1 ≤ gi (gr ds k) 4) && decide (gi (gr ds k) 4 ≤ 9)) by rw [HOk.out, hin, Bool.true_and])
          clear hin
          obtain ⟨g, hg⟩ : ∃ g, g = gi (gr ds k) 4 := ⟨_, rfl⟩
          rw [← hg] at d4 HOk2
          clear hg
          by_cases h1 : g < 1
          · have Hno := Lib.hid (vReel_no (W := W) (L := L) hlt (by rw [HOk2.out, decide_eq_false (show ¬ 1 ≤ g by omega)]; rfl))
            have hd1 : decide (g < 1) = true := decide_eq_true h1
            go_wp2
            refine wp_region_held_drew (S := fun w' => w'.cell? ⟨w.heap.size, 0, none⟩ = some (.int .i64 W) ∧ w'.cell? ⟨w.heap.size, 1, none⟩ = some (.int .i64 L) ∧ w'.cell? ⟨w.heap.size, 2, none⟩ = some (.slice (some ⟨b, o, none⟩) ds.length c) ∧ w'.cell? ⟨wr.heap.size, 0, none⟩ = some (.int .i64 (gi (gr ds k) 0)) ∧ w'.cell? ⟨wr.heap.size, 1, none⟩ = some (.int .i64 (gi (gr ds k) 1)) ∧ w'.cell? ⟨wr.heap.size, 2, none⟩ = some (.int .i64 (gi (gr ds k) 2)) ∧ w'.cell? ⟨wr.heap.size, 3, none⟩ = some (.int .i64 (gi (gr ds k) 3)) ∧ w'.cell? ⟨wr.heap.size, 4, none⟩ = some (.int .i64 g)) (by kernel_rfl) ?_ (fun hHeld => ?_)
            · (first | (try dsimp only); go_keep | (go_split_ands; refine ⟨?_, ?_, ?_, ?_, ?_, ?_, ?_, ?_⟩ <;> first | exact keepB bx2 (by assumption) | exact keepB bx1 (by assumption) | assumption))
            refine tkW 0 34 rfl rfl (by kernel_rfl) hHeld (by intro w hSw; (try dsimp only at hSw); go_simp; try with_reducible rfl) ?_ (fun _ _ _ h => h)
            simp only [Act.put, lyA, lyB, lyC]
            refine tkW 2 36 rfl rfl (by kernel_rfl) hHeld (by intro w hSw; (try dsimp only at hSw); go_simp; try with_reducible rfl) ?_ (fun _ _ _ h => h)
            simp only [Act.put, lyA, lyB, lyC]
            refine tkW 3 37 rfl rfl (by kernel_rfl) hHeld (by intro w hSw; (try dsimp only at hSw); go_simp; try with_reducible rfl) ?_ (fun _ _ _ h => h)
            simp only [Act.put, lyA, lyB, lyC]
            refine tkW 4 38 rfl rfl (by kernel_rfl) hHeld (by intro w hSw; (try dsimp only at hSw); go_simp; try with_reducible rfl) ?_ (fun _ _ _ h => h)
            simp only [Act.put, lyA, lyB, lyC]
            refine tkW 5 39 rfl rfl (by kernel_rfl) hHeld (by intro w hSw; (try dsimp only at hSw); go_simp; try with_reducible rfl) ?_ (fun _ _ _ h => h)
            simp only [Act.put, lyA, lyB, lyC]
            refine wpAnyH_ready (rs := [1]) (by kernel_rfl) (by simp) ?_
            refine AllReadyH.cons (o := ⟨some 35, _, _, _, _, _⟩) rfl (fun K hK => ?_) AllReadyH.nil
            go_simp
            go_at_call 105
            refine (partOf_any _ _ _ _ _ _).mono ?_
            rintro e x1 ⟨rfl, bx1⟩
            go_wp2_with fail
            refine hK.out _ _ ?_ (fun hHeld2 => ?_)
            · (first | (try dsimp only); go_keep | (go_split_ands; refine ⟨?_, ?_, ?_, ?_, ?_, ?_, ?_, ?_⟩ <;> first | exact keepB bx2 (by assumption) | exact keepB bx1 (by assumption) | assumption))
            clear hK K hHeld
            have hHeld := hHeld2
            clear hHeld2
            try simp only [Act.put, lyA, lyB, lyC]
            refine wpAnyH_ready (rs := [6]) (by kernel_rfl) (by simp) ?_
            refine AllReadyH.cons (o := ⟨some 40, _, _, _, _, _⟩) rfl (fun K hK => ?_) AllReadyH.nil
            go_simp
            go_at_call 100
            refine (inside_any _ _ _ _ _ _ _).mono ?_
            rw [HIN.out]
            rintro e x2 ⟨rfl, bx2⟩
            go_wp2_with fail
            refine hK.out _ _ ?_ (fun hHeld2 => ?_)
            · (first | (try dsimp only); go_keep | (go_split_ands; refine ⟨?_, ?_, ?_, ?_, ?_, ?_, ?_, ?_⟩ <;> first | exact keepB bx2 (by assumption) | exact keepB bx1 (by assumption) | assumption))
            clear hK K hHeld
            have hHeld := hHeld2
            clear hHeld2
            try simp only [Act.put, lyA, lyB, lyC]
            refine tkW 7 41 rfl rfl (by kernel_rfl) hHeld (by intro w hSw; (try dsimp only at hSw); go_simp; try with_reducible rfl) ?_ (fun _ _ _ h => h)
            simp only [Act.put, lyA, lyB, lyC]
            refine tkW 8 42 rfl rfl (by kernel_rfl) hHeld (by intro w hSw; (try dsimp only at hSw); go_simp; try with_reducible rfl) ?_ (fun _ _ _ h => h)
            simp only [Act.put, lyA, lyB, lyC]
            refine tkW 9 43 rfl rfl (by kernel_rfl) hHeld (by intro w hSw; (try dsimp only at hSw); go_simp; try with_reducible rfl) ?_ (fun _ _ _ h => h)
            simp only [Act.put, lyA, lyB, lyC]
            refine tkW 10 44 rfl rfl (by kernel_rfl) hHeld (by intro w hSw; (try dsimp only at hSw); go_simp; try with_reducible rfl) ?_ (fun _ _ _ h => h)
            simp only [Act.put, lyA, lyB, lyC]
            refine tkW 11 45 rfl rfl (by kernel_rfl) hHeld (by intro w hSw; (try dsimp only at hSw); go_simp; try with_reducible rfl) ?_ (fun _ _ _ h => h)
            simp only [Act.put, lyA, lyB, lyC]
            refine tkW 12 46 rfl rfl (by kernel_rfl) hHeld (by intro w hSw; (try dsimp only at hSw); go_simp; try with_reducible rfl) ?_ (fun _ _ _ h => h)
            simp only [Act.put, lyA, lyB, lyC]
            refine tkW 13 47 rfl rfl (by kernel_rfl) hHeld (by intro w hSw; (try dsimp only at hSw); go_simp; try with_reducible rfl) ?_ (fun _ _ _ h => h)
            simp only [Act.put, lyA, lyB, lyC]
            refine wpAnyH_take (i := 14) (oi := ⟨some 48, _, _, _, _, _⟩) (v := undef) rfl (by kernel_rfl) (by kernel_rfl) (by kernel_rfl) (fun _ _ _ h => h) (Or.inr ⟨by kernel_rfl, rfl⟩) (by assumption) ?_
            simp only [Act.put, lyA, lyB, lyC]
            refine wpAnyH_take (i := 15) (oi := ⟨some 49, _, _, _, _, _⟩) (v := undef) rfl (by kernel_rfl) (by kernel_rfl) (by kernel_rfl) (fun _ _ _ h => h) (Or.inr ⟨by kernel_rfl, rfl⟩) (by assumption) ?_
            simp only [Act.put, lyA, lyB, lyC]
            refine wpAnyH_take (i := 16) (oi := ⟨some 50, _, _, _, _, _⟩) (v := undef) rfl (by kernel_rfl) (by kernel_rfl) (by kernel_rfl) (fun _ _ _ h => h) (Or.inr ⟨by kernel_rfl, rfl⟩) (by assumption) ?_
            simp only [Act.put, lyA, lyB, lyC]
            refine tkW 17 51 rfl rfl (by kernel_rfl) hHeld (by intro w hSw; (try dsimp only at hSw); go_simp; try with_reducible rfl) ?_ (fun _ _ _ h => h)
            simp only [Act.put, lyA, lyB, lyC]
            refine wpAnyH_done (by kernel_rfl) ?_ _
            go_wp2
            go_ret
            exact ⟨ret_bool (by rw [Hno.out]), hb0.trans ((bw2.trans (((of_drew bx1).trans (bx2.mono (of_drew bx1).size)).mono hzd)).mono (by omega))⟩
          · have hd1 : decide (g < 1) = false := decide_eq_false h1
            by_cases h2 : 9 < g
            · have Hno := Lib.hid (vReel_no (W := W) (L := L) hlt (by rw [HOk2.out, decide_eq_false (show ¬ g ≤ 9 by omega), Bool.and_false]))
              have hd2 : decide (9 < g) = true := decide_eq_true h2
              go_wp2
              refine wp_region_held_drew (S := fun w' => w'.cell? ⟨w.heap.size, 0, none⟩ = some (.int .i64 W) ∧ w'.cell? ⟨w.heap.size, 1, none⟩ = some (.int .i64 L) ∧ w'.cell? ⟨w.heap.size, 2, none⟩ = some (.slice (some ⟨b, o, none⟩) ds.length c) ∧ w'.cell? ⟨wr.heap.size, 0, none⟩ = some (.int .i64 (gi (gr ds k) 0)) ∧ w'.cell? ⟨wr.heap.size, 1, none⟩ = some (.int .i64 (gi (gr ds k) 1)) ∧ w'.cell? ⟨wr.heap.size, 2, none⟩ = some (.int .i64 (gi (gr ds k) 2)) ∧ w'.cell? ⟨wr.heap.size, 3, none⟩ = some (.int .i64 (gi (gr ds k) 3)) ∧ w'.cell? ⟨wr.heap.size, 4, none⟩ = some (.int .i64 g)) (by kernel_rfl) ?_ (fun hHeld => ?_)
              · (first | (try dsimp only); go_keep | (go_split_ands; refine ⟨?_, ?_, ?_, ?_, ?_, ?_, ?_, ?_⟩ <;> first | exact keepB bx2 (by assumption) | exact keepB bx1 (by assumption) | assumption))
              refine tkW 0 34 rfl rfl (by kernel_rfl) hHeld (by intro w hSw; (try dsimp only at hSw); go_simp; try with_reducible rfl) ?_ (fun _ _ _ h => h)
              simp only [Act.put, lyA, lyB, lyC]
              refine tkW 2 36 rfl rfl (by kernel_rfl) hHeld (by intro w hSw; (try dsimp only at hSw); go_simp; try with_reducible rfl) ?_ (fun _ _ _ h => h)
              simp only [Act.put, lyA, lyB, lyC]
              refine tkW 3 37 rfl rfl (by kernel_rfl) hHeld (by intro w hSw; (try dsimp only at hSw); go_simp; try with_reducible rfl) ?_ (fun _ _ _ h => h)
              simp only [Act.put, lyA, lyB, lyC]
              refine tkW 4 38 rfl rfl (by kernel_rfl) hHeld (by intro w hSw; (try dsimp only at hSw); go_simp; try with_reducible rfl) ?_ (fun _ _ _ h => h)
              simp only [Act.put, lyA, lyB, lyC]
              refine tkW 5 39 rfl rfl (by kernel_rfl) hHeld (by intro w hSw; (try dsimp only at hSw); go_simp; try with_reducible rfl) ?_ (fun _ _ _ h => h)
              simp only [Act.put, lyA, lyB, lyC]
              refine wpAnyH_ready (rs := [1]) (by kernel_rfl) (by simp) ?_
              refine AllReadyH.cons (o := ⟨some 35, _, _, _, _, _⟩) rfl (fun K hK => ?_) AllReadyH.nil
              go_simp
              go_at_call 105
              refine (partOf_any _ _ _ _ _ _).mono ?_
              rintro e x1 ⟨rfl, bx1⟩
              go_wp2_with fail
              refine hK.out _ _ ?_ (fun hHeld2 => ?_)
              · (first | (try dsimp only); go_keep | (go_split_ands; refine ⟨?_, ?_, ?_, ?_, ?_, ?_, ?_, ?_⟩ <;> first | exact keepB bx2 (by assumption) | exact keepB bx1 (by assumption) | assumption))
              clear hK K hHeld
              have hHeld := hHeld2
              clear hHeld2
              try simp only [Act.put, lyA, lyB, lyC]
              refine wpAnyH_ready (rs := [6]) (by kernel_rfl) (by simp) ?_
              refine AllReadyH.cons (o := ⟨some 40, _, _, _, _, _⟩) rfl (fun K hK => ?_) AllReadyH.nil
              go_simp
              go_at_call 100
              refine (inside_any _ _ _ _ _ _ _).mono ?_
              rw [HIN.out]
              rintro e x2 ⟨rfl, bx2⟩
              go_wp2_with fail
              refine hK.out _ _ ?_ (fun hHeld2 => ?_)
              · (first | (try dsimp only); go_keep | (go_split_ands; refine ⟨?_, ?_, ?_, ?_, ?_, ?_, ?_, ?_⟩ <;> first | exact keepB bx2 (by assumption) | exact keepB bx1 (by assumption) | assumption))
              clear hK K hHeld
              have hHeld := hHeld2
              clear hHeld2
              try simp only [Act.put, lyA, lyB, lyC]
              refine tkW 7 41 rfl rfl (by kernel_rfl) hHeld (by intro w hSw; (try dsimp only at hSw); go_simp; try with_reducible rfl) ?_ (fun _ _ _ h => h)
              simp only [Act.put, lyA, lyB, lyC]
              refine tkW 8 42 rfl rfl (by kernel_rfl) hHeld (by intro w hSw; (try dsimp only at hSw); go_simp; try with_reducible rfl) ?_ (fun _ _ _ h => h)
              simp only [Act.put, lyA, lyB, lyC]
              refine tkW 9 43 rfl rfl (by kernel_rfl) hHeld (by intro w hSw; (try dsimp only at hSw); go_simp; try with_reducible rfl) ?_ (fun _ _ _ h => h)
              simp only [Act.put, lyA, lyB, lyC]
              refine tkW 10 44 rfl rfl (by kernel_rfl) hHeld (by intro w hSw; (try dsimp only at hSw); go_simp; try with_reducible rfl) ?_ (fun _ _ _ h => h)
              simp only [Act.put, lyA, lyB, lyC]
              refine tkW 11 45 rfl rfl (by kernel_rfl) hHeld (by intro w hSw; (try dsimp only at hSw); go_simp; try with_reducible rfl) ?_ (fun _ _ _ h => h)
              simp only [Act.put, lyA, lyB, lyC]
              refine tkW 12 46 rfl rfl (by kernel_rfl) hHeld (by intro w hSw; (try dsimp only at hSw); go_simp; try with_reducible rfl) ?_ (fun _ _ _ h => h)
              simp only [Act.put, lyA, lyB, lyC]
              refine tkW 13 47 rfl rfl (by kernel_rfl) hHeld (by intro w hSw; (try dsimp only at hSw); go_simp; try with_reducible rfl) ?_ (fun _ _ _ h => h)
              simp only [Act.put, lyA, lyB, lyC]
              refine tkW 14 48 rfl rfl (by kernel_rfl) hHeld (by intro w hSw; (try dsimp only at hSw); go_simp; try with_reducible rfl) ?_ (fun _ _ _ h => h)
              simp only [Act.put, lyA, lyB, lyC]
              refine tkW 15 49 rfl rfl (by kernel_rfl) hHeld (by intro w hSw; (try dsimp only at hSw); go_simp; try with_reducible rfl) ?_ (fun _ _ _ h => h)
              simp only [Act.put, lyA, lyB, lyC]
              refine tkW 16 50 rfl rfl (by kernel_rfl) hHeld (by intro w hSw; (try dsimp only at hSw); go_simp; try with_reducible rfl) ?_ (fun _ _ _ h => h)
              simp only [Act.put, lyA, lyB, lyC]
              refine tkW 17 51 rfl rfl (by kernel_rfl) hHeld (by intro w hSw; (try dsimp only at hSw); go_simp; try with_reducible rfl) ?_ (fun _ _ _ h => h)
              simp only [Act.put, lyA, lyB, lyC]
              refine wpAnyH_done (by kernel_rfl) ?_ _
              go_wp2
              go_ret
              exact ⟨ret_bool (by rw [Hno.out]), hb0.trans ((bw2.trans (((of_drew bx1).trans (bx2.mono (of_drew bx1).size)).mono hzd)).mono (by omega))⟩
            · have hd2 : decide (9 < g) = false := decide_eq_false h2
              have HD2 : Hid (∀ j, j < k + 1 → dOk W L (gr ds j) = true) := fun j hj => by
                by_cases hjk : j = k
                · subst hjk; rw [HOk2.out, decide_eq_true (show 1 ≤ g by omega), decide_eq_true (show g ≤ 9 by omega)]; rfl
                · exact HD.out j (by omega)
              go_wp2
              refine wp_region_held_drew (S := fun w' => w'.cell? ⟨w.heap.size, 0, none⟩ = some (.int .i64 W) ∧ w'.cell? ⟨w.heap.size, 1, none⟩ = some (.int .i64 L) ∧ w'.cell? ⟨w.heap.size, 2, none⟩ = some (.slice (some ⟨b, o, none⟩) ds.length c) ∧ w'.cell? ⟨wr.heap.size, 0, none⟩ = some (.int .i64 (gi (gr ds k) 0)) ∧ w'.cell? ⟨wr.heap.size, 1, none⟩ = some (.int .i64 (gi (gr ds k) 1)) ∧ w'.cell? ⟨wr.heap.size, 2, none⟩ = some (.int .i64 (gi (gr ds k) 2)) ∧ w'.cell? ⟨wr.heap.size, 3, none⟩ = some (.int .i64 (gi (gr ds k) 3)) ∧ w'.cell? ⟨wr.heap.size, 4, none⟩ = some (.int .i64 g)) (by kernel_rfl) ?_ (fun hHeld => ?_)
              · (first | (try dsimp only); go_keep | (go_split_ands; refine ⟨?_, ?_, ?_, ?_, ?_, ?_, ?_, ?_⟩ <;> first | exact keepB bx2 (by assumption) | exact keepB bx1 (by assumption) | assumption))
              refine tkW 0 34 rfl rfl (by kernel_rfl) hHeld (by intro w hSw; (try dsimp only at hSw); go_simp; try with_reducible rfl) ?_ (fun _ _ _ h => h)
              simp only [Act.put, lyA, lyB, lyC]
              refine tkW 2 36 rfl rfl (by kernel_rfl) hHeld (by intro w hSw; (try dsimp only at hSw); go_simp; try with_reducible rfl) ?_ (fun _ _ _ h => h)
              simp only [Act.put, lyA, lyB, lyC]
              refine tkW 3 37 rfl rfl (by kernel_rfl) hHeld (by intro w hSw; (try dsimp only at hSw); go_simp; try with_reducible rfl) ?_ (fun _ _ _ h => h)
              simp only [Act.put, lyA, lyB, lyC]
              refine tkW 4 38 rfl rfl (by kernel_rfl) hHeld (by intro w hSw; (try dsimp only at hSw); go_simp; try with_reducible rfl) ?_ (fun _ _ _ h => h)
              simp only [Act.put, lyA, lyB, lyC]
              refine tkW 5 39 rfl rfl (by kernel_rfl) hHeld (by intro w hSw; (try dsimp only at hSw); go_simp; try with_reducible rfl) ?_ (fun _ _ _ h => h)
              simp only [Act.put, lyA, lyB, lyC]
              refine wpAnyH_ready (rs := [1]) (by kernel_rfl) (by simp) ?_
              refine AllReadyH.cons (o := ⟨some 35, _, _, _, _, _⟩) rfl (fun K hK => ?_) AllReadyH.nil
              go_simp
              go_at_call 105
              refine (partOf_any _ _ _ _ _ _).mono ?_
              rintro e x1 ⟨rfl, bx1⟩
              go_wp2_with fail
              refine hK.out _ _ ?_ (fun hHeld2 => ?_)
              · (first | (try dsimp only); go_keep | (go_split_ands; refine ⟨?_, ?_, ?_, ?_, ?_, ?_, ?_, ?_⟩ <;> first | exact keepB bx2 (by assumption) | exact keepB bx1 (by assumption) | assumption))
              clear hK K hHeld
              have hHeld := hHeld2
              clear hHeld2
              try simp only [Act.put, lyA, lyB, lyC]
              refine wpAnyH_ready (rs := [6]) (by kernel_rfl) (by simp) ?_
              refine AllReadyH.cons (o := ⟨some 40, _, _, _, _, _⟩) rfl (fun K hK => ?_) AllReadyH.nil
              go_simp
              go_at_call 100
              refine (inside_any _ _ _ _ _ _ _).mono ?_
              rw [HIN.out]
              rintro e x2 ⟨rfl, bx2⟩
              go_wp2_with fail
              refine hK.out _ _ ?_ (fun hHeld2 => ?_)
              · (first | (try dsimp only); go_keep | (go_split_ands; refine ⟨?_, ?_, ?_, ?_, ?_, ?_, ?_, ?_⟩ <;> first | exact keepB bx2 (by assumption) | exact keepB bx1 (by assumption) | assumption))
              clear hK K hHeld
              have hHeld := hHeld2
              clear hHeld2
              try simp only [Act.put, lyA, lyB, lyC]
              refine tkW 7 41 rfl rfl (by kernel_rfl) hHeld (by intro w hSw; (try dsimp only at hSw); go_simp; try with_reducible rfl) ?_ (fun _ _ _ h => h)
              simp only [Act.put, lyA, lyB, lyC]
              refine tkW 8 42 rfl rfl (by kernel_rfl) hHeld (by intro w hSw; (try dsimp only at hSw); go_simp; try with_reducible rfl) ?_ (fun _ _ _ h => h)
              simp only [Act.put, lyA, lyB, lyC]
              refine tkW 9 43 rfl rfl (by kernel_rfl) hHeld (by intro w hSw; (try dsimp only at hSw); go_simp; try with_reducible rfl) ?_ (fun _ _ _ h => h)
              simp only [Act.put, lyA, lyB, lyC]
              refine tkW 10 44 rfl rfl (by kernel_rfl) hHeld (by intro w hSw; (try dsimp only at hSw); go_simp; try with_reducible rfl) ?_ (fun _ _ _ h => h)
              simp only [Act.put, lyA, lyB, lyC]
              refine tkW 11 45 rfl rfl (by kernel_rfl) hHeld (by intro w hSw; (try dsimp only at hSw); go_simp; try with_reducible rfl) ?_ (fun _ _ _ h => h)
              simp only [Act.put, lyA, lyB, lyC]
              refine tkW 12 46 rfl rfl (by kernel_rfl) hHeld (by intro w hSw; (try dsimp only at hSw); go_simp; try with_reducible rfl) ?_ (fun _ _ _ h => h)
              simp only [Act.put, lyA, lyB, lyC]
              refine tkW 13 47 rfl rfl (by kernel_rfl) hHeld (by intro w hSw; (try dsimp only at hSw); go_simp; try with_reducible rfl) ?_ (fun _ _ _ h => h)
              simp only [Act.put, lyA, lyB, lyC]
              refine tkW 14 48 rfl rfl (by kernel_rfl) hHeld (by intro w hSw; (try dsimp only at hSw); go_simp; try with_reducible rfl) ?_ (fun _ _ _ h => h)
              simp only [Act.put, lyA, lyB, lyC]
              refine tkW 15 49 rfl rfl (by kernel_rfl) hHeld (by intro w hSw; (try dsimp only at hSw); go_simp; try with_reducible rfl) ?_ (fun _ _ _ h => h)
              simp only [Act.put, lyA, lyB, lyC]
              refine tkW 16 50 rfl rfl (by kernel_rfl) hHeld (by intro w hSw; (try dsimp only at hSw); go_simp; try with_reducible rfl) ?_ (fun _ _ _ h => h)
              simp only [Act.put, lyA, lyB, lyC]
              refine tkW 17 51 rfl rfl (by kernel_rfl) hHeld (by intro w hSw; (try dsimp only at hSw); go_simp; try with_reducible rfl) ?_ (fun _ _ _ h => h)
              simp only [Act.put, lyA, lyB, lyC]
              refine wpAnyH_done (by kernel_rfl) ?_ _
              have bd9 := (of_drew bx1).trans (bx2.mono (of_drew bx1).size)
              go_wp2
              go_roundw
              case rel => exact ⟨k + 1, by omega, by go_num, bw2.trans (bd9.mono hzd), HD2⟩
              case measure => simp [intOf]; omega
      · have HR := Lib.hid (show vReel W L ds = true from vReel_iff.2 ⟨Hb.out.1, Hb.out.2.1, Hb.out.2.2.1, Hb.out.2.2.2.1, Hb.out.2.2.2.2, fun d hd => by
          obtain ⟨j, hj, rfl⟩ := List.mem_iff_getElem.1 hd
          have := HD.out j (by omega)
          rwa [gr_eq hj] at this⟩)
        go_wp2
        go_ret
        exact ⟨ret_bool (by rw [HR.out]), hb0.trans (bw.mono (by omega))⟩
  · have Hb := Lib.hid (vReel_false hb)
    go_enter Tryz.func65, Tryz.ntmps65
    go_wp2
    all_goals first | (exfalso; omega) | skip
    all_goals go_ret
    all_goals exact ⟨ret_bool Hb.out.symm, (Below.refl _ _).alloc (Nat.le_refl _) _⟩
end Go.Proofs.YtkgepklapglmdaaGreatDoor

namespace Go.Proofs.YtkgepklapglmdaaGreatDoor
open Go.RowKit
attribute [local go_sem ↓] Go.wp_at_zero Go.wp_at_succ

def mT (d p : List Int) : Bool := meetB (gi d 0) (gi d 1) (gi d 2) (gi d 3) (gi p 0) (gi p 1) (gi p 2) (gi p 3)
def worstL (ds : List (List Int)) (p : List Int) : Int := ds.foldl (fun m d => if mT d p = true then max m (gi d 4) else m) 0
theorem worst_succ {ds : List (List Int)} {p : List Int} {k : Nat} (h : k < ds.length) : worstL (ds.take (k + 1)) p = if mT (gr ds k) p = true then max (worstL (ds.take k) p) (gi (gr ds k) 4) else worstL (ds.take k) p := by
  unfold worstL; rw [take_gr h, List.foldl_append]; rfl
set_option maxRecDepth 100000 in
set_option maxHeartbeats 1000000 in
theorem worst_any (lo hi : Nat) (W L : Int) (v : Value) (ds : List (List Int)) (l r f t : Int) (w : World) (h : TS w lo hi 5 v ds) (hhi : hi ≤ w.heap.size) :
    Calls Tryz.prog 145 #[.agg #[.int .i64 W, .int .i64 L, v], .agg #[.int .i64 l, .int .i64 r, .int .i64 f, .int .i64 t]] w fun e w' => e = .returned (.int .i64 (worstL ds [l, r, f, t])) ∧ Below w.heap.size w w' := by
  obtain ⟨A, c, rfl, hc, hm⟩ := h.form
  have Hs := Lib.hid (show ∃ w1, w1 = (w.alloc (.cells #[.int .i64 W, .int .i64 L, .slice A ds.length c] 55)).alloc (.cells #[.int .i64 l, .int .i64 r, .int .i64 f, .int .i64 t] 38) ∧ Below w.heap.size w w1 ∧ w1.cell? ⟨w.heap.size, 2, none⟩ = some (.slice A ds.length c) ∧ w1.cell? ⟨w.heap.size + 1, 0, none⟩ = some (.int .i64 l) ∧ w1.cell? ⟨w.heap.size + 1, 1, none⟩ = some (.int .i64 r) ∧ w1.cell? ⟨w.heap.size + 1, 2, none⟩ = some (.int .i64 f) ∧ w1.cell? ⟨w.heap.size + 1, 3, none⟩ = some (.int .i64 t) ∧ TS w1 lo hi 5 (.slice A ds.length c) ds ∧ w.heap.size + 1 < w1.heap.size from by
    have hb : Below w.heap.size w ((w.alloc (.cells #[.int .i64 W, .int .i64 L, .slice A ds.length c] 55)).alloc (.cells #[.int .i64 l, .int .i64 r, .int .i64 f, .int .i64 t] 38)) := ((Below.refl _ _).alloc (Nat.le_refl _) _).alloc (by simp) _
    refine ⟨_, rfl, hb, by go_simp, by go_simp, by go_simp, by go_simp, by go_simp, h.below hb hhi, by simp⟩)
  go_enter Tryz.func145, Tryz.ntmps145
  go_wp2
  obtain ⟨w1, hw1, hb0, c0, p0, p1, p2, p3, h0, hz⟩ := Hs.out
  rw [← hw1]
  clear hw1 Hs h
  go_loopw [5, 6] (fun m i wr => ∃ k : Nat, k ≤ ds.length ∧ i = .int .i64 k ∧ m = .int .i64 (worstL (ds.take k) [l, r, f, t]) ∧ Below w1.heap.size w1 wr) (fun _ i _ => ds.length - (intOf i).toNat)
  case atStart => exact ⟨0, by omega, rfl, rfl, Below.refl _ _⟩
  case round =>
    obtain ⟨k, hk, rfl, rfl, bw⟩ := hrel
    have c0r := keepB bw c0
    have hzr := bw.size
    by_cases hlt : k < ds.length
    · have q0 := keepB bw p0
      have q1 := keepB bw p1
      have q2 := keepB bw p2
      have q3 := keepB bw p3
      obtain ⟨b, o, rfl, hb2, hb3, e0, e1, e2, e3, e4⟩ := (h0.below bw (by omega)).c5 hlt
      have Hst := Lib.hid (show worstL (ds.take (k + 1)) [l, r, f, t] = if meetB (gi (gr ds k) 0) (gi (gr ds k) 1) (gi (gr ds k) 2) (gi (gr ds k) 3) l r f t = true then _ else _ from worst_succ (p := [l, r, f, t]) hlt)
      have hk0 : (0 : Int) ≤ (k : Int) := by omega
      have hk1 : (k : Int) < (ds.length : Int) := by omega
      have h0a : ∀ x ∈ ds, ∀ y ∈ x, I64 y := fun x hx => (h0.all x hx).2
      clear h0 c0 p0 p1 p2 p3
      go_wp2
      go_region_held3 (fun w' => w'.cell? ⟨w.heap.size, 2, none⟩ = some (.slice (some ⟨b, o, none⟩) ds.length c) ∧ w'.cell? ⟨w.heap.size + 1, 0, none⟩ = some (.int .i64 l) ∧ w'.cell? ⟨w.heap.size + 1, 1, none⟩ = some (.int .i64 r) ∧ w'.cell? ⟨w.heap.size + 1, 2, none⟩ = some (.int .i64 f) ∧ w'.cell? ⟨w.heap.size + 1, 3, none⟩ = some (.int .i64 t) ∧ w'.cell? ⟨b, o + k * 5, none⟩ = some (.int .i64 (gi (gr ds k) 0)) ∧ w'.cell? ⟨b, o + k * 5 + 1, none⟩ = some (.int .i64 (gi (gr ds k) 1)) ∧ w'.cell? ⟨b, o + k * 5 + 2, none⟩ = some (.int .i64 (gi (gr ds k) 2)) ∧ w'.cell? ⟨b, o + k * 5 + 3, none⟩ = some (.int .i64 (gi (gr ds k) 3)) ∧ w'.cell? ⟨b, o + k * 5 + 4, none⟩ = some (.int .i64 (gi (gr ds k) 4))) (first | go_keep | (go_split_ands; refine ⟨?_, ?_, ?_, ?_, ?_, ?_, ?_, ?_, ?_, ?_⟩ <;> exact keepB bx1 (by assumption))) (first | (go_at_call 166; refine (meets_any _ _ _ _ _ _ _ _ _ _).mono ?_; rintro e x1 ⟨rfl, bx1⟩))
      have bx2 := of_drew bx1
      obtain ⟨g2, _, _, _, _, _, _, _, _, g4⟩ := ‹x1.cell? ⟨w.heap.size, 2, none⟩ = _ ∧ _›
      have i4 := gi_i64 (h0a _ (gr_mem hlt)) 4
      go_wp2
      all_goals
        go_roundw
        case rel => exact ⟨k + 1, by omega, by go_num, congrArg (Value.int .i64) (by rw [Hst.out]; split <;> first | omega | (simp_all; done)), bw.trans (bx2.mono (by omega))⟩
        case measure => simp [intOf]; omega
    · have He := Lib.hid (show k = ds.length by omega)
      go_wp2
      go_ret
      exact ⟨ret_int (by rw [He.out, List.take_length]), hb0.trans (bw.mono (by omega))⟩
end Go.Proofs.YtkgepklapglmdaaGreatDoor

namespace Go.Proofs.YtkgepklapglmdaaGreatDoor
open Go.RowKit
attribute [local go_sem ↓] Go.wp_at_zero Go.wp_at_succ

def pv (p : List Int) (W L : Int) : Bool := insB (gi p 0) (gi p 1) (gi p 2) (gi p 3) W L
set_option maxHeartbeats 1000000 in
theorem ValidPart_any (lo hi : Nat) (W L : Int) (v : Value) (ds : List (List Int)) (l r f t : Int) (w : World) (h : TS w lo hi 5 v ds) (hhi : hi ≤ w.heap.size) :
    Calls Tryz.prog 116 #[.agg #[.int .i64 W, .int .i64 L, v], .agg #[.int .i64 l, .int .i64 r, .int .i64 f, .int .i64 t]] w fun e w' => e = .returned (.bool (vReel W L ds && insB l r f t W L)) ∧ Below w.heap.size w w' := by
  obtain ⟨A, c, rfl, hc, hm⟩ := h.form
  have Hs := Lib.hid (show ∃ w1, w1 = ((w.alloc (.cells #[.int .i64 W, .int .i64 L, .slice A ds.length c] 55)).alloc (.cells #[.int .i64 l, .int .i64 r, .int .i64 f, .int .i64 t] 38)) ∧ Below w.heap.size w w1 ∧ w1.cell? ⟨w.heap.size, 0, none⟩ = some (.int .i64 W) ∧ w1.cell? ⟨w.heap.size, 1, none⟩ = some (.int .i64 L) ∧ w1.cell? ⟨w.heap.size, 2, none⟩ = some (.slice A ds.length c) ∧ w1.cell? ⟨w.heap.size + 1, 0, none⟩ = some (.int .i64 l) ∧ w1.cell? ⟨w.heap.size + 1, 1, none⟩ = some (.int .i64 r) ∧ w1.cell? ⟨w.heap.size + 1, 2, none⟩ = some (.int .i64 f) ∧ w1.cell? ⟨w.heap.size + 1, 3, none⟩ = some (.int .i64 t) ∧ TS w1 lo hi 5 (.slice A ds.length c) ds ∧ w.heap.size + 1 < w1.heap.size from by
    have hb : Below w.heap.size w ((w.alloc (.cells #[.int .i64 W, .int .i64 L, .slice A ds.length c] 55)).alloc (.cells #[.int .i64 l, .int .i64 r, .int .i64 f, .int .i64 t] 38)) := ((Below.refl _ _).alloc (Nat.le_refl _) _).alloc (by simp) _
    exact ⟨_, rfl, hb, by go_simp, by go_simp, by go_simp, by go_simp, by go_simp, by go_simp, by go_simp, h.below hb hhi, by simp⟩)
  go_enter Tryz.func116, Tryz.ntmps116
  go_wp2_with (fail)
  obtain ⟨w1, hw1, hb0, c00, c01, c02, c10, c11, c12, c13, hT0, hz⟩ := Hs.out
  rw [← hw1]
  clear hw1 Hs
  refine (ValidReel_any lo hi W L _ ds w1 hT0 (by omega)).mono ?_
  rintro e x1 ⟨rfl, bx1⟩
  replace c00 := keepB bx1 c00; replace c01 := keepB bx1 c01; replace c10 := keepB bx1 c10; replace c11 := keepB bx1 c11; replace c12 := keepB bx1 c12; replace c13 := keepB bx1 c13
  go_wp2_with (go_at_call 100; refine (inside_any _ _ _ _ _ _ x1).mono ?_; rintro e x2 ⟨rfl, bx2⟩)
  all_goals go_ret
  · exact ⟨ret_bool (by simp [*]), hb0.trans ((bx1.mono (by omega)).trans (bx2.mono (by have := bx1.size; omega)))⟩
  · exact ⟨ret_bool (by simp [*]), hb0.trans (bx1.mono (by omega))⟩
set_option maxRecDepth 100000 in
set_option maxHeartbeats 1000000 in
theorem WorstOf_any (lo hi : Nat) (W L : Int) (v : Value) (ds : List (List Int)) (l r f t : Int) (w : World) (h : TS w lo hi 5 v ds) (hhi : hi ≤ w.heap.size) :
    Calls Tryz.prog 86 #[.agg #[.int .i64 W, .int .i64 L, v], .agg #[.int .i64 l, .int .i64 r, .int .i64 f, .int .i64 t]] w fun e w' => e = .returned (.int .i64 (if (vReel W L ds && insB l r f t W L) = true then worstL ds [l, r, f, t] else -1)) ∧ Below w.heap.size w w' := by
  obtain ⟨A, c, rfl, hc, hm⟩ := h.form
  obtain ⟨R, hR⟩ : ∃ R, R = if (vReel W L ds && insB l r f t W L) = true then worstL ds [l, r, f, t] else -1 := ⟨_, rfl⟩
  have HR := Lib.hid hR
  rw [← hR]
  clear hR
  have Hs := Lib.hid (show ∃ w1, w1 = ((w.alloc (.cells #[.int .i64 W, .int .i64 L, .slice A ds.length c] 55)).alloc (.cells #[.int .i64 l, .int .i64 r, .int .i64 f, .int .i64 t] 38)) ∧ Below w.heap.size w w1 ∧ w1.cell? ⟨w.heap.size, 0, none⟩ = some (.int .i64 W) ∧ w1.cell? ⟨w.heap.size, 1, none⟩ = some (.int .i64 L) ∧ w1.cell? ⟨w.heap.size, 2, none⟩ = some (.slice A ds.length c) ∧ w1.cell? ⟨w.heap.size + 1, 0, none⟩ = some (.int .i64 l) ∧ w1.cell? ⟨w.heap.size + 1, 1, none⟩ = some (.int .i64 r) ∧ w1.cell? ⟨w.heap.size + 1, 2, none⟩ = some (.int .i64 f) ∧ w1.cell? ⟨w.heap.size + 1, 3, none⟩ = some (.int .i64 t) ∧ TS w1 lo hi 5 (.slice A ds.length c) ds ∧ w.heap.size + 1 < w1.heap.size from by
    have hb : Below w.heap.size w ((w.alloc (.cells #[.int .i64 W, .int .i64 L, .slice A ds.length c] 55)).alloc (.cells #[.int .i64 l, .int .i64 r, .int .i64 f, .int .i64 t] 38)) := ((Below.refl _ _).alloc (Nat.le_refl _) _).alloc (by simp) _
    exact ⟨_, rfl, hb, by go_simp, by go_simp, by go_simp, by go_simp, by go_simp, by go_simp, by go_simp, h.below hb hhi, by simp⟩)
  go_enter Tryz.func86, Tryz.ntmps86
  go_wp2_with (fail)
  obtain ⟨w1, hw1, hb0, c00, c01, c02, c10, c11, c12, c13, hT0, hz⟩ := Hs.out
  rw [← hw1]
  clear hw1 Hs
  refine (ValidPart_any lo hi W L _ ds l r f t w1 hT0 (by omega)).mono ?_
  obtain ⟨vp, hvp⟩ : ∃ vp, vp = (vReel W L ds && insB l r f t W L) := ⟨_, rfl⟩
  rw [← hvp]
  have HR2 := Lib.hid (show R = if vp = true then worstL ds [l, r, f, t] else -1 by rw [hvp]; exact HR.out)
  clear hvp HR
  rintro e x1 ⟨rfl, bx1⟩
  replace c00 := keepB bx1 c00; replace c01 := keepB bx1 c01; replace c02 := keepB bx1 c02; replace c10 := keepB bx1 c10; replace c11 := keepB bx1 c11; replace c12 := keepB bx1 c12; replace c13 := keepB bx1 c13
  have h1 := hT0.below bx1 (by omega)
  have bz1 := bx1.size
  have Hb1 := Lib.hid (hb0.trans (bx1.mono (Nat.le_trans (Nat.le_succ _) (Nat.le_of_lt hz))))
  clear bx1 hT0 hb0
  cases vp
  · go_wp2
    go_ret
    exact ⟨ret_int (by rw [HR2.out]; rfl), Hb1.out⟩
  · go_wp2
    go_loopw [5, 15] (fun m i wr => ∃ k : Nat, k ≤ ds.length ∧ i = .int .i64 k ∧ m = .int .i64 (worstL (ds.take k) [l, r, f, t]) ∧ Below x1.heap.size x1 wr) (fun _ i _ => ds.length - (intOf i).toNat)
    case atStart => exact ⟨0, by omega, rfl, rfl, Below.refl _ _⟩
    case round =>
      obtain ⟨k, hk, rfl, rfl, bw⟩ := hrel
      have hzr := bw.size
      by_cases hlt : k < ds.length
      · replace c00 := keepB bw c00; replace c01 := keepB bw c01; replace c02 := keepB bw c02; replace c10 := keepB bw c10; replace c11 := keepB bw c11; replace c12 := keepB bw c12; replace c13 := keepB bw c13
        obtain ⟨b, o, rfl, hb2, hb3, e0, e1, e2, e3, e4⟩ := (h1.below bw (by omega)).c5 hlt
        have Hst := Lib.hid (show worstL (ds.take (k + 1)) [l, r, f, t] = if meetB (gi (gr ds k) 0) (gi (gr ds k) 1) (gi (gr ds k) 2) (gi (gr ds k) 3) l r f t = true then _ else _ from worst_succ (p := [l, r, f, t]) hlt)
        have h0a : ∀ x ∈ ds, ∀ y ∈ x, I64 y := fun x hx => (h1.all x hx).2
        have i4 := gi_i64 (h0a _ (gr_mem hlt)) 4
        have hk0 : (0 : Int) ≤ (k : Int) := by omega
        have hk1 : (k : Int) < (ds.length : Int) := by omega
        clear h1 h0a
        go_wp2
        obtain ⟨wd, hw1⟩ : ∃ wd, wd = wr.alloc (.cells #[.int .i64 (gi (gr ds k) 0), .int .i64 (gi (gr ds k) 1), .int .i64 (gi (gr ds k) 2), .int .i64 (gi (gr ds k) 3), .int .i64 (gi (gr ds k) 4)] 92) := ⟨_, rfl⟩
        have d0 : wd.cell? ⟨wr.heap.size, 0, none⟩ = some (.int .i64 (gi (gr ds k) 0)) := by rw [hw1]; go_simp
        have d1 : wd.cell? ⟨wr.heap.size, 1, none⟩ = some (.int .i64 (gi (gr ds k) 1)) := by rw [hw1]; go_simp
        have d2 : wd.cell? ⟨wr.heap.size, 2, none⟩ = some (.int .i64 (gi (gr ds k) 2)) := by rw [hw1]; go_simp
        have d3 : wd.cell? ⟨wr.heap.size, 3, none⟩ = some (.int .i64 (gi (gr ds k) 3)) := by rw [hw1]; go_simp
        have d4 : wd.cell? ⟨wr.heap.size, 4, none⟩ = some (.int .i64 (gi (gr ds k) 4)) := by rw [hw1]; go_simp
        have bd : Below wr.heap.size wr wd := by rw [hw1]; exact (Below.refl _ _).alloc (Nat.le_refl _) _
        have zd : wr.heap.size < wd.heap.size := by rw [hw1]; simp
        rw [← hw1]
        clear hw1
        replace c00 := keepB bd c00; replace c01 := keepB bd c01; replace c02 := keepB bd c02; replace c10 := keepB bd c10; replace c11 := keepB bd c11; replace c12 := keepB bd c12; replace c13 := keepB bd c13
        clear e0 e1 e2 e3 e4
        go_region_held3 (fun w' => w'.cell? ⟨wr.heap.size, 0, none⟩ = some (.int .i64 (gi (gr ds k) 0)) ∧ w'.cell? ⟨wr.heap.size, 1, none⟩ = some (.int .i64 (gi (gr ds k) 1)) ∧ w'.cell? ⟨wr.heap.size, 2, none⟩ = some (.int .i64 (gi (gr ds k) 2)) ∧ w'.cell? ⟨wr.heap.size, 3, none⟩ = some (.int .i64 (gi (gr ds k) 3)) ∧ w'.cell? ⟨wr.heap.size, 4, none⟩ = some (.int .i64 (gi (gr ds k) 4)) ∧ w'.cell? ⟨w.heap.size + 1, 0, none⟩ = some (.int .i64 l) ∧ w'.cell? ⟨w.heap.size + 1, 1, none⟩ = some (.int .i64 r) ∧ w'.cell? ⟨w.heap.size + 1, 2, none⟩ = some (.int .i64 f) ∧ w'.cell? ⟨w.heap.size + 1, 3, none⟩ = some (.int .i64 t)) (first | go_keep | (go_split_ands; refine ⟨?_, ?_, ?_, ?_, ?_, ?_, ?_, ?_, ?_⟩ <;> first | exact keepB bx2 (by assumption) | exact keepB bx1 (by assumption))) (first | (go_at_call 105; refine (partOf_any _ _ _ _ _ _).mono ?_; rintro e x2 ⟨rfl, bx1⟩) | (go_at_call 101; refine (meet_any _ _ _ _ _ _ _ _ _).mono ?_; rintro e x3 ⟨rfl, bx2⟩))
        have hbw : Below x1.heap.size x1 x3 := (bw.trans (bd.mono hzr)).trans (((of_drew bx1).mono (by omega)).trans (bx2.mono (by have := (of_drew bx1).size; omega)))
        have g4 := keepB bx2 (keepB (of_drew bx1) d4)
        clear d0 d1 d2 d3 d4 c00 c01 c02 c10 c11 c12 c13 bx1 bx2 bd bw
        go_wp2
        all_goals
          go_roundw
          case rel => exact ⟨k + 1, by omega, by go_num, congrArg (Value.int .i64) (by rw [Hst.out]; split <;> first | omega | (simp_all; done)), hbw⟩
          case measure => simp [intOf]; omega
      · have He := Lib.hid (show k = ds.length by omega)
        go_wp2
        go_ret
        exact ⟨ret_int (by rw [HR2.out, He.out, List.take_length]; rfl), Hb1.out.trans (bw.mono (by omega))⟩
end Go.Proofs.YtkgepklapglmdaaGreatDoor

namespace Go.Proofs.YtkgepklapglmdaaGreatDoor
open Go.RowKit
attribute [local go_sem ↓] Go.wp_at_zero Go.wp_at_succ

def noMeet (ps : List (List Int)) (p : List Int) (m : Nat) : Bool := (ps.take m).all fun q => !mT p q
def cutOk (W L : Int) (ps : List (List Int)) (j : Nat) : Bool := pv (gr ps j) W L && noMeet ps (gr ps j) j
def vCuts (W L : Int) (ds ps : List (List Int)) : Bool := vReel W L ds && decide (ps.length ≤ 60) && (List.range ps.length).all (cutOk W L ps)
theorem vCuts_iff {W L : Int} {ds ps : List (List Int)} : vCuts W L ds ps = true ↔ vReel W L ds = true ∧ ps.length ≤ 60 ∧ ∀ j, j < ps.length → cutOk W L ps j = true := by
  unfold vCuts
  simp only [Bool.and_eq_true, decide_eq_true_eq, List.all_eq_true, List.mem_range, and_assoc]
theorem noMeet_iff {ps : List (List Int)} {p : List Int} {m : Nat} (hm : m ≤ ps.length) : noMeet ps p m = true ↔ ∀ i, i < m → mT p (gr ps i) = false := by
  unfold noMeet
  rw [List.all_eq_true]
  constructor
  · intro h i hi
    have := h (gr ps i) (by rw [gr_eq (by omega), List.mem_take_iff_getElem]; exact ⟨i, by omega, rfl⟩)
    simpa using this
  · intro h q hq
    obtain ⟨i, hi, rfl⟩ := List.mem_take_iff_getElem.1 hq
    have := h i (by omega)
    rw [gr_eq (by omega)] at this
    simp [this]
theorem vCuts_no {W L : Int} {ds ps : List (List Int)} {j : Nat} (hj : j < ps.length) (h : vReel W L ds = true → cutOk W L ps j = false) : vCuts W L ds ps = false := by
  cases hv : vCuts W L ds ps
  · rfl
  · obtain ⟨a, _, c⟩ := vCuts_iff.1 hv
    have := c j hj; rw [h a] at this; cases this
theorem cut_meet {W L : Int} {ps : List (List Int)} {j i : Nat} (hj : j < ps.length) (hi : i < j) (h : mT (gr ps j) (gr ps i) = true) : cutOk W L ps j = false := by
  cases hv : cutOk W L ps j
  · rfl
  · unfold cutOk at hv
    rw [Bool.and_eq_true] at hv
    have := (noMeet_iff (by omega)).1 hv.2 i hi
    rw [h] at this; cases this
theorem cut_part {W L : Int} {ps : List (List Int)} {j : Nat} (h : pv (gr ps j) W L = false) : cutOk W L ps j = false := by unfold cutOk; rw [h]; rfl
theorem vReel_rng {W L : Int} {ds : List (List Int)} (h : vReel W L ds = true) : 1 ≤ W ∧ W ≤ 60 ∧ 1 ≤ L ∧ L ≤ 400 := by have := vReel_iff.1 h; omega

set_option maxRecDepth 100000 in
set_option maxHeartbeats 1000000 in
theorem validReel_any (lo hi : Nat) (W L : Int) (v : Value) (ds : List (List Int)) (w : World) (h : TS w lo hi 5 v ds) (hhi : hi ≤ w.heap.size) :
    Calls Tryz.prog 72 #[.agg #[.int .i64 W, .int .i64 L, v]] w fun e w' => e = .returned (.bool (vReel W L ds)) ∧ Below w.heap.size w w' := by
  obtain ⟨A, c, rfl, hc, hm⟩ := h.form
  have Hs := Lib.hid (show ∃ w1, w1 = (w.alloc (.cells #[.int .i64 W, .int .i64 L, .slice A ds.length c] 55)) ∧ Below w.heap.size w w1 ∧ w1.cell? ⟨w.heap.size, 0, none⟩ = some (.int .i64 W) ∧ w1.cell? ⟨w.heap.size, 1, none⟩ = some (.int .i64 L) ∧ w1.cell? ⟨w.heap.size, 2, none⟩ = some (.slice A ds.length c) ∧ TS w1 lo hi 5 (.slice A ds.length c) ds ∧ w.heap.size < w1.heap.size from by
    have hb : Below w.heap.size w (w.alloc (.cells #[.int .i64 W, .int .i64 L, .slice A ds.length c] 55)) := (Below.refl _ _).alloc (Nat.le_refl _) _
    exact ⟨_, rfl, hb, by go_simp, by go_simp, by go_simp, h.below hb hhi, by simp⟩)
  have hds : (0 : Int) ≤ ds.length := by omega
  by_cases hb : 1 ≤ W ∧ W ≤ 60 ∧ 1 ≤ L ∧ L ≤ 400 ∧ ds.length ≤ 16
  · have Hb := Lib.hid hb
    obtain ⟨b1, b2, b3, b4, b5⟩ := hb
    have r1 : inR 1 60 W = true := inR_mk ⟨b1, b2⟩
    have r2 : inR 1 400 L = true := inR_mk ⟨b3, b4⟩
    go_enter Tryz.func72, Tryz.ntmps72
    go_wp2_with (go_at_call 68; refine (inRange_any _ _ _ _).mono ?_; rintro e w' ⟨rfl, rfl⟩)
    obtain ⟨w1, hw1, hb0, c00, c01, c02, hT0, hz⟩ := Hs.out
    rw [← hw1]
    clear hw1 Hs
    go_loopw [3] (fun i wr => ∃ k : Nat, k ≤ ds.length ∧ i = .int .i64 k ∧ Below w1.heap.size w1 wr ∧ Hid (∀ j, j < k → dOk W L (gr ds j) = true)) (fun i _ => ds.length - (intOf i).toNat)
    case atStart => exact ⟨0, by omega, rfl, Below.refl _ _, fun j hj => absurd hj (by omega)⟩
    case round =>
      obtain ⟨k, hk, rfl, bw, HD⟩ := hrel
      have hzr := bw.size
      replace c00 := keepB bw c00; replace c01 := keepB bw c01; replace c02 := keepB bw c02
      by_cases hlt : k < ds.length
      · obtain ⟨b, o, rfl, hb2, hb3, e0, e1, e2, e3, e4⟩ := (hT0.below bw (by omega)).c5 hlt
        have hk0 : (0 : Int) ≤ (k : Int) := by omega
        have hk1 : (k : Int) < (ds.length : Int) := by omega
        have HO : Hid ((spB (gi (gr ds k) 0) (gi (gr ds k) 1) (gi (gr ds k) 2) (gi (gr ds k) 3) W L && inR 1 9 (gi (gr ds k) 4)) = dOk W L (gr ds k)) := by
          rw [spB_ins b1 b2 b3 b4]; rfl
        clear r1 r2 hT0 h
        go_wp2
        go_region_held3 (fun w' => w'.cell? ⟨w.heap.size, 0, none⟩ = some (.int .i64 W) ∧ w'.cell? ⟨w.heap.size, 1, none⟩ = some (.int .i64 L) ∧ w'.cell? ⟨w.heap.size, 2, none⟩ = some (.slice (some ⟨b, o, none⟩) ds.length c) ∧ w'.cell? ⟨b, o + k * 5, none⟩ = some (.int .i64 (gi (gr ds k) 0)) ∧ w'.cell? ⟨b, o + k * 5 + 1, none⟩ = some (.int .i64 (gi (gr ds k) 1)) ∧ w'.cell? ⟨b, o + k * 5 + 2, none⟩ = some (.int .i64 (gi (gr ds k) 2)) ∧ w'.cell? ⟨b, o + k * 5 + 3, none⟩ = some (.int .i64 (gi (gr ds k) 3)) ∧ w'.cell? ⟨b, o + k * 5 + 4, none⟩ = some (.int .i64 (gi (gr ds k) 4))) (first | go_keep | (go_split_ands; refine ⟨?_, ?_, ?_, ?_, ?_, ?_, ?_, ?_⟩ <;> first | exact keepB bx2 (by assumption) | exact keepB bx1 (by assumption))) (first | (go_at_call 108; refine (validDefect_any _ _ _ _ _ _ _ _ _ _ _).mono ?_; rw [HO.out]; rintro e x1 ⟨rfl, bx1⟩))
        have hbw := bw.trans ((of_drew bx1).mono hzr)
        have bx2 := of_drew bx1
        replace c00 := keepB bx2 c00; replace c01 := keepB bx2 c01; replace c02 := keepB bx2 c02
        cases hd : dOk W L (gr ds k)
        · have Hno := Lib.hid (vReel_no (W := W) (L := L) hlt hd)
          clear e0 e1 e2 e3 e4 HO
          go_wp2
          go_ret
          exact ⟨ret_bool Hno.out.symm, hb0.trans (hbw.mono (by omega))⟩
        · have Hd := Lib.hid hd
          clear e0 e1 e2 e3 e4 HO
          go_wp2
          go_roundw
          case rel =>
            refine ⟨k + 1, by omega, by go_num, hbw, fun j hj => ?_⟩
            rcases Nat.lt_or_ge j k with h' | h'
            · exact HD.out j h'
            · obtain rfl : j = k := by omega
              exact Hd.out
          case measure => simp [intOf]; omega
      · have Hv := Lib.hid (show vReel W L ds = true from vReel_iff.2 ⟨b1, b2, b3, b4, b5, fun d hd => by
          obtain ⟨j, hj, e⟩ := List.getElem_of_mem hd
          rw [← e, ← gr_eq hj]; exact HD.out j (by omega)⟩)
        go_wp2
        go_ret
        exact ⟨ret_bool Hv.out.symm, hb0.trans (bw.mono (by omega))⟩
  · have Hv := Lib.hid (vReel_false hb)
    have HB := Lib.hid hb
    clear hb
    by_cases b1 : inR 1 60 W = true
    · by_cases b2 : inR 1 400 L = true
      · have b5 : (16 : Int) < (ds.length : Int) := by have := HB.out; have := inR_true b1; have := inR_true b2; omega
        go_enter Tryz.func72, Tryz.ntmps72
        go_wp2_with (go_at_call 68; refine (inRange_any _ _ _ _).mono ?_; rintro e w' ⟨rfl, rfl⟩)
        go_ret
        exact ⟨ret_bool Hv.out.symm, ((Below.refl _ _).alloc (Nat.le_refl _) _)⟩
      · rw [Bool.not_eq_true] at b2
        go_enter Tryz.func72, Tryz.ntmps72
        go_wp2_with (go_at_call 68; refine (inRange_any _ _ _ _).mono ?_; rintro e w' ⟨rfl, rfl⟩)
        go_ret
        exact ⟨ret_bool Hv.out.symm, ((Below.refl _ _).alloc (Nat.le_refl _) _)⟩
    · rw [Bool.not_eq_true] at b1
      go_enter Tryz.func72, Tryz.ntmps72
      go_wp2_with (go_at_call 68; refine (inRange_any _ _ _ _).mono ?_; rintro e w' ⟨rfl, rfl⟩)
      go_ret
      exact ⟨ret_bool Hv.out.symm, ((Below.refl _ _).alloc (Nat.le_refl _) _)⟩
end Go.Proofs.YtkgepklapglmdaaGreatDoor

namespace Go.Proofs.YtkgepklapglmdaaGreatDoor
open Go.RowKit
attribute [local go_sem ↓] Go.wp_at_zero Go.wp_at_succ

theorem spB_pv {W L : Int} {ds ps : List (List Int)} {k : Nat} (h : vReel W L ds = true) : spB (gi (gr ps k) 0) (gi (gr ps k) 1) (gi (gr ps k) 2) (gi (gr ps k) 3) W L = pv (gr ps k) W L := by
  obtain ⟨a, b, c, d⟩ := vReel_rng h
  rw [spB_ins a b c d]; rfl
set_option maxRecDepth 100000 in
set_option maxHeartbeats 1600000 in
theorem validCuts_any (lo hi l2 h2 : Nat) (W L : Int) (v u : Value) (ds ps : List (List Int)) (w : World) (h : TS w lo hi 5 v ds) (hhi : hi ≤ w.heap.size) (hp : TS w l2 h2 4 u ps) (hh2 : h2 ≤ w.heap.size) :
    Calls Tryz.prog 106 #[.agg #[.int .i64 W, .int .i64 L, v], u] w fun e w' => e = .returned (.bool (vCuts W L ds ps)) ∧ Below w.heap.size w w' := by
  obtain ⟨A, c, rfl, hc, hm⟩ := h.form
  obtain ⟨B, c2, rfl, hc2, hm2⟩ := hp.form
  have Hs := Lib.hid (show ∃ w1, w1 = (w.alloc (.cells #[.int .i64 W, .int .i64 L, .slice A ds.length c] 55)) ∧ Below w.heap.size w w1 ∧ w1.cell? ⟨w.heap.size, 0, none⟩ = some (.int .i64 W) ∧ w1.cell? ⟨w.heap.size, 1, none⟩ = some (.int .i64 L) ∧ w1.cell? ⟨w.heap.size, 2, none⟩ = some (.slice A ds.length c) ∧ TS w1 lo hi 5 (.slice A ds.length c) ds ∧ TS w1 l2 h2 4 (.slice B ps.length c2) ps ∧ w.heap.size < w1.heap.size from by
    have hb : Below w.heap.size w (w.alloc (.cells #[.int .i64 W, .int .i64 L, .slice A ds.length c] 55)) := (Below.refl _ _).alloc (Nat.le_refl _) _
    exact ⟨_, rfl, hb, by go_simp, by go_simp, by go_simp, h.below hb hhi, hp.below hb hh2, by simp⟩)
  go_enter Tryz.func106, Tryz.ntmps106
  go_wp2_with (fail)
  obtain ⟨w1, hw1, hb0, c00, c01, c02, hT0, hT1, hz⟩ := Hs.out
  rw [← hw1]
  clear hw1 Hs
  go_loopw [5] (fun i wr => ∃ k : Nat, k ≤ ps.length ∧ i = .int .i64 k ∧ Below w1.heap.size w1 wr ∧ Hid (vReel W L ds = true → ∀ j, j < k → cutOk W L ps j = true)) (fun i _ => ps.length - (intOf i).toNat)
  case atStart => exact ⟨0, by omega, rfl, Below.refl _ _, fun _ j hj => absurd hj (by omega)⟩
  case round =>
    obtain ⟨k, hk, rfl, bw, HD⟩ := hrel
    have hzr := bw.size
    replace c00 := keepB bw c00; replace c01 := keepB bw c01; replace c02 := keepB bw c02
    by_cases hlt : k < ps.length
    · have hPr := hT1.below bw (by omega)
      obtain ⟨b, o, rfl, hb2, hb3, e0, e1, e2, e3⟩ := hPr.c4 hlt
      have hk0 : (0 : Int) ≤ (k : Int) := by omega
      have hk1 : (k : Int) < (ps.length : Int) := by omega
      have HP := Lib.hid hPr
      clear hT0 h hp hT1 hPr
      go_wp2
      go_region_held3 (fun w' => w'.cell? ⟨w.heap.size, 0, none⟩ = some (.int .i64 W) ∧ w'.cell? ⟨w.heap.size, 1, none⟩ = some (.int .i64 L) ∧ w'.cell? ⟨w.heap.size, 2, none⟩ = some (.slice A ds.length c) ∧ w'.cell? ⟨b, o + k * 4, none⟩ = some (.int .i64 (gi (gr ps k) 0)) ∧ w'.cell? ⟨b, o + k * 4 + 1, none⟩ = some (.int .i64 (gi (gr ps k) 1)) ∧ w'.cell? ⟨b, o + k * 4 + 2, none⟩ = some (.int .i64 (gi (gr ps k) 2)) ∧ w'.cell? ⟨b, o + k * 4 + 3, none⟩ = some (.int .i64 (gi (gr ps k) 3))) (first | go_keep | (go_split_ands; refine ⟨?_, ?_, ?_, ?_, ?_, ?_, ?_⟩ <;> first | exact keepB bx3 (by assumption) | exact keepB bx2 (by assumption) | exact keepB bx1 (by assumption))) (first | (go_at_call 134; refine (validPart_any _ _ _ _ _ _ _ _ _ _).mono ?_; rintro e x1 ⟨rfl, bx1⟩))
      have bx2 := of_drew bx1
      have hbw := bw.trans (bx2.mono hzr)
      have HP1 := Lib.hid (HP.out.below bx2 (by omega))
      replace c00 := keepB bx2 c00; replace c01 := keepB bx2 c01; replace c02 := keepB bx2 c02
      have hz1 := bx2.size
      cases hd : spB (gi (gr ps k) 0) (gi (gr ps k) 1) (gi (gr ps k) 2) (gi (gr ps k) 3) W L
      · have Hno := Lib.hid (vCuts_no (W := W) (L := L) (ds := ds) hlt fun hr => cut_part (by rw [← spB_pv hr]; exact hd))
        clear e0 e1 e2 e3 HP HP1 bx1
        go_wp2
        go_ret
        exact ⟨ret_bool Hno.out.symm, hb0.trans (hbw.mono (by omega))⟩
      · have Hd := Lib.hid (show vReel W L ds = true → pv (gr ps k) W L = true from fun hr => by rw [← spB_pv hr]; exact hd)
        clear e0 e1 e2 e3 HP bx1 hd
        simp only [Bool.not_true]
        go_wp2
        go_loopw [6] (fun i wx => ∃ m : Nat, m ≤ k ∧ i = .int .i64 m ∧ Below x1.heap.size x1 wx ∧ Hid (∀ i, i < m → mT (gr ps k) (gr ps i) = false)) (fun i _ => k - (intOf i).toNat)
        case atStart => exact ⟨0, by omega, rfl, Below.refl _ _, fun j hj => absurd hj (by omega)⟩
        case round =>
          obtain ⟨m, hmk, rfl, bx, HM⟩ := hrel
          have hzx := bx.size
          replace c00 := keepB bx c00; replace c01 := keepB bx c01; replace c02 := keepB bx c02
          by_cases hlt2 : m < k
          · have hPx := HP1.out.below bx (by omega)
            obtain ⟨f0, f1, f2, f3⟩ := hPx.c4' hlt
            obtain ⟨g0, g1, g2, g3⟩ := hPx.c4' (i := m) (by omega)
            have hm0 : (0 : Int) ≤ (m : Int) := by omega
            have hm1 : (m : Int) < (ps.length : Int) := by omega
            clear hPx
            go_wp2
            go_region_held3 (fun w' => w'.cell? ⟨b, o + k * 4, none⟩ = some (.int .i64 (gi (gr ps k) 0)) ∧ w'.cell? ⟨b, o + k * 4 + 1, none⟩ = some (.int .i64 (gi (gr ps k) 1)) ∧ w'.cell? ⟨b, o + k * 4 + 2, none⟩ = some (.int .i64 (gi (gr ps k) 2)) ∧ w'.cell? ⟨b, o + k * 4 + 3, none⟩ = some (.int .i64 (gi (gr ps k) 3)) ∧ w'.cell? ⟨b, o + m * 4, none⟩ = some (.int .i64 (gi (gr ps m) 0)) ∧ w'.cell? ⟨b, o + m * 4 + 1, none⟩ = some (.int .i64 (gi (gr ps m) 1)) ∧ w'.cell? ⟨b, o + m * 4 + 2, none⟩ = some (.int .i64 (gi (gr ps m) 2)) ∧ w'.cell? ⟨b, o + m * 4 + 3, none⟩ = some (.int .i64 (gi (gr ps m) 3))) (first | go_keep | (go_split_ands; refine ⟨?_, ?_, ?_, ?_, ?_, ?_, ?_, ?_⟩ <;> first | exact keepB bx3 (by assumption) | exact keepB bx2 (by assumption) | exact keepB bx1 (by assumption))) (first | (go_at_call 135; refine (partsMeet_any _ _ _ _ _ _ _ _ _).mono ?_; rintro e x2 ⟨rfl, bx1⟩))
            have bx3 := of_drew bx1
            have hby := bx.trans (bx3.mono hzx)
            replace c00 := keepB bx3 c00; replace c01 := keepB bx3 c01; replace c02 := keepB bx3 c02
            cases hd : meetB (gi (gr ps k) 0) (gi (gr ps k) 1) (gi (gr ps k) 2) (gi (gr ps k) 3) (gi (gr ps m) 0) (gi (gr ps m) 1) (gi (gr ps m) 2) (gi (gr ps m) 3)
            · have HM2 := Lib.hid (show mT (gr ps k) (gr ps m) = false from hd)
              clear f0 f1 f2 f3 g0 g1 g2 g3
              go_wp2
              go_roundw
              case rel =>
                refine ⟨m + 1, by omega, by go_num, hby, fun j hj => ?_⟩
                rcases Nat.lt_or_ge j m with h' | h'
                · exact HM.out j h'
                · obtain rfl : j = m := by omega
                  exact HM2.out
              case measure => simp [intOf]; omega
            · have Hno := Lib.hid (vCuts_no (W := W) (L := L) (ds := ds) hlt fun _ => cut_meet hlt hlt2 hd)
              clear f0 f1 f2 f3 g0 g1 g2 g3
              go_wp2
              go_ret
              exact ⟨ret_bool Hno.out.symm, hb0.trans ((hbw.trans (hby.mono (by omega))).mono (by omega))⟩
          · have He := Lib.hid (show m = k by omega)
            go_wp2
            go_roundw
            case rel =>
              refine ⟨k + 1, by omega, by go_num, hbw.trans (bx.mono (by omega)), fun hr j hj => ?_⟩
              rcases Nat.lt_or_ge j k with h' | h'
              · exact HD.out hr j h'
              · obtain rfl : j = k := by omega
                unfold cutOk
                rw [Hd.out hr, (noMeet_iff (Nat.le_of_lt hlt)).2 fun i hi => HM.out i (by rw [He.out]; exact hi)]; rfl
            case measure => simp [intOf]; omega
    · have hTr := hT0.below bw (by omega)
      have HR : Hid (vCuts W L ds ps = (vReel W L ds && decide (ps.length ≤ 60))) := by
        rw [Bool.eq_iff_iff, vCuts_iff, Bool.and_eq_true, decide_eq_true_eq]
        exact ⟨fun ⟨a, b, _⟩ => ⟨a, b⟩, fun ⟨a, b⟩ => ⟨a, b, fun j hj => HD.out a j (by omega)⟩⟩
      go_wp2_with (go_at_call 72; refine (validReel_any lo hi W L _ ds _ hTr (by omega)).mono ?_; rintro e x1 ⟨rfl, bx1⟩)
      all_goals go_ret
      all_goals exact ⟨ret_bool (by rw [HR.out]; simp [*] <;> omega), hb0.trans ((bw.trans (bx1.mono (by omega))).mono (by omega))⟩
end Go.Proofs.YtkgepklapglmdaaGreatDoor

namespace Go.Proofs.YtkgepklapglmdaaGreatDoor
open Go.RowKit
attribute [local go_sem ↓] Go.wp_at_zero Go.wp_at_succ

set_option maxRecDepth 100000 in
set_option maxHeartbeats 1600000 in
theorem ValidCuts_any (lo hi l2 h2 : Nat) (W L : Int) (v u : Value) (ds ps : List (List Int)) (w : World) (h : TS w lo hi 5 v ds) (hhi : hi ≤ w.heap.size) (hp : TS w l2 h2 4 u ps) (hh2 : h2 ≤ w.heap.size) :
    Calls Tryz.prog 57 #[.agg #[.int .i64 W, .int .i64 L, v], u] w fun e w' => e = .returned (.bool (vCuts W L ds ps)) ∧ Below w.heap.size w w' := by
  obtain ⟨A, c, rfl, hc, hm⟩ := h.form
  obtain ⟨B, c2, rfl, hc2, hm2⟩ := hp.form
  have Hs := Lib.hid (show ∃ w1, w1 = (w.alloc (.cells #[.int .i64 W, .int .i64 L, .slice A ds.length c] 55)) ∧ Below w.heap.size w w1 ∧ w1.cell? ⟨w.heap.size, 0, none⟩ = some (.int .i64 W) ∧ w1.cell? ⟨w.heap.size, 1, none⟩ = some (.int .i64 L) ∧ w1.cell? ⟨w.heap.size, 2, none⟩ = some (.slice A ds.length c) ∧ TS w1 lo hi 5 (.slice A ds.length c) ds ∧ TS w1 l2 h2 4 (.slice B ps.length c2) ps ∧ w.heap.size < w1.heap.size from by
    have hb : Below w.heap.size w (w.alloc (.cells #[.int .i64 W, .int .i64 L, .slice A ds.length c] 55)) := (Below.refl _ _).alloc (Nat.le_refl _) _
    exact ⟨_, rfl, hb, by go_simp, by go_simp, by go_simp, h.below hb hhi, hp.below hb hh2, by simp⟩)
  go_enter Tryz.func57, Tryz.ntmps57
  go_wp2_with (fail)
  obtain ⟨w1, hw1, hb0, c00, c01, c02, hT0, hT1, hz⟩ := Hs.out
  rw [← hw1]
  clear hw1 Hs
  refine (ValidReel_any lo hi W L _ ds w1 hT0 (by omega)).mono ?_
  rintro e x1 ⟨rfl, bx1⟩
  replace c00 := keepB bx1 c00; replace c01 := keepB bx1 c01; replace c02 := keepB bx1 c02
  have hP := hT1.below bx1 (by omega)
  have hz1 := bx1.size
  have Hb := Lib.hid (hb0.trans (bx1.mono (Nat.le_of_lt hz)))
  clear hT0 hT1 h hp bx1 hb0
  cases hv : vReel W L ds
  · have Hno := Lib.hid (show vCuts W L ds ps = false by unfold vCuts; rw [hv]; rfl)
    go_wp2
    go_ret
    exact ⟨ret_bool Hno.out.symm, Hb.out⟩
  · have Hv := Lib.hid hv
    clear hv
    by_cases hl : ps.length ≤ 60
    · have hl' : (60 : Int) < (ps.length : Int) ↔ False := by simp; omega
      go_wp2
      clear hl'
      go_loopw [19] (fun i wr => ∃ k : Nat, k ≤ ps.length ∧ i = .int .i64 k ∧ Below x1.heap.size x1 wr ∧ Hid (∀ j, j < k → cutOk W L ps j = true)) (fun i _ => ps.length - (intOf i).toNat)
      case atStart => exact ⟨0, by omega, rfl, Below.refl _ _, fun j hj => absurd hj (by omega)⟩
      case round =>
        obtain ⟨k, hk, rfl, bw, HD⟩ := hrel
        obtain ⟨wo, rfl⟩ : ∃ wo : World, wo = wr := ⟨_, rfl⟩
        have hzr := bw.size
        replace c00 := keepB bw c00; replace c01 := keepB bw c01; replace c02 := keepB bw c02
        by_cases hlt : k < ps.length
        · have hPr := hP.below bw (by omega)
          obtain ⟨b, o, rfl, hb2, hb3, e0, e1, e2, e3⟩ := hPr.c4 hlt
          have hk0 : (0 : Int) ≤ (k : Int) := by omega
          have hk1 : (k : Int) < (ps.length : Int) := by omega
          have hk2 : (k : Int) ≤ (c2 : Int) := by omega
          have HP := Lib.hid hPr
          clear hP hPr
          have hbd : Below wo.heap.size wo (wo.alloc (.cells #[.int .i64 (gi (gr ps k) 0), .int .i64 (gi (gr ps k) 1), .int .i64 (gi (gr ps k) 2), .int .i64 (gi (gr ps k) 3)] 38)) := (Below.refl _ _).alloc (Nat.le_refl _) _
          have x_c00 := keepB hbd c00
          have x_c01 := keepB hbd c01
          go_wp2_with (fail)
          clear hbd x_c00 x_c01
          obtain ⟨wd, hw1⟩ : ∃ wd, wd = wo.alloc (.cells #[.int .i64 (gi (gr ps k) 0), .int .i64 (gi (gr ps k) 1), .int .i64 (gi (gr ps k) 2), .int .i64 (gi (gr ps k) 3)] 38) := ⟨_, rfl⟩
          have d0 : wd.cell? ⟨wo.heap.size, 0, none⟩ = some (.int .i64 (gi (gr ps k) 0)) := by rw [hw1]; go_simp
          have d1 : wd.cell? ⟨wo.heap.size, 1, none⟩ = some (.int .i64 (gi (gr ps k) 1)) := by rw [hw1]; go_simp
          have d2 : wd.cell? ⟨wo.heap.size, 2, none⟩ = some (.int .i64 (gi (gr ps k) 2)) := by rw [hw1]; go_simp
          have d3 : wd.cell? ⟨wo.heap.size, 3, none⟩ = some (.int .i64 (gi (gr ps k) 3)) := by rw [hw1]; go_simp
          have bd : Below wo.heap.size wo wd := by rw [hw1]; exact (Below.refl _ _).alloc (Nat.le_refl _) _
          have zd : wo.heap.size < wd.heap.size := by rw [hw1]; simp
          rw [← hw1]
          clear hw1
          replace c00 := keepB bd c00; replace c01 := keepB bd c01; replace c02 := keepB bd c02
          refine (inside_any _ _ _ _ _ _ wd).mono ?_
          rintro e x2 ⟨rfl, bx2⟩
          replace c00 := keepB bx2 c00; replace c01 := keepB bx2 c01; replace c02 := keepB bx2 c02; replace d0 := keepB bx2 d0; replace d1 := keepB bx2 d1; replace d2 := keepB bx2 d2; replace d3 := keepB bx2 d3
          have hbw := bw.trans ((bd.mono hzr).trans (bx2.mono (by omega)))
          have HP1 := Lib.hid ((HP.out.below bd (by omega)).below bx2 (by omega))
          have hz2 := bx2.size
          clear e0 e1 e2 e3 HP bd bx2 bw
          cases hd : insB (gi (gr ps k) 0) (gi (gr ps k) 1) (gi (gr ps k) 2) (gi (gr ps k) 3) W L
          · have Hno := Lib.hid (vCuts_no (W := W) (L := L) (ds := ds) hlt fun _ => cut_part hd)
            go_wp2
            go_ret
            exact ⟨ret_bool Hno.out.symm, Hb.out.trans (hbw.mono (by omega))⟩
          · have Hd := Lib.hid (show pv (gr ps k) W L = true from hd)
            clear hd
            go_wp2
            go_loopw [35] (fun i wx => ∃ m : Nat, m ≤ k ∧ i = .int .i64 m ∧ Below x2.heap.size x2 wx ∧ Hid (∀ i, i < m → mT (gr ps k) (gr ps i) = false)) (fun i _ => k - (intOf i).toNat)
            case atStart => exact ⟨0, by omega, rfl, Below.refl _ _, fun j hj => absurd hj (by omega)⟩
            case round =>
              obtain ⟨m, hmk, rfl, bx, HM⟩ := hrel
              have hzx := bx.size
              replace c00 := keepB bx c00; replace c01 := keepB bx c01; replace c02 := keepB bx c02; replace d0 := keepB bx d0; replace d1 := keepB bx d1; replace d2 := keepB bx d2; replace d3 := keepB bx d3
              by_cases hlt2 : m < k
              · have hPx := HP1.out.below bx (by omega)
                obtain ⟨g0, g1, g2, g3⟩ := hPx.c4' (i := m) (by omega)
                have hm0 : (0 : Int) ≤ (m : Int) := by omega
                have hm1 : (m : Int) < (k : Int) := by omega
                clear hPx
                have hbd : Below wr.heap.size wr (wr.alloc (.cells #[.int .i64 (gi (gr ps m) 0), .int .i64 (gi (gr ps m) 1), .int .i64 (gi (gr ps m) 2), .int .i64 (gi (gr ps m) 3)] 38)) := (Below.refl _ _).alloc (Nat.le_refl _) _
                have x_c00 := keepB hbd c00
                have x_c01 := keepB hbd c01
                have x_d0 := keepB hbd d0
                have x_d1 := keepB hbd d1
                have x_d2 := keepB hbd d2
                have x_d3 := keepB hbd d3
                go_wp2_with (fail)
                clear hbd x_c00 x_c01 x_d0 x_d1 x_d2 x_d3
                obtain ⟨we, hw1⟩ : ∃ we, we = wr.alloc (.cells #[.int .i64 (gi (gr ps m) 0), .int .i64 (gi (gr ps m) 1), .int .i64 (gi (gr ps m) 2), .int .i64 (gi (gr ps m) 3)] 38) := ⟨_, rfl⟩
                have q0 : we.cell? ⟨wr.heap.size, 0, none⟩ = some (.int .i64 (gi (gr ps m) 0)) := by rw [hw1]; go_simp
                have q1 : we.cell? ⟨wr.heap.size, 1, none⟩ = some (.int .i64 (gi (gr ps m) 1)) := by rw [hw1]; go_simp
                have q2 : we.cell? ⟨wr.heap.size, 2, none⟩ = some (.int .i64 (gi (gr ps m) 2)) := by rw [hw1]; go_simp
                have q3 : we.cell? ⟨wr.heap.size, 3, none⟩ = some (.int .i64 (gi (gr ps m) 3)) := by rw [hw1]; go_simp
                have bq : Below wr.heap.size wr we := by rw [hw1]; exact (Below.refl _ _).alloc (Nat.le_refl _) _
                have zq : wr.heap.size < we.heap.size := by rw [hw1]; simp
                rw [← hw1]
                clear hw1
                replace c00 := keepB bq c00; replace c01 := keepB bq c01; replace c02 := keepB bq c02; replace d0 := keepB bq d0; replace d1 := keepB bq d1; replace d2 := keepB bq d2; replace d3 := keepB bq d3
                refine (meet_any _ _ _ _ _ _ _ _ we).mono ?_
                rintro e x3 ⟨rfl, bx3⟩
                replace c00 := keepB bx3 c00; replace c01 := keepB bx3 c01; replace c02 := keepB bx3 c02; replace d0 := keepB bx3 d0; replace d1 := keepB bx3 d1; replace d2 := keepB bx3 d2; replace d3 := keepB bx3 d3
                have hby := bx.trans ((bq.mono hzx).trans (bx3.mono (by omega)))
                clear g0 g1 g2 g3 q0 q1 q2 q3 bx bq bx3
                cases hd : meetB (gi (gr ps k) 0) (gi (gr ps k) 1) (gi (gr ps k) 2) (gi (gr ps k) 3) (gi (gr ps m) 0) (gi (gr ps m) 1) (gi (gr ps m) 2) (gi (gr ps m) 3)
                · have HM2 := Lib.hid (show mT (gr ps k) (gr ps m) = false from hd)
                  go_wp2
                  go_roundw
                  case rel =>
                    refine ⟨m + 1, by omega, by go_num, hby, fun j hj => ?_⟩
                    rcases Nat.lt_or_ge j m with h' | h'
                    · exact HM.out j h'
                    · obtain rfl : j = m := by omega
                      exact HM2.out
                  case measure => simp [intOf]; omega
                · have Hno := Lib.hid (vCuts_no (W := W) (L := L) (ds := ds) hlt fun _ => cut_meet hlt hlt2 hd)
                  go_wp2
                  go_ret
                  exact ⟨ret_bool Hno.out.symm, Hb.out.trans ((hbw.trans (hby.mono (by omega))).mono (by omega))⟩
              · have He := Lib.hid (show m = k by omega)
                go_wp2
                go_roundw
                case rel =>
                  refine ⟨k + 1, by omega, by go_num, hbw.trans (bx.mono (by omega)), fun j hj => ?_⟩
                  rcases Nat.lt_or_ge j k with h' | h'
                  · exact HD.out j h'
                  · obtain rfl : j = k := by omega
                    unfold cutOk
                    rw [Hd.out, (noMeet_iff (Nat.le_of_lt hlt)).2 fun i hi => HM.out i (by rw [He.out]; exact hi)]; rfl
                case measure => simp [intOf]; omega
        · have Hyes := Lib.hid (show vCuts W L ds ps = true from vCuts_iff.2 ⟨Hv.out, hl, fun j hj => HD.out j (by omega)⟩)
          go_wp2
          go_ret
          exact ⟨ret_bool Hyes.out.symm, Hb.out.trans (bw.mono (by omega))⟩
    · have Hno := Lib.hid (show vCuts W L ds ps = false by unfold vCuts; rw [decide_eq_false hl]; simp)
      have hl' : (60 : Int) < (ps.length : Int) := by omega
      go_wp2
      go_ret
      exact ⟨ret_bool Hno.out.symm, Hb.out⟩
end Go.Proofs.YtkgepklapglmdaaGreatDoor

namespace Go.Proofs.YtkgepklapglmdaaGreatDoor
open Go.RowKit
attribute [local go_sem ↓] Go.wp_at_zero Go.wp_at_succ

theorem keepC {B : Nat} {W w1 : World} {a : Addr} {v : Value} (hb : Below B W w1) (ha : a.block < B) (h : W.cell? a = some v) : w1.cell? a = some v := (hb.cell ha).trans h
end Go.Proofs.YtkgepklapglmdaaGreatDoor

namespace Go.Proofs.YtkgepklapglmdaaGreatDoor
open Go.RowKit
attribute [local go_sem ↓] Go.wp_at_zero Go.wp_at_succ

theorem keepF {B : Nat} {W w1 : World} {a : Addr} (hb : Below B W w1) (ha : a.block < B) (h : W.frozen? a = false) : w1.frozen? a = false := (hb.frozen ha).trans h
/-- a call that writes into the block of u alone (and into new ones) -/
theorem keepD {w w' : World} {u : Value} (hk : ∀ b, b < w.heap.size → some b ≠ u.ownBlock → w'.heap[b]? = w.heap[b]?) {a : Addr} {v : Value} (ha : a.block < w.heap.size) (hne : u.ownBlock = some a.block → False) (h : w.cell? a = some v) : w'.cell? a = some v :=
  (World.cell?_of_block (hk a.block ha fun e => hne e.symm)).trans h
theorem OwnI.apart {w w' : World} {base e : Nat} {u v : Value} {xs : List Int} (h : OwnI w base e v xs) (hk : ∀ b, b < w.heap.size → some b ≠ u.ownBlock → w'.heap[b]? = w.heap[b]?) (hne : ∀ g, v.ownBlock = some g → u.ownBlock = some g → False) : OwnI w' base e v xs :=
  h.keptBlock fun g hg => hk g (h.lt g hg).2 fun e => hne g hg e.symm
theorem OwnT.apart {w w' : World} {base e k : Nat} {u v : Value} {xs : List (List Int)} (h : OwnT w base e k v xs) (hk : ∀ b, b < w.heap.size → some b ≠ u.ownBlock → w'.heap[b]? = w.heap[b]?) (hne : ∀ g, v.ownBlock = some g → u.ownBlock = some g → False) : OwnT w' base e k v xs :=
  h.keptBlock fun g hg => hk g (h.lt g hg).2 fun e => hne g hg e.symm
theorem OwnT.setBelow {w : World} {base e k : Nat} {v : Value} {xs : List (List Int)} (h : OwnT w base e k v xs) {p : Addr} (hp : p.block < base) (u : Value) : OwnT (w.setCell p u) base e k v xs :=
  h.keptBlock fun g hg => by
    have := (h.lt g hg).1
    simp only [World.setCell, Array.getElem?_modify, if_neg (show ¬ p.block = g by omega)]
end Go.Proofs.YtkgepklapglmdaaGreatDoor
