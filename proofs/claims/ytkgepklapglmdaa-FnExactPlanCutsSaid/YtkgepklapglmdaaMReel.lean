/-
  Lemmas and contracts of single functions of this program, used by the proofs of its laws: what each call returns and what becomes of memory. Conditions: the hypotheses of each theorem.
-/
import Derived.Test.YtkgepklapglmdaaTup
import Derived.Test.YtkgepklapglmdaaLeafA
import Derived.BigGuardPart
import Derived.Deep.RegionHeld3
import Derived.Deep.RegionWith
import Derived.Deep.DrawnRows
import Derived.Deep.CutRange
import Derived.Test.YtkgepklapglmdaaOwn
namespace Go.Proofs.Ytkgepklapglmdaa
open Go.RowKit

def insB (l r f t W L : Int) : Bool := decide (0 ≤ l) && decide (l < r) && decide (r ≤ W) && decide (0 ≤ f) && decide (f < t) && decide (t ≤ L)
def meetB (l1 r1 f1 t1 l2 r2 f2 t2 : Int) : Bool := decide (l1 < r2) && decide (l2 < r1) && decide (f1 < t2) && decide (f2 < t1)
theorem insB_true {l r f t W L : Int} (h : insB l r f t W L = true) : 0 ≤ l ∧ l < r ∧ r ≤ W ∧ 0 ≤ f ∧ f < t ∧ t ≤ L := by unfold insB at h; simp at h; omega
theorem insB_iff {l r f t W L : Int} : insB l r f t W L = true ↔ 0 ≤ l ∧ l < r ∧ r ≤ W ∧ 0 ≤ f ∧ f < t ∧ t ≤ L := ⟨insB_true, fun h => by unfold insB; simp; omega⟩
/-- what is there stays, behind a call that makes memory alone -/
theorem keepB {W w1 : World} {a : Addr} {v : Value} (hb : Below W.heap.size W w1) (h : W.cell? a = some v) : w1.cell? a = some v := (hb.cell (World.block_lt_of_cell? W _ h)).trans h
theorem of_drew {w x : World} (h : Below w.drew.heap.size w.drew x) : Below w.heap.size w x := ⟨h.os, h.tape, h.output, h.size, h.block⟩
def dOk (W L : Int) (d : List Int) : Bool := insB (gi d 0) (gi d 1) (gi d 2) (gi d 3) W L && (decide (1 ≤ gi d 4) && decide (gi d 4 ≤ 9))
def vReel (W L : Int) (ds : List (List Int)) : Bool := decide (1 ≤ W) && decide (W ≤ 60) && decide (1 ≤ L) && decide (L ≤ 400) && decide (ds.length ≤ 16) && ds.all (dOk W L)
theorem vReel_iff {W L : Int} {ds : List (List Int)} : vReel W L ds = true ↔ 1 ≤ W ∧ W ≤ 60 ∧ 1 ≤ L ∧ L ≤ 400 ∧ ds.length ≤ 16 ∧ ∀ d ∈ ds, dOk W L d = true := by
  unfold vReel
  simp only [Bool.and_eq_true, decide_eq_true_eq, List.all_eq_true, and_assoc]
theorem vReel_no {W L : Int} {ds : List (List Int)} {k : Nat} (hk : k < ds.length) (h : dOk W L (gr ds k) = false) : vReel W L ds = false := by
  cases hv : vReel W L ds
  · rfl
  · have := (vReel_iff.1 hv).2.2.2.2.2 _ (gr_mem hk)
    rw [h] at this; cases this
theorem vReel_false {W L : Int} {ds : List (List Int)} (h : ¬ (1 ≤ W ∧ W ≤ 60 ∧ 1 ≤ L ∧ L ≤ 400 ∧ ds.length ≤ 16)) : vReel W L ds = false := by
  cases hv : vReel W L ds
  · rfl
  · have := vReel_iff.1 hv; omega

set_option maxHeartbeats 800000 in
theorem inside_any (l r f t W L : Int) (w : World) :
    Calls Try.prog 84 #[.agg #[.int .i64 l, .int .i64 r, .int .i64 f, .int .i64 t], .int .i64 W, .int .i64 L] w fun e w' => e = .returned (.bool (insB l r f t W L)) ∧ Below w.heap.size w w' := by
  go_enter Try.func84, Try.ntmps84
  go_wp2
  all_goals go_ret
  all_goals exact ⟨ret_bool (by unfold insB; simp [*] <;> omega), (Below.refl _ _).alloc (Nat.le_refl _) _⟩
set_option maxHeartbeats 800000 in
theorem meet_any (l1 r1 f1 t1 l2 r2 f2 t2 : Int) (w : World) :
    Calls Try.prog 85 #[.agg #[.int .i64 l1, .int .i64 r1, .int .i64 f1, .int .i64 t1], .agg #[.int .i64 l2, .int .i64 r2, .int .i64 f2, .int .i64 t2]] w fun e w' => e = .returned (.bool (meetB l1 r1 f1 t1 l2 r2 f2 t2)) ∧ Below w.heap.size w w' := by
  go_enter Try.func85, Try.ntmps85
  go_wp2
  all_goals go_ret
  all_goals exact ⟨ret_bool (by unfold meetB; simp [*] <;> omega), ((Below.refl _ _).alloc (Nat.le_refl _) _).alloc (by simp) _⟩
theorem partOf_any (l r f t g : Int) (w : World) :
    Calls Try.prog 95 #[.agg #[.int .i64 l, .int .i64 r, .int .i64 f, .int .i64 t, .int .i64 g]] w fun e w' => e = .returned (.agg #[.int .i64 l, .int .i64 r, .int .i64 f, .int .i64 t]) ∧ Below w.heap.size w w' := by
  go_enter Try.func95, Try.ntmps95
  go_wp2
  exact bodyPost_ret (v := .agg #[.int .i64 l, .int .i64 r, .int .i64 f, .int .i64 t]) (by simp [results, Try.results95, go_sem]) rfl ⟨rfl, ((Below.refl _ _).alloc (Nat.le_refl _) _).alloc (by simp) _⟩
end Go.Proofs.Ytkgepklapglmdaa

namespace Go.Proofs.Ytkgepklapglmdaa
open Go.RowKit
attribute [local go_sem ↓] Go.wp_at_zero Go.wp_at_succ

set_option maxHeartbeats 800000 in
theorem eqPart_same (d0 d1 d2 d3 : Int) (w : World) :
    Calls Try.prog 70 #[.agg #[.int .i64 d0, .int .i64 d1, .int .i64 d2, .int .i64 d3], .agg #[.int .i64 d0, .int .i64 d1, .int .i64 d2, .int .i64 d3]] w fun e w' => e = .returned (.bool true) ∧ Below w.heap.size w w' := by
  have h0 : (d0 != d0) = false := bne_f rfl
  have h1 : (d1 != d1) = false := bne_f rfl
  have h2 : (d2 != d2) = false := bne_f rfl
  have h3 : (d3 != d3) = false := bne_f rfl
  go_enter Try.func70, Try.ntmps70
  go_wp2
  go_ret
  exact ⟨rfl, ((Below.refl _ _).alloc (Nat.le_refl _) _).alloc (by simp) _⟩
set_option maxRecDepth 100000 in
set_option maxHeartbeats 2000000 in
theorem eqPartS_same (l1 h1 l2 h2 : Nat) (v u : Value) (xs : List (List Int)) (w : World) (h : TS w l1 h1 4 v xs) (hh : h1 ≤ w.heap.size) (hy : TS w l2 h2 4 u xs) (hh2 : h2 ≤ w.heap.size) :
    Calls Try.prog 97 #[v, u] w fun e w' => e = .returned (.bool true) ∧ Below w.heap.size w w' := by
  obtain ⟨A, c, rfl, hc, hm⟩ := h.form
  obtain ⟨B, d, rfl, hd, hm'⟩ := hy.form
  have hl' : ((xs.length : Int) != (xs.length : Int)) = false := bne_f rfl
  go_enter Try.func97, Try.ntmps97
  go_wp2
  clear hl'
  go_loopw [5] (fun i wr => ∃ k : Nat, k ≤ xs.length ∧ i = .int .i64 k ∧ Below w.heap.size w wr) (fun i _ => xs.length - (intOf i).toNat)
  case atStart => exact ⟨0, by omega, rfl, Below.refl _ _⟩
  case round =>
    obtain ⟨k, hk, rfl, bw⟩ := hrel
    by_cases hlt : k < xs.length
    · obtain ⟨b, o, rfl, _, _, e0, e1, e2, e3⟩ := (h.below bw hh).c4 hlt
      obtain ⟨b2, o2, rfl, _, _, f0, f1, f2, f3⟩ := (hy.below bw hh2).c4 hlt
      obtain ⟨d0, hd0⟩ : ∃ d, d = gi (gr xs k) 0 := ⟨_, rfl⟩
      rw [← hd0] at e0 f0
      obtain ⟨d1, hd1⟩ : ∃ d, d = gi (gr xs k) 1 := ⟨_, rfl⟩
      rw [← hd1] at e1 f1
      obtain ⟨d2, hd2⟩ : ∃ d, d = gi (gr xs k) 2 := ⟨_, rfl⟩
      rw [← hd2] at e2 f2
      obtain ⟨d3, hd3⟩ : ∃ d, d = gi (gr xs k) 3 := ⟨_, rfl⟩
      rw [← hd3] at e3 f3
      clear h hy hd0 hd1 hd2 hd3
      have hk0 : (0 : Int) ≤ (k : Int) := by omega
      have hk1 : (k : Int) < (xs.length : Int) := by omega
      go_wp2
      go_region_held3 (fun w' => w'.cell? ⟨b, o + k * 4, none⟩ = some (.int .i64 d0) ∧ w'.cell? ⟨b, o + k * 4 + 1, none⟩ = some (.int .i64 d1) ∧ w'.cell? ⟨b, o + k * 4 + 2, none⟩ = some (.int .i64 d2) ∧ w'.cell? ⟨b, o + k * 4 + 3, none⟩ = some (.int .i64 d3) ∧ w'.cell? ⟨b2, o2 + k * 4, none⟩ = some (.int .i64 d0) ∧ w'.cell? ⟨b2, o2 + k * 4 + 1, none⟩ = some (.int .i64 d1) ∧ w'.cell? ⟨b2, o2 + k * 4 + 2, none⟩ = some (.int .i64 d2) ∧ w'.cell? ⟨b2, o2 + k * 4 + 3, none⟩ = some (.int .i64 d3)) (first | go_keep | (go_split_ands; refine ⟨?_, ?_, ?_, ?_, ?_, ?_, ?_, ?_⟩ <;> exact keepB bx1 (by assumption))) (first | (go_at_call 70; refine (eqPart_same _ _ _ _ _).mono ?_; rintro e x1 ⟨rfl, bx1⟩))
      have bx2 := of_drew bx1
      go_wp2
      go_roundw
      case rel => exact ⟨k + 1, by omega, by go_num, bw.trans (bx2.mono bw.size)⟩
      case measure => simp [intOf]; omega
    · go_wp2
      go_ret
      exact ⟨rfl, bw⟩
set_option maxHeartbeats 800000 in
theorem eqDefect_same (d0 d1 d2 d3 d4 : Int) (w : World) :
    Calls Try.prog 132 #[.agg #[.int .i64 d0, .int .i64 d1, .int .i64 d2, .int .i64 d3, .int .i64 d4], .agg #[.int .i64 d0, .int .i64 d1, .int .i64 d2, .int .i64 d3, .int .i64 d4]] w fun e w' => e = .returned (.bool true) ∧ Below w.heap.size w w' := by
  have h0 : (d0 != d0) = false := bne_f rfl
  have h1 : (d1 != d1) = false := bne_f rfl
  have h2 : (d2 != d2) = false := bne_f rfl
  have h3 : (d3 != d3) = false := bne_f rfl
  have h4 : (d4 != d4) = false := bne_f rfl
  go_enter Try.func132, Try.ntmps132
  go_wp2
  go_ret
  exact ⟨rfl, ((Below.refl _ _).alloc (Nat.le_refl _) _).alloc (by simp) _⟩
set_option maxRecDepth 100000 in
set_option maxHeartbeats 2000000 in
theorem eqDefectS_same (l1 h1 l2 h2 : Nat) (v u : Value) (xs : List (List Int)) (w : World) (h : TS w l1 h1 5 v xs) (hh : h1 ≤ w.heap.size) (hy : TS w l2 h2 5 u xs) (hh2 : h2 ≤ w.heap.size) :
    Calls Try.prog 119 #[v, u] w fun e w' => e = .returned (.bool true) ∧ Below w.heap.size w w' := by
  obtain ⟨A, c, rfl, hc, hm⟩ := h.form
  obtain ⟨B, d, rfl, hd, hm'⟩ := hy.form
  have hl' : ((xs.length : Int) != (xs.length : Int)) = false := bne_f rfl
  go_enter Try.func119, Try.ntmps119
  go_wp2
  clear hl'
  go_loopw [5] (fun i wr => ∃ k : Nat, k ≤ xs.length ∧ i = .int .i64 k ∧ Below w.heap.size w wr) (fun i _ => xs.length - (intOf i).toNat)
  case atStart => exact ⟨0, by omega, rfl, Below.refl _ _⟩
  case round =>
    obtain ⟨k, hk, rfl, bw⟩ := hrel
    by_cases hlt : k < xs.length
    · obtain ⟨b, o, rfl, _, _, e0, e1, e2, e3, e4⟩ := (h.below bw hh).c5 hlt
      obtain ⟨b2, o2, rfl, _, _, f0, f1, f2, f3, f4⟩ := (hy.below bw hh2).c5 hlt
      obtain ⟨d0, hd0⟩ : ∃ d, d = gi (gr xs k) 0 := ⟨_, rfl⟩
      rw [← hd0] at e0 f0
      obtain ⟨d1, hd1⟩ : ∃ d, d = gi (gr xs k) 1 := ⟨_, rfl⟩
      rw [← hd1] at e1 f1
      obtain ⟨d2, hd2⟩ : ∃ d, d = gi (gr xs k) 2 := ⟨_, rfl⟩
      rw [← hd2] at e2 f2
      obtain ⟨d3, hd3⟩ : ∃ d, d = gi (gr xs k) 3 := ⟨_, rfl⟩
      rw [← hd3] at e3 f3
      obtain ⟨d4, hd4⟩ : ∃ d, d = gi (gr xs k) 4 := ⟨_, rfl⟩
      rw [← hd4] at e4 f4
      clear h hy hd0 hd1 hd2 hd3 hd4
      have hk0 : (0 : Int) ≤ (k : Int) := by omega
      have hk1 : (k : Int) < (xs.length : Int) := by omega
      go_wp2
      go_region_held3 (fun w' => w'.cell? ⟨b, o + k * 5, none⟩ = some (.int .i64 d0) ∧ w'.cell? ⟨b, o + k * 5 + 1, none⟩ = some (.int .i64 d1) ∧ w'.cell? ⟨b, o + k * 5 + 2, none⟩ = some (.int .i64 d2) ∧ w'.cell? ⟨b, o + k * 5 + 3, none⟩ = some (.int .i64 d3) ∧ w'.cell? ⟨b, o + k * 5 + 4, none⟩ = some (.int .i64 d4) ∧ w'.cell? ⟨b2, o2 + k * 5, none⟩ = some (.int .i64 d0) ∧ w'.cell? ⟨b2, o2 + k * 5 + 1, none⟩ = some (.int .i64 d1) ∧ w'.cell? ⟨b2, o2 + k * 5 + 2, none⟩ = some (.int .i64 d2) ∧ w'.cell? ⟨b2, o2 + k * 5 + 3, none⟩ = some (.int .i64 d3) ∧ w'.cell? ⟨b2, o2 + k * 5 + 4, none⟩ = some (.int .i64 d4)) (first | go_keep | (go_split_ands; refine ⟨?_, ?_, ?_, ?_, ?_, ?_, ?_, ?_, ?_, ?_⟩ <;> exact keepB bx1 (by assumption))) (first | (go_at_call 132; refine (eqDefect_same _ _ _ _ _ _).mono ?_; rintro e x1 ⟨rfl, bx1⟩))
      have bx2 := of_drew bx1
      go_wp2
      go_roundw
      case rel => exact ⟨k + 1, by omega, by go_num, bw.trans (bx2.mono bw.size)⟩
      case measure => simp [intOf]; omega
    · go_wp2
      go_ret
      exact ⟨rfl, bw⟩
set_option maxHeartbeats 1000000 in
theorem heldEventS_up (lo hi : Nat) (v : Value) (n m : Nat) (w : World) (h : TS w lo hi 7 v (upT 7 n m)) (hn : n ≤ 1048577) (hm : m ≤ 1048576) :
    Calls Try.prog 16 #[v, .int .i64 (n : Int)] w fun e w' => e = .returned (.int .i64 ((n + m * 7 : Nat) : Int)) ∧ w = w' := by
  obtain ⟨A, c, rfl, hc, hmc⟩ := h.form
  have hl : (upT 7 n m).length = m := upT_len 7 n m
  rw [hl] at hc h ⊢
  go_enter Try.func16, Try.ntmps16
  go_wp2
  go_loop [1, 5] (fun q i => ∃ k : Nat, k ≤ m ∧ i = .int .i64 k ∧ q = .int .i64 ((n + k * 7 : Nat) : Int)) (fun _ i => m - (intOf i).toNat)
  case atStart => exact ⟨0, by omega, rfl, by simp⟩
  case round =>
    obtain ⟨k, hk, rfl, rfl⟩ := hrel
    by_cases hlt : k < m
    · obtain ⟨b, o, rfl, _, _, e0, e1, e2, e3, e4, e5, e6⟩ := h.c7 (i := k) (by rw [hl]; exact hlt)
      obtain ⟨z, hz⟩ : ∃ z, z = n + k * 7 := ⟨_, rfl⟩
      have hz2 : z ≤ 9000000 := by omega
      rw [upT_at 7 n m k 0 hlt (by omega), ← hz] at e0
      rw [upT_at 7 n m k 1 hlt (by omega), ← hz] at e1
      rw [upT_at 7 n m k 2 hlt (by omega), ← hz] at e2
      rw [upT_at 7 n m k 3 hlt (by omega), ← hz] at e3
      rw [upT_at 7 n m k 4 hlt (by omega), ← hz] at e4
      rw [upT_at 7 n m k 5 hlt (by omega), ← hz] at e5
      rw [upT_at 7 n m k 6 hlt (by omega), ← hz] at e6
      have g0 : (((z : Nat) : Int) != (z : Int)) = false := bne_f rfl
      have g1 : ((((z + 1 : Nat) : Int)) != (z : Int) + 1) = false := bne_f (by omega)
      have g2 : ((((z + 2 : Nat) : Int)) != (z : Int) + 1 + 1) = false := bne_f (by omega)
      have g3 : ((((z + 3 : Nat) : Int)) != (z : Int) + 1 + 1 + 1) = false := bne_f (by omega)
      have g4 : ((((z + 4 : Nat) : Int)) != (z : Int) + 1 + 1 + 1 + 1) = false := bne_f (by omega)
      have g5 : ((((z + 5 : Nat) : Int)) != (z : Int) + 1 + 1 + 1 + 1 + 1) = false := bne_f (by omega)
      have g6 : ((((z + 6 : Nat) : Int)) != (z : Int) + 1 + 1 + 1 + 1 + 1 + 1) = false := bne_f (by omega)
      have e12 : ((z + 1 : Nat) : Int) = (z : Int) + 1 := by omega
      rw [e12] at e1
      have g12 : (((z : Int) + 1) != ((z : Int) + 1)) = false := bne_f rfl
      have e22 : ((z + 2 : Nat) : Int) = (z : Int) + 1 + 1 := by omega
      rw [e22] at e2
      have g22 : (((z : Int) + 1 + 1) != ((z : Int) + 1 + 1)) = false := bne_f rfl
      have e32 : ((z + 3 : Nat) : Int) = (z : Int) + 1 + 1 + 1 := by omega
      rw [e32] at e3
      have g32 : (((z : Int) + 1 + 1 + 1) != ((z : Int) + 1 + 1 + 1)) = false := bne_f rfl
      have e42 : ((z + 4 : Nat) : Int) = (z : Int) + 1 + 1 + 1 + 1 := by omega
      rw [e42] at e4
      have g42 : (((z : Int) + 1 + 1 + 1 + 1) != ((z : Int) + 1 + 1 + 1 + 1)) = false := bne_f rfl
      have e52 : ((z + 5 : Nat) : Int) = (z : Int) + 1 + 1 + 1 + 1 + 1 := by omega
      rw [e52] at e5
      have g52 : (((z : Int) + 1 + 1 + 1 + 1 + 1) != ((z : Int) + 1 + 1 + 1 + 1 + 1)) = false := bne_f rfl
      have e62 : ((z + 6 : Nat) : Int) = (z : Int) + 1 + 1 + 1 + 1 + 1 + 1 := by omega
      rw [e62] at e6
      have g62 : (((z : Int) + 1 + 1 + 1 + 1 + 1 + 1) != ((z : Int) + 1 + 1 + 1 + 1 + 1 + 1)) = false := bne_f rfl
      have Hz := Lib.hid hz
      clear hz h hl g1 g2 g3 g4 g5 g6 e12 e22 e32 e42 e52 e62
      rw [← Hz.out]
      go_wp2
      go_round
      case rel => exact ⟨k + 1, by omega, by go_num, by rw [show n + (k + 1) * 7 = z + 7 by rw [Hz.out]; omega]; go_num⟩
      case measure => simp [intOf]; omega
    · have He := Lib.hid (show k = m by omega)
      go_wp2
      go_ret
      exact ⟨ret_int (by have := He.out; omega), rfl⟩
end Go.Proofs.Ytkgepklapglmdaa

namespace Go.Proofs.Ytkgepklapglmdaa
open Go.RowKit

theorem set2_set {xss : List (List Int)} {i : Nat} (hi : i < xss.length) {r : List Int} {j : Nat} {y : Int} : set2 (xss.set i r) i j y = xss.set i (r.set j y) := by
  unfold set2 gr
  rw [List.getD_eq_getElem?_getD, List.getElem?_set_self hi, Option.getD_some, List.set_set]
theorem upT_set (k n : Nat) (xs : List (List Int)) (i : Nat) (hi : i < xs.length) : (upT k n i ++ xs.drop i).set i ((List.range k).map fun j => ((n + i * k + j : Nat) : Int)) = upT k n (i + 1) ++ xs.drop (i + 1) := by
  rw [List.set_append_right _ _ (by rw [upT_len]; omega), upT_len, Nat.sub_self, drop_gr hi, List.set_cons_zero]
  have e : upT k n (i + 1) = upT k n i ++ [(List.range k).map fun j => ((n + i * k + j : Nat) : Int)] := by
    unfold upT; rw [List.range_succ, List.map_append]; rfl
  rw [e, List.append_assoc]; rfl
theorem mid_len (k n : Nat) (xs : List (List Int)) (i : Nat) (hi : i ≤ xs.length) : (upT k n i ++ xs.drop i).length = xs.length := by
  rw [List.length_append, upT_len, List.length_drop]; omega
theorem OwnT.setRow {w : World} {base e k n c g : Nat} {xss : List (List Int)} {i : Nat} {r : List Int} (h : OwnT w base e k (.slice (some ⟨g, 0, none⟩) n c) (xss.set i r)) (hi : i < xss.length) (j : Nat) (hj : j < k) (y : Int) (hy : I64 y) :
    OwnT (w.setCell ⟨g, i * k + j, none⟩ (.int .i64 y)) base e k (.slice (some ⟨g, 0, none⟩) n c) (xss.set i (r.set j y)) := by
  obtain ⟨g0, e0, _, _, _, _, s0⟩ := h.at_ (i := i) (by rw [List.length_set]; exact hi) (by omega)
  simp only [Option.some.injEq, Addr.mk.injEq, and_true] at e0
  subst e0
  have h0 := s0 j y hj hy
  rw [set2_set hi] at h0
  exact h0

set_option maxHeartbeats 1000000 in
theorem OwnT.row4 {w : World} {base e n c g : Nat} {xss : List (List Int)} (h : OwnT w base e 4 (.slice (some ⟨g, 0, none⟩) n c) xss) {i : Nat} (hi : i < xss.length) (y0 y1 y2 y3 : Int) (hy : I64 y0 ∧ I64 y1 ∧ I64 y2 ∧ I64 y3) :
    OwnT ((((w.setCell ⟨g, i * 4, none⟩ (.int .i64 y0)).setCell ⟨g, i * 4 + 1, none⟩ (.int .i64 y1)).setCell ⟨g, i * 4 + 2, none⟩ (.int .i64 y2)).setCell ⟨g, i * 4 + 3, none⟩ (.int .i64 y3)) base e 4 (.slice (some ⟨g, 0, none⟩) n c) (xss.set i [y0, y1, y2, y3]) := by
  obtain ⟨i0, i1, i2, i3⟩ := hy
  have hrow := (h.2 _ (gr_mem hi)).1
  have e0 : xss.set i (gr xss i) = xss := by rw [gr_eq hi]; exact List.set_getElem_self hi
  rw [← e0] at h
  clear e0
  obtain ⟨q, hq⟩ : ∃ q, q = gr xss i := ⟨_, rfl⟩
  rw [← hq] at hrow h
  clear hq
  match q, hrow, h with
  | [a0, a1, a2, a3], _, h =>
    have h0 := h.setRow hi 0 (by omega) y0 i0
    rw [Nat.add_zero] at h0
    rw [show ([a0, a1, a2, a3] : List Int).set 0 y0 = [y0, a1, a2, a3] from rfl] at h0
    have h1 := h0.setRow hi 1 (by omega) y1 i1
    rw [show ([y0, a1, a2, a3] : List Int).set 1 y1 = [y0, y1, a2, a3] from rfl] at h1
    have h2 := h1.setRow hi 2 (by omega) y2 i2
    rw [show ([y0, y1, a2, a3] : List Int).set 2 y2 = [y0, y1, y2, a3] from rfl] at h2
    have h3 := h2.setRow hi 3 (by omega) y3 i3
    rw [show ([y0, y1, y2, a3] : List Int).set 3 y3 = [y0, y1, y2, y3] from rfl] at h3
    exact h3
set_option maxHeartbeats 1000000 in
theorem OwnT.row5 {w : World} {base e n c g : Nat} {xss : List (List Int)} (h : OwnT w base e 5 (.slice (some ⟨g, 0, none⟩) n c) xss) {i : Nat} (hi : i < xss.length) (y0 y1 y2 y3 y4 : Int) (hy : I64 y0 ∧ I64 y1 ∧ I64 y2 ∧ I64 y3 ∧ I64 y4) :
    OwnT (((((w.setCell ⟨g, i * 5, none⟩ (.int .i64 y0)).setCell ⟨g, i * 5 + 1, none⟩ (.int .i64 y1)).setCell ⟨g, i * 5 + 2, none⟩ (.int .i64 y2)).setCell ⟨g, i * 5 + 3, none⟩ (.int .i64 y3)).setCell ⟨g, i * 5 + 4, none⟩ (.int .i64 y4)) base e 5 (.slice (some ⟨g, 0, none⟩) n c) (xss.set i [y0, y1, y2, y3, y4]) := by
  obtain ⟨i0, i1, i2, i3, i4⟩ := hy
  have hrow := (h.2 _ (gr_mem hi)).1
  have e0 : xss.set i (gr xss i) = xss := by rw [gr_eq hi]; exact List.set_getElem_self hi
  rw [← e0] at h
  clear e0
  obtain ⟨q, hq⟩ : ∃ q, q = gr xss i := ⟨_, rfl⟩
  rw [← hq] at hrow h
  clear hq
  match q, hrow, h with
  | [a0, a1, a2, a3, a4], _, h =>
    have h0 := h.setRow hi 0 (by omega) y0 i0
    rw [Nat.add_zero] at h0
    rw [show ([a0, a1, a2, a3, a4] : List Int).set 0 y0 = [y0, a1, a2, a3, a4] from rfl] at h0
    have h1 := h0.setRow hi 1 (by omega) y1 i1
    rw [show ([y0, a1, a2, a3, a4] : List Int).set 1 y1 = [y0, y1, a2, a3, a4] from rfl] at h1
    have h2 := h1.setRow hi 2 (by omega) y2 i2
    rw [show ([y0, y1, a2, a3, a4] : List Int).set 2 y2 = [y0, y1, y2, a3, a4] from rfl] at h2
    have h3 := h2.setRow hi 3 (by omega) y3 i3
    rw [show ([y0, y1, y2, a3, a4] : List Int).set 3 y3 = [y0, y1, y2, y3, a4] from rfl] at h3
    have h4 := h3.setRow hi 4 (by omega) y4 i4
    rw [show ([y0, y1, y2, y3, a4] : List Int).set 4 y4 = [y0, y1, y2, y3, y4] from rfl] at h4
    exact h4
set_option maxHeartbeats 1000000 in
theorem OwnT.row7 {w : World} {base e n c g : Nat} {xss : List (List Int)} (h : OwnT w base e 7 (.slice (some ⟨g, 0, none⟩) n c) xss) {i : Nat} (hi : i < xss.length) (y0 y1 y2 y3 y4 y5 y6 : Int) (hy : I64 y0 ∧ I64 y1 ∧ I64 y2 ∧ I64 y3 ∧ I64 y4 ∧ I64 y5 ∧ I64 y6) :
    OwnT (((((((w.setCell ⟨g, i * 7, none⟩ (.int .i64 y0)).setCell ⟨g, i * 7 + 1, none⟩ (.int .i64 y1)).setCell ⟨g, i * 7 + 2, none⟩ (.int .i64 y2)).setCell ⟨g, i * 7 + 3, none⟩ (.int .i64 y3)).setCell ⟨g, i * 7 + 4, none⟩ (.int .i64 y4)).setCell ⟨g, i * 7 + 5, none⟩ (.int .i64 y5)).setCell ⟨g, i * 7 + 6, none⟩ (.int .i64 y6)) base e 7 (.slice (some ⟨g, 0, none⟩) n c) (xss.set i [y0, y1, y2, y3, y4, y5, y6]) := by
  obtain ⟨i0, i1, i2, i3, i4, i5, i6⟩ := hy
  have hrow := (h.2 _ (gr_mem hi)).1
  have e0 : xss.set i (gr xss i) = xss := by rw [gr_eq hi]; exact List.set_getElem_self hi
  rw [← e0] at h
  clear e0
  obtain ⟨q, hq⟩ : ∃ q, q = gr xss i := ⟨_, rfl⟩
  rw [← hq] at hrow h
  clear hq
  match q, hrow, h with
  | [a0, a1, a2, a3, a4, a5, a6], _, h =>
    have h0 := h.setRow hi 0 (by omega) y0 i0
    rw [Nat.add_zero] at h0
    rw [show ([a0, a1, a2, a3, a4, a5, a6] : List Int).set 0 y0 = [y0, a1, a2, a3, a4, a5, a6] from rfl] at h0
    have h1 := h0.setRow hi 1 (by omega) y1 i1
    rw [show ([y0, a1, a2, a3, a4, a5, a6] : List Int).set 1 y1 = [y0, y1, a2, a3, a4, a5, a6] from rfl] at h1
    have h2 := h1.setRow hi 2 (by omega) y2 i2
    rw [show ([y0, y1, a2, a3, a4, a5, a6] : List Int).set 2 y2 = [y0, y1, y2, a3, a4, a5, a6] from rfl] at h2
    have h3 := h2.setRow hi 3 (by omega) y3 i3
    rw [show ([y0, y1, y2, a3, a4, a5, a6] : List Int).set 3 y3 = [y0, y1, y2, y3, a4, a5, a6] from rfl] at h3
    have h4 := h3.setRow hi 4 (by omega) y4 i4
    rw [show ([y0, y1, y2, y3, a4, a5, a6] : List Int).set 4 y4 = [y0, y1, y2, y3, y4, a5, a6] from rfl] at h4
    have h5 := h4.setRow hi 5 (by omega) y5 i5
    rw [show ([y0, y1, y2, y3, y4, a5, a6] : List Int).set 5 y5 = [y0, y1, y2, y3, y4, y5, a6] from rfl] at h5
    have h6 := h5.setRow hi 6 (by omega) y6 i6
    rw [show ([y0, y1, y2, y3, y4, y5, a6] : List Int).set 6 y6 = [y0, y1, y2, y3, y4, y5, y6] from rfl] at h6
    exact h6
set_option maxRecDepth 100000 in
set_option maxHeartbeats 2000000 in
theorem markPartS_any (base : Nat) (v : Value) (xs : List (List Int)) (n : Nat) (w : World) (h : OwnT w base 48 4 v xs) (hl : xs.length ≤ 1048576) (hn : n ≤ 9000000) :
    Calls Try.prog 73 #[v, .int .i64 (n : Int)] w fun e w' => e = .returned (.int .i64 ((n + xs.length * 4 : Nat) : Int)) ∧ OwnT w' base 48 4 v (upT 4 n xs.length) ∧ Below base w w' ∧ (∀ b, some b ≠ v.ownBlock → w'.heap[b]? = w.heap[b]?) ∧ w'.heap.size = w.heap.size := by
  obtain ⟨A, c, rfl, hc, hm⟩ := h.form
  go_enter Try.func73, Try.ntmps73
  go_wp2
  go_loopw [1, 5] (fun q i wr => ∃ k : Nat, k ≤ xs.length ∧ i = .int .i64 k ∧ q = .int .i64 ((n + k * 4 : Nat) : Int) ∧ OwnT wr base 48 4 (.slice A xs.length c) (upT 4 n k ++ xs.drop k) ∧ Below base w wr ∧ Hid (∀ b, some b ≠ (Value.slice A xs.length c).ownBlock → wr.heap[b]? = w.heap[b]?) ∧ Hid (wr.heap.size = w.heap.size)) (fun _ i _ => xs.length - (intOf i).toNat)
  case atStart => exact ⟨0, by omega, rfl, by simp, by simpa [upT] using h, Below.refl _ _, fun _ _ => rfl, rfl⟩
  case round =>
    obtain ⟨k, hk, rfl, rfl, ho, hb, HB, HS⟩ := hrel
    by_cases hlt : k < xs.length
    · have hml := mid_len 4 n xs k hk
      obtain ⟨g, rfl, hgb, hgs, hcell, hfr, _⟩ := ho.at_ (i := k) (by rw [hml]; exact hlt) (by omega)
      have e0 := hcell 0 (by omega)
      have f0 := hfr 0
      have e1 := hcell 1 (by omega)
      have f1 := hfr 1
      have e2 := hcell 2 (by omega)
      have f2 := hfr 2
      have e3 := hcell 3 (by omega)
      have f3 := hfr 3
      rw [Nat.add_zero] at e0 f0
      obtain ⟨z, hz⟩ : ∃ z, z = n + k * 4 := ⟨_, rfl⟩
      have hz2 : z ≤ 20000000 := by omega
      have hrow := ho.row4 (i := k) (by rw [hml]; exact hlt) ((z : Int)) ((z : Int) + 1) ((z : Int) + 1 + 1) ((z : Int) + 1 + 1 + 1) ⟨⟨by omega, by omega⟩, ⟨by omega, by omega⟩, ⟨by omega, by omega⟩, ⟨by omega, by omega⟩⟩
      have er : [(z : Int), (z : Int) + 1, (z : Int) + 1 + 1, (z : Int) + 1 + 1 + 1] = (List.range 4).map fun j => ((n + k * 4 + j : Nat) : Int) := by
        rw [hz]; simp only [List.range, List.range.loop, List.map]; simp only [List.cons.injEq, and_true]; refine ⟨?_, ?_, ?_, ?_⟩ <;> omega
      rw [er, upT_set 4 n xs k hlt] at hrow
      obtain ⟨x0, hx0⟩ : ∃ x, x = gi (gr (upT 4 n k ++ xs.drop k) k) 0 := ⟨_, rfl⟩
      rw [← hx0] at e0
      obtain ⟨x1, hx1⟩ : ∃ x, x = gi (gr (upT 4 n k ++ xs.drop k) k) 1 := ⟨_, rfl⟩
      rw [← hx1] at e1
      obtain ⟨x2, hx2⟩ : ∃ x, x = gi (gr (upT 4 n k ++ xs.drop k) k) 2 := ⟨_, rfl⟩
      rw [← hx2] at e2
      obtain ⟨x3, hx3⟩ : ∃ x, x = gi (gr (upT 4 n k ++ xs.drop k) k) 3 := ⟨_, rfl⟩
      rw [← hx3] at e3
      have Hrow := Lib.hid hrow
      have Hz := Lib.hid hz
      clear hrow er hcell hfr hml ho hz hx0 hx1 hx2 hx3
      rw [← Hz.out]
      go_wp2
      go_roundw
      case rel =>
        refine ⟨k + 1, by omega, by go_num, by rw [show n + (k + 1) * 4 = z + 4 by rw [Hz.out]; omega]; go_num, Hrow.out, ((((hb.setCell (p := ⟨g, k * 4, none⟩) hgb _).setCell (p := ⟨g, k * 4 + 1, none⟩) hgb _).setCell (p := ⟨g, k * 4 + 2, none⟩) hgb _).setCell (p := ⟨g, k * 4 + 3, none⟩) hgb _), fun b hb' => ?_, ?_⟩
        · rw [← HB.out b hb']
          have hne : b ≠ g := fun e => hb' (by rw [e]; rfl)
          simp only [World.setCell, Array.getElem?_modify, if_neg (fun e : g = b => hne e.symm)]
        · show _ = _
          rw [← HS.out]; simp only [World.setCell, Array.size_modify]
      case measure => simp [intOf]; omega
    · have He := Lib.hid (show k = xs.length by omega)
      go_wp2
      go_ret
      refine ⟨ret_int (by have := He.out; omega), ?_, hb, HB.out, HS.out⟩
      rw [He.out] at ho
      simpa using ho
set_option maxRecDepth 100000 in
set_option maxHeartbeats 2000000 in
theorem markDefectS_any (base : Nat) (v : Value) (xs : List (List Int)) (n : Nat) (w : World) (h : OwnT w base 83 5 v xs) (hl : xs.length ≤ 1048576) (hn : n ≤ 9000000) :
    Calls Try.prog 72 #[v, .int .i64 (n : Int)] w fun e w' => e = .returned (.int .i64 ((n + xs.length * 5 : Nat) : Int)) ∧ OwnT w' base 83 5 v (upT 5 n xs.length) ∧ Below base w w' ∧ (∀ b, some b ≠ v.ownBlock → w'.heap[b]? = w.heap[b]?) ∧ w'.heap.size = w.heap.size := by
  obtain ⟨A, c, rfl, hc, hm⟩ := h.form
  go_enter Try.func72, Try.ntmps72
  go_wp2
  go_loopw [1, 5] (fun q i wr => ∃ k : Nat, k ≤ xs.length ∧ i = .int .i64 k ∧ q = .int .i64 ((n + k * 5 : Nat) : Int) ∧ OwnT wr base 83 5 (.slice A xs.length c) (upT 5 n k ++ xs.drop k) ∧ Below base w wr ∧ Hid (∀ b, some b ≠ (Value.slice A xs.length c).ownBlock → wr.heap[b]? = w.heap[b]?) ∧ Hid (wr.heap.size = w.heap.size)) (fun _ i _ => xs.length - (intOf i).toNat)
  case atStart => exact ⟨0, by omega, rfl, by simp, by simpa [upT] using h, Below.refl _ _, fun _ _ => rfl, rfl⟩
  case round =>
    obtain ⟨k, hk, rfl, rfl, ho, hb, HB, HS⟩ := hrel
    by_cases hlt : k < xs.length
    · have hml := mid_len 5 n xs k hk
      obtain ⟨g, rfl, hgb, hgs, hcell, hfr, _⟩ := ho.at_ (i := k) (by rw [hml]; exact hlt) (by omega)
      have e0 := hcell 0 (by omega)
      have f0 := hfr 0
      have e1 := hcell 1 (by omega)
      have f1 := hfr 1
      have e2 := hcell 2 (by omega)
      have f2 := hfr 2
      have e3 := hcell 3 (by omega)
      have f3 := hfr 3
      have e4 := hcell 4 (by omega)
      have f4 := hfr 4
      rw [Nat.add_zero] at e0 f0
      obtain ⟨z, hz⟩ : ∃ z, z = n + k * 5 := ⟨_, rfl⟩
      have hz2 : z ≤ 20000000 := by omega
      have hrow := ho.row5 (i := k) (by rw [hml]; exact hlt) ((z : Int)) ((z : Int) + 1) ((z : Int) + 1 + 1) ((z : Int) + 1 + 1 + 1) ((z : Int) + 1 + 1 + 1 + 1) ⟨⟨by omega, by omega⟩, ⟨by omega, by omega⟩, ⟨by omega, by omega⟩, ⟨by omega, by omega⟩, ⟨by omega, by omega⟩⟩
      have er : [(z : Int), (z : Int) + 1, (z : Int) + 1 + 1, (z : Int) + 1 + 1 + 1, (z : Int) + 1 + 1 + 1 + 1] = (List.range 5).map fun j => ((n + k * 5 + j : Nat) : Int) := by
        rw [hz]; simp only [List.range, List.range.loop, List.map]; simp only [List.cons.injEq, and_true]; refine ⟨?_, ?_, ?_, ?_, ?_⟩ <;> omega
      rw [er, upT_set 5 n xs k hlt] at hrow
      obtain ⟨x0, hx0⟩ : ∃ x, x = gi (gr (upT 5 n k ++ xs.drop k) k) 0 := ⟨_, rfl⟩
      rw [← hx0] at e0
      obtain ⟨x1, hx1⟩ : ∃ x, x = gi (gr (upT 5 n k ++ xs.drop k) k) 1 := ⟨_, rfl⟩
      rw [← hx1] at e1
      obtain ⟨x2, hx2⟩ : ∃ x, x = gi (gr (upT 5 n k ++ xs.drop k) k) 2 := ⟨_, rfl⟩
      rw [← hx2] at e2
      obtain ⟨x3, hx3⟩ : ∃ x, x = gi (gr (upT 5 n k ++ xs.drop k) k) 3 := ⟨_, rfl⟩
      rw [← hx3] at e3
      obtain ⟨x4, hx4⟩ : ∃ x, x = gi (gr (upT 5 n k ++ xs.drop k) k) 4 := ⟨_, rfl⟩
      rw [← hx4] at e4
      have Hrow := Lib.hid hrow
      have Hz := Lib.hid hz
      clear hrow er hcell hfr hml ho hz hx0 hx1 hx2 hx3 hx4
      rw [← Hz.out]
      go_wp2
      go_roundw
      case rel =>
        refine ⟨k + 1, by omega, by go_num, by rw [show n + (k + 1) * 5 = z + 5 by rw [Hz.out]; omega]; go_num, Hrow.out, (((((hb.setCell (p := ⟨g, k * 5, none⟩) hgb _).setCell (p := ⟨g, k * 5 + 1, none⟩) hgb _).setCell (p := ⟨g, k * 5 + 2, none⟩) hgb _).setCell (p := ⟨g, k * 5 + 3, none⟩) hgb _).setCell (p := ⟨g, k * 5 + 4, none⟩) hgb _), fun b hb' => ?_, ?_⟩
        · rw [← HB.out b hb']
          have hne : b ≠ g := fun e => hb' (by rw [e]; rfl)
          simp only [World.setCell, Array.getElem?_modify, if_neg (fun e : g = b => hne e.symm)]
        · show _ = _
          rw [← HS.out]; simp only [World.setCell, Array.size_modify]
      case measure => simp [intOf]; omega
    · have He := Lib.hid (show k = xs.length by omega)
      go_wp2
      go_ret
      refine ⟨ret_int (by have := He.out; omega), ?_, hb, HB.out, HS.out⟩
      rw [He.out] at ho
      simpa using ho
set_option maxRecDepth 100000 in
set_option maxHeartbeats 2000000 in
theorem markEventS_any (base : Nat) (v : Value) (xs : List (List Int)) (n : Nat) (w : World) (h : OwnT w base 50 7 v xs) (hl : xs.length ≤ 1048576) (hn : n ≤ 9000000) :
    Calls Try.prog 15 #[v, .int .i64 (n : Int)] w fun e w' => e = .returned (.int .i64 ((n + xs.length * 7 : Nat) : Int)) ∧ OwnT w' base 50 7 v (upT 7 n xs.length) ∧ Below base w w' ∧ (∀ b, some b ≠ v.ownBlock → w'.heap[b]? = w.heap[b]?) ∧ w'.heap.size = w.heap.size := by
  obtain ⟨A, c, rfl, hc, hm⟩ := h.form
  go_enter Try.func15, Try.ntmps15
  go_wp2
  go_loopw [1, 5] (fun q i wr => ∃ k : Nat, k ≤ xs.length ∧ i = .int .i64 k ∧ q = .int .i64 ((n + k * 7 : Nat) : Int) ∧ OwnT wr base 50 7 (.slice A xs.length c) (upT 7 n k ++ xs.drop k) ∧ Below base w wr ∧ Hid (∀ b, some b ≠ (Value.slice A xs.length c).ownBlock → wr.heap[b]? = w.heap[b]?) ∧ Hid (wr.heap.size = w.heap.size)) (fun _ i _ => xs.length - (intOf i).toNat)
  case atStart => exact ⟨0, by omega, rfl, by simp, by simpa [upT] using h, Below.refl _ _, fun _ _ => rfl, rfl⟩
  case round =>
    obtain ⟨k, hk, rfl, rfl, ho, hb, HB, HS⟩ := hrel
    by_cases hlt : k < xs.length
    · have hml := mid_len 7 n xs k hk
      obtain ⟨g, rfl, hgb, hgs, hcell, hfr, _⟩ := ho.at_ (i := k) (by rw [hml]; exact hlt) (by omega)
      have e0 := hcell 0 (by omega)
      have f0 := hfr 0
      have e1 := hcell 1 (by omega)
      have f1 := hfr 1
      have e2 := hcell 2 (by omega)
      have f2 := hfr 2
      have e3 := hcell 3 (by omega)
      have f3 := hfr 3
      have e4 := hcell 4 (by omega)
      have f4 := hfr 4
      have e5 := hcell 5 (by omega)
      have f5 := hfr 5
      have e6 := hcell 6 (by omega)
      have f6 := hfr 6
      rw [Nat.add_zero] at e0 f0
      obtain ⟨z, hz⟩ : ∃ z, z = n + k * 7 := ⟨_, rfl⟩
      have hz2 : z ≤ 20000000 := by omega
      have hrow := ho.row7 (i := k) (by rw [hml]; exact hlt) ((z : Int)) ((z : Int) + 1) ((z : Int) + 1 + 1) ((z : Int) + 1 + 1 + 1) ((z : Int) + 1 + 1 + 1 + 1) ((z : Int) + 1 + 1 + 1 + 1 + 1) ((z : Int) + 1 + 1 + 1 + 1 + 1 + 1) ⟨⟨by omega, by omega⟩, ⟨by omega, by omega⟩, ⟨by omega, by omega⟩, ⟨by omega, by omega⟩, ⟨by omega, by omega⟩, ⟨by omega, by omega⟩, ⟨by omega, by omega⟩⟩
      have er : [(z : Int), (z : Int) + 1, (z : Int) + 1 + 1, (z : Int) + 1 + 1 + 1, (z : Int) + 1 + 1 + 1 + 1, (z : Int) + 1 + 1 + 1 + 1 + 1, (z : Int) + 1 + 1 + 1 + 1 + 1 + 1] = (List.range 7).map fun j => ((n + k * 7 + j : Nat) : Int) := by
        rw [hz]; simp only [List.range, List.range.loop, List.map]; simp only [List.cons.injEq, and_true]; refine ⟨?_, ?_, ?_, ?_, ?_, ?_, ?_⟩ <;> omega
      rw [er, upT_set 7 n xs k hlt] at hrow
      obtain ⟨x0, hx0⟩ : ∃ x, x = gi (gr (upT 7 n k ++ xs.drop k) k) 0 := ⟨_, rfl⟩
      rw [← hx0] at e0
      obtain ⟨x1, hx1⟩ : ∃ x, x = gi (gr (upT 7 n k ++ xs.drop k) k) 1 := ⟨_, rfl⟩
      rw [← hx1] at e1
      obtain ⟨x2, hx2⟩ : ∃ x, x = gi (gr (upT 7 n k ++ xs.drop k) k) 2 := ⟨_, rfl⟩
      rw [← hx2] at e2
      obtain ⟨x3, hx3⟩ : ∃ x, x = gi (gr (upT 7 n k ++ xs.drop k) k) 3 := ⟨_, rfl⟩
      rw [← hx3] at e3
      obtain ⟨x4, hx4⟩ : ∃ x, x = gi (gr (upT 7 n k ++ xs.drop k) k) 4 := ⟨_, rfl⟩
      rw [← hx4] at e4
      obtain ⟨x5, hx5⟩ : ∃ x, x = gi (gr (upT 7 n k ++ xs.drop k) k) 5 := ⟨_, rfl⟩
      rw [← hx5] at e5
      obtain ⟨x6, hx6⟩ : ∃ x, x = gi (gr (upT 7 n k ++ xs.drop k) k) 6 := ⟨_, rfl⟩
      rw [← hx6] at e6
      have Hrow := Lib.hid hrow
      have Hz := Lib.hid hz
      clear hrow er hcell hfr hml ho hz hx0 hx1 hx2 hx3 hx4 hx5 hx6
      rw [← Hz.out]
      go_wp2
      go_roundw
      case rel =>
        refine ⟨k + 1, by omega, by go_num, by rw [show n + (k + 1) * 7 = z + 7 by rw [Hz.out]; omega]; go_num, Hrow.out, (((((((hb.setCell (p := ⟨g, k * 7, none⟩) hgb _).setCell (p := ⟨g, k * 7 + 1, none⟩) hgb _).setCell (p := ⟨g, k * 7 + 2, none⟩) hgb _).setCell (p := ⟨g, k * 7 + 3, none⟩) hgb _).setCell (p := ⟨g, k * 7 + 4, none⟩) hgb _).setCell (p := ⟨g, k * 7 + 5, none⟩) hgb _).setCell (p := ⟨g, k * 7 + 6, none⟩) hgb _), fun b hb' => ?_, ?_⟩
        · rw [← HB.out b hb']
          have hne : b ≠ g := fun e => hb' (by rw [e]; rfl)
          simp only [World.setCell, Array.getElem?_modify, if_neg (fun e : g = b => hne e.symm)]
        · show _ = _
          rw [← HS.out]; simp only [World.setCell, Array.size_modify]
      case measure => simp [intOf]; omega
    · have He := Lib.hid (show k = xs.length by omega)
      go_wp2
      go_ret
      refine ⟨ret_int (by have := He.out; omega), ?_, hb, HB.out, HS.out⟩
      rw [He.out] at ho
      simpa using ho
end Go.Proofs.Ytkgepklapglmdaa

namespace Go.Proofs.Ytkgepklapglmdaa
open Go.RowKit

theorem made_all {z : Array Value} {c : Value} {n : Nat} (h : ∀ j, z[j % z.size]! = c) : (madeCells z n).toList = List.replicate n c := by
  apply List.ext_getElem (by simp [size_madeCells])
  intro j h1 h2
  simp [madeCells, h]
theorem OwnT.made {w : World} {base e k n c : Nat} {A : Option Addr} (h : w.ownsRow base e k (.slice A n c) n (List.replicate (n * k) (.int .i64 0))) : OwnT w base e k (.slice A n c) (List.replicate n (List.replicate k 0)) := by
  refine ⟨?_, fun x hx => ?_⟩
  · have e1 : flatT (List.replicate n (List.replicate k 0)) = List.replicate (n * k) (.int .i64 0) := by
      unfold flatT; rw [List.flatten_replicate_replicate, List.map_replicate]
    rw [List.length_replicate, e1]; exact h
  · rw [(List.mem_replicate.1 hx).2]
    exact ⟨List.length_replicate, fun y hy => by rw [(List.mem_replicate.1 hy).2]; exact ⟨by omega, by omega⟩⟩
theorem wpList_makeT {P : Program} {t e : TypeId} {z : Value} {k bytes : Nat} (S : SlT P t e z k bytes) (hz : ∀ j, z.cells[j % z.cells.size]! = .int .i64 0) (hby : bytes ≤ 100) {ops : Array Oper} {rest : List Oper} {o : Oper} {a : Act} {Q : Exit → Act → World → Prop} (w : World) (hgd : o.guard = none) (l c : Operand)
    (ho : o.op = Op.makeSlice t l c) (base n : Nat) (hl : a.eval l = .int .i64 (n : Int)) (hc : a.eval c = .int .i64 (n : Int)) (hn : n ≤ 1099511627776) (hb : base ≤ w.heap.size)
    (h : ∀ w', OwnT w' base e k (.slice (some ⟨w.heap.size, 0, none⟩) n n) (List.replicate n (List.replicate k 0)) → Below w.heap.size w w' → w.heap.size < w'.heap.size → wpList P ops Q rest (a.put o.dst (.slice (some ⟨w.heap.size, 0, none⟩) n n)) w') :
    wpList P ops Q (o :: rest) a w := by
  obtain ⟨i, hi, hz1, hz2, hz3⟩ := info_parts S.hi
  have hby2 : bytes * n ≤ 100 * 1099511627776 := Nat.mul_le_mul hby hn
  refine wpList_make_full w hgd l c t ho base e i _ k S.ht hi hz1 hz2 .i64 .i64 _ _ n hl hc rfl rfl (by rw [hz3]; omega) (by unfold maxLen; omega) hb fun w' k1 k2 => ?_
  have hlt := (k1.lt _ rfl).2
  rw [made_all hz] at k1
  exact h w' (OwnT.made k1) ((Below.refl _ _).grown k2 (Nat.le_refl _) fun k hk => by cases hk) hlt
theorem OwnT.at' {w : World} {base e k n c g : Nat} {xss : List (List Int)} (h : OwnT w base e k (.slice (some ⟨g, 0, none⟩) n c) xss) {i : Nat} (hi : i < xss.length) (h0 : 0 < k) :
    base ≤ g ∧ g < w.heap.size ∧ (∀ j, j < k → w.cell? ⟨g, i * k + j, none⟩ = some (.int .i64 (gi (gr xss i) j))) ∧ (∀ j, w.frozen? ⟨g, i * k + j, none⟩ = false) := by
  obtain ⟨g', e1, a, b, c1, d, _⟩ := h.at_ hi h0
  injection e1 with e2
  injection e2 with e3
  subst e3
  exact ⟨a, b, c1, d⟩
theorem rep_set {k : Nat} {r : List Int} (xs : List (List Int)) (i : Nat) (hi : i < xs.length) (hr : gr xs i = r) : (xs.take i ++ (List.replicate xs.length (List.replicate k 0)).drop i).set i r = xs.take (i + 1) ++ (List.replicate xs.length (List.replicate k 0)).drop (i + 1) := by
  subst hr
  have hm : i < (List.replicate xs.length (List.replicate k (0 : Int))).length := by rw [List.length_replicate]; exact hi
  rw [take_gr hi, List.set_append_right _ _ (by rw [List.length_take]; omega), List.length_take, Nat.min_eq_left (by omega), Nat.sub_self, drop_gr hm, List.set_cons_zero, List.append_assoc]; rfl

theorem SlPart : SlT Try.prog 54 48 (.agg #[.int .i64 0, .int .i64 0, .int .i64 0, .int .i64 0]) 4 32 := ⟨Try.underlying54, by kernel_rfl, rfl, by omega⟩
theorem SlPart_z : ∀ j, (Value.agg #[.int .i64 0, .int .i64 0, .int .i64 0, .int .i64 0]).cells[j % (Value.agg #[.int .i64 0, .int .i64 0, .int .i64 0, .int .i64 0]).cells.size]! = .int .i64 0 := by
  intro j
  show (#[Value.int .i64 0, Value.int .i64 0, Value.int .i64 0, Value.int .i64 0] : Array Value)[j % 4]! = _
  have h : j % 4 = 0 ∨ j % 4 = 1 ∨ j % 4 = 2 ∨ j % 4 = 3 := by omega
  rcases h with h | h | h | h <;> rw [h] <;> rfl
set_option maxHeartbeats 1000000 in
theorem toPart_any (d0 d1 d2 d3 : Int) (w : World) :
    Calls Try.prog 118 #[.agg #[.int .i64 d0, .int .i64 d1, .int .i64 d2, .int .i64 d3]] w fun e w' => e = .returned (.agg #[.int .i64 d0, .int .i64 d1, .int .i64 d2, .int .i64 d3]) ∧ Below w.heap.size w w' := by
  go_enter Try.func118, Try.ntmps118
  go_wp2
  exact bodyPost_ret (v := .agg #[.int .i64 d0, .int .i64 d1, .int .i64 d2, .int .i64 d3]) (by simp [results, Try.results118, go_sem]) rfl ⟨rfl, (((Below.refl _ _).alloc (Nat.le_refl _) _).alloc (by simp) _).alloc (by simp; omega) _⟩
theorem szPartS_any (A : Option Addr) (n c m : Nat) (w : World) (h : n ≤ m) (hm : m ≤ 1099511627776) :
    Calls Try.prog 87 #[.slice A n c, .int .i64 (m : Int)] w fun e w' => e = .returned (.int .i64 ((m - n : Nat) : Int)) ∧ w = w' := by
  go_enter Try.func87, Try.ntmps87
  go_wp2
  go_ret
  exact ⟨ret_int (by omega), rfl⟩
theorem szPartS_neg (A : Option Addr) (n c m : Nat) (w : World) (h : m < n) (hn : n ≤ 2 ^ 63 - 1) :
    Calls Try.prog 87 #[.slice A n c, .int .i64 (m : Int)] w fun e w' => e = .returned (.int .i64 (-1)) ∧ w = w' := by
  go_enter Try.func87, Try.ntmps87
  go_wp2
  go_ret
  exact ⟨rfl, rfl⟩
set_option maxHeartbeats 1000000 in
theorem toPartS_any (lo hi : Nat) (v : Value) (xs : List (List Int)) (w : World) (h : TS w lo hi 4 v xs) (hhi : hi ≤ w.heap.size) (hl : xs.length ≤ 1048576) :
    Calls Try.prog 94 #[v] w fun e w' => ∃ v', e = .returned v' ∧ OwnT w' w.heap.size 48 4 v' xs ∧ Below w.heap.size w w' := by
  obtain ⟨A, c, rfl, hc, hm⟩ := h.form
  go_enter Try.func94, Try.ntmps94
  go_wp2_with (at_make; refine wpList_makeT SlPart SlPart_z (by omega) _ rfl _ _ rfl w.heap.size xs.length rfl rfl (by omega) (Nat.le_refl _) ?_; intro w1 ho hb1 hs1)
  go_loopw [4] (fun i wr => ∃ k : Nat, k ≤ xs.length ∧ i = .int .i64 k ∧ OwnT wr w.heap.size 48 4 (.slice (some ⟨w.heap.size, 0, none⟩) xs.length xs.length) (xs.take k ++ (List.replicate xs.length (List.replicate 4 0)).drop k) ∧ Below w.heap.size w wr) (fun i _ => xs.length - (intOf i).toNat)
  case atStart => exact ⟨0, by omega, rfl, by simpa using ho, hb1⟩
  case round =>
    obtain ⟨k, hk, rfl, hown, hb⟩ := hrel
    by_cases hlt : k < xs.length
    · obtain ⟨b, o, rfl, hbl, hbh, e0, e1, e2, e3⟩ := (h.below hb hhi).c4 hlt
      have hlen : (xs.take k ++ (List.replicate xs.length (List.replicate 4 (0 : Int))).drop k).length = xs.length := by rw [List.length_append, List.length_take, List.length_drop, List.length_replicate]; omega
      have i0 := h.i64 hlt 0
      have i1 := h.i64 hlt 1
      have i2 := h.i64 hlt 2
      have i3 := h.i64 hlt 3
      have hrow : gr xs k = [gi (gr xs k) 0, gi (gr xs k) 1, gi (gr xs k) 2, gi (gr xs k) 3] := by
        have hq := (h.all _ (gr_mem hlt)).1
        obtain ⟨q, hq2⟩ : ∃ q, q = gr xs k := ⟨_, rfl⟩
        rw [← hq2] at hq ⊢
        match q, hq with
        | [_, _, _, _], _ => rfl
      obtain ⟨d0, hd0⟩ : ∃ d, d = gi (gr xs k) 0 := ⟨_, rfl⟩
      obtain ⟨d1, hd1⟩ : ∃ d, d = gi (gr xs k) 1 := ⟨_, rfl⟩
      obtain ⟨d2, hd2⟩ : ∃ d, d = gi (gr xs k) 2 := ⟨_, rfl⟩
      obtain ⟨d3, hd3⟩ : ∃ d, d = gi (gr xs k) 3 := ⟨_, rfl⟩
      rw [← hd0, ← hd1, ← hd2, ← hd3] at hrow
      rw [← hd0] at e0 i0
      rw [← hd1] at e1 i1
      rw [← hd2] at e2 i2
      rw [← hd3] at e3 i3
      have Hset := Lib.hid (rep_set (k := 4) xs k hlt hrow)
      have Hown := Lib.hid hown
      have Hlen := Lib.hid hlen
      clear hrow hown hlen hd0 hd1 hd2 hd3 ho
      go_wp2_with (go_at_call 118; refine (toPart_any _ _ _ _ _).mono ?_; rintro e w2 ⟨rfl, bx⟩; have ho2 := Hown.out.kept (.of_below bx (Nat.le_refl _)); obtain ⟨_, hsz, hcell, hfr⟩ := ho2.at' (i := k) (by rw [Hlen.out]; exact hlt) (by omega); have q0 := hcell 0 (by omega); have f0 := hfr 0; have q1 := hcell 1 (by omega); have f1 := hfr 1; have q2 := hcell 2 (by omega); have f2 := hfr 2; have q3 := hcell 3 (by omega); have f3 := hfr 3; rw [Nat.add_zero] at q0 f0; have hrow := ho2.row4 (i := k) (by rw [Hlen.out]; exact hlt) d0 d1 d2 d3 ⟨i0, i1, i2, i3⟩; rw [Hset.out] at hrow; have Hrow := Lib.hid hrow; have Hb := Lib.hid (hb.trans (bx.mono hb.size)); clear hrow hcell hfr ho2 hb)
      go_roundw
      case rel => exact ⟨k + 1, by omega, by go_num, Hrow.out, ((((Hb.out.setCell (p := ⟨w.heap.size, k * 4, none⟩) (Nat.le_refl _) _).setCell (p := ⟨w.heap.size, k * 4 + 1, none⟩) (Nat.le_refl _) _).setCell (p := ⟨w.heap.size, k * 4 + 2, none⟩) (Nat.le_refl _) _).setCell (p := ⟨w.heap.size, k * 4 + 3, none⟩) (Nat.le_refl _) _)⟩
      case measure => simp [intOf]; omega
    · have He := Lib.hid (show k = xs.length by omega)
      go_wp2
      go_ret
      exact ⟨_, rfl, by simpa [He.out] using hown, hb⟩
theorem SlDefect : SlT Try.prog 51 83 (.agg #[.int .i64 0, .int .i64 0, .int .i64 0, .int .i64 0, .int .i64 0]) 5 40 := ⟨Try.underlying51, by kernel_rfl, rfl, by omega⟩
theorem SlDefect_z : ∀ j, (Value.agg #[.int .i64 0, .int .i64 0, .int .i64 0, .int .i64 0, .int .i64 0]).cells[j % (Value.agg #[.int .i64 0, .int .i64 0, .int .i64 0, .int .i64 0, .int .i64 0]).cells.size]! = .int .i64 0 := by
  intro j
  show (#[Value.int .i64 0, Value.int .i64 0, Value.int .i64 0, Value.int .i64 0, Value.int .i64 0] : Array Value)[j % 5]! = _
  have h : j % 5 = 0 ∨ j % 5 = 1 ∨ j % 5 = 2 ∨ j % 5 = 3 ∨ j % 5 = 4 := by omega
  rcases h with h | h | h | h | h <;> rw [h] <;> rfl
set_option maxHeartbeats 1000000 in
theorem toDefect_any (d0 d1 d2 d3 d4 : Int) (w : World) :
    Calls Try.prog 131 #[.agg #[.int .i64 d0, .int .i64 d1, .int .i64 d2, .int .i64 d3, .int .i64 d4]] w fun e w' => e = .returned (.agg #[.int .i64 d0, .int .i64 d1, .int .i64 d2, .int .i64 d3, .int .i64 d4]) ∧ Below w.heap.size w w' := by
  go_enter Try.func131, Try.ntmps131
  go_wp2
  exact bodyPost_ret (v := .agg #[.int .i64 d0, .int .i64 d1, .int .i64 d2, .int .i64 d3, .int .i64 d4]) (by simp [results, Try.results131, go_sem]) rfl ⟨rfl, (((Below.refl _ _).alloc (Nat.le_refl _) _).alloc (by simp) _).alloc (by simp; omega) _⟩
theorem szDefectS_any (A : Option Addr) (n c m : Nat) (w : World) (h : n ≤ m) (hm : m ≤ 1099511627776) :
    Calls Try.prog 114 #[.slice A n c, .int .i64 (m : Int)] w fun e w' => e = .returned (.int .i64 ((m - n : Nat) : Int)) ∧ w = w' := by
  go_enter Try.func114, Try.ntmps114
  go_wp2
  go_ret
  exact ⟨ret_int (by omega), rfl⟩
theorem szDefectS_neg (A : Option Addr) (n c m : Nat) (w : World) (h : m < n) (hn : n ≤ 2 ^ 63 - 1) :
    Calls Try.prog 114 #[.slice A n c, .int .i64 (m : Int)] w fun e w' => e = .returned (.int .i64 (-1)) ∧ w = w' := by
  go_enter Try.func114, Try.ntmps114
  go_wp2
  go_ret
  exact ⟨rfl, rfl⟩
set_option maxHeartbeats 1000000 in
theorem toDefectS_any (lo hi : Nat) (v : Value) (xs : List (List Int)) (w : World) (h : TS w lo hi 5 v xs) (hhi : hi ≤ w.heap.size) (hl : xs.length ≤ 1048576) :
    Calls Try.prog 117 #[v] w fun e w' => ∃ v', e = .returned v' ∧ OwnT w' w.heap.size 83 5 v' xs ∧ Below w.heap.size w w' := by
  obtain ⟨A, c, rfl, hc, hm⟩ := h.form
  go_enter Try.func117, Try.ntmps117
  go_wp2_with (at_make; refine wpList_makeT SlDefect SlDefect_z (by omega) _ rfl _ _ rfl w.heap.size xs.length rfl rfl (by omega) (Nat.le_refl _) ?_; intro w1 ho hb1 hs1)
  go_loopw [4] (fun i wr => ∃ k : Nat, k ≤ xs.length ∧ i = .int .i64 k ∧ OwnT wr w.heap.size 83 5 (.slice (some ⟨w.heap.size, 0, none⟩) xs.length xs.length) (xs.take k ++ (List.replicate xs.length (List.replicate 5 0)).drop k) ∧ Below w.heap.size w wr) (fun i _ => xs.length - (intOf i).toNat)
  case atStart => exact ⟨0, by omega, rfl, by simpa using ho, hb1⟩
  case round =>
    obtain ⟨k, hk, rfl, hown, hb⟩ := hrel
    by_cases hlt : k < xs.length
    · obtain ⟨b, o, rfl, hbl, hbh, e0, e1, e2, e3, e4⟩ := (h.below hb hhi).c5 hlt
      have hlen : (xs.take k ++ (List.replicate xs.length (List.replicate 5 (0 : Int))).drop k).length = xs.length := by rw [List.length_append, List.length_take, List.length_drop, List.length_replicate]; omega
      have i0 := h.i64 hlt 0
      have i1 := h.i64 hlt 1
      have i2 := h.i64 hlt 2
      have i3 := h.i64 hlt 3
      have i4 := h.i64 hlt 4
      have hrow : gr xs k = [gi (gr xs k) 0, gi (gr xs k) 1, gi (gr xs k) 2, gi (gr xs k) 3, gi (gr xs k) 4] := by
        have hq := (h.all _ (gr_mem hlt)).1
        obtain ⟨q, hq2⟩ : ∃ q, q = gr xs k := ⟨_, rfl⟩
        rw [← hq2] at hq ⊢
        match q, hq with
        | [_, _, _, _, _], _ => rfl
      obtain ⟨d0, hd0⟩ : ∃ d, d = gi (gr xs k) 0 := ⟨_, rfl⟩
      obtain ⟨d1, hd1⟩ : ∃ d, d = gi (gr xs k) 1 := ⟨_, rfl⟩
      obtain ⟨d2, hd2⟩ : ∃ d, d = gi (gr xs k) 2 := ⟨_, rfl⟩
      obtain ⟨d3, hd3⟩ : ∃ d, d = gi (gr xs k) 3 := ⟨_, rfl⟩
      obtain ⟨d4, hd4⟩ : ∃ d, d = gi (gr xs k) 4 := ⟨_, rfl⟩
      rw [← hd0, ← hd1, ← hd2, ← hd3, ← hd4] at hrow
      rw [← hd0] at e0 i0
      rw [← hd1] at e1 i1
      rw [← hd2] at e2 i2
      rw [← hd3] at e3 i3
      rw [← hd4] at e4 i4
      have Hset := Lib.hid (rep_set (k := 5) xs k hlt hrow)
      have Hown := Lib.hid hown
      have Hlen := Lib.hid hlen
      clear hrow hown hlen hd0 hd1 hd2 hd3 hd4 ho
      go_wp2_with (go_at_call 131; refine (toDefect_any _ _ _ _ _ _).mono ?_; rintro e w2 ⟨rfl, bx⟩; have ho2 := Hown.out.kept (.of_below bx (Nat.le_refl _)); obtain ⟨_, hsz, hcell, hfr⟩ := ho2.at' (i := k) (by rw [Hlen.out]; exact hlt) (by omega); have q0 := hcell 0 (by omega); have f0 := hfr 0; have q1 := hcell 1 (by omega); have f1 := hfr 1; have q2 := hcell 2 (by omega); have f2 := hfr 2; have q3 := hcell 3 (by omega); have f3 := hfr 3; have q4 := hcell 4 (by omega); have f4 := hfr 4; rw [Nat.add_zero] at q0 f0; have hrow := ho2.row5 (i := k) (by rw [Hlen.out]; exact hlt) d0 d1 d2 d3 d4 ⟨i0, i1, i2, i3, i4⟩; rw [Hset.out] at hrow; have Hrow := Lib.hid hrow; have Hb := Lib.hid (hb.trans (bx.mono hb.size)); clear hrow hcell hfr ho2 hb)
      go_roundw
      case rel => exact ⟨k + 1, by omega, by go_num, Hrow.out, (((((Hb.out.setCell (p := ⟨w.heap.size, k * 5, none⟩) (Nat.le_refl _) _).setCell (p := ⟨w.heap.size, k * 5 + 1, none⟩) (Nat.le_refl _) _).setCell (p := ⟨w.heap.size, k * 5 + 2, none⟩) (Nat.le_refl _) _).setCell (p := ⟨w.heap.size, k * 5 + 3, none⟩) (Nat.le_refl _) _).setCell (p := ⟨w.heap.size, k * 5 + 4, none⟩) (Nat.le_refl _) _)⟩
      case measure => simp [intOf]; omega
    · have He := Lib.hid (show k = xs.length by omega)
      go_wp2
      go_ret
      exact ⟨_, rfl, by simpa [He.out] using hown, hb⟩
theorem eqReel_same (W L : Int) (l1 h1 l2 h2 : Nat) (v u : Value) (xs : List (List Int)) (w : World) (h : TS w l1 h1 5 v xs) (hh : h1 ≤ w.heap.size) (hy : TS w l2 h2 5 u xs) (hh2 : h2 ≤ w.heap.size) :
    Calls Try.prog 96 #[.agg #[.int .i64 W, .int .i64 L, v], .agg #[.int .i64 W, .int .i64 L, u]] w fun e w' => e = .returned (.bool true) ∧ Below w.heap.size w w' := by
  obtain ⟨A, c, rfl, hc, hm⟩ := h.form
  obtain ⟨B, d, rfl, hd, hm'⟩ := hy.form
  have g1 : (W != W) = false := bne_f rfl
  have g2 : (L != L) = false := bne_f rfl
  have b0 : Below w.heap.size w ((w.alloc (.cells #[.int .i64 W, .int .i64 L, .slice A xs.length c] 53)).alloc (.cells #[.int .i64 W, .int .i64 L, .slice B xs.length d] 53)) := ((Below.refl _ _).alloc (Nat.le_refl _) _).alloc (by simp) _
  have q1 := h.below b0 hh
  have q2 := hy.below b0 hh2
  have s0 := b0.size
  go_enter Try.func96, Try.ntmps96
  go_wp2_with (go_at_call 119; refine (eqDefectS_same _ _ _ _ _ _ xs _ q1 (by omega) q2 (by omega)).mono ?_; rintro e w1 ⟨rfl, b1⟩)
  go_ret
  exact ⟨rfl, b0.trans (b1.mono s0)⟩
end Go.Proofs.Ytkgepklapglmdaa

namespace Go.Proofs.Ytkgepklapglmdaa
open Go.RowKit
attribute [local go_sem ↓] Go.wp_at_zero Go.wp_at_succ

theorem w64 {n : Int} (h : -9223372036854775808 ≤ n ∧ n ≤ 9223372036854775807) : wrap64 n = n := by unfold wrap64; omega
/-- 'validPart' of the reference, wraps and all -/
def spB (l r f t W L : Int) : Bool := inR 0 (wrap64 (W - 1)) l && inR (wrap64 (l + 1)) W r && inR 0 (wrap64 (L - 1)) f && inR (wrap64 (f + 1)) L t
theorem spB_ins {l r f t W L : Int} (h1 : 1 ≤ W) (h2 : W ≤ 60) (h3 : 1 ≤ L) (h4 : L ≤ 400) : spB l r f t W L = insB l r f t W L := by
  have w1 : wrap64 (W - 1) = W - 1 := w64 (by omega)
  have w2 : wrap64 (L - 1) = L - 1 := w64 (by omega)
  unfold spB
  rw [w1, w2]
  by_cases a : 0 ≤ l ∧ l ≤ W - 1
  · have w3 : wrap64 (l + 1) = l + 1 := w64 (by omega)
    rw [w3]
    by_cases b : 0 ≤ f ∧ f ≤ L - 1
    · have w4 : wrap64 (f + 1) = f + 1 := w64 (by omega)
      rw [w4, Bool.eq_iff_iff, insB_iff]
      unfold inR; simp; omega
    · rw [inR_no b]
      cases e : insB l r f t W L
      · simp
      · have := insB_true e; omega
  · rw [inR_no a]
    cases e : insB l r f t W L
    · simp
    · have := insB_true e; omega
set_option maxHeartbeats 1000000 in
theorem validPart_any (l r f t W L : Int) (A : Option Addr) (n c : Nat) (w : World) :
    Calls Try.prog 115 #[.agg #[.int .i64 W, .int .i64 L, .slice A n c], .agg #[.int .i64 l, .int .i64 r, .int .i64 f, .int .i64 t]] w fun e w' => e = .returned (.bool (spB l r f t W L)) ∧ Below w.heap.size w w' := by
  go_enter Try.func115, Try.ntmps115
  go_wp2_with (go_at_call 57; refine (inRange_any _ _ _ _).mono ?_; rintro e w' ⟨rfl, rfl⟩)
  all_goals go_ret
  all_goals exact ⟨ret_bool (by unfold spB; simp [*]), ((Below.refl _ _).alloc (Nat.le_refl _) _).alloc (by simp) _⟩
set_option maxHeartbeats 800000 in
theorem partsMeet_any (l1 r1 f1 t1 l2 r2 f2 t2 : Int) (w : World) :
    Calls Try.prog 116 #[.agg #[.int .i64 l1, .int .i64 r1, .int .i64 f1, .int .i64 t1], .agg #[.int .i64 l2, .int .i64 r2, .int .i64 f2, .int .i64 t2]] w fun e w' => e = .returned (.bool (meetB l1 r1 f1 t1 l2 r2 f2 t2)) ∧ Below w.heap.size w w' := by
  go_enter Try.func116, Try.ntmps116
  go_wp2
  all_goals go_ret
  all_goals exact ⟨ret_bool (by unfold meetB; simp [*] <;> omega), ((Below.refl _ _).alloc (Nat.le_refl _) _).alloc (by simp) _⟩
set_option maxHeartbeats 1000000 in
theorem validDefect_any (l r f t g W L : Int) (A : Option Addr) (n c : Nat) (w : World) :
    Calls Try.prog 91 #[.agg #[.int .i64 W, .int .i64 L, .slice A n c], .agg #[.int .i64 l, .int .i64 r, .int .i64 f, .int .i64 t, .int .i64 g]] w fun e w' => e = .returned (.bool (spB l r f t W L && inR 1 9 g)) ∧ Below w.heap.size w w' := by
  go_enter Try.func91, Try.ntmps91
  go_wp2_with (go_at_call 57; refine (inRange_any _ _ _ _).mono ?_; rintro e w' ⟨rfl, rfl⟩)
  all_goals go_ret
  all_goals exact ⟨ret_bool (by unfold spB; simp [*]), ((Below.refl _ _).alloc (Nat.le_refl _) _).alloc (by simp) _⟩
end Go.Proofs.Ytkgepklapglmdaa

namespace Go.Proofs.Ytkgepklapglmdaa
open Go.RowKit
attribute [local go_sem ↓] Go.wp_at_zero Go.wp_at_succ
set_option maxRecDepth 100000 in
set_option maxHeartbeats 2000000 in
theorem ValidReel_any (lo hi : Nat) (W L : Int) (v : Value) (ds : List (List Int)) (w : World) (h : TS w lo hi 5 v ds) (hhi : hi ≤ w.heap.size) :
    Calls Try.prog 69 #[.agg #[.int .i64 W, .int .i64 L, v]] w fun e w' => e = .returned (.bool (vReel W L ds)) ∧ Below w.heap.size w w' := by
  obtain ⟨A, c, rfl, hc, hm⟩ := h.form
  have Hs := Lib.hid (show ∃ w1, w1 = (w.alloc (.cells #[.int .i64 W, .int .i64 L, .slice A ds.length c] 53)) ∧ Below w.heap.size w w1 ∧ w1.cell? ⟨w.heap.size, 0, none⟩ = some (.int .i64 W) ∧ w1.cell? ⟨w.heap.size, 1, none⟩ = some (.int .i64 L) ∧ w1.cell? ⟨w.heap.size, 2, none⟩ = some (.slice A ds.length c) ∧ TS w1 lo hi 5 (.slice A ds.length c) ds ∧ w.heap.size < w1.heap.size from by
    have hb : Below w.heap.size w (w.alloc (.cells #[.int .i64 W, .int .i64 L, .slice A ds.length c] 53)) := (Below.refl _ _).alloc (Nat.le_refl _) _
    exact ⟨_, rfl, hb, by go_simp, by go_simp, by go_simp, h.below hb hhi, by simp⟩)
  by_cases hb : 1 ≤ W ∧ W ≤ 60 ∧ 1 ≤ L ∧ L ≤ 400 ∧ ds.length ≤ 16
  · have Hb := Lib.hid hb
    obtain ⟨b1, b2, b3, b4, b5⟩ := hb
    go_enter Try.func69, Try.ntmps69
    go_wp2
    obtain ⟨w1, hw1, hb0, c00, c01, c02, hT0, hz⟩ := Hs.out
    rw [← hw1]
    clear hw1 Hs
    clear h
    go_loopw [30] (fun i wr => ∃ k : Nat, k ≤ ds.length ∧ i = .int .i64 k ∧ Below w1.heap.size w1 wr ∧ Hid (∀ j, j < k → dOk W L (gr ds j) = true)) (fun i _ => ds.length - (intOf i).toNat)
    case atStart => exact ⟨0, by omega, rfl, Below.refl _ _, fun j hj => absurd hj (by omega)⟩
    case round =>
      obtain ⟨k, hk, rfl, bw, HD⟩ := hrel
      have hzr := bw.size
      replace c00 := keepB bw c00; replace c01 := keepB bw c01; replace c02 := keepB bw c02
      by_cases hlt : k < ds.length
      · obtain ⟨b, o, rfl, hb2, hb3, e0, e1, e2, e3, e4⟩ := (hT0.below bw (by omega)).c5 hlt
        have hk0 : (0 : Int) ≤ (k : Int) := by omega
        have hk1 : (k : Int) < (ds.length : Int) := by omega
        have HOk := Lib.hid (show dOk W L (gr ds k) = (insB (gi (gr ds k) 0) (gi (gr ds k) 1) (gi (gr ds k) 2) (gi (gr ds k) 3) W L && (decide (1 ≤ gi (gr ds k) 4) && decide (gi (gr ds k) 4 ≤ 9))) from rfl)
        clear hT0 b1 b2 b3 b4
        go_wp2
        obtain ⟨wd, hw1⟩ : ∃ wd, wd = wr.alloc (.cells #[.int .i64 (gi (gr ds k) 0), .int .i64 (gi (gr ds k) 1), .int .i64 (gi (gr ds k) 2), .int .i64 (gi (gr ds k) 3), .int .i64 (gi (gr ds k) 4)] 83) := ⟨_, rfl⟩
        have d0 : wd.cell? ⟨wr.heap.size, 0, none⟩ = some (.int .i64 (gi (gr ds k) 0)) := by rw [hw1]; go_simp
        have d1 : wd.cell? ⟨wr.heap.size, 1, none⟩ = some (.int .i64 (gi (gr ds k) 1)) := by rw [hw1]; go_simp
        have d2 : wd.cell? ⟨wr.heap.size, 2, none⟩ = some (.int .i64 (gi (gr ds k) 2)) := by rw [hw1]; go_simp
        have d3 : wd.cell? ⟨wr.heap.size, 3, none⟩ = some (.int .i64 (gi (gr ds k) 3)) := by rw [hw1]; go_simp
        have d4 : wd.cell? ⟨wr.heap.size, 4, none⟩ = some (.int .i64 (gi (gr ds k) 4)) := by rw [hw1]; go_simp
        have bd : Below wr.heap.size wr wd := by rw [hw1]; exact (Below.refl _ _).alloc (Nat.le_refl _) _
        have zd : wr.heap.size < wd.heap.size := by rw [hw1]; simp
        rw [← hw1]
        clear hw1
        replace c00 := keepB bd c00; replace c01 := keepB bd c01; replace c02 := keepB bd c02
        have bw2 := bw.trans (bd.mono (by omega))
        have hzd := bw2.size
        clear e0 e1 e2 e3 e4 bw bd
        cases hin : insB (gi (gr ds k) 0) (gi (gr ds k) 1) (gi (gr ds k) 2) (gi (gr ds k) 3) W L
        · have Hno := Lib.hid (vReel_no (W := W) (L := L) hlt (by rw [HOk.out, hin]; rfl))
          have HIN := Lib.hid hin
          clear hin
          go_wp2
          refine wp_region_held_drew (S := fun w' => w'.cell? ⟨w.heap.size, 0, none⟩ = some (.int .i64 W) ∧ w'.cell? ⟨w.heap.size, 1, none⟩ = some (.int .i64 L) ∧ w'.cell? ⟨w.heap.size, 2, none⟩ = some (.slice (some ⟨b, o, none⟩) ds.length c) ∧ w'.cell? ⟨wr.heap.size, 0, none⟩ = some (.int .i64 (gi (gr ds k) 0)) ∧ w'.cell? ⟨wr.heap.size, 1, none⟩ = some (.int .i64 (gi (gr ds k) 1)) ∧ w'.cell? ⟨wr.heap.size, 2, none⟩ = some (.int .i64 (gi (gr ds k) 2)) ∧ w'.cell? ⟨wr.heap.size, 3, none⟩ = some (.int .i64 (gi (gr ds k) 3)) ∧ w'.cell? ⟨wr.heap.size, 4, none⟩ = some (.int .i64 (gi (gr ds k) 4))) (by kernel_rfl) ?_ (fun hHeld => ?_)
          · (first | (try dsimp only); go_keep | (go_split_ands; refine ⟨?_, ?_, ?_, ?_, ?_, ?_, ?_, ?_⟩ <;> first | exact keepB bx2 (by assumption) | exact keepB bx1 (by assumption) | assumption))
          refine wpAnyH_take (i := 0) (oi := ⟨some 34, _, _, _, _, _⟩) (v := _) rfl (by kernel_rfl) (by kernel_rfl) (by kernel_rfl) (fun _ _ _ h => h) (Or.inl ⟨by kernel_rfl, by intro w hSw; (try dsimp only at hSw); go_simp; try with_reducible rfl⟩) (by assumption) ?_
          simp only [Act.put, List.setIfInBounds_toArray, List.set_cons_zero, List.set_cons_succ]
          refine wpAnyH_take (i := 2) (oi := ⟨some 36, _, _, _, _, _⟩) (v := _) rfl (by kernel_rfl) (by kernel_rfl) (by kernel_rfl) (fun _ _ _ h => h) (Or.inl ⟨by kernel_rfl, by intro w hSw; (try dsimp only at hSw); go_simp; try with_reducible rfl⟩) (by assumption) ?_
          simp only [Act.put, List.setIfInBounds_toArray, List.set_cons_zero, List.set_cons_succ]
          refine wpAnyH_take (i := 3) (oi := ⟨some 37, _, _, _, _, _⟩) (v := _) rfl (by kernel_rfl) (by kernel_rfl) (by kernel_rfl) (fun _ _ _ h => h) (Or.inl ⟨by kernel_rfl, by intro w hSw; (try dsimp only at hSw); go_simp; try with_reducible rfl⟩) (by assumption) ?_
          simp only [Act.put, List.setIfInBounds_toArray, List.set_cons_zero, List.set_cons_succ]
          refine wpAnyH_take (i := 4) (oi := ⟨some 38, _, _, _, _, _⟩) (v := _) rfl (by kernel_rfl) (by kernel_rfl) (by kernel_rfl) (fun _ _ _ h => h) (Or.inl ⟨by kernel_rfl, by intro w hSw; (try dsimp only at hSw); go_simp; try with_reducible rfl⟩) (by assumption) ?_
          simp only [Act.put, List.setIfInBounds_toArray, List.set_cons_zero, List.set_cons_succ]
          refine wpAnyH_take (i := 5) (oi := ⟨some 39, _, _, _, _, _⟩) (v := _) rfl (by kernel_rfl) (by kernel_rfl) (by kernel_rfl) (fun _ _ _ h => h) (Or.inl ⟨by kernel_rfl, by intro w hSw; (try dsimp only at hSw); go_simp; try with_reducible rfl⟩) (by assumption) ?_
          simp only [Act.put, List.setIfInBounds_toArray, List.set_cons_zero, List.set_cons_succ]
          refine wpAnyH_ready (rs := [1]) (by kernel_rfl) (by simp) ?_
          refine AllReadyH.cons (o := ⟨some 35, _, _, _, _, _⟩) rfl (fun K hK => ?_) AllReadyH.nil
          go_simp
          go_at_call 95
          refine (partOf_any _ _ _ _ _ _).mono ?_
          rintro e x1 ⟨rfl, bx1⟩
          go_wp2_with fail
          refine hK.out _ _ ?_ (fun hHeld2 => ?_)
          · (first | (try dsimp only); go_keep | (go_split_ands; refine ⟨?_, ?_, ?_, ?_, ?_, ?_, ?_, ?_⟩ <;> first | exact keepB bx2 (by assumption) | exact keepB bx1 (by assumption) | assumption))
          clear hK K hHeld
          have hHeld := hHeld2
          clear hHeld2
          try simp only [Act.put, List.setIfInBounds_toArray, List.set_cons_zero, List.set_cons_succ]
          refine wpAnyH_ready (rs := [6]) (by kernel_rfl) (by simp) ?_
          refine AllReadyH.cons (o := ⟨some 40, _, _, _, _, _⟩) rfl (fun K hK => ?_) AllReadyH.nil
          go_simp
          go_at_call 84
          refine (inside_any _ _ _ _ _ _ _).mono ?_
          rw [HIN.out]
          rintro e x2 ⟨rfl, bx2⟩
          go_wp2_with fail
          refine hK.out _ _ ?_ (fun hHeld2 => ?_)
          · (first | (try dsimp only); go_keep | (go_split_ands; refine ⟨?_, ?_, ?_, ?_, ?_, ?_, ?_, ?_⟩ <;> first | exact keepB bx2 (by assumption) | exact keepB bx1 (by assumption) | assumption))
          clear hK K hHeld
          have hHeld := hHeld2
          clear hHeld2
          try simp only [Act.put, List.setIfInBounds_toArray, List.set_cons_zero, List.set_cons_succ]
          refine wpAnyH_take (i := 7) (oi := ⟨some 41, _, _, _, _, _⟩) (v := _) rfl (by kernel_rfl) (by kernel_rfl) (by kernel_rfl) (fun _ _ _ h => h) (Or.inl ⟨by kernel_rfl, by intro w hSw; (try dsimp only at hSw); go_simp; try with_reducible rfl⟩) (by assumption) ?_
          simp only [Act.put, List.setIfInBounds_toArray, List.set_cons_zero, List.set_cons_succ]
          refine wpAnyH_take (i := 8) (oi := ⟨some 42, _, _, _, _, _⟩) (v := _) rfl (by kernel_rfl) (by kernel_rfl) (by kernel_rfl) (fun _ _ _ h => h) (Or.inl ⟨by kernel_rfl, by intro w hSw; (try dsimp only at hSw); go_simp; try with_reducible rfl⟩) (by assumption) ?_
          simp only [Act.put, List.setIfInBounds_toArray, List.set_cons_zero, List.set_cons_succ]
          refine wpAnyH_take (i := 9) (oi := ⟨some 43, _, _, _, _, _⟩) (v := undef) rfl (by kernel_rfl) (by kernel_rfl) (by kernel_rfl) (fun _ _ _ h => h) (Or.inr ⟨by kernel_rfl, rfl⟩) (by assumption) ?_
          simp only [Act.put, List.setIfInBounds_toArray, List.set_cons_zero, List.set_cons_succ]
          refine wpAnyH_take (i := 10) (oi := ⟨some 44, _, _, _, _, _⟩) (v := undef) rfl (by kernel_rfl) (by kernel_rfl) (by kernel_rfl) (fun _ _ _ h => h) (Or.inr ⟨by kernel_rfl, rfl⟩) (by assumption) ?_
          simp only [Act.put, List.setIfInBounds_toArray, List.set_cons_zero, List.set_cons_succ]
          refine wpAnyH_take (i := 11) (oi := ⟨some 45, _, _, _, _, _⟩) (v := undef) rfl (by kernel_rfl) (by kernel_rfl) (by kernel_rfl) (fun _ _ _ h => h) (Or.inr ⟨by kernel_rfl, rfl⟩) (by assumption) ?_
          simp only [Act.put, List.setIfInBounds_toArray, List.set_cons_zero, List.set_cons_succ]
          refine wpAnyH_take (i := 12) (oi := ⟨some 46, _, _, _, _, _⟩) (v := _) rfl (by kernel_rfl) (by kernel_rfl) (by kernel_rfl) (fun _ _ _ h => h) (Or.inl ⟨by kernel_rfl, by intro w hSw; (try dsimp only at hSw); go_simp; try with_reducible rfl⟩) (by assumption) ?_
          simp only [Act.put, List.setIfInBounds_toArray, List.set_cons_zero, List.set_cons_succ]
          refine wpAnyH_take (i := 13) (oi := ⟨some 47, _, _, _, _, _⟩) (v := _) rfl (by kernel_rfl) (by kernel_rfl) (by kernel_rfl) (fun _ _ _ h => h) (Or.inl ⟨by kernel_rfl, by intro w hSw; (try dsimp only at hSw); go_simp; try with_reducible rfl⟩) (by assumption) ?_
          simp only [Act.put, List.setIfInBounds_toArray, List.set_cons_zero, List.set_cons_succ]
          refine wpAnyH_take (i := 14) (oi := ⟨some 48, _, _, _, _, _⟩) (v := undef) rfl (by kernel_rfl) (by kernel_rfl) (by kernel_rfl) (fun _ _ _ h => h) (Or.inr ⟨by kernel_rfl, rfl⟩) (by assumption) ?_
          simp only [Act.put, List.setIfInBounds_toArray, List.set_cons_zero, List.set_cons_succ]
          refine wpAnyH_take (i := 15) (oi := ⟨some 49, _, _, _, _, _⟩) (v := undef) rfl (by kernel_rfl) (by kernel_rfl) (by kernel_rfl) (fun _ _ _ h => h) (Or.inr ⟨by kernel_rfl, rfl⟩) (by assumption) ?_
          simp only [Act.put, List.setIfInBounds_toArray, List.set_cons_zero, List.set_cons_succ]
          refine wpAnyH_take (i := 16) (oi := ⟨some 50, _, _, _, _, _⟩) (v := undef) rfl (by kernel_rfl) (by kernel_rfl) (by kernel_rfl) (fun _ _ _ h => h) (Or.inr ⟨by kernel_rfl, rfl⟩) (by assumption) ?_
          simp only [Act.put, List.setIfInBounds_toArray, List.set_cons_zero, List.set_cons_succ]
          refine wpAnyH_take (i := 17) (oi := ⟨some 51, _, _, _, _, _⟩) (v := _) rfl (by kernel_rfl) (by kernel_rfl) (by kernel_rfl) (fun _ _ _ h => h) (Or.inl ⟨by kernel_rfl, by intro w hSw; (try dsimp only at hSw); go_simp; try with_reducible rfl⟩) (by assumption) ?_
          simp only [Act.put, List.setIfInBounds_toArray, List.set_cons_zero, List.set_cons_succ]
          refine wpAnyH_done (by kernel_rfl) ?_ _
          go_wp2
          go_ret
          exact ⟨ret_bool (by rw [Hno.out]), hb0.trans ((bw2.trans (((of_drew bx1).trans (bx2.mono (of_drew bx1).size)).mono hzd)).mono (by omega))⟩
        · have HIN := Lib.hid hin
          have HOk2 := Lib.hid (show dOk W L (gr ds k) = (decide (1 ≤ gi (gr ds k) 4) && decide (gi (gr ds k) 4 ≤ 9)) by rw [HOk.out, hin, Bool.true_and])
          clear hin
          obtain ⟨g, hg⟩ : ∃ g, g = gi (gr ds k) 4 := ⟨_, rfl⟩
          rw [← hg] at d4 HOk2
          clear hg
          by_cases h1 : g < 1
          · have Hno := Lib.hid (vReel_no (W := W) (L := L) hlt (by rw [HOk2.out, decide_eq_false (show ¬ 1 ≤ g by omega)]; rfl))
            have hd1 : decide (g < 1) = true := decide_eq_true h1
            go_wp2
            refine wp_region_held_drew (S := fun w' => w'.cell? ⟨w.heap.size, 0, none⟩ = some (.int .i64 W) ∧ w'.cell? ⟨w.heap.size, 1, none⟩ = some (.int .i64 L) ∧ w'.cell? ⟨w.heap.size, 2, none⟩ = some (.slice (some ⟨b, o, none⟩) ds.length c) ∧ w'.cell? ⟨wr.heap.size, 0, none⟩ = some (.int .i64 (gi (gr ds k) 0)) ∧ w'.cell? ⟨wr.heap.size, 1, none⟩ = some (.int .i64 (gi (gr ds k) 1)) ∧ w'.cell? ⟨wr.heap.size, 2, none⟩ = some (.int .i64 (gi (gr ds k) 2)) ∧ w'.cell? ⟨wr.heap.size, 3, none⟩ = some (.int .i64 (gi (gr ds k) 3)) ∧ w'.cell? ⟨wr.heap.size, 4, none⟩ = some (.int .i64 g)) (by kernel_rfl) ?_ (fun hHeld => ?_)
            · (first | (try dsimp only); go_keep | (go_split_ands; refine ⟨?_, ?_, ?_, ?_, ?_, ?_, ?_, ?_⟩ <;> first | exact keepB bx2 (by assumption) | exact keepB bx1 (by assumption) | assumption))
            refine wpAnyH_take (i := 0) (oi := ⟨some 34, _, _, _, _, _⟩) (v := _) rfl (by kernel_rfl) (by kernel_rfl) (by kernel_rfl) (fun _ _ _ h => h) (Or.inl ⟨by kernel_rfl, by intro w hSw; (try dsimp only at hSw); go_simp; try with_reducible rfl⟩) (by assumption) ?_
            simp only [Act.put, List.setIfInBounds_toArray, List.set_cons_zero, List.set_cons_succ]
            refine wpAnyH_take (i := 2) (oi := ⟨some 36, _, _, _, _, _⟩) (v := _) rfl (by kernel_rfl) (by kernel_rfl) (by kernel_rfl) (fun _ _ _ h => h) (Or.inl ⟨by kernel_rfl, by intro w hSw; (try dsimp only at hSw); go_simp; try with_reducible rfl⟩) (by assumption) ?_
            simp only [Act.put, List.setIfInBounds_toArray, List.set_cons_zero, List.set_cons_succ]
            refine wpAnyH_take (i := 3) (oi := ⟨some 37, _, _, _, _, _⟩) (v := _) rfl (by kernel_rfl) (by kernel_rfl) (by kernel_rfl) (fun _ _ _ h => h) (Or.inl ⟨by kernel_rfl, by intro w hSw; (try dsimp only at hSw); go_simp; try with_reducible rfl⟩) (by assumption) ?_
            simp only [Act.put, List.setIfInBounds_toArray, List.set_cons_zero, List.set_cons_succ]
            refine wpAnyH_take (i := 4) (oi := ⟨some 38, _, _, _, _, _⟩) (v := _) rfl (by kernel_rfl) (by kernel_rfl) (by kernel_rfl) (fun _ _ _ h => h) (Or.inl ⟨by kernel_rfl, by intro w hSw; (try dsimp only at hSw); go_simp; try with_reducible rfl⟩) (by assumption) ?_
            simp only [Act.put, List.setIfInBounds_toArray, List.set_cons_zero, List.set_cons_succ]
            refine wpAnyH_take (i := 5) (oi := ⟨some 39, _, _, _, _, _⟩) (v := _) rfl (by kernel_rfl) (by kernel_rfl) (by kernel_rfl) (fun _ _ _ h => h) (Or.inl ⟨by kernel_rfl, by intro w hSw; (try dsimp only at hSw); go_simp; try with_reducible rfl⟩) (by assumption) ?_
            simp only [Act.put, List.setIfInBounds_toArray, List.set_cons_zero, List.set_cons_succ]
            refine wpAnyH_ready (rs := [1]) (by kernel_rfl) (by simp) ?_
            refine AllReadyH.cons (o := ⟨some 35, _, _, _, _, _⟩) rfl (fun K hK => ?_) AllReadyH.nil
            go_simp
            go_at_call 95
            refine (partOf_any _ _ _ _ _ _).mono ?_
            rintro e x1 ⟨rfl, bx1⟩
            go_wp2_with fail
            refine hK.out _ _ ?_ (fun hHeld2 => ?_)
            · (first | (try dsimp only); go_keep | (go_split_ands; refine ⟨?_, ?_, ?_, ?_, ?_, ?_, ?_, ?_⟩ <;> first | exact keepB bx2 (by assumption) | exact keepB bx1 (by assumption) | assumption))
            clear hK K hHeld
            have hHeld := hHeld2
            clear hHeld2
            try simp only [Act.put, List.setIfInBounds_toArray, List.set_cons_zero, List.set_cons_succ]
            refine wpAnyH_ready (rs := [6]) (by kernel_rfl) (by simp) ?_
            refine AllReadyH.cons (o := ⟨some 40, _, _, _, _, _⟩) rfl (fun K hK => ?_) AllReadyH.nil
            go_simp
            go_at_call 84
            refine (inside_any _ _ _ _ _ _ _).mono ?_
            rw [HIN.out]
            rintro e x2 ⟨rfl, bx2⟩
            go_wp2_with fail
            refine hK.out _ _ ?_ (fun hHeld2 => ?_)
            · (first | (try dsimp only); go_keep | (go_split_ands; refine ⟨?_, ?_, ?_, ?_, ?_, ?_, ?_, ?_⟩ <;> first | exact keepB bx2 (by assumption) | exact keepB bx1 (by assumption) | assumption))
            clear hK K hHeld
            have hHeld := hHeld2
            clear hHeld2
            try simp only [Act.put, List.setIfInBounds_toArray, List.set_cons_zero, List.set_cons_succ]
            refine wpAnyH_take (i := 7) (oi := ⟨some 41, _, _, _, _, _⟩) (v := _) rfl (by kernel_rfl) (by kernel_rfl) (by kernel_rfl) (fun _ _ _ h => h) (Or.inl ⟨by kernel_rfl, by intro w hSw; (try dsimp only at hSw); go_simp; try with_reducible rfl⟩) (by assumption) ?_
            simp only [Act.put, List.setIfInBounds_toArray, List.set_cons_zero, List.set_cons_succ]
            refine wpAnyH_take (i := 8) (oi := ⟨some 42, _, _, _, _, _⟩) (v := _) rfl (by kernel_rfl) (by kernel_rfl) (by kernel_rfl) (fun _ _ _ h => h) (Or.inl ⟨by kernel_rfl, by intro w hSw; (try dsimp only at hSw); go_simp; try with_reducible rfl⟩) (by assumption) ?_
            simp only [Act.put, List.setIfInBounds_toArray, List.set_cons_zero, List.set_cons_succ]
            refine wpAnyH_take (i := 9) (oi := ⟨some 43, _, _, _, _, _⟩) (v := _) rfl (by kernel_rfl) (by kernel_rfl) (by kernel_rfl) (fun _ _ _ h => h) (Or.inl ⟨by kernel_rfl, by intro w hSw; (try dsimp only at hSw); go_simp; try with_reducible rfl⟩) (by assumption) ?_
            simp only [Act.put, List.setIfInBounds_toArray, List.set_cons_zero, List.set_cons_succ]
            refine wpAnyH_take (i := 10) (oi := ⟨some 44, _, _, _, _, _⟩) (v := _) rfl (by kernel_rfl) (by kernel_rfl) (by kernel_rfl) (fun _ _ _ h => h) (Or.inl ⟨by kernel_rfl, by intro w hSw; (try dsimp only at hSw); go_simp; try with_reducible rfl⟩) (by assumption) ?_
            simp only [Act.put, List.setIfInBounds_toArray, List.set_cons_zero, List.set_cons_succ]
            refine wpAnyH_take (i := 11) (oi := ⟨some 45, _, _, _, _, _⟩) (v := _) rfl (by kernel_rfl) (by kernel_rfl) (by kernel_rfl) (fun _ _ _ h => h) (Or.inl ⟨by kernel_rfl, by intro w hSw; (try dsimp only at hSw); go_simp; try with_reducible rfl⟩) (by assumption) ?_
            simp only [Act.put, List.setIfInBounds_toArray, List.set_cons_zero, List.set_cons_succ]
            refine wpAnyH_take (i := 12) (oi := ⟨some 46, _, _, _, _, _⟩) (v := _) rfl (by kernel_rfl) (by kernel_rfl) (by kernel_rfl) (fun _ _ _ h => h) (Or.inl ⟨by kernel_rfl, by intro w hSw; (try dsimp only at hSw); go_simp; try with_reducible rfl⟩) (by assumption) ?_
            simp only [Act.put, List.setIfInBounds_toArray, List.set_cons_zero, List.set_cons_succ]
            refine wpAnyH_take (i := 13) (oi := ⟨some 47, _, _, _, _, _⟩) (v := _) rfl (by kernel_rfl) (by kernel_rfl) (by kernel_rfl) (fun _ _ _ h => h) (Or.inl ⟨by kernel_rfl, by intro w hSw; (try dsimp only at hSw); go_simp; try with_reducible rfl⟩) (by assumption) ?_
            simp only [Act.put, List.setIfInBounds_toArray, List.set_cons_zero, List.set_cons_succ]
            refine wpAnyH_take (i := 14) (oi := ⟨some 48, _, _, _, _, _⟩) (v := undef) rfl (by kernel_rfl) (by kernel_rfl) (by kernel_rfl) (fun _ _ _ h => h) (Or.inr ⟨by kernel_rfl, rfl⟩) (by assumption) ?_
            simp only [Act.put, List.setIfInBounds_toArray, List.set_cons_zero, List.set_cons_succ]
            refine wpAnyH_take (i := 15) (oi := ⟨some 49, _, _, _, _, _⟩) (v := undef) rfl (by kernel_rfl) (by kernel_rfl) (by kernel_rfl) (fun _ _ _ h => h) (Or.inr ⟨by kernel_rfl, rfl⟩) (by assumption) ?_
            simp only [Act.put, List.setIfInBounds_toArray, List.set_cons_zero, List.set_cons_succ]
            refine wpAnyH_take (i := 16) (oi := ⟨some 50, _, _, _, _, _⟩) (v := undef) rfl (by kernel_rfl) (by kernel_rfl) (by kernel_rfl) (fun _ _ _ h => h) (Or.inr ⟨by kernel_rfl, rfl⟩) (by assumption) ?_
            simp only [Act.put, List.setIfInBounds_toArray, List.set_cons_zero, List.set_cons_succ]
            refine wpAnyH_take (i := 17) (oi := ⟨some 51, _, _, _, _, _⟩) (v := _) rfl (by kernel_rfl) (by kernel_rfl) (by kernel_rfl) (fun _ _ _ h => h) (Or.inl ⟨by kernel_rfl, by intro w hSw; (try dsimp only at hSw); go_simp; try with_reducible rfl⟩) (by assumption) ?_
            simp only [Act.put, List.setIfInBounds_toArray, List.set_cons_zero, List.set_cons_succ]
            refine wpAnyH_done (by kernel_rfl) ?_ _
            go_wp2
            go_ret
            exact ⟨ret_bool (by rw [Hno.out]), hb0.trans ((bw2.trans (((of_drew bx1).trans (bx2.mono (of_drew bx1).size)).mono hzd)).mono (by omega))⟩
          · have hd1 : decide (g < 1) = false := decide_eq_false h1
            by_cases h2 : 9 < g
            · have Hno := Lib.hid (vReel_no (W := W) (L := L) hlt (by rw [HOk2.out, decide_eq_false (show ¬ g ≤ 9 by omega), Bool.and_false]))
              have hd2 : decide (9 < g) = true := decide_eq_true h2
              go_wp2
              refine wp_region_held_drew (S := fun w' => w'.cell? ⟨w.heap.size, 0, none⟩ = some (.int .i64 W) ∧ w'.cell? ⟨w.heap.size, 1, none⟩ = some (.int .i64 L) ∧ w'.cell? ⟨w.heap.size, 2, none⟩ = some (.slice (some ⟨b, o, none⟩) ds.length c) ∧ w'.cell? ⟨wr.heap.size, 0, none⟩ = some (.int .i64 (gi (gr ds k) 0)) ∧ w'.cell? ⟨wr.heap.size, 1, none⟩ = some (.int .i64 (gi (gr ds k) 1)) ∧ w'.cell? ⟨wr.heap.size, 2, none⟩ = some (.int .i64 (gi (gr ds k) 2)) ∧ w'.cell? ⟨wr.heap.size, 3, none⟩ = some (.int .i64 (gi (gr ds k) 3)) ∧ w'.cell? ⟨wr.heap.size, 4, none⟩ = some (.int .i64 g)) (by kernel_rfl) ?_ (fun hHeld => ?_)
              · (first | (try dsimp only); go_keep | (go_split_ands; refine ⟨?_, ?_, ?_, ?_, ?_, ?_, ?_, ?_⟩ <;> first | exact keepB bx2 (by assumption) | exact keepB bx1 (by assumption) | assumption))
              refine wpAnyH_take (i := 0) (oi := ⟨some 34, _, _, _, _, _⟩) (v := _) rfl (by kernel_rfl) (by kernel_rfl) (by kernel_rfl) (fun _ _ _ h => h) (Or.inl ⟨by kernel_rfl, by intro w hSw; (try dsimp only at hSw); go_simp; try with_reducible rfl⟩) (by assumption) ?_
              simp only [Act.put, List.setIfInBounds_toArray, List.set_cons_zero, List.set_cons_succ]
              refine wpAnyH_take (i := 2) (oi := ⟨some 36, _, _, _, _, _⟩) (v := _) rfl (by kernel_rfl) (by kernel_rfl) (by kernel_rfl) (fun _ _ _ h => h) (Or.inl ⟨by kernel_rfl, by intro w hSw; (try dsimp only at hSw); go_simp; try with_reducible rfl⟩) (by assumption) ?_
              simp only [Act.put, List.setIfInBounds_toArray, List.set_cons_zero, List.set_cons_succ]
              refine wpAnyH_take (i := 3) (oi := ⟨some 37, _, _, _, _, _⟩) (v := _) rfl (by kernel_rfl) (by kernel_rfl) (by kernel_rfl) (fun _ _ _ h => h) (Or.inl ⟨by kernel_rfl, by intro w hSw; (try dsimp only at hSw); go_simp; try with_reducible rfl⟩) (by assumption) ?_
              simp only [Act.put, List.setIfInBounds_toArray, List.set_cons_zero, List.set_cons_succ]
              refine wpAnyH_take (i := 4) (oi := ⟨some 38, _, _, _, _, _⟩) (v := _) rfl (by kernel_rfl) (by kernel_rfl) (by kernel_rfl) (fun _ _ _ h => h) (Or.inl ⟨by kernel_rfl, by intro w hSw; (try dsimp only at hSw); go_simp; try with_reducible rfl⟩) (by assumption) ?_
              simp only [Act.put, List.setIfInBounds_toArray, List.set_cons_zero, List.set_cons_succ]
              refine wpAnyH_take (i := 5) (oi := ⟨some 39, _, _, _, _, _⟩) (v := _) rfl (by kernel_rfl) (by kernel_rfl) (by kernel_rfl) (fun _ _ _ h => h) (Or.inl ⟨by kernel_rfl, by intro w hSw; (try dsimp only at hSw); go_simp; try with_reducible rfl⟩) (by assumption) ?_
              simp only [Act.put, List.setIfInBounds_toArray, List.set_cons_zero, List.set_cons_succ]
              refine wpAnyH_ready (rs := [1]) (by kernel_rfl) (by simp) ?_
              refine AllReadyH.cons (o := ⟨some 35, _, _, _, _, _⟩) rfl (fun K hK => ?_) AllReadyH.nil
              go_simp
              go_at_call 95
              refine (partOf_any _ _ _ _ _ _).mono ?_
              rintro e x1 ⟨rfl, bx1⟩
              go_wp2_with fail
              refine hK.out _ _ ?_ (fun hHeld2 => ?_)
              · (first | (try dsimp only); go_keep | (go_split_ands; refine ⟨?_, ?_, ?_, ?_, ?_, ?_, ?_, ?_⟩ <;> first | exact keepB bx2 (by assumption) | exact keepB bx1 (by assumption) | assumption))
              clear hK K hHeld
              have hHeld := hHeld2
              clear hHeld2
              try simp only [Act.put, List.setIfInBounds_toArray, List.set_cons_zero, List.set_cons_succ]
              refine wpAnyH_ready (rs := [6]) (by kernel_rfl) (by simp) ?_
              refine AllReadyH.cons (o := ⟨some 40, _, _, _, _, _⟩) rfl (fun K hK => ?_) AllReadyH.nil
              go_simp
              go_at_call 84
              refine (inside_any _ _ _ _ _ _ _).mono ?_
              rw [HIN.out]
              rintro e x2 ⟨rfl, bx2⟩
              go_wp2_with fail
              refine hK.out _ _ ?_ (fun hHeld2 => ?_)
              · (first | (try dsimp only); go_keep | (go_split_ands; refine ⟨?_, ?_, ?_, ?_, ?_, ?_, ?_, ?_⟩ <;> first | exact keepB bx2 (by assumption) | exact keepB bx1 (by assumption) | assumption))
              clear hK K hHeld
              have hHeld := hHeld2
              clear hHeld2
              try simp only [Act.put, List.setIfInBounds_toArray, List.set_cons_zero, List.set_cons_succ]
              refine wpAnyH_take (i := 7) (oi := ⟨some 41, _, _, _, _, _⟩) (v := _) rfl (by kernel_rfl) (by kernel_rfl) (by kernel_rfl) (fun _ _ _ h => h) (Or.inl ⟨by kernel_rfl, by intro w hSw; (try dsimp only at hSw); go_simp; try with_reducible rfl⟩) (by assumption) ?_
              simp only [Act.put, List.setIfInBounds_toArray, List.set_cons_zero, List.set_cons_succ]
              refine wpAnyH_take (i := 8) (oi := ⟨some 42, _, _, _, _, _⟩) (v := _) rfl (by kernel_rfl) (by kernel_rfl) (by kernel_rfl) (fun _ _ _ h => h) (Or.inl ⟨by kernel_rfl, by intro w hSw; (try dsimp only at hSw); go_simp; try with_reducible rfl⟩) (by assumption) ?_
              simp only [Act.put, List.setIfInBounds_toArray, List.set_cons_zero, List.set_cons_succ]
              refine wpAnyH_take (i := 9) (oi := ⟨some 43, _, _, _, _, _⟩) (v := _) rfl (by kernel_rfl) (by kernel_rfl) (by kernel_rfl) (fun _ _ _ h => h) (Or.inl ⟨by kernel_rfl, by intro w hSw; (try dsimp only at hSw); go_simp; try with_reducible rfl⟩) (by assumption) ?_
              simp only [Act.put, List.setIfInBounds_toArray, List.set_cons_zero, List.set_cons_succ]
              refine wpAnyH_take (i := 10) (oi := ⟨some 44, _, _, _, _, _⟩) (v := _) rfl (by kernel_rfl) (by kernel_rfl) (by kernel_rfl) (fun _ _ _ h => h) (Or.inl ⟨by kernel_rfl, by intro w hSw; (try dsimp only at hSw); go_simp; try with_reducible rfl⟩) (by assumption) ?_
              simp only [Act.put, List.setIfInBounds_toArray, List.set_cons_zero, List.set_cons_succ]
              refine wpAnyH_take (i := 11) (oi := ⟨some 45, _, _, _, _, _⟩) (v := _) rfl (by kernel_rfl) (by kernel_rfl) (by kernel_rfl) (fun _ _ _ h => h) (Or.inl ⟨by kernel_rfl, by intro w hSw; (try dsimp only at hSw); go_simp; try with_reducible rfl⟩) (by assumption) ?_
              simp only [Act.put, List.setIfInBounds_toArray, List.set_cons_zero, List.set_cons_succ]
              refine wpAnyH_take (i := 12) (oi := ⟨some 46, _, _, _, _, _⟩) (v := _) rfl (by kernel_rfl) (by kernel_rfl) (by kernel_rfl) (fun _ _ _ h => h) (Or.inl ⟨by kernel_rfl, by intro w hSw; (try dsimp only at hSw); go_simp; try with_reducible rfl⟩) (by assumption) ?_
              simp only [Act.put, List.setIfInBounds_toArray, List.set_cons_zero, List.set_cons_succ]
              refine wpAnyH_take (i := 13) (oi := ⟨some 47, _, _, _, _, _⟩) (v := _) rfl (by kernel_rfl) (by kernel_rfl) (by kernel_rfl) (fun _ _ _ h => h) (Or.inl ⟨by kernel_rfl, by intro w hSw; (try dsimp only at hSw); go_simp; try with_reducible rfl⟩) (by assumption) ?_
              simp only [Act.put, List.setIfInBounds_toArray, List.set_cons_zero, List.set_cons_succ]
              refine wpAnyH_take (i := 14) (oi := ⟨some 48, _, _, _, _, _⟩) (v := _) rfl (by kernel_rfl) (by kernel_rfl) (by kernel_rfl) (fun _ _ _ h => h) (Or.inl ⟨by kernel_rfl, by intro w hSw; (try dsimp only at hSw); go_simp; try with_reducible rfl⟩) (by assumption) ?_
              simp only [Act.put, List.setIfInBounds_toArray, List.set_cons_zero, List.set_cons_succ]
              refine wpAnyH_take (i := 15) (oi := ⟨some 49, _, _, _, _, _⟩) (v := _) rfl (by kernel_rfl) (by kernel_rfl) (by kernel_rfl) (fun _ _ _ h => h) (Or.inl ⟨by kernel_rfl, by intro w hSw; (try dsimp only at hSw); go_simp; try with_reducible rfl⟩) (by assumption) ?_
              simp only [Act.put, List.setIfInBounds_toArray, List.set_cons_zero, List.set_cons_succ]
              refine wpAnyH_take (i := 16) (oi := ⟨some 50, _, _, _, _, _⟩) (v := _) rfl (by kernel_rfl) (by kernel_rfl) (by kernel_rfl) (fun _ _ _ h => h) (Or.inl ⟨by kernel_rfl, by intro w hSw; (try dsimp only at hSw); go_simp; try with_reducible rfl⟩) (by assumption) ?_
              simp only [Act.put, List.setIfInBounds_toArray, List.set_cons_zero, List.set_cons_succ]
              refine wpAnyH_take (i := 17) (oi := ⟨some 51, _, _, _, _, _⟩) (v := _) rfl (by kernel_rfl) (by kernel_rfl) (by kernel_rfl) (fun _ _ _ h => h) (Or.inl ⟨by kernel_rfl, by intro w hSw; (try dsimp only at hSw); go_simp; try with_reducible rfl⟩) (by assumption) ?_
              simp only [Act.put, List.setIfInBounds_toArray, List.set_cons_zero, List.set_cons_succ]
              refine wpAnyH_done (by kernel_rfl) ?_ _
              go_wp2
              go_ret
              exact ⟨ret_bool (by rw [Hno.out]), hb0.trans ((bw2.trans (((of_drew bx1).trans (bx2.mono (of_drew bx1).size)).mono hzd)).mono (by omega))⟩
            · have hd2 : decide (9 < g) = false := decide_eq_false h2
              have HD2 : Hid (∀ j, j < k + 1 → dOk W L (gr ds j) = true) := fun j hj => by
                by_cases hjk : j = k
                · subst hjk; rw [HOk2.out, decide_eq_true (show 1 ≤ g by omega), decide_eq_true (show g ≤ 9 by omega)]; rfl
                · exact HD.out j (by omega)
              go_wp2
              refine wp_region_held_drew (S := fun w' => w'.cell? ⟨w.heap.size, 0, none⟩ = some (.int .i64 W) ∧ w'.cell? ⟨w.heap.size, 1, none⟩ = some (.int .i64 L) ∧ w'.cell? ⟨w.heap.size, 2, none⟩ = some (.slice (some ⟨b, o, none⟩) ds.length c) ∧ w'.cell? ⟨wr.heap.size, 0, none⟩ = some (.int .i64 (gi (gr ds k) 0)) ∧ w'.cell? ⟨wr.heap.size, 1, none⟩ = some (.int .i64 (gi (gr ds k) 1)) ∧ w'.cell? ⟨wr.heap.size, 2, none⟩ = some (.int .i64 (gi (gr ds k) 2)) ∧ w'.cell? ⟨wr.heap.size, 3, none⟩ = some (.int .i64 (gi (gr ds k) 3)) ∧ w'.cell? ⟨wr.heap.size, 4, none⟩ = some (.int .i64 g)) (by kernel_rfl) ?_ (fun hHeld => ?_)
              · (first | (try dsimp only); go_keep | (go_split_ands; refine ⟨?_, ?_, ?_, ?_, ?_, ?_, ?_, ?_⟩ <;> first | exact keepB bx2 (by assumption) | exact keepB bx1 (by assumption) | assumption))
              refine wpAnyH_take (i := 0) (oi := ⟨some 34, _, _, _, _, _⟩) (v := _) rfl (by kernel_rfl) (by kernel_rfl) (by kernel_rfl) (fun _ _ _ h => h) (Or.inl ⟨by kernel_rfl, by intro w hSw; (try dsimp only at hSw); go_simp; try with_reducible rfl⟩) (by assumption) ?_
              simp only [Act.put, List.setIfInBounds_toArray, List.set_cons_zero, List.set_cons_succ]
              refine wpAnyH_take (i := 2) (oi := ⟨some 36, _, _, _, _, _⟩) (v := _) rfl (by kernel_rfl) (by kernel_rfl) (by kernel_rfl) (fun _ _ _ h => h) (Or.inl ⟨by kernel_rfl, by intro w hSw; (try dsimp only at hSw); go_simp; try with_reducible rfl⟩) (by assumption) ?_
              simp only [Act.put, List.setIfInBounds_toArray, List.set_cons_zero, List.set_cons_succ]
              refine wpAnyH_take (i := 3) (oi := ⟨some 37, _, _, _, _, _⟩) (v := _) rfl (by kernel_rfl) (by kernel_rfl) (by kernel_rfl) (fun _ _ _ h => h) (Or.inl ⟨by kernel_rfl, by intro w hSw; (try dsimp only at hSw); go_simp; try with_reducible rfl⟩) (by assumption) ?_
              simp only [Act.put, List.setIfInBounds_toArray, List.set_cons_zero, List.set_cons_succ]
              refine wpAnyH_take (i := 4) (oi := ⟨some 38, _, _, _, _, _⟩) (v := _) rfl (by kernel_rfl) (by kernel_rfl) (by kernel_rfl) (fun _ _ _ h => h) (Or.inl ⟨by kernel_rfl, by intro w hSw; (try dsimp only at hSw); go_simp; try with_reducible rfl⟩) (by assumption) ?_
              simp only [Act.put, List.setIfInBounds_toArray, List.set_cons_zero, List.set_cons_succ]
              refine wpAnyH_take (i := 5) (oi := ⟨some 39, _, _, _, _, _⟩) (v := _) rfl (by kernel_rfl) (by kernel_rfl) (by kernel_rfl) (fun _ _ _ h => h) (Or.inl ⟨by kernel_rfl, by intro w hSw; (try dsimp only at hSw); go_simp; try with_reducible rfl⟩) (by assumption) ?_
              simp only [Act.put, List.setIfInBounds_toArray, List.set_cons_zero, List.set_cons_succ]
              refine wpAnyH_ready (rs := [1]) (by kernel_rfl) (by simp) ?_
              refine AllReadyH.cons (o := ⟨some 35, _, _, _, _, _⟩) rfl (fun K hK => ?_) AllReadyH.nil
              go_simp
              go_at_call 95
              refine (partOf_any _ _ _ _ _ _).mono ?_
              rintro e x1 ⟨rfl, bx1⟩
              go_wp2_with fail
              refine hK.out _ _ ?_ (fun hHeld2 => ?_)
              · (first | (try dsimp only); go_keep | (go_split_ands; refine ⟨?_, ?_, ?_, ?_, ?_, ?_, ?_, ?_⟩ <;> first | exact keepB bx2 (by assumption) | exact keepB bx1 (by assumption) | assumption))
              clear hK K hHeld
              have hHeld := hHeld2
              clear hHeld2
              try simp only [Act.put, List.setIfInBounds_toArray, List.set_cons_zero, List.set_cons_succ]
              refine wpAnyH_ready (rs := [6]) (by kernel_rfl) (by simp) ?_
              refine AllReadyH.cons (o := ⟨some 40, _, _, _, _, _⟩) rfl (fun K hK => ?_) AllReadyH.nil
              go_simp
              go_at_call 84
              refine (inside_any _ _ _ _ _ _ _).mono ?_
              rw [HIN.out]
              rintro e x2 ⟨rfl, bx2⟩
              go_wp2_with fail
              refine hK.out _ _ ?_ (fun hHeld2 => ?_)
              · (first | (try dsimp only); go_keep | (go_split_ands; refine ⟨?_, ?_, ?_, ?_, ?_, ?_, ?_, ?_⟩ <;> first | exact keepB bx2 (by assumption) | exact keepB bx1 (by assumption) | assumption))
              clear hK K hHeld
              have hHeld := hHeld2
              clear hHeld2
              try simp only [Act.put, List.setIfInBounds_toArray, List.set_cons_zero, List.set_cons_succ]
              refine wpAnyH_take (i := 7) (oi := ⟨some 41, _, _, _, _, _⟩) (v := _) rfl (by kernel_rfl) (by kernel_rfl) (by kernel_rfl) (fun _ _ _ h => h) (Or.inl ⟨by kernel_rfl, by intro w hSw; (try dsimp only at hSw); go_simp; try with_reducible rfl⟩) (by assumption) ?_
              simp only [Act.put, List.setIfInBounds_toArray, List.set_cons_zero, List.set_cons_succ]
              refine wpAnyH_take (i := 8) (oi := ⟨some 42, _, _, _, _, _⟩) (v := _) rfl (by kernel_rfl) (by kernel_rfl) (by kernel_rfl) (fun _ _ _ h => h) (Or.inl ⟨by kernel_rfl, by intro w hSw; (try dsimp only at hSw); go_simp; try with_reducible rfl⟩) (by assumption) ?_
              simp only [Act.put, List.setIfInBounds_toArray, List.set_cons_zero, List.set_cons_succ]
              refine wpAnyH_take (i := 9) (oi := ⟨some 43, _, _, _, _, _⟩) (v := _) rfl (by kernel_rfl) (by kernel_rfl) (by kernel_rfl) (fun _ _ _ h => h) (Or.inl ⟨by kernel_rfl, by intro w hSw; (try dsimp only at hSw); go_simp; try with_reducible rfl⟩) (by assumption) ?_
              simp only [Act.put, List.setIfInBounds_toArray, List.set_cons_zero, List.set_cons_succ]
              refine wpAnyH_take (i := 10) (oi := ⟨some 44, _, _, _, _, _⟩) (v := _) rfl (by kernel_rfl) (by kernel_rfl) (by kernel_rfl) (fun _ _ _ h => h) (Or.inl ⟨by kernel_rfl, by intro w hSw; (try dsimp only at hSw); go_simp; try with_reducible rfl⟩) (by assumption) ?_
              simp only [Act.put, List.setIfInBounds_toArray, List.set_cons_zero, List.set_cons_succ]
              refine wpAnyH_take (i := 11) (oi := ⟨some 45, _, _, _, _, _⟩) (v := _) rfl (by kernel_rfl) (by kernel_rfl) (by kernel_rfl) (fun _ _ _ h => h) (Or.inl ⟨by kernel_rfl, by intro w hSw; (try dsimp only at hSw); go_simp; try with_reducible rfl⟩) (by assumption) ?_
              simp only [Act.put, List.setIfInBounds_toArray, List.set_cons_zero, List.set_cons_succ]
              refine wpAnyH_take (i := 12) (oi := ⟨some 46, _, _, _, _, _⟩) (v := _) rfl (by kernel_rfl) (by kernel_rfl) (by kernel_rfl) (fun _ _ _ h => h) (Or.inl ⟨by kernel_rfl, by intro w hSw; (try dsimp only at hSw); go_simp; try with_reducible rfl⟩) (by assumption) ?_
              simp only [Act.put, List.setIfInBounds_toArray, List.set_cons_zero, List.set_cons_succ]
              refine wpAnyH_take (i := 13) (oi := ⟨some 47, _, _, _, _, _⟩) (v := _) rfl (by kernel_rfl) (by kernel_rfl) (by kernel_rfl) (fun _ _ _ h => h) (Or.inl ⟨by kernel_rfl, by intro w hSw; (try dsimp only at hSw); go_simp; try with_reducible rfl⟩) (by assumption) ?_
              simp only [Act.put, List.setIfInBounds_toArray, List.set_cons_zero, List.set_cons_succ]
              refine wpAnyH_take (i := 14) (oi := ⟨some 48, _, _, _, _, _⟩) (v := _) rfl (by kernel_rfl) (by kernel_rfl) (by kernel_rfl) (fun _ _ _ h => h) (Or.inl ⟨by kernel_rfl, by intro w hSw; (try dsimp only at hSw); go_simp; try with_reducible rfl⟩) (by assumption) ?_
              simp only [Act.put, List.setIfInBounds_toArray, List.set_cons_zero, List.set_cons_succ]
              refine wpAnyH_take (i := 15) (oi := ⟨some 49, _, _, _, _, _⟩) (v := _) rfl (by kernel_rfl) (by kernel_rfl) (by kernel_rfl) (fun _ _ _ h => h) (Or.inl ⟨by kernel_rfl, by intro w hSw; (try dsimp only at hSw); go_simp; try with_reducible rfl⟩) (by assumption) ?_
              simp only [Act.put, List.setIfInBounds_toArray, List.set_cons_zero, List.set_cons_succ]
              refine wpAnyH_take (i := 16) (oi := ⟨some 50, _, _, _, _, _⟩) (v := _) rfl (by kernel_rfl) (by kernel_rfl) (by kernel_rfl) (fun _ _ _ h => h) (Or.inl ⟨by kernel_rfl, by intro w hSw; (try dsimp only at hSw); go_simp; try with_reducible rfl⟩) (by assumption) ?_
              simp only [Act.put, List.setIfInBounds_toArray, List.set_cons_zero, List.set_cons_succ]
              refine wpAnyH_take (i := 17) (oi := ⟨some 51, _, _, _, _, _⟩) (v := _) rfl (by kernel_rfl) (by kernel_rfl) (by kernel_rfl) (fun _ _ _ h => h) (Or.inl ⟨by kernel_rfl, by intro w hSw; (try dsimp only at hSw); go_simp; try with_reducible rfl⟩) (by assumption) ?_
              simp only [Act.put, List.setIfInBounds_toArray, List.set_cons_zero, List.set_cons_succ]
              refine wpAnyH_done (by kernel_rfl) ?_ _
              have bd9 := (of_drew bx1).trans (bx2.mono (of_drew bx1).size)
              go_wp2
              go_roundw
              case rel => exact ⟨k + 1, by omega, by go_num, bw2.trans (bd9.mono hzd), HD2⟩
              case measure => simp [intOf]; omega
      · have HR := Lib.hid (show vReel W L ds = true from vReel_iff.2 ⟨Hb.out.1, Hb.out.2.1, Hb.out.2.2.1, Hb.out.2.2.2.1, Hb.out.2.2.2.2, fun d hd => by
          obtain ⟨j, hj, rfl⟩ := List.mem_iff_getElem.1 hd
          have := HD.out j (by omega)
          rwa [gr_eq hj] at this⟩)
        go_wp2
        go_ret
        exact ⟨ret_bool (by rw [HR.out]), hb0.trans (bw.mono (by omega))⟩
  · have Hb := Lib.hid (vReel_false hb)
    go_enter Try.func69, Try.ntmps69
    go_wp2
    all_goals first | (exfalso; omega) | skip
    all_goals go_ret
    all_goals exact ⟨ret_bool Hb.out.symm, (Below.refl _ _).alloc (Nat.le_refl _) _⟩
end Go.Proofs.Ytkgepklapglmdaa

namespace Go.Proofs.Ytkgepklapglmdaa
open Go.RowKit
attribute [local go_sem ↓] Go.wp_at_zero Go.wp_at_succ

def mT (d p : List Int) : Bool := meetB (gi d 0) (gi d 1) (gi d 2) (gi d 3) (gi p 0) (gi p 1) (gi p 2) (gi p 3)
end Go.Proofs.Ytkgepklapglmdaa

namespace Go.Proofs.Ytkgepklapglmdaa
open Go.RowKit
attribute [local go_sem ↓] Go.wp_at_zero Go.wp_at_succ

def pv (p : List Int) (W L : Int) : Bool := insB (gi p 0) (gi p 1) (gi p 2) (gi p 3) W L
end Go.Proofs.Ytkgepklapglmdaa

namespace Go.Proofs.Ytkgepklapglmdaa
open Go.RowKit
attribute [local go_sem ↓] Go.wp_at_zero Go.wp_at_succ

def noMeet (ps : List (List Int)) (p : List Int) (m : Nat) : Bool := (ps.take m).all fun q => !mT p q
def cutOk (W L : Int) (ps : List (List Int)) (j : Nat) : Bool := pv (gr ps j) W L && noMeet ps (gr ps j) j
def vCuts (W L : Int) (ds ps : List (List Int)) : Bool := vReel W L ds && decide (ps.length ≤ 60) && (List.range ps.length).all (cutOk W L ps)
theorem vCuts_iff {W L : Int} {ds ps : List (List Int)} : vCuts W L ds ps = true ↔ vReel W L ds = true ∧ ps.length ≤ 60 ∧ ∀ j, j < ps.length → cutOk W L ps j = true := by
  unfold vCuts
  simp only [Bool.and_eq_true, decide_eq_true_eq, List.all_eq_true, List.mem_range, and_assoc]
theorem noMeet_iff {ps : List (List Int)} {p : List Int} {m : Nat} (hm : m ≤ ps.length) : noMeet ps p m = true ↔ ∀ i, i < m → mT p (gr ps i) = false := by
  unfold noMeet
  rw [List.all_eq_true]
  constructor
  · intro h i hi
    have := h (gr ps i) (by rw [gr_eq (by omega), List.mem_take_iff_getElem]; exact ⟨i, by omega, rfl⟩)
    simpa using this
  · intro h q hq
    obtain ⟨i, hi, rfl⟩ := List.mem_take_iff_getElem.1 hq
    have := h i (by omega)
    rw [gr_eq (by omega)] at this
    simp [this]
theorem vCuts_no {W L : Int} {ds ps : List (List Int)} {j : Nat} (hj : j < ps.length) (h : vReel W L ds = true → cutOk W L ps j = false) : vCuts W L ds ps = false := by
  cases hv : vCuts W L ds ps
  · rfl
  · obtain ⟨a, _, c⟩ := vCuts_iff.1 hv
    have := c j hj; rw [h a] at this; cases this
theorem cut_meet {W L : Int} {ps : List (List Int)} {j i : Nat} (hj : j < ps.length) (hi : i < j) (h : mT (gr ps j) (gr ps i) = true) : cutOk W L ps j = false := by
  cases hv : cutOk W L ps j
  · rfl
  · unfold cutOk at hv
    rw [Bool.and_eq_true] at hv
    have := (noMeet_iff (by omega)).1 hv.2 i hi
    rw [h] at this; cases this
theorem cut_part {W L : Int} {ps : List (List Int)} {j : Nat} (h : pv (gr ps j) W L = false) : cutOk W L ps j = false := by unfold cutOk; rw [h]; rfl
theorem vReel_rng {W L : Int} {ds : List (List Int)} (h : vReel W L ds = true) : 1 ≤ W ∧ W ≤ 60 ∧ 1 ≤ L ∧ L ≤ 400 := by have := vReel_iff.1 h; omega

set_option maxRecDepth 100000 in
set_option maxHeartbeats 1000000 in
theorem validReel_any (lo hi : Nat) (W L : Int) (v : Value) (ds : List (List Int)) (w : World) (h : TS w lo hi 5 v ds) (hhi : hi ≤ w.heap.size) :
    Calls Try.prog 61 #[.agg #[.int .i64 W, .int .i64 L, v]] w fun e w' => e = .returned (.bool (vReel W L ds)) ∧ Below w.heap.size w w' := by
  obtain ⟨A, c, rfl, hc, hm⟩ := h.form
  have Hs := Lib.hid (show ∃ w1, w1 = (w.alloc (.cells #[.int .i64 W, .int .i64 L, .slice A ds.length c] 53)) ∧ Below w.heap.size w w1 ∧ w1.cell? ⟨w.heap.size, 0, none⟩ = some (.int .i64 W) ∧ w1.cell? ⟨w.heap.size, 1, none⟩ = some (.int .i64 L) ∧ w1.cell? ⟨w.heap.size, 2, none⟩ = some (.slice A ds.length c) ∧ TS w1 lo hi 5 (.slice A ds.length c) ds ∧ w.heap.size < w1.heap.size from by
    have hb : Below w.heap.size w (w.alloc (.cells #[.int .i64 W, .int .i64 L, .slice A ds.length c] 53)) := (Below.refl _ _).alloc (Nat.le_refl _) _
    exact ⟨_, rfl, hb, by go_simp, by go_simp, by go_simp, h.below hb hhi, by simp⟩)
  have hds : (0 : Int) ≤ ds.length := by omega
  by_cases hb : 1 ≤ W ∧ W ≤ 60 ∧ 1 ≤ L ∧ L ≤ 400 ∧ ds.length ≤ 16
  · have Hb := Lib.hid hb
    obtain ⟨b1, b2, b3, b4, b5⟩ := hb
    have r1 : inR 1 60 W = true := inR_mk ⟨b1, b2⟩
    have r2 : inR 1 400 L = true := inR_mk ⟨b3, b4⟩
    go_enter Try.func61, Try.ntmps61
    go_wp2_with (go_at_call 57; refine (inRange_any _ _ _ _).mono ?_; rintro e w' ⟨rfl, rfl⟩)
    obtain ⟨w1, hw1, hb0, c00, c01, c02, hT0, hz⟩ := Hs.out
    rw [← hw1]
    clear hw1 Hs
    go_loopw [3] (fun i wr => ∃ k : Nat, k ≤ ds.length ∧ i = .int .i64 k ∧ Below w1.heap.size w1 wr ∧ Hid (∀ j, j < k → dOk W L (gr ds j) = true)) (fun i _ => ds.length - (intOf i).toNat)
    case atStart => exact ⟨0, by omega, rfl, Below.refl _ _, fun j hj => absurd hj (by omega)⟩
    case round =>
      obtain ⟨k, hk, rfl, bw, HD⟩ := hrel
      have hzr := bw.size
      replace c00 := keepB bw c00; replace c01 := keepB bw c01; replace c02 := keepB bw c02
      by_cases hlt : k < ds.length
      · obtain ⟨b, o, rfl, hb2, hb3, e0, e1, e2, e3, e4⟩ := (hT0.below bw (by omega)).c5 hlt
        have hk0 : (0 : Int) ≤ (k : Int) := by omega
        have hk1 : (k : Int) < (ds.length : Int) := by omega
        have HO : Hid ((spB (gi (gr ds k) 0) (gi (gr ds k) 1) (gi (gr ds k) 2) (gi (gr ds k) 3) W L && inR 1 9 (gi (gr ds k) 4)) = dOk W L (gr ds k)) := by
          rw [spB_ins b1 b2 b3 b4]; rfl
        clear r1 r2 hT0 h
        go_wp2
        go_region_held3 (fun w' => w'.cell? ⟨w.heap.size, 0, none⟩ = some (.int .i64 W) ∧ w'.cell? ⟨w.heap.size, 1, none⟩ = some (.int .i64 L) ∧ w'.cell? ⟨w.heap.size, 2, none⟩ = some (.slice (some ⟨b, o, none⟩) ds.length c) ∧ w'.cell? ⟨b, o + k * 5, none⟩ = some (.int .i64 (gi (gr ds k) 0)) ∧ w'.cell? ⟨b, o + k * 5 + 1, none⟩ = some (.int .i64 (gi (gr ds k) 1)) ∧ w'.cell? ⟨b, o + k * 5 + 2, none⟩ = some (.int .i64 (gi (gr ds k) 2)) ∧ w'.cell? ⟨b, o + k * 5 + 3, none⟩ = some (.int .i64 (gi (gr ds k) 3)) ∧ w'.cell? ⟨b, o + k * 5 + 4, none⟩ = some (.int .i64 (gi (gr ds k) 4))) (first | go_keep | (go_split_ands; refine ⟨?_, ?_, ?_, ?_, ?_, ?_, ?_, ?_⟩ <;> first | exact keepB bx2 (by assumption) | exact keepB bx1 (by assumption))) (first | (go_at_call 91; refine (validDefect_any _ _ _ _ _ _ _ _ _ _ _).mono ?_; rw [HO.out]; rintro e x1 ⟨rfl, bx1⟩))
        have hbw := bw.trans ((of_drew bx1).mono hzr)
        have bx2 := of_drew bx1
        replace c00 := keepB bx2 c00; replace c01 := keepB bx2 c01; replace c02 := keepB bx2 c02
        cases hd : dOk W L (gr ds k)
        · have Hno := Lib.hid (vReel_no (W := W) (L := L) hlt hd)
          clear e0 e1 e2 e3 e4 HO
          go_wp2
          go_ret
          exact ⟨ret_bool Hno.out.symm, hb0.trans (hbw.mono (by omega))⟩
        · have Hd := Lib.hid hd
          clear e0 e1 e2 e3 e4 HO
          go_wp2
          go_roundw
          case rel =>
            refine ⟨k + 1, by omega, by go_num, hbw, fun j hj => ?_⟩
            rcases Nat.lt_or_ge j k with h' | h'
            · exact HD.out j h'
            · obtain rfl : j = k := by omega
              exact Hd.out
          case measure => simp [intOf]; omega
      · have Hv := Lib.hid (show vReel W L ds = true from vReel_iff.2 ⟨b1, b2, b3, b4, b5, fun d hd => by
          obtain ⟨j, hj, e⟩ := List.getElem_of_mem hd
          rw [← e, ← gr_eq hj]; exact HD.out j (by omega)⟩)
        go_wp2
        go_ret
        exact ⟨ret_bool Hv.out.symm, hb0.trans (bw.mono (by omega))⟩
  · have Hv := Lib.hid (vReel_false hb)
    have HB := Lib.hid hb
    clear hb
    by_cases b1 : inR 1 60 W = true
    · by_cases b2 : inR 1 400 L = true
      · have b5 : (16 : Int) < (ds.length : Int) := by have := HB.out; have := inR_true b1; have := inR_true b2; omega
        go_enter Try.func61, Try.ntmps61
        go_wp2_with (go_at_call 57; refine (inRange_any _ _ _ _).mono ?_; rintro e w' ⟨rfl, rfl⟩)
        go_ret
        exact ⟨ret_bool Hv.out.symm, ((Below.refl _ _).alloc (Nat.le_refl _) _)⟩
      · rw [Bool.not_eq_true] at b2
        go_enter Try.func61, Try.ntmps61
        go_wp2_with (go_at_call 57; refine (inRange_any _ _ _ _).mono ?_; rintro e w' ⟨rfl, rfl⟩)
        go_ret
        exact ⟨ret_bool Hv.out.symm, ((Below.refl _ _).alloc (Nat.le_refl _) _)⟩
    · rw [Bool.not_eq_true] at b1
      go_enter Try.func61, Try.ntmps61
      go_wp2_with (go_at_call 57; refine (inRange_any _ _ _ _).mono ?_; rintro e w' ⟨rfl, rfl⟩)
      go_ret
      exact ⟨ret_bool Hv.out.symm, ((Below.refl _ _).alloc (Nat.le_refl _) _)⟩
end Go.Proofs.Ytkgepklapglmdaa

namespace Go.Proofs.Ytkgepklapglmdaa
open Go.RowKit
attribute [local go_sem ↓] Go.wp_at_zero Go.wp_at_succ

theorem spB_pv {W L : Int} {ds ps : List (List Int)} {k : Nat} (h : vReel W L ds = true) : spB (gi (gr ps k) 0) (gi (gr ps k) 1) (gi (gr ps k) 2) (gi (gr ps k) 3) W L = pv (gr ps k) W L := by
  obtain ⟨a, b, c, d⟩ := vReel_rng h
  rw [spB_ins a b c d]; rfl
set_option maxRecDepth 100000 in
set_option maxHeartbeats 1600000 in
theorem validCuts_any (lo hi l2 h2 : Nat) (W L : Int) (v u : Value) (ds ps : List (List Int)) (w : World) (h : TS w lo hi 5 v ds) (hhi : hi ≤ w.heap.size) (hp : TS w l2 h2 4 u ps) (hh2 : h2 ≤ w.heap.size) :
    Calls Try.prog 88 #[.agg #[.int .i64 W, .int .i64 L, v], u] w fun e w' => e = .returned (.bool (vCuts W L ds ps)) ∧ Below w.heap.size w w' := by
  obtain ⟨A, c, rfl, hc, hm⟩ := h.form
  obtain ⟨B, c2, rfl, hc2, hm2⟩ := hp.form
  have Hs := Lib.hid (show ∃ w1, w1 = (w.alloc (.cells #[.int .i64 W, .int .i64 L, .slice A ds.length c] 53)) ∧ Below w.heap.size w w1 ∧ w1.cell? ⟨w.heap.size, 0, none⟩ = some (.int .i64 W) ∧ w1.cell? ⟨w.heap.size, 1, none⟩ = some (.int .i64 L) ∧ w1.cell? ⟨w.heap.size, 2, none⟩ = some (.slice A ds.length c) ∧ TS w1 lo hi 5 (.slice A ds.length c) ds ∧ TS w1 l2 h2 4 (.slice B ps.length c2) ps ∧ w.heap.size < w1.heap.size from by
    have hb : Below w.heap.size w (w.alloc (.cells #[.int .i64 W, .int .i64 L, .slice A ds.length c] 53)) := (Below.refl _ _).alloc (Nat.le_refl _) _
    exact ⟨_, rfl, hb, by go_simp, by go_simp, by go_simp, h.below hb hhi, hp.below hb hh2, by simp⟩)
  go_enter Try.func88, Try.ntmps88
  go_wp2_with (fail)
  obtain ⟨w1, hw1, hb0, c00, c01, c02, hT0, hT1, hz⟩ := Hs.out
  rw [← hw1]
  clear hw1 Hs
  go_loopw [5] (fun i wr => ∃ k : Nat, k ≤ ps.length ∧ i = .int .i64 k ∧ Below w1.heap.size w1 wr ∧ Hid (vReel W L ds = true → ∀ j, j < k → cutOk W L ps j = true)) (fun i _ => ps.length - (intOf i).toNat)
  case atStart => exact ⟨0, by omega, rfl, Below.refl _ _, fun _ j hj => absurd hj (by omega)⟩
  case round =>
    obtain ⟨k, hk, rfl, bw, HD⟩ := hrel
    have hzr := bw.size
    replace c00 := keepB bw c00; replace c01 := keepB bw c01; replace c02 := keepB bw c02
    by_cases hlt : k < ps.length
    · have hPr := hT1.below bw (by omega)
      obtain ⟨b, o, rfl, hb2, hb3, e0, e1, e2, e3⟩ := hPr.c4 hlt
      have hk0 : (0 : Int) ≤ (k : Int) := by omega
      have hk1 : (k : Int) < (ps.length : Int) := by omega
      have HP := Lib.hid hPr
      clear hT0 h hp hT1 hPr
      go_wp2
      go_region_held3 (fun w' => w'.cell? ⟨w.heap.size, 0, none⟩ = some (.int .i64 W) ∧ w'.cell? ⟨w.heap.size, 1, none⟩ = some (.int .i64 L) ∧ w'.cell? ⟨w.heap.size, 2, none⟩ = some (.slice A ds.length c) ∧ w'.cell? ⟨b, o + k * 4, none⟩ = some (.int .i64 (gi (gr ps k) 0)) ∧ w'.cell? ⟨b, o + k * 4 + 1, none⟩ = some (.int .i64 (gi (gr ps k) 1)) ∧ w'.cell? ⟨b, o + k * 4 + 2, none⟩ = some (.int .i64 (gi (gr ps k) 2)) ∧ w'.cell? ⟨b, o + k * 4 + 3, none⟩ = some (.int .i64 (gi (gr ps k) 3))) (first | go_keep | (go_split_ands; refine ⟨?_, ?_, ?_, ?_, ?_, ?_, ?_⟩ <;> first | exact keepB bx3 (by assumption) | exact keepB bx2 (by assumption) | exact keepB bx1 (by assumption))) (first | (go_at_call 115; refine (validPart_any _ _ _ _ _ _ _ _ _ _).mono ?_; rintro e x1 ⟨rfl, bx1⟩))
      have bx2 := of_drew bx1
      have hbw := bw.trans (bx2.mono hzr)
      have HP1 := Lib.hid (HP.out.below bx2 (by omega))
      replace c00 := keepB bx2 c00; replace c01 := keepB bx2 c01; replace c02 := keepB bx2 c02
      have hz1 := bx2.size
      cases hd : spB (gi (gr ps k) 0) (gi (gr ps k) 1) (gi (gr ps k) 2) (gi (gr ps k) 3) W L
      · have Hno := Lib.hid (vCuts_no (W := W) (L := L) (ds := ds) hlt fun hr => cut_part (by rw [← spB_pv hr]; exact hd))
        clear e0 e1 e2 e3 HP HP1 bx1
        go_wp2
        go_ret
        exact ⟨ret_bool Hno.out.symm, hb0.trans (hbw.mono (by omega))⟩
      · have Hd := Lib.hid (show vReel W L ds = true → pv (gr ps k) W L = true from fun hr => by rw [← spB_pv hr]; exact hd)
        clear e0 e1 e2 e3 HP bx1 hd
        simp only [Bool.not_true]
        go_wp2
        go_loopw [6] (fun i wx => ∃ m : Nat, m ≤ k ∧ i = .int .i64 m ∧ Below x1.heap.size x1 wx ∧ Hid (∀ i, i < m → mT (gr ps k) (gr ps i) = false)) (fun i _ => k - (intOf i).toNat)
        case atStart => exact ⟨0, by omega, rfl, Below.refl _ _, fun j hj => absurd hj (by omega)⟩
        case round =>
          obtain ⟨m, hmk, rfl, bx, HM⟩ := hrel
          have hzx := bx.size
          replace c00 := keepB bx c00; replace c01 := keepB bx c01; replace c02 := keepB bx c02
          by_cases hlt2 : m < k
          · have hPx := HP1.out.below bx (by omega)
            obtain ⟨f0, f1, f2, f3⟩ := hPx.c4' hlt
            obtain ⟨g0, g1, g2, g3⟩ := hPx.c4' (i := m) (by omega)
            have hm0 : (0 : Int) ≤ (m : Int) := by omega
            have hm1 : (m : Int) < (ps.length : Int) := by omega
            clear hPx
            go_wp2
            go_region_held3 (fun w' => w'.cell? ⟨b, o + k * 4, none⟩ = some (.int .i64 (gi (gr ps k) 0)) ∧ w'.cell? ⟨b, o + k * 4 + 1, none⟩ = some (.int .i64 (gi (gr ps k) 1)) ∧ w'.cell? ⟨b, o + k * 4 + 2, none⟩ = some (.int .i64 (gi (gr ps k) 2)) ∧ w'.cell? ⟨b, o + k * 4 + 3, none⟩ = some (.int .i64 (gi (gr ps k) 3)) ∧ w'.cell? ⟨b, o + m * 4, none⟩ = some (.int .i64 (gi (gr ps m) 0)) ∧ w'.cell? ⟨b, o + m * 4 + 1, none⟩ = some (.int .i64 (gi (gr ps m) 1)) ∧ w'.cell? ⟨b, o + m * 4 + 2, none⟩ = some (.int .i64 (gi (gr ps m) 2)) ∧ w'.cell? ⟨b, o + m * 4 + 3, none⟩ = some (.int .i64 (gi (gr ps m) 3))) (first | go_keep | (go_split_ands; refine ⟨?_, ?_, ?_, ?_, ?_, ?_, ?_, ?_⟩ <;> first | exact keepB bx3 (by assumption) | exact keepB bx2 (by assumption) | exact keepB bx1 (by assumption))) (first | (go_at_call 116; refine (partsMeet_any _ _ _ _ _ _ _ _ _).mono ?_; rintro e x2 ⟨rfl, bx1⟩))
            have bx3 := of_drew bx1
            have hby := bx.trans (bx3.mono hzx)
            replace c00 := keepB bx3 c00; replace c01 := keepB bx3 c01; replace c02 := keepB bx3 c02
            cases hd : meetB (gi (gr ps k) 0) (gi (gr ps k) 1) (gi (gr ps k) 2) (gi (gr ps k) 3) (gi (gr ps m) 0) (gi (gr ps m) 1) (gi (gr ps m) 2) (gi (gr ps m) 3)
            · have HM2 := Lib.hid (show mT (gr ps k) (gr ps m) = false from hd)
              clear f0 f1 f2 f3 g0 g1 g2 g3
              go_wp2
              go_roundw
              case rel =>
                refine ⟨m + 1, by omega, by go_num, hby, fun j hj => ?_⟩
                rcases Nat.lt_or_ge j m with h' | h'
                · exact HM.out j h'
                · obtain rfl : j = m := by omega
                  exact HM2.out
              case measure => simp [intOf]; omega
            · have Hno := Lib.hid (vCuts_no (W := W) (L := L) (ds := ds) hlt fun _ => cut_meet hlt hlt2 hd)
              clear f0 f1 f2 f3 g0 g1 g2 g3
              go_wp2
              go_ret
              exact ⟨ret_bool Hno.out.symm, hb0.trans ((hbw.trans (hby.mono (by omega))).mono (by omega))⟩
          · have He := Lib.hid (show m = k by omega)
            go_wp2
            go_roundw
            case rel =>
              refine ⟨k + 1, by omega, by go_num, hbw.trans (bx.mono (by omega)), fun hr j hj => ?_⟩
              rcases Nat.lt_or_ge j k with h' | h'
              · exact HD.out hr j h'
              · obtain rfl : j = k := by omega
                unfold cutOk
                rw [Hd.out hr, (noMeet_iff (Nat.le_of_lt hlt)).2 fun i hi => HM.out i (by rw [He.out]; exact hi)]; rfl
            case measure => simp [intOf]; omega
    · have hTr := hT0.below bw (by omega)
      have HR : Hid (vCuts W L ds ps = (vReel W L ds && decide (ps.length ≤ 60))) := by
        rw [Bool.eq_iff_iff, vCuts_iff, Bool.and_eq_true, decide_eq_true_eq]
        exact ⟨fun ⟨a, b, _⟩ => ⟨a, b⟩, fun ⟨a, b⟩ => ⟨a, b, fun j hj => HD.out a j (by omega)⟩⟩
      go_wp2_with (go_at_call 61; refine (validReel_any lo hi W L _ ds _ hTr (by omega)).mono ?_; rintro e x1 ⟨rfl, bx1⟩)
      all_goals go_ret
      all_goals exact ⟨ret_bool (by rw [HR.out]; simp [*] <;> omega), hb0.trans ((bw.trans (bx1.mono (by omega))).mono (by omega))⟩
end Go.Proofs.Ytkgepklapglmdaa

namespace Go.Proofs.Ytkgepklapglmdaa
open Go.RowKit
attribute [local go_sem ↓] Go.wp_at_zero Go.wp_at_succ

set_option maxRecDepth 100000 in
set_option maxHeartbeats 1600000 in
theorem ValidCuts_any (lo hi l2 h2 : Nat) (W L : Int) (v u : Value) (ds ps : List (List Int)) (w : World) (h : TS w lo hi 5 v ds) (hhi : hi ≤ w.heap.size) (hp : TS w l2 h2 4 u ps) (hh2 : h2 ≤ w.heap.size) :
    Calls Try.prog 52 #[.agg #[.int .i64 W, .int .i64 L, v], u] w fun e w' => e = .returned (.bool (vCuts W L ds ps)) ∧ Below w.heap.size w w' := by
  obtain ⟨A, c, rfl, hc, hm⟩ := h.form
  obtain ⟨B, c2, rfl, hc2, hm2⟩ := hp.form
  have Hs := Lib.hid (show ∃ w1, w1 = (w.alloc (.cells #[.int .i64 W, .int .i64 L, .slice A ds.length c] 53)) ∧ Below w.heap.size w w1 ∧ w1.cell? ⟨w.heap.size, 0, none⟩ = some (.int .i64 W) ∧ w1.cell? ⟨w.heap.size, 1, none⟩ = some (.int .i64 L) ∧ w1.cell? ⟨w.heap.size, 2, none⟩ = some (.slice A ds.length c) ∧ TS w1 lo hi 5 (.slice A ds.length c) ds ∧ TS w1 l2 h2 4 (.slice B ps.length c2) ps ∧ w.heap.size < w1.heap.size from by
    have hb : Below w.heap.size w (w.alloc (.cells #[.int .i64 W, .int .i64 L, .slice A ds.length c] 53)) := (Below.refl _ _).alloc (Nat.le_refl _) _
    exact ⟨_, rfl, hb, by go_simp, by go_simp, by go_simp, h.below hb hhi, hp.below hb hh2, by simp⟩)
  go_enter Try.func52, Try.ntmps52
  go_wp2_with (fail)
  obtain ⟨w1, hw1, hb0, c00, c01, c02, hT0, hT1, hz⟩ := Hs.out
  rw [← hw1]
  clear hw1 Hs
  refine (ValidReel_any lo hi W L _ ds w1 hT0 (by omega)).mono ?_
  rintro e x1 ⟨rfl, bx1⟩
  replace c00 := keepB bx1 c00; replace c01 := keepB bx1 c01; replace c02 := keepB bx1 c02
  have hP := hT1.below bx1 (by omega)
  have hz1 := bx1.size
  have Hb := Lib.hid (hb0.trans (bx1.mono (Nat.le_of_lt hz)))
  clear hT0 hT1 h hp bx1 hb0
  cases hv : vReel W L ds
  · have Hno := Lib.hid (show vCuts W L ds ps = false by unfold vCuts; rw [hv]; rfl)
    go_wp2
    go_ret
    exact ⟨ret_bool Hno.out.symm, Hb.out⟩
  · have Hv := Lib.hid hv
    clear hv
    by_cases hl : ps.length ≤ 60
    · have hl' : (60 : Int) < (ps.length : Int) ↔ False := by simp; omega
      go_wp2
      clear hl'
      go_loopw [19] (fun i wr => ∃ k : Nat, k ≤ ps.length ∧ i = .int .i64 k ∧ Below x1.heap.size x1 wr ∧ Hid (∀ j, j < k → cutOk W L ps j = true)) (fun i _ => ps.length - (intOf i).toNat)
      case atStart => exact ⟨0, by omega, rfl, Below.refl _ _, fun j hj => absurd hj (by omega)⟩
      case round =>
        obtain ⟨k, hk, rfl, bw, HD⟩ := hrel
        obtain ⟨wo, rfl⟩ : ∃ wo : World, wo = wr := ⟨_, rfl⟩
        have hzr := bw.size
        replace c00 := keepB bw c00; replace c01 := keepB bw c01; replace c02 := keepB bw c02
        by_cases hlt : k < ps.length
        · have hPr := hP.below bw (by omega)
          obtain ⟨b, o, rfl, hb2, hb3, e0, e1, e2, e3⟩ := hPr.c4 hlt
          have hk0 : (0 : Int) ≤ (k : Int) := by omega
          have hk1 : (k : Int) < (ps.length : Int) := by omega
          have hk2 : (k : Int) ≤ (c2 : Int) := by omega
          have HP := Lib.hid hPr
          clear hP hPr
          have hbd : Below wo.heap.size wo (wo.alloc (.cells #[.int .i64 (gi (gr ps k) 0), .int .i64 (gi (gr ps k) 1), .int .i64 (gi (gr ps k) 2), .int .i64 (gi (gr ps k) 3)] 48)) := (Below.refl _ _).alloc (Nat.le_refl _) _
          have x_c00 := keepB hbd c00
          have x_c01 := keepB hbd c01
          go_wp2_with (fail)
          clear hbd x_c00 x_c01
          obtain ⟨wd, hw1⟩ : ∃ wd, wd = wo.alloc (.cells #[.int .i64 (gi (gr ps k) 0), .int .i64 (gi (gr ps k) 1), .int .i64 (gi (gr ps k) 2), .int .i64 (gi (gr ps k) 3)] 48) := ⟨_, rfl⟩
          have d0 : wd.cell? ⟨wo.heap.size, 0, none⟩ = some (.int .i64 (gi (gr ps k) 0)) := by rw [hw1]; go_simp
          have d1 : wd.cell? ⟨wo.heap.size, 1, none⟩ = some (.int .i64 (gi (gr ps k) 1)) := by rw [hw1]; go_simp
          have d2 : wd.cell? ⟨wo.heap.size, 2, none⟩ = some (.int .i64 (gi (gr ps k) 2)) := by rw [hw1]; go_simp
          have d3 : wd.cell? ⟨wo.heap.size, 3, none⟩ = some (.int .i64 (gi (gr ps k) 3)) := by rw [hw1]; go_simp
          have bd : Below wo.heap.size wo wd := by rw [hw1]; exact (Below.refl _ _).alloc (Nat.le_refl _) _
          have zd : wo.heap.size < wd.heap.size := by rw [hw1]; simp
          rw [← hw1]
          clear hw1
          replace c00 := keepB bd c00; replace c01 := keepB bd c01; replace c02 := keepB bd c02
          refine (inside_any _ _ _ _ _ _ wd).mono ?_
          rintro e x2 ⟨rfl, bx2⟩
          replace c00 := keepB bx2 c00; replace c01 := keepB bx2 c01; replace c02 := keepB bx2 c02; replace d0 := keepB bx2 d0; replace d1 := keepB bx2 d1; replace d2 := keepB bx2 d2; replace d3 := keepB bx2 d3
          have hbw := bw.trans ((bd.mono hzr).trans (bx2.mono (by omega)))
          have HP1 := Lib.hid ((HP.out.below bd (by omega)).below bx2 (by omega))
          have hz2 := bx2.size
          clear e0 e1 e2 e3 HP bd bx2 bw
          cases hd : insB (gi (gr ps k) 0) (gi (gr ps k) 1) (gi (gr ps k) 2) (gi (gr ps k) 3) W L
          · have Hno := Lib.hid (vCuts_no (W := W) (L := L) (ds := ds) hlt fun _ => cut_part hd)
            go_wp2
            go_ret
            exact ⟨ret_bool Hno.out.symm, Hb.out.trans (hbw.mono (by omega))⟩
          · have Hd := Lib.hid (show pv (gr ps k) W L = true from hd)
            clear hd
            go_wp2
            go_loopw [35] (fun i wx => ∃ m : Nat, m ≤ k ∧ i = .int .i64 m ∧ Below x2.heap.size x2 wx ∧ Hid (∀ i, i < m → mT (gr ps k) (gr ps i) = false)) (fun i _ => k - (intOf i).toNat)
            case atStart => exact ⟨0, by omega, rfl, Below.refl _ _, fun j hj => absurd hj (by omega)⟩
            case round =>
              obtain ⟨m, hmk, rfl, bx, HM⟩ := hrel
              have hzx := bx.size
              replace c00 := keepB bx c00; replace c01 := keepB bx c01; replace c02 := keepB bx c02; replace d0 := keepB bx d0; replace d1 := keepB bx d1; replace d2 := keepB bx d2; replace d3 := keepB bx d3
              by_cases hlt2 : m < k
              · have hPx := HP1.out.below bx (by omega)
                obtain ⟨g0, g1, g2, g3⟩ := hPx.c4' (i := m) (by omega)
                have hm0 : (0 : Int) ≤ (m : Int) := by omega
                have hm1 : (m : Int) < (k : Int) := by omega
                clear hPx
                have hbd : Below wr.heap.size wr (wr.alloc (.cells #[.int .i64 (gi (gr ps m) 0), .int .i64 (gi (gr ps m) 1), .int .i64 (gi (gr ps m) 2), .int .i64 (gi (gr ps m) 3)] 48)) := (Below.refl _ _).alloc (Nat.le_refl _) _
                have x_c00 := keepB hbd c00
                have x_c01 := keepB hbd c01
                have x_d0 := keepB hbd d0
                have x_d1 := keepB hbd d1
                have x_d2 := keepB hbd d2
                have x_d3 := keepB hbd d3
                go_wp2_with (fail)
                clear hbd x_c00 x_c01 x_d0 x_d1 x_d2 x_d3
                obtain ⟨we, hw1⟩ : ∃ we, we = wr.alloc (.cells #[.int .i64 (gi (gr ps m) 0), .int .i64 (gi (gr ps m) 1), .int .i64 (gi (gr ps m) 2), .int .i64 (gi (gr ps m) 3)] 48) := ⟨_, rfl⟩
                have q0 : we.cell? ⟨wr.heap.size, 0, none⟩ = some (.int .i64 (gi (gr ps m) 0)) := by rw [hw1]; go_simp
                have q1 : we.cell? ⟨wr.heap.size, 1, none⟩ = some (.int .i64 (gi (gr ps m) 1)) := by rw [hw1]; go_simp
                have q2 : we.cell? ⟨wr.heap.size, 2, none⟩ = some (.int .i64 (gi (gr ps m) 2)) := by rw [hw1]; go_simp
                have q3 : we.cell? ⟨wr.heap.size, 3, none⟩ = some (.int .i64 (gi (gr ps m) 3)) := by rw [hw1]; go_simp
                have bq : Below wr.heap.size wr we := by rw [hw1]; exact (Below.refl _ _).alloc (Nat.le_refl _) _
                have zq : wr.heap.size < we.heap.size := by rw [hw1]; simp
                rw [← hw1]
                clear hw1
                replace c00 := keepB bq c00; replace c01 := keepB bq c01; replace c02 := keepB bq c02; replace d0 := keepB bq d0; replace d1 := keepB bq d1; replace d2 := keepB bq d2; replace d3 := keepB bq d3
                refine (meet_any _ _ _ _ _ _ _ _ we).mono ?_
                rintro e x3 ⟨rfl, bx3⟩
                replace c00 := keepB bx3 c00; replace c01 := keepB bx3 c01; replace c02 := keepB bx3 c02; replace d0 := keepB bx3 d0; replace d1 := keepB bx3 d1; replace d2 := keepB bx3 d2; replace d3 := keepB bx3 d3
                have hby := bx.trans ((bq.mono hzx).trans (bx3.mono (by omega)))
                clear g0 g1 g2 g3 q0 q1 q2 q3 bx bq bx3
                cases hd : meetB (gi (gr ps k) 0) (gi (gr ps k) 1) (gi (gr ps k) 2) (gi (gr ps k) 3) (gi (gr ps m) 0) (gi (gr ps m) 1) (gi (gr ps m) 2) (gi (gr ps m) 3)
                · have HM2 := Lib.hid (show mT (gr ps k) (gr ps m) = false from hd)
                  go_wp2
                  go_roundw
                  case rel =>
                    refine ⟨m + 1, by omega, by go_num, hby, fun j hj => ?_⟩
                    rcases Nat.lt_or_ge j m with h' | h'
                    · exact HM.out j h'
                    · obtain rfl : j = m := by omega
                      exact HM2.out
                  case measure => simp [intOf]; omega
                · have Hno := Lib.hid (vCuts_no (W := W) (L := L) (ds := ds) hlt fun _ => cut_meet hlt hlt2 hd)
                  go_wp2
                  go_ret
                  exact ⟨ret_bool Hno.out.symm, Hb.out.trans ((hbw.trans (hby.mono (by omega))).mono (by omega))⟩
              · have He := Lib.hid (show m = k by omega)
                go_wp2
                go_roundw
                case rel =>
                  refine ⟨k + 1, by omega, by go_num, hbw.trans (bx.mono (by omega)), fun j hj => ?_⟩
                  rcases Nat.lt_or_ge j k with h' | h'
                  · exact HD.out j h'
                  · obtain rfl : j = k := by omega
                    unfold cutOk
                    rw [Hd.out, (noMeet_iff (Nat.le_of_lt hlt)).2 fun i hi => HM.out i (by rw [He.out]; exact hi)]; rfl
                case measure => simp [intOf]; omega
        · have Hyes := Lib.hid (show vCuts W L ds ps = true from vCuts_iff.2 ⟨Hv.out, hl, fun j hj => HD.out j (by omega)⟩)
          go_wp2
          go_ret
          exact ⟨ret_bool Hyes.out.symm, Hb.out.trans (bw.mono (by omega))⟩
    · have Hno := Lib.hid (show vCuts W L ds ps = false by unfold vCuts; rw [decide_eq_false hl]; simp)
      have hl' : (60 : Int) < (ps.length : Int) := by omega
      go_wp2
      go_ret
      exact ⟨ret_bool Hno.out.symm, Hb.out⟩
end Go.Proofs.Ytkgepklapglmdaa

namespace Go.Proofs.Ytkgepklapglmdaa
open Go.RowKit
attribute [local go_sem ↓] Go.wp_at_zero Go.wp_at_succ

theorem keepC {B : Nat} {W w1 : World} {a : Addr} {v : Value} (hb : Below B W w1) (ha : a.block < B) (h : W.cell? a = some v) : w1.cell? a = some v := (hb.cell ha).trans h
end Go.Proofs.Ytkgepklapglmdaa

namespace Go.Proofs.Ytkgepklapglmdaa
open Go.RowKit
attribute [local go_sem ↓] Go.wp_at_zero Go.wp_at_succ

theorem keepF {B : Nat} {W w1 : World} {a : Addr} (hb : Below B W w1) (ha : a.block < B) (h : W.frozen? a = false) : w1.frozen? a = false := (hb.frozen ha).trans h
theorem OwnI.apart {w w' : World} {base e : Nat} {u v : Value} {xs : List Int} (h : OwnI w base e v xs) (hk : ∀ b, b < w.heap.size → some b ≠ u.ownBlock → w'.heap[b]? = w.heap[b]?) (hne : ∀ g, v.ownBlock = some g → u.ownBlock = some g → False) : OwnI w' base e v xs :=
  h.keptBlock fun g hg => hk g (h.lt g hg).2 fun e => hne g hg e.symm
theorem OwnT.apart {w w' : World} {base e k : Nat} {u v : Value} {xs : List (List Int)} (h : OwnT w base e k v xs) (hk : ∀ b, b < w.heap.size → some b ≠ u.ownBlock → w'.heap[b]? = w.heap[b]?) (hne : ∀ g, v.ownBlock = some g → u.ownBlock = some g → False) : OwnT w' base e k v xs :=
  h.keptBlock fun g hg => hk g (h.lt g hg).2 fun e => hne g hg e.symm
theorem OwnT.setBelow {w : World} {base e k : Nat} {v : Value} {xs : List (List Int)} (h : OwnT w base e k v xs) {p : Addr} (hp : p.block < base) (u : Value) : OwnT (w.setCell p u) base e k v xs :=
  h.keptBlock fun g hg => by
    have := (h.lt g hg).1
    simp only [World.setCell, Array.getElem?_modify, if_neg (show ¬ p.block = g by omega)]
set_option maxHeartbeats 1000000 in
theorem toReel_any (lo hi : Nat) (W L : Int) (v : Value) (ds : List (List Int)) (w : World) (h : TS w lo hi 5 v ds) (hhi : hi ≤ w.heap.size) (hl : ds.length ≤ 1048576) :
    Calls Try.prog 93 #[.agg #[.int .i64 W, .int .i64 L, v]] w fun e w' => ∃ v', e = .returned (.agg #[.int .i64 W, .int .i64 L, v']) ∧ OwnT w' w.heap.size 83 5 v' ds ∧ Below w.heap.size w w' := by
  obtain ⟨A, c, rfl, hc, hm⟩ := h.form
  have Hs := Lib.hid (show ∃ w1, w1 = (((w.alloc (.cells #[.int .i64 W, .int .i64 L, .slice A ds.length c] 93)).alloc (.cells #[.int .i64 0, .int .i64 0, .slice none 0 0] 53)).alloc (.cells #[.int .i64 W, .int .i64 L, .slice none 0 0] 53)) ∧ Below w.heap.size w w1 ∧ w1.cell? ⟨w.heap.size, 0, none⟩ = some (.int .i64 W) ∧ w1.cell? ⟨w.heap.size, 1, none⟩ = some (.int .i64 L) ∧ w1.cell? ⟨w.heap.size, 2, none⟩ = some (.slice A ds.length c) ∧ w1.cell? ⟨w.heap.size + 1, 0, none⟩ = some (.int .i64 0) ∧ w1.cell? ⟨w.heap.size + 1, 1, none⟩ = some (.int .i64 0) ∧ w1.cell? ⟨w.heap.size + 1, 2, none⟩ = some (.slice none 0 0) ∧ w1.frozen? ⟨w.heap.size + 1, 0, none⟩ = false ∧ w1.frozen? ⟨w.heap.size + 1, 1, none⟩ = false ∧ w1.frozen? ⟨w.heap.size + 1, 2, none⟩ = false ∧ w1.cell? ⟨w.heap.size + 1 + 1, 0, none⟩ = some (.int .i64 W) ∧ w1.cell? ⟨w.heap.size + 1 + 1, 1, none⟩ = some (.int .i64 L) ∧ w1.cell? ⟨w.heap.size + 1 + 1, 2, none⟩ = some (.slice none 0 0) ∧ w1.frozen? ⟨w.heap.size + 1 + 1, 0, none⟩ = false ∧ w1.frozen? ⟨w.heap.size + 1 + 1, 1, none⟩ = false ∧ w1.frozen? ⟨w.heap.size + 1 + 1, 2, none⟩ = false ∧ TS w1 lo hi 5 (.slice A ds.length c) ds ∧ w.heap.size + 1 + 1 < w1.heap.size from by
    have hb : Below w.heap.size w (((w.alloc (.cells #[.int .i64 W, .int .i64 L, .slice A ds.length c] 93)).alloc (.cells #[.int .i64 0, .int .i64 0, .slice none 0 0] 53)).alloc (.cells #[.int .i64 W, .int .i64 L, .slice none 0 0] 53)) := (((Below.refl _ _).alloc (Nat.le_refl _) _).alloc (by simp) _).alloc (by simp; omega) _
    exact ⟨_, rfl, hb, by go_simp, by go_simp, by go_simp, by go_simp, by go_simp, by go_simp, by go_simp, by go_simp, by go_simp, by go_simp, by go_simp, by go_simp, by go_simp, by go_simp, by go_simp, h.below hb hhi, by simp⟩)
  go_enter Try.func93, Try.ntmps93
  go_wp2_with (fail)
  obtain ⟨w1, hw1, hb0, c00, c01, c02, c10, c11, c12, f10, f11, f12, c20, c21, c22, f20, f21, f22, hT0, hz⟩ := Hs.out
  rw [← hw1]
  clear hw1 Hs
  refine (toDefectS_any lo hi _ ds w1 hT0 (by omega) hl).mono ?_
  rintro e w2 ⟨v', rfl, ho, bx⟩
  replace c10 := keepB bx c10; replace c11 := keepB bx c11; replace c12 := keepB bx c12; replace c20 := keepB bx c20; replace c21 := keepB bx c21; replace c22 := keepB bx c22
  have Ho := Lib.hid ho
  obtain ⟨A2, c2, rfl, _⟩ := ho.form
  replace f10 := keepF bx (by first | (simp; done) | (simp; omega)) f10; replace f11 := keepF bx (by first | (simp; done) | (simp; omega)) f11; replace f12 := keepF bx (by first | (simp; done) | (simp; omega)) f12; replace f20 := keepF bx (by first | (simp; done) | (simp; omega)) f20; replace f21 := keepF bx (by first | (simp; done) | (simp; omega)) f21; replace f22 := keepF bx (by first | (simp; done) | (simp; omega)) f22
  clear ho
  go_wp2
  have hb2 := hb0.trans (bx.mono (by omega))
  refine bodyPost_ret (v := .agg #[.int .i64 W, .int .i64 L, .slice A2 ds.length c2]) (by simp [results, Try.results93, go_sem, *]) rfl ⟨_, rfl, ?_, (((hb2.setCell (p := ⟨_, _, _⟩) (by simp; omega) _).setCell (p := ⟨_, _, _⟩) (by simp) _).setCell (p := ⟨_, _, _⟩) (by simp) _).setCell (p := ⟨_, _, _⟩) (by simp) _⟩
  exact ((((Ho.out.setBelow (by simp; omega) _).setBelow (by simp; omega) _).setBelow (by simp; omega) _).setBelow (by simp; omega) _).base (by omega)
end Go.Proofs.Ytkgepklapglmdaa
