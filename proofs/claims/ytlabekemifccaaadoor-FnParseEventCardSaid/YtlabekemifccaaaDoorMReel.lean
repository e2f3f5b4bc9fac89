/-
  Lemmas and contracts of single functions of this program, used by the proofs of its laws: what each call returns and what becomes of memory. Conditions: the hypotheses of each theorem.
-/
import Derived.Test.YtlabekemifccaaaDoorTup
import Derived.Test.YtlabekemifccaaaDoorLeafA
import Derived.BigGuardPart
import Derived.Deep.RegionHeld3
import Derived.Deep.RegionWith
import Derived.Deep.DrawnRows
import Derived.Deep.CutRange
import Derived.Test.YtlabekemifccaaaDoorOwn
namespace Go.Proofs.YtlabekemifccaaaDoor
open Go.RowKit

def insB (l r f t W L : Int) : Bool := decide (0 ≤ l) && decide (l < r) && decide (r ≤ W) && decide (0 ≤ f) && decide (f < t) && decide (t ≤ L)
def meetB (l1 r1 f1 t1 l2 r2 f2 t2 : Int) : Bool := decide (l1 < r2) && decide (l2 < r1) && decide (f1 < t2) && decide (f2 < t1)
theorem insB_true {l r f t W L : Int} (h : insB l r f t W L = true) : 0 ≤ l ∧ l < r ∧ r ≤ W ∧ 0 ≤ f ∧ f < t ∧ t ≤ L := by unfold insB at h; simp at h; omega
theorem insB_iff {l r f t W L : Int} : insB l r f t W L = true ↔ 0 ≤ l ∧ l < r ∧ r ≤ W ∧ 0 ≤ f ∧ f < t ∧ t ≤ L := ⟨insB_true, fun h => by unfold insB; simp; omega⟩
theorem meetB_iff {l1 r1 f1 t1 l2 r2 f2 t2 : Int} : meetB l1 r1 f1 t1 l2 r2 f2 t2 = true ↔ l1 < r2 ∧ l2 < r1 ∧ f1 < t2 ∧ f2 < t1 := by unfold meetB; simp; omega
/-- what is there stays, behind a call that makes memory alone -/
theorem keepB {W w1 : World} {a : Addr} {v : Value} (hb : Below W.heap.size W w1) (h : W.cell? a = some v) : w1.cell? a = some v := (hb.cell (World.block_lt_of_cell? W _ h)).trans h
theorem of_drew {w x : World} (h : Below w.drew.heap.size w.drew x) : Below w.heap.size w x := ⟨h.os, h.tape, h.output, h.size, h.block⟩
def dOk (W L : Int) (d : List Int) : Bool := insB (gi d 0) (gi d 1) (gi d 2) (gi d 3) W L && (decide (1 ≤ gi d 4) && decide (gi d 4 ≤ 9))
def vReel (W L : Int) (ds : List (List Int)) : Bool := decide (1 ≤ W) && decide (W ≤ 60) && decide (1 ≤ L) && decide (L ≤ 400) && decide (ds.length ≤ 16) && ds.all (dOk W L)
theorem vReel_iff {W L : Int} {ds : List (List Int)} : vReel W L ds = true ↔ 1 ≤ W ∧ W ≤ 60 ∧ 1 ≤ L ∧ L ≤ 400 ∧ ds.length ≤ 16 ∧ ∀ d ∈ ds, dOk W L d = true := by
  unfold vReel
  simp only [Bool.and_eq_true, decide_eq_true_eq, List.all_eq_true, and_assoc]
theorem vReel_no {W L : Int} {ds : List (List Int)} {k : Nat} (hk : k < ds.length) (h : dOk W L (gr ds k) = false) : vReel W L ds = false := by
  cases hv : vReel W L ds
  · rfl
  · have := (vReel_iff.1 hv).2.2.2.2.2 _ (gr_mem hk)
    rw [h] at this; cases this
theorem vReel_false {W L : Int} {ds : List (List Int)} (h : ¬ (1 ≤ W ∧ W ≤ 60 ∧ 1 ≤ L ∧ L ≤ 400 ∧ ds.length ≤ 16)) : vReel W L ds = false := by
  cases hv : vReel W L ds
  · rfl
  · have := vReel_iff.1 hv; omega

end Go.Proofs.YtlabekemifccaaaDoor

namespace Go.Proofs.YtlabekemifccaaaDoor
open Go.RowKit
attribute [local go_sem ↓] Go.wp_at_zero Go.wp_at_succ

set_option maxHeartbeats 800000 in
theorem eqPart_same (d0 d1 d2 d3 : Int) (w : World) :
    Calls Tryd.prog 44 #[.agg #[.int .i64 d0, .int .i64 d1, .int .i64 d2, .int .i64 d3], .agg #[.int .i64 d0, .int .i64 d1, .int .i64 d2, .int .i64 d3]] w fun e w' => e = .returned (.bool true) ∧ Below w.heap.size w w' := by
  have h0 : (d0 != d0) = false := bne_f rfl
  have h1 : (d1 != d1) = false := bne_f rfl
  have h2 : (d2 != d2) = false := bne_f rfl
  have h3 : (d3 != d3) = false := bne_f rfl
  go_enter Tryd.func44, Tryd.ntmps44
  go_wp2
  go_ret
  exact ⟨rfl, ((Below.refl _ _).alloc (Nat.le_refl _) _).alloc (by simp) _⟩
set_option maxHeartbeats 1000000 in
theorem heldEventS_up (lo hi : Nat) (v : Value) (n m : Nat) (w : World) (h : TS w lo hi 7 v (upT 7 n m)) (hn : n ≤ 1048577) (hm : m ≤ 1048576) :
    Calls Tryd.prog 25 #[v, .int .i64 (n : Int)] w fun e w' => e = .returned (.int .i64 ((n + m * 7 : Nat) : Int)) ∧ w = w' := by
  obtain ⟨A, c, rfl, hc, hmc⟩ := h.form
  have hl : (upT 7 n m).length = m := upT_len 7 n m
  rw [hl] at hc h ⊢
  go_enter Tryd.func25, Tryd.ntmps25
  go_wp2
  go_loop [1, 5] (fun q i => ∃ k : Nat, k ≤ m ∧ i = .int .i64 k ∧ q = .int .i64 ((n + k * 7 : Nat) : Int)) (fun _ i => m - (intOf i).toNat)
  case atStart => exact ⟨0, by omega, rfl, by simp⟩
  case round =>
    obtain ⟨k, hk, rfl, rfl⟩ := hrel
    by_cases hlt : k < m
    · obtain ⟨b, o, rfl, _, _, e0, e1, e2, e3, e4, e5, e6⟩ := h.c7 (i := k) (by rw [hl]; exact hlt)
      obtain ⟨z, hz⟩ : ∃ z, z = n + k * 7 := ⟨_, rfl⟩
      have hz2 : z ≤ 9000000 := by omega
      rw [upT_at 7 n m k 0 hlt (by omega), ← hz] at e0
      rw [upT_at 7 n m k 1 hlt (by omega), ← hz] at e1
      rw [upT_at 7 n m k 2 hlt (by omega), ← hz] at e2
      rw [upT_at 7 n m k 3 hlt (by omega), ← hz] at e3
      rw [upT_at 7 n m k 4 hlt (by omega), ← hz] at e4
      rw [upT_at 7 n m k 5 hlt (by omega), ← hz] at e5
      rw [upT_at 7 n m k 6 hlt (by omega), ← hz] at e6
      have g0 : (((z : Nat) : Int) != (z : Int)) = false := bne_f rfl
      have g1 : ((((z + 1 : Nat) : Int)) != (z : Int) + 1) = false := bne_f (by omega)
      have g2 : ((((z + 2 : Nat) : Int)) != (z : Int) + 1 + 1) = false := bne_f (by omega)
      have g3 : ((((z + 3 : Nat) : Int)) != (z : Int) + 1 + 1 + 1) = false := bne_f (by omega)
      have g4 : ((((z + 4 : Nat) : Int)) != (z : Int) + 1 + 1 + 1 + 1) = false := bne_f (by omega)
      have g5 : ((((z + 5 : Nat) : Int)) != (z : Int) + 1 + 1 + 1 + 1 + 1) = false := bne_f (by omega)
      have g6 : ((((z + 6 : Nat) : Int)) != (z : Int) + 1 + 1 + 1 + 1 + 1 + 1) = false := bne_f (by omega)
      have e12 : ((z + 1 : Nat) : Int) = (z : Int) + 1 := by omega
      rw [e12] at e1
      have g12 : (((z : Int) + 1) != ((z : Int) + 1)) = false := bne_f rfl
      have e22 : ((z + 2 : Nat) : Int) = (z : Int) + 1 + 1 := by omega
      rw [e22] at e2
      have g22 : (((z : Int) + 1 + 1) != ((z : Int) + 1 + 1)) = false := bne_f rfl
      have e32 : ((z + 3 : Nat) : Int) = (z : Int) + 1 + 1 + 1 := by omega
      rw [e32] at e3
      have g32 : (((z : Int) + 1 + 1 + 1) != ((z : Int) + 1 + 1 + 1)) = false := bne_f rfl
      have e42 : ((z + 4 : Nat) : Int) = (z : Int) + 1 + 1 + 1 + 1 := by omega
      rw [e42] at e4
      have g42 : (((z : Int) + 1 + 1 + 1 + 1) != ((z : Int) + 1 + 1 + 1 + 1)) = false := bne_f rfl
      have e52 : ((z + 5 : Nat) : Int) = (z : Int) + 1 + 1 + 1 + 1 + 1 := by omega
      rw [e52] at e5
      have g52 : (((z : Int) + 1 + 1 + 1 + 1 + 1) != ((z : Int) + 1 + 1 + 1 + 1 + 1)) = false := bne_f rfl
      have e62 : ((z + 6 : Nat) : Int) = (z : Int) + 1 + 1 + 1 + 1 + 1 + 1 := by omega
      rw [e62] at e6
      have g62 : (((z : Int) + 1 + 1 + 1 + 1 + 1 + 1) != ((z : Int) + 1 + 1 + 1 + 1 + 1 + 1)) = false := bne_f rfl
      have Hz := Lib.hid hz
      clear hz h hl g1 g2 g3 g4 g5 g6 e12 e22 e32 e42 e52 e62
      rw [← Hz.out]
      go_wp2
      go_round
      case rel => exact ⟨k + 1, by omega, by go_num, by rw [show n + (k + 1) * 7 = z + 7 by rw [Hz.out]; omega]; go_num⟩
      case measure => simp [intOf]; omega
    · have He := Lib.hid (show k = m by omega)
      go_wp2
      go_ret
      exact ⟨ret_int (by have := He.out; omega), rfl⟩
end Go.Proofs.YtlabekemifccaaaDoor

namespace Go.Proofs.YtlabekemifccaaaDoor
open Go.RowKit

theorem set2_set {xss : List (List Int)} {i : Nat} (hi : i < xss.length) {r : List Int} {j : Nat} {y : Int} : set2 (xss.set i r) i j y = xss.set i (r.set j y) := by
  unfold set2 gr
  rw [List.getD_eq_getElem?_getD, List.getElem?_set_self hi, Option.getD_some, List.set_set]
theorem upT_set (k n : Nat) (xs : List (List Int)) (i : Nat) (hi : i < xs.length) : (upT k n i ++ xs.drop i).set i ((List.range k).map fun j => ((n + i * k + j : Nat) : Int)) = upT k n (i + 1) ++ xs.drop (i + 1) := by
  rw [List.set_append_right _ _ (by rw [upT_len]; omega), upT_len, Nat.sub_self, drop_gr hi, List.set_cons_zero]
  have e : upT k n (i + 1) = upT k n i ++ [(List.range k).map fun j => ((n + i * k + j : Nat) : Int)] := by
    unfold upT; rw [List.range_succ, List.map_append]; rfl
  rw [e, List.append_assoc]; rfl
theorem mid_len (k n : Nat) (xs : List (List Int)) (i : Nat) (hi : i ≤ xs.length) : (upT k n i ++ xs.drop i).length = xs.length := by
  rw [List.length_append, upT_len, List.length_drop]; omega
theorem OwnT.setRow {w : World} {base e k n c g : Nat} {xss : List (List Int)} {i : Nat} {r : List Int} (h : OwnT w base e k (.slice (some ⟨g, 0, none⟩) n c) (xss.set i r)) (hi : i < xss.length) (j : Nat) (hj : j < k) (y : Int) (hy : I64 y) :
    OwnT (w.setCell ⟨g, i * k + j, none⟩ (.int .i64 y)) base e k (.slice (some ⟨g, 0, none⟩) n c) (xss.set i (r.set j y)) := by
  obtain ⟨g0, e0, _, _, _, _, s0⟩ := h.at_ (i := i) (by rw [List.length_set]; exact hi) (by omega)
  simp only [Option.some.injEq, Addr.mk.injEq, and_true] at e0
  subst e0
  have h0 := s0 j y hj hy
  rw [set2_set hi] at h0
  exact h0

set_option maxHeartbeats 1000000 in
theorem OwnT.row7 {w : World} {base e n c g : Nat} {xss : List (List Int)} (h : OwnT w base e 7 (.slice (some ⟨g, 0, none⟩) n c) xss) {i : Nat} (hi : i < xss.length) (y0 y1 y2 y3 y4 y5 y6 : Int) (hy : I64 y0 ∧ I64 y1 ∧ I64 y2 ∧ I64 y3 ∧ I64 y4 ∧ I64 y5 ∧ I64 y6) :
    OwnT (((((((w.setCell ⟨g, i * 7, none⟩ (.int .i64 y0)).setCell ⟨g, i * 7 + 1, none⟩ (.int .i64 y1)).setCell ⟨g, i * 7 + 2, none⟩ (.int .i64 y2)).setCell ⟨g, i * 7 + 3, none⟩ (.int .i64 y3)).setCell ⟨g, i * 7 + 4, none⟩ (.int .i64 y4)).setCell ⟨g, i * 7 + 5, none⟩ (.int .i64 y5)).setCell ⟨g, i * 7 + 6, none⟩ (.int .i64 y6)) base e 7 (.slice (some ⟨g, 0, none⟩) n c) (xss.set i [y0, y1, y2, y3, y4, y5, y6]) := by
  obtain ⟨i0, i1, i2, i3, i4, i5, i6⟩ := hy
  have hrow := (h.2 _ (gr_mem hi)).1
  have e0 : xss.set i (gr xss i) = xss := by rw [gr_eq hi]; exact List.set_getElem_self hi
  rw [← e0] at h
  clear e0
  obtain ⟨q, hq⟩ : ∃ q, q = gr xss i := ⟨_, rfl⟩
  rw [← hq] at hrow h
  clear hq
  match q, hrow, h with
  | [a0, a1, a2, a3, a4, a5, a6], _, h =>
    have h0 := h.setRow hi 0 (by omega) y0 i0
    rw [Nat.add_zero] at h0
    rw [show ([a0, a1, a2, a3, a4, a5, a6] : List Int).set 0 y0 = [y0, a1, a2, a3, a4, a5, a6] from rfl] at h0
    have h1 := h0.setRow hi 1 (by omega) y1 i1
    rw [show ([y0, a1, a2, a3, a4, a5, a6] : List Int).set 1 y1 = [y0, y1, a2, a3, a4, a5, a6] from rfl] at h1
    have h2 := h1.setRow hi 2 (by omega) y2 i2
    rw [show ([y0, y1, a2, a3, a4, a5, a6] : List Int).set 2 y2 = [y0, y1, y2, a3, a4, a5, a6] from rfl] at h2
    have h3 := h2.setRow hi 3 (by omega) y3 i3
    rw [show ([y0, y1, y2, a3, a4, a5, a6] : List Int).set 3 y3 = [y0, y1, y2, y3, a4, a5, a6] from rfl] at h3
    have h4 := h3.setRow hi 4 (by omega) y4 i4
    rw [show ([y0, y1, y2, y3, a4, a5, a6] : List Int).set 4 y4 = [y0, y1, y2, y3, y4, a5, a6] from rfl] at h4
    have h5 := h4.setRow hi 5 (by omega) y5 i5
    rw [show ([y0, y1, y2, y3, y4, a5, a6] : List Int).set 5 y5 = [y0, y1, y2, y3, y4, y5, a6] from rfl] at h5
    have h6 := h5.setRow hi 6 (by omega) y6 i6
    rw [show ([y0, y1, y2, y3, y4, y5, a6] : List Int).set 6 y6 = [y0, y1, y2, y3, y4, y5, y6] from rfl] at h6
    exact h6
set_option maxRecDepth 100000 in
set_option maxHeartbeats 2000000 in
theorem markEventS_any (base : Nat) (v : Value) (xs : List (List Int)) (n : Nat) (w : World) (h : OwnT w base 29 7 v xs) (hl : xs.length ≤ 1048576) (hn : n ≤ 9000000) :
    Calls Tryd.prog 24 #[v, .int .i64 (n : Int)] w fun e w' => e = .returned (.int .i64 ((n + xs.length * 7 : Nat) : Int)) ∧ OwnT w' base 29 7 v (upT 7 n xs.length) ∧ Below base w w' ∧ (∀ b, some b ≠ v.ownBlock → w'.heap[b]? = w.heap[b]?) ∧ w'.heap.size = w.heap.size := by
  obtain ⟨A, c, rfl, hc, hm⟩ := h.form
  go_enter Tryd.func24, Tryd.ntmps24
  go_wp2
  go_loopw [1, 5] (fun q i wr => ∃ k : Nat, k ≤ xs.length ∧ i = .int .i64 k ∧ q = .int .i64 ((n + k * 7 : Nat) : Int) ∧ OwnT wr base 29 7 (.slice A xs.length c) (upT 7 n k ++ xs.drop k) ∧ Below base w wr ∧ Hid (∀ b, some b ≠ (Value.slice A xs.length c).ownBlock → wr.heap[b]? = w.heap[b]?) ∧ Hid (wr.heap.size = w.heap.size)) (fun _ i _ => xs.length - (intOf i).toNat)
  case atStart => exact ⟨0, by omega, rfl, by simp, by simpa [upT] using h, Below.refl _ _, fun _ _ => rfl, rfl⟩
  case round =>
    obtain ⟨k, hk, rfl, rfl, ho, hb, HB, HS⟩ := hrel
    by_cases hlt : k < xs.length
    · have hml := mid_len 7 n xs k hk
      obtain ⟨g, rfl, hgb, hgs, hcell, hfr, _⟩ := ho.at_ (i := k) (by rw [hml]; exact hlt) (by omega)
      have e0 := hcell 0 (by omega)
      have f0 := hfr 0
      have e1 := hcell 1 (by omega)
      have f1 := hfr 1
      have e2 := hcell 2 (by omega)
      have f2 := hfr 2
      have e3 := hcell 3 (by omega)
      have f3 := hfr 3
      have e4 := hcell 4 (by omega)
      have f4 := hfr 4
      have e5 := hcell 5 (by omega)
      have f5 := hfr 5
      have e6 := hcell 6 (by omega)
      have f6 := hfr 6
      rw [Nat.add_zero] at e0 f0
      obtain ⟨z, hz⟩ : ∃ z, z = n + k * 7 := ⟨_, rfl⟩
      have hz2 : z ≤ 20000000 := by omega
      have hrow := ho.row7 (i := k) (by rw [hml]; exact hlt) ((z : Int)) ((z : Int) + 1) ((z : Int) + 1 + 1) ((z : Int) + 1 + 1 + 1) ((z : Int) + 1 + 1 + 1 + 1) ((z : Int) + 1 + 1 + 1 + 1 + 1) ((z : Int) + 1 + 1 + 1 + 1 + 1 + 1) ⟨⟨by omega, by omega⟩, ⟨by omega, by omega⟩, ⟨by omega, by omega⟩, ⟨by omega, by omega⟩, ⟨by omega, by omega⟩, ⟨by omega, by omega⟩, ⟨by omega, by omega⟩⟩
      have er : [(z : Int), (z : Int) + 1, (z : Int) + 1 + 1, (z : Int) + 1 + 1 + 1, (z : Int) + 1 + 1 + 1 + 1, (z : Int) + 1 + 1 + 1 + 1 + 1, (z : Int) + 1 + 1 + 1 + 1 + 1 + 1] = (List.range 7).map fun j => ((n + k * 7 + j : Nat) : Int) := by
        rw [hz]; simp only [List.range, List.range.loop, List.map]; simp only [List.cons.injEq, and_true]; refine ⟨?_, ?_, ?_, ?_, ?_, ?_, ?_⟩ <;> omega
      rw [er, upT_set 7 n xs k hlt] at hrow
      obtain ⟨x0, hx0⟩ : ∃ x, x = gi (gr (upT 7 n k ++ xs.drop k) k) 0 := ⟨_, rfl⟩
      rw [← hx0] at e0
      obtain ⟨x1, hx1⟩ : ∃ x, x = gi (gr (upT 7 n k ++ xs.drop k) k) 1 := ⟨_, rfl⟩
      rw [← hx1] at e1
      obtain ⟨x2, hx2⟩ : ∃ x, x = gi (gr (upT 7 n k ++ xs.drop k) k) 2 := ⟨_, rfl⟩
      rw [← hx2] at e2
      obtain ⟨x3, hx3⟩ : ∃ x, x = gi (gr (upT 7 n k ++ xs.drop k) k) 3 := ⟨_, rfl⟩
      rw [← hx3] at e3
      obtain ⟨x4, hx4⟩ : ∃ x, x = gi (gr (upT 7 n k ++ xs.drop k) k) 4 := ⟨_, rfl⟩
      rw [← hx4] at e4
      obtain ⟨x5, hx5⟩ : ∃ x, x = gi (gr (upT 7 n k ++ xs.drop k) k) 5 := ⟨_, rfl⟩
      rw [← hx5] at e5
      obtain ⟨x6, hx6⟩ : ∃ x, x = gi (gr (upT 7 n k ++ xs.drop k) k) 6 := ⟨_, rfl⟩
      rw [← hx6] at e6
      have Hrow := Lib.hid hrow
      have Hz := Lib.hid hz
      clear hrow er hcell hfr hml ho hz hx0 hx1 hx2 hx3 hx4 hx5 hx6
      rw [← Hz.out]
      go_wp2
      go_roundw
      case rel =>
        refine ⟨k + 1, by omega, by go_num, by rw [show n + (k + 1) * 7 = z + 7 by rw [Hz.out]; omega]; go_num, Hrow.out, (((((((hb.setCell (p := ⟨g, k * 7, none⟩) hgb _).setCell (p := ⟨g, k * 7 + 1, none⟩) hgb _).setCell (p := ⟨g, k * 7 + 2, none⟩) hgb _).setCell (p := ⟨g, k * 7 + 3, none⟩) hgb _).setCell (p := ⟨g, k * 7 + 4, none⟩) hgb _).setCell (p := ⟨g, k * 7 + 5, none⟩) hgb _).setCell (p := ⟨g, k * 7 + 6, none⟩) hgb _), fun b hb' => ?_, ?_⟩
        · rw [← HB.out b hb']
          have hne : b ≠ g := fun e => hb' (by rw [e]; rfl)
          simp only [World.setCell, Array.getElem?_modify, if_neg (fun e : g = b => hne e.symm)]
        · show _ = _
          rw [← HS.out]; simp only [World.setCell, Array.size_modify]
      case measure => simp [intOf]; omega
    · have He := Lib.hid (show k = xs.length by omega)
      go_wp2
      go_ret
      refine ⟨ret_int (by have := He.out; omega), ?_, hb, HB.out, HS.out⟩
      rw [He.out] at ho
      simpa using ho
end Go.Proofs.YtlabekemifccaaaDoor

namespace Go.Proofs.YtlabekemifccaaaDoor
open Go.RowKit

theorem made_all {z : Array Value} {c : Value} {n : Nat} (h : ∀ j, z[j % z.size]! = c) : (madeCells z n).toList = List.replicate n c := by
  apply List.ext_getElem (by simp [size_madeCells])
  intro j h1 h2
  simp [madeCells, h]
theorem OwnT.made {w : World} {base e k n c : Nat} {A : Option Addr} (h : w.ownsRow base e k (.slice A n c) n (List.replicate (n * k) (.int .i64 0))) : OwnT w base e k (.slice A n c) (List.replicate n (List.replicate k 0)) := by
  refine ⟨?_, fun x hx => ?_⟩
  · have e1 : flatT (List.replicate n (List.replicate k 0)) = List.replicate (n * k) (.int .i64 0) := by
      unfold flatT; rw [List.flatten_replicate_replicate, List.map_replicate]
    rw [List.length_replicate, e1]; exact h
  · rw [(List.mem_replicate.1 hx).2]
    exact ⟨List.length_replicate, fun y hy => by rw [(List.mem_replicate.1 hy).2]; exact ⟨by omega, by omega⟩⟩
theorem wpList_makeT {P : Program} {t e : TypeId} {z : Value} {k bytes : Nat} (S : SlT P t e z k bytes) (hz : ∀ j, z.cells[j % z.cells.size]! = .int .i64 0) (hby : bytes ≤ 100) {ops : Array Oper} {rest : List Oper} {o : Oper} {a : Act} {Q : Exit → Act → World → Prop} (w : World) (hgd : o.guard = none) (l c : Operand)
    (ho : o.op = Op.makeSlice t l c) (base n : Nat) (hl : a.eval l = .int .i64 (n : Int)) (hc : a.eval c = .int .i64 (n : Int)) (hn : n ≤ 1099511627776) (hb : base ≤ w.heap.size)
    (h : ∀ w', OwnT w' base e k (.slice (some ⟨w.heap.size, 0, none⟩) n n) (List.replicate n (List.replicate k 0)) → Below w.heap.size w w' → w.heap.size < w'.heap.size → wpList P ops Q rest (a.put o.dst (.slice (some ⟨w.heap.size, 0, none⟩) n n)) w') :
    wpList P ops Q (o :: rest) a w := by
  obtain ⟨i, hi, hz1, hz2, hz3⟩ := info_parts S.hi
  have hby2 : bytes * n ≤ 100 * 1099511627776 := Nat.mul_le_mul hby hn
  refine wpList_make_full w hgd l c t ho base e i _ k S.ht hi hz1 hz2 .i64 .i64 _ _ n hl hc rfl rfl (by rw [hz3]; omega) (by unfold maxLen; omega) hb fun w' k1 k2 => ?_
  have hlt := (k1.lt _ rfl).2
  rw [made_all hz] at k1
  exact h w' (OwnT.made k1) ((Below.refl _ _).grown k2 (Nat.le_refl _) fun k hk => by cases hk) hlt
theorem OwnT.at' {w : World} {base e k n c g : Nat} {xss : List (List Int)} (h : OwnT w base e k (.slice (some ⟨g, 0, none⟩) n c) xss) {i : Nat} (hi : i < xss.length) (h0 : 0 < k) :
    base ≤ g ∧ g < w.heap.size ∧ (∀ j, j < k → w.cell? ⟨g, i * k + j, none⟩ = some (.int .i64 (gi (gr xss i) j))) ∧ (∀ j, w.frozen? ⟨g, i * k + j, none⟩ = false) := by
  obtain ⟨g', e1, a, b, c1, d, _⟩ := h.at_ hi h0
  injection e1 with e2
  injection e2 with e3
  subst e3
  exact ⟨a, b, c1, d⟩
theorem rep_set {k : Nat} {r : List Int} (xs : List (List Int)) (i : Nat) (hi : i < xs.length) (hr : gr xs i = r) : (xs.take i ++ (List.replicate xs.length (List.replicate k 0)).drop i).set i r = xs.take (i + 1) ++ (List.replicate xs.length (List.replicate k 0)).drop (i + 1) := by
  subst hr
  have hm : i < (List.replicate xs.length (List.replicate k (0 : Int))).length := by rw [List.length_replicate]; exact hi
  rw [take_gr hi, List.set_append_right _ _ (by rw [List.length_take]; omega), List.length_take, Nat.min_eq_left (by omega), Nat.sub_self, drop_gr hm, List.set_cons_zero, List.append_assoc]; rfl

theorem SlPart : SlT Tryd.prog 100 27 (.agg #[.int .i64 0, .int .i64 0, .int .i64 0, .int .i64 0]) 4 32 := ⟨Tryd.underlying100, by kernel_rfl, rfl, by omega⟩
set_option maxHeartbeats 1000000 in
theorem toPart_any (d0 d1 d2 d3 : Int) (w : World) :
    Calls Tryd.prog 37 #[.agg #[.int .i64 d0, .int .i64 d1, .int .i64 d2, .int .i64 d3]] w fun e w' => e = .returned (.agg #[.int .i64 d0, .int .i64 d1, .int .i64 d2, .int .i64 d3]) ∧ Below w.heap.size w w' := by
  go_enter Tryd.func37, Tryd.ntmps37
  go_wp2
  exact bodyPost_ret (v := .agg #[.int .i64 d0, .int .i64 d1, .int .i64 d2, .int .i64 d3]) (by simp [results, Tryd.results37, go_sem]) rfl ⟨rfl, (((Below.refl _ _).alloc (Nat.le_refl _) _).alloc (by simp) _).alloc (by simp; omega) _⟩
theorem SlDefect : SlT Tryd.prog 97 104 (.agg #[.int .i64 0, .int .i64 0, .int .i64 0, .int .i64 0, .int .i64 0]) 5 40 := ⟨Tryd.underlying97, by kernel_rfl, rfl, by omega⟩
end Go.Proofs.YtlabekemifccaaaDoor

namespace Go.Proofs.YtlabekemifccaaaDoor
open Go.RowKit
attribute [local go_sem ↓] Go.wp_at_zero Go.wp_at_succ

theorem w64 {n : Int} (h : -9223372036854775808 ≤ n ∧ n ≤ 9223372036854775807) : wrap64 n = n := by unfold wrap64; omega
/-- 'validPart' of the reference, wraps and all -/
def spB (l r f t W L : Int) : Bool := inR 0 (wrap64 (W - 1)) l && inR (wrap64 (l + 1)) W r && inR 0 (wrap64 (L - 1)) f && inR (wrap64 (f + 1)) L t
theorem spB_ins {l r f t W L : Int} (h1 : 1 ≤ W) (h2 : W ≤ 60) (h3 : 1 ≤ L) (h4 : L ≤ 400) : spB l r f t W L = insB l r f t W L := by
  have w1 : wrap64 (W - 1) = W - 1 := w64 (by omega)
  have w2 : wrap64 (L - 1) = L - 1 := w64 (by omega)
  unfold spB
  rw [w1, w2]
  by_cases a : 0 ≤ l ∧ l ≤ W - 1
  · have w3 : wrap64 (l + 1) = l + 1 := w64 (by omega)
    rw [w3]
    by_cases b : 0 ≤ f ∧ f ≤ L - 1
    · have w4 : wrap64 (f + 1) = f + 1 := w64 (by omega)
      rw [w4, Bool.eq_iff_iff, insB_iff]
      unfold inR; simp; omega
    · rw [inR_no b]
      cases e : insB l r f t W L
      · simp
      · have := insB_true e; omega
  · rw [inR_no a]
    cases e : insB l r f t W L
    · simp
    · have := insB_true e; omega
set_option maxHeartbeats 1000000 in
theorem validPart_any (l r f t W L : Int) (A : Option Addr) (n c : Nat) (w : World) :
    Calls Tryd.prog 126 #[.agg #[.int .i64 W, .int .i64 L, .slice A n c], .agg #[.int .i64 l, .int .i64 r, .int .i64 f, .int .i64 t]] w fun e w' => e = .returned (.bool (spB l r f t W L)) ∧ Below w.heap.size w w' := by
  go_enter Tryd.func126, Tryd.ntmps126
  go_wp2_with (go_at_call 92; refine (inRange_any _ _ _ _).mono ?_; rintro e w' ⟨rfl, rfl⟩)
  all_goals go_ret
  all_goals exact ⟨ret_bool (by unfold spB; simp [*]), ((Below.refl _ _).alloc (Nat.le_refl _) _).alloc (by simp) _⟩
set_option maxHeartbeats 800000 in
theorem meets_any (l1 r1 f1 t1 g l2 r2 f2 t2 : Int) (w : World) :
    Calls Tryd.prog 129 #[.agg #[.int .i64 l1, .int .i64 r1, .int .i64 f1, .int .i64 t1, .int .i64 g], .agg #[.int .i64 l2, .int .i64 r2, .int .i64 f2, .int .i64 t2]] w fun e w' => e = .returned (.bool (meetB l1 r1 f1 t1 l2 r2 f2 t2)) ∧ Below w.heap.size w w' := by
  go_enter Tryd.func129, Tryd.ntmps129
  go_wp2
  all_goals go_ret
  all_goals exact ⟨ret_bool (by unfold meetB; simp [*] <;> omega), ((Below.refl _ _).alloc (Nat.le_refl _) _).alloc (by simp) _⟩
set_option maxHeartbeats 800000 in
theorem partsMeet_any (l1 r1 f1 t1 l2 r2 f2 t2 : Int) (w : World) :
    Calls Tryd.prog 127 #[.agg #[.int .i64 l1, .int .i64 r1, .int .i64 f1, .int .i64 t1], .agg #[.int .i64 l2, .int .i64 r2, .int .i64 f2, .int .i64 t2]] w fun e w' => e = .returned (.bool (meetB l1 r1 f1 t1 l2 r2 f2 t2)) ∧ Below w.heap.size w w' := by
  go_enter Tryd.func127, Tryd.ntmps127
  go_wp2
  all_goals go_ret
  all_goals exact ⟨ret_bool (by unfold meetB; simp [*] <;> omega), ((Below.refl _ _).alloc (Nat.le_refl _) _).alloc (by simp) _⟩
set_option maxHeartbeats 1000000 in
theorem validDefect_any (l r f t g W L : Int) (A : Option Addr) (n c : Nat) (w : World) :
    Calls Tryd.prog 139 #[.agg #[.int .i64 W, .int .i64 L, .slice A n c], .agg #[.int .i64 l, .int .i64 r, .int .i64 f, .int .i64 t, .int .i64 g]] w fun e w' => e = .returned (.bool (spB l r f t W L && inR 1 9 g)) ∧ Below w.heap.size w w' := by
  go_enter Tryd.func139, Tryd.ntmps139
  go_wp2_with (go_at_call 92; refine (inRange_any _ _ _ _).mono ?_; rintro e w' ⟨rfl, rfl⟩)
  all_goals go_ret
  all_goals exact ⟨ret_bool (by unfold spB; simp [*]), ((Below.refl _ _).alloc (Nat.le_refl _) _).alloc (by simp) _⟩
end Go.Proofs.YtlabekemifccaaaDoor

namespace Go.Proofs.YtlabekemifccaaaDoor
open Go.RowKit
attribute [local go_sem ↓] Go.wp_at_zero Go.wp_at_succ
end Go.Proofs.YtlabekemifccaaaDoor

namespace Go.Proofs.YtlabekemifccaaaDoor
open Go.RowKit
attribute [local go_sem ↓] Go.wp_at_zero Go.wp_at_succ

def mT (d p : List Int) : Bool := meetB (gi d 0) (gi d 1) (gi d 2) (gi d 3) (gi p 0) (gi p 1) (gi p 2) (gi p 3)
def worstL (ds : List (List Int)) (p : List Int) : Int := ds.foldl (fun m d => if mT d p = true then max m (gi d 4) else m) 0
theorem worst_succ {ds : List (List Int)} {p : List Int} {k : Nat} (h : k < ds.length) : worstL (ds.take (k + 1)) p = if mT (gr ds k) p = true then max (worstL (ds.take k) p) (gi (gr ds k) 4) else worstL (ds.take k) p := by
  unfold worstL; rw [take_gr h, List.foldl_append]; rfl
set_option maxRecDepth 100000 in
set_option maxHeartbeats 1000000 in
theorem worst_any (lo hi : Nat) (W L : Int) (v : Value) (ds : List (List Int)) (l r f t : Int) (w : World) (h : TS w lo hi 5 v ds) (hhi : hi ≤ w.heap.size) :
    Calls Tryd.prog 112 #[.agg #[.int .i64 W, .int .i64 L, v], .agg #[.int .i64 l, .int .i64 r, .int .i64 f, .int .i64 t]] w fun e w' => e = .returned (.int .i64 (worstL ds [l, r, f, t])) ∧ Below w.heap.size w w' := by
  obtain ⟨A, c, rfl, hc, hm⟩ := h.form
  have Hs := Lib.hid (show ∃ w1, w1 = (w.alloc (.cells #[.int .i64 W, .int .i64 L, .slice A ds.length c] 99)).alloc (.cells #[.int .i64 l, .int .i64 r, .int .i64 f, .int .i64 t] 27) ∧ Below w.heap.size w w1 ∧ w1.cell? ⟨w.heap.size, 2, none⟩ = some (.slice A ds.length c) ∧ w1.cell? ⟨w.heap.size + 1, 0, none⟩ = some (.int .i64 l) ∧ w1.cell? ⟨w.heap.size + 1, 1, none⟩ = some (.int .i64 r) ∧ w1.cell? ⟨w.heap.size + 1, 2, none⟩ = some (.int .i64 f) ∧ w1.cell? ⟨w.heap.size + 1, 3, none⟩ = some (.int .i64 t) ∧ TS w1 lo hi 5 (.slice A ds.length c) ds ∧ w.heap.size + 1 < w1.heap.size from by
    have hb : Below w.heap.size w ((w.alloc (.cells #[.int .i64 W, .int .i64 L, .slice A ds.length c] 99)).alloc (.cells #[.int .i64 l, .int .i64 r, .int .i64 f, .int .i64 t] 27)) := ((Below.refl _ _).alloc (Nat.le_refl _) _).alloc (by simp) _
    refine ⟨_, rfl, hb, by go_simp, by go_simp, by go_simp, by go_simp, by go_simp, h.below hb hhi, by simp⟩)
  go_enter Tryd.func112, Tryd.ntmps112
  go_wp2
  obtain ⟨w1, hw1, hb0, c0, p0, p1, p2, p3, h0, hz⟩ := Hs.out
  rw [← hw1]
  clear hw1 Hs h
  go_loopw [5, 6] (fun m i wr => ∃ k : Nat, k ≤ ds.length ∧ i = .int .i64 k ∧ m = .int .i64 (worstL (ds.take k) [l, r, f, t]) ∧ Below w1.heap.size w1 wr) (fun _ i _ => ds.length - (intOf i).toNat)
  case atStart => exact ⟨0, by omega, rfl, rfl, Below.refl _ _⟩
  case round =>
    obtain ⟨k, hk, rfl, rfl, bw⟩ := hrel
    have c0r := keepB bw c0
    have hzr := bw.size
    by_cases hlt : k < ds.length
    · have q0 := keepB bw p0
      have q1 := keepB bw p1
      have q2 := keepB bw p2
      have q3 := keepB bw p3
      obtain ⟨b, o, rfl, hb2, hb3, e0, e1, e2, e3, e4⟩ := (h0.below bw (by omega)).c5 hlt
      have Hst := Lib.hid (show worstL (ds.take (k + 1)) [l, r, f, t] = if meetB (gi (gr ds k) 0) (gi (gr ds k) 1) (gi (gr ds k) 2) (gi (gr ds k) 3) l r f t = true then _ else _ from worst_succ (p := [l, r, f, t]) hlt)
      have hk0 : (0 : Int) ≤ (k : Int) := by omega
      have hk1 : (k : Int) < (ds.length : Int) := by omega
      have h0a : ∀ x ∈ ds, ∀ y ∈ x, I64 y := fun x hx => (h0.all x hx).2
      clear h0 c0 p0 p1 p2 p3
      go_wp2
      go_region_held3 (fun w' => w'.cell? ⟨w.heap.size, 2, none⟩ = some (.slice (some ⟨b, o, none⟩) ds.length c) ∧ w'.cell? ⟨w.heap.size + 1, 0, none⟩ = some (.int .i64 l) ∧ w'.cell? ⟨w.heap.size + 1, 1, none⟩ = some (.int .i64 r) ∧ w'.cell? ⟨w.heap.size + 1, 2, none⟩ = some (.int .i64 f) ∧ w'.cell? ⟨w.heap.size + 1, 3, none⟩ = some (.int .i64 t) ∧ w'.cell? ⟨b, o + k * 5, none⟩ = some (.int .i64 (gi (gr ds k) 0)) ∧ w'.cell? ⟨b, o + k * 5 + 1, none⟩ = some (.int .i64 (gi (gr ds k) 1)) ∧ w'.cell? ⟨b, o + k * 5 + 2, none⟩ = some (.int .i64 (gi (gr ds k) 2)) ∧ w'.cell? ⟨b, o + k * 5 + 3, none⟩ = some (.int .i64 (gi (gr ds k) 3)) ∧ w'.cell? ⟨b, o + k * 5 + 4, none⟩ = some (.int .i64 (gi (gr ds k) 4))) (first | go_keep | (go_split_ands; refine ⟨?_, ?_, ?_, ?_, ?_, ?_, ?_, ?_, ?_, ?_⟩ <;> exact keepB bx1 (by assumption))) (first | (go_at_call 129; refine (meets_any _ _ _ _ _ _ _ _ _ _).mono ?_; rintro e x1 ⟨rfl, bx1⟩))
      have bx2 := of_drew bx1
      obtain ⟨g2, _, _, _, _, _, _, _, _, g4⟩ := ‹x1.cell? ⟨w.heap.size, 2, none⟩ = _ ∧ _›
      have i4 := gi_i64 (h0a _ (gr_mem hlt)) 4
      go_wp2
      all_goals
        go_roundw
        case rel => exact ⟨k + 1, by omega, by go_num, congrArg (Value.int .i64) (by rw [Hst.out]; split <;> first | omega | (simp_all; done)), bw.trans (bx2.mono (by omega))⟩
        case measure => simp [intOf]; omega
    · have He := Lib.hid (show k = ds.length by omega)
      go_wp2
      go_ret
      exact ⟨ret_int (by rw [He.out, List.take_length]), hb0.trans (bw.mono (by omega))⟩
end Go.Proofs.YtlabekemifccaaaDoor

namespace Go.Proofs.YtlabekemifccaaaDoor
open Go.RowKit
attribute [local go_sem ↓] Go.wp_at_zero Go.wp_at_succ

def pv (p : List Int) (W L : Int) : Bool := insB (gi p 0) (gi p 1) (gi p 2) (gi p 3) W L
end Go.Proofs.YtlabekemifccaaaDoor

namespace Go.Proofs.YtlabekemifccaaaDoor
open Go.RowKit
attribute [local go_sem ↓] Go.wp_at_zero Go.wp_at_succ

def noMeet (ps : List (List Int)) (p : List Int) (m : Nat) : Bool := (ps.take m).all fun q => !mT p q
def cutOk (W L : Int) (ps : List (List Int)) (j : Nat) : Bool := pv (gr ps j) W L && noMeet ps (gr ps j) j
def vCuts (W L : Int) (ds ps : List (List Int)) : Bool := vReel W L ds && decide (ps.length ≤ 60) && (List.range ps.length).all (cutOk W L ps)
theorem vCuts_iff {W L : Int} {ds ps : List (List Int)} : vCuts W L ds ps = true ↔ vReel W L ds = true ∧ ps.length ≤ 60 ∧ ∀ j, j < ps.length → cutOk W L ps j = true := by
  unfold vCuts
  simp only [Bool.and_eq_true, decide_eq_true_eq, List.all_eq_true, List.mem_range, and_assoc]
theorem noMeet_iff {ps : List (List Int)} {p : List Int} {m : Nat} (hm : m ≤ ps.length) : noMeet ps p m = true ↔ ∀ i, i < m → mT p (gr ps i) = false := by
  unfold noMeet
  rw [List.all_eq_true]
  constructor
  · intro h i hi
    have := h (gr ps i) (by rw [gr_eq (by omega), List.mem_take_iff_getElem]; exact ⟨i, by omega, rfl⟩)
    simpa using this
  · intro h q hq
    obtain ⟨i, hi, rfl⟩ := List.mem_take_iff_getElem.1 hq
    have := h i (by omega)
    rw [gr_eq (by omega)] at this
    simp [this]
theorem vCuts_no {W L : Int} {ds ps : List (List Int)} {j : Nat} (hj : j < ps.length) (h : vReel W L ds = true → cutOk W L ps j = false) : vCuts W L ds ps = false := by
  cases hv : vCuts W L ds ps
  · rfl
  · obtain ⟨a, _, c⟩ := vCuts_iff.1 hv
    have := c j hj; rw [h a] at this; cases this
theorem cut_meet {W L : Int} {ps : List (List Int)} {j i : Nat} (hj : j < ps.length) (hi : i < j) (h : mT (gr ps j) (gr ps i) = true) : cutOk W L ps j = false := by
  cases hv : cutOk W L ps j
  · rfl
  · unfold cutOk at hv
    rw [Bool.and_eq_true] at hv
    have := (noMeet_iff (by omega)).1 hv.2 i hi
    rw [h] at this; cases this
theorem cut_part {W L : Int} {ps : List (List Int)} {j : Nat} (h : pv (gr ps j) W L = false) : cutOk W L ps j = false := by unfold cutOk; rw [h]; rfl
theorem vReel_rng {W L : Int} {ds : List (List Int)} (h : vReel W L ds = true) : 1 ≤ W ∧ W ≤ 60 ∧ 1 ≤ L ∧ L ≤ 400 := by have := vReel_iff.1 h; omega

set_option maxRecDepth 100000 in
set_option maxHeartbeats 1000000 in
theorem validReel_any (lo hi : Nat) (W L : Int) (v : Value) (ds : List (List Int)) (w : World) (h : TS w lo hi 5 v ds) (hhi : hi ≤ w.heap.size) :
    Calls Tryd.prog 128 #[.agg #[.int .i64 W, .int .i64 L, v]] w fun e w' => e = .returned (.bool (vReel W L ds)) ∧ Below w.heap.size w w' := by
  obtain ⟨A, c, rfl, hc, hm⟩ := h.form
  have Hs := Lib.hid (show ∃ w1, w1 = (w.alloc (.cells #[.int .i64 W, .int .i64 L, .slice A ds.length c] 99)) ∧ Below w.heap.size w w1 ∧ w1.cell? ⟨w.heap.size, 0, none⟩ = some (.int .i64 W) ∧ w1.cell? ⟨w.heap.size, 1, none⟩ = some (.int .i64 L) ∧ w1.cell? ⟨w.heap.size, 2, none⟩ = some (.slice A ds.length c) ∧ TS w1 lo hi 5 (.slice A ds.length c) ds ∧ w.heap.size < w1.heap.size from by
    have hb : Below w.heap.size w (w.alloc (.cells #[.int .i64 W, .int .i64 L, .slice A ds.length c] 99)) := (Below.refl _ _).alloc (Nat.le_refl _) _
    exact ⟨_, rfl, hb, by go_simp, by go_simp, by go_simp, h.below hb hhi, by simp⟩)
  have hds : (0 : Int) ≤ ds.length := by omega
  by_cases hb : 1 ≤ W ∧ W ≤ 60 ∧ 1 ≤ L ∧ L ≤ 400 ∧ ds.length ≤ 16
  · have Hb := Lib.hid hb
    obtain ⟨b1, b2, b3, b4, b5⟩ := hb
    have r1 : inR 1 60 W = true := inR_mk ⟨b1, b2⟩
    have r2 : inR 1 400 L = true := inR_mk ⟨b3, b4⟩
    go_enter Tryd.func128, Tryd.ntmps128
    go_wp2_with (go_at_call 92; refine (inRange_any _ _ _ _).mono ?_; rintro e w' ⟨rfl, rfl⟩)
    obtain ⟨w1, hw1, hb0, c00, c01, c02, hT0, hz⟩ := Hs.out
    rw [← hw1]
    clear hw1 Hs
    go_loopw [3] (fun i wr => ∃ k : Nat, k ≤ ds.length ∧ i = .int .i64 k ∧ Below w1.heap.size w1 wr ∧ Hid (∀ j, j < k → dOk W L (gr ds j) = true)) (fun i _ => ds.length - (intOf i).toNat)
    case atStart => exact ⟨0, by omega, rfl, Below.refl _ _, fun j hj => absurd hj (by omega)⟩
    case round =>
      obtain ⟨k, hk, rfl, bw, HD⟩ := hrel
      have hzr := bw.size
      replace c00 := keepB bw c00; replace c01 := keepB bw c01; replace c02 := keepB bw c02
      by_cases hlt : k < ds.length
      · obtain ⟨b, o, rfl, hb2, hb3, e0, e1, e2, e3, e4⟩ := (hT0.below bw (by omega)).c5 hlt
        have hk0 : (0 : Int) ≤ (k : Int) := by omega
        have hk1 : (k : Int) < (ds.length : Int) := by omega
        have HO : Hid ((spB (gi (gr ds k) 0) (gi (gr ds k) 1) (gi (gr ds k) 2) (gi (gr ds k) 3) W L && inR 1 9 (gi (gr ds k) 4)) = dOk W L (gr ds k)) := by
          rw [spB_ins b1 b2 b3 b4]; rfl
        clear r1 r2 hT0 h
        go_wp2
        go_region_held3 (fun w' => w'.cell? ⟨w.heap.size, 0, none⟩ = some (.int .i64 W) ∧ w'.cell? ⟨w.heap.size, 1, none⟩ = some (.int .i64 L) ∧ w'.cell? ⟨w.heap.size, 2, none⟩ = some (.slice (some ⟨b, o, none⟩) ds.length c) ∧ w'.cell? ⟨b, o + k * 5, none⟩ = some (.int .i64 (gi (gr ds k) 0)) ∧ w'.cell? ⟨b, o + k * 5 + 1, none⟩ = some (.int .i64 (gi (gr ds k) 1)) ∧ w'.cell? ⟨b, o + k * 5 + 2, none⟩ = some (.int .i64 (gi (gr ds k) 2)) ∧ w'.cell? ⟨b, o + k * 5 + 3, none⟩ = some (.int .i64 (gi (gr ds k) 3)) ∧ w'.cell? ⟨b, o + k * 5 + 4, none⟩ = some (.int .i64 (gi (gr ds k) 4))) (first | go_keep | (go_split_ands; refine ⟨?_, ?_, ?_, ?_, ?_, ?_, ?_, ?_⟩ <;> first | exact keepB bx5 (by assumption) | exact keepB bx4 (by assumption) | exact keepB bx3 (by assumption) | exact keepB bx2 (by assumption) | exact keepB bx1 (by assumption))) (first | (go_at_call 139; refine (validDefect_any _ _ _ _ _ _ _ _ _ _ _).mono ?_; rw [HO.out]; rintro e x1 ⟨rfl, bx1⟩))
        have hbw := bw.trans ((of_drew bx1).mono hzr)
        have bx2 := of_drew bx1
        replace c00 := keepB bx2 c00; replace c01 := keepB bx2 c01; replace c02 := keepB bx2 c02
        cases hd : dOk W L (gr ds k)
        · have Hno := Lib.hid (vReel_no (W := W) (L := L) hlt hd)
          clear e0 e1 e2 e3 e4 HO
          go_wp2
          go_ret
          exact ⟨ret_bool Hno.out.symm, hb0.trans (hbw.mono (by omega))⟩
        · have Hd := Lib.hid hd
          clear e0 e1 e2 e3 e4 HO
          go_wp2
          go_roundw
          case rel =>
            refine ⟨k + 1, by omega, by go_num, hbw, fun j hj => ?_⟩
            rcases Nat.lt_or_ge j k with h' | h'
            · exact HD.out j h'
            · obtain rfl : j = k := by omega
              exact Hd.out
          case measure => simp [intOf]; omega
      · have Hv := Lib.hid (show vReel W L ds = true from vReel_iff.2 ⟨b1, b2, b3, b4, b5, fun d hd => by
          obtain ⟨j, hj, e⟩ := List.getElem_of_mem hd
          rw [← e, ← gr_eq hj]; exact HD.out j (by omega)⟩)
        go_wp2
        go_ret
        exact ⟨ret_bool Hv.out.symm, hb0.trans (bw.mono (by omega))⟩
  · have Hv := Lib.hid (vReel_false hb)
    have HB := Lib.hid hb
    clear hb
    by_cases b1 : inR 1 60 W = true
    · by_cases b2 : inR 1 400 L = true
      · have b5 : (16 : Int) < (ds.length : Int) := by have := HB.out; have := inR_true b1; have := inR_true b2; omega
        go_enter Tryd.func128, Tryd.ntmps128
        go_wp2_with (go_at_call 92; refine (inRange_any _ _ _ _).mono ?_; rintro e w' ⟨rfl, rfl⟩)
        go_ret
        exact ⟨ret_bool Hv.out.symm, ((Below.refl _ _).alloc (Nat.le_refl _) _)⟩
      · rw [Bool.not_eq_true] at b2
        go_enter Tryd.func128, Tryd.ntmps128
        go_wp2_with (go_at_call 92; refine (inRange_any _ _ _ _).mono ?_; rintro e w' ⟨rfl, rfl⟩)
        go_ret
        exact ⟨ret_bool Hv.out.symm, ((Below.refl _ _).alloc (Nat.le_refl _) _)⟩
    · rw [Bool.not_eq_true] at b1
      go_enter Tryd.func128, Tryd.ntmps128
      go_wp2_with (go_at_call 92; refine (inRange_any _ _ _ _).mono ?_; rintro e w' ⟨rfl, rfl⟩)
      go_ret
      exact ⟨ret_bool Hv.out.symm, ((Below.refl _ _).alloc (Nat.le_refl _) _)⟩
end Go.Proofs.YtlabekemifccaaaDoor

namespace Go.Proofs.YtlabekemifccaaaDoor
open Go.RowKit
attribute [local go_sem ↓] Go.wp_at_zero Go.wp_at_succ

theorem spB_pv {W L : Int} {ds ps : List (List Int)} {k : Nat} (h : vReel W L ds = true) : spB (gi (gr ps k) 0) (gi (gr ps k) 1) (gi (gr ps k) 2) (gi (gr ps k) 3) W L = pv (gr ps k) W L := by
  obtain ⟨a, b, c, d⟩ := vReel_rng h
  rw [spB_ins a b c d]; rfl
set_option maxRecDepth 100000 in
set_option maxHeartbeats 1600000 in
theorem validCuts_any (lo hi l2 h2 : Nat) (W L : Int) (v u : Value) (ds ps : List (List Int)) (w : World) (h : TS w lo hi 5 v ds) (hhi : hi ≤ w.heap.size) (hp : TS w l2 h2 4 u ps) (hh2 : h2 ≤ w.heap.size) :
    Calls Tryd.prog 110 #[.agg #[.int .i64 W, .int .i64 L, v], u] w fun e w' => e = .returned (.bool (vCuts W L ds ps)) ∧ Below w.heap.size w w' := by
  obtain ⟨A, c, rfl, hc, hm⟩ := h.form
  obtain ⟨B, c2, rfl, hc2, hm2⟩ := hp.form
  have Hs := Lib.hid (show ∃ w1, w1 = (w.alloc (.cells #[.int .i64 W, .int .i64 L, .slice A ds.length c] 99)) ∧ Below w.heap.size w w1 ∧ w1.cell? ⟨w.heap.size, 0, none⟩ = some (.int .i64 W) ∧ w1.cell? ⟨w.heap.size, 1, none⟩ = some (.int .i64 L) ∧ w1.cell? ⟨w.heap.size, 2, none⟩ = some (.slice A ds.length c) ∧ TS w1 lo hi 5 (.slice A ds.length c) ds ∧ TS w1 l2 h2 4 (.slice B ps.length c2) ps ∧ w.heap.size < w1.heap.size from by
    have hb : Below w.heap.size w (w.alloc (.cells #[.int .i64 W, .int .i64 L, .slice A ds.length c] 99)) := (Below.refl _ _).alloc (Nat.le_refl _) _
    exact ⟨_, rfl, hb, by go_simp, by go_simp, by go_simp, h.below hb hhi, hp.below hb hh2, by simp⟩)
  go_enter Tryd.func110, Tryd.ntmps110
  go_wp2_with (fail)
  obtain ⟨w1, hw1, hb0, c00, c01, c02, hT0, hT1, hz⟩ := Hs.out
  rw [← hw1]
  clear hw1 Hs
  go_loopw [5] (fun i wr => ∃ k : Nat, k ≤ ps.length ∧ i = .int .i64 k ∧ Below w1.heap.size w1 wr ∧ Hid (vReel W L ds = true → ∀ j, j < k → cutOk W L ps j = true)) (fun i _ => ps.length - (intOf i).toNat)
  case atStart => exact ⟨0, by omega, rfl, Below.refl _ _, fun _ j hj => absurd hj (by omega)⟩
  case round =>
    obtain ⟨k, hk, rfl, bw, HD⟩ := hrel
    have hzr := bw.size
    replace c00 := keepB bw c00; replace c01 := keepB bw c01; replace c02 := keepB bw c02
    by_cases hlt : k < ps.length
    · have hPr := hT1.below bw (by omega)
      obtain ⟨b, o, rfl, hb2, hb3, e0, e1, e2, e3⟩ := hPr.c4 hlt
      have hk0 : (0 : Int) ≤ (k : Int) := by omega
      have hk1 : (k : Int) < (ps.length : Int) := by omega
      have HP := Lib.hid hPr
      clear hT0 h hp hT1 hPr
      go_wp2
      go_region_held3 (fun w' => w'.cell? ⟨w.heap.size, 0, none⟩ = some (.int .i64 W) ∧ w'.cell? ⟨w.heap.size, 1, none⟩ = some (.int .i64 L) ∧ w'.cell? ⟨w.heap.size, 2, none⟩ = some (.slice A ds.length c) ∧ w'.cell? ⟨b, o + k * 4, none⟩ = some (.int .i64 (gi (gr ps k) 0)) ∧ w'.cell? ⟨b, o + k * 4 + 1, none⟩ = some (.int .i64 (gi (gr ps k) 1)) ∧ w'.cell? ⟨b, o + k * 4 + 2, none⟩ = some (.int .i64 (gi (gr ps k) 2)) ∧ w'.cell? ⟨b, o + k * 4 + 3, none⟩ = some (.int .i64 (gi (gr ps k) 3))) (first | go_keep | (go_split_ands; refine ⟨?_, ?_, ?_, ?_, ?_, ?_, ?_⟩ <;> first | exact keepB bx5 (by assumption) | exact keepB bx4 (by assumption) | exact keepB bx3 (by assumption) | exact keepB bx2 (by assumption) | exact keepB bx1 (by assumption))) (first | (go_at_call 126; refine (validPart_any _ _ _ _ _ _ _ _ _ _).mono ?_; rintro e x1 ⟨rfl, bx1⟩))
      have bx2 := of_drew bx1
      have hbw := bw.trans (bx2.mono hzr)
      have HP1 := Lib.hid (HP.out.below bx2 (by omega))
      replace c00 := keepB bx2 c00; replace c01 := keepB bx2 c01; replace c02 := keepB bx2 c02
      have hz1 := bx2.size
      cases hd : spB (gi (gr ps k) 0) (gi (gr ps k) 1) (gi (gr ps k) 2) (gi (gr ps k) 3) W L
      · have Hno := Lib.hid (vCuts_no (W := W) (L := L) (ds := ds) hlt fun hr => cut_part (by rw [← spB_pv hr]; exact hd))
        clear e0 e1 e2 e3 HP HP1 bx1
        go_wp2
        go_ret
        exact ⟨ret_bool Hno.out.symm, hb0.trans (hbw.mono (by omega))⟩
      · have Hd := Lib.hid (show vReel W L ds = true → pv (gr ps k) W L = true from fun hr => by rw [← spB_pv hr]; exact hd)
        clear e0 e1 e2 e3 HP bx1 hd
        simp only [Bool.not_true]
        go_wp2
        go_loopw [6] (fun i wx => ∃ m : Nat, m ≤ k ∧ i = .int .i64 m ∧ Below x1.heap.size x1 wx ∧ Hid (∀ i, i < m → mT (gr ps k) (gr ps i) = false)) (fun i _ => k - (intOf i).toNat)
        case atStart => exact ⟨0, by omega, rfl, Below.refl _ _, fun j hj => absurd hj (by omega)⟩
        case round =>
          obtain ⟨m, hmk, rfl, bx, HM⟩ := hrel
          have hzx := bx.size
          replace c00 := keepB bx c00; replace c01 := keepB bx c01; replace c02 := keepB bx c02
          by_cases hlt2 : m < k
          · have hPx := HP1.out.below bx (by omega)
            obtain ⟨f0, f1, f2, f3⟩ := hPx.c4' hlt
            obtain ⟨g0, g1, g2, g3⟩ := hPx.c4' (i := m) (by omega)
            have hm0 : (0 : Int) ≤ (m : Int) := by omega
            have hm1 : (m : Int) < (ps.length : Int) := by omega
            clear hPx
            go_wp2
            go_region_held3 (fun w' => w'.cell? ⟨b, o + k * 4, none⟩ = some (.int .i64 (gi (gr ps k) 0)) ∧ w'.cell? ⟨b, o + k * 4 + 1, none⟩ = some (.int .i64 (gi (gr ps k) 1)) ∧ w'.cell? ⟨b, o + k * 4 + 2, none⟩ = some (.int .i64 (gi (gr ps k) 2)) ∧ w'.cell? ⟨b, o + k * 4 + 3, none⟩ = some (.int .i64 (gi (gr ps k) 3)) ∧ w'.cell? ⟨b, o + m * 4, none⟩ = some (.int .i64 (gi (gr ps m) 0)) ∧ w'.cell? ⟨b, o + m * 4 + 1, none⟩ = some (.int .i64 (gi (gr ps m) 1)) ∧ w'.cell? ⟨b, o + m * 4 + 2, none⟩ = some (.int .i64 (gi (gr ps m) 2)) ∧ w'.cell? ⟨b, o + m * 4 + 3, none⟩ = some (.int .i64 (gi (gr ps m) 3))) (first | go_keep | (go_split_ands; refine ⟨?_, ?_, ?_, ?_, ?_, ?_, ?_, ?_⟩ <;> first | exact keepB bx5 (by assumption) | exact keepB bx4 (by assumption) | exact keepB bx3 (by assumption) | exact keepB bx2 (by assumption) | exact keepB bx1 (by assumption))) (first | (go_at_call 127; refine (partsMeet_any _ _ _ _ _ _ _ _ _).mono ?_; rintro e x2 ⟨rfl, bx1⟩))
            have bx3 := of_drew bx1
            have hby := bx.trans (bx3.mono hzx)
            replace c00 := keepB bx3 c00; replace c01 := keepB bx3 c01; replace c02 := keepB bx3 c02
            cases hd : meetB (gi (gr ps k) 0) (gi (gr ps k) 1) (gi (gr ps k) 2) (gi (gr ps k) 3) (gi (gr ps m) 0) (gi (gr ps m) 1) (gi (gr ps m) 2) (gi (gr ps m) 3)
            · have HM2 := Lib.hid (show mT (gr ps k) (gr ps m) = false from hd)
              clear f0 f1 f2 f3 g0 g1 g2 g3
              go_wp2
              go_roundw
              case rel =>
                refine ⟨m + 1, by omega, by go_num, hby, fun j hj => ?_⟩
                rcases Nat.lt_or_ge j m with h' | h'
                · exact HM.out j h'
                · obtain rfl : j = m := by omega
                  exact HM2.out
              case measure => simp [intOf]; omega
            · have Hno := Lib.hid (vCuts_no (W := W) (L := L) (ds := ds) hlt fun _ => cut_meet hlt hlt2 hd)
              clear f0 f1 f2 f3 g0 g1 g2 g3
              go_wp2
              go_ret
              exact ⟨ret_bool Hno.out.symm, hb0.trans ((hbw.trans (hby.mono (by omega))).mono (by omega))⟩
          · have He := Lib.hid (show m = k by omega)
            go_wp2
            go_roundw
            case rel =>
              refine ⟨k + 1, by omega, by go_num, hbw.trans (bx.mono (by omega)), fun hr j hj => ?_⟩
              rcases Nat.lt_or_ge j k with h' | h'
              · exact HD.out hr j h'
              · obtain rfl : j = k := by omega
                unfold cutOk
                rw [Hd.out hr, (noMeet_iff (Nat.le_of_lt hlt)).2 fun i hi => HM.out i (by rw [He.out]; exact hi)]; rfl
            case measure => simp [intOf]; omega
    · have hTr := hT0.below bw (by omega)
      have HR : Hid (vCuts W L ds ps = (vReel W L ds && decide (ps.length ≤ 60))) := by
        rw [Bool.eq_iff_iff, vCuts_iff, Bool.and_eq_true, decide_eq_true_eq]
        exact ⟨fun ⟨a, b, _⟩ => ⟨a, b⟩, fun ⟨a, b⟩ => ⟨a, b, fun j hj => HD.out a j (by omega)⟩⟩
      go_wp2_with (go_at_call 128; refine (validReel_any lo hi W L _ ds _ hTr (by omega)).mono ?_; rintro e x1 ⟨rfl, bx1⟩)
      all_goals go_ret
      all_goals exact ⟨ret_bool (by rw [HR.out]; simp [*] <;> omega), hb0.trans ((bw.trans (bx1.mono (by omega))).mono (by omega))⟩
end Go.Proofs.YtlabekemifccaaaDoor

namespace Go.Proofs.YtlabekemifccaaaDoor
open Go.RowKit
attribute [local go_sem ↓] Go.wp_at_zero Go.wp_at_succ

end Go.Proofs.YtlabekemifccaaaDoor

namespace Go.Proofs.YtlabekemifccaaaDoor
open Go.RowKit
attribute [local go_sem ↓] Go.wp_at_zero Go.wp_at_succ

theorem keepC {B : Nat} {W w1 : World} {a : Addr} {v : Value} (hb : Below B W w1) (ha : a.block < B) (h : W.cell? a = some v) : w1.cell? a = some v := (hb.cell ha).trans h
end Go.Proofs.YtlabekemifccaaaDoor

namespace Go.Proofs.YtlabekemifccaaaDoor
open Go.RowKit
attribute [local go_sem ↓] Go.wp_at_zero Go.wp_at_succ

theorem keepF {B : Nat} {W w1 : World} {a : Addr} (hb : Below B W w1) (ha : a.block < B) (h : W.frozen? a = false) : w1.frozen? a = false := (hb.frozen ha).trans h
theorem OwnI.apart {w w' : World} {base e : Nat} {u v : Value} {xs : List Int} (h : OwnI w base e v xs) (hk : ∀ b, b < w.heap.size → some b ≠ u.ownBlock → w'.heap[b]? = w.heap[b]?) (hne : ∀ g, v.ownBlock = some g → u.ownBlock = some g → False) : OwnI w' base e v xs :=
  h.keptBlock fun g hg => hk g (h.lt g hg).2 fun e => hne g hg e.symm
theorem OwnT.apart {w w' : World} {base e k : Nat} {u v : Value} {xs : List (List Int)} (h : OwnT w base e k v xs) (hk : ∀ b, b < w.heap.size → some b ≠ u.ownBlock → w'.heap[b]? = w.heap[b]?) (hne : ∀ g, v.ownBlock = some g → u.ownBlock = some g → False) : OwnT w' base e k v xs :=
  h.keptBlock fun g hg => hk g (h.lt g hg).2 fun e => hne g hg e.symm
theorem OwnT.setBelow {w : World} {base e k : Nat} {v : Value} {xs : List (List Int)} (h : OwnT w base e k v xs) {p : Addr} (hp : p.block < base) (u : Value) : OwnT (w.setCell p u) base e k v xs :=
  h.keptBlock fun g hg => by
    have := (h.lt g hg).1
    simp only [World.setCell, Array.getElem?_modify, if_neg (show ¬ p.block = g by omega)]
end Go.Proofs.YtlabekemifccaaaDoor
