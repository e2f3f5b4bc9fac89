/-
  Lemmas and contracts of single functions of this program, used by the proofs of its laws: what each call returns and what becomes of memory. Conditions: the hypotheses of each theorem.
-/
import Derived.Test.YtkgepklapglmdaaGreatDoorRdr
import Derived.Test.YtkgepklapglmdaaGreatDoorRegLast
import Derived.Test.YtkgepklapglmdaaGreatDoorMReel
import Derived.Test.YtkgepklapglmdaaGreatDoorLitI
import Derived.Deep.AppendLies
import Derived.Maps.AppendAt
namespace Go.Proofs.YtkgepklapglmdaaGreatDoor
open Go.RowKit
attribute [local go_sem ↓] Go.wp_at_zero Go.wp_at_succ

theorem grown_trans {a b c : World} {row : Option Nat} (h : a.grownBy b row) (k : b.grownBy c row) : a.grownBy c row :=
  ⟨k.os.trans h.os, k.tape.trans h.tape, k.output.trans h.output, Nat.le_trans h.size k.size, fun i hi hn => (k.block i (Nat.lt_of_lt_of_le hi h.size) hn).trans (h.block i hi hn)⟩
theorem grown_only {a b : World} {g : Nat} (h : Only g (g + 1) a b) : a.grownBy b (some g) :=
  ⟨h.os, h.tape, h.output, by rw [h.size]; exact Nat.le_refl _, fun k _ hn => h.block k (by have : k ≠ g := fun e => hn (by rw [e]); omega)⟩
theorem grown_below {a b : World} (h : Below a.heap.size a b) (row : Option Nat) : a.grownBy b row :=
  ⟨h.os, h.tape, h.output, h.size, fun k hk _ => h.block k hk⟩
theorem Kept.of_grown {a b : World} {g lo hi : Nat} (h : a.grownBy b (some g)) (hh : hi ≤ a.heap.size) (hg : g < lo ∨ hi ≤ g) : Kept lo hi a b :=
  fun k h1 h2 => h.block k (by omega) (fun e => by injection e with e; omega)
theorem below_of_grown {a b : World} {g B : Nat} (h : a.grownBy b (some g)) (hB : B ≤ g) (hs : B ≤ a.heap.size) : Below B a b :=
  ⟨h.os, h.tape, h.output, h.size, fun k hk => h.block k (by omega) (fun e => by injection e with e; omega)⟩
theorem grown_setCell {a w : World} {g : Nat} (h : a.grownBy w (some g)) {p : Addr} (hp : a.heap.size ≤ p.block) (u : Value) : a.grownBy (w.setCell p u) (some g) :=
  ⟨h.os, h.tape, h.output, by simp only [World.setCell, Array.size_modify]; exact h.size, fun i hi hne => (Below.heap_setCell w p u i (by omega)).trans (h.block i hi hne)⟩
theorem keepO {g : Nat} {W w1 : World} {a : Addr} {v : Value} (h : Only g (g + 1) W w1) (hne : ¬ a.block = g) (hc : W.cell? a = some v) : w1.cell? a = some v :=
  (World.cell?_of_block (h.block a.block (by omega))).trans hc
theorem keepOF {g : Nat} {W w1 : World} {a : Addr} (h : Only g (g + 1) W w1) (hne : ¬ a.block = g) (hc : W.frozen? a = false) : w1.frozen? a = false :=
  (World.frozen?_of_block (h.block a.block (by omega))).trans hc
theorem keepW {g : Nat} {W w1 : World} {a : Addr} {v : Value} (h : W.grownBy w1 (some g)) (hne : a.block < W.heap.size ∧ ¬ a.block = g) (hc : W.cell? a = some v) : w1.cell? a = some v :=
  (World.cell?_of_block (h.block a.block hne.1 fun e => by injection e with e; exact hne.2 e)).trans hc
theorem keepWF {g : Nat} {W w1 : World} {a : Addr} (h : W.grownBy w1 (some g)) (hne : a.block < W.heap.size ∧ ¬ a.block = g) (hc : W.frozen? a = false) : w1.frozen? a = false :=
  (World.frozen?_of_block (h.block a.block hne.1 fun e => by injection e with e; exact hne.2 e)).trans hc
theorem Rdr.drew {w : World} {B k g : Nat} {v : Value} (h : Rdr w B k g v) : Rdr w.drew B k g v := h.kept rfl fun _ _ _ => rfl
theorem Rdr.set {w : World} {B k g : Nat} {v : Value} (h : Rdr w B k g v) {p : Addr} (hp : B ≤ p.block ∧ ¬ p.block = g) (u : Value) : Rdr (w.setCell p u) B k g v :=
  h.kept (Below.heap_setCell _ _ _ _ (by omega)) fun j _ hj => Below.heap_setCell _ _ _ _ (by omega)
theorem only_drew {lo hi : Nat} {w x : World} (h : Only lo hi w.drew x) : Only lo hi w x := ⟨h.os, h.tape, h.output, h.size, h.block⟩
theorem PickOk.rng {n r m : Int} (h : PickOk n r) (hn : n ≤ m) (hm : 1 ≤ m) : 0 ≤ r ∧ r < m := by
  unfold PickOk at h; omega
set_option maxRecDepth 100000 in
set_option maxHeartbeats 4000000 in
theorem somePart_any (B k g : Nat) (v : Value) (W L : Int) (w : World) (h : Rdr w B k g v) (hk : k ≤ 900000) (hW0 : 0 ≤ W) (hW1 : W ≤ 1000) (hL0 : 0 ≤ L) (hL1 : L ≤ 1000) :
    Calls Tryz.prog 122 #[v, .int .i64 W, .int .i64 L] w fun e w' => ∃ l r f t : Int, e = .returned (.agg #[.int .i64 l, .int .i64 r, .int .i64 f, .int .i64 t]) ∧ (0 ≤ l ∧ l ≤ 1000 ∧ 0 ≤ r ∧ r ≤ 3000 ∧ 0 ≤ f ∧ f ≤ 1000 ∧ 0 ≤ t ∧ t ≤ 3000) ∧ Rdr w' B (k + 4) g v ∧ w.grownBy w' (some g) := by
  have hg0 := h.lt
  have hva : ∃ gg, v = .pointer gg := by obtain ⟨_, _, _, _, e, _⟩ := h; exact ⟨_, e⟩
  have Hs := Lib.hid (show ∃ w1, w1 = (w.alloc (.cells #[.int .i64 0, .int .i64 0, .int .i64 0, .int .i64 0] 38)) ∧ Below w.heap.size w w1 ∧ w1.cell? ⟨w.heap.size, 0, none⟩ = some (.int .i64 0) ∧ w1.cell? ⟨w.heap.size, 1, none⟩ = some (.int .i64 0) ∧ w1.cell? ⟨w.heap.size, 2, none⟩ = some (.int .i64 0) ∧ w1.cell? ⟨w.heap.size, 3, none⟩ = some (.int .i64 0) ∧ w1.frozen? ⟨w.heap.size, 0, none⟩ = false ∧ w1.frozen? ⟨w.heap.size, 1, none⟩ = false ∧ w1.frozen? ⟨w.heap.size, 2, none⟩ = false ∧ w1.frozen? ⟨w.heap.size, 3, none⟩ = false ∧ w.heap.size < w1.heap.size from by
    have hb : Below w.heap.size w (w.alloc (.cells #[.int .i64 0, .int .i64 0, .int .i64 0, .int .i64 0] 38)) := (Below.refl _ _).alloc (Nat.le_refl _) _
    exact ⟨_, rfl, hb, by go_simp, by go_simp, by go_simp, by go_simp, by go_simp, by go_simp, by go_simp, by go_simp, by simp⟩)
  have hr1 : ∀ w1, Below w.heap.size w w1 → Rdr w1 B k g v := fun w1 hb => h.below hb
  go_enter Tryz.func122, Tryz.ntmps122
  go_wp2_with fail
  obtain ⟨w1, hw1, hb0, c00, c01, c02, c03, f00, f01, f02, f03, hz⟩ := Hs.out
  rw [← hw1]
  clear hw1 Hs
  have hr := hr1 w1 hb0
  clear hr1 h
  have hgr := grown_below hb0 (some g)
  refine (pick_any B k g v W w1 hr (by omega) (by omega)).mono ?_
  rintro e w2 ⟨p, rfl, hp, hr2, bo1⟩
  have hp1 := hp.rng hW1 (by omega)
  replace c00 := keepO bo1 (by first | (simp; done) | (simp; omega)) c00; replace c01 := keepO bo1 (by first | (simp; done) | (simp; omega)) c01; replace c02 := keepO bo1 (by first | (simp; done) | (simp; omega)) c02; replace c03 := keepO bo1 (by first | (simp; done) | (simp; omega)) c03
  replace f00 := keepOF bo1 (by first | (simp; done) | (simp; omega)) f00; replace f01 := keepOF bo1 (by first | (simp; done) | (simp; omega)) f01; replace f02 := keepOF bo1 (by first | (simp; done) | (simp; omega)) f02; replace f03 := keepOF bo1 (by first | (simp; done) | (simp; omega)) f03
  have hgr2 := grown_trans hgr (grown_only bo1)
  have hz2 : w1.heap.size = w2.heap.size := bo1.size.symm
  have HZ2 := Lib.hid hz2
  clear hp hr bo1 hgr hz2
  go_wp2_with fail
  refine (pick_any B (k + 1) g v L w2 hr2 (by omega) (by omega)).mono ?_
  rintro e w3 ⟨q, rfl, hq, hr3, bo1⟩
  have hq1 := hq.rng hL1 (by omega)
  replace c00 := keepO bo1 (by first | (simp; done) | (simp; omega)) c00; replace c01 := keepO bo1 (by first | (simp; done) | (simp; omega)) c01; replace c02 := keepO bo1 (by first | (simp; done) | (simp; omega)) c02; replace c03 := keepO bo1 (by first | (simp; done) | (simp; omega)) c03
  replace f00 := keepOF bo1 (by first | (simp; done) | (simp; omega)) f00; replace f01 := keepOF bo1 (by first | (simp; done) | (simp; omega)) f01; replace f02 := keepOF bo1 (by first | (simp; done) | (simp; omega)) f02; replace f03 := keepOF bo1 (by first | (simp; done) | (simp; omega)) f03
  have hgr3 := grown_trans hgr2 (grown_only bo1)
  have hz3 : w.heap.size < w3.heap.size := by have := HZ2.out; have := bo1.size; omega
  clear hq hr2 bo1 hgr2
  go_wp2_with fail
  obtain ⟨w4, hw1⟩ : ∃ w4, w4 = w3.alloc (.cells #[.int .i64 p, .int .i64 0, .int .i64 q, .int .i64 0] 38) := ⟨_, rfl⟩
  have d0 : w4.cell? ⟨w3.heap.size, 0, none⟩ = some (.int .i64 p) := by rw [hw1]; go_simp
  have d1 : w4.cell? ⟨w3.heap.size, 1, none⟩ = some (.int .i64 0) := by rw [hw1]; go_simp
  have d2 : w4.cell? ⟨w3.heap.size, 2, none⟩ = some (.int .i64 q) := by rw [hw1]; go_simp
  have d3 : w4.cell? ⟨w3.heap.size, 3, none⟩ = some (.int .i64 0) := by rw [hw1]; go_simp
  have bd : Below w3.heap.size w3 w4 := by rw [hw1]; exact (Below.refl _ _).alloc (Nat.le_refl _) _
  have zd : w3.heap.size < w4.heap.size := by rw [hw1]; simp
  have HZd := Lib.hid (show w4.heap.size = w3.heap.size + 1 by rw [hw1]; simp)
  have fd0 : w4.frozen? ⟨w3.heap.size, 0, none⟩ = false := by rw [hw1]; go_simp
  have fd1 : w4.frozen? ⟨w3.heap.size, 1, none⟩ = false := by rw [hw1]; go_simp
  have fd2 : w4.frozen? ⟨w3.heap.size, 2, none⟩ = false := by rw [hw1]; go_simp
  have fd3 : w4.frozen? ⟨w3.heap.size, 3, none⟩ = false := by rw [hw1]; go_simp
  have Hd := Lib.hid (show w4.heap[w3.heap.size]? = some (.cells #[.int .i64 p, .int .i64 0, .int .i64 q, .int .i64 0] 38) by rw [hw1]; exact heap_alloc_new w3 _)
  rw [← hw1]
  clear hw1
  replace c00 := keepB bd c00; replace c01 := keepB bd c01; replace c02 := keepB bd c02; replace c03 := keepB bd c03
  replace f00 := keepF bd (by first | (simp; done) | (simp; omega)) f00; replace f01 := keepF bd (by first | (simp; done) | (simp; omega)) f01; replace f02 := keepF bd (by first | (simp; done) | (simp; omega)) f02; replace f03 := keepF bd (by first | (simp; done) | (simp; omega)) f03
  have hr4 := (hr3.below bd).drew
  have hgr4 := grown_trans hgr3 (grown_below bd (some g))
  clear bd hr3 hgr3
  have g1 : IntKind.i64.wrap (p + 1) = p + 1 := IntWalk.i64_in _ (by omega)
  have g2 : IntKind.i64.wrap (W - p) = W - p := IntWalk.i64_in _ (by omega)
  refine wp_region_last (S := fun w' => w'.cell? ⟨w3.heap.size, 0, none⟩ = some (.int .i64 p)) 11 (by kernel_rfl) ?_ (fun hHeld => ?_)
  · (first | (try dsimp only); go_keep | (first | exact keepO bo2 (by first | (simp; done) | (simp; omega)) (by assumption) | exact keepO bo1 (by first | (simp; done) | (simp; omega)) (by assumption) | exact keepW bg1 (by first | (simp; done) | (simp; omega)) (by assumption)))
  refine AnyL.take (i := 0) (oi := ⟨some 15, _, _, _, _, _⟩) (v := _) rfl (by kernel_rfl) (by kernel_rfl) (by kernel_rfl) (by kernel_rfl) (fun _ _ _ h => h) (Or.inl ⟨by kernel_rfl, by intro w hSw; (try dsimp only at hSw); go_simp; try with_reducible rfl⟩) (by assumption) ?_
  simp only [Act.put, lyA, lyB, lyC]
  refine AnyL.take (i := 1) (oi := ⟨some 16, _, _, _, _, _⟩) (v := _) rfl (by kernel_rfl) (by kernel_rfl) (by kernel_rfl) (by kernel_rfl) (fun _ _ _ h => h) (Or.inl ⟨by kernel_rfl, by intro w hSw; (try dsimp only at hSw); go_simp; try with_reducible rfl⟩) (by assumption) ?_
  simp only [Act.put, lyA, lyB, lyC]
  refine AnyL.take (i := 2) (oi := ⟨some 17, _, _, _, _, _⟩) (v := _) rfl (by kernel_rfl) (by kernel_rfl) (by kernel_rfl) (by kernel_rfl) (fun _ _ _ h => h) (Or.inl ⟨by kernel_rfl, by intro w hSw; (try dsimp only at hSw); go_simp; try with_reducible rfl⟩) (by assumption) ?_
  simp only [Act.put, lyA, lyB, lyC]
  refine AnyL.take (i := 3) (oi := ⟨some 18, _, _, _, _, _⟩) (v := _) rfl (by kernel_rfl) (by kernel_rfl) (by kernel_rfl) (by kernel_rfl) (fun _ _ _ h => h) (Or.inl ⟨by kernel_rfl, by intro w hSw; (try dsimp only at hSw); go_simp; try with_reducible rfl⟩) (by assumption) ?_
  simp only [Act.put, lyA, lyB, lyC]
  refine AnyL.take (i := 4) (oi := ⟨some 19, _, _, _, _, _⟩) (v := _) rfl (by kernel_rfl) (by kernel_rfl) (by kernel_rfl) (by kernel_rfl) (fun _ _ _ h => h) (Or.inl ⟨by kernel_rfl, by intro w hSw; (try dsimp only at hSw); go_simp; try with_reducible rfl⟩) (by assumption) ?_
  simp only [Act.put, lyA, lyB, lyC]
  refine AnyL.take (i := 5) (oi := ⟨some 20, _, _, _, _, _⟩) (v := _) rfl (by kernel_rfl) (by kernel_rfl) (by kernel_rfl) (by kernel_rfl) (fun _ _ _ h => h) (Or.inl ⟨by kernel_rfl, by intro w hSw; (try dsimp only at hSw); go_simp; try with_reducible rfl⟩) (by assumption) ?_
  simp only [Act.put, lyA, lyB, lyC]
  refine AnyL.take (i := 6) (oi := ⟨some 21, _, _, _, _, _⟩) (v := _) rfl (by kernel_rfl) (by kernel_rfl) (by kernel_rfl) (by kernel_rfl) (fun _ _ _ h => h) (Or.inl ⟨by kernel_rfl, by intro w hSw; (try dsimp only at hSw); go_simp; try with_reducible rfl⟩) (by assumption) ?_
  simp only [Act.put, lyA, lyB, lyC]
  refine AnyL.take (i := 7) (oi := ⟨some 22, _, _, _, _, _⟩) (v := _) rfl (by kernel_rfl) (by kernel_rfl) (by kernel_rfl) (by kernel_rfl) (fun _ _ _ h => h) (Or.inl ⟨by kernel_rfl, by intro w hSw; (try dsimp only at hSw); go_simp; try with_reducible rfl⟩) (by assumption) ?_
  simp only [Act.put, lyA, lyB, lyC]
  refine AnyL.one (i := 8) (o := ⟨some 23, _, _, _, _, _⟩) (by kernel_rfl) rfl (fun K hK => ?_)
  go_simp
  go_at_call 26
  refine (pick_any B (k + 1 + 1) g v _ _ hr4 (by omega) (by omega)).mono ?_
  rintro e x1 ⟨y, rfl, hy, hr5, bo1⟩
  have hy1 := hy.rng (m := 1001) (by omega) (by omega)
  have bo2 := only_drew bo1
  have g3 : IntKind.i64.wrap (p + 1 + y) = p + 1 + y := IntWalk.i64_in _ (by omega)
  replace c00 := keepO bo2 (by first | (simp; done) | (simp; omega)) c00; replace c01 := keepO bo2 (by first | (simp; done) | (simp; omega)) c01; replace c02 := keepO bo2 (by first | (simp; done) | (simp; omega)) c02; replace c03 := keepO bo2 (by first | (simp; done) | (simp; omega)) c03; replace d0 := keepO bo2 (by first | (simp; done) | (simp; omega)) d0; replace d1 := keepO bo2 (by first | (simp; done) | (simp; omega)) d1; replace d2 := keepO bo2 (by first | (simp; done) | (simp; omega)) d2; replace d3 := keepO bo2 (by first | (simp; done) | (simp; omega)) d3
  replace f00 := keepOF bo2 (by first | (simp; done) | (simp; omega)) f00; replace f01 := keepOF bo2 (by first | (simp; done) | (simp; omega)) f01; replace f02 := keepOF bo2 (by first | (simp; done) | (simp; omega)) f02; replace f03 := keepOF bo2 (by first | (simp; done) | (simp; omega)) f03; replace fd0 := keepOF bo2 (by first | (simp; done) | (simp; omega)) fd0; replace fd1 := keepOF bo2 (by first | (simp; done) | (simp; omega)) fd1; replace fd2 := keepOF bo2 (by first | (simp; done) | (simp; omega)) fd2; replace fd3 := keepOF bo2 (by first | (simp; done) | (simp; omega)) fd3
  go_wp2_with fail
  refine hK.out _ _ ?_ (fun hHeld2 => ?_)
  · (first | (try dsimp only); go_keep | (first | exact keepO bo2 (by first | (simp; done) | (simp; omega)) (by assumption) | exact keepO bo1 (by first | (simp; done) | (simp; omega)) (by assumption) | exact keepW bg1 (by first | (simp; done) | (simp; omega)) (by assumption)))
  clear hK K hHeld
  have hHeld := hHeld2
  clear hHeld2
  try simp only [Act.put, lyA, lyB, lyC]
  refine AnyL.take (i := 9) (oi := ⟨some 24, _, _, _, _, _⟩) (v := _) rfl (by kernel_rfl) (by kernel_rfl) (by kernel_rfl) (by kernel_rfl) (fun _ _ _ h => h) (Or.inl ⟨by kernel_rfl, by intro w hSw; (try dsimp only at hSw); go_simp; try with_reducible rfl⟩) (by assumption) ?_
  simp only [Act.put, lyA, lyB, lyC]
  refine AnyL.take (i := 10) (oi := ⟨some 25, _, _, _, _, _⟩) (v := _) rfl (by kernel_rfl) (by kernel_rfl) (by kernel_rfl) (by kernel_rfl) (fun _ _ _ h => h) (Or.inl ⟨by kernel_rfl, by intro w hSw; (try dsimp only at hSw); go_simp; try with_reducible rfl⟩) (by assumption) ?_
  simp only [Act.put, lyA, lyB, lyC]
  refine AnyL.last (o := ⟨none, _, _, _, _, _⟩) (by kernel_rfl) rfl (by kernel_rfl) (fun K hK => ?_)
  go_simp
  refine hK.out _ _ ?_
  clear hK K hHeld
  have hgr5 := grown_trans hgr4 (grown_only bo2)
  have hz5 : w3.heap.size < x1.heap.size := by have := bo2.size; omega
  clear g1 g2 g3 hy hr4 bo1 bo2 hgr4 zd
  obtain ⟨w5, hw5⟩ : ∃ w5, w5 = x1.setCell ⟨w3.heap.size, 1, none⟩ (.int .i64 (p + 1 + y)) := ⟨_, rfl⟩
  have e0 : w5.cell? ⟨w3.heap.size, 0, none⟩ = some (.int .i64 p) := by rw [hw5]; go_simp
  have e1 : w5.cell? ⟨w3.heap.size, 1, none⟩ = some (.int .i64 (p + 1 + y)) := by rw [hw5]; go_simp
  have e2 : w5.cell? ⟨w3.heap.size, 2, none⟩ = some (.int .i64 q) := by rw [hw5]; go_simp
  have e3 : w5.cell? ⟨w3.heap.size, 3, none⟩ = some (.int .i64 0) := by rw [hw5]; go_simp
  have k3 : w5.frozen? ⟨w3.heap.size, 3, none⟩ = false := by rw [hw5]; go_simp
  have hne : ¬ w3.heap.size = w.heap.size := by omega
  have c0 : w5.cell? ⟨w.heap.size, 0, none⟩ = some (.int .i64 0) := by rw [hw5]; go_simp
  have c1 : w5.cell? ⟨w.heap.size, 1, none⟩ = some (.int .i64 0) := by rw [hw5]; go_simp
  have c2 : w5.cell? ⟨w.heap.size, 2, none⟩ = some (.int .i64 0) := by rw [hw5]; go_simp
  have c3 : w5.cell? ⟨w.heap.size, 3, none⟩ = some (.int .i64 0) := by rw [hw5]; go_simp
  have k0 : w5.frozen? ⟨w.heap.size, 0, none⟩ = false := by rw [hw5]; go_simp
  have k1 : w5.frozen? ⟨w.heap.size, 1, none⟩ = false := by rw [hw5]; go_simp
  have k2 : w5.frozen? ⟨w.heap.size, 2, none⟩ = false := by rw [hw5]; go_simp
  have k4 : w5.frozen? ⟨w.heap.size, 3, none⟩ = false := by rw [hw5]; go_simp
  have hr6 : Rdr w5 B (k + 1 + 1 + 1) g v := by rw [hw5]; exact hr5.set ⟨by show B ≤ w3.heap.size; omega, by show ¬ w3.heap.size = g; omega⟩ _
  have hr7 := hr6.drew
  have hgr6 : w.grownBy w5 (some g) := by rw [hw5]; exact grown_setCell hgr5 (by show w.heap.size ≤ w3.heap.size; omega) _
  have hz6 : w3.heap.size < w5.heap.size := by rw [hw5]; simp only [World.setCell, Array.size_modify]; exact hz5
  rw [← hw5]
  clear hw5 hr5 hgr5 c00 c01 c02 c03 f00 f01 f02 f03 d0 d1 d2 d3 fd0 fd1 fd2 fd3 hz5 hr6
  go_wp2_with fail
  have g1 : IntKind.i64.wrap (q + 1) = q + 1 := IntWalk.i64_in _ (by omega)
  have g2 : IntKind.i64.wrap (L - q) = L - q := IntWalk.i64_in _ (by omega)
  refine wp_region_last (S := fun w' => w'.cell? ⟨w3.heap.size, 2, none⟩ = some (.int .i64 q)) 11 (by kernel_rfl) ?_ (fun hHeld => ?_)
  · (first | (try dsimp only); go_keep | (first | exact keepO bo2 (by first | (simp; done) | (simp; omega)) (by assumption) | exact keepO bo1 (by first | (simp; done) | (simp; omega)) (by assumption) | exact keepW bg1 (by first | (simp; done) | (simp; omega)) (by assumption)))
  refine AnyL.take (i := 0) (oi := ⟨some 26, _, _, _, _, _⟩) (v := _) rfl (by kernel_rfl) (by kernel_rfl) (by kernel_rfl) (by kernel_rfl) (fun _ _ _ h => h) (Or.inl ⟨by kernel_rfl, by intro w hSw; (try dsimp only at hSw); go_simp; try with_reducible rfl⟩) (by assumption) ?_
  simp only [Act.put, lyA, lyB, lyC]
  refine AnyL.take (i := 1) (oi := ⟨some 27, _, _, _, _, _⟩) (v := _) rfl (by kernel_rfl) (by kernel_rfl) (by kernel_rfl) (by kernel_rfl) (fun _ _ _ h => h) (Or.inl ⟨by kernel_rfl, by intro w hSw; (try dsimp only at hSw); go_simp; try with_reducible rfl⟩) (by assumption) ?_
  simp only [Act.put, lyA, lyB, lyC]
  refine AnyL.take (i := 2) (oi := ⟨some 28, _, _, _, _, _⟩) (v := _) rfl (by kernel_rfl) (by kernel_rfl) (by kernel_rfl) (by kernel_rfl) (fun _ _ _ h => h) (Or.inl ⟨by kernel_rfl, by intro w hSw; (try dsimp only at hSw); go_simp; try with_reducible rfl⟩) (by assumption) ?_
  simp only [Act.put, lyA, lyB, lyC]
  refine AnyL.take (i := 3) (oi := ⟨some 29, _, _, _, _, _⟩) (v := _) rfl (by kernel_rfl) (by kernel_rfl) (by kernel_rfl) (by kernel_rfl) (fun _ _ _ h => h) (Or.inl ⟨by kernel_rfl, by intro w hSw; (try dsimp only at hSw); go_simp; try with_reducible rfl⟩) (by assumption) ?_
  simp only [Act.put, lyA, lyB, lyC]
  refine AnyL.take (i := 4) (oi := ⟨some 30, _, _, _, _, _⟩) (v := _) rfl (by kernel_rfl) (by kernel_rfl) (by kernel_rfl) (by kernel_rfl) (fun _ _ _ h => h) (Or.inl ⟨by kernel_rfl, by intro w hSw; (try dsimp only at hSw); go_simp; try with_reducible rfl⟩) (by assumption) ?_
  simp only [Act.put, lyA, lyB, lyC]
  refine AnyL.take (i := 5) (oi := ⟨some 31, _, _, _, _, _⟩) (v := _) rfl (by kernel_rfl) (by kernel_rfl) (by kernel_rfl) (by kernel_rfl) (fun _ _ _ h => h) (Or.inl ⟨by kernel_rfl, by intro w hSw; (try dsimp only at hSw); go_simp; try with_reducible rfl⟩) (by assumption) ?_
  simp only [Act.put, lyA, lyB, lyC]
  refine AnyL.take (i := 6) (oi := ⟨some 32, _, _, _, _, _⟩) (v := _) rfl (by kernel_rfl) (by kernel_rfl) (by kernel_rfl) (by kernel_rfl) (fun _ _ _ h => h) (Or.inl ⟨by kernel_rfl, by intro w hSw; (try dsimp only at hSw); go_simp; try with_reducible rfl⟩) (by assumption) ?_
  simp only [Act.put, lyA, lyB, lyC]
  refine AnyL.take (i := 7) (oi := ⟨some 33, _, _, _, _, _⟩) (v := _) rfl (by kernel_rfl) (by kernel_rfl) (by kernel_rfl) (by kernel_rfl) (fun _ _ _ h => h) (Or.inl ⟨by kernel_rfl, by intro w hSw; (try dsimp only at hSw); go_simp; try with_reducible rfl⟩) (by assumption) ?_
  simp only [Act.put, lyA, lyB, lyC]
  refine AnyL.one (i := 8) (o := ⟨some 34, _, _, _, _, _⟩) (by kernel_rfl) rfl (fun K hK => ?_)
  go_simp
  go_at_call 26
  refine (pick_any B (k + 1 + 1 + 1) g v _ _ hr7 (by omega) (by omega)).mono ?_
  rintro e x2 ⟨y2, rfl, hy, hr8, bo1⟩
  have hy2 := hy.rng (m := 1001) (by omega) (by omega)
  have bo2 := only_drew bo1
  have g3 : IntKind.i64.wrap (q + 1 + y2) = q + 1 + y2 := IntWalk.i64_in _ (by omega)
  replace c0 := keepO bo2 (by first | (simp; done) | (simp; omega)) c0; replace c1 := keepO bo2 (by first | (simp; done) | (simp; omega)) c1; replace c2 := keepO bo2 (by first | (simp; done) | (simp; omega)) c2; replace c3 := keepO bo2 (by first | (simp; done) | (simp; omega)) c3; replace e0 := keepO bo2 (by first | (simp; done) | (simp; omega)) e0; replace e1 := keepO bo2 (by first | (simp; done) | (simp; omega)) e1; replace e2 := keepO bo2 (by first | (simp; done) | (simp; omega)) e2; replace e3 := keepO bo2 (by first | (simp; done) | (simp; omega)) e3
  replace k0 := keepOF bo2 (by first | (simp; done) | (simp; omega)) k0; replace k1 := keepOF bo2 (by first | (simp; done) | (simp; omega)) k1; replace k2 := keepOF bo2 (by first | (simp; done) | (simp; omega)) k2; replace k3 := keepOF bo2 (by first | (simp; done) | (simp; omega)) k3; replace k4 := keepOF bo2 (by first | (simp; done) | (simp; omega)) k4
  go_wp2_with fail
  refine hK.out _ _ ?_ (fun hHeld2 => ?_)
  · (first | (try dsimp only); go_keep | (first | exact keepO bo2 (by first | (simp; done) | (simp; omega)) (by assumption) | exact keepO bo1 (by first | (simp; done) | (simp; omega)) (by assumption) | exact keepW bg1 (by first | (simp; done) | (simp; omega)) (by assumption)))
  clear hK K hHeld
  have hHeld := hHeld2
  clear hHeld2
  try simp only [Act.put, lyA, lyB, lyC]
  refine AnyL.take (i := 9) (oi := ⟨some 35, _, _, _, _, _⟩) (v := _) rfl (by kernel_rfl) (by kernel_rfl) (by kernel_rfl) (by kernel_rfl) (fun _ _ _ h => h) (Or.inl ⟨by kernel_rfl, by intro w hSw; (try dsimp only at hSw); go_simp; try with_reducible rfl⟩) (by assumption) ?_
  simp only [Act.put, lyA, lyB, lyC]
  refine AnyL.take (i := 10) (oi := ⟨some 36, _, _, _, _, _⟩) (v := _) rfl (by kernel_rfl) (by kernel_rfl) (by kernel_rfl) (by kernel_rfl) (fun _ _ _ h => h) (Or.inl ⟨by kernel_rfl, by intro w hSw; (try dsimp only at hSw); go_simp; try with_reducible rfl⟩) (by assumption) ?_
  simp only [Act.put, lyA, lyB, lyC]
  refine AnyL.last (o := ⟨none, _, _, _, _, _⟩) (by kernel_rfl) rfl (by kernel_rfl) (fun K hK => ?_)
  go_simp
  refine hK.out _ _ ?_
  clear hK K hHeld
  have hgr8 := grown_trans hgr6 (grown_only bo2)
  clear g1 g2 g3 hy hr7 bo1 bo2 hgr6
  go_wp2
  refine bodyPost_ret (v := .agg #[.int .i64 p, .int .i64 (p + 1 + y), .int .i64 q, .int .i64 (q + 1 + y2)]) (by simp [results, Tryz.results122, go_sem, *]) rfl ⟨_, _, _, _, rfl, by omega, ?_, ?_⟩
  · exact ((((hr8.set ⟨by show B ≤ w3.heap.size; omega, by show ¬ w3.heap.size = g; omega⟩ _).set ⟨by show B ≤ w.heap.size; omega, by show ¬ w.heap.size = g; omega⟩ _).set ⟨by show B ≤ w.heap.size; omega, by show ¬ w.heap.size = g; omega⟩ _).set ⟨by show B ≤ w.heap.size; omega, by show ¬ w.heap.size = g; omega⟩ _).set ⟨by show B ≤ w.heap.size; omega, by show ¬ w.heap.size = g; omega⟩ _
  · exact grown_setCell (grown_setCell (grown_setCell (grown_setCell (grown_setCell hgr8 (by show w.heap.size ≤ w3.heap.size; omega) _) (Nat.le_refl _) _) (Nat.le_refl _) _) (Nat.le_refl _) _) (Nat.le_refl _) _
end Go.Proofs.YtkgepklapglmdaaGreatDoor

namespace Go.Proofs.YtkgepklapglmdaaGreatDoor
open Go.RowKit
attribute [local go_sem ↓] Go.wp_at_zero Go.wp_at_succ

theorem OwnT.grown {w w' : World} {base e k g : Nat} {v : Value} {xs : List (List Int)} (h : OwnT w base e k v xs) (hg : w.grownBy w' (some g)) (hlt : g < base) : OwnT w' base e k v xs :=
  h.kept (Kept.of_grown hg (Nat.le_refl _) (.inl hlt))
theorem Rdr.grew {base : Nat} {v u u' : Value} {W w1 : World} {B k g : Nat} (h : Rdr W B k g v) (hg : Grew base u u' W w1) (hlt : g < base) : Rdr w1 B k g v := by
  have h0 := h.lt
  exact h.kept (hg.below.block g hlt) fun j _ hj => hg.below.block j (by omega)
theorem grown_then {a b c : World} {B g : Nat} (h : a.grownBy b (some g)) (k : Below B b c) (hB : a.heap.size ≤ B) : a.grownBy c (some g) :=
  ⟨k.os.trans h.os, k.tape.trans h.tape, k.output.trans h.output, Nat.le_trans h.size k.size, fun i hi hn => (k.block i (by omega)).trans (h.block i hi hn)⟩
end Go.Proofs.YtkgepklapglmdaaGreatDoor

namespace Go.Proofs.YtkgepklapglmdaaGreatDoor
open Go.RowKit
attribute [local go_sem ↓] Go.wp_at_zero Go.wp_at_succ

end Go.Proofs.YtkgepklapglmdaaGreatDoor

namespace Go.Proofs.YtkgepklapglmdaaGreatDoor
open Go.RowKit
attribute [local go_sem ↓] Go.wp_at_zero Go.wp_at_succ

theorem OwnI.grown {w w' : World} {base e g : Nat} {v : Value} {xs : List Int} (h : OwnI w base e v xs) (hg : w.grownBy w' (some g)) (hlt : g < base) : OwnI w' base e v xs :=
  h.kept (Kept.of_grown hg (Nat.le_refl _) (.inl hlt))
theorem OwnI.grew {w w' : World} {base b2 e : Nat} {u u' v : Value} {xs : List Int} (h : OwnI w base e v xs) (hg : Grew b2 u u' w w') (hne : ∀ g, v.ownBlock = some g → u.ownBlock = some g → False) : OwnI w' base e v xs :=
  h.keptBlock fun g hgv => hg.other g (h.lt g hgv).2 fun e => hne g hgv e.symm
theorem OwnT.grew {w w' : World} {base b2 e k : Nat} {u u' v : Value} {xs : List (List Int)} (h : OwnT w base e k v xs) (hg : Grew b2 u u' w w') (hne : ∀ g, v.ownBlock = some g → u.ownBlock = some g → False) : OwnT w' base e k v xs :=
  h.keptBlock fun g hgv => hg.other g (h.lt g hgv).2 fun e => hne g hgv e.symm
theorem Bytes.wide {w : World} {lo hi lo' hi' : Nat} {v : Value} {xs : List Int} (h : Bytes w lo hi v xs) (hl : lo' ≤ lo) (hh : hi ≤ hi') : Bytes w lo' hi' v xs := by
  obtain ⟨A, c, h1, h2, h3, h4, h5⟩ := h
  exact ⟨A, c, h1, h2, h3, h4.wide hl hh, h5⟩
theorem grown_drew {w x : World} {r : Option Nat} (h : w.drew.grownBy x r) : w.grownBy x r := ⟨h.os, h.tape, h.output, h.size, h.block⟩
end Go.Proofs.YtkgepklapglmdaaGreatDoor

namespace Go.Proofs.YtkgepklapglmdaaGreatDoor
open Go.RowKit
attribute [local go_sem ↓] Go.wp_at_zero Go.wp_at_succ

end Go.Proofs.YtkgepklapglmdaaGreatDoor

namespace Go.Proofs.YtkgepklapglmdaaGreatDoor
open Go.RowKit
attribute [local go_sem ↓] Go.wp_at_zero Go.wp_at_succ

end Go.Proofs.YtkgepklapglmdaaGreatDoor
