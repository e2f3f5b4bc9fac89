/-
  Lemmas and contracts of single functions of this program, used by the proofs of its laws: what each call returns and what becomes of memory. Conditions: the hypotheses of each theorem.
-/
import Derived.Test.YtlabekemifccaaaGreatDoorMillT
namespace Go.Proofs.YtlabekemifccaaaGreatDoor
open Go.RowKit
attribute [local go_sem ↓] Go.wp_at_zero Go.wp_at_succ

set_option maxRecDepth 100000 in
set_option maxHeartbeats 1600000 in
theorem equalParts_sameM (l1 h1 l2 h2 : Nat) (v u : Value) (xs : List (List Int)) (w : World) (h : TS w l1 h1 4 v xs) (hh : h1 ≤ w.heap.size) (hy : TS w l2 h2 4 u xs) (hh2 : h2 ≤ w.heap.size) :
    Calls Tryz.prog 24 #[v, u] w fun e w' => e = .returned (.bool true) ∧ Below w.heap.size w w' := by
  obtain ⟨A, c, rfl, hc, hm⟩ := h.form
  obtain ⟨B, d, rfl, hd, hm'⟩ := hy.form
  have hl' : ((xs.length : Int) != (xs.length : Int)) = false := bne_f rfl
  go_enter Tryz.func24, Tryz.ntmps24
  go_wp2
  clear hl'
  go_loopw [5] (fun i wr => ∃ k : Nat, k ≤ xs.length ∧ i = .int .i64 k ∧ Below w.heap.size w wr) (fun i _ => xs.length - (intOf i).toNat)
  case atStart => exact ⟨0, by omega, rfl, Below.refl _ _⟩
  case round =>
    obtain ⟨k, hk, rfl, hq⟩ := hrel
    have hz := hq.size
    by_cases hlt : k < xs.length
    · obtain ⟨b, o, rfl, _, _, e0, e1, e2, e3⟩ := (h.below hq hh).c4 hlt
      obtain ⟨b2, o2, rfl, _, _, f0, f1, f2, f3⟩ := (hy.below hq hh2).c4 hlt
      have hk0 : (0 : Int) ≤ (k : Int) := by omega
      have hk1 : (k : Int) < (xs.length : Int) := by omega
      have Hq := Lib.hid hq
      clear hq
      go_wp2
      go_region_held3 (fun w' => w'.cell? ⟨b, o + k * 4, none⟩ = some (.int .i64 (gi (gr xs k) 0)) ∧ w'.cell? ⟨b, o + k * 4 + 1, none⟩ = some (.int .i64 (gi (gr xs k) 1)) ∧ w'.cell? ⟨b, o + k * 4 + 2, none⟩ = some (.int .i64 (gi (gr xs k) 2)) ∧ w'.cell? ⟨b, o + k * 4 + 3, none⟩ = some (.int .i64 (gi (gr xs k) 3)) ∧ w'.cell? ⟨b2, o2 + k * 4, none⟩ = some (.int .i64 (gi (gr xs k) 0)) ∧ w'.cell? ⟨b2, o2 + k * 4 + 1, none⟩ = some (.int .i64 (gi (gr xs k) 1)) ∧ w'.cell? ⟨b2, o2 + k * 4 + 2, none⟩ = some (.int .i64 (gi (gr xs k) 2)) ∧ w'.cell? ⟨b2, o2 + k * 4 + 3, none⟩ = some (.int .i64 (gi (gr xs k) 3))) (first | go_keep | (go_split_ands; refine ⟨?_, ?_, ?_, ?_, ?_, ?_, ?_, ?_⟩ <;> first | exact keepB bx5 (by assumption) | exact keepB bx4 (by assumption) | exact keepB bx3 (by assumption) | exact keepB bx2 (by assumption) | exact keepB bx1 (by assumption))) (fail)
      go_wp2
      go_roundw
      case rel => exact ⟨k + 1, by omega, by go_num, Hq.out.trans ((Qt.one _ 1).below _)⟩
      case measure => simp [intOf]; omega
    · go_wp2
      go_ret
      exact ⟨rfl, hq⟩
set_option maxRecDepth 100000 in
set_option maxHeartbeats 2000000 in
theorem equalReel_sameM (l1 h1 l2 h2 : Nat) (v u : Value) (W L : Int) (ds : List (List Int)) (w : World) (h : TS w l1 h1 5 v ds) (hh : h1 ≤ w.heap.size) (hy : TS w l2 h2 5 u ds) (hh2 : h2 ≤ w.heap.size) :
    Calls Tryz.prog 23 #[.agg #[.int .i64 W, .int .i64 L, v], .agg #[.int .i64 W, .int .i64 L, u]] w fun e w' => e = .returned (.bool true) ∧ Below w.heap.size w w' := by
  obtain ⟨A, c, rfl, hc, hm⟩ := h.form
  obtain ⟨B, d, rfl, hd, hm'⟩ := hy.form
  have hl1 : (W != W) = false := bne_f rfl
  have hl2 : (L != L) = false := bne_f rfl
  have hl3 : ((ds.length : Int) != (ds.length : Int)) = false := bne_f rfl
  have Hs := Lib.hid (show ∃ w1, w1 = ((w.alloc (.cells #[.int .i64 W, .int .i64 L, .slice A ds.length c] 58)).alloc (.cells #[.int .i64 W, .int .i64 L, .slice B ds.length d] 58)) ∧ Below w.heap.size w w1 ∧ w1.cell? ⟨w.heap.size, 0, none⟩ = some (.int .i64 W) ∧ w1.cell? ⟨w.heap.size, 1, none⟩ = some (.int .i64 L) ∧ w1.cell? ⟨w.heap.size, 2, none⟩ = some (.slice A ds.length c) ∧ w1.cell? ⟨w.heap.size + 1, 0, none⟩ = some (.int .i64 W) ∧ w1.cell? ⟨w.heap.size + 1, 1, none⟩ = some (.int .i64 L) ∧ w1.cell? ⟨w.heap.size + 1, 2, none⟩ = some (.slice B ds.length d) ∧ TS w1 l1 h1 5 (.slice A ds.length c) ds ∧ TS w1 l2 h2 5 (.slice B ds.length d) ds ∧ w.heap.size + 1 < w1.heap.size from by
    have hb : Below w.heap.size w ((w.alloc (.cells #[.int .i64 W, .int .i64 L, .slice A ds.length c] 58)).alloc (.cells #[.int .i64 W, .int .i64 L, .slice B ds.length d] 58)) := ((Below.refl _ _).alloc (Nat.le_refl _) _).alloc (by simp) _
    exact ⟨_, rfl, hb, by go_simp, by go_simp, by go_simp, by go_simp, by go_simp, by go_simp, h.below hb hh, hy.below hb hh2, by simp⟩)
  go_enter Tryz.func23, Tryz.ntmps23
  go_wp2
  obtain ⟨w1, hw1, hb0, c00, c01, c02, c10, c11, c12, hT0, hT1, hz⟩ := Hs.out
  rw [← hw1]
  clear hw1 Hs
  clear hl1 hl2 hl3 h hy
  have hh1' : h1 ≤ w1.heap.size := by omega
  have hh2' : h2 ≤ w1.heap.size := by omega
  go_loopw [5] (fun i wr => ∃ k : Nat, k ≤ ds.length ∧ i = .int .i64 k ∧ Below w1.heap.size w1 wr) (fun i _ => ds.length - (intOf i).toNat)
  case atStart => exact ⟨0, by omega, rfl, Below.refl _ _⟩
  case round =>
    obtain ⟨k, hk, rfl, hq⟩ := hrel
    have hz2 := hq.size
    replace c00 := keepB hq c00; replace c01 := keepB hq c01; replace c02 := keepB hq c02; replace c10 := keepB hq c10; replace c11 := keepB hq c11; replace c12 := keepB hq c12
    by_cases hlt : k < ds.length
    · obtain ⟨b, o, rfl, _, _, e0, e1, e2, e3, e4⟩ := (hT0.below hq hh1').c5 hlt
      obtain ⟨b2, o2, rfl, _, _, f0, f1, f2, f3, f4⟩ := (hT1.below hq hh2').c5 hlt
      have hk0 : (0 : Int) ≤ (k : Int) := by omega
      have hk1 : (k : Int) < (ds.length : Int) := by omega
      have Hq := Lib.hid hq
      clear hq
      go_wp2
      go_region_held3 (fun w' => w'.cell? ⟨w.heap.size, 2, none⟩ = some (.slice (some ⟨b, o, none⟩) ds.length c) ∧ w'.cell? ⟨w.heap.size + 1, 2, none⟩ = some (.slice (some ⟨b2, o2, none⟩) ds.length d) ∧ w'.cell? ⟨b, o + k * 5, none⟩ = some (.int .i64 (gi (gr ds k) 0)) ∧ w'.cell? ⟨b, o + k * 5 + 1, none⟩ = some (.int .i64 (gi (gr ds k) 1)) ∧ w'.cell? ⟨b, o + k * 5 + 2, none⟩ = some (.int .i64 (gi (gr ds k) 2)) ∧ w'.cell? ⟨b, o + k * 5 + 3, none⟩ = some (.int .i64 (gi (gr ds k) 3)) ∧ w'.cell? ⟨b, o + k * 5 + 4, none⟩ = some (.int .i64 (gi (gr ds k) 4)) ∧ w'.cell? ⟨b2, o2 + k * 5, none⟩ = some (.int .i64 (gi (gr ds k) 0)) ∧ w'.cell? ⟨b2, o2 + k * 5 + 1, none⟩ = some (.int .i64 (gi (gr ds k) 1)) ∧ w'.cell? ⟨b2, o2 + k * 5 + 2, none⟩ = some (.int .i64 (gi (gr ds k) 2)) ∧ w'.cell? ⟨b2, o2 + k * 5 + 3, none⟩ = some (.int .i64 (gi (gr ds k) 3)) ∧ w'.cell? ⟨b2, o2 + k * 5 + 4, none⟩ = some (.int .i64 (gi (gr ds k) 4))) (first | go_keep | (go_split_ands; refine ⟨?_, ?_, ?_, ?_, ?_, ?_, ?_, ?_, ?_, ?_, ?_, ?_⟩ <;> first | exact keepB bx5 (by assumption) | exact keepB bx4 (by assumption) | exact keepB bx3 (by assumption) | exact keepB bx2 (by assumption) | exact keepB bx1 (by assumption))) (fail)
      go_wp2
      go_roundw
      case rel => exact ⟨k + 1, by omega, by go_num, Hq.out.trans ((Qt.one _ 1).below _)⟩
      case measure => simp [intOf]; omega
    · go_wp2
      go_ret
      exact ⟨rfl, hb0.trans (hq.mono (by omega))⟩
set_option maxRecDepth 100000 in
set_option maxHeartbeats 4000000 in
theorem equalMill_same (l1 h1 l2 h2 : Nat) (v u : Value) (es : List Ent) (a b z : Int) (w : World) (h : ES w l1 h1 v es) (hh : h1 ≤ w.heap.size) (hy : ES w l2 h2 u es) (hh2 : h2 ≤ w.heap.size) :
    Calls Tryz.prog 10 #[.agg #[v, .int .i64 a, .int .i64 b, .int .i64 z], .agg #[u, .int .i64 a, .int .i64 b, .int .i64 z]] w fun e w' => e = .returned (.bool true) ∧ Below w.heap.size w w' := by
  obtain ⟨A, c, rfl, hc, hm⟩ := h.form
  obtain ⟨B, d, rfl, hd, hm'⟩ := hy.form
  have hl3 : ((es.length : Int) != (es.length : Int)) = false := bne_f rfl
  have hx : ∀ w1, Below w.heap.size w w1 → ES w1 l1 h1 (.slice A es.length c) es ∧ ES w1 l2 h2 (.slice B es.length d) es := fun w1 hb => ⟨h.below hb hh, hy.below hb hh2⟩
  have Hs := Lib.hid (show ∃ w1, w1 = ((w.alloc (.cells #[.slice A es.length c, .int .i64 a, .int .i64 b, .int .i64 z] 29)).alloc (.cells #[.slice B es.length d, .int .i64 a, .int .i64 b, .int .i64 z] 29)) ∧ Below w.heap.size w w1 ∧ w1.cell? ⟨w.heap.size, 0, none⟩ = some (.slice A es.length c) ∧ w1.cell? ⟨w.heap.size, 1, none⟩ = some (.int .i64 a) ∧ w1.cell? ⟨w.heap.size, 2, none⟩ = some (.int .i64 b) ∧ w1.cell? ⟨w.heap.size, 3, none⟩ = some (.int .i64 z) ∧ w1.cell? ⟨w.heap.size + 1, 0, none⟩ = some (.slice B es.length d) ∧ w1.cell? ⟨w.heap.size + 1, 1, none⟩ = some (.int .i64 a) ∧ w1.cell? ⟨w.heap.size + 1, 2, none⟩ = some (.int .i64 b) ∧ w1.cell? ⟨w.heap.size + 1, 3, none⟩ = some (.int .i64 z) ∧ w.heap.size + 1 < w1.heap.size from by
    have hb : Below w.heap.size w ((w.alloc (.cells #[.slice A es.length c, .int .i64 a, .int .i64 b, .int .i64 z] 29)).alloc (.cells #[.slice B es.length d, .int .i64 a, .int .i64 b, .int .i64 z] 29)) := ((Below.refl _ _).alloc (Nat.le_refl _) _).alloc (by simp) _
    exact ⟨_, rfl, hb, by go_simp, by go_simp, by go_simp, by go_simp, by go_simp, by go_simp, by go_simp, by go_simp, by simp⟩)
  go_enter Tryz.func10, Tryz.ntmps10
  go_wp2
  obtain ⟨w1, hw1, hb0, c00, c01, c02, c03, c10, c11, c12, c13, hz⟩ := Hs.out
  rw [← hw1]
  clear hw1 Hs
  have hE := hx w1 hb0
  clear hl3 h hy hx
  have hh1' : h1 ≤ w1.heap.size := by omega
  have hh2' : h2 ≤ w1.heap.size := by omega
  go_loopw [5] (fun i wr => ∃ k : Nat, k ≤ es.length ∧ i = .int .i64 k ∧ Below w1.heap.size w1 wr) (fun i _ => es.length - (intOf i).toNat)
  case atStart => exact ⟨0, by omega, rfl, Below.refl _ _⟩
  case round =>
    obtain ⟨k, hk, rfl, hq⟩ := hrel
    have hz2 := hq.size
    replace c00 := keepB hq c00; replace c01 := keepB hq c01; replace c02 := keepB hq c02; replace c03 := keepB hq c03; replace c10 := keepB hq c10; replace c11 := keepB hq c11; replace c12 := keepB hq c12; replace c13 := keepB hq c13
    by_cases hlt : k < es.length
    · obtain ⟨b9, o, Ad, cd, Ap, cp, rfl, _, _, e0, e1, e2, e3, e4, hd1, hp1, _⟩ := (hE.1.below hq hh1').cell hlt
      obtain ⟨b8, o8, Ad8, cd8, Ap8, cp8, rfl, _, _, f0, f1, f2, f3, f4, hd2, hp2, _⟩ := (hE.2.below hq hh2').cell hlt
      have hk0 : (0 : Int) ≤ (k : Int) := by omega
      have hk1 : (k : Int) < (es.length : Int) := by omega
      have hb : ((ge es k).lb != (ge es k).lb) = false := bne_f rfl
      have Hq := Lib.hid hq
      clear hq
      go_wp2
      refine wp_region_held_drew (S := fun w' => w'.cell? ⟨w.heap.size, 0, none⟩ = some (.slice (some ⟨b9, o, none⟩) es.length c) ∧ w'.cell? ⟨w.heap.size + 1, 0, none⟩ = some (.slice (some ⟨b8, o8, none⟩) es.length d) ∧ w'.cell? ⟨b9, o + k * 5, none⟩ = some (.int .i64 (ge es k).lb) ∧ w'.cell? ⟨b9, o + k * 5 + 1, none⟩ = some (.int .i64 (ge es k).W) ∧ w'.cell? ⟨b9, o + k * 5 + 2, none⟩ = some (.int .i64 (ge es k).L) ∧ w'.cell? ⟨b9, o + k * 5 + 3, none⟩ = some (.slice Ad (ge es k).ds.length cd) ∧ w'.cell? ⟨b9, o + k * 5 + 4, none⟩ = some (.slice Ap (ge es k).ps.length cp) ∧ w'.cell? ⟨b8, o8 + k * 5, none⟩ = some (.int .i64 (ge es k).lb) ∧ w'.cell? ⟨b8, o8 + k * 5 + 1, none⟩ = some (.int .i64 (ge es k).W) ∧ w'.cell? ⟨b8, o8 + k * 5 + 2, none⟩ = some (.int .i64 (ge es k).L) ∧ w'.cell? ⟨b8, o8 + k * 5 + 3, none⟩ = some (.slice Ad8 (ge es k).ds.length cd8) ∧ w'.cell? ⟨b8, o8 + k * 5 + 4, none⟩ = some (.slice Ap8 (ge es k).ps.length cp8)) (by kernel_rfl) ?_ (fun hHeld => ?_)
      · (first | (try dsimp only); go_keep | (go_split_ands; refine ⟨?_, ?_, ?_, ?_, ?_, ?_, ?_, ?_, ?_, ?_, ?_, ?_⟩ <;> first | exact keepB bx5 (by assumption) | exact keepB bx4 (by assumption) | exact keepB bx3 (by assumption) | exact keepB bx2 (by assumption) | exact keepB bx1 (by assumption) | exact keepO bo5 (by first | (simp; done) | (simp; omega)) (by assumption) | exact keepO bo4 (by first | (simp; done) | (simp; omega)) (by assumption) | exact keepO bo3 (by first | (simp; done) | (simp; omega)) (by assumption) | exact keepO bo2 (by first | (simp; done) | (simp; omega)) (by assumption) | exact keepO bo1 (by first | (simp; done) | (simp; omega)) (by assumption) | exact keepW bg2 (by first | (simp; done) | (simp; omega)) (by assumption) | exact keepW bg1 (by first | (simp; done) | (simp; omega)) (by assumption) | assumption))
      refine wpAnyH_take (i := 0) (oi := ⟨some 20, _, _, _, _, _⟩) (v := _) rfl (by kernel_rfl) (by kernel_rfl) (by kernel_rfl) (fun _ _ _ h => h) (Or.inl ⟨by kernel_rfl, by intro w hSw; (try dsimp only at hSw); go_simp; try with_reducible rfl⟩) (by assumption) ?_
      simp only [Act.put, List.setIfInBounds_toArray, List.set_cons_zero, List.set_cons_succ]
      refine wpAnyH_take (i := 1) (oi := ⟨some 21, _, _, _, _, _⟩) (v := _) rfl (by kernel_rfl) (by kernel_rfl) (by kernel_rfl) (fun _ _ _ h => h) (Or.inl ⟨by kernel_rfl, by intro w hSw; (try dsimp only at hSw); go_simp; try with_reducible rfl⟩) (by assumption) ?_
      simp only [Act.put, List.setIfInBounds_toArray, List.set_cons_zero, List.set_cons_succ]
      refine wpAnyH_take (i := 2) (oi := ⟨some 22, _, _, _, _, _⟩) (v := _) rfl (by kernel_rfl) (by kernel_rfl) (by kernel_rfl) (fun _ _ _ h => h) (Or.inl ⟨by kernel_rfl, by intro w hSw; (try dsimp only at hSw); go_simp; try with_reducible rfl⟩) (by assumption) ?_
      simp only [Act.put, List.setIfInBounds_toArray, List.set_cons_zero, List.set_cons_succ]
      refine wpAnyH_take (i := 3) (oi := ⟨some 23, _, _, _, _, _⟩) (v := _) rfl (by kernel_rfl) (by kernel_rfl) (by kernel_rfl) (fun _ _ _ h => h) (Or.inl ⟨by kernel_rfl, by intro w hSw; (try dsimp only at hSw); go_simp; try with_reducible rfl⟩) (by assumption) ?_
      simp only [Act.put, List.setIfInBounds_toArray, List.set_cons_zero, List.set_cons_succ]
      refine wpAnyH_take (i := 4) (oi := ⟨some 24, _, _, _, _, _⟩) (v := _) rfl (by kernel_rfl) (by kernel_rfl) (by kernel_rfl) (fun _ _ _ h => h) (Or.inl ⟨by kernel_rfl, by intro w hSw; (try dsimp only at hSw); go_simp; try with_reducible rfl⟩) (by assumption) ?_
      simp only [Act.put, List.setIfInBounds_toArray, List.set_cons_zero, List.set_cons_succ]
      refine wpAnyH_take (i := 5) (oi := ⟨some 25, _, _, _, _, _⟩) (v := _) rfl (by kernel_rfl) (by kernel_rfl) (by kernel_rfl) (fun _ _ _ h => h) (Or.inl ⟨by kernel_rfl, by intro w hSw; (try dsimp only at hSw); go_simp; try with_reducible rfl⟩) (by assumption) ?_
      simp only [Act.put, List.setIfInBounds_toArray, List.set_cons_zero, List.set_cons_succ]
      refine wpAnyH_take (i := 6) (oi := ⟨some 26, _, _, _, _, _⟩) (v := _) rfl (by kernel_rfl) (by kernel_rfl) (by kernel_rfl) (fun _ _ _ h => h) (Or.inl ⟨by kernel_rfl, by intro w hSw; (try dsimp only at hSw); go_simp; try with_reducible rfl⟩) (by assumption) ?_
      simp only [Act.put, List.setIfInBounds_toArray, List.set_cons_zero, List.set_cons_succ]
      refine wpAnyH_take (i := 7) (oi := ⟨some 27, _, _, _, _, _⟩) (v := _) rfl (by kernel_rfl) (by kernel_rfl) (by kernel_rfl) (fun _ _ _ h => h) (Or.inl ⟨by kernel_rfl, by intro w hSw; (try dsimp only at hSw); go_simp; try with_reducible rfl⟩) (by assumption) ?_
      simp only [Act.put, List.setIfInBounds_toArray, List.set_cons_zero, List.set_cons_succ]
      refine wpAnyH_take (i := 8) (oi := ⟨some 28, _, _, _, _, _⟩) (v := _) rfl (by kernel_rfl) (by kernel_rfl) (by kernel_rfl) (fun _ _ _ h => h) (Or.inl ⟨by kernel_rfl, by intro w hSw; (try dsimp only at hSw); go_simp; try with_reducible rfl⟩) (by assumption) ?_
      simp only [Act.put, List.setIfInBounds_toArray, List.set_cons_zero, List.set_cons_succ]
      refine wpAnyH_take (i := 9) (oi := ⟨some 29, _, _, _, _, _⟩) (v := _) rfl (by kernel_rfl) (by kernel_rfl) (by kernel_rfl) (fun _ _ _ h => h) (Or.inl ⟨by kernel_rfl, by intro w hSw; (try dsimp only at hSw); go_simp; try with_reducible rfl⟩) (by assumption) ?_
      simp only [Act.put, List.setIfInBounds_toArray, List.set_cons_zero, List.set_cons_succ]
      refine wpAnyH_take (i := 10) (oi := ⟨some 30, _, _, _, _, _⟩) (v := _) rfl (by kernel_rfl) (by kernel_rfl) (by kernel_rfl) (fun _ _ _ h => h) (Or.inl ⟨by kernel_rfl, by intro w hSw; (try dsimp only at hSw); go_simp; try with_reducible rfl⟩) (by assumption) ?_
      simp only [Act.put, List.setIfInBounds_toArray, List.set_cons_zero, List.set_cons_succ]
      refine wpAnyH_take (i := 11) (oi := ⟨some 31, _, _, _, _, _⟩) (v := _) rfl (by kernel_rfl) (by kernel_rfl) (by kernel_rfl) (fun _ _ _ h => h) (Or.inl ⟨by kernel_rfl, by intro w hSw; (try dsimp only at hSw); go_simp; try with_reducible rfl⟩) (by assumption) ?_
      simp only [Act.put, List.setIfInBounds_toArray, List.set_cons_zero, List.set_cons_succ]
      refine wpAnyH_take (i := 12) (oi := ⟨some 32, _, _, _, _, _⟩) (v := _) rfl (by kernel_rfl) (by kernel_rfl) (by kernel_rfl) (fun _ _ _ h => h) (Or.inl ⟨by kernel_rfl, by intro w hSw; (try dsimp only at hSw); go_simp; try with_reducible rfl⟩) (by assumption) ?_
      simp only [Act.put, List.setIfInBounds_toArray, List.set_cons_zero, List.set_cons_succ]
      refine wpAnyH_take (i := 13) (oi := ⟨some 33, _, _, _, _, _⟩) (v := _) rfl (by kernel_rfl) (by kernel_rfl) (by kernel_rfl) (fun _ _ _ h => h) (Or.inl ⟨by kernel_rfl, by intro w hSw; (try dsimp only at hSw); go_simp; try with_reducible rfl⟩) (by assumption) ?_
      simp only [Act.put, List.setIfInBounds_toArray, List.set_cons_zero, List.set_cons_succ]
      refine wpAnyH_take (i := 14) (oi := ⟨some 34, _, _, _, _, _⟩) (v := _) rfl (by kernel_rfl) (by kernel_rfl) (by kernel_rfl) (fun _ _ _ h => h) (Or.inl ⟨by kernel_rfl, by intro w hSw; (try dsimp only at hSw); go_simp; try with_reducible rfl⟩) (by assumption) ?_
      simp only [Act.put, List.setIfInBounds_toArray, List.set_cons_zero, List.set_cons_succ]
      refine wpAnyH_take (i := 15) (oi := ⟨some 35, _, _, _, _, _⟩) (v := _) rfl (by kernel_rfl) (by kernel_rfl) (by kernel_rfl) (fun _ _ _ h => h) (Or.inl ⟨by kernel_rfl, by intro w hSw; (try dsimp only at hSw); go_simp; try with_reducible rfl⟩) (by assumption) ?_
      simp only [Act.put, List.setIfInBounds_toArray, List.set_cons_zero, List.set_cons_succ]
      refine wpAnyH_take (i := 16) (oi := ⟨some 36, _, _, _, _, _⟩) (v := _) rfl (by kernel_rfl) (by kernel_rfl) (by kernel_rfl) (fun _ _ _ h => h) (Or.inl ⟨by kernel_rfl, by intro w hSw; (try dsimp only at hSw); go_simp; try with_reducible rfl⟩) (by assumption) ?_
      simp only [Act.put, List.setIfInBounds_toArray, List.set_cons_zero, List.set_cons_succ]
      refine wpAnyH_take (i := 17) (oi := ⟨some 37, _, _, _, _, _⟩) (v := _) rfl (by kernel_rfl) (by kernel_rfl) (by kernel_rfl) (fun _ _ _ h => h) (Or.inl ⟨by kernel_rfl, by intro w hSw; (try dsimp only at hSw); go_simp; try with_reducible rfl⟩) (by assumption) ?_
      simp only [Act.put, List.setIfInBounds_toArray, List.set_cons_zero, List.set_cons_succ]
      refine wpAnyH_take (i := 18) (oi := ⟨some 38, _, _, _, _, _⟩) (v := _) rfl (by kernel_rfl) (by kernel_rfl) (by kernel_rfl) (fun _ _ _ h => h) (Or.inl ⟨by kernel_rfl, by intro w hSw; (try dsimp only at hSw); go_simp; try with_reducible rfl⟩) (by assumption) ?_
      simp only [Act.put, List.setIfInBounds_toArray, List.set_cons_zero, List.set_cons_succ]
      refine wpAnyH_take (i := 19) (oi := ⟨some 39, _, _, _, _, _⟩) (v := _) rfl (by kernel_rfl) (by kernel_rfl) (by kernel_rfl) (fun _ _ _ h => h) (Or.inl ⟨by kernel_rfl, by intro w hSw; (try dsimp only at hSw); go_simp; try with_reducible rfl⟩) (by assumption) ?_
      simp only [Act.put, List.setIfInBounds_toArray, List.set_cons_zero, List.set_cons_succ]
      refine wpAnyH_take (i := 20) (oi := ⟨some 40, _, _, _, _, _⟩) (v := _) rfl (by kernel_rfl) (by kernel_rfl) (by kernel_rfl) (fun _ _ _ h => h) (Or.inl ⟨by kernel_rfl, by intro w hSw; (try dsimp only at hSw); go_simp; try with_reducible rfl⟩) (by assumption) ?_
      simp only [Act.put, List.setIfInBounds_toArray, List.set_cons_zero, List.set_cons_succ]
      refine wpAnyH_take (i := 21) (oi := ⟨some 41, _, _, _, _, _⟩) (v := _) rfl (by kernel_rfl) (by kernel_rfl) (by kernel_rfl) (fun _ _ _ h => h) (Or.inl ⟨by kernel_rfl, by intro w hSw; (try dsimp only at hSw); go_simp; try with_reducible rfl⟩) (by assumption) ?_
      simp only [Act.put, List.setIfInBounds_toArray, List.set_cons_zero, List.set_cons_succ]
      refine wpAnyH_take (i := 22) (oi := ⟨some 42, _, _, _, _, _⟩) (v := _) rfl (by kernel_rfl) (by kernel_rfl) (by kernel_rfl) (fun _ _ _ h => h) (Or.inl ⟨by kernel_rfl, by intro w hSw; (try dsimp only at hSw); go_simp; try with_reducible rfl⟩) (by assumption) ?_
      simp only [Act.put, List.setIfInBounds_toArray, List.set_cons_zero, List.set_cons_succ]
      refine wpAnyH_take (i := 23) (oi := ⟨some 43, _, _, _, _, _⟩) (v := _) rfl (by kernel_rfl) (by kernel_rfl) (by kernel_rfl) (fun _ _ _ h => h) (Or.inl ⟨by kernel_rfl, by intro w hSw; (try dsimp only at hSw); go_simp; try with_reducible rfl⟩) (by assumption) ?_
      simp only [Act.put, List.setIfInBounds_toArray, List.set_cons_zero, List.set_cons_succ]
      refine wpAnyH_take (i := 24) (oi := ⟨some 44, _, _, _, _, _⟩) (v := _) rfl (by kernel_rfl) (by kernel_rfl) (by kernel_rfl) (fun _ _ _ h => h) (Or.inl ⟨by kernel_rfl, by intro w hSw; (try dsimp only at hSw); go_simp; try with_reducible rfl⟩) (by assumption) ?_
      simp only [Act.put, List.setIfInBounds_toArray, List.set_cons_zero, List.set_cons_succ]
      refine wpAnyH_take (i := 25) (oi := ⟨some 45, _, _, _, _, _⟩) (v := _) rfl (by kernel_rfl) (by kernel_rfl) (by kernel_rfl) (fun _ _ _ h => h) (Or.inl ⟨by kernel_rfl, by intro w hSw; (try dsimp only at hSw); go_simp; try with_reducible rfl⟩) (by assumption) ?_
      simp only [Act.put, List.setIfInBounds_toArray, List.set_cons_zero, List.set_cons_succ]
      refine wpAnyH_ready (rs := [26]) (by kernel_rfl) (by simp) ?_
      refine AllReadyH.cons (o := ⟨some 46, _, _, _, _, _⟩) rfl (fun K hK => ?_) AllReadyH.nil
      go_simp
      go_at_call 23
      refine (equalReel_sameM l1 h1 l2 h2 _ _ _ _ (ge es k).ds _ (hd1.drewN 1) (by simp; omega) (hd2.drewN 1) (by simp; omega)).mono ?_
      rintro e x1 ⟨rfl, bx1⟩
      go_wp2_with fail
      refine hK.out _ _ ?_ (fun hHeld2 => ?_)
      · (first | (try dsimp only); go_keep | (go_split_ands; refine ⟨?_, ?_, ?_, ?_, ?_, ?_, ?_, ?_, ?_, ?_, ?_, ?_⟩ <;> first | exact keepB bx5 (by assumption) | exact keepB bx4 (by assumption) | exact keepB bx3 (by assumption) | exact keepB bx2 (by assumption) | exact keepB bx1 (by assumption) | exact keepO bo5 (by first | (simp; done) | (simp; omega)) (by assumption) | exact keepO bo4 (by first | (simp; done) | (simp; omega)) (by assumption) | exact keepO bo3 (by first | (simp; done) | (simp; omega)) (by assumption) | exact keepO bo2 (by first | (simp; done) | (simp; omega)) (by assumption) | exact keepO bo1 (by first | (simp; done) | (simp; omega)) (by assumption) | exact keepW bg2 (by first | (simp; done) | (simp; omega)) (by assumption) | exact keepW bg1 (by first | (simp; done) | (simp; omega)) (by assumption) | assumption))
      clear hK K hHeld
      have hHeld := hHeld2
      clear hHeld2
      try simp only [Act.put, List.setIfInBounds_toArray, List.set_cons_zero, List.set_cons_succ]
      refine wpAnyH_take (i := 27) (oi := ⟨some 47, _, _, _, _, _⟩) (v := _) rfl (by kernel_rfl) (by kernel_rfl) (by kernel_rfl) (fun _ _ _ h => h) (Or.inl ⟨by kernel_rfl, by intro w hSw; (try dsimp only at hSw); go_simp; try with_reducible rfl⟩) (by assumption) ?_
      simp only [Act.put, List.setIfInBounds_toArray, List.set_cons_zero, List.set_cons_succ]
      refine wpAnyH_take (i := 28) (oi := ⟨some 48, _, _, _, _, _⟩) (v := _) rfl (by kernel_rfl) (by kernel_rfl) (by kernel_rfl) (fun _ _ _ h => h) (Or.inl ⟨by kernel_rfl, by intro w hSw; (try dsimp only at hSw); go_simp; try with_reducible rfl⟩) (by assumption) ?_
      simp only [Act.put, List.setIfInBounds_toArray, List.set_cons_zero, List.set_cons_succ]
      refine wpAnyH_take (i := 29) (oi := ⟨some 49, _, _, _, _, _⟩) (v := _) rfl (by kernel_rfl) (by kernel_rfl) (by kernel_rfl) (fun _ _ _ h => h) (Or.inl ⟨by kernel_rfl, by intro w hSw; (try dsimp only at hSw); go_simp; try with_reducible rfl⟩) (by assumption) ?_
      simp only [Act.put, List.setIfInBounds_toArray, List.set_cons_zero, List.set_cons_succ]
      refine wpAnyH_take (i := 30) (oi := ⟨some 50, _, _, _, _, _⟩) (v := _) rfl (by kernel_rfl) (by kernel_rfl) (by kernel_rfl) (fun _ _ _ h => h) (Or.inl ⟨by kernel_rfl, by intro w hSw; (try dsimp only at hSw); go_simp; try with_reducible rfl⟩) (by assumption) ?_
      simp only [Act.put, List.setIfInBounds_toArray, List.set_cons_zero, List.set_cons_succ]
      refine wpAnyH_take (i := 31) (oi := ⟨some 51, _, _, _, _, _⟩) (v := _) rfl (by kernel_rfl) (by kernel_rfl) (by kernel_rfl) (fun _ _ _ h => h) (Or.inl ⟨by kernel_rfl, by intro w hSw; (try dsimp only at hSw); go_simp; try with_reducible rfl⟩) (by assumption) ?_
      simp only [Act.put, List.setIfInBounds_toArray, List.set_cons_zero, List.set_cons_succ]
      refine wpAnyH_take (i := 32) (oi := ⟨some 52, _, _, _, _, _⟩) (v := _) rfl (by kernel_rfl) (by kernel_rfl) (by kernel_rfl) (fun _ _ _ h => h) (Or.inl ⟨by kernel_rfl, by intro w hSw; (try dsimp only at hSw); go_simp; try with_reducible rfl⟩) (by assumption) ?_
      simp only [Act.put, List.setIfInBounds_toArray, List.set_cons_zero, List.set_cons_succ]
      refine wpAnyH_take (i := 33) (oi := ⟨some 53, _, _, _, _, _⟩) (v := _) rfl (by kernel_rfl) (by kernel_rfl) (by kernel_rfl) (fun _ _ _ h => h) (Or.inl ⟨by kernel_rfl, by intro w hSw; (try dsimp only at hSw); go_simp; try with_reducible rfl⟩) (by assumption) ?_
      simp only [Act.put, List.setIfInBounds_toArray, List.set_cons_zero, List.set_cons_succ]
      refine wpAnyH_take (i := 34) (oi := ⟨some 54, _, _, _, _, _⟩) (v := _) rfl (by kernel_rfl) (by kernel_rfl) (by kernel_rfl) (fun _ _ _ h => h) (Or.inl ⟨by kernel_rfl, by intro w hSw; (try dsimp only at hSw); go_simp; try with_reducible rfl⟩) (by assumption) ?_
      simp only [Act.put, List.setIfInBounds_toArray, List.set_cons_zero, List.set_cons_succ]
      refine wpAnyH_take (i := 35) (oi := ⟨some 55, _, _, _, _, _⟩) (v := _) rfl (by kernel_rfl) (by kernel_rfl) (by kernel_rfl) (fun _ _ _ h => h) (Or.inl ⟨by kernel_rfl, by intro w hSw; (try dsimp only at hSw); go_simp; try with_reducible rfl⟩) (by assumption) ?_
      simp only [Act.put, List.setIfInBounds_toArray, List.set_cons_zero, List.set_cons_succ]
      refine wpAnyH_take (i := 36) (oi := ⟨some 56, _, _, _, _, _⟩) (v := _) rfl (by kernel_rfl) (by kernel_rfl) (by kernel_rfl) (fun _ _ _ h => h) (Or.inl ⟨by kernel_rfl, by intro w hSw; (try dsimp only at hSw); go_simp; try with_reducible rfl⟩) (by assumption) ?_
      simp only [Act.put, List.setIfInBounds_toArray, List.set_cons_zero, List.set_cons_succ]
      refine wpAnyH_take (i := 37) (oi := ⟨some 57, _, _, _, _, _⟩) (v := _) rfl (by kernel_rfl) (by kernel_rfl) (by kernel_rfl) (fun _ _ _ h => h) (Or.inl ⟨by kernel_rfl, by intro w hSw; (try dsimp only at hSw); go_simp; try with_reducible rfl⟩) (by assumption) ?_
      simp only [Act.put, List.setIfInBounds_toArray, List.set_cons_zero, List.set_cons_succ]
      refine wpAnyH_take (i := 38) (oi := ⟨some 58, _, _, _, _, _⟩) (v := _) rfl (by kernel_rfl) (by kernel_rfl) (by kernel_rfl) (fun _ _ _ h => h) (Or.inl ⟨by kernel_rfl, by intro w hSw; (try dsimp only at hSw); go_simp; try with_reducible rfl⟩) (by assumption) ?_
      simp only [Act.put, List.setIfInBounds_toArray, List.set_cons_zero, List.set_cons_succ]
      refine wpAnyH_take (i := 39) (oi := ⟨some 59, _, _, _, _, _⟩) (v := _) rfl (by kernel_rfl) (by kernel_rfl) (by kernel_rfl) (fun _ _ _ h => h) (Or.inl ⟨by kernel_rfl, by intro w hSw; (try dsimp only at hSw); go_simp; try with_reducible rfl⟩) (by assumption) ?_
      simp only [Act.put, List.setIfInBounds_toArray, List.set_cons_zero, List.set_cons_succ]
      refine wpAnyH_take (i := 40) (oi := ⟨some 60, _, _, _, _, _⟩) (v := _) rfl (by kernel_rfl) (by kernel_rfl) (by kernel_rfl) (fun _ _ _ h => h) (Or.inl ⟨by kernel_rfl, by intro w hSw; (try dsimp only at hSw); go_simp; try with_reducible rfl⟩) (by assumption) ?_
      simp only [Act.put, List.setIfInBounds_toArray, List.set_cons_zero, List.set_cons_succ]
      refine wpAnyH_take (i := 41) (oi := ⟨some 61, _, _, _, _, _⟩) (v := _) rfl (by kernel_rfl) (by kernel_rfl) (by kernel_rfl) (fun _ _ _ h => h) (Or.inl ⟨by kernel_rfl, by intro w hSw; (try dsimp only at hSw); go_simp; try with_reducible rfl⟩) (by assumption) ?_
      simp only [Act.put, List.setIfInBounds_toArray, List.set_cons_zero, List.set_cons_succ]
      refine wpAnyH_ready (rs := [42]) (by kernel_rfl) (by simp) ?_
      refine AllReadyH.cons (o := ⟨some 62, _, _, _, _, _⟩) rfl (fun K hK => ?_) AllReadyH.nil
      go_simp
      go_at_call 24
      refine (equalParts_sameM l1 h1 l2 h2 _ _ (ge es k).ps _ ((hp1.drewN 1).below bx1 (by simp; omega)) (by have := bx1.size; simp at this; omega) ((hp2.drewN 1).below bx1 (by simp; omega)) (by have := bx1.size; simp at this; omega)).mono ?_
      rintro e x2 ⟨rfl, bx2⟩
      go_wp2_with fail
      refine hK.out _ _ ?_ (fun hHeld2 => ?_)
      · (first | (try dsimp only); go_keep | (go_split_ands; refine ⟨?_, ?_, ?_, ?_, ?_, ?_, ?_, ?_, ?_, ?_, ?_, ?_⟩ <;> first | exact keepB bx5 (by assumption) | exact keepB bx4 (by assumption) | exact keepB bx3 (by assumption) | exact keepB bx2 (by assumption) | exact keepB bx1 (by assumption) | exact keepO bo5 (by first | (simp; done) | (simp; omega)) (by assumption) | exact keepO bo4 (by first | (simp; done) | (simp; omega)) (by assumption) | exact keepO bo3 (by first | (simp; done) | (simp; omega)) (by assumption) | exact keepO bo2 (by first | (simp; done) | (simp; omega)) (by assumption) | exact keepO bo1 (by first | (simp; done) | (simp; omega)) (by assumption) | exact keepW bg2 (by first | (simp; done) | (simp; omega)) (by assumption) | exact keepW bg1 (by first | (simp; done) | (simp; omega)) (by assumption) | assumption))
      clear hK K hHeld
      have hHeld := hHeld2
      clear hHeld2
      try simp only [Act.put, List.setIfInBounds_toArray, List.set_cons_zero, List.set_cons_succ]
      refine wpAnyH_take (i := 43) (oi := ⟨some 63, _, _, _, _, _⟩) (v := _) rfl (by kernel_rfl) (by kernel_rfl) (by kernel_rfl) (fun _ _ _ h => h) (Or.inl ⟨by kernel_rfl, by intro w hSw; (try dsimp only at hSw); go_simp; try with_reducible rfl⟩) (by assumption) ?_
      simp only [Act.put, List.setIfInBounds_toArray, List.set_cons_zero, List.set_cons_succ]
      refine wpAnyH_take (i := 44) (oi := ⟨some 64, _, _, _, _, _⟩) (v := _) rfl (by kernel_rfl) (by kernel_rfl) (by kernel_rfl) (fun _ _ _ h => h) (Or.inl ⟨by kernel_rfl, by intro w hSw; (try dsimp only at hSw); go_simp; try with_reducible rfl⟩) (by assumption) ?_
      simp only [Act.put, List.setIfInBounds_toArray, List.set_cons_zero, List.set_cons_succ]
      refine wpAnyH_done (by kernel_rfl) ?_ _
      have bx3 := (of_drew bx1).trans (bx2.mono (by have := (of_drew bx1).size; omega))
      have Hq2 := Lib.hid (Hq.out.trans (bx3.mono hz2))
      clear bx1 bx2 bx3 Hq
      go_wp2
      go_roundw
      case rel => exact ⟨k + 1, by omega, by go_num, Hq2.out⟩
      case measure => simp [intOf]; omega
    · have g1 : (a == a) = true := beq_t rfl
      have g2 : (b == b) = true := beq_t rfl
      have g3 : (z == z) = true := beq_t rfl
      have Hq := Lib.hid hq
      clear hq
      go_wp2
      go_ret
      exact ⟨rfl, hb0.trans (Hq.out.mono (by omega))⟩

def ve (evs : List Evt) (k : Nat) : Evt := evs.getD k ⟨0, 0, 0, 0, 0, 0, 0⟩
theorem ve_eq {evs : List Evt} {k : Nat} (h : k < evs.length) : ve evs k = evs[k] := by simp [ve, h]
theorem ve_row {evs : List Evt} {k : Nat} (h : k < evs.length) : gr (evT evs) k = (ve evs k).row := by
  rw [gr_eq (by rw [evT_len]; exact h), ve_eq h]; simp [evT]
theorem take_ve {evs : List Evt} {k : Nat} (h : k < evs.length) : evs.take (k + 1) = evs.take k ++ [ve evs k] := by rw [ve_eq h]; exact List.take_succ_eq_append_getElem h
theorem ve_v64 {w : World} {lo hi : Nat} {v : Value} {evs : List Evt} (h : TS w lo hi 7 v (evT evs)) {k : Nat} (hk : k < evs.length) : V64 (ve evs k) := by
  have h1 := (h.all _ (gr_mem (i := k) (by rw [evT_len]; exact hk))).2
  rw [ve_row hk] at h1
  unfold Evt.row at h1
  refine ⟨h1 _ ?_, h1 _ ?_, h1 _ ?_, h1 _ ?_, h1 _ ?_, h1 _ ?_, h1 _ ?_⟩ <;> simp
theorem runB_append : ∀ (m : Mil) (l1 l2 : List Evt), runB m (l1 ++ l2) = (runB m l1).bind fun m' => runB m' l2
  | _, [], _ => rfl
  | m, e :: t, l2 => by
    rw [List.cons_append, runB, runB]
    cases apE m e with
    | none => rfl
    | some m1 => exact runB_append m1 t l2
theorem runB_stop {evs : List Evt} {k : Nat} {m : Mil} (hk : k < evs.length) (h : runB Mil.nil (evs.take k) = some m) (h2 : apE m (ve evs k) = none) : runB Mil.nil evs = none := by
  have e : evs = evs.take k ++ (ve evs k :: evs.drop (k + 1)) := by
    rw [ve_eq hk, List.getElem_cons_drop, List.take_append_drop]
  rw [e, runB_append, h]
  show runB m (ve evs k :: _) = none
  rw [runB, h2]
theorem runB_one {evs : List Evt} {k : Nat} {m m2 : Mil} (hk : k < evs.length) (h : runB Mil.nil (evs.take k) = some m) (h2 : apE m (ve evs k) = some m2) : runB Mil.nil (evs.take (k + 1)) = some m2 := by
  rw [take_ve hk]; exact runB_next h h2
/-- what a book makes of an empty mill, if it is not too long -/
def rbV (evs : List Evt) : Option Mil := if evs.length ≤ 60 then runB Mil.nil evs else none
/-- what a call returns that makes something of a mill, opened -/
def GenR (r : Option Mil) (rs : Bool) (es : List Ent) (a b z : Int) : Prop := (rs = true ∧ r = some ⟨es, a, b, z⟩) ∨ (rs = false ∧ r = none)
theorem GenR.mk (r : Option Mil) : GenR r r.isSome (r.getD Mil.nil).es (r.getD Mil.nil).a (r.getD Mil.nil).b (r.getD Mil.nil).z := by
  cases r with
  | none => exact .inr ⟨rfl, rfl⟩
  | some m => exact .inl ⟨rfl, rfl⟩
theorem ApPost.gen {w w' : World} {r : Option Mil} {e : Ending} (h : ApPost w r e w') : ∃ (A : Option Addr) (n c : Nat) (a b z : Int) (rs : Bool), e = .returned (.tuple #[.agg #[.slice A n c, .int .i64 a, .int .i64 b, .int .i64 z], .bool rs]) ∧ Below w.heap.size w w' ∧ Hid (∃ es : List Ent, n = es.length ∧ ES w' w.heap.size w'.heap.size (.slice A n c) es ∧ GenR r rs es a b z) := by
  obtain ⟨v, rfl, he, hb⟩ := h
  obtain ⟨A, c, rfl, _⟩ := he.form
  exact ⟨A, _, c, _, _, _, _, rfl, hb, ⟨_, rfl, he, .mk r⟩⟩
theorem OpPost.gen {w w' : World} {r : Option Mil} {e : Ending} (h : OpPost w r e w') : ∃ (A : Option Addr) (n c : Nat) (a b z : Int) (rs : Bool), e = .returned (.tuple #[.agg #[.slice A n c, .int .i64 a, .int .i64 b, .int .i64 z], .bool rs]) ∧ Below w.heap.size w w' ∧ Hid (∃ es : List Ent, n = es.length ∧ OwnE w' w.heap.size w'.heap.size 61 71 36 (.slice A n c) es ∧ GenR r rs es a b z) := by
  obtain ⟨v, rfl, he, hb⟩ := h
  obtain ⟨A, c, rfl, _⟩ := he.form
  exact ⟨A, _, c, _, _, _, _, rfl, hb, ⟨_, rfl, he, .mk r⟩⟩
set_option maxRecDepth 100000 in
set_option maxHeartbeats 8000000 in
theorem runBook_any (lo hi : Nat) (v : Value) (evs : List Evt) (w : World) (h : TS w lo hi 7 v (evT evs)) (hhi : hi ≤ w.heap.size) (hl : evs.length ≤ 1000) :
    Calls Tryz.prog 25 #[v] w fun e w' => ApPost w (runB Mil.nil evs) e w' := by
  obtain ⟨A, c, rfl, hc, hm⟩ := h.form
  rw [evT_len] at hc ⊢
  have hts : ∀ w1, Below w.heap.size w w1 → TS w1 lo hi 7 (.slice A evs.length c) (evT evs) := fun w1 hb => by have := h.below hb hhi; rw [evT_len] at this; exact this
  clear h
  have Hs := Lib.hid (show ∃ w1, w1 = (w.alloc (.cells #[.slice none 0 0, .int .i64 0, .int .i64 0, .int .i64 0] 29)).alloc (.cells #[.slice none 0 0, .int .i64 0, .int .i64 0, .int .i64 0] 29) ∧ Below w.heap.size w w1 ∧ MB w1 w.heap.size (.slice none 0 0) 0 0 0 ∧ MB w1 (w.heap.size + 1) (.slice none 0 0) 0 0 0 ∧ w.heap.size + 1 + 1 ≤ w1.heap.size from by
    refine ⟨_, rfl, ((Below.refl _ _).alloc (Nat.le_refl _) _).alloc (by simp) _, ?_, ?_, by simp⟩
    · refine Eq.trans ?_ (heap_alloc_new w (.cells #[.slice none 0 0, .int .i64 0, .int .i64 0, .int .i64 0] 29))
      exact ((Below.refl _ _).alloc (Nat.le_refl _) _).block _ (by simp)
    · have := heap_alloc_new (w.alloc (.cells #[.slice none 0 0, .int .i64 0, .int .i64 0, .int .i64 0] 29)) (.cells #[.slice none 0 0, .int .i64 0, .int .i64 0, .int .i64 0] 29)
      unfold MB
      simpa using this)
  go_enter Tryz.func25, Tryz.ntmps25
  go_wp2
  obtain ⟨w1, hw1, hb0, hma, hmb, hz1⟩ := Hs.out
  rw [← hw1]
  clear hw1 Hs
  go_loopw [5] (fun i wr => ∃ (k : Nat) (m : Mil) (A1 : Option Addr) (c1 : Nat), k ≤ evs.length ∧ i = .int .i64 k ∧ Below w.heap.size w wr ∧ MB wr (w.heap.size + 1) (.slice A1 m.es.length c1) m.a m.b m.z ∧ MB wr w.heap.size (.slice none 0 0) 0 0 0 ∧ ES wr (w.heap.size + 1 + 1) wr.heap.size (.slice A1 m.es.length c1) m.es ∧ w.heap.size + 1 + 1 ≤ wr.heap.size ∧ Hid (runB Mil.nil (evs.take k) = some m ∧ m.ok = true)) (fun i _ => evs.length - (intOf i).toNat)
  case atStart => exact ⟨0, Mil.nil, none, 0, by omega, rfl, hb0, hmb, hma, ES.nil _ _ _, hz1, ⟨rfl, nil_ok⟩⟩
  case round =>
    clear hma hmb hb0
    obtain ⟨k, ⟨es, a, b, z⟩, A1, c1, hk, rfl, bw, hmb, hma, hes, hzr, HK⟩ := hrel
    dsimp only at hmb hes
    obtain ⟨⟨c00, c01, c02, c03⟩, ⟨f00, f01, f02, f03⟩⟩ := hma.cells
    obtain ⟨⟨c10, c11, c12, c13⟩, ⟨f10, f11, f12, f13⟩⟩ := hmb.cells
    have Hmb := Lib.hid hmb
    have Hma := Lib.hid hma
    have Hes := Lib.hid hes
    clear hmb hma hes
    by_cases hlt : k < evs.length
    · obtain ⟨b9, o, rfl, _, hb9h, e0, e1, e2, e3, e4, e5, e6⟩ := (hts wr bw).c7 (by rw [evT_len]; exact hlt)
      have h64 := ve_v64 (hts wr bw) hlt
      rw [ve_row hlt] at e0 e1 e2 e3 e4 e5 e6
      have hk0 : (0 : Int) ≤ (k : Int) := by omega
      have hk1 : (k : Int) < (evs.length : Int) := by omega
      have Hb := Lib.hid bw
      have HST := Lib.hid (fun h2 => runB_stop hlt HK.out.1 h2)
      have HON := Lib.hid (fun m2 h2 => runB_one (m2 := m2) hlt HK.out.1 h2)
      have HOK := Lib.hid HK.out.2
      obtain ⟨E, hE⟩ : ∃ E, E = ve evs k := ⟨_, rfl⟩
      rw [← hE] at e0 e1 e2 e3 e4 e5 e6 h64 HST HON
      obtain ⟨ek, lb, l, r, f, t, g⟩ := E
      replace e0 : wr.cell? ⟨b9, o + k * 7, none⟩ = some (.int .i64 ek) := e0
      replace e1 : wr.cell? ⟨b9, o + k * 7 + 1, none⟩ = some (.int .i64 lb) := e1
      replace e2 : wr.cell? ⟨b9, o + k * 7 + 2, none⟩ = some (.int .i64 l) := e2
      replace e3 : wr.cell? ⟨b9, o + k * 7 + 3, none⟩ = some (.int .i64 r) := e3
      replace e4 : wr.cell? ⟨b9, o + k * 7 + 4, none⟩ = some (.int .i64 f) := e4
      replace e5 : wr.cell? ⟨b9, o + k * 7 + 5, none⟩ = some (.int .i64 t) := e5
      replace e6 : wr.cell? ⟨b9, o + k * 7 + 6, none⟩ = some (.int .i64 g) := e6
      have H64 := Lib.hid h64
      clear hE h64 bw HK
      go_wp2
      refine wp_region_held_drew (S := fun w' => w'.cell? ⟨w.heap.size + 1, 0, none⟩ = some (.slice A1 es.length c1) ∧ w'.cell? ⟨w.heap.size + 1, 1, none⟩ = some (.int .i64 a) ∧ w'.cell? ⟨w.heap.size + 1, 2, none⟩ = some (.int .i64 b) ∧ w'.cell? ⟨w.heap.size + 1, 3, none⟩ = some (.int .i64 z) ∧ w'.cell? ⟨b9, o + k * 7, none⟩ = some (.int .i64 ek) ∧ w'.cell? ⟨b9, o + k * 7 + 1, none⟩ = some (.int .i64 lb) ∧ w'.cell? ⟨b9, o + k * 7 + 2, none⟩ = some (.int .i64 l) ∧ w'.cell? ⟨b9, o + k * 7 + 3, none⟩ = some (.int .i64 r) ∧ w'.cell? ⟨b9, o + k * 7 + 4, none⟩ = some (.int .i64 f) ∧ w'.cell? ⟨b9, o + k * 7 + 5, none⟩ = some (.int .i64 t) ∧ w'.cell? ⟨b9, o + k * 7 + 6, none⟩ = some (.int .i64 g)) (by kernel_rfl) ?_ (fun hHeld => ?_)
      · (first | (try dsimp only); go_keep | (go_split_ands; refine ⟨?_, ?_, ?_, ?_, ?_, ?_, ?_, ?_, ?_, ?_, ?_⟩ <;> first | exact keepB bx5 (by assumption) | exact keepB bx4 (by assumption) | exact keepB bx3 (by assumption) | exact keepB bx2 (by assumption) | exact keepB bx1 (by assumption) | exact keepO bo5 (by first | (simp; done) | (simp; omega)) (by assumption) | exact keepO bo4 (by first | (simp; done) | (simp; omega)) (by assumption) | exact keepO bo3 (by first | (simp; done) | (simp; omega)) (by assumption) | exact keepO bo2 (by first | (simp; done) | (simp; omega)) (by assumption) | exact keepO bo1 (by first | (simp; done) | (simp; omega)) (by assumption) | exact keepW bg2 (by first | (simp; done) | (simp; omega)) (by assumption) | exact keepW bg1 (by first | (simp; done) | (simp; omega)) (by assumption) | assumption))
      refine wpAnyH_take (i := 0) (oi := ⟨some 16, _, _, _, _, _⟩) (v := _) rfl (by kernel_rfl) (by kernel_rfl) (by kernel_rfl) (fun _ _ _ h => h) (Or.inl ⟨by kernel_rfl, by intro w hSw; (try dsimp only at hSw); go_simp; try with_reducible rfl⟩) (by assumption) ?_
      simp only [Act.put, List.setIfInBounds_toArray, List.set_cons_zero, List.set_cons_succ]
      refine wpAnyH_take (i := 1) (oi := ⟨some 17, _, _, _, _, _⟩) (v := _) rfl (by kernel_rfl) (by kernel_rfl) (by kernel_rfl) (fun _ _ _ h => h) (Or.inl ⟨by kernel_rfl, by intro w hSw; (try dsimp only at hSw); go_simp; try with_reducible rfl⟩) (by assumption) ?_
      simp only [Act.put, List.setIfInBounds_toArray, List.set_cons_zero, List.set_cons_succ]
      refine wpAnyH_take (i := 2) (oi := ⟨some 18, _, _, _, _, _⟩) (v := _) rfl (by kernel_rfl) (by kernel_rfl) (by kernel_rfl) (fun _ _ _ h => h) (Or.inl ⟨by kernel_rfl, by intro w hSw; (try dsimp only at hSw); go_simp; try with_reducible rfl⟩) (by assumption) ?_
      simp only [Act.put, List.setIfInBounds_toArray, List.set_cons_zero, List.set_cons_succ]
      refine wpAnyH_take (i := 3) (oi := ⟨some 19, _, _, _, _, _⟩) (v := _) rfl (by kernel_rfl) (by kernel_rfl) (by kernel_rfl) (fun _ _ _ h => h) (Or.inl ⟨by kernel_rfl, by intro w hSw; (try dsimp only at hSw); go_simp; try with_reducible rfl⟩) (by assumption) ?_
      simp only [Act.put, List.setIfInBounds_toArray, List.set_cons_zero, List.set_cons_succ]
      refine wpAnyH_take (i := 4) (oi := ⟨some 20, _, _, _, _, _⟩) (v := _) rfl (by kernel_rfl) (by kernel_rfl) (by kernel_rfl) (fun _ _ _ h => h) (Or.inl ⟨by kernel_rfl, by intro w hSw; (try dsimp only at hSw); go_simp; try with_reducible rfl⟩) (by assumption) ?_
      simp only [Act.put, List.setIfInBounds_toArray, List.set_cons_zero, List.set_cons_succ]
      refine wpAnyH_ready (rs := [5, 9]) (by kernel_rfl) (by simp) (AllReadyH.cons (o := ⟨some 21, _, _, _, _, _⟩) rfl (fun K hK => ?_) (AllReadyH.cons (o := ⟨some 6, _, _, _, _, _⟩) rfl (fun K hK => ?_) (AllReadyH.nil)))
      focus
        go_simp
        go_at_call 45
        refine (applyEvent_any (w.heap.size + 1 + 1) wr.heap.size _ ⟨es, a, b, z⟩ ⟨ek, lb, l, r, f, t, g⟩ _ (Hes.out.drewN 1) (by simp) HOK.out H64.out).mono ?_
        intro e x6 hpost
        obtain ⟨A6, n6, c6, ra, rb, rz, rs, rfl, b6, HG⟩ := hpost.gen
        clear hpost
        have b7 := of_drew b6
        have hz7 := b7.size
        replace c10 := keepB b7 c10; replace c11 := keepB b7 c11; replace c12 := keepB b7 c12; replace c13 := keepB b7 c13; replace e0 := keepB b7 e0; replace e1 := keepB b7 e1; replace e2 := keepB b7 e2; replace e3 := keepB b7 e3; replace e4 := keepB b7 e4; replace e5 := keepB b7 e5; replace e6 := keepB b7 e6
        go_wp2_with fail
        refine hK.out _ _ ?_ (fun hHeld2 => ?_)
        · (first | (try dsimp only); go_keep | (go_split_ands; refine ⟨?_, ?_, ?_, ?_, ?_, ?_, ?_, ?_, ?_, ?_, ?_⟩ <;> first | exact keepB bx5 (by assumption) | exact keepB bx4 (by assumption) | exact keepB bx3 (by assumption) | exact keepB bx2 (by assumption) | exact keepB bx1 (by assumption) | exact keepO bo5 (by first | (simp; done) | (simp; omega)) (by assumption) | exact keepO bo4 (by first | (simp; done) | (simp; omega)) (by assumption) | exact keepO bo3 (by first | (simp; done) | (simp; omega)) (by assumption) | exact keepO bo2 (by first | (simp; done) | (simp; omega)) (by assumption) | exact keepO bo1 (by first | (simp; done) | (simp; omega)) (by assumption) | exact keepW bg2 (by first | (simp; done) | (simp; omega)) (by assumption) | exact keepW bg1 (by first | (simp; done) | (simp; omega)) (by assumption) | assumption))
        clear hK K hHeld
        have hHeld := hHeld2
        clear hHeld2
        try simp only [Act.put, List.setIfInBounds_toArray, List.set_cons_zero, List.set_cons_succ]
        refine wpAnyH_take (i := 6) (oi := ⟨some 15, _, _, _, _, _⟩) (v := _) rfl (by kernel_rfl) (by kernel_rfl) (by kernel_rfl) (fun _ _ _ h => h) (Or.inl ⟨by kernel_rfl, by intro w hSw; (try dsimp only at hSw); go_simp; try with_reducible rfl⟩) (by assumption) ?_
        simp only [Act.put, List.setIfInBounds_toArray, List.set_cons_zero, List.set_cons_succ]
        refine wpAnyH_take (i := 7) (oi := ⟨some 22, _, _, _, _, _⟩) (v := _) rfl (by kernel_rfl) (by kernel_rfl) (by kernel_rfl) (fun _ _ _ h => h) (Or.inl ⟨by kernel_rfl, by intro w hSw; (try dsimp only at hSw); go_simp; try with_reducible rfl⟩) (by assumption) ?_
        simp only [Act.put, List.setIfInBounds_toArray, List.set_cons_zero, List.set_cons_succ]
        refine wpAnyH_take (i := 8) (oi := ⟨some 23, _, _, _, _, _⟩) (v := _) rfl (by kernel_rfl) (by kernel_rfl) (by kernel_rfl) (fun _ _ _ h => h) (Or.inl ⟨by kernel_rfl, by intro w hSw; (try dsimp only at hSw); go_simp; try with_reducible rfl⟩) (by assumption) ?_
        simp only [Act.put, List.setIfInBounds_toArray, List.set_cons_zero, List.set_cons_succ]
        refine wpAnyH_ready (rs := [9]) (by kernel_rfl) (by simp) ?_
        refine AllReadyH.cons (o := ⟨some 6, _, _, _, _, _⟩) rfl (fun K hK => ?_) AllReadyH.nil
        go_simp
        refine hK.out _ _ ?_ (fun hHeld2 => ?_)
        · (first | (try dsimp only); go_keep | (go_split_ands; refine ⟨?_, ?_, ?_, ?_, ?_, ?_, ?_, ?_, ?_, ?_, ?_⟩ <;> first | exact keepB bx5 (by assumption) | exact keepB bx4 (by assumption) | exact keepB bx3 (by assumption) | exact keepB bx2 (by assumption) | exact keepB bx1 (by assumption) | exact keepO bo5 (by first | (simp; done) | (simp; omega)) (by assumption) | exact keepO bo4 (by first | (simp; done) | (simp; omega)) (by assumption) | exact keepO bo3 (by first | (simp; done) | (simp; omega)) (by assumption) | exact keepO bo2 (by first | (simp; done) | (simp; omega)) (by assumption) | exact keepO bo1 (by first | (simp; done) | (simp; omega)) (by assumption) | exact keepW bg2 (by first | (simp; done) | (simp; omega)) (by assumption) | exact keepW bg1 (by first | (simp; done) | (simp; omega)) (by assumption) | assumption))
        clear hK K hHeld
        have hHeld := hHeld2
        clear hHeld2
        try simp only [Act.put, List.setIfInBounds_toArray, List.set_cons_zero, List.set_cons_succ]
        refine wpAnyH_ready (rs := [10]) (by kernel_rfl) (by simp) ?_
        refine AllReadyH.cons (o := ⟨none, _, _, _, _, _⟩) rfl (fun K hK => ?_) AllReadyH.nil
        go_simp
        refine hK.out _ _ ?_ (fun hHeld2 => ?_)
        · (first | (try dsimp only); go_keep | (go_split_ands; refine ⟨?_, ?_, ?_, ?_, ?_, ?_, ?_, ?_, ?_, ?_, ?_⟩ <;> first | exact keepB bx5 (by assumption) | exact keepB bx4 (by assumption) | exact keepB bx3 (by assumption) | exact keepB bx2 (by assumption) | exact keepB bx1 (by assumption) | exact keepO bo5 (by first | (simp; done) | (simp; omega)) (by assumption) | exact keepO bo4 (by first | (simp; done) | (simp; omega)) (by assumption) | exact keepO bo3 (by first | (simp; done) | (simp; omega)) (by assumption) | exact keepO bo2 (by first | (simp; done) | (simp; omega)) (by assumption) | exact keepO bo1 (by first | (simp; done) | (simp; omega)) (by assumption) | exact keepW bg2 (by first | (simp; done) | (simp; omega)) (by assumption) | exact keepW bg1 (by first | (simp; done) | (simp; omega)) (by assumption) | assumption))
        clear hK K hHeld
        have hHeld := hHeld2
        clear hHeld2
        try simp only [Act.put, List.setIfInBounds_toArray, List.set_cons_zero, List.set_cons_succ]
        refine wpAnyH_take (i := 11) (oi := ⟨some 7, _, _, _, _, _⟩) (v := _) rfl (by kernel_rfl) (by kernel_rfl) (by kernel_rfl) (fun _ _ _ h => h) (Or.inl ⟨by kernel_rfl, by intro w hSw; (try dsimp only at hSw); go_simp; try with_reducible rfl⟩) (by assumption) ?_
        simp only [Act.put, List.setIfInBounds_toArray, List.set_cons_zero, List.set_cons_succ]
        refine wpAnyH_done (by kernel_rfl) ?_ _
      rotate_left 1
      focus
        go_simp
        refine hK.out _ _ ?_ (fun hHeld2 => ?_)
        · (first | (try dsimp only); go_keep | (go_split_ands; refine ⟨?_, ?_, ?_, ?_, ?_, ?_, ?_, ?_, ?_, ?_, ?_⟩ <;> first | exact keepB bx5 (by assumption) | exact keepB bx4 (by assumption) | exact keepB bx3 (by assumption) | exact keepB bx2 (by assumption) | exact keepB bx1 (by assumption) | exact keepO bo5 (by first | (simp; done) | (simp; omega)) (by assumption) | exact keepO bo4 (by first | (simp; done) | (simp; omega)) (by assumption) | exact keepO bo3 (by first | (simp; done) | (simp; omega)) (by assumption) | exact keepO bo2 (by first | (simp; done) | (simp; omega)) (by assumption) | exact keepO bo1 (by first | (simp; done) | (simp; omega)) (by assumption) | exact keepW bg2 (by first | (simp; done) | (simp; omega)) (by assumption) | exact keepW bg1 (by first | (simp; done) | (simp; omega)) (by assumption) | assumption))
        clear hK K hHeld
        have hHeld := hHeld2
        clear hHeld2
        try simp only [Act.put, List.setIfInBounds_toArray, List.set_cons_zero, List.set_cons_succ]
        refine wpAnyH_ready (rs := [5]) (by kernel_rfl) (by simp) ?_
        refine AllReadyH.cons (o := ⟨some 21, _, _, _, _, _⟩) rfl (fun K hK => ?_) AllReadyH.nil
        go_simp
        obtain ⟨wq, hwq⟩ : ∃ wq, wq = (wr.alloc (.cells #[.slice none 0 0, .int .i64 0, .int .i64 0, .int .i64 0] 29)).drew := ⟨_, rfl⟩
        have bq : Below wr.heap.size wr wq := by rw [hwq]; exact ((Below.refl _ _).alloc (Nat.le_refl _) _).trans ((Qt.one _ 1).below _)
        have hzq : wr.heap.size < wq.heap.size := by rw [hwq]; simp
        have hqb : MB wq wr.heap.size (.slice none 0 0) 0 0 0 := by rw [hwq]; exact heap_alloc_new wr _
        obtain ⟨⟨d0, d1, d2, d3⟩, ⟨fd0, fd1, fd2, fd3⟩⟩ := hqb.cells
        have Hqb := Lib.hid hqb
        clear hqb
        have hne1 : ¬ wr.heap.size = w.heap.size + 1 := by omega
        have hne2 : ¬ wr.heap.size = b9 := by omega
        rw [← hwq]
        clear hwq
        replace c10 := keepB bq c10; replace c11 := keepB bq c11; replace c12 := keepB bq c12; replace c13 := keepB bq c13; replace e0 := keepB bq e0; replace e1 := keepB bq e1; replace e2 := keepB bq e2; replace e3 := keepB bq e3; replace e4 := keepB bq e4; replace e5 := keepB bq e5; replace e6 := keepB bq e6
        refine (applyEvent_any (w.heap.size + 1 + 1) wr.heap.size _ ⟨es, a, b, z⟩ ⟨ek, lb, l, r, f, t, g⟩ wq (Hes.out.below bq (Nat.le_refl _)) (by omega) HOK.out H64.out).mono ?_
        intro e x6 hpost
        obtain ⟨A6, n6, c6, ra, rb, rz, rs, rfl, b6, HG⟩ := hpost.gen
        clear hpost
        have b7 := bq.trans (b6.mono (by omega))
        have hz7 := b7.size
        replace c10 := keepB b6 c10; replace c11 := keepB b6 c11; replace c12 := keepB b6 c12; replace c13 := keepB b6 c13; replace e0 := keepB b6 e0; replace e1 := keepB b6 e1; replace e2 := keepB b6 e2; replace e3 := keepB b6 e3; replace e4 := keepB b6 e4; replace e5 := keepB b6 e5; replace e6 := keepB b6 e6; replace d0 := keepB b6 d0; replace d1 := keepB b6 d1; replace d2 := keepB b6 d2; replace d3 := keepB b6 d3
        replace fd0 := keepF b6 (by first | (simp; done) | (simp; omega)) fd0; replace fd1 := keepF b6 (by first | (simp; done) | (simp; omega)) fd1; replace fd2 := keepF b6 (by first | (simp; done) | (simp; omega)) fd2; replace fd3 := keepF b6 (by first | (simp; done) | (simp; omega)) fd3
        go_wp2_with fail
        refine hK.out _ _ ?_ (fun hHeld2 => ?_)
        · (first | (try dsimp only); go_keep | (go_split_ands; refine ⟨?_, ?_, ?_, ?_, ?_, ?_, ?_, ?_, ?_, ?_, ?_⟩ <;> first | exact keepB bx5 (by assumption) | exact keepB bx4 (by assumption) | exact keepB bx3 (by assumption) | exact keepB bx2 (by assumption) | exact keepB bx1 (by assumption) | exact keepO bo5 (by first | (simp; done) | (simp; omega)) (by assumption) | exact keepO bo4 (by first | (simp; done) | (simp; omega)) (by assumption) | exact keepO bo3 (by first | (simp; done) | (simp; omega)) (by assumption) | exact keepO bo2 (by first | (simp; done) | (simp; omega)) (by assumption) | exact keepO bo1 (by first | (simp; done) | (simp; omega)) (by assumption) | exact keepW bg2 (by first | (simp; done) | (simp; omega)) (by assumption) | exact keepW bg1 (by first | (simp; done) | (simp; omega)) (by assumption) | assumption))
        clear hK K hHeld
        have hHeld := hHeld2
        clear hHeld2
        try simp only [Act.put, List.setIfInBounds_toArray, List.set_cons_zero, List.set_cons_succ]
        refine wpAnyH_take (i := 6) (oi := ⟨some 15, _, _, _, _, _⟩) (v := _) rfl (by kernel_rfl) (by kernel_rfl) (by kernel_rfl) (fun _ _ _ h => h) (Or.inl ⟨by kernel_rfl, by intro w hSw; (try dsimp only at hSw); go_simp; try with_reducible rfl⟩) (by assumption) ?_
        simp only [Act.put, List.setIfInBounds_toArray, List.set_cons_zero, List.set_cons_succ]
        refine wpAnyH_take (i := 7) (oi := ⟨some 22, _, _, _, _, _⟩) (v := _) rfl (by kernel_rfl) (by kernel_rfl) (by kernel_rfl) (fun _ _ _ h => h) (Or.inl ⟨by kernel_rfl, by intro w hSw; (try dsimp only at hSw); go_simp; try with_reducible rfl⟩) (by assumption) ?_
        simp only [Act.put, List.setIfInBounds_toArray, List.set_cons_zero, List.set_cons_succ]
        refine wpAnyH_take (i := 8) (oi := ⟨some 23, _, _, _, _, _⟩) (v := _) rfl (by kernel_rfl) (by kernel_rfl) (by kernel_rfl) (fun _ _ _ h => h) (Or.inl ⟨by kernel_rfl, by intro w hSw; (try dsimp only at hSw); go_simp; try with_reducible rfl⟩) (by assumption) ?_
        simp only [Act.put, List.setIfInBounds_toArray, List.set_cons_zero, List.set_cons_succ]
        refine wpAnyH_ready (rs := [10]) (by kernel_rfl) (by simp) ?_
        refine AllReadyH.cons (o := ⟨none, _, _, _, _, _⟩) rfl (fun K hK => ?_) AllReadyH.nil
        go_simp
        refine hK.out _ _ ?_ (fun hHeld2 => ?_)
        · (first | (try dsimp only); go_keep | (go_split_ands; refine ⟨?_, ?_, ?_, ?_, ?_, ?_, ?_, ?_, ?_, ?_, ?_⟩ <;> first | exact keepB bx5 (by assumption) | exact keepB bx4 (by assumption) | exact keepB bx3 (by assumption) | exact keepB bx2 (by assumption) | exact keepB bx1 (by assumption) | exact keepO bo5 (by first | (simp; done) | (simp; omega)) (by assumption) | exact keepO bo4 (by first | (simp; done) | (simp; omega)) (by assumption) | exact keepO bo3 (by first | (simp; done) | (simp; omega)) (by assumption) | exact keepO bo2 (by first | (simp; done) | (simp; omega)) (by assumption) | exact keepO bo1 (by first | (simp; done) | (simp; omega)) (by assumption) | exact keepW bg2 (by first | (simp; done) | (simp; omega)) (by assumption) | exact keepW bg1 (by first | (simp; done) | (simp; omega)) (by assumption) | assumption))
        clear hK K hHeld
        have hHeld := hHeld2
        clear hHeld2
        try simp only [Act.put, List.setIfInBounds_toArray, List.set_cons_zero, List.set_cons_succ]
        refine wpAnyH_take (i := 11) (oi := ⟨some 7, _, _, _, _, _⟩) (v := _) rfl (by kernel_rfl) (by kernel_rfl) (by kernel_rfl) (fun _ _ _ h => h) (Or.inl ⟨by kernel_rfl, by intro w hSw; (try dsimp only at hSw); go_simp; try with_reducible rfl⟩) (by assumption) ?_
        simp only [Act.put, List.setIfInBounds_toArray, List.set_cons_zero, List.set_cons_succ]
        refine wpAnyH_done (by kernel_rfl) ?_ _
      rotate_left 1
      focus
        obtain ⟨wq, hwq⟩ : ∃ wq, wq = x6.alloc (.cells #[.slice A6 n6 c6, .int .i64 ra, .int .i64 rb, .int .i64 rz] 29) := ⟨_, rfl⟩
        have bq : Below x6.heap.size x6 wq := by rw [hwq]; exact (Below.refl _ _).alloc (Nat.le_refl _) _
        have HX : Hid (MB wq x6.heap.size (.slice A6 n6 c6) ra rb rz) := by rw [hwq]; exact heap_alloc_new x6 _
        have HB9 := Lib.hid (b7.trans (bq.mono hz7))
        have hzQ : wr.heap.size < wq.heap.size := by have := HX.out.lt; omega
        have HE : Hid (∃ es' : List Ent, n6 = es'.length ∧ ES wq (w.heap.size + 1 + 1) wq.heap.size (.slice A6 n6 c6) es' ∧ GenR (apE ⟨es, a, b, z⟩ ⟨ek, lb, l, r, f, t, g⟩) rs es' ra rb rz) := by
          obtain ⟨es', q1, q2, q3⟩ := HG.out
          exact ⟨es', q1, (q2.below bq (Nat.le_refl _)).wide (by show _ ≤ wr.heap.size; omega) bq.size, q3⟩
        obtain ⟨X, hX⟩ : ∃ X, X = x6.heap.size := ⟨_, rfl⟩
        rw [← hX] at HX
        rw [← hX]
        have hXw : wr.heap.size ≤ X := by omega
        rw [← hwq]
        clear hwq bq hX b6 b7 hz7 HG
      rotate_left 1
      focus
        obtain ⟨w8, hw8⟩ : ∃ w8, w8 = (((x6.setCell ⟨wr.heap.size, 0, none⟩ (.slice A6 n6 c6)).setCell ⟨wr.heap.size, 1, none⟩ (.int .i64 ra)).setCell ⟨wr.heap.size, 2, none⟩ (.int .i64 rb)).setCell ⟨wr.heap.size, 3, none⟩ (.int .i64 rz) := ⟨_, rfl⟩
        have hz8 : w8.heap.size = x6.heap.size := by rw [hw8]; simp [World.setCell]
        have HX : Hid (MB w8 wr.heap.size (.slice A6 n6 c6) ra rb rz) := by rw [hw8]; exact ((((Hqb.out.below b6 hzq).set0 _).set1 _).set2 _).set3 _
        have HB9 := Lib.hid (show Below wr.heap.size wr w8 by rw [hw8]; exact (((b7.setCell (p := ⟨_, _, _⟩) (Nat.le_refl _) _).setCell (p := ⟨_, _, _⟩) (Nat.le_refl _) _).setCell (p := ⟨_, _, _⟩) (Nat.le_refl _) _).setCell (p := ⟨_, _, _⟩) (Nat.le_refl _) _)
        have hzQ : wr.heap.size < w8.heap.size := by have := b6.size; omega
        have HE : Hid (∃ es' : List Ent, n6 = es'.length ∧ ES w8 (w.heap.size + 1 + 1) w8.heap.size (.slice A6 n6 c6) es' ∧ GenR (apE ⟨es, a, b, z⟩ ⟨ek, lb, l, r, f, t, g⟩) rs es' ra rb rz) := by
          obtain ⟨es', q1, q2, q3⟩ := HG.out
          refine ⟨es', q1, ?_, q3⟩
          rw [hw8]
          refine ES.wide (lo := wq.heap.size) (hi := x6.heap.size) (q2.kept fun q hq _ => ?_) (by omega) (by simp [World.setCell])
          simp only [World.setCell, Array.getElem?_modify, if_neg (show ¬ wr.heap.size = q by have h1 : wq.heap.size ≤ q := hq; omega)]
        obtain ⟨X, hX⟩ : ∃ X, X = wr.heap.size := ⟨_, rfl⟩
        rw [← hw8]
        rw [← hX] at HX
        have hXw : wr.heap.size ≤ X := by omega
        clear d0 d1 d2 d3 fd0 fd1 fd2 fd3 Hqb hne1 hne2 hw8
        rw [← hX]
        clear b6 b7 hz7 HG hX bq hzq hz8 wq
        rename World => wq
      all_goals
        have hmq := Hmb.out.below HB9.out (by omega)
        have haq := Hma.out.below HB9.out (by omega)
        have Hbq := Lib.hid (Hb.out.trans (HB9.out.mono (by omega)))
        obtain ⟨⟨p00, p01, p02, p03⟩, ⟨g00, g01, g02, g03⟩⟩ := haq.cells
        obtain ⟨⟨p10, p11, p12, p13⟩, ⟨g10, g11, g12, g13⟩⟩ := hmq.cells
        obtain ⟨⟨p20, p21, p22, p23⟩, _⟩ := HX.out.cells
        obtain ⟨es', hn6, hes', hG⟩ := HE.out
        subst hn6
        have Hmq := Lib.hid hmq
        have Haq := Lib.hid haq
        have Hes' := Lib.hid hes'
        have hne1 : ¬ w.heap.size + 1 = X := by omega
        have hne2 : ¬ X = w.heap.size + 1 := by omega
        clear hmq haq hes' HE HB9 HX Hmb Hma Hb c00 c01 c02 c03 c10 c11 c12 c13 f00 f01 f02 f03 f10 f11 f12 f13 e0 e1 e2 e3 e4 e5 e6
        rcases hG with ⟨rfl, hr⟩ | ⟨rfl, hr⟩
        · have HS := Lib.hid (HON.out _ hr)
          have HK' := Lib.hid (apE_ok hr)
          clear HON HST hr HOK H64
          go_wp2
          obtain ⟨w9, hw9⟩ : ∃ w9, w9 = (((wq.setCell ⟨w.heap.size + 1, 0, none⟩ (.slice A6 es'.length c6)).setCell ⟨w.heap.size + 1, 1, none⟩ (.int .i64 ra)).setCell ⟨w.heap.size + 1, 2, none⟩ (.int .i64 rb)).setCell ⟨w.heap.size + 1, 3, none⟩ (.int .i64 rz) := ⟨_, rfl⟩
          have hz9 : w9.heap.size = wq.heap.size := by rw [hw9]; simp [World.setCell]
          have ex : ∀ q, ¬ w.heap.size + 1 = q → w9.heap[q]? = wq.heap[q]? := fun q hq => by rw [hw9]; simp only [World.setCell, Array.getElem?_modify, if_neg hq]
          have HM9 := Lib.hid (show MB w9 (w.heap.size + 1) (.slice A6 es'.length c6) ra rb rz by rw [hw9]; exact (((Hmq.out.set0 _).set1 _).set2 _).set3 _)
          have HA9 := Lib.hid (Haq.out.kept (ex _ (by omega)))
          have HE9 := Lib.hid (show ES w9 (w.heap.size + 1 + 1) w9.heap.size (.slice A6 es'.length c6) es' from (Hes'.out.kept fun q hq _ => ex q (by omega)).wide (Nat.le_refl _) (by omega))
          have HB9 := Lib.hid (show Below w.heap.size w w9 by rw [hw9]; exact (((Hbq.out.setCell (p := ⟨_, _, _⟩) (by simp) _).setCell (p := ⟨_, _, _⟩) (by simp) _).setCell (p := ⟨_, _, _⟩) (by simp) _).setCell (p := ⟨_, _, _⟩) (by simp) _)
          rw [← hw9]
          clear hw9 ex
          go_roundw
          case rel => exact ⟨k + 1, ⟨es', ra, rb, rz⟩, A6, c6, by omega, by go_num, HB9.out, HM9.out, HA9.out, HE9.out, by omega, ⟨HS.out, HK'.out⟩⟩
          case measure => simp [intOf]; omega
        · have HS := Lib.hid (HST.out hr)
          clear HON HST hr HOK H64
          go_wp2
          refine bodyPost_ret (v := .tuple #[.agg #[.slice none 0 0, .int .i64 0, .int .i64 0, .int .i64 0], .bool false]) (by simp [results, Tryz.results25, go_sem, *]) rfl ?_
          rw [HS.out]
          exact ApPost.none (((((Hbq.out.setCell (p := ⟨_, _, _⟩) (by simp) _).setCell (p := ⟨_, _, _⟩) (by simp) _).setCell (p := ⟨_, _, _⟩) (by simp) _).setCell (p := ⟨_, _, _⟩) (by simp) _))
    · have hke : k = evs.length := by omega
      have HS := Lib.hid (show runB Mil.nil evs = some ⟨es, a, b, z⟩ by have := HK.out.1; rw [hke, List.take_length] at this; exact this)
      have hnk : ¬ (k : Int) < (evs.length : Int) := by omega
      have Hb := Lib.hid bw
      clear HK bw hts
      obtain ⟨w9, hw9⟩ : ∃ w9, w9 = (((wr.setCell ⟨w.heap.size, 0, none⟩ (.slice A1 es.length c1)).setCell ⟨w.heap.size, 1, none⟩ (.int .i64 a)).setCell ⟨w.heap.size, 2, none⟩ (.int .i64 b)).setCell ⟨w.heap.size, 3, none⟩ (.int .i64 z) := ⟨_, rfl⟩
      have HE9 := Lib.hid (show ES w9 (w.heap.size + 1 + 1) wr.heap.size (.slice A1 es.length c1) es by
        rw [hw9]
        exact Hes.out.kept fun q hq _ => by simp only [World.setCell, Array.getElem?_modify, if_neg (show ¬ w.heap.size = q by omega)])
      have HB9 := Lib.hid (show Below w.heap.size w w9 by rw [hw9]; exact (((Hb.out.setCell (p := ⟨_, _, _⟩) (by simp) _).setCell (p := ⟨_, _, _⟩) (by simp) _).setCell (p := ⟨_, _, _⟩) (by simp) _).setCell (p := ⟨_, _, _⟩) (by simp) _)
      have HZ9 := Lib.hid (show w9.heap.size = wr.heap.size by rw [hw9]; simp [World.setCell])
      have Hw9 := Lib.hid hw9
      clear hw9
      go_wp2
      refine bodyPost_ret (v := .tuple #[.agg #[.slice A1 es.length c1, .int .i64 a, .int .i64 b, .int .i64 z], .bool true]) (by simp [results, Tryz.results25, go_sem, *]) rfl ?_
      rw [← Hw9.out, HS.out]
      exact ApPost.some HB9.out (HE9.out.wide (by omega) (by have := HZ9.out; omega))

set_option maxRecDepth 100000 in
set_option maxHeartbeats 4000000 in
theorem sRunBook_any (lo hi : Nat) (v : Value) (evs : List Evt) (w : World) (h : TS w lo hi 7 v (evT evs)) (hhi : hi ≤ w.heap.size) :
    Calls Tryz.prog 12 #[v] w fun e w' => ApPost w (rbV evs) e w' := by
  obtain ⟨A, c, rfl, hc, hm⟩ := h.form
  rw [evT_len] at hc ⊢
  have hts : ∀ w1, Below w.heap.size w w1 → TS w1 lo hi 7 (.slice A evs.length c) (evT evs) := fun w1 hb => by have := h.below hb hhi; rw [evT_len] at this; exact this
  clear h
  have Hs := Lib.hid (show ∃ w1, w1 = (w.alloc (.cells #[.slice none 0 0, .int .i64 0, .int .i64 0, .int .i64 0] 29)) ∧ Below w.heap.size w w1 ∧ w1.cell? ⟨w.heap.size, 0, none⟩ = some (.slice none 0 0) ∧ w1.cell? ⟨w.heap.size, 1, none⟩ = some (.int .i64 0) ∧ w1.cell? ⟨w.heap.size, 2, none⟩ = some (.int .i64 0) ∧ w1.cell? ⟨w.heap.size, 3, none⟩ = some (.int .i64 0) ∧ w1.frozen? ⟨w.heap.size, 0, none⟩ = false ∧ w1.frozen? ⟨w.heap.size, 1, none⟩ = false ∧ w1.frozen? ⟨w.heap.size, 2, none⟩ = false ∧ w1.frozen? ⟨w.heap.size, 3, none⟩ = false ∧ w.heap.size < w1.heap.size from by
    have hb : Below w.heap.size w (w.alloc (.cells #[.slice none 0 0, .int .i64 0, .int .i64 0, .int .i64 0] 29)) := (Below.refl _ _).alloc (Nat.le_refl _) _
    exact ⟨_, rfl, hb, by go_simp, by go_simp, by go_simp, by go_simp, by go_simp, by go_simp, by go_simp, by go_simp, by simp⟩)
  by_cases hl : evs.length ≤ 60
  · have hnl : ¬ (60 : Int) < (evs.length : Int) := by omega
    have hnl2 : ¬ (evs.length : Int) > 60 := by omega
    go_enter Tryz.func12, Tryz.ntmps12
    go_wp2_with fail
    obtain ⟨w1, hw1, hb0, c00, c01, c02, c03, f00, f01, f02, f03, hz⟩ := Hs.out
    rw [← hw1]
    clear hw1 Hs
    refine (runBook_any lo hi _ evs w1 (hts w1 hb0) (by omega) (by omega)).mono ?_
    intro e w3 hpost
    obtain ⟨v3, rfl, he3, b3⟩ := hpost
    replace c00 := keepB b3 c00; replace c01 := keepB b3 c01; replace c02 := keepB b3 c02; replace c03 := keepB b3 c03
    replace f00 := keepF b3 (by first | (simp; done) | (simp; omega)) f00; replace f01 := keepF b3 (by first | (simp; done) | (simp; omega)) f01; replace f02 := keepF b3 (by first | (simp; done) | (simp; omega)) f02; replace f03 := keepF b3 (by first | (simp; done) | (simp; omega)) f03
    have Hb := Lib.hid (hb0.trans (b3.mono (by omega)))
    have HR2 := Lib.hid (show rbV evs = runB Mil.nil evs by unfold rbV; rw [if_pos hl])
    obtain ⟨r, hr⟩ : ∃ r, r = runB Mil.nil evs := ⟨_, rfl⟩
    rw [← hr] at he3 HR2 ⊢
    obtain ⟨A3, c3, hv3, _⟩ := he3.form
    obtain ⟨n3, hn3⟩ : ∃ n, n = (r.getD Mil.nil).es.length := ⟨_, rfl⟩
    rw [← hn3] at hv3
    subst hv3
    have He := Lib.hid he3
    have hs3 := b3.size
    clear b3 hb0 hts hr hn3 he3
    obtain ⟨w9, hw9⟩ : ∃ w9, w9 = (((w3.setCell ⟨w.heap.size, 0, none⟩ (.slice A3 n3 c3)).setCell ⟨w.heap.size, 1, none⟩ (.int .i64 (r.getD Mil.nil).a)).setCell ⟨w.heap.size, 2, none⟩ (.int .i64 (r.getD Mil.nil).b)).setCell ⟨w.heap.size, 3, none⟩ (.int .i64 (r.getD Mil.nil).z) := ⟨_, rfl⟩
    have HE9 := Lib.hid (show ES w9 w1.heap.size w3.heap.size (.slice A3 n3 c3) (r.getD Mil.nil).es by
      rw [hw9]
      exact He.out.kept fun q hq _ => by simp only [World.setCell, Array.getElem?_modify, if_neg (show ¬ w.heap.size = q by omega)])
    have HB9 := Lib.hid (show Below w.heap.size w w9 by rw [hw9]; exact (((Hb.out.setCell (p := ⟨_, _, _⟩) (by simp) _).setCell (p := ⟨_, _, _⟩) (by simp) _).setCell (p := ⟨_, _, _⟩) (by simp) _).setCell (p := ⟨_, _, _⟩) (by simp) _)
    have HZ9 := Lib.hid (show w9.heap.size = w3.heap.size by rw [hw9]; simp [World.setCell])
    have Hw9 := Lib.hid hw9
    clear hw9
    go_wp2
    refine bodyPost_ret (v := .tuple #[.agg #[.slice A3 n3 c3, .int .i64 (r.getD Mil.nil).a, .int .i64 (r.getD Mil.nil).b, .int .i64 (r.getD Mil.nil).z], .bool r.isSome]) (by simp [results, Tryz.results12, go_sem, *]) rfl ?_
    rw [← Hw9.out, HR2.out]
    exact ⟨_, rfl, HE9.out.wide (by omega) (by have := HZ9.out; omega), HB9.out⟩
  · have hnl : (60 : Int) < (evs.length : Int) := by omega
    have hnl2 : (evs.length : Int) > 60 := by omega
    have HR := Lib.hid (show rbV evs = none by unfold rbV; rw [if_neg hl])
    have Hb := Lib.hid (show Below w.heap.size w (w.alloc (.cells #[.slice none 0 0, .int .i64 0, .int .i64 0, .int .i64 0] 29)) from (Below.refl _ _).alloc (Nat.le_refl _) _)
    clear hts Hs
    go_enter Tryz.func12, Tryz.ntmps12
    go_wp2
    refine bodyPost_ret (v := .tuple #[.agg #[.slice none 0 0, .int .i64 0, .int .i64 0, .int .i64 0], .bool false]) (by simp [results, Tryz.results12, go_sem, *]) rfl ?_
    rw [HR.out]
    exact ApPost.none Hb.out
theorem Mil.i64 {m : Mil} (h : m.ok = true) : I64 m.a ∧ I64 m.b ∧ I64 m.z := by
  have hv := vMill_iff.1 h
  exact ⟨⟨by omega, by omega⟩, ⟨by omega, by omega⟩, ⟨by omega, by omega⟩⟩
theorem apV_ok {m : Mil} (e : Evt) (h : m.ok = true) : apV m e = apE m e := by unfold apV; rw [if_pos h]
set_option maxRecDepth 100000 in
set_option maxHeartbeats 8000000 in
theorem RunBook_any (lo hi : Nat) (v : Value) (evs : List Evt) (w : World) (h : TS w lo hi 7 v (evT evs)) (hhi : hi ≤ w.heap.size) :
    Calls Tryz.prog 9 #[v] w fun e w' => OpPost w (rbV evs) e w' := by
  obtain ⟨A, c, rfl, hc, hm⟩ := h.form
  rw [evT_len] at hc ⊢
  have hts : ∀ w1, Below w.heap.size w w1 → TS w1 lo hi 7 (.slice A evs.length c) (evT evs) := fun w1 hb => by have := h.below hb hhi; rw [evT_len] at this; exact this
  clear h
  by_cases hl : evs.length ≤ 60
  rotate_left
  · have hnl : (60 : Int) < (evs.length : Int) := by omega
    have hnl2 : (evs.length : Int) > 60 := by omega
    have HR := Lib.hid (show rbV evs = none by unfold rbV; rw [if_neg hl])
    have Hb := Lib.hid (show Below w.heap.size w (w.alloc (.cells #[.slice none 0 0, .int .i64 0, .int .i64 0, .int .i64 0] 29)) from (Below.refl _ _).alloc (Nat.le_refl _) _)
    clear hts
    go_enter Tryz.func9, Tryz.ntmps9
    go_wp2
    refine bodyPost_ret (v := .tuple #[.agg #[.slice none 0 0, .int .i64 0, .int .i64 0, .int .i64 0], .bool false]) (by simp [results, Tryz.results9, go_sem, *]) rfl ?_
    rw [HR.out]
    refine OpPost.none ?_
    first | exact Hb.out | exact ((Below.refl _ _).alloc (Nat.le_refl _) _) | exact (((((Hb.out.setCell (p := ⟨_, _, _⟩) (by simp) _).setCell (p := ⟨_, _, _⟩) (by simp) _).setCell (p := ⟨_, _, _⟩) (by simp) _).setCell (p := ⟨_, _, _⟩) (by simp) _))
  have hnl : ¬ (60 : Int) < (evs.length : Int) := by omega
  have hnl2 : ¬ (evs.length : Int) > 60 := by omega
  have HR2 := Lib.hid (show rbV evs = runB Mil.nil evs by unfold rbV; rw [if_pos hl])
  have Hs := Lib.hid (show ∃ w1, w1 = (w.alloc (.cells #[.slice none 0 0, .int .i64 0, .int .i64 0, .int .i64 0] 29)).alloc (.cells #[.slice none 0 0, .int .i64 0, .int .i64 0, .int .i64 0] 29) ∧ Below w.heap.size w w1 ∧ MB w1 w.heap.size (.slice none 0 0) 0 0 0 ∧ MB w1 (w.heap.size + 1) (.slice none 0 0) 0 0 0 ∧ w.heap.size + 1 + 1 ≤ w1.heap.size from by
    refine ⟨_, rfl, ((Below.refl _ _).alloc (Nat.le_refl _) _).alloc (by simp) _, ?_, ?_, by simp⟩
    · refine Eq.trans ?_ (heap_alloc_new w (.cells #[.slice none 0 0, .int .i64 0, .int .i64 0, .int .i64 0] 29))
      exact ((Below.refl _ _).alloc (Nat.le_refl _) _).block _ (by simp)
    · have := heap_alloc_new (w.alloc (.cells #[.slice none 0 0, .int .i64 0, .int .i64 0, .int .i64 0] 29)) (.cells #[.slice none 0 0, .int .i64 0, .int .i64 0, .int .i64 0] 29)
      unfold MB
      simpa using this)
  go_enter Tryz.func9, Tryz.ntmps9
  go_wp2
  obtain ⟨w1, hw1, hb0, hma, hmb, hz1⟩ := Hs.out
  rw [← hw1]
  clear hw1 Hs
  go_loopw [15] (fun i wr => ∃ (k : Nat) (m : Mil) (A1 : Option Addr) (c1 : Nat), k ≤ evs.length ∧ i = .int .i64 k ∧ Below w.heap.size w wr ∧ MB wr (w.heap.size + 1) (.slice A1 m.es.length c1) m.a m.b m.z ∧ MB wr w.heap.size (.slice none 0 0) 0 0 0 ∧ OwnE wr (w.heap.size + 1 + 1) wr.heap.size 61 71 36 (.slice A1 m.es.length c1) m.es ∧ w.heap.size + 1 + 1 ≤ wr.heap.size ∧ Hid (runB Mil.nil (evs.take k) = some m ∧ m.ok = true)) (fun i _ => evs.length - (intOf i).toNat)
  case atStart => exact ⟨0, Mil.nil, none, 0, by omega, rfl, hb0, hmb, hma, OwnE.nil _ _ _ _ _ _, hz1, ⟨rfl, nil_ok⟩⟩
  case round =>
    clear hma hmb hb0
    obtain ⟨k, ⟨es, a, b, z⟩, A1, c1, hk, rfl, bw, hmb, hma, hes, hzr, HK⟩ := hrel
    dsimp only at hmb hes
    have hmb1 := hmb
    have hma1 := hma
    obtain ⟨⟨c00, c01, c02, c03⟩, ⟨f00, f01, f02, f03⟩⟩ := hma1.cells
    obtain ⟨⟨c10, c11, c12, c13⟩, ⟨f10, f11, f12, f13⟩⟩ := hmb1.cells
    have Hmb := Lib.hid hmb
    have Hma := Lib.hid hma
    have Hes := Lib.hid hes
    clear hmb hma hes hmb1 hma1
    by_cases hlt : k < evs.length
    · obtain ⟨b9, o, rfl, _, hb9h, e0, e1, e2, e3, e4, e5, e6⟩ := (hts wr bw).c7 (by rw [evT_len]; exact hlt)
      have h64 := ve_v64 (hts wr bw) hlt
      rw [ve_row hlt] at e0 e1 e2 e3 e4 e5 e6
      have hk0 : (0 : Int) ≤ (k : Int) := by omega
      have hk1 : (k : Int) < (evs.length : Int) := by omega
      have Hb := Lib.hid bw
      have HST := Lib.hid (fun h2 => runB_stop hlt HK.out.1 h2)
      have HON := Lib.hid (fun m2 h2 => runB_one (m2 := m2) hlt HK.out.1 h2)
      have HOK := Lib.hid HK.out.2
      obtain ⟨E, hE⟩ : ∃ E, E = ve evs k := ⟨_, rfl⟩
      rw [← hE] at e0 e1 e2 e3 e4 e5 e6 h64 HST HON
      obtain ⟨ek, lb, l, r, f, t, g⟩ := E
      replace e0 : wr.cell? ⟨b9, o + k * 7, none⟩ = some (.int .i64 ek) := e0
      replace e1 : wr.cell? ⟨b9, o + k * 7 + 1, none⟩ = some (.int .i64 lb) := e1
      replace e2 : wr.cell? ⟨b9, o + k * 7 + 2, none⟩ = some (.int .i64 l) := e2
      replace e3 : wr.cell? ⟨b9, o + k * 7 + 3, none⟩ = some (.int .i64 r) := e3
      replace e4 : wr.cell? ⟨b9, o + k * 7 + 4, none⟩ = some (.int .i64 f) := e4
      replace e5 : wr.cell? ⟨b9, o + k * 7 + 5, none⟩ = some (.int .i64 t) := e5
      replace e6 : wr.cell? ⟨b9, o + k * 7 + 6, none⟩ = some (.int .i64 g) := e6
      have H64 := Lib.hid h64
      clear hE h64 bw HK
      have hbd : Below wr.heap.size wr (wr.alloc (.cells #[.int .i64 ek, .int .i64 lb, .int .i64 l, .int .i64 r, .int .i64 f, .int .i64 t, .int .i64 g] 38)) := (Below.refl _ _).alloc (Nat.le_refl _) _
      have x_c10 := keepB hbd c10
      have x_c11 := keepB hbd c11
      have x_c12 := keepB hbd c12
      have x_c13 := keepB hbd c13
      go_wp2_with fail
      clear hbd x_c10 x_c11 x_c12 x_c13
      obtain ⟨wa, hw1⟩ : ∃ wa, wa = wr.alloc (.cells #[.int .i64 ek, .int .i64 lb, .int .i64 l, .int .i64 r, .int .i64 f, .int .i64 t, .int .i64 g] 38) := ⟨_, rfl⟩
      have y_0 : wa.cell? ⟨wr.heap.size, 0, none⟩ = some (.int .i64 ek) := by rw [hw1]; go_simp
      have y_1 : wa.cell? ⟨wr.heap.size, 1, none⟩ = some (.int .i64 lb) := by rw [hw1]; go_simp
      have y_2 : wa.cell? ⟨wr.heap.size, 2, none⟩ = some (.int .i64 l) := by rw [hw1]; go_simp
      have y_3 : wa.cell? ⟨wr.heap.size, 3, none⟩ = some (.int .i64 r) := by rw [hw1]; go_simp
      have y_4 : wa.cell? ⟨wr.heap.size, 4, none⟩ = some (.int .i64 f) := by rw [hw1]; go_simp
      have y_5 : wa.cell? ⟨wr.heap.size, 5, none⟩ = some (.int .i64 t) := by rw [hw1]; go_simp
      have y_6 : wa.cell? ⟨wr.heap.size, 6, none⟩ = some (.int .i64 g) := by rw [hw1]; go_simp
      have by_ : Below wr.heap.size wr wa := by rw [hw1]; exact (Below.refl _ _).alloc (Nat.le_refl _) _
      have zy_ : wr.heap.size < wa.heap.size := by rw [hw1]; simp
      rw [← hw1]
      clear hw1
      have Hes1 := Lib.hid (Hes.out.below by_ (Nat.le_refl _))
      have Hba := Lib.hid by_
      have hmba := Hmb.out.below by_ (by omega)
      clear by_ Hes
      refine (ApplyEvent_any (w.heap.size + 1 + 1) wr.heap.size _ ⟨es, a, b, z⟩ ⟨ek, lb, l, r, f, t, g⟩ wa Hes1.out.es (by omega) (Mil.i64 HOK.out) H64.out).mono ?_
      intro e x6 hpost
      rw [apV_ok _ HOK.out] at hpost
      obtain ⟨A6, n6, c6, ra, rb, rz, rs, rfl, b6, HG⟩ := hpost.gen
      clear hpost
      have Hb7 := Lib.hid (Hba.out.trans (b6.mono (by omega)))
      have hz7 : wa.heap.size ≤ x6.heap.size := b6.size
      have hmq := Hmb.out.below Hb7.out (by omega)
      have haq := Hma.out.below Hb7.out (by omega)
      have Hbq := Lib.hid (Hb.out.trans (Hb7.out.mono (by omega)))
      have Hmq := Lib.hid hmq
      have Haq := Lib.hid haq
      obtain ⟨⟨p00, p01, p02, p03⟩, ⟨g00, g01, g02, g03⟩⟩ := haq.cells
      obtain ⟨⟨p10, p11, p12, p13⟩, ⟨g10, g11, g12, g13⟩⟩ := hmq.cells
      obtain ⟨es', hn6, hes', hG⟩ := HG.out
      subst hn6
      have Hes' := Lib.hid hes'
      clear hmq haq hes' HG b6 Hmb Hma Hb Hba hmba c00 c01 c02 c03 c10 c11 c12 c13 f00 f01 f02 f03 f10 f11 f12 f13 e0 e1 e2 e3 e4 e5 e6 y_0 y_1 y_2 y_3 y_4 y_5 y_6
      have hx1 : w.heap.size + 1 < x6.heap.size := by omega
      have hx2 : w.heap.size < x6.heap.size := by omega
      rcases hG with ⟨rfl, hr⟩ | ⟨rfl, hr⟩
      · have HS := Lib.hid (HON.out _ hr)
        have HK' := Lib.hid (apE_ok hr)
        clear HON HST hr HOK H64
        go_wp2
        obtain ⟨w8, hw8⟩ : ∃ w8, w8 = (((x6.setCell ⟨w.heap.size + 1, 0, none⟩ (.slice A6 es'.length c6)).setCell ⟨w.heap.size + 1, 1, none⟩ (.int .i64 ra)).setCell ⟨w.heap.size + 1, 2, none⟩ (.int .i64 rb)).setCell ⟨w.heap.size + 1, 3, none⟩ (.int .i64 rz) := ⟨_, rfl⟩
        have hz8 : w8.heap.size = x6.heap.size := by rw [hw8]; simp [World.setCell]
        have ex : ∀ q, ¬ w.heap.size + 1 = q → w8.heap[q]? = x6.heap[q]? := fun q hq => by rw [hw8]; simp only [World.setCell, Array.getElem?_modify, if_neg hq]
        have hm8 : MB w8 (w.heap.size + 1) (.slice A6 es'.length c6) ra rb rz := by rw [hw8]; exact (((Hmq.out.set0 _).set1 _).set2 _).set3 _
        have ha8 := Haq.out.kept (ex _ (by omega))
        have he8 : OwnE w8 (w.heap.size + 1 + 1) x6.heap.size 61 71 36 (.slice A6 es'.length c6) es' := (Hes'.out.kept fun q hq _ => ex q (by omega)).wide (by omega) (Nat.le_refl _)
        have hb8 : Below w.heap.size w w8 := by rw [hw8]; exact (((Hbq.out.setCell (p := ⟨_, _, _⟩) (by simp) _).setCell (p := ⟨_, _, _⟩) (by simp) _).setCell (p := ⟨_, _, _⟩) (by simp) _).setCell (p := ⟨_, _, _⟩) (by simp) _
        rw [← hw8]
        clear hw8 ex
        obtain ⟨w9, hw9⟩ : ∃ w9, w9 = w8.alloc (.cells #[.slice A6 es'.length c6, .int .i64 ra, .int .i64 rb, .int .i64 rz] 29) := ⟨_, rfl⟩
        have b9' : Below w8.heap.size w8 w9 := by rw [hw9]; exact (Below.refl _ _).alloc (Nat.le_refl _) _
        have HM9 := Lib.hid (hm8.below b9' (by omega))
        have HA9 := Lib.hid (ha8.below b9' (by omega))
        have HE9 := Lib.hid ((he8.below b9' (by omega)).wide (Nat.le_refl _) (show x6.heap.size ≤ w9.heap.size by have := b9'.size; omega))
        have HB9 := Lib.hid (hb8.trans (b9'.mono (by omega)))
        have hz9 : w8.heap.size ≤ w9.heap.size := b9'.size
        rw [← hw9]
        clear hw9 hm8 ha8 he8 hb8 b9'
        go_roundw
        case rel => exact ⟨k + 1, ⟨es', ra, rb, rz⟩, A6, c6, by omega, by go_num, HB9.out, HM9.out, HA9.out, HE9.out, by omega, ⟨HS.out, HK'.out⟩⟩
        case measure => simp [intOf]; omega
      · have HS := Lib.hid (HST.out hr)
        clear HON HST hr HOK H64
        go_wp2
        refine bodyPost_ret (v := .tuple #[.agg #[.slice none 0 0, .int .i64 0, .int .i64 0, .int .i64 0], .bool false]) (by simp [results, Tryz.results9, go_sem, *]) rfl ?_
        rw [HR2.out, HS.out]
        exact OpPost.none ((((((Hbq.out.setCell (p := ⟨_, _, _⟩) (by simp) _).setCell (p := ⟨_, _, _⟩) (by simp) _).setCell (p := ⟨_, _, _⟩) (by simp) _).setCell (p := ⟨_, _, _⟩) (by simp) _)).alloc (by simp [World.setCell]; omega) _)
    · have hke : k = evs.length := by omega
      have HS := Lib.hid (show rbV evs = some ⟨es, a, b, z⟩ by have := HK.out.1; rw [hke, List.take_length] at this; rw [HR2.out]; exact this)
      have hnk : ¬ (k : Int) < (evs.length : Int) := by omega
      have Hb := Lib.hid bw
      clear HK bw hts
      obtain ⟨w9, hw9⟩ : ∃ w9, w9 = (((wr.setCell ⟨w.heap.size, 0, none⟩ (.slice A1 es.length c1)).setCell ⟨w.heap.size, 1, none⟩ (.int .i64 a)).setCell ⟨w.heap.size, 2, none⟩ (.int .i64 b)).setCell ⟨w.heap.size, 3, none⟩ (.int .i64 z) := ⟨_, rfl⟩
      have HE9 := Lib.hid (show OwnE w9 (w.heap.size + 1 + 1) wr.heap.size 61 71 36 (.slice A1 es.length c1) es by
        rw [hw9]
        exact Hes.out.kept fun q hq _ => by simp only [World.setCell, Array.getElem?_modify, if_neg (show ¬ w.heap.size = q by omega)])
      have HB9 := Lib.hid (show Below w.heap.size w w9 by rw [hw9]; exact (((Hb.out.setCell (p := ⟨_, _, _⟩) (by simp) _).setCell (p := ⟨_, _, _⟩) (by simp) _).setCell (p := ⟨_, _, _⟩) (by simp) _).setCell (p := ⟨_, _, _⟩) (by simp) _)
      have HZ9 := Lib.hid (show w9.heap.size = wr.heap.size by rw [hw9]; simp [World.setCell])
      have Hw9 := Lib.hid hw9
      clear hw9
      go_wp2
      refine bodyPost_ret (v := .tuple #[.agg #[.slice A1 es.length c1, .int .i64 a, .int .i64 b, .int .i64 z], .bool true]) (by simp [results, Tryz.results9, go_sem, *]) rfl ?_
      rw [← Hw9.out, HS.out]
      exact OpPost.some HB9.out (HE9.out.wide (by omega) (by have := HZ9.out; omega))
end Go.Proofs.YtlabekemifccaaaGreatDoor
