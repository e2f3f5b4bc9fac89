/-
  Lemmas and contracts of single functions of this program, used by the proofs of its laws: what each call returns and what becomes of memory. Conditions: the hypotheses of each theorem.
-/
import Derived.Test.YtlabekemifccaaaDoorMillT
namespace Go.Proofs.YtlabekemifccaaaDoor
open Go.RowKit
attribute [local go_sem ↓] Go.wp_at_zero Go.wp_at_succ

set_option maxRecDepth 100000 in
set_option maxHeartbeats 1600000 in
theorem equalParts_sameM (l1 h1 l2 h2 : Nat) (v u : Value) (xs : List (List Int)) (w : World) (h : TS w l1 h1 4 v xs) (hh : h1 ≤ w.heap.size) (hy : TS w l2 h2 4 u xs) (hh2 : h2 ≤ w.heap.size) :
    Calls Tryd.prog 66 #[v, u] w fun e w' => e = .returned (.bool true) ∧ Below w.heap.size w w' := by
  obtain ⟨A, c, rfl, hc, hm⟩ := h.form
  obtain ⟨B, d, rfl, hd, hm'⟩ := hy.form
  have hl' : ((xs.length : Int) != (xs.length : Int)) = false := bne_f rfl
  go_enter Tryd.func66, Tryd.ntmps66
  go_wp2
  clear hl'
  go_loopw [5] (fun i wr => ∃ k : Nat, k ≤ xs.length ∧ i = .int .i64 k ∧ Below w.heap.size w wr) (fun i _ => xs.length - (intOf i).toNat)
  case atStart => exact ⟨0, by omega, rfl, Below.refl _ _⟩
  case round =>
    obtain ⟨k, hk, rfl, hq⟩ := hrel
    have hz := hq.size
    by_cases hlt : k < xs.length
    · obtain ⟨b, o, rfl, _, _, e0, e1, e2, e3⟩ := (h.below hq hh).c4 hlt
      obtain ⟨b2, o2, rfl, _, _, f0, f1, f2, f3⟩ := (hy.below hq hh2).c4 hlt
      have hk0 : (0 : Int) ≤ (k : Int) := by omega
      have hk1 : (k : Int) < (xs.length : Int) := by omega
      have Hq := Lib.hid hq
      clear hq
      go_wp2
      go_region_held3 (fun w' => w'.cell? ⟨b, o + k * 4, none⟩ = some (.int .i64 (gi (gr xs k) 0)) ∧ w'.cell? ⟨b, o + k * 4 + 1, none⟩ = some (.int .i64 (gi (gr xs k) 1)) ∧ w'.cell? ⟨b, o + k * 4 + 2, none⟩ = some (.int .i64 (gi (gr xs k) 2)) ∧ w'.cell? ⟨b, o + k * 4 + 3, none⟩ = some (.int .i64 (gi (gr xs k) 3)) ∧ w'.cell? ⟨b2, o2 + k * 4, none⟩ = some (.int .i64 (gi (gr xs k) 0)) ∧ w'.cell? ⟨b2, o2 + k * 4 + 1, none⟩ = some (.int .i64 (gi (gr xs k) 1)) ∧ w'.cell? ⟨b2, o2 + k * 4 + 2, none⟩ = some (.int .i64 (gi (gr xs k) 2)) ∧ w'.cell? ⟨b2, o2 + k * 4 + 3, none⟩ = some (.int .i64 (gi (gr xs k) 3))) (first | go_keep | (go_split_ands; refine ⟨?_, ?_, ?_, ?_, ?_, ?_, ?_, ?_⟩ <;> first | exact keepB bx5 (by assumption) | exact keepB bx4 (by assumption) | exact keepB bx3 (by assumption) | exact keepB bx2 (by assumption) | exact keepB bx1 (by assumption))) (fail)
      go_wp2
      go_roundw
      case rel => exact ⟨k + 1, by omega, by go_num, Hq.out.trans ((Qt.one _ 1).below _)⟩
      case measure => simp [intOf]; omega
    · go_wp2
      go_ret
      exact ⟨rfl, hq⟩
set_option maxRecDepth 100000 in
set_option maxHeartbeats 2000000 in
theorem equalReel_sameM (l1 h1 l2 h2 : Nat) (v u : Value) (W L : Int) (ds : List (List Int)) (w : World) (h : TS w l1 h1 5 v ds) (hh : h1 ≤ w.heap.size) (hy : TS w l2 h2 5 u ds) (hh2 : h2 ≤ w.heap.size) :
    Calls Tryd.prog 65 #[.agg #[.int .i64 W, .int .i64 L, v], .agg #[.int .i64 W, .int .i64 L, u]] w fun e w' => e = .returned (.bool true) ∧ Below w.heap.size w w' := by
  obtain ⟨A, c, rfl, hc, hm⟩ := h.form
  obtain ⟨B, d, rfl, hd, hm'⟩ := hy.form
  have hl1 : (W != W) = false := bne_f rfl
  have hl2 : (L != L) = false := bne_f rfl
  have hl3 : ((ds.length : Int) != (ds.length : Int)) = false := bne_f rfl
  have Hs := Lib.hid (show ∃ w1, w1 = ((w.alloc (.cells #[.int .i64 W, .int .i64 L, .slice A ds.length c] 99)).alloc (.cells #[.int .i64 W, .int .i64 L, .slice B ds.length d] 99)) ∧ Below w.heap.size w w1 ∧ w1.cell? ⟨w.heap.size, 0, none⟩ = some (.int .i64 W) ∧ w1.cell? ⟨w.heap.size, 1, none⟩ = some (.int .i64 L) ∧ w1.cell? ⟨w.heap.size, 2, none⟩ = some (.slice A ds.length c) ∧ w1.cell? ⟨w.heap.size + 1, 0, none⟩ = some (.int .i64 W) ∧ w1.cell? ⟨w.heap.size + 1, 1, none⟩ = some (.int .i64 L) ∧ w1.cell? ⟨w.heap.size + 1, 2, none⟩ = some (.slice B ds.length d) ∧ TS w1 l1 h1 5 (.slice A ds.length c) ds ∧ TS w1 l2 h2 5 (.slice B ds.length d) ds ∧ w.heap.size + 1 < w1.heap.size from by
    have hb : Below w.heap.size w ((w.alloc (.cells #[.int .i64 W, .int .i64 L, .slice A ds.length c] 99)).alloc (.cells #[.int .i64 W, .int .i64 L, .slice B ds.length d] 99)) := ((Below.refl _ _).alloc (Nat.le_refl _) _).alloc (by simp) _
    exact ⟨_, rfl, hb, by go_simp, by go_simp, by go_simp, by go_simp, by go_simp, by go_simp, h.below hb hh, hy.below hb hh2, by simp⟩)
  go_enter Tryd.func65, Tryd.ntmps65
  go_wp2
  obtain ⟨w1, hw1, hb0, c00, c01, c02, c10, c11, c12, hT0, hT1, hz⟩ := Hs.out
  rw [← hw1]
  clear hw1 Hs
  clear hl1 hl2 hl3 h hy
  have hh1' : h1 ≤ w1.heap.size := by omega
  have hh2' : h2 ≤ w1.heap.size := by omega
  go_loopw [5] (fun i wr => ∃ k : Nat, k ≤ ds.length ∧ i = .int .i64 k ∧ Below w1.heap.size w1 wr) (fun i _ => ds.length - (intOf i).toNat)
  case atStart => exact ⟨0, by omega, rfl, Below.refl _ _⟩
  case round =>
    obtain ⟨k, hk, rfl, hq⟩ := hrel
    have hz2 := hq.size
    replace c00 := keepB hq c00; replace c01 := keepB hq c01; replace c02 := keepB hq c02; replace c10 := keepB hq c10; replace c11 := keepB hq c11; replace c12 := keepB hq c12
    by_cases hlt : k < ds.length
    · obtain ⟨b, o, rfl, _, _, e0, e1, e2, e3, e4⟩ := (hT0.below hq hh1').c5 hlt
      obtain ⟨b2, o2, rfl, _, _, f0, f1, f2, f3, f4⟩ := (hT1.below hq hh2').c5 hlt
      have hk0 : (0 : Int) ≤ (k : Int) := by omega
      have hk1 : (k : Int) < (ds.length : Int) := by omega
      have Hq := Lib.hid hq
      clear hq
      go_wp2
      go_region_held3 (fun w' => w'.cell? ⟨w.heap.size, 2, none⟩ = some (.slice (some ⟨b, o, none⟩) ds.length c) ∧ w'.cell? ⟨w.heap.size + 1, 2, none⟩ = some (.slice (some ⟨b2, o2, none⟩) ds.length d) ∧ w'.cell? ⟨b, o + k * 5, none⟩ = some (.int .i64 (gi (gr ds k) 0)) ∧ w'.cell? ⟨b, o + k * 5 + 1, none⟩ = some (.int .i64 (gi (gr ds k) 1)) ∧ w'.cell? ⟨b, o + k * 5 + 2, none⟩ = some (.int .i64 (gi (gr ds k) 2)) ∧ w'.cell? ⟨b, o + k * 5 + 3, none⟩ = some (.int .i64 (gi (gr ds k) 3)) ∧ w'.cell? ⟨b, o + k * 5 + 4, none⟩ = some (.int .i64 (gi (gr ds k) 4)) ∧ w'.cell? ⟨b2, o2 + k * 5, none⟩ = some (.int .i64 (gi (gr ds k) 0)) ∧ w'.cell? ⟨b2, o2 + k * 5 + 1, none⟩ = some (.int .i64 (gi (gr ds k) 1)) ∧ w'.cell? ⟨b2, o2 + k * 5 + 2, none⟩ = some (.int .i64 (gi (gr ds k) 2)) ∧ w'.cell? ⟨b2, o2 + k * 5 + 3, none⟩ = some (.int .i64 (gi (gr ds k) 3)) ∧ w'.cell? ⟨b2, o2 + k * 5 + 4, none⟩ = some (.int .i64 (gi (gr ds k) 4))) (first | go_keep | (go_split_ands; refine ⟨?_, ?_, ?_, ?_, ?_, ?_, ?_, ?_, ?_, ?_, ?_, ?_⟩ <;> first | exact keepB bx5 (by assumption) | exact keepB bx4 (by assumption) | exact keepB bx3 (by assumption) | exact keepB bx2 (by assumption) | exact keepB bx1 (by assumption))) (fail)
      go_wp2
      go_roundw
      case rel => exact ⟨k + 1, by omega, by go_num, Hq.out.trans ((Qt.one _ 1).below _)⟩
      case measure => simp [intOf]; omega
    · go_wp2
      go_ret
      exact ⟨rfl, hb0.trans (hq.mono (by omega))⟩
set_option maxRecDepth 100000 in
set_option maxHeartbeats 4000000 in
theorem equalMill_same (l1 h1 l2 h2 : Nat) (v u : Value) (es : List Ent) (a b z : Int) (w : World) (h : ES w l1 h1 v es) (hh : h1 ≤ w.heap.size) (hy : ES w l2 h2 u es) (hh2 : h2 ≤ w.heap.size) :
    Calls Tryd.prog 35 #[.agg #[v, .int .i64 a, .int .i64 b, .int .i64 z], .agg #[u, .int .i64 a, .int .i64 b, .int .i64 z]] w fun e w' => e = .returned (.bool true) ∧ Below w.heap.size w w' := by
  obtain ⟨A, c, rfl, hc, hm⟩ := h.form
  obtain ⟨B, d, rfl, hd, hm'⟩ := hy.form
  have hl3 : ((es.length : Int) != (es.length : Int)) = false := bne_f rfl
  have hx : ∀ w1, Below w.heap.size w w1 → ES w1 l1 h1 (.slice A es.length c) es ∧ ES w1 l2 h2 (.slice B es.length d) es := fun w1 hb => ⟨h.below hb hh, hy.below hb hh2⟩
  have Hs := Lib.hid (show ∃ w1, w1 = ((w.alloc (.cells #[.slice A es.length c, .int .i64 a, .int .i64 b, .int .i64 z] 52)).alloc (.cells #[.slice B es.length d, .int .i64 a, .int .i64 b, .int .i64 z] 52)) ∧ Below w.heap.size w w1 ∧ w1.cell? ⟨w.heap.size, 0, none⟩ = some (.slice A es.length c) ∧ w1.cell? ⟨w.heap.size, 1, none⟩ = some (.int .i64 a) ∧ w1.cell? ⟨w.heap.size, 2, none⟩ = some (.int .i64 b) ∧ w1.cell? ⟨w.heap.size, 3, none⟩ = some (.int .i64 z) ∧ w1.cell? ⟨w.heap.size + 1, 0, none⟩ = some (.slice B es.length d) ∧ w1.cell? ⟨w.heap.size + 1, 1, none⟩ = some (.int .i64 a) ∧ w1.cell? ⟨w.heap.size + 1, 2, none⟩ = some (.int .i64 b) ∧ w1.cell? ⟨w.heap.size + 1, 3, none⟩ = some (.int .i64 z) ∧ w.heap.size + 1 < w1.heap.size from by
    have hb : Below w.heap.size w ((w.alloc (.cells #[.slice A es.length c, .int .i64 a, .int .i64 b, .int .i64 z] 52)).alloc (.cells #[.slice B es.length d, .int .i64 a, .int .i64 b, .int .i64 z] 52)) := ((Below.refl _ _).alloc (Nat.le_refl _) _).alloc (by simp) _
    exact ⟨_, rfl, hb, by go_simp, by go_simp, by go_simp, by go_simp, by go_simp, by go_simp, by go_simp, by go_simp, by simp⟩)
  go_enter Tryd.func35, Tryd.ntmps35
  go_wp2
  obtain ⟨w1, hw1, hb0, c00, c01, c02, c03, c10, c11, c12, c13, hz⟩ := Hs.out
  rw [← hw1]
  clear hw1 Hs
  have hE := hx w1 hb0
  clear hl3 h hy hx
  have hh1' : h1 ≤ w1.heap.size := by omega
  have hh2' : h2 ≤ w1.heap.size := by omega
  go_loopw [5] (fun i wr => ∃ k : Nat, k ≤ es.length ∧ i = .int .i64 k ∧ Below w1.heap.size w1 wr) (fun i _ => es.length - (intOf i).toNat)
  case atStart => exact ⟨0, by omega, rfl, Below.refl _ _⟩
  case round =>
    obtain ⟨k, hk, rfl, hq⟩ := hrel
    have hz2 := hq.size
    replace c00 := keepB hq c00; replace c01 := keepB hq c01; replace c02 := keepB hq c02; replace c03 := keepB hq c03; replace c10 := keepB hq c10; replace c11 := keepB hq c11; replace c12 := keepB hq c12; replace c13 := keepB hq c13
    by_cases hlt : k < es.length
    · obtain ⟨b9, o, Ad, cd, Ap, cp, rfl, _, _, e0, e1, e2, e3, e4, hd1, hp1, _⟩ := (hE.1.below hq hh1').cell hlt
      obtain ⟨b8, o8, Ad8, cd8, Ap8, cp8, rfl, _, _, f0, f1, f2, f3, f4, hd2, hp2, _⟩ := (hE.2.below hq hh2').cell hlt
      have hk0 : (0 : Int) ≤ (k : Int) := by omega
      have hk1 : (k : Int) < (es.length : Int) := by omega
      have hb : ((ge es k).lb != (ge es k).lb) = false := bne_f rfl
      have Hq := Lib.hid hq
      clear hq
      go_wp2
      refine wp_region_held_drew (S := fun w' => w'.cell? ⟨w.heap.size, 0, none⟩ = some (.slice (some ⟨b9, o, none⟩) es.length c) ∧ w'.cell? ⟨w.heap.size + 1, 0, none⟩ = some (.slice (some ⟨b8, o8, none⟩) es.length d) ∧ w'.cell? ⟨b9, o + k * 5, none⟩ = some (.int .i64 (ge es k).lb) ∧ w'.cell? ⟨b9, o + k * 5 + 1, none⟩ = some (.int .i64 (ge es k).W) ∧ w'.cell? ⟨b9, o + k * 5 + 2, none⟩ = some (.int .i64 (ge es k).L) ∧ w'.cell? ⟨b9, o + k * 5 + 3, none⟩ = some (.slice Ad (ge es k).ds.length cd) ∧ w'.cell? ⟨b9, o + k * 5 + 4, none⟩ = some (.slice Ap (ge es k).ps.length cp) ∧ w'.cell? ⟨b8, o8 + k * 5, none⟩ = some (.int .i64 (ge es k).lb) ∧ w'.cell? ⟨b8, o8 + k * 5 + 1, none⟩ = some (.int .i64 (ge es k).W) ∧ w'.cell? ⟨b8, o8 + k * 5 + 2, none⟩ = some (.int .i64 (ge es k).L) ∧ w'.cell? ⟨b8, o8 + k * 5 + 3, none⟩ = some (.slice Ad8 (ge es k).ds.length cd8) ∧ w'.cell? ⟨b8, o8 + k * 5 + 4, none⟩ = some (.slice Ap8 (ge es k).ps.length cp8)) (by kernel_rfl) ?_ (fun hHeld => ?_)
      · (first | (try dsimp only); go_keep | (go_split_ands; refine ⟨?_, ?_, ?_, ?_, ?_, ?_, ?_, ?_, ?_, ?_, ?_, ?_⟩ <;> first | exact keepB bx5 (by assumption) | exact keepB bx4 (by assumption) | exact keepB bx3 (by assumption) | exact keepB bx2 (by assumption) | exact keepB bx1 (by assumption) | exact keepO bo5 (by first | (simp; done) | (simp; omega)) (by assumption) | exact keepO bo4 (by first | (simp; done) | (simp; omega)) (by assumption) | exact keepO bo3 (by first | (simp; done) | (simp; omega)) (by assumption) | exact keepO bo2 (by first | (simp; done) | (simp; omega)) (by assumption) | exact keepO bo1 (by first | (simp; done) | (simp; omega)) (by assumption) | exact keepW bg2 (by first | (simp; done) | (simp; omega)) (by assumption) | exact keepW bg1 (by first | (simp; done) | (simp; omega)) (by assumption) | assumption))
      refine wpAnyH_take (i := 0) (oi := ⟨some 20, _, _, _, _, _⟩) (v := _) rfl (by kernel_rfl) (by kernel_rfl) (by kernel_rfl) (fun _ _ _ h => h) (Or.inl ⟨by kernel_rfl, by intro w hSw; (try dsimp only at hSw); go_simp; try with_reducible rfl⟩) (by assumption) ?_
      simp only [Act.put, List.setIfInBounds_toArray, List.set_cons_zero, List.set_cons_succ]
      refine wpAnyH_take (i := 1) (oi := ⟨some 21, _, _, _, _, _⟩) (v := _) rfl (by kernel_rfl) (by kernel_rfl) (by kernel_rfl) (fun _ _ _ h => h) (Or.inl ⟨by kernel_rfl, by intro w hSw; (try dsimp only at hSw); go_simp; try with_reducible rfl⟩) (by assumption) ?_
      simp only [Act.put, List.setIfInBounds_toArray, List.set_cons_zero, List.set_cons_succ]
      refine wpAnyH_take (i := 2) (oi := ⟨some 22, _, _, _, _, _⟩) (v := _) rfl (by kernel_rfl) (by kernel_rfl) (by kernel_rfl) (fun _ _ _ h => h) (Or.inl ⟨by kernel_rfl, by intro w hSw; (try dsimp only at hSw); go_simp; try with_reducible rfl⟩) (by assumption) ?_
      simp only [Act.put, List.setIfInBounds_toArray, List.set_cons_zero, List.set_cons_succ]
      refine wpAnyH_take (i := 3) (oi := ⟨some 23, _, _, _, _, _⟩) (v := _) rfl (by kernel_rfl) (by kernel_rfl) (by kernel_rfl) (fun _ _ _ h => h) (Or.inl ⟨by kernel_rfl, by intro w hSw; (try dsimp only at hSw); go_simp; try with_reducible rfl⟩) (by assumption) ?_
      simp only [Act.put, List.setIfInBounds_toArray, List.set_cons_zero, List.set_cons_succ]
      refine wpAnyH_take (i := 4) (oi := ⟨some 24, _, _, _, _, _⟩) (v := _) rfl (by kernel_rfl) (by kernel_rfl) (by kernel_rfl) (fun _ _ _ h => h) (Or.inl ⟨by kernel_rfl, by intro w hSw; (try dsimp only at hSw); go_simp; try with_reducible rfl⟩) (by assumption) ?_
      simp only [Act.put, List.setIfInBounds_toArray, List.set_cons_zero, List.set_cons_succ]
      refine wpAnyH_take (i := 5) (oi := ⟨some 25, _, _, _, _, _⟩) (v := _) rfl (by kernel_rfl) (by kernel_rfl) (by kernel_rfl) (fun _ _ _ h => h) (Or.inl ⟨by kernel_rfl, by intro w hSw; (try dsimp only at hSw); go_simp; try with_reducible rfl⟩) (by assumption) ?_
      simp only [Act.put, List.setIfInBounds_toArray, List.set_cons_zero, List.set_cons_succ]
      refine wpAnyH_take (i := 6) (oi := ⟨some 26, _, _, _, _, _⟩) (v := _) rfl (by kernel_rfl) (by kernel_rfl) (by kernel_rfl) (fun _ _ _ h => h) (Or.inl ⟨by kernel_rfl, by intro w hSw; (try dsimp only at hSw); go_simp; try with_reducible rfl⟩) (by assumption) ?_
      simp only [Act.put, List.setIfInBounds_toArray, List.set_cons_zero, List.set_cons_succ]
      refine wpAnyH_take (i := 7) (oi := ⟨some 27, _, _, _, _, _⟩) (v := _) rfl (by kernel_rfl) (by kernel_rfl) (by kernel_rfl) (fun _ _ _ h => h) (Or.inl ⟨by kernel_rfl, by intro w hSw; (try dsimp only at hSw); go_simp; try with_reducible rfl⟩) (by assumption) ?_
      simp only [Act.put, List.setIfInBounds_toArray, List.set_cons_zero, List.set_cons_succ]
      refine wpAnyH_take (i := 8) (oi := ⟨some 28, _, _, _, _, _⟩) (v := _) rfl (by kernel_rfl) (by kernel_rfl) (by kernel_rfl) (fun _ _ _ h => h) (Or.inl ⟨by kernel_rfl, by intro w hSw; (try dsimp only at hSw); go_simp; try with_reducible rfl⟩) (by assumption) ?_
      simp only [Act.put, List.setIfInBounds_toArray, List.set_cons_zero, List.set_cons_succ]
      refine wpAnyH_take (i := 9) (oi := ⟨some 29, _, _, _, _, _⟩) (v := _) rfl (by kernel_rfl) (by kernel_rfl) (by kernel_rfl) (fun _ _ _ h => h) (Or.inl ⟨by kernel_rfl, by intro w hSw; (try dsimp only at hSw); go_simp; try with_reducible rfl⟩) (by assumption) ?_
      simp only [Act.put, List.setIfInBounds_toArray, List.set_cons_zero, List.set_cons_succ]
      refine wpAnyH_take (i := 10) (oi := ⟨some 30, _, _, _, _, _⟩) (v := _) rfl (by kernel_rfl) (by kernel_rfl) (by kernel_rfl) (fun _ _ _ h => h) (Or.inl ⟨by kernel_rfl, by intro w hSw; (try dsimp only at hSw); go_simp; try with_reducible rfl⟩) (by assumption) ?_
      simp only [Act.put, List.setIfInBounds_toArray, List.set_cons_zero, List.set_cons_succ]
      refine wpAnyH_take (i := 11) (oi := ⟨some 31, _, _, _, _, _⟩) (v := _) rfl (by kernel_rfl) (by kernel_rfl) (by kernel_rfl) (fun _ _ _ h => h) (Or.inl ⟨by kernel_rfl, by intro w hSw; (try dsimp only at hSw); go_simp; try with_reducible rfl⟩) (by assumption) ?_
      simp only [Act.put, List.setIfInBounds_toArray, List.set_cons_zero, List.set_cons_succ]
      refine wpAnyH_take (i := 12) (oi := ⟨some 32, _, _, _, _, _⟩) (v := _) rfl (by kernel_rfl) (by kernel_rfl) (by kernel_rfl) (fun _ _ _ h => h) (Or.inl ⟨by kernel_rfl, by intro w hSw; (try dsimp only at hSw); go_simp; try with_reducible rfl⟩) (by assumption) ?_
      simp only [Act.put, List.setIfInBounds_toArray, List.set_cons_zero, List.set_cons_succ]
      refine wpAnyH_take (i := 13) (oi := ⟨some 33, _, _, _, _, _⟩) (v := _) rfl (by kernel_rfl) (by kernel_rfl) (by kernel_rfl) (fun _ _ _ h => h) (Or.inl ⟨by kernel_rfl, by intro w hSw; (try dsimp only at hSw); go_simp; try with_reducible rfl⟩) (by assumption) ?_
      simp only [Act.put, List.setIfInBounds_toArray, List.set_cons_zero, List.set_cons_succ]
      refine wpAnyH_take (i := 14) (oi := ⟨some 34, _, _, _, _, _⟩) (v := _) rfl (by kernel_rfl) (by kernel_rfl) (by kernel_rfl) (fun _ _ _ h => h) (Or.inl ⟨by kernel_rfl, by intro w hSw; (try dsimp only at hSw); go_simp; try with_reducible rfl⟩) (by assumption) ?_
      simp only [Act.put, List.setIfInBounds_toArray, List.set_cons_zero, List.set_cons_succ]
      refine wpAnyH_take (i := 15) (oi := ⟨some 35, _, _, _, _, _⟩) (v := _) rfl (by kernel_rfl) (by kernel_rfl) (by kernel_rfl) (fun _ _ _ h => h) (Or.inl ⟨by kernel_rfl, by intro w hSw; (try dsimp only at hSw); go_simp; try with_reducible rfl⟩) (by assumption) ?_
      simp only [Act.put, List.setIfInBounds_toArray, List.set_cons_zero, List.set_cons_succ]
      refine wpAnyH_take (i := 16) (oi := ⟨some 36, _, _, _, _, _⟩) (v := _) rfl (by kernel_rfl) (by kernel_rfl) (by kernel_rfl) (fun _ _ _ h => h) (Or.inl ⟨by kernel_rfl, by intro w hSw; (try dsimp only at hSw); go_simp; try with_reducible rfl⟩) (by assumption) ?_
      simp only [Act.put, List.setIfInBounds_toArray, List.set_cons_zero, List.set_cons_succ]
      refine wpAnyH_take (i := 17) (oi := ⟨some 37, _, _, _, _, _⟩) (v := _) rfl (by kernel_rfl) (by kernel_rfl) (by kernel_rfl) (fun _ _ _ h => h) (Or.inl ⟨by kernel_rfl, by intro w hSw; (try dsimp only at hSw); go_simp; try with_reducible rfl⟩) (by assumption) ?_
      simp only [Act.put, List.setIfInBounds_toArray, List.set_cons_zero, List.set_cons_succ]
      refine wpAnyH_take (i := 18) (oi := ⟨some 38, _, _, _, _, _⟩) (v := _) rfl (by kernel_rfl) (by kernel_rfl) (by kernel_rfl) (fun _ _ _ h => h) (Or.inl ⟨by kernel_rfl, by intro w hSw; (try dsimp only at hSw); go_simp; try with_reducible rfl⟩) (by assumption) ?_
      simp only [Act.put, List.setIfInBounds_toArray, List.set_cons_zero, List.set_cons_succ]
      refine wpAnyH_take (i := 19) (oi := ⟨some 39, _, _, _, _, _⟩) (v := _) rfl (by kernel_rfl) (by kernel_rfl) (by kernel_rfl) (fun _ _ _ h => h) (Or.inl ⟨by kernel_rfl, by intro w hSw; (try dsimp only at hSw); go_simp; try with_reducible rfl⟩) (by assumption) ?_
      simp only [Act.put, List.setIfInBounds_toArray, List.set_cons_zero, List.set_cons_succ]
      refine wpAnyH_take (i := 20) (oi := ⟨some 40, _, _, _, _, _⟩) (v := _) rfl (by kernel_rfl) (by kernel_rfl) (by kernel_rfl) (fun _ _ _ h => h) (Or.inl ⟨by kernel_rfl, by intro w hSw; (try dsimp only at hSw); go_simp; try with_reducible rfl⟩) (by assumption) ?_
      simp only [Act.put, List.setIfInBounds_toArray, List.set_cons_zero, List.set_cons_succ]
      refine wpAnyH_take (i := 21) (oi := ⟨some 41, _, _, _, _, _⟩) (v := _) rfl (by kernel_rfl) (by kernel_rfl) (by kernel_rfl) (fun _ _ _ h => h) (Or.inl ⟨by kernel_rfl, by intro w hSw; (try dsimp only at hSw); go_simp; try with_reducible rfl⟩) (by assumption) ?_
      simp only [Act.put, List.setIfInBounds_toArray, List.set_cons_zero, List.set_cons_succ]
      refine wpAnyH_take (i := 22) (oi := ⟨some 42, _, _, _, _, _⟩) (v := _) rfl (by kernel_rfl) (by kernel_rfl) (by kernel_rfl) (fun _ _ _ h => h) (Or.inl ⟨by kernel_rfl, by intro w hSw; (try dsimp only at hSw); go_simp; try with_reducible rfl⟩) (by assumption) ?_
      simp only [Act.put, List.setIfInBounds_toArray, List.set_cons_zero, List.set_cons_succ]
      refine wpAnyH_take (i := 23) (oi := ⟨some 43, _, _, _, _, _⟩) (v := _) rfl (by kernel_rfl) (by kernel_rfl) (by kernel_rfl) (fun _ _ _ h => h) (Or.inl ⟨by kernel_rfl, by intro w hSw; (try dsimp only at hSw); go_simp; try with_reducible rfl⟩) (by assumption) ?_
      simp only [Act.put, List.setIfInBounds_toArray, List.set_cons_zero, List.set_cons_succ]
      refine wpAnyH_take (i := 24) (oi := ⟨some 44, _, _, _, _, _⟩) (v := _) rfl (by kernel_rfl) (by kernel_rfl) (by kernel_rfl) (fun _ _ _ h => h) (Or.inl ⟨by kernel_rfl, by intro w hSw; (try dsimp only at hSw); go_simp; try with_reducible rfl⟩) (by assumption) ?_
      simp only [Act.put, List.setIfInBounds_toArray, List.set_cons_zero, List.set_cons_succ]
      refine wpAnyH_take (i := 25) (oi := ⟨some 45, _, _, _, _, _⟩) (v := _) rfl (by kernel_rfl) (by kernel_rfl) (by kernel_rfl) (fun _ _ _ h => h) (Or.inl ⟨by kernel_rfl, by intro w hSw; (try dsimp only at hSw); go_simp; try with_reducible rfl⟩) (by assumption) ?_
      simp only [Act.put, List.setIfInBounds_toArray, List.set_cons_zero, List.set_cons_succ]
      refine wpAnyH_ready (rs := [26]) (by kernel_rfl) (by simp) ?_
      refine AllReadyH.cons (o := ⟨some 46, _, _, _, _, _⟩) rfl (fun K hK => ?_) AllReadyH.nil
      go_simp
      go_at_call 65
      refine (equalReel_sameM l1 h1 l2 h2 _ _ _ _ (ge es k).ds _ (hd1.drewN 1) (by simp; omega) (hd2.drewN 1) (by simp; omega)).mono ?_
      rintro e x1 ⟨rfl, bx1⟩
      go_wp2_with fail
      refine hK.out _ _ ?_ (fun hHeld2 => ?_)
      · (first | (try dsimp only); go_keep | (go_split_ands; refine ⟨?_, ?_, ?_, ?_, ?_, ?_, ?_, ?_, ?_, ?_, ?_, ?_⟩ <;> first | exact keepB bx5 (by assumption) | exact keepB bx4 (by assumption) | exact keepB bx3 (by assumption) | exact keepB bx2 (by assumption) | exact keepB bx1 (by assumption) | exact keepO bo5 (by first | (simp; done) | (simp; omega)) (by assumption) | exact keepO bo4 (by first | (simp; done) | (simp; omega)) (by assumption) | exact keepO bo3 (by first | (simp; done) | (simp; omega)) (by assumption) | exact keepO bo2 (by first | (simp; done) | (simp; omega)) (by assumption) | exact keepO bo1 (by first | (simp; done) | (simp; omega)) (by assumption) | exact keepW bg2 (by first | (simp; done) | (simp; omega)) (by assumption) | exact keepW bg1 (by first | (simp; done) | (simp; omega)) (by assumption) | assumption))
      clear hK K hHeld
      have hHeld := hHeld2
      clear hHeld2
      try simp only [Act.put, List.setIfInBounds_toArray, List.set_cons_zero, List.set_cons_succ]
      refine wpAnyH_take (i := 27) (oi := ⟨some 47, _, _, _, _, _⟩) (v := _) rfl (by kernel_rfl) (by kernel_rfl) (by kernel_rfl) (fun _ _ _ h => h) (Or.inl ⟨by kernel_rfl, by intro w hSw; (try dsimp only at hSw); go_simp; try with_reducible rfl⟩) (by assumption) ?_
      simp only [Act.put, List.setIfInBounds_toArray, List.set_cons_zero, List.set_cons_succ]
      refine wpAnyH_take (i := 28) (oi := ⟨some 48, _, _, _, _, _⟩) (v := _) rfl (by kernel_rfl) (by kernel_rfl) (by kernel_rfl) (fun _ _ _ h => h) (Or.inl ⟨by kernel_rfl, by intro w hSw; (try dsimp only at hSw); go_simp; try with_reducible rfl⟩) (by assumption) ?_
      simp only [Act.put, List.setIfInBounds_toArray, List.set_cons_zero, List.set_cons_succ]
      refine wpAnyH_take (i := 29) (oi := ⟨some 49, _, _, _, _, _⟩) (v := _) rfl (by kernel_rfl) (by kernel_rfl) (by kernel_rfl) (fun _ _ _ h => h) (Or.inl ⟨by kernel_rfl, by intro w hSw; (try dsimp only at hSw); go_simp; try with_reducible rfl⟩) (by assumption) ?_
      simp only [Act.put, List.setIfInBounds_toArray, List.set_cons_zero, List.set_cons_succ]
      refine wpAnyH_take (i := 30) (oi := ⟨some 50, _, _, _, _, _⟩) (v := _) rfl (by kernel_rfl) (by kernel_rfl) (by kernel_rfl) (fun _ _ _ h => h) (Or.inl ⟨by kernel_rfl, by intro w hSw; (try dsimp only at hSw); go_simp; try with_reducible rfl⟩) (by assumption) ?_
      simp only [Act.put, List.setIfInBounds_toArray, List.set_cons_zero, List.set_cons_succ]
      refine wpAnyH_take (i := 31) (oi := ⟨some 51, _, _, _, _, _⟩) (v := _) rfl (by kernel_rfl) (by kernel_rfl) (by kernel_rfl) (fun _ _ _ h => h) (Or.inl ⟨by kernel_rfl, by intro w hSw; (try dsimp only at hSw); go_simp; try with_reducible rfl⟩) (by assumption) ?_
      simp only [Act.put, List.setIfInBounds_toArray, List.set_cons_zero, List.set_cons_succ]
      refine wpAnyH_take (i := 32) (oi := ⟨some 52, _, _, _, _, _⟩) (v := _) rfl (by kernel_rfl) (by kernel_rfl) (by kernel_rfl) (fun _ _ _ h => h) (Or.inl ⟨by kernel_rfl, by intro w hSw; (try dsimp only at hSw); go_simp; try with_reducible rfl⟩) (by assumption) ?_
      simp only [Act.put, List.setIfInBounds_toArray, List.set_cons_zero, List.set_cons_succ]
      refine wpAnyH_take (i := 33) (oi := ⟨some 53, _, _, _, _, _⟩) (v := _) rfl (by kernel_rfl) (by kernel_rfl) (by kernel_rfl) (fun _ _ _ h => h) (Or.inl ⟨by kernel_rfl, by intro w hSw; (try dsimp only at hSw); go_simp; try with_reducible rfl⟩) (by assumption) ?_
      simp only [Act.put, List.setIfInBounds_toArray, List.set_cons_zero, List.set_cons_succ]
      refine wpAnyH_take (i := 34) (oi := ⟨some 54, _, _, _, _, _⟩) (v := _) rfl (by kernel_rfl) (by kernel_rfl) (by kernel_rfl) (fun _ _ _ h => h) (Or.inl ⟨by kernel_rfl, by intro w hSw; (try dsimp only at hSw); go_simp; try with_reducible rfl⟩) (by assumption) ?_
      simp only [Act.put, List.setIfInBounds_toArray, List.set_cons_zero, List.set_cons_succ]
      refine wpAnyH_take (i := 35) (oi := ⟨some 55, _, _, _, _, _⟩) (v := _) rfl (by kernel_rfl) (by kernel_rfl) (by kernel_rfl) (fun _ _ _ h => h) (Or.inl ⟨by kernel_rfl, by intro w hSw; (try dsimp only at hSw); go_simp; try with_reducible rfl⟩) (by assumption) ?_
      simp only [Act.put, List.setIfInBounds_toArray, List.set_cons_zero, List.set_cons_succ]
      refine wpAnyH_take (i := 36) (oi := ⟨some 56, _, _, _, _, _⟩) (v := _) rfl (by kernel_rfl) (by kernel_rfl) (by kernel_rfl) (fun _ _ _ h => h) (Or.inl ⟨by kernel_rfl, by intro w hSw; (try dsimp only at hSw); go_simp; try with_reducible rfl⟩) (by assumption) ?_
      simp only [Act.put, List.setIfInBounds_toArray, List.set_cons_zero, List.set_cons_succ]
      refine wpAnyH_take (i := 37) (oi := ⟨some 57, _, _, _, _, _⟩) (v := _) rfl (by kernel_rfl) (by kernel_rfl) (by kernel_rfl) (fun _ _ _ h => h) (Or.inl ⟨by kernel_rfl, by intro w hSw; (try dsimp only at hSw); go_simp; try with_reducible rfl⟩) (by assumption) ?_
      simp only [Act.put, List.setIfInBounds_toArray, List.set_cons_zero, List.set_cons_succ]
      refine wpAnyH_take (i := 38) (oi := ⟨some 58, _, _, _, _, _⟩) (v := _) rfl (by kernel_rfl) (by kernel_rfl) (by kernel_rfl) (fun _ _ _ h => h) (Or.inl ⟨by kernel_rfl, by intro w hSw; (try dsimp only at hSw); go_simp; try with_reducible rfl⟩) (by assumption) ?_
      simp only [Act.put, List.setIfInBounds_toArray, List.set_cons_zero, List.set_cons_succ]
      refine wpAnyH_take (i := 39) (oi := ⟨some 59, _, _, _, _, _⟩) (v := _) rfl (by kernel_rfl) (by kernel_rfl) (by kernel_rfl) (fun _ _ _ h => h) (Or.inl ⟨by kernel_rfl, by intro w hSw; (try dsimp only at hSw); go_simp; try with_reducible rfl⟩) (by assumption) ?_
      simp only [Act.put, List.setIfInBounds_toArray, List.set_cons_zero, List.set_cons_succ]
      refine wpAnyH_take (i := 40) (oi := ⟨some 60, _, _, _, _, _⟩) (v := _) rfl (by kernel_rfl) (by kernel_rfl) (by kernel_rfl) (fun _ _ _ h => h) (Or.inl ⟨by kernel_rfl, by intro w hSw; (try dsimp only at hSw); go_simp; try with_reducible rfl⟩) (by assumption) ?_
      simp only [Act.put, List.setIfInBounds_toArray, List.set_cons_zero, List.set_cons_succ]
      refine wpAnyH_take (i := 41) (oi := ⟨some 61, _, _, _, _, _⟩) (v := _) rfl (by kernel_rfl) (by kernel_rfl) (by kernel_rfl) (fun _ _ _ h => h) (Or.inl ⟨by kernel_rfl, by intro w hSw; (try dsimp only at hSw); go_simp; try with_reducible rfl⟩) (by assumption) ?_
      simp only [Act.put, List.setIfInBounds_toArray, List.set_cons_zero, List.set_cons_succ]
      refine wpAnyH_ready (rs := [42]) (by kernel_rfl) (by simp) ?_
      refine AllReadyH.cons (o := ⟨some 62, _, _, _, _, _⟩) rfl (fun K hK => ?_) AllReadyH.nil
      go_simp
      go_at_call 66
      refine (equalParts_sameM l1 h1 l2 h2 _ _ (ge es k).ps _ ((hp1.drewN 1).below bx1 (by simp; omega)) (by have := bx1.size; simp at this; omega) ((hp2.drewN 1).below bx1 (by simp; omega)) (by have := bx1.size; simp at this; omega)).mono ?_
      rintro e x2 ⟨rfl, bx2⟩
      go_wp2_with fail
      refine hK.out _ _ ?_ (fun hHeld2 => ?_)
      · (first | (try dsimp only); go_keep | (go_split_ands; refine ⟨?_, ?_, ?_, ?_, ?_, ?_, ?_, ?_, ?_, ?_, ?_, ?_⟩ <;> first | exact keepB bx5 (by assumption) | exact keepB bx4 (by assumption) | exact keepB bx3 (by assumption) | exact keepB bx2 (by assumption) | exact keepB bx1 (by assumption) | exact keepO bo5 (by first | (simp; done) | (simp; omega)) (by assumption) | exact keepO bo4 (by first | (simp; done) | (simp; omega)) (by assumption) | exact keepO bo3 (by first | (simp; done) | (simp; omega)) (by assumption) | exact keepO bo2 (by first | (simp; done) | (simp; omega)) (by assumption) | exact keepO bo1 (by first | (simp; done) | (simp; omega)) (by assumption) | exact keepW bg2 (by first | (simp; done) | (simp; omega)) (by assumption) | exact keepW bg1 (by first | (simp; done) | (simp; omega)) (by assumption) | assumption))
      clear hK K hHeld
      have hHeld := hHeld2
      clear hHeld2
      try simp only [Act.put, List.setIfInBounds_toArray, List.set_cons_zero, List.set_cons_succ]
      refine wpAnyH_take (i := 43) (oi := ⟨some 63, _, _, _, _, _⟩) (v := _) rfl (by kernel_rfl) (by kernel_rfl) (by kernel_rfl) (fun _ _ _ h => h) (Or.inl ⟨by kernel_rfl, by intro w hSw; (try dsimp only at hSw); go_simp; try with_reducible rfl⟩) (by assumption) ?_
      simp only [Act.put, List.setIfInBounds_toArray, List.set_cons_zero, List.set_cons_succ]
      refine wpAnyH_take (i := 44) (oi := ⟨some 64, _, _, _, _, _⟩) (v := _) rfl (by kernel_rfl) (by kernel_rfl) (by kernel_rfl) (fun _ _ _ h => h) (Or.inl ⟨by kernel_rfl, by intro w hSw; (try dsimp only at hSw); go_simp; try with_reducible rfl⟩) (by assumption) ?_
      simp only [Act.put, List.setIfInBounds_toArray, List.set_cons_zero, List.set_cons_succ]
      refine wpAnyH_done (by kernel_rfl) ?_ _
      have bx3 := (of_drew bx1).trans (bx2.mono (by have := (of_drew bx1).size; omega))
      have Hq2 := Lib.hid (Hq.out.trans (bx3.mono hz2))
      clear bx1 bx2 bx3 Hq
      go_wp2
      go_roundw
      case rel => exact ⟨k + 1, by omega, by go_num, Hq2.out⟩
      case measure => simp [intOf]; omega
    · have g1 : (a == a) = true := beq_t rfl
      have g2 : (b == b) = true := beq_t rfl
      have g3 : (z == z) = true := beq_t rfl
      have Hq := Lib.hid hq
      clear hq
      go_wp2
      go_ret
      exact ⟨rfl, hb0.trans (Hq.out.mono (by omega))⟩
set_option maxRecDepth 100000 in
set_option maxHeartbeats 4000000 in
theorem sApplyEvent_any (lo hi : Nat) (v : Value) (m : Mil) (ev : Evt) (w : World) (h : ES w lo hi v m.es) (hhi : hi ≤ w.heap.size) (hin : I64 m.b ∧ I64 m.z) (h64 : V64 ev) :
    Calls Tryd.prog 34 #[.agg #[v, .int .i64 m.a, .int .i64 m.b, .int .i64 m.z], .agg #[.int .i64 ev.k, .int .i64 ev.lb, .int .i64 ev.l, .int .i64 ev.r, .int .i64 ev.f, .int .i64 ev.t, .int .i64 ev.g]] w fun e w' => ApPost w (apV m ev) e w' := by
  obtain ⟨A, c, rfl, hc, hm⟩ := h.form
  have hes : ∀ w1, Below w.heap.size w w1 → ES w1 lo hi (.slice A m.es.length c) m.es := fun w1 hb => h.below hb hhi
  obtain ⟨n, hn⟩ : ∃ n, n = m.es.length := ⟨_, rfl⟩
  rw [← hn] at hes ⊢
  clear h hm hc hn
  have Hs := Lib.hid (show ∃ w1, w1 = (((w.alloc (.cells #[.slice A n c, .int .i64 (m.a), .int .i64 (m.b), .int .i64 (m.z)] 52)).alloc (.cells #[.int .i64 (ev.k), .int .i64 (ev.lb), .int .i64 (ev.l), .int .i64 (ev.r), .int .i64 (ev.f), .int .i64 (ev.t), .int .i64 (ev.g)] 29)).alloc (.cells #[.slice none 0 0, .int .i64 0, .int .i64 0, .int .i64 0] 52)) ∧ Below w.heap.size w w1 ∧ w1.cell? ⟨w.heap.size, 0, none⟩ = some (.slice A n c) ∧ w1.cell? ⟨w.heap.size, 1, none⟩ = some (.int .i64 (m.a)) ∧ w1.cell? ⟨w.heap.size, 2, none⟩ = some (.int .i64 (m.b)) ∧ w1.cell? ⟨w.heap.size, 3, none⟩ = some (.int .i64 (m.z)) ∧ w1.cell? ⟨w.heap.size + 1, 0, none⟩ = some (.int .i64 (ev.k)) ∧ w1.cell? ⟨w.heap.size + 1, 1, none⟩ = some (.int .i64 (ev.lb)) ∧ w1.cell? ⟨w.heap.size + 1, 2, none⟩ = some (.int .i64 (ev.l)) ∧ w1.cell? ⟨w.heap.size + 1, 3, none⟩ = some (.int .i64 (ev.r)) ∧ w1.cell? ⟨w.heap.size + 1, 4, none⟩ = some (.int .i64 (ev.f)) ∧ w1.cell? ⟨w.heap.size + 1, 5, none⟩ = some (.int .i64 (ev.t)) ∧ w1.cell? ⟨w.heap.size + 1, 6, none⟩ = some (.int .i64 (ev.g)) ∧ w1.cell? ⟨w.heap.size + 1 + 1, 0, none⟩ = some (.slice none 0 0) ∧ w1.cell? ⟨w.heap.size + 1 + 1, 1, none⟩ = some (.int .i64 0) ∧ w1.cell? ⟨w.heap.size + 1 + 1, 2, none⟩ = some (.int .i64 0) ∧ w1.cell? ⟨w.heap.size + 1 + 1, 3, none⟩ = some (.int .i64 0) ∧ w1.frozen? ⟨w.heap.size + 1 + 1, 0, none⟩ = false ∧ w1.frozen? ⟨w.heap.size + 1 + 1, 1, none⟩ = false ∧ w1.frozen? ⟨w.heap.size + 1 + 1, 2, none⟩ = false ∧ w1.frozen? ⟨w.heap.size + 1 + 1, 3, none⟩ = false ∧ w.heap.size + 1 + 1 < w1.heap.size from by
    have hb : Below w.heap.size w (((w.alloc (.cells #[.slice A n c, .int .i64 (m.a), .int .i64 (m.b), .int .i64 (m.z)] 52)).alloc (.cells #[.int .i64 (ev.k), .int .i64 (ev.lb), .int .i64 (ev.l), .int .i64 (ev.r), .int .i64 (ev.f), .int .i64 (ev.t), .int .i64 (ev.g)] 29)).alloc (.cells #[.slice none 0 0, .int .i64 0, .int .i64 0, .int .i64 0] 52)) := (((Below.refl _ _).alloc (Nat.le_refl _) _).alloc (by simp) _).alloc (by simp; omega) _
    exact ⟨_, rfl, hb, by go_simp, by go_simp, by go_simp, by go_simp, by go_simp, by go_simp, by go_simp, by go_simp, by go_simp, by go_simp, by go_simp, by go_simp, by go_simp, by go_simp, by go_simp, by go_simp, by go_simp, by go_simp, by go_simp, by simp⟩)
  go_enter Tryd.func34, Tryd.ntmps34
  go_wp2_with fail
  obtain ⟨w1, hw1, hb0, c00, c01, c02, c03, c10, c11, c12, c13, c14, c15, c16, c20, c21, c22, c23, f20, f21, f22, f23, hz⟩ := Hs.out
  have HZ := Lib.hid (show w1.heap.size = w.heap.size + 1 + 1 + 1 by rw [hw1]; simp)
  rw [← hw1]
  clear hw1 Hs
  have hzw : w.heap.size + 1 + 1 < w1.heap.size := by have := HZ.out; omega
  refine (validMill_any lo hi _ m.es m.a m.b m.z w1 (hes w1 hb0) (by omega) hin).mono ?_
  rintro e w2 ⟨rfl, b2⟩
  replace c00 := keepB b2 c00; replace c01 := keepB b2 c01; replace c02 := keepB b2 c02; replace c03 := keepB b2 c03; replace c10 := keepB b2 c10; replace c11 := keepB b2 c11; replace c12 := keepB b2 c12; replace c13 := keepB b2 c13; replace c14 := keepB b2 c14; replace c15 := keepB b2 c15; replace c16 := keepB b2 c16; replace c20 := keepB b2 c20; replace c21 := keepB b2 c21; replace c22 := keepB b2 c22; replace c23 := keepB b2 c23
  replace f20 := keepF b2 (by first | (simp; done) | (simp; omega)) f20; replace f21 := keepF b2 (by first | (simp; done) | (simp; omega)) f21; replace f22 := keepF b2 (by first | (simp; done) | (simp; omega)) f22; replace f23 := keepF b2 (by first | (simp; done) | (simp; omega)) f23
  have hb2 := hb0.trans (b2.mono (by omega))
  have hz2 := b2.size
  clear b2 hb0
  cases hv : vMill m.es m.a m.b m.z
  · have HR := Lib.hid (show apV m ev = none by unfold apV Mil.ok; rw [hv, if_neg (by simp)])
    have Hb := Lib.hid hb2
    clear hv hb2 hes
    go_wp2
    refine bodyPost_ret (v := .tuple #[.agg #[.slice none 0 0, .int .i64 0, .int .i64 0, .int .i64 0], .bool false]) (by simp [results, Tryd.results34, go_sem, *]) rfl ?_
    rw [HR.out]
    exact ApPost.none (((((Hb.out.setCell (p := ⟨_, _, _⟩) (by simp; omega) _).setCell (p := ⟨_, _, _⟩) (by simp; omega) _).setCell (p := ⟨_, _, _⟩) (by simp; omega) _).setCell (p := ⟨_, _, _⟩) (by simp; omega) _))
  · have HR := Lib.hid (show apV m ev = apE m ev by unfold apV Mil.ok; rw [hv, if_pos rfl])
    have hok : m.ok = true := hv
    clear hv
    go_wp2_with fail
    refine (applyEvent_any lo hi _ m ev w2 (hes w2 hb2) (by omega) hok h64).mono ?_
    rintro e w3 ⟨v3, rfl, he3, b3⟩
    replace c20 := keepB b3 c20; replace c21 := keepB b3 c21; replace c22 := keepB b3 c22; replace c23 := keepB b3 c23
    replace f20 := keepF b3 (by first | (simp; done) | (simp; omega)) f20; replace f21 := keepF b3 (by first | (simp; done) | (simp; omega)) f21; replace f22 := keepF b3 (by first | (simp; done) | (simp; omega)) f22; replace f23 := keepF b3 (by first | (simp; done) | (simp; omega)) f23
    have Hb := Lib.hid (hb2.trans (b3.mono (by omega)))
    obtain ⟨r, hr⟩ : ∃ r, r = apE m ev := ⟨_, rfl⟩
    rw [← hr] at he3 ⊢
    have HR2 := Lib.hid (HR.out.trans hr.symm)
    obtain ⟨A3, c3, hv3, _⟩ := he3.form
    obtain ⟨n3, hn3⟩ : ∃ n, n = (r.getD Mil.nil).es.length := ⟨_, rfl⟩
    rw [← hn3] at hv3
    subst hv3
    have He := Lib.hid he3
    have Hs3 := Lib.hid b3.size
    clear b3 hb2 hes hr hn3 he3 HR c00 c01 c02 c03 c10 c11 c12 c13 c14 c15 c16
    obtain ⟨w9, hw9⟩ : ∃ w9, w9 = (((w3.setCell ⟨w.heap.size + 1 + 1, 0, none⟩ (.slice A3 n3 c3)).setCell ⟨w.heap.size + 1 + 1, 1, none⟩ (.int .i64 (r.getD Mil.nil).a)).setCell ⟨w.heap.size + 1 + 1, 2, none⟩ (.int .i64 (r.getD Mil.nil).b)).setCell ⟨w.heap.size + 1 + 1, 3, none⟩ (.int .i64 (r.getD Mil.nil).z) := ⟨_, rfl⟩
    have HE9 := Lib.hid (show ES w9 w2.heap.size w3.heap.size (.slice A3 n3 c3) (r.getD Mil.nil).es by
      rw [hw9]
      exact He.out.kept fun q hq _ => by simp only [World.setCell, Array.getElem?_modify, if_neg (show ¬ w.heap.size + 1 + 1 = q by omega)])
    have HB9 := Lib.hid (show Below w.heap.size w w9 by rw [hw9]; exact (((Hb.out.setCell (p := ⟨_, _, _⟩) (by simp; omega) _).setCell (p := ⟨_, _, _⟩) (by simp; omega) _).setCell (p := ⟨_, _, _⟩) (by simp; omega) _).setCell (p := ⟨_, _, _⟩) (by simp; omega) _)
    have HZ9 := Lib.hid (show w9.heap.size = w3.heap.size by rw [hw9]; simp [World.setCell])
    have Hw9 := Lib.hid hw9
    clear hw9
    go_wp2
    refine bodyPost_ret (v := .tuple #[.agg #[.slice A3 n3 c3, .int .i64 (r.getD Mil.nil).a, .int .i64 (r.getD Mil.nil).b, .int .i64 (r.getD Mil.nil).z], .bool r.isSome]) (by simp [results, Tryd.results34, go_sem, *]) rfl ?_
    rw [← Hw9.out, HR2.out]
    exact ⟨_, rfl, HE9.out.wide (by omega) (by have := HZ9.out; omega), HB9.out⟩

/-- what a call returns that makes something of a mill, opened -/
def GenR (r : Option Mil) (rs : Bool) (es : List Ent) (a b z : Int) : Prop := (rs = true ∧ r = some ⟨es, a, b, z⟩) ∨ (rs = false ∧ r = none)
theorem GenR.mk (r : Option Mil) : GenR r r.isSome (r.getD Mil.nil).es (r.getD Mil.nil).a (r.getD Mil.nil).b (r.getD Mil.nil).z := by
  cases r with
  | none => exact .inr ⟨rfl, rfl⟩
  | some m => exact .inl ⟨rfl, rfl⟩
theorem Mil.i64 {m : Mil} (h : m.ok = true) : I64 m.a ∧ I64 m.b ∧ I64 m.z := by
  have hv := vMill_iff.1 h
  exact ⟨⟨by omega, by omega⟩, ⟨by omega, by omega⟩, ⟨by omega, by omega⟩⟩
end Go.Proofs.YtlabekemifccaaaDoor
