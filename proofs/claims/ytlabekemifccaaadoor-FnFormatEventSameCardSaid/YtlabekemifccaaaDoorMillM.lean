/-
  Lemmas and contracts of single functions of this program, used by the proofs of its laws: what each call returns and what becomes of memory. Conditions: the hypotheses of each theorem.
-/
import Derived.Test.YtlabekemifccaaaDoorMillL
namespace Go.Proofs.YtlabekemifccaaaDoor
open Go.RowKit
attribute [local go_sem ↓] Go.wp_at_zero Go.wp_at_succ

/-- a mill that was drawn -/
def AmPost (B k n g : Nat) (v : Value) (w : World) (e : Ending) (w' : World) : Prop :=
  ∃ (u : Value) (es : List Ent) (a b z : Int) (k2 : Nat), e = .returned (.agg #[u, .int .i64 a, .int .i64 b, .int .i64 z]) ∧ ES w' w.heap.size w'.heap.size u es ∧ ((-1 ≤ a ∧ a ≤ 900001) ∧ (-1 ≤ b ∧ b ≤ 900001) ∧ (-1 ≤ z ∧ z ≤ 900001)) ∧
    es.length ≤ 12 ∧ (∀ j, j < es.length → vEnt (ge es j) = true) ∧ k2 ≤ k + n ∧ Rdr w' B k2 g v ∧ w.grownBy w' (some g)
set_option maxRecDepth 100000 in
set_option maxHeartbeats 4000000 in
theorem anyMill_any (B k g : Nat) (v : Value) (w : World) (h : Rdr w B k g v) (hk : k ≤ 500000) :
    Calls Tryd.prog 56 #[v] w fun e w' => AmPost B k 323 g v w e w' := by
  have hg0 := h.lt
  have hva : ∃ gg, v = .pointer gg := by obtain ⟨_, _, _, _, e, _⟩ := h; exact ⟨_, e⟩
  obtain ⟨gg, rfl⟩ := hva
  have hr1 : ∀ w1, Below w.heap.size w w1 → Rdr w1 B k g (.pointer gg) := fun w1 hb => h.below hb
  have Hs := Lib.hid (show ∃ w1, w1 = (w.alloc (.cells #[.slice none 0 0, .int .i64 0, .int .i64 0, .int .i64 0] 52)) ∧ Below w.heap.size w w1 ∧ w1.cell? ⟨w.heap.size, 0, none⟩ = some (.slice none 0 0) ∧ w1.cell? ⟨w.heap.size, 1, none⟩ = some (.int .i64 0) ∧ w1.cell? ⟨w.heap.size, 2, none⟩ = some (.int .i64 0) ∧ w1.cell? ⟨w.heap.size, 3, none⟩ = some (.int .i64 0) ∧ w1.frozen? ⟨w.heap.size, 0, none⟩ = false ∧ w1.frozen? ⟨w.heap.size, 1, none⟩ = false ∧ w1.frozen? ⟨w.heap.size, 2, none⟩ = false ∧ w1.frozen? ⟨w.heap.size, 3, none⟩ = false ∧ w.heap.size < w1.heap.size from by
    have hb : Below w.heap.size w (w.alloc (.cells #[.slice none 0 0, .int .i64 0, .int .i64 0, .int .i64 0] 52)) := (Below.refl _ _).alloc (Nat.le_refl _) _
    exact ⟨_, rfl, hb, by go_simp, by go_simp, by go_simp, by go_simp, by go_simp, by go_simp, by go_simp, by go_simp, by simp⟩)
  go_enter Tryd.func56, Tryd.ntmps56
  go_wp2_with fail
  obtain ⟨w1, hw1, hb0, c00, c01, c02, c03, f00, f01, f02, f03, hz⟩ := Hs.out
  have HZ := Lib.hid (show w1.heap.size = w.heap.size + 1 by rw [hw1]; simp)
  rw [← hw1]
  clear hw1 Hs
  have hr2 := hr1 w1 hb0
  have hgr2 := grown_below hb0 (some g)
  clear hr1 h hb0
  refine (someBook_any B k g _ w1 hr2 (by omega)).mono ?_
  rintro e w2 ⟨vs, u, evs, m, k2, rfl, hov, hes, _, hok, _, hk2, hr3, bg⟩
  obtain ⟨A, c, rfl, hc, hm⟩ := hes.form
  obtain ⟨A5, c5, rfl, _⟩ := hov.form
  replace c00 := keepW bg (by first | (simp; done) | (simp; omega)) c00; replace c01 := keepW bg (by first | (simp; done) | (simp; omega)) c01; replace c02 := keepW bg (by first | (simp; done) | (simp; omega)) c02; replace c03 := keepW bg (by first | (simp; done) | (simp; omega)) c03
  replace f00 := keepWF bg (by first | (simp; done) | (simp; omega)) f00; replace f01 := keepWF bg (by first | (simp; done) | (simp; omega)) f01; replace f02 := keepWF bg (by first | (simp; done) | (simp; omega)) f02; replace f03 := keepWF bg (by first | (simp; done) | (simp; omega)) f03
  have hgr3 := grown_trans hgr2 bg
  have hz2 : w.heap.size < w2.heap.size := by have := bg.size; omega
  have hz12 : w1.heap.size ≤ w2.heap.size := bg.size
  have hvm := vMill_iff.1 hok
  have hl12 := hvm.2.1
  have Hv := Lib.hid (fun j hj => (hvm.1 j hj).1)
  have ha := hvm.2.2.1
  have hb := hvm.2.2.2.1
  have hz' := hvm.2.2.2.2.1
  clear hvm hok hov bg hr2 hgr2
  go_wp2_with fail
  obtain ⟨w3, hw1⟩ : ∃ w3, w3 = w2.alloc (.cells #[.slice A m.es.length c, .int .i64 (m.a), .int .i64 (m.b), .int .i64 (m.z)] 52) := ⟨_, rfl⟩
  have x0 : w3.cell? ⟨w2.heap.size, 0, none⟩ = some (.slice A m.es.length c) := by rw [hw1]; go_simp
  have x1 : w3.cell? ⟨w2.heap.size, 1, none⟩ = some (.int .i64 (m.a)) := by rw [hw1]; go_simp
  have x2 : w3.cell? ⟨w2.heap.size, 2, none⟩ = some (.int .i64 (m.b)) := by rw [hw1]; go_simp
  have x3 : w3.cell? ⟨w2.heap.size, 3, none⟩ = some (.int .i64 (m.z)) := by rw [hw1]; go_simp
  have bx : Below w2.heap.size w2 w3 := by rw [hw1]; exact (Below.refl _ _).alloc (Nat.le_refl _) _
  have zx : w2.heap.size < w3.heap.size := by rw [hw1]; simp
  have HZx := Lib.hid (show w3.heap.size = w2.heap.size + 1 by rw [hw1]; simp)
  have fx0 : w3.frozen? ⟨w2.heap.size, 0, none⟩ = false := by rw [hw1]; go_simp
  have fx1 : w3.frozen? ⟨w2.heap.size, 1, none⟩ = false := by rw [hw1]; go_simp
  have fx2 : w3.frozen? ⟨w2.heap.size, 2, none⟩ = false := by rw [hw1]; go_simp
  have fx3 : w3.frozen? ⟨w2.heap.size, 3, none⟩ = false := by rw [hw1]; go_simp
  have Hx := Lib.hid (show w3.heap[w2.heap.size]? = some (.cells #[.slice A m.es.length c, .int .i64 (m.a), .int .i64 (m.b), .int .i64 (m.z)] 52) by rw [hw1]; exact heap_alloc_new w2 _)
  rw [← hw1]
  clear hw1
  have hr4 := hr3.below bx
  have hgr4 := grown_trans hgr3 (grown_below bx (some g))
  have he4 := hes.below bx (Nat.le_refl _)
  replace c00 := keepB bx c00; replace c01 := keepB bx c01; replace c02 := keepB bx c02; replace c03 := keepB bx c03
  replace f00 := keepF bx (by first | (simp; done) | (simp; omega)) f00; replace f01 := keepF bx (by first | (simp; done) | (simp; omega)) f01; replace f02 := keepF bx (by first | (simp; done) | (simp; omega)) f02; replace f03 := keepF bx (by first | (simp; done) | (simp; omega)) f03
  obtain ⟨X, hX⟩ : ∃ X, X = w2.heap.size := ⟨_, rfl⟩
  rw [← hX] at x0 x1 x2 x3 fx0 fx1 fx2 fx3 zx he4 hz2 hz12
  rw [← hX]
  have HX := Lib.hid hX
  clear bx hr3 hgr3 hes Hx HZx hX
  refine (pick_any B k2 g _ 20 w3 hr4 (by omega) (by omega)).mono ?_
  rintro e w4 ⟨q, rfl, hm9, hr5, bo9⟩
  have q_r := hm9.rng (m := 20) (by omega) (by omega)
  replace c00 := keepO bo9 (by first | (simp; done) | (simp; omega)) c00; replace c01 := keepO bo9 (by first | (simp; done) | (simp; omega)) c01; replace c02 := keepO bo9 (by first | (simp; done) | (simp; omega)) c02; replace c03 := keepO bo9 (by first | (simp; done) | (simp; omega)) c03; replace x0 := keepO bo9 (by first | (simp; done) | (simp; omega)) x0; replace x1 := keepO bo9 (by first | (simp; done) | (simp; omega)) x1; replace x2 := keepO bo9 (by first | (simp; done) | (simp; omega)) x2; replace x3 := keepO bo9 (by first | (simp; done) | (simp; omega)) x3
  replace f00 := keepOF bo9 (by first | (simp; done) | (simp; omega)) f00; replace f01 := keepOF bo9 (by first | (simp; done) | (simp; omega)) f01; replace f02 := keepOF bo9 (by first | (simp; done) | (simp; omega)) f02; replace f03 := keepOF bo9 (by first | (simp; done) | (simp; omega)) f03; replace fx0 := keepOF bo9 (by first | (simp; done) | (simp; omega)) fx0; replace fx1 := keepOF bo9 (by first | (simp; done) | (simp; omega)) fx1; replace fx2 := keepOF bo9 (by first | (simp; done) | (simp; omega)) fx2; replace fx3 := keepOF bo9 (by first | (simp; done) | (simp; omega)) fx3
  have hgr5 := grown_trans hgr4 (grown_only bo9)
  have he5 := he4.kept (bo9.kept (.inr (by omega)))
  have hz4 : X < w4.heap.size := by have := bo9.size; omega
  have hz4b : w.heap.size < w4.heap.size := by omega
  have hPX : ¬ w.heap.size = X := by omega
  have hPX2 : ¬ X = w.heap.size := by omega
  have hXg : ¬ X = g := by omega
  clear bo9 hm9 hr4 hgr4 he4
  by_cases hq0 : q = 0
  · have e0 : (q == 0) = true := beq_t hq0
    clear hq0
    obtain ⟨wq, hwq⟩ : ∃ wq, wq = (((((w4.setCell ⟨X, 1, none⟩ (.int .i64 (m.a + 1))).setCell ⟨w.heap.size, 0, none⟩ (.slice A m.es.length c)).setCell ⟨w.heap.size, 1, none⟩ (.int .i64 (m.a + 1))).setCell ⟨w.heap.size, 2, none⟩ (.int .i64 m.b)).setCell ⟨w.heap.size, 3, none⟩ (.int .i64 m.z)) := ⟨_, rfl⟩
    have Hrq := Lib.hid (show Rdr wq B (k2 + 1) g (.pointer gg) by rw [hwq]; exact (((((hr5.set (p := ⟨X, 1, none⟩) ⟨by show B ≤ X; omega, by show ¬ X = g; omega⟩ _).set (p := ⟨w.heap.size, 0, none⟩) ⟨by show B ≤ w.heap.size; omega, by show ¬ w.heap.size = g; omega⟩ _).set (p := ⟨w.heap.size, 1, none⟩) ⟨by show B ≤ w.heap.size; omega, by show ¬ w.heap.size = g; omega⟩ _).set (p := ⟨w.heap.size, 2, none⟩) ⟨by show B ≤ w.heap.size; omega, by show ¬ w.heap.size = g; omega⟩ _).set (p := ⟨w.heap.size, 3, none⟩) ⟨by show B ≤ w.heap.size; omega, by show ¬ w.heap.size = g; omega⟩ _))
    have Hgq := Lib.hid (show w.grownBy wq (some g) by rw [hwq]; exact (grown_setCell (grown_setCell (grown_setCell (grown_setCell (grown_setCell hgr5 (p := ⟨X, 1, none⟩) (by show w.heap.size ≤ X; omega) _) (p := ⟨w.heap.size, 0, none⟩) (by show w.heap.size ≤ w.heap.size; omega) _) (p := ⟨w.heap.size, 1, none⟩) (by show w.heap.size ≤ w.heap.size; omega) _) (p := ⟨w.heap.size, 2, none⟩) (by show w.heap.size ≤ w.heap.size; omega) _) (p := ⟨w.heap.size, 3, none⟩) (by show w.heap.size ≤ w.heap.size; omega) _))
    have Heq := Lib.hid (show ES wq w1.heap.size X (.slice A m.es.length c) m.es by rw [hwq]; exact (((((he5.setFar (p := ⟨X, 1, none⟩) (.inr (Nat.le_refl _)) _).setFar (p := ⟨w.heap.size, 0, none⟩) (.inl (by show w.heap.size < _; omega)) _).setFar (p := ⟨w.heap.size, 1, none⟩) (.inl (by show w.heap.size < _; omega)) _).setFar (p := ⟨w.heap.size, 2, none⟩) (.inl (by show w.heap.size < _; omega)) _).setFar (p := ⟨w.heap.size, 3, none⟩) (.inl (by show w.heap.size < _; omega)) _))
    have Hzq := Lib.hid (show w4.heap.size ≤ wq.heap.size by rw [hwq]; simp [World.setCell])
    have Hwq := Lib.hid hwq
    clear hwq
    go_wp2
    refine bodyPost_ret (v := .agg #[.slice A m.es.length c, .int .i64 (m.a + 1), .int .i64 m.b, .int .i64 m.z]) (by simp [results, Tryd.results56, go_sem, *]) rfl ?_
    rw [← Hwq.out]
    exact ⟨_, m.es, _, _, _, k2 + 1, rfl, Heq.out.wide (by omega) (by have := Hzq.out; omega), ⟨⟨by omega, by omega⟩, ⟨by omega, by omega⟩, ⟨by omega, by omega⟩⟩, hl12, Hv.out, by omega, Hrq.out, Hgq.out⟩
  · have e0 : (q == 0) = false := beq_f hq0
    clear hq0
    by_cases hq1 : q = 1
    · have e1 : (q == 1) = true := beq_t hq1
      clear hq1
      go_wp2_with fail
      refine (one_lit B (k2 + 1) g _ [-1, 900001] w4 _ _ _ hr5 (by omega) rfl rfl rfl (by simp) (by simp) (by unfold I64; simp)).mono ?_
      rintro e w5 ⟨y, rfl, hy, hr6, bg⟩
      have y_r : -1 ≤ y ∧ y ≤ 900001 := by simp only [List.mem_cons, List.not_mem_nil, or_false] at hy; omega
      replace c00 := keepW bg (by first | (simp; done) | (simp; omega)) c00; replace c01 := keepW bg (by first | (simp; done) | (simp; omega)) c01; replace c02 := keepW bg (by first | (simp; done) | (simp; omega)) c02; replace c03 := keepW bg (by first | (simp; done) | (simp; omega)) c03; replace x0 := keepW bg (by first | (simp; done) | (simp; omega)) x0; replace x1 := keepW bg (by first | (simp; done) | (simp; omega)) x1; replace x2 := keepW bg (by first | (simp; done) | (simp; omega)) x2; replace x3 := keepW bg (by first | (simp; done) | (simp; omega)) x3
      replace f00 := keepWF bg (by first | (simp; done) | (simp; omega)) f00; replace f01 := keepWF bg (by first | (simp; done) | (simp; omega)) f01; replace f02 := keepWF bg (by first | (simp; done) | (simp; omega)) f02; replace f03 := keepWF bg (by first | (simp; done) | (simp; omega)) f03; replace fx0 := keepWF bg (by first | (simp; done) | (simp; omega)) fx0; replace fx1 := keepWF bg (by first | (simp; done) | (simp; omega)) fx1; replace fx2 := keepWF bg (by first | (simp; done) | (simp; omega)) fx2; replace fx3 := keepWF bg (by first | (simp; done) | (simp; omega)) fx3
      have hgr6 := grown_trans hgr5 bg
      have he6 := he5.kept (Kept.of_grown bg (by omega) (.inl (by omega)))
      have hz5 : X < w5.heap.size := by have := bg.size; omega
      clear bg hy hr5 hgr5 he5
      obtain ⟨wq, hwq⟩ : ∃ wq, wq = (((((w5.setCell ⟨X, 3, none⟩ (.int .i64 y)).setCell ⟨w.heap.size, 0, none⟩ (.slice A m.es.length c)).setCell ⟨w.heap.size, 1, none⟩ (.int .i64 m.a)).setCell ⟨w.heap.size, 2, none⟩ (.int .i64 m.b)).setCell ⟨w.heap.size, 3, none⟩ (.int .i64 y)) := ⟨_, rfl⟩
      have Hrq := Lib.hid (show Rdr wq B (k2 + 1 + 1) g (.pointer gg) by rw [hwq]; exact (((((hr6.set (p := ⟨X, 3, none⟩) ⟨by show B ≤ X; omega, by show ¬ X = g; omega⟩ _).set (p := ⟨w.heap.size, 0, none⟩) ⟨by show B ≤ w.heap.size; omega, by show ¬ w.heap.size = g; omega⟩ _).set (p := ⟨w.heap.size, 1, none⟩) ⟨by show B ≤ w.heap.size; omega, by show ¬ w.heap.size = g; omega⟩ _).set (p := ⟨w.heap.size, 2, none⟩) ⟨by show B ≤ w.heap.size; omega, by show ¬ w.heap.size = g; omega⟩ _).set (p := ⟨w.heap.size, 3, none⟩) ⟨by show B ≤ w.heap.size; omega, by show ¬ w.heap.size = g; omega⟩ _))
      have Hgq := Lib.hid (show w.grownBy wq (some g) by rw [hwq]; exact (grown_setCell (grown_setCell (grown_setCell (grown_setCell (grown_setCell hgr6 (p := ⟨X, 3, none⟩) (by show w.heap.size ≤ X; omega) _) (p := ⟨w.heap.size, 0, none⟩) (by show w.heap.size ≤ w.heap.size; omega) _) (p := ⟨w.heap.size, 1, none⟩) (by show w.heap.size ≤ w.heap.size; omega) _) (p := ⟨w.heap.size, 2, none⟩) (by show w.heap.size ≤ w.heap.size; omega) _) (p := ⟨w.heap.size, 3, none⟩) (by show w.heap.size ≤ w.heap.size; omega) _))
      have Heq := Lib.hid (show ES wq w1.heap.size X (.slice A m.es.length c) m.es by rw [hwq]; exact (((((he6.setFar (p := ⟨X, 3, none⟩) (.inr (Nat.le_refl _)) _).setFar (p := ⟨w.heap.size, 0, none⟩) (.inl (by show w.heap.size < _; omega)) _).setFar (p := ⟨w.heap.size, 1, none⟩) (.inl (by show w.heap.size < _; omega)) _).setFar (p := ⟨w.heap.size, 2, none⟩) (.inl (by show w.heap.size < _; omega)) _).setFar (p := ⟨w.heap.size, 3, none⟩) (.inl (by show w.heap.size < _; omega)) _))
      have Hzq := Lib.hid (show w5.heap.size ≤ wq.heap.size by rw [hwq]; simp [World.setCell])
      have Hwq := Lib.hid hwq
      clear hwq
      go_wp2
      refine bodyPost_ret (v := .agg #[.slice A m.es.length c, .int .i64 m.a, .int .i64 m.b, .int .i64 y]) (by simp [results, Tryd.results56, go_sem, *]) rfl ?_
      rw [← Hwq.out]
      exact ⟨_, m.es, _, _, _, k2 + 1 + 1, rfl, Heq.out.wide (by omega) (by have := Hzq.out; omega), ⟨⟨by omega, by omega⟩, ⟨by omega, by omega⟩, ⟨by omega, by omega⟩⟩, hl12, Hv.out, by omega, Hrq.out, Hgq.out⟩
    · have e1 : (q == 1) = false := beq_f hq1
      clear hq1
      obtain ⟨wq, hwq⟩ : ∃ wq, wq = ((((w4.setCell ⟨w.heap.size, 0, none⟩ (.slice A m.es.length c)).setCell ⟨w.heap.size, 1, none⟩ (.int .i64 m.a)).setCell ⟨w.heap.size, 2, none⟩ (.int .i64 m.b)).setCell ⟨w.heap.size, 3, none⟩ (.int .i64 m.z)) := ⟨_, rfl⟩
      have Hrq := Lib.hid (show Rdr wq B (k2 + 1) g (.pointer gg) by rw [hwq]; exact ((((hr5.set (p := ⟨w.heap.size, 0, none⟩) ⟨by show B ≤ w.heap.size; omega, by show ¬ w.heap.size = g; omega⟩ _).set (p := ⟨w.heap.size, 1, none⟩) ⟨by show B ≤ w.heap.size; omega, by show ¬ w.heap.size = g; omega⟩ _).set (p := ⟨w.heap.size, 2, none⟩) ⟨by show B ≤ w.heap.size; omega, by show ¬ w.heap.size = g; omega⟩ _).set (p := ⟨w.heap.size, 3, none⟩) ⟨by show B ≤ w.heap.size; omega, by show ¬ w.heap.size = g; omega⟩ _))
      have Hgq := Lib.hid (show w.grownBy wq (some g) by rw [hwq]; exact (grown_setCell (grown_setCell (grown_setCell (grown_setCell hgr5 (p := ⟨w.heap.size, 0, none⟩) (by show w.heap.size ≤ w.heap.size; omega) _) (p := ⟨w.heap.size, 1, none⟩) (by show w.heap.size ≤ w.heap.size; omega) _) (p := ⟨w.heap.size, 2, none⟩) (by show w.heap.size ≤ w.heap.size; omega) _) (p := ⟨w.heap.size, 3, none⟩) (by show w.heap.size ≤ w.heap.size; omega) _))
      have Heq := Lib.hid (show ES wq w1.heap.size X (.slice A m.es.length c) m.es by rw [hwq]; exact ((((he5.setFar (p := ⟨w.heap.size, 0, none⟩) (.inl (by show w.heap.size < _; omega)) _).setFar (p := ⟨w.heap.size, 1, none⟩) (.inl (by show w.heap.size < _; omega)) _).setFar (p := ⟨w.heap.size, 2, none⟩) (.inl (by show w.heap.size < _; omega)) _).setFar (p := ⟨w.heap.size, 3, none⟩) (.inl (by show w.heap.size < _; omega)) _))
      have Hzq := Lib.hid (show w4.heap.size ≤ wq.heap.size by rw [hwq]; simp [World.setCell])
      have Hwq := Lib.hid hwq
      clear hwq
      go_wp2
      refine bodyPost_ret (v := .agg #[.slice A m.es.length c, .int .i64 m.a, .int .i64 m.b, .int .i64 m.z]) (by simp [results, Tryd.results56, go_sem, *]) rfl ?_
      rw [← Hwq.out]
      exact ⟨_, m.es, _, _, _, k2 + 1, rfl, Heq.out.wide (by omega) (by have := Hzq.out; omega), ⟨⟨by omega, by omega⟩, ⟨by omega, by omega⟩, ⟨by omega, by omega⟩⟩, hl12, Hv.out, by omega, Hrq.out, Hgq.out⟩
end Go.Proofs.YtlabekemifccaaaDoor
