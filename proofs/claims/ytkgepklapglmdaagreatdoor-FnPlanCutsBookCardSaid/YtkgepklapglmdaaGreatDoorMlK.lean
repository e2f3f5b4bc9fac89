/-
  Texts merged into one: what each function does, and plain lemmas. No condition.
-/
import Derived.Test.YtkgepklapglmdaaGreatDoorMillH
import Derived.Test.YtkgepklapglmdaaGreatDoorDrw1
import Derived.Deep.DeepCutAuto
import Derived.Test.YtkgepklapglmdaaGreatDoorMillS
namespace Go.Proofs.YtkgepklapglmdaaGreatDoor
open Go.RowKit
attribute [local go_sem ↓] Go.wp_at_zero Go.wp_at_succ

/-- an event that was drawn -/
def EvPost (B k n g : Nat) (v : Value) (w : World) (e : Ending) (w' : World) : Prop :=
  ∃ (ev : Evt) (k2 : Nat), e = .returned (.agg #[.int .i64 ev.k, .int .i64 ev.lb, .int .i64 ev.l, .int .i64 ev.r, .int .i64 ev.f, .int .i64 ev.t, .int .i64 ev.g]) ∧ V64 ev ∧ k2 ≤ k + n ∧ Rdr w' B k2 g v ∧ w.grownBy w' (some g)
theorem ES.cellAt {w : World} {lo hi n c b o : Nat} {es : List Ent} (h : ES w lo hi (.slice (some ⟨b, o, none⟩) n c) es) {k : Nat} (hk : k < es.length) :
    ∃ Ad cd Ap cp, w.cell? ⟨b, o + k * 5, none⟩ = some (.int .i64 (ge es k).lb) ∧ w.cell? ⟨b, o + k * 5 + 1, none⟩ = some (.int .i64 (ge es k).W) ∧ w.cell? ⟨b, o + k * 5 + 2, none⟩ = some (.int .i64 (ge es k).L) ∧
      w.cell? ⟨b, o + k * 5 + 3, none⟩ = some (.slice Ad (ge es k).ds.length cd) ∧ w.cell? ⟨b, o + k * 5 + 4, none⟩ = some (.slice Ap (ge es k).ps.length cp) := by
  obtain ⟨b', o', Ad, cd, Ap, cp, e, _, _, e0, e1, e2, e3, e4, _⟩ := h.cell hk
  injection e with e1'
  injection e1' with h1 h2
  subst h1; subst h2
  exact ⟨Ad, cd, Ap, cp, e0, e1, e2, e3, e4⟩
theorem v64_mk {k lb l r f t g : Int} (h1 : I64 k) (h2 : I64 lb) (h3 : I64 l) (h4 : I64 r) (h5 : I64 f) (h6 : I64 t) (h7 : I64 g) : V64 ⟨k, lb, l, r, f, t, g⟩ := ⟨h1, h2, h3, h4, h5, h6, h7⟩
set_option maxRecDepth 100000 in
set_option maxHeartbeats 8000000 in
theorem someEvent_any (B k g lo hi : Nat) (v u : Value) (es : List Ent) (a b z : Int) (w : World) (h : Rdr w B k g v) (hk : k ≤ 700000) (he : ES w lo hi u es) (hhi : hi ≤ w.heap.size) (hgl : g < lo) (hl : es.length ≤ 12) (hv : ∀ j, j < es.length → vEnt (ge es j) = true) :
    Calls Tryz.prog 98 #[v, .agg #[u, .int .i64 a, .int .i64 b, .int .i64 z]] w fun e w' => EvPost B k 16 g v w e w' := by
  have hg0 := h.lt
  have hva : ∃ gg, v = .pointer gg := by obtain ⟨_, _, _, _, e, _⟩ := h; exact ⟨_, e⟩
  obtain ⟨gg, rfl⟩ := hva
  obtain ⟨A, c, rfl, hc, hm⟩ := he.form
  have hr1 : ∀ w1, Below w.heap.size w w1 → Rdr w1 B k g (.pointer gg) := fun w1 hb => h.below hb
  have hes : ∀ w1, Below w.heap.size w w1 → ES w1 lo hi (.slice A es.length c) es := fun w1 hb => he.below hb hhi
  have HV := Lib.hid hv
  clear hv
  have Hs := Lib.hid (show ∃ w1, w1 = ((w.alloc (.cells #[.slice A es.length c, .int .i64 a, .int .i64 b, .int .i64 z] 25)).alloc (.cells #[.int .i64 0, .int .i64 0, .int .i64 0, .int .i64 0, .int .i64 0, .int .i64 0, .int .i64 0] 40)) ∧ Below w.heap.size w w1 ∧ w1.cell? ⟨w.heap.size, 0, none⟩ = some (.slice A es.length c) ∧ w1.cell? ⟨w.heap.size, 1, none⟩ = some (.int .i64 a) ∧ w1.cell? ⟨w.heap.size, 2, none⟩ = some (.int .i64 b) ∧ w1.cell? ⟨w.heap.size, 3, none⟩ = some (.int .i64 z) ∧ w1.cell? ⟨w.heap.size + 1, 0, none⟩ = some (.int .i64 0) ∧ w1.cell? ⟨w.heap.size + 1, 1, none⟩ = some (.int .i64 0) ∧ w1.cell? ⟨w.heap.size + 1, 2, none⟩ = some (.int .i64 0) ∧ w1.cell? ⟨w.heap.size + 1, 3, none⟩ = some (.int .i64 0) ∧ w1.cell? ⟨w.heap.size + 1, 4, none⟩ = some (.int .i64 0) ∧ w1.cell? ⟨w.heap.size + 1, 5, none⟩ = some (.int .i64 0) ∧ w1.cell? ⟨w.heap.size + 1, 6, none⟩ = some (.int .i64 0) ∧ w1.frozen? ⟨w.heap.size + 1, 0, none⟩ = false ∧ w1.frozen? ⟨w.heap.size + 1, 1, none⟩ = false ∧ w1.frozen? ⟨w.heap.size + 1, 2, none⟩ = false ∧ w1.frozen? ⟨w.heap.size + 1, 3, none⟩ = false ∧ w1.frozen? ⟨w.heap.size + 1, 4, none⟩ = false ∧ w1.frozen? ⟨w.heap.size + 1, 5, none⟩ = false ∧ w1.frozen? ⟨w.heap.size + 1, 6, none⟩ = false ∧ w.heap.size + 1 < w1.heap.size from by
    have hb : Below w.heap.size w ((w.alloc (.cells #[.slice A es.length c, .int .i64 a, .int .i64 b, .int .i64 z] 25)).alloc (.cells #[.int .i64 0, .int .i64 0, .int .i64 0, .int .i64 0, .int .i64 0, .int .i64 0, .int .i64 0] 40)) := ((Below.refl _ _).alloc (Nat.le_refl _) _).alloc (by simp) _
    exact ⟨_, rfl, hb, by go_simp, by go_simp, by go_simp, by go_simp, by go_simp, by go_simp, by go_simp, by go_simp, by go_simp, by go_simp, by go_simp, by go_simp, by go_simp, by go_simp, by go_simp, by go_simp, by go_simp, by go_simp, by simp⟩)
  by_cases h0 : ¬ 0 < es.length
  · have hl0 : ((es.length : Int) == 0) = true := beq_t (by omega)
    go_enter Tryz.func98, Tryz.ntmps98
    go_wp2_with fail
    obtain ⟨w1, hw1, hb0, c00, c01, c02, c03, c10, c11, c12, c13, c14, c15, c16, f10, f11, f12, f13, f14, f15, f16, hz⟩ := Hs.out
    rw [← hw1]
    clear hw1 Hs
    have hr2 := hr1 w1 hb0
    have hgr2 := grown_below hb0 (some g)
    clear hes hr1 h he h0 hb0
    go_wp2_with fail
    refine (pick_any B (k) g _ 50 w1 hr2 (by omega) (by omega)).mono ?_
    rintro e wa ⟨q, rfl, hm9, hra, bo9⟩
    have q_r := hm9.rng (m := 50) (by omega) (by omega)
    replace c10 := keepO bo9 (by first | (simp; done) | (simp; omega)) c10; replace c11 := keepO bo9 (by first | (simp; done) | (simp; omega)) c11; replace c12 := keepO bo9 (by first | (simp; done) | (simp; omega)) c12; replace c13 := keepO bo9 (by first | (simp; done) | (simp; omega)) c13; replace c14 := keepO bo9 (by first | (simp; done) | (simp; omega)) c14; replace c15 := keepO bo9 (by first | (simp; done) | (simp; omega)) c15; replace c16 := keepO bo9 (by first | (simp; done) | (simp; omega)) c16
    replace f10 := keepOF bo9 (by first | (simp; done) | (simp; omega)) f10; replace f11 := keepOF bo9 (by first | (simp; done) | (simp; omega)) f11; replace f12 := keepOF bo9 (by first | (simp; done) | (simp; omega)) f12; replace f13 := keepOF bo9 (by first | (simp; done) | (simp; omega)) f13; replace f14 := keepOF bo9 (by first | (simp; done) | (simp; omega)) f14; replace f15 := keepOF bo9 (by first | (simp; done) | (simp; omega)) f15; replace f16 := keepOF bo9 (by first | (simp; done) | (simp; omega)) f16
    have hgra := grown_trans hgr2 (grown_only bo9)
    have hz_wa : w.heap.size + 1 < wa.heap.size := by have := bo9.size; omega
    clear bo9 hm9 hr2 hgr2
    go_wp2_with fail
    refine (one_lit B (k + 1) g _ [1 + q, 7, 9999] wa _ _ _ hra (by omega) rfl rfl rfl (by simp) (by simp) (fun x hx => by simp only [List.mem_cons, List.not_mem_nil, or_false] at hx; unfold I64; omega)).mono ?_
    rintro e wb ⟨lb, rfl, hm9, hrb, bg9⟩
    have lb_r : 1 ≤ lb ∧ lb ≤ 9999 := by simp only [List.mem_cons, List.not_mem_nil, or_false] at hm9; omega
    replace c10 := keepW bg9 (by first | (simp; done) | (simp; omega)) c10; replace c11 := keepW bg9 (by first | (simp; done) | (simp; omega)) c11; replace c12 := keepW bg9 (by first | (simp; done) | (simp; omega)) c12; replace c13 := keepW bg9 (by first | (simp; done) | (simp; omega)) c13; replace c14 := keepW bg9 (by first | (simp; done) | (simp; omega)) c14; replace c15 := keepW bg9 (by first | (simp; done) | (simp; omega)) c15; replace c16 := keepW bg9 (by first | (simp; done) | (simp; omega)) c16
    replace f10 := keepWF bg9 (by first | (simp; done) | (simp; omega)) f10; replace f11 := keepWF bg9 (by first | (simp; done) | (simp; omega)) f11; replace f12 := keepWF bg9 (by first | (simp; done) | (simp; omega)) f12; replace f13 := keepWF bg9 (by first | (simp; done) | (simp; omega)) f13; replace f14 := keepWF bg9 (by first | (simp; done) | (simp; omega)) f14; replace f15 := keepWF bg9 (by first | (simp; done) | (simp; omega)) f15; replace f16 := keepWF bg9 (by first | (simp; done) | (simp; omega)) f16
    have hgrb := grown_trans hgra bg9
    have hz_wb : w.heap.size + 1 < wb.heap.size := by have := bg9.size; omega
    clear bg9 hm9 hra hgra
    go_wp2_with fail
    refine (one_lit B (k + 1 + 1) g _ [12, 20, 6] wb _ _ _ hrb (by omega) rfl rfl rfl (by simp) (by simp) (fun x hx => by simp only [List.mem_cons, List.not_mem_nil, or_false] at hx; unfold I64; omega)).mono ?_
    rintro e wc ⟨r, rfl, hm9, hrc, bg9⟩
    have r_r : 1 ≤ r ∧ r ≤ 60 := by simp only [List.mem_cons, List.not_mem_nil, or_false] at hm9; omega
    replace c10 := keepW bg9 (by first | (simp; done) | (simp; omega)) c10; replace c11 := keepW bg9 (by first | (simp; done) | (simp; omega)) c11; replace c12 := keepW bg9 (by first | (simp; done) | (simp; omega)) c12; replace c13 := keepW bg9 (by first | (simp; done) | (simp; omega)) c13; replace c14 := keepW bg9 (by first | (simp; done) | (simp; omega)) c14; replace c15 := keepW bg9 (by first | (simp; done) | (simp; omega)) c15; replace c16 := keepW bg9 (by first | (simp; done) | (simp; omega)) c16
    replace f10 := keepWF bg9 (by first | (simp; done) | (simp; omega)) f10; replace f11 := keepWF bg9 (by first | (simp; done) | (simp; omega)) f11; replace f12 := keepWF bg9 (by first | (simp; done) | (simp; omega)) f12; replace f13 := keepWF bg9 (by first | (simp; done) | (simp; omega)) f13; replace f14 := keepWF bg9 (by first | (simp; done) | (simp; omega)) f14; replace f15 := keepWF bg9 (by first | (simp; done) | (simp; omega)) f15; replace f16 := keepWF bg9 (by first | (simp; done) | (simp; omega)) f16
    have hgrc := grown_trans hgrb bg9
    have hz_wc : w.heap.size + 1 < wc.heap.size := by have := bg9.size; omega
    clear bg9 hm9 hrb hgrb
    go_wp2_with fail
    refine (one_lit B (k + 1 + 1 + 1) g _ [30, 20, 8] wc _ _ _ hrc (by omega) rfl rfl rfl (by simp) (by simp) (fun x hx => by simp only [List.mem_cons, List.not_mem_nil, or_false] at hx; unfold I64; omega)).mono ?_
    rintro e wd ⟨t, rfl, hm9, hrd, bg9⟩
    have t_r : 1 ≤ t ∧ t ≤ 400 := by simp only [List.mem_cons, List.not_mem_nil, or_false] at hm9; omega
    replace c10 := keepW bg9 (by first | (simp; done) | (simp; omega)) c10; replace c11 := keepW bg9 (by first | (simp; done) | (simp; omega)) c11; replace c12 := keepW bg9 (by first | (simp; done) | (simp; omega)) c12; replace c13 := keepW bg9 (by first | (simp; done) | (simp; omega)) c13; replace c14 := keepW bg9 (by first | (simp; done) | (simp; omega)) c14; replace c15 := keepW bg9 (by first | (simp; done) | (simp; omega)) c15; replace c16 := keepW bg9 (by first | (simp; done) | (simp; omega)) c16
    replace f10 := keepWF bg9 (by first | (simp; done) | (simp; omega)) f10; replace f11 := keepWF bg9 (by first | (simp; done) | (simp; omega)) f11; replace f12 := keepWF bg9 (by first | (simp; done) | (simp; omega)) f12; replace f13 := keepWF bg9 (by first | (simp; done) | (simp; omega)) f13; replace f14 := keepWF bg9 (by first | (simp; done) | (simp; omega)) f14; replace f15 := keepWF bg9 (by first | (simp; done) | (simp; omega)) f15; replace f16 := keepWF bg9 (by first | (simp; done) | (simp; omega)) f16
    have hgrd := grown_trans hgrc bg9
    have hz_wd : w.heap.size + 1 < wd.heap.size := by have := bg9.size; omega
    clear bg9 hm9 hrc hgrc
    have hBg : B ≤ w.heap.size := by omega
    go_wp2
    refine bodyPost_ret (v := .agg #[.int .i64 0, .int .i64 lb, .int .i64 0, .int .i64 r, .int .i64 0, .int .i64 t, .int .i64 0]) (by simp [results, Tryz.results98, go_sem, *]) rfl ⟨⟨0, lb, 0, r, 0, t, 0⟩, k + 1 + 1 + 1 + 1, rfl, v64_mk ⟨by omega, by omega⟩ ⟨by omega, by omega⟩ ⟨by omega, by omega⟩ ⟨by omega, by omega⟩ ⟨by omega, by omega⟩ ⟨by omega, by omega⟩ ⟨by omega, by omega⟩, by omega, ?_, ?_⟩
    · exact (((((((hrd.set ⟨by show B ≤ w.heap.size + 1; omega, by show ¬ w.heap.size + 1 = g; omega⟩ _).set ⟨by show B ≤ w.heap.size + 1; omega, by show ¬ w.heap.size + 1 = g; omega⟩ _).set ⟨by show B ≤ w.heap.size + 1; omega, by show ¬ w.heap.size + 1 = g; omega⟩ _).set ⟨by show B ≤ w.heap.size + 1; omega, by show ¬ w.heap.size + 1 = g; omega⟩ _).set ⟨by show B ≤ w.heap.size + 1; omega, by show ¬ w.heap.size + 1 = g; omega⟩ _).set ⟨by show B ≤ w.heap.size + 1; omega, by show ¬ w.heap.size + 1 = g; omega⟩ _).set ⟨by show B ≤ w.heap.size + 1; omega, by show ¬ w.heap.size + 1 = g; omega⟩ _)
    · exact (grown_setCell (grown_setCell (grown_setCell (grown_setCell (grown_setCell (grown_setCell (grown_setCell hgrd (by show w.heap.size ≤ w.heap.size + 1; omega) _) (by show w.heap.size ≤ w.heap.size + 1; omega) _) (by show w.heap.size ≤ w.heap.size + 1; omega) _) (by show w.heap.size ≤ w.heap.size + 1; omega) _) (by show w.heap.size ≤ w.heap.size + 1; omega) _) (by show w.heap.size ≤ w.heap.size + 1; omega) _) (by show w.heap.size ≤ w.heap.size + 1; omega) _)
  · have hl0 : ((es.length : Int) == 0) = false := beq_f (by omega)
    go_enter Tryz.func98, Tryz.ntmps98
    go_wp2_with fail
    obtain ⟨w1, hw1, hb0, c00, c01, c02, c03, c10, c11, c12, c13, c14, c15, c16, f10, f11, f12, f13, f14, f15, f16, hz⟩ := Hs.out
    rw [← hw1]
    clear hw1 Hs
    have hr2 := hr1 w1 hb0
    have hgr2 := grown_below hb0 (some g)
    have he2 := hes w1 hb0
    have hz1 : w.heap.size + 1 < w1.heap.size := hz
    clear hes hr1 h he hb0
    go_wp2_with fail
    refine (pick_any B (k) g _ 6 w1 hr2 (by omega) (by omega)).mono ?_
    rintro e w2 ⟨y, rfl, hm9, hr3, bo9⟩
    have y_r := hm9.rng (m := 6) (by omega) (by omega)
    replace c10 := keepO bo9 (by first | (simp; done) | (simp; omega)) c10; replace c11 := keepO bo9 (by first | (simp; done) | (simp; omega)) c11; replace c12 := keepO bo9 (by first | (simp; done) | (simp; omega)) c12; replace c13 := keepO bo9 (by first | (simp; done) | (simp; omega)) c13; replace c14 := keepO bo9 (by first | (simp; done) | (simp; omega)) c14; replace c15 := keepO bo9 (by first | (simp; done) | (simp; omega)) c15; replace c16 := keepO bo9 (by first | (simp; done) | (simp; omega)) c16; replace c00 := keepO bo9 (by first | (simp; done) | (simp; omega)) c00
    replace f10 := keepOF bo9 (by first | (simp; done) | (simp; omega)) f10; replace f11 := keepOF bo9 (by first | (simp; done) | (simp; omega)) f11; replace f12 := keepOF bo9 (by first | (simp; done) | (simp; omega)) f12; replace f13 := keepOF bo9 (by first | (simp; done) | (simp; omega)) f13; replace f14 := keepOF bo9 (by first | (simp; done) | (simp; omega)) f14; replace f15 := keepOF bo9 (by first | (simp; done) | (simp; omega)) f15; replace f16 := keepOF bo9 (by first | (simp; done) | (simp; omega)) f16
    have hg12 := grown_only bo9
    have hgr3 := grown_trans hgr2 (grown_only bo9)
    have hz_w2 : w.heap.size + 1 < w2.heap.size := by have := bo9.size; omega
    clear bo9 hm9 hr2 hgr2
    by_cases hy0 : y = 0
    · have hyb : (y == 0) = true := beq_t hy0
      clear h0 hy0
      go_wp2_with fail
      refine (pick_any B (k + 1) g _ 50 w2 hr3 (by omega) (by omega)).mono ?_
      rintro e wa ⟨q, rfl, hm9, hra, bo9⟩
      have q_r := hm9.rng (m := 50) (by omega) (by omega)
      replace c10 := keepO bo9 (by first | (simp; done) | (simp; omega)) c10; replace c11 := keepO bo9 (by first | (simp; done) | (simp; omega)) c11; replace c12 := keepO bo9 (by first | (simp; done) | (simp; omega)) c12; replace c13 := keepO bo9 (by first | (simp; done) | (simp; omega)) c13; replace c14 := keepO bo9 (by first | (simp; done) | (simp; omega)) c14; replace c15 := keepO bo9 (by first | (simp; done) | (simp; omega)) c15; replace c16 := keepO bo9 (by first | (simp; done) | (simp; omega)) c16
      replace f10 := keepOF bo9 (by first | (simp; done) | (simp; omega)) f10; replace f11 := keepOF bo9 (by first | (simp; done) | (simp; omega)) f11; replace f12 := keepOF bo9 (by first | (simp; done) | (simp; omega)) f12; replace f13 := keepOF bo9 (by first | (simp; done) | (simp; omega)) f13; replace f14 := keepOF bo9 (by first | (simp; done) | (simp; omega)) f14; replace f15 := keepOF bo9 (by first | (simp; done) | (simp; omega)) f15; replace f16 := keepOF bo9 (by first | (simp; done) | (simp; omega)) f16
      have hgra := grown_trans hgr3 (grown_only bo9)
      have hz_wa : w.heap.size + 1 < wa.heap.size := by have := bo9.size; omega
      clear bo9 hm9 hr3 hgr3
      go_wp2_with fail
      refine (one_lit B (k + 1 + 1) g _ [1 + q, 7, 9999] wa _ _ _ hra (by omega) rfl rfl rfl (by simp) (by simp) (fun x hx => by simp only [List.mem_cons, List.not_mem_nil, or_false] at hx; unfold I64; omega)).mono ?_
      rintro e wb ⟨lb, rfl, hm9, hrb, bg9⟩
      have lb_r : 1 ≤ lb ∧ lb ≤ 9999 := by simp only [List.mem_cons, List.not_mem_nil, or_false] at hm9; omega
      replace c10 := keepW bg9 (by first | (simp; done) | (simp; omega)) c10; replace c11 := keepW bg9 (by first | (simp; done) | (simp; omega)) c11; replace c12 := keepW bg9 (by first | (simp; done) | (simp; omega)) c12; replace c13 := keepW bg9 (by first | (simp; done) | (simp; omega)) c13; replace c14 := keepW bg9 (by first | (simp; done) | (simp; omega)) c14; replace c15 := keepW bg9 (by first | (simp; done) | (simp; omega)) c15; replace c16 := keepW bg9 (by first | (simp; done) | (simp; omega)) c16
      replace f10 := keepWF bg9 (by first | (simp; done) | (simp; omega)) f10; replace f11 := keepWF bg9 (by first | (simp; done) | (simp; omega)) f11; replace f12 := keepWF bg9 (by first | (simp; done) | (simp; omega)) f12; replace f13 := keepWF bg9 (by first | (simp; done) | (simp; omega)) f13; replace f14 := keepWF bg9 (by first | (simp; done) | (simp; omega)) f14; replace f15 := keepWF bg9 (by first | (simp; done) | (simp; omega)) f15; replace f16 := keepWF bg9 (by first | (simp; done) | (simp; omega)) f16
      have hgrb := grown_trans hgra bg9
      have hz_wb : w.heap.size + 1 < wb.heap.size := by have := bg9.size; omega
      clear bg9 hm9 hra hgra
      go_wp2_with fail
      refine (one_lit B (k + 1 + 1 + 1) g _ [12, 20, 6] wb _ _ _ hrb (by omega) rfl rfl rfl (by simp) (by simp) (fun x hx => by simp only [List.mem_cons, List.not_mem_nil, or_false] at hx; unfold I64; omega)).mono ?_
      rintro e wc ⟨r, rfl, hm9, hrc, bg9⟩
      have r_r : 1 ≤ r ∧ r ≤ 60 := by simp only [List.mem_cons, List.not_mem_nil, or_false] at hm9; omega
      replace c10 := keepW bg9 (by first | (simp; done) | (simp; omega)) c10; replace c11 := keepW bg9 (by first | (simp; done) | (simp; omega)) c11; replace c12 := keepW bg9 (by first | (simp; done) | (simp; omega)) c12; replace c13 := keepW bg9 (by first | (simp; done) | (simp; omega)) c13; replace c14 := keepW bg9 (by first | (simp; done) | (simp; omega)) c14; replace c15 := keepW bg9 (by first | (simp; done) | (simp; omega)) c15; replace c16 := keepW bg9 (by first | (simp; done) | (simp; omega)) c16
      replace f10 := keepWF bg9 (by first | (simp; done) | (simp; omega)) f10; replace f11 := keepWF bg9 (by first | (simp; done) | (simp; omega)) f11; replace f12 := keepWF bg9 (by first | (simp; done) | (simp; omega)) f12; replace f13 := keepWF bg9 (by first | (simp; done) | (simp; omega)) f13; replace f14 := keepWF bg9 (by first | (simp; done) | (simp; omega)) f14; replace f15 := keepWF bg9 (by first | (simp; done) | (simp; omega)) f15; replace f16 := keepWF bg9 (by first | (simp; done) | (simp; omega)) f16
      have hgrc := grown_trans hgrb bg9
      have hz_wc : w.heap.size + 1 < wc.heap.size := by have := bg9.size; omega
      clear bg9 hm9 hrb hgrb
      go_wp2_with fail
      refine (one_lit B (k + 1 + 1 + 1 + 1) g _ [30, 20, 8] wc _ _ _ hrc (by omega) rfl rfl rfl (by simp) (by simp) (fun x hx => by simp only [List.mem_cons, List.not_mem_nil, or_false] at hx; unfold I64; omega)).mono ?_
      rintro e wd ⟨t, rfl, hm9, hrd, bg9⟩
      have t_r : 1 ≤ t ∧ t ≤ 400 := by simp only [List.mem_cons, List.not_mem_nil, or_false] at hm9; omega
      replace c10 := keepW bg9 (by first | (simp; done) | (simp; omega)) c10; replace c11 := keepW bg9 (by first | (simp; done) | (simp; omega)) c11; replace c12 := keepW bg9 (by first | (simp; done) | (simp; omega)) c12; replace c13 := keepW bg9 (by first | (simp; done) | (simp; omega)) c13; replace c14 := keepW bg9 (by first | (simp; done) | (simp; omega)) c14; replace c15 := keepW bg9 (by first | (simp; done) | (simp; omega)) c15; replace c16 := keepW bg9 (by first | (simp; done) | (simp; omega)) c16
      replace f10 := keepWF bg9 (by first | (simp; done) | (simp; omega)) f10; replace f11 := keepWF bg9 (by first | (simp; done) | (simp; omega)) f11; replace f12 := keepWF bg9 (by first | (simp; done) | (simp; omega)) f12; replace f13 := keepWF bg9 (by first | (simp; done) | (simp; omega)) f13; replace f14 := keepWF bg9 (by first | (simp; done) | (simp; omega)) f14; replace f15 := keepWF bg9 (by first | (simp; done) | (simp; omega)) f15; replace f16 := keepWF bg9 (by first | (simp; done) | (simp; omega)) f16
      have hgrd := grown_trans hgrc bg9
      have hz_wd : w.heap.size + 1 < wd.heap.size := by have := bg9.size; omega
      clear bg9 hm9 hrc hgrc
      have hBg : B ≤ w.heap.size := by omega
      go_wp2
      refine bodyPost_ret (v := .agg #[.int .i64 0, .int .i64 lb, .int .i64 0, .int .i64 r, .int .i64 0, .int .i64 t, .int .i64 0]) (by simp [results, Tryz.results98, go_sem, *]) rfl ⟨⟨0, lb, 0, r, 0, t, 0⟩, k + 1 + 1 + 1 + 1 + 1, rfl, v64_mk ⟨by omega, by omega⟩ ⟨by omega, by omega⟩ ⟨by omega, by omega⟩ ⟨by omega, by omega⟩ ⟨by omega, by omega⟩ ⟨by omega, by omega⟩ ⟨by omega, by omega⟩, by omega, ?_, ?_⟩
      · exact (((((((hrd.set ⟨by show B ≤ w.heap.size + 1; omega, by show ¬ w.heap.size + 1 = g; omega⟩ _).set ⟨by show B ≤ w.heap.size + 1; omega, by show ¬ w.heap.size + 1 = g; omega⟩ _).set ⟨by show B ≤ w.heap.size + 1; omega, by show ¬ w.heap.size + 1 = g; omega⟩ _).set ⟨by show B ≤ w.heap.size + 1; omega, by show ¬ w.heap.size + 1 = g; omega⟩ _).set ⟨by show B ≤ w.heap.size + 1; omega, by show ¬ w.heap.size + 1 = g; omega⟩ _).set ⟨by show B ≤ w.heap.size + 1; omega, by show ¬ w.heap.size + 1 = g; omega⟩ _).set ⟨by show B ≤ w.heap.size + 1; omega, by show ¬ w.heap.size + 1 = g; omega⟩ _)
      · exact (grown_setCell (grown_setCell (grown_setCell (grown_setCell (grown_setCell (grown_setCell (grown_setCell hgrd (by show w.heap.size ≤ w.heap.size + 1; omega) _) (by show w.heap.size ≤ w.heap.size + 1; omega) _) (by show w.heap.size ≤ w.heap.size + 1; omega) _) (by show w.heap.size ≤ w.heap.size + 1; omega) _) (by show w.heap.size ≤ w.heap.size + 1; omega) _) (by show w.heap.size ≤ w.heap.size + 1; omega) _) (by show w.heap.size ≤ w.heap.size + 1; omega) _)
    · have hyb : (y == 0) = false := beq_f hy0
      have he3 : ES w2 lo hi (.slice A es.length c) es := he2.kept (Kept.of_grown hg12 (by omega) (.inl hgl))
      clear he2 hg12
      obtain ⟨b9, o, _, _, _, _, rfl, hl9, hh9, _⟩ := he3.cell (k := 0) (by omega)
      have Hes := Lib.hid he3
      have hpos : 0 < es.length := by omega
      clear h0 he3
      go_upto_region 3 with fail
      go_cut [5] (fun s5 wq => ∃ q : Nat, q < es.length ∧ s5 = .pointer (some ⟨w2.heap.size, 0, none⟩) ∧ Rdr wq B (k + 1 + 1) g (.pointer gg) ∧ w.grownBy wq (some g) ∧ w2.heap.size < wq.heap.size ∧
        (∃ Ad cd Ap cp, wq.cell? ⟨w2.heap.size, 0, none⟩ = some (.int .i64 (ge es q).lb) ∧ wq.cell? ⟨w2.heap.size, 1, none⟩ = some (.int .i64 (ge es q).W) ∧ wq.cell? ⟨w2.heap.size, 2, none⟩ = some (.int .i64 (ge es q).L) ∧ wq.cell? ⟨w2.heap.size, 3, none⟩ = some (.slice Ad (ge es q).ds.length cd) ∧ wq.cell? ⟨w2.heap.size, 4, none⟩ = some (.slice Ap (ge es q).ps.length cp)) ∧
        (wq.cell? ⟨w.heap.size + 1, 0, none⟩ = some (.int .i64 0) ∧ wq.cell? ⟨w.heap.size + 1, 1, none⟩ = some (.int .i64 0) ∧ wq.cell? ⟨w.heap.size + 1, 2, none⟩ = some (.int .i64 0) ∧ wq.cell? ⟨w.heap.size + 1, 3, none⟩ = some (.int .i64 0) ∧ wq.cell? ⟨w.heap.size + 1, 4, none⟩ = some (.int .i64 0) ∧ wq.cell? ⟨w.heap.size + 1, 5, none⟩ = some (.int .i64 0) ∧ wq.cell? ⟨w.heap.size + 1, 6, none⟩ = some (.int .i64 0)) ∧
        (wq.frozen? ⟨w.heap.size + 1, 0, none⟩ = false ∧ wq.frozen? ⟨w.heap.size + 1, 1, none⟩ = false ∧ wq.frozen? ⟨w.heap.size + 1, 2, none⟩ = false ∧ wq.frozen? ⟨w.heap.size + 1, 3, none⟩ = false ∧ wq.frozen? ⟨w.heap.size + 1, 4, none⟩ = false ∧ wq.frozen? ⟨w.heap.size + 1, 5, none⟩ = false ∧ wq.frozen? ⟨w.heap.size + 1, 6, none⟩ = false))
      case first =>
        have hbe : b9 < w2.heap.size := by omega
        have hna : ¬ w2.heap.size = w.heap.size := by omega
        have hnb : ¬ w2.heap.size = w.heap.size + 1 := by omega
        have hna2 : ¬ w.heap.size = w2.heap.size := by omega
        have hnb2 : ¬ w.heap.size + 1 = w2.heap.size := by omega
        have hNg : ¬ w2.heap.size = g := by omega
        have Hal := Lib.hid (show Below w2.heap.size w2 (w2.alloc (.cells #[.int .i64 0, .int .i64 0, .int .i64 0, .slice none 0 0, .slice none 0 0] 58)) from (Below.refl _ _).alloc (Nat.le_refl _) _)
        have HD0 := Lib.hid (show (w2.alloc (.cells #[.int .i64 0, .int .i64 0, .int .i64 0, .slice none 0 0, .slice none 0 0] 58)).cell? ⟨w2.heap.size, 0, none⟩ = some (.int .i64 0) by go_simp)
        have HF0 := Lib.hid (show (w2.alloc (.cells #[.int .i64 0, .int .i64 0, .int .i64 0, .slice none 0 0, .slice none 0 0] 58)).frozen? ⟨w2.heap.size, 0, none⟩ = false by go_simp)
        have HD1 := Lib.hid (show (w2.alloc (.cells #[.int .i64 0, .int .i64 0, .int .i64 0, .slice none 0 0, .slice none 0 0] 58)).cell? ⟨w2.heap.size, 1, none⟩ = some (.int .i64 0) by go_simp)
        have HF1 := Lib.hid (show (w2.alloc (.cells #[.int .i64 0, .int .i64 0, .int .i64 0, .slice none 0 0, .slice none 0 0] 58)).frozen? ⟨w2.heap.size, 1, none⟩ = false by go_simp)
        have HD2 := Lib.hid (show (w2.alloc (.cells #[.int .i64 0, .int .i64 0, .int .i64 0, .slice none 0 0, .slice none 0 0] 58)).cell? ⟨w2.heap.size, 2, none⟩ = some (.int .i64 0) by go_simp)
        have HF2 := Lib.hid (show (w2.alloc (.cells #[.int .i64 0, .int .i64 0, .int .i64 0, .slice none 0 0, .slice none 0 0] 58)).frozen? ⟨w2.heap.size, 2, none⟩ = false by go_simp)
        have HD3 := Lib.hid (show (w2.alloc (.cells #[.int .i64 0, .int .i64 0, .int .i64 0, .slice none 0 0, .slice none 0 0] 58)).cell? ⟨w2.heap.size, 3, none⟩ = some (.slice none 0 0) by go_simp)
        have HF3 := Lib.hid (show (w2.alloc (.cells #[.int .i64 0, .int .i64 0, .int .i64 0, .slice none 0 0, .slice none 0 0] 58)).frozen? ⟨w2.heap.size, 3, none⟩ = false by go_simp)
        have HD4 := Lib.hid (show (w2.alloc (.cells #[.int .i64 0, .int .i64 0, .int .i64 0, .slice none 0 0, .slice none 0 0] 58)).cell? ⟨w2.heap.size, 4, none⟩ = some (.slice none 0 0) by go_simp)
        have HF4 := Lib.hid (show (w2.alloc (.cells #[.int .i64 0, .int .i64 0, .int .i64 0, .slice none 0 0, .slice none 0 0] 58)).frozen? ⟨w2.heap.size, 4, none⟩ = false by go_simp)
        refine wp_region_held_drew (S := fun w' => w'.cell? ⟨w.heap.size, 0, none⟩ = some (.slice (some ⟨b9, o, none⟩) es.length c) ∧ w'.cell? ⟨w.heap.size + 1, 0, none⟩ = some (.int .i64 0)) (by kernel_rfl) ?_ (fun hHeld => ?_)
        · (first | (try dsimp only); go_keep | (go_split_ands; refine ⟨?_, ?_⟩ <;> first | exact keepO bo1 (by first | (simp; done) | (simp; omega)) (by assumption) | exact keepW bg1 (by first | (simp; done) | (simp; omega)) (by assumption) | assumption))
        refine tkW 0 30 rfl rfl (by kernel_rfl) hHeld (by intro w hSw; (try dsimp only at hSw); go_simp; try with_reducible rfl) ?_ (fun _ _ _ h => h)
        simp only [Act.put, lyA, lyB, lyC]
        refine tkW 1 31 rfl rfl (by kernel_rfl) hHeld (by intro w hSw; (try dsimp only at hSw); go_simp; try with_reducible rfl) ?_ (fun _ _ _ h => h)
        simp only [Act.put, lyA, lyB, lyC]
        refine tkW 2 32 rfl rfl (by kernel_rfl) hHeld (by intro w hSw; (try dsimp only at hSw); go_simp; try with_reducible rfl) ?_ (fun _ _ _ h => h)
        simp only [Act.put, lyA, lyB, lyC]
        refine tkW 3 33 rfl rfl (by kernel_rfl) hHeld (by intro w hSw; (try dsimp only at hSw); go_simp; try with_reducible rfl) ?_ (fun _ _ _ h => h)
        simp only [Act.put, lyA, lyB, lyC]
        refine tkW 4 34 rfl rfl (by kernel_rfl) hHeld (by intro w hSw; (try dsimp only at hSw); go_simp; try with_reducible rfl) ?_ (fun _ _ _ h => h)
        simp only [Act.put, lyA, lyB, lyC]
        refine tkW 5 35 rfl rfl (by kernel_rfl) hHeld (by intro w hSw; (try dsimp only at hSw); go_simp; try with_reducible rfl) ?_ (fun _ _ _ h => h)
        simp only [Act.put, lyA, lyB, lyC]
        refine wpAnyH_ready (rs := [6, 9]) (by kernel_rfl) (by simp) (AllReadyH.cons (o := ⟨some 36, _, _, _, _, _⟩) rfl (fun K hK => ?_) (AllReadyH.cons (o := ⟨some 5, _, _, _, _, _⟩) rfl (fun K hK => ?_) (AllReadyH.nil)))
        focus
          go_simp
          go_at_call 26
          refine (pick_any B (k + 1) g _ _ _ hr3.drew (by omega) (by omega)).mono ?_
          rintro e x1 ⟨qi, rfl, hm9, hrx, bo9⟩
          have qr := hm9.2 (by omega)
          obtain ⟨q, rfl⟩ := Int.eq_ofNat_of_zero_le qr.1
          have hq1 : q < es.length := by omega
          have hq2 : (q : Int) < (es.length : Int) := by omega
          have hq0 : (0 : Int) ≤ (q : Int) := by omega
          have bo1 := only_drew bo9
          have bg1 := grown_only bo1
          replace c00 := keepW bg1 (by first | (simp; done) | (simp; omega)) c00; replace c10 := keepW bg1 (by first | (simp; done) | (simp; omega)) c10; replace c11 := keepW bg1 (by first | (simp; done) | (simp; omega)) c11; replace c12 := keepW bg1 (by first | (simp; done) | (simp; omega)) c12; replace c13 := keepW bg1 (by first | (simp; done) | (simp; omega)) c13; replace c14 := keepW bg1 (by first | (simp; done) | (simp; omega)) c14; replace c15 := keepW bg1 (by first | (simp; done) | (simp; omega)) c15; replace c16 := keepW bg1 (by first | (simp; done) | (simp; omega)) c16
          replace f10 := keepWF bg1 (by first | (simp; done) | (simp; omega)) f10; replace f11 := keepWF bg1 (by first | (simp; done) | (simp; omega)) f11; replace f12 := keepWF bg1 (by first | (simp; done) | (simp; omega)) f12; replace f13 := keepWF bg1 (by first | (simp; done) | (simp; omega)) f13; replace f14 := keepWF bg1 (by first | (simp; done) | (simp; omega)) f14; replace f15 := keepWF bg1 (by first | (simp; done) | (simp; omega)) f15; replace f16 := keepWF bg1 (by first | (simp; done) | (simp; omega)) f16
          obtain ⟨Ad, cd, Ap, cp, e0, e1, e2, e3, e4⟩ := (Hes.out.kept (Kept.of_grown bg1 (by omega) (.inl hgl))).cellAt hq1
          have Hgx := Lib.hid (grown_trans hgr3 bg1)
          have HX := Lib.hid bo1.size
          have hbx : b9 < x1.heap.size := by have := bo1.size; omega
          clear hm9 bo9 bo1 qr bg1
          go_wp2_with fail
          refine hK.out _ _ ?_ (fun hHeld2 => ?_)
          · (first | (try dsimp only); go_keep | (go_split_ands; refine ⟨?_, ?_⟩ <;> first | exact keepO bo1 (by first | (simp; done) | (simp; omega)) (by assumption) | exact keepW bg1 (by first | (simp; done) | (simp; omega)) (by assumption) | assumption))
          clear hK K hHeld
          have hHeld := hHeld2
          clear hHeld2
          try simp only [Act.put, lyA, lyB, lyC]
          refine tkW 7 37 rfl rfl (by kernel_rfl) hHeld (by intro w hSw; (try dsimp only at hSw); go_simp; try with_reducible rfl) ?_ (fun _ _ _ h => h)
          simp only [Act.put, lyA, lyB, lyC]
          refine wpAnyH_ready (rs := [8, 9]) (by kernel_rfl) (by simp) (AllReadyH.cons (o := ⟨some 38, _, _, _, _, _⟩) rfl (fun K hK => ?_) (AllReadyH.cons (o := ⟨some 5, _, _, _, _, _⟩) rfl (fun K hK => ?_) (AllReadyH.nil)))
          focus
            go_simp
            refine hK.out _ _ ?_ (fun hHeld2 => ?_)
            · (first | (try dsimp only); go_keep | (go_split_ands; refine ⟨?_, ?_⟩ <;> first | exact keepO bo1 (by first | (simp; done) | (simp; omega)) (by assumption) | exact keepW bg1 (by first | (simp; done) | (simp; omega)) (by assumption) | assumption))
            clear hK K hHeld
            have hHeld := hHeld2
            clear hHeld2
            try simp only [Act.put, lyA, lyB, lyC]
            refine wpAnyH_ready (rs := [9]) (by kernel_rfl) (by simp) ?_
            refine AllReadyH.cons (o := ⟨some 5, _, _, _, _, _⟩) rfl (fun K hK => ?_) AllReadyH.nil
            go_simp
            refine hK.out _ _ ?_ (fun hHeld2 => ?_)
            · (first | (try dsimp only); go_keep | (go_split_ands; refine ⟨?_, ?_⟩ <;> first | exact keepO bo1 (by first | (simp; done) | (simp; omega)) (by assumption) | exact keepW bg1 (by first | (simp; done) | (simp; omega)) (by assumption) | assumption))
            clear hK K hHeld
            have hHeld := hHeld2
            clear hHeld2
            try simp only [Act.put, lyA, lyB, lyC]
            refine wpAnyH_ready (rs := [10]) (by kernel_rfl) (by simp) ?_
            refine AllReadyH.cons (o := ⟨none, _, _, _, _, _⟩) rfl (fun K hK => ?_) AllReadyH.nil
            go_simp
            refine hK.out _ _ ?_ (fun hHeld2 => ?_)
            · (first | (try dsimp only); go_keep | (go_split_ands; refine ⟨?_, ?_⟩ <;> first | exact keepO bo1 (by first | (simp; done) | (simp; omega)) (by assumption) | exact keepW bg1 (by first | (simp; done) | (simp; omega)) (by assumption) | assumption))
            clear hK K hHeld
            have hHeld := hHeld2
            clear hHeld2
            try simp only [Act.put, lyA, lyB, lyC]
            refine wpAnyH_done (by kernel_rfl) ?_ _
          rotate_left 1
          focus
            go_simp
            refine hK.out _ _ ?_ (fun hHeld2 => ?_)
            · (first | (try dsimp only); go_keep | (go_split_ands; refine ⟨?_, ?_⟩ <;> first | exact keepO bo1 (by first | (simp; done) | (simp; omega)) (by assumption) | exact keepW bg1 (by first | (simp; done) | (simp; omega)) (by assumption) | assumption))
            clear hK K hHeld
            have hHeld := hHeld2
            clear hHeld2
            try simp only [Act.put, lyA, lyB, lyC]
            refine wpAnyH_ready (rs := [8]) (by kernel_rfl) (by simp) ?_
            refine AllReadyH.cons (o := ⟨some 38, _, _, _, _, _⟩) rfl (fun K hK => ?_) AllReadyH.nil
            go_simp
            refine hK.out _ _ ?_ (fun hHeld2 => ?_)
            · (first | (try dsimp only); go_keep | (go_split_ands; refine ⟨?_, ?_⟩ <;> first | exact keepO bo1 (by first | (simp; done) | (simp; omega)) (by assumption) | exact keepW bg1 (by first | (simp; done) | (simp; omega)) (by assumption) | assumption))
            clear hK K hHeld
            have hHeld := hHeld2
            clear hHeld2
            try simp only [Act.put, lyA, lyB, lyC]
            refine wpAnyH_ready (rs := [10]) (by kernel_rfl) (by simp) ?_
            refine AllReadyH.cons (o := ⟨none, _, _, _, _, _⟩) rfl (fun K hK => ?_) AllReadyH.nil
            go_simp
            refine hK.out _ _ ?_ (fun hHeld2 => ?_)
            · (first | (try dsimp only); go_keep | (go_split_ands; refine ⟨?_, ?_⟩ <;> first | exact keepO bo1 (by first | (simp; done) | (simp; omega)) (by assumption) | exact keepW bg1 (by first | (simp; done) | (simp; omega)) (by assumption) | assumption))
            clear hK K hHeld
            have hHeld := hHeld2
            clear hHeld2
            try simp only [Act.put, lyA, lyB, lyC]
            refine wpAnyH_done (by kernel_rfl) ?_ _
          rotate_left 1
        rotate_left 2
        focus
          go_simp
          refine hK.out _ _ ?_ (fun hHeld2 => ?_)
          · (first | (try dsimp only); go_keep | (go_split_ands; refine ⟨?_, ?_⟩ <;> first | exact keepO bo1 (by first | (simp; done) | (simp; omega)) (by assumption) | exact keepW bg1 (by first | (simp; done) | (simp; omega)) (by assumption) | assumption))
          clear hK K hHeld
          have hHeld := hHeld2
          clear hHeld2
          try simp only [Act.put, lyA, lyB, lyC]
          refine wpAnyH_ready (rs := [6]) (by kernel_rfl) (by simp) ?_
          refine AllReadyH.cons (o := ⟨some 36, _, _, _, _, _⟩) rfl (fun K hK => ?_) AllReadyH.nil
          go_simp
          go_at_call 26
          refine (pick_any B (k + 1) g _ _ _ (hr3.below Hal.out).drew (by omega) (by omega)).mono ?_
          rintro e x1 ⟨qi, rfl, hm9, hrx, bo9⟩
          have qr := hm9.2 (by omega)
          obtain ⟨q, rfl⟩ := Int.eq_ofNat_of_zero_le qr.1
          have hq1 : q < es.length := by omega
          have hq2 : (q : Int) < (es.length : Int) := by omega
          have hq0 : (0 : Int) ≤ (q : Int) := by omega
          have bo1 := only_drew bo9
          have bg1 := grown_trans (grown_below Hal.out (some g)) (grown_only bo1)
          have d0 := keepO bo1 (by simp; omega) HD0.out
          have d1 := keepO bo1 (by simp; omega) HD1.out
          have d2 := keepO bo1 (by simp; omega) HD2.out
          have d3 := keepO bo1 (by simp; omega) HD3.out
          have d4 := keepO bo1 (by simp; omega) HD4.out
          have fd0 := keepOF bo1 (a := ⟨w2.heap.size, 0, none⟩) (by simp; omega) HF0.out
          have fd1 := keepOF bo1 (a := ⟨w2.heap.size, 1, none⟩) (by simp; omega) HF1.out
          have fd2 := keepOF bo1 (a := ⟨w2.heap.size, 2, none⟩) (by simp; omega) HF2.out
          have fd3 := keepOF bo1 (a := ⟨w2.heap.size, 3, none⟩) (by simp; omega) HF3.out
          have fd4 := keepOF bo1 (a := ⟨w2.heap.size, 4, none⟩) (by simp; omega) HF4.out
          replace c00 := keepW bg1 (by first | (simp; done) | (simp; omega)) c00; replace c10 := keepW bg1 (by first | (simp; done) | (simp; omega)) c10; replace c11 := keepW bg1 (by first | (simp; done) | (simp; omega)) c11; replace c12 := keepW bg1 (by first | (simp; done) | (simp; omega)) c12; replace c13 := keepW bg1 (by first | (simp; done) | (simp; omega)) c13; replace c14 := keepW bg1 (by first | (simp; done) | (simp; omega)) c14; replace c15 := keepW bg1 (by first | (simp; done) | (simp; omega)) c15; replace c16 := keepW bg1 (by first | (simp; done) | (simp; omega)) c16
          replace f10 := keepWF bg1 (by first | (simp; done) | (simp; omega)) f10; replace f11 := keepWF bg1 (by first | (simp; done) | (simp; omega)) f11; replace f12 := keepWF bg1 (by first | (simp; done) | (simp; omega)) f12; replace f13 := keepWF bg1 (by first | (simp; done) | (simp; omega)) f13; replace f14 := keepWF bg1 (by first | (simp; done) | (simp; omega)) f14; replace f15 := keepWF bg1 (by first | (simp; done) | (simp; omega)) f15; replace f16 := keepWF bg1 (by first | (simp; done) | (simp; omega)) f16
          obtain ⟨Ad, cd, Ap, cp, e0, e1, e2, e3, e4⟩ := (Hes.out.kept (Kept.of_grown bg1 (by omega) (.inl hgl))).cellAt hq1
          have Hgx := Lib.hid (grown_trans hgr3 bg1)
          have HX := Lib.hid (show x1.heap.size = w2.heap.size + 1 from bo1.size.trans (by simp))
          clear hm9 bo9 bo1 qr bg1
          go_wp2_with fail
          refine hK.out _ _ ?_ (fun hHeld2 => ?_)
          · (first | (try dsimp only); go_keep | (go_split_ands; refine ⟨?_, ?_⟩ <;> first | exact keepO bo1 (by first | (simp; done) | (simp; omega)) (by assumption) | exact keepW bg1 (by first | (simp; done) | (simp; omega)) (by assumption) | assumption))
          clear hK K hHeld
          have hHeld := hHeld2
          clear hHeld2
          try simp only [Act.put, lyA, lyB, lyC]
          refine tkW 7 37 rfl rfl (by kernel_rfl) hHeld (by intro w hSw; (try dsimp only at hSw); go_simp; try with_reducible rfl) ?_ (fun _ _ _ h => h)
          simp only [Act.put, lyA, lyB, lyC]
          refine wpAnyH_ready (rs := [8]) (by kernel_rfl) (by simp) ?_
          refine AllReadyH.cons (o := ⟨some 38, _, _, _, _, _⟩) rfl (fun K hK => ?_) AllReadyH.nil
          go_simp
          refine hK.out _ _ ?_ (fun hHeld2 => ?_)
          · (first | (try dsimp only); go_keep | (go_split_ands; refine ⟨?_, ?_⟩ <;> first | exact keepO bo1 (by first | (simp; done) | (simp; omega)) (by assumption) | exact keepW bg1 (by first | (simp; done) | (simp; omega)) (by assumption) | assumption))
          clear hK K hHeld
          have hHeld := hHeld2
          clear hHeld2
          try simp only [Act.put, lyA, lyB, lyC]
          refine wpAnyH_ready (rs := [10]) (by kernel_rfl) (by simp) ?_
          refine AllReadyH.cons (o := ⟨none, _, _, _, _, _⟩) rfl (fun K hK => ?_) AllReadyH.nil
          go_simp
          refine hK.out _ _ ?_ (fun hHeld2 => ?_)
          · (first | (try dsimp only); go_keep | (go_split_ands; refine ⟨?_, ?_⟩ <;> first | exact keepO bo1 (by first | (simp; done) | (simp; omega)) (by assumption) | exact keepW bg1 (by first | (simp; done) | (simp; omega)) (by assumption) | assumption))
          clear hK K hHeld
          have hHeld := hHeld2
          clear hHeld2
          try simp only [Act.put, lyA, lyB, lyC]
          refine wpAnyH_done (by kernel_rfl) ?_ _
        rotate_left 1
        · have Hxa := Lib.hid (show Below x1.heap.size x1 (x1.alloc (.cells #[.int .i64 (ge es q).lb, .int .i64 (ge es q).W, .int .i64 (ge es q).L, .slice Ad (ge es q).ds.length cd, .slice Ap (ge es q).ps.length cp] 58)) from (Below.refl _ _).alloc (Nat.le_refl _) _)
          go_wp2_with fail
          go_meet
          refine ⟨q, hq1, by rw [HX.out], hrx.below Hxa.out, grown_trans Hgx.out (grown_below Hxa.out _), by rw [← HX.out]; simp, ⟨Ad, cd, Ap, cp, ?_, ?_, ?_, ?_, ?_⟩, ⟨keepB Hxa.out c10, keepB Hxa.out c11, keepB Hxa.out c12, keepB Hxa.out c13, keepB Hxa.out c14, keepB Hxa.out c15, keepB Hxa.out c16⟩, ⟨keepF Hxa.out (by have := HX.out; show w.heap.size + 1 < x1.heap.size; omega) f10, keepF Hxa.out (by have := HX.out; show w.heap.size + 1 < x1.heap.size; omega) f11, keepF Hxa.out (by have := HX.out; show w.heap.size + 1 < x1.heap.size; omega) f12, keepF Hxa.out (by have := HX.out; show w.heap.size + 1 < x1.heap.size; omega) f13, keepF Hxa.out (by have := HX.out; show w.heap.size + 1 < x1.heap.size; omega) f14, keepF Hxa.out (by have := HX.out; show w.heap.size + 1 < x1.heap.size; omega) f15, keepF Hxa.out (by have := HX.out; show w.heap.size + 1 < x1.heap.size; omega) f16⟩⟩
          all_goals (rw [← HX.out]; go_simp)
        · have Hxa := Lib.hid (show Below x1.heap.size x1 (x1.alloc (.cells #[.int .i64 (ge es q).lb, .int .i64 (ge es q).W, .int .i64 (ge es q).L, .slice Ad (ge es q).ds.length cd, .slice Ap (ge es q).ps.length cp] 58)) from (Below.refl _ _).alloc (Nat.le_refl _) _)
          go_wp2_with fail
          go_meet
          refine ⟨q, hq1, by rw [HX.out], hrx.below Hxa.out, grown_trans Hgx.out (grown_below Hxa.out _), by rw [← HX.out]; simp, ⟨Ad, cd, Ap, cp, ?_, ?_, ?_, ?_, ?_⟩, ⟨keepB Hxa.out c10, keepB Hxa.out c11, keepB Hxa.out c12, keepB Hxa.out c13, keepB Hxa.out c14, keepB Hxa.out c15, keepB Hxa.out c16⟩, ⟨keepF Hxa.out (by have := HX.out; show w.heap.size + 1 < x1.heap.size; omega) f10, keepF Hxa.out (by have := HX.out; show w.heap.size + 1 < x1.heap.size; omega) f11, keepF Hxa.out (by have := HX.out; show w.heap.size + 1 < x1.heap.size; omega) f12, keepF Hxa.out (by have := HX.out; show w.heap.size + 1 < x1.heap.size; omega) f13, keepF Hxa.out (by have := HX.out; show w.heap.size + 1 < x1.heap.size; omega) f14, keepF Hxa.out (by have := HX.out; show w.heap.size + 1 < x1.heap.size; omega) f15, keepF Hxa.out (by have := HX.out; show w.heap.size + 1 < x1.heap.size; omega) f16⟩⟩
          all_goals (rw [← HX.out]; go_simp)
        · go_wp2_with fail
          go_meet
          exact ⟨q, hq1, rfl, (((((hrx.set ⟨by show B ≤ w2.heap.size; omega, by show ¬ w2.heap.size = g; omega⟩ _).set ⟨by show B ≤ w2.heap.size; omega, by show ¬ w2.heap.size = g; omega⟩ _).set ⟨by show B ≤ w2.heap.size; omega, by show ¬ w2.heap.size = g; omega⟩ _).set ⟨by show B ≤ w2.heap.size; omega, by show ¬ w2.heap.size = g; omega⟩ _).set ⟨by show B ≤ w2.heap.size; omega, by show ¬ w2.heap.size = g; omega⟩ _), (grown_setCell (grown_setCell (grown_setCell (grown_setCell (grown_setCell Hgx.out (by show w.heap.size ≤ w2.heap.size; omega) _) (by show w.heap.size ≤ w2.heap.size; omega) _) (by show w.heap.size ≤ w2.heap.size; omega) _) (by show w.heap.size ≤ w2.heap.size; omega) _) (by show w.heap.size ≤ w2.heap.size; omega) _), by have := HX.out; simp only [World.setCell, Array.size_modify]; omega, ⟨Ad, cd, Ap, cp, by go_simp, by go_simp, by go_simp, by go_simp, by go_simp⟩, ⟨by go_simp, by go_simp, by go_simp, by go_simp, by go_simp, by go_simp, by go_simp⟩, ⟨by go_simp, by go_simp, by go_simp, by go_simp, by go_simp, by go_simp, by go_simp⟩⟩
      case rest =>
        obtain ⟨q, hq, rfl, hrq, hgrq, hNz, ⟨Ad, cd, Ap, cp, q0, q1, q2, q3, q4⟩, ⟨c10, c11, c12, c13, c14, c15, c16⟩, ⟨f10, f11, f12, f13, f14, f15, f16⟩⟩ := hcut
        have hve := HV.out q hq
        obtain ⟨lb, hlb⟩ : ∃ x, x = (ge es q).lb := ⟨_, rfl⟩
        obtain ⟨W, hW⟩ : ∃ x, x = (ge es q).W := ⟨_, rfl⟩
        obtain ⟨L, hL⟩ : ∃ x, x = (ge es q).L := ⟨_, rfl⟩
        have hlr : 1 ≤ lb ∧ lb ≤ 9999 := by rw [hlb]; exact ⟨(vEnt_iff.1 hve).1, (vEnt_iff.1 hve).2.1⟩
        have hWL : (1 ≤ W ∧ W ≤ 60) ∧ (1 ≤ L ∧ L ≤ 400) := by have := vReel_rng (vCuts_iff.1 (vEnt_iff.1 hve).2.2).1; rw [hW, hL]; omega
        rw [← hlb] at q0
        rw [← hW] at q1
        rw [← hL] at q2
        clear hve hlb hW hL hr3 hgr3 c00 c01 c02 c03 hl0 hyb hy0
        obtain ⟨N, hN⟩ : ∃ N, N = w2.heap.size := ⟨_, rfl⟩
        rw [← hN] at q0 q1 q2 q3 q4 hNz
        rw [← hN]
        have hNg : ¬ N = g := by omega
        have hN1 : w.heap.size + 1 < N := by omega
        have hNw : ¬ N = w.heap.size + 1 := by omega
        have hNw2 : ¬ w.heap.size + 1 = N := by omega
        clear hN
        have hzq : w.heap.size + 1 < wc.heap.size := by omega
        go_wp2_with fail
        refine (somePart_any B (k + 1 + 1) g _ W L wc hrq (by omega) (by omega) (by omega) (by omega) (by omega)).mono ?_
        rintro e wa ⟨l, r, f, t, rfl, hp, hra, bg⟩
        replace c10 := keepW bg (by first | (simp; done) | (simp; omega)) c10; replace c11 := keepW bg (by first | (simp; done) | (simp; omega)) c11; replace c12 := keepW bg (by first | (simp; done) | (simp; omega)) c12; replace c13 := keepW bg (by first | (simp; done) | (simp; omega)) c13; replace c14 := keepW bg (by first | (simp; done) | (simp; omega)) c14; replace c15 := keepW bg (by first | (simp; done) | (simp; omega)) c15; replace c16 := keepW bg (by first | (simp; done) | (simp; omega)) c16; replace q0 := keepW bg (by first | (simp; done) | (simp; omega)) q0; replace q1 := keepW bg (by first | (simp; done) | (simp; omega)) q1; replace q2 := keepW bg (by first | (simp; done) | (simp; omega)) q2; replace q3 := keepW bg (by first | (simp; done) | (simp; omega)) q3; replace q4 := keepW bg (by first | (simp; done) | (simp; omega)) q4
        replace f10 := keepWF bg (by first | (simp; done) | (simp; omega)) f10; replace f11 := keepWF bg (by first | (simp; done) | (simp; omega)) f11; replace f12 := keepWF bg (by first | (simp; done) | (simp; omega)) f12; replace f13 := keepWF bg (by first | (simp; done) | (simp; omega)) f13; replace f14 := keepWF bg (by first | (simp; done) | (simp; omega)) f14; replace f15 := keepWF bg (by first | (simp; done) | (simp; omega)) f15; replace f16 := keepWF bg (by first | (simp; done) | (simp; omega)) f16
        have hgra := grown_trans hgrq bg
        have hza : wc.heap.size ≤ wa.heap.size := bg.size
        clear bg hrq hgrq
        go_wp2_with fail
        obtain ⟨wb, hw1⟩ : ∃ wb, wb = wa.alloc (.cells #[.int .i64 l, .int .i64 r, .int .i64 f, .int .i64 t] 38) := ⟨_, rfl⟩
        have p0 : wb.cell? ⟨wa.heap.size, 0, none⟩ = some (.int .i64 l) := by rw [hw1]; go_simp
        have p1 : wb.cell? ⟨wa.heap.size, 1, none⟩ = some (.int .i64 r) := by rw [hw1]; go_simp
        have p2 : wb.cell? ⟨wa.heap.size, 2, none⟩ = some (.int .i64 f) := by rw [hw1]; go_simp
        have p3 : wb.cell? ⟨wa.heap.size, 3, none⟩ = some (.int .i64 t) := by rw [hw1]; go_simp
        have bp : Below wa.heap.size wa wb := by rw [hw1]; exact (Below.refl _ _).alloc (Nat.le_refl _) _
        have zp : wa.heap.size < wb.heap.size := by rw [hw1]; simp
        have HZp := Lib.hid (show wb.heap.size = wa.heap.size + 1 by rw [hw1]; simp)
        have fp0 : wb.frozen? ⟨wa.heap.size, 0, none⟩ = false := by rw [hw1]; go_simp
        have fp1 : wb.frozen? ⟨wa.heap.size, 1, none⟩ = false := by rw [hw1]; go_simp
        have fp2 : wb.frozen? ⟨wa.heap.size, 2, none⟩ = false := by rw [hw1]; go_simp
        have fp3 : wb.frozen? ⟨wa.heap.size, 3, none⟩ = false := by rw [hw1]; go_simp
        have Hp := Lib.hid (show wb.heap[wa.heap.size]? = some (.cells #[.int .i64 l, .int .i64 r, .int .i64 f, .int .i64 t] 38) by rw [hw1]; exact heap_alloc_new wa _)
        rw [← hw1]
        clear hw1
        have hrb := hra.below bp
        have hgrb := grown_trans hgra (grown_below bp (some g))
        replace c10 := keepB bp c10; replace c11 := keepB bp c11; replace c12 := keepB bp c12; replace c13 := keepB bp c13; replace c14 := keepB bp c14; replace c15 := keepB bp c15; replace c16 := keepB bp c16; replace q0 := keepB bp q0; replace q1 := keepB bp q1; replace q2 := keepB bp q2; replace q3 := keepB bp q3; replace q4 := keepB bp q4
        replace f10 := keepF bp (by first | (simp; done) | (simp; omega)) f10; replace f11 := keepF bp (by first | (simp; done) | (simp; omega)) f11; replace f12 := keepF bp (by first | (simp; done) | (simp; omega)) f12; replace f13 := keepF bp (by first | (simp; done) | (simp; omega)) f13; replace f14 := keepF bp (by first | (simp; done) | (simp; omega)) f14; replace f15 := keepF bp (by first | (simp; done) | (simp; omega)) f15; replace f16 := keepF bp (by first | (simp; done) | (simp; omega)) f16
        obtain ⟨P, hP⟩ : ∃ P, P = wa.heap.size := ⟨_, rfl⟩
        rw [← hP] at p0 p1 p2 p3 fp0 fp1 fp2 fp3 zp
        rw [← hP]
        have hPN : N < P := by omega
        have hPg : ¬ P = g := by omega
        have hPw : ¬ P = w.heap.size + 1 := by omega
        have hPw2 : ¬ w.heap.size + 1 = P := by omega
        have hPN1 : ¬ P = N := by omega
        have hPN2 : ¬ N = P := by omega
        have hzb : w.heap.size + 1 < wb.heap.size := by omega
        clear hP bp hra hgra HZp
        obtain ⟨hl0, hl1, hr0, hr1, hf0, hf1, ht0, ht1⟩ := hp
        have hBg : B ≤ w.heap.size := by omega
        go_wp2_with fail
        refine (pick_any B (k + 1 + 1 + 4) g _ 6 wb hrb (by omega) (by omega)).mono ?_
        rintro e w6 ⟨y6, rfl, hm9, hrc, bo9⟩
        have y6_r := hm9.rng (m := 6) (by omega) (by omega)
        replace c10 := keepO bo9 (by first | (simp; done) | (simp; omega)) c10; replace c11 := keepO bo9 (by first | (simp; done) | (simp; omega)) c11; replace c12 := keepO bo9 (by first | (simp; done) | (simp; omega)) c12; replace c13 := keepO bo9 (by first | (simp; done) | (simp; omega)) c13; replace c14 := keepO bo9 (by first | (simp; done) | (simp; omega)) c14; replace c15 := keepO bo9 (by first | (simp; done) | (simp; omega)) c15; replace c16 := keepO bo9 (by first | (simp; done) | (simp; omega)) c16; replace q0 := keepO bo9 (by first | (simp; done) | (simp; omega)) q0; replace q1 := keepO bo9 (by first | (simp; done) | (simp; omega)) q1; replace q2 := keepO bo9 (by first | (simp; done) | (simp; omega)) q2; replace q3 := keepO bo9 (by first | (simp; done) | (simp; omega)) q3; replace q4 := keepO bo9 (by first | (simp; done) | (simp; omega)) q4; replace p0 := keepO bo9 (by first | (simp; done) | (simp; omega)) p0; replace p1 := keepO bo9 (by first | (simp; done) | (simp; omega)) p1; replace p2 := keepO bo9 (by first | (simp; done) | (simp; omega)) p2; replace p3 := keepO bo9 (by first | (simp; done) | (simp; omega)) p3
        replace f10 := keepOF bo9 (by first | (simp; done) | (simp; omega)) f10; replace f11 := keepOF bo9 (by first | (simp; done) | (simp; omega)) f11; replace f12 := keepOF bo9 (by first | (simp; done) | (simp; omega)) f12; replace f13 := keepOF bo9 (by first | (simp; done) | (simp; omega)) f13; replace f14 := keepOF bo9 (by first | (simp; done) | (simp; omega)) f14; replace f15 := keepOF bo9 (by first | (simp; done) | (simp; omega)) f15; replace f16 := keepOF bo9 (by first | (simp; done) | (simp; omega)) f16; replace fp0 := keepOF bo9 (by first | (simp; done) | (simp; omega)) fp0; replace fp1 := keepOF bo9 (by first | (simp; done) | (simp; omega)) fp1; replace fp2 := keepOF bo9 (by first | (simp; done) | (simp; omega)) fp2; replace fp3 := keepOF bo9 (by first | (simp; done) | (simp; omega)) fp3
        have hgrc := grown_trans hgrb (grown_only bo9)
        have hz_w6 : w.heap.size + 1 < w6.heap.size := by have := bo9.size; omega
        clear bo9 hm9 hrb hgrb
        by_cases hy : y6 = 0
        · have ey : (y6 == 0) = true := beq_t hy
          clear hy
          go_upto_region 8 with fail
          go_cut [] (fun wx => ∃ m1 : Int, (0 ≤ m1 ∧ m1 ≤ 3000) ∧ wx = w6.setCell ⟨P, 1, none⟩ (.int .i64 m1))
          case first =>
            go_wp2_with fail
            all_goals (go_meet; exact ⟨_, by omega, rfl⟩)
          case rest =>
          obtain ⟨m1, hm1r, rfl⟩ := hcut
          go_upto_region 9 with fail
          go_cut [] (fun wx => ∃ m3 : Int, (0 ≤ m3 ∧ m3 ≤ 3000) ∧ wx = (w6.setCell ⟨P, 1, none⟩ (.int .i64 m1)).setCell ⟨P, 3, none⟩ (.int .i64 m3))
          case first =>
            go_wp2_with fail
            all_goals (go_meet; exact ⟨_, by omega, rfl⟩)
          case rest =>
          obtain ⟨m3, hm3r, rfl⟩ := hcut
          go_wp2_with fail
          obtain ⟨w7, hw7⟩ : ∃ w7, w7 = (w6.setCell ⟨P, 1, none⟩ (.int .i64 m1)).setCell ⟨P, 3, none⟩ (.int .i64 m3) := ⟨_, rfl⟩
          have hr7 : Rdr w7 B (k + 1 + 1 + 4 + 1) g (.pointer gg) := by rw [hw7]; exact ((hrc.set ⟨by show B ≤ P; omega, by show ¬ P = g; omega⟩ _).set ⟨by show B ≤ P; omega, by show ¬ P = g; omega⟩ _)
          have hgr7 : w.grownBy w7 (some g) := by rw [hw7]; exact (grown_setCell (grown_setCell hgrc (by show w.heap.size ≤ P; omega) _) (by show w.heap.size ≤ P; omega) _)
          have ex : ∀ q, ¬ P = q → w7.heap[q]? = w6.heap[q]? := fun q hq => by rw [hw7]; simp only [World.setCell, Array.getElem?_modify, if_neg hq]
          replace c10 := cell_same (ex _ (by omega)) c10
          replace c11 := cell_same (ex _ (by omega)) c11
          replace c12 := cell_same (ex _ (by omega)) c12
          replace c13 := cell_same (ex _ (by omega)) c13
          replace c14 := cell_same (ex _ (by omega)) c14
          replace c15 := cell_same (ex _ (by omega)) c15
          replace c16 := cell_same (ex _ (by omega)) c16
          replace f10 := frozen_same (ex _ (by omega)) f10
          replace f11 := frozen_same (ex _ (by omega)) f11
          replace f12 := frozen_same (ex _ (by omega)) f12
          replace f13 := frozen_same (ex _ (by omega)) f13
          replace f14 := frozen_same (ex _ (by omega)) f14
          replace f15 := frozen_same (ex _ (by omega)) f15
          replace f16 := frozen_same (ex _ (by omega)) f16
          replace q0 := cell_same (ex _ (by omega)) q0
          have y0 : w7.cell? ⟨P, 0, none⟩ = some (.int .i64 l) := by rw [hw7]; go_simp
          have y1 : w7.cell? ⟨P, 1, none⟩ = some (.int .i64 m1) := by rw [hw7]; go_simp
          have y2 : w7.cell? ⟨P, 2, none⟩ = some (.int .i64 f) := by rw [hw7]; go_simp
          have y3 : w7.cell? ⟨P, 3, none⟩ = some (.int .i64 m3) := by rw [hw7]; go_simp
          rw [← hw7]
          clear hw7 ex q1 q2 q3 q4 p0 p1 p2 p3 fp0 fp1 fp2 fp3 hrc hgrc
          refine wp_region_held_drew (S := fun w' => w'.cell? ⟨N, 0, none⟩ = some (.int .i64 lb) ∧ w'.cell? ⟨P, 0, none⟩ = some (.int .i64 l) ∧ w'.cell? ⟨P, 1, none⟩ = some (.int .i64 m1) ∧ w'.cell? ⟨P, 2, none⟩ = some (.int .i64 f) ∧ w'.cell? ⟨P, 3, none⟩ = some (.int .i64 m3)) (by kernel_rfl) ?_ (fun hHeld => ?_)
          · (first | (try dsimp only); go_keep | (go_split_ands; refine ⟨?_, ?_, ?_, ?_, ?_⟩ <;> first | exact keepO bo1 (by first | (simp; done) | (simp; omega)) (by assumption) | exact keepW bg1 (by first | (simp; done) | (simp; omega)) (by assumption) | assumption))
          refine tkW 0 66 rfl rfl (by kernel_rfl) hHeld (by intro w hSw; (try dsimp only at hSw); go_simp; try with_reducible rfl) ?_ (fun _ _ _ h => h)
          simp only [Act.put, lyA, lyB, lyC]
          refine tkW 1 67 rfl rfl (by kernel_rfl) hHeld (by intro w hSw; (try dsimp only at hSw); go_simp; try with_reducible rfl) ?_ (fun _ _ _ h => h)
          simp only [Act.put, lyA, lyB, lyC]
          refine tkW 2 68 rfl rfl (by kernel_rfl) hHeld (by intro w hSw; (try dsimp only at hSw); go_simp; try with_reducible rfl) ?_ (fun _ _ _ h => h)
          simp only [Act.put, lyA, lyB, lyC]
          refine tkW 3 69 rfl rfl (by kernel_rfl) hHeld (by intro w hSw; (try dsimp only at hSw); go_simp; try with_reducible rfl) ?_ (fun _ _ _ h => h)
          simp only [Act.put, lyA, lyB, lyC]
          refine wpAnyH_ready (rs := [4]) (by kernel_rfl) (by simp) ?_
          refine AllReadyH.cons (o := ⟨some 70, _, _, _, _, _⟩) rfl (fun K hK => ?_) AllReadyH.nil
          go_simp
          go_at_call 26
          refine (pick_any B (k + 1 + 1 + 4 + 1) g _ 9 _ hr7.drew (by omega) (by omega)).mono ?_
          rintro e x7 ⟨x, rfl, hm9, hrx, bo9⟩
          have xr := hm9.rng (m := 9) (by omega) (by omega)
          have bo1 := only_drew bo9
          replace c10 := keepO bo1 (by first | (simp; done) | (simp; omega)) c10; replace c11 := keepO bo1 (by first | (simp; done) | (simp; omega)) c11; replace c12 := keepO bo1 (by first | (simp; done) | (simp; omega)) c12; replace c13 := keepO bo1 (by first | (simp; done) | (simp; omega)) c13; replace c14 := keepO bo1 (by first | (simp; done) | (simp; omega)) c14; replace c15 := keepO bo1 (by first | (simp; done) | (simp; omega)) c15; replace c16 := keepO bo1 (by first | (simp; done) | (simp; omega)) c16; replace q0 := keepO bo1 (by first | (simp; done) | (simp; omega)) q0; replace y0 := keepO bo1 (by first | (simp; done) | (simp; omega)) y0; replace y1 := keepO bo1 (by first | (simp; done) | (simp; omega)) y1; replace y2 := keepO bo1 (by first | (simp; done) | (simp; omega)) y2; replace y3 := keepO bo1 (by first | (simp; done) | (simp; omega)) y3
          replace f10 := keepOF bo1 (by first | (simp; done) | (simp; omega)) f10; replace f11 := keepOF bo1 (by first | (simp; done) | (simp; omega)) f11; replace f12 := keepOF bo1 (by first | (simp; done) | (simp; omega)) f12; replace f13 := keepOF bo1 (by first | (simp; done) | (simp; omega)) f13; replace f14 := keepOF bo1 (by first | (simp; done) | (simp; omega)) f14; replace f15 := keepOF bo1 (by first | (simp; done) | (simp; omega)) f15; replace f16 := keepOF bo1 (by first | (simp; done) | (simp; omega)) f16
          have hgx := grown_trans hgr7 (grown_only bo1)
          have g3 : IntKind.i64.wrap (1 + x) = 1 + x := IntWalk.i64_in _ (by omega)
          clear hm9 bo9
          go_wp2_with fail
          refine hK.out _ _ ?_ (fun hHeld2 => ?_)
          · (first | (try dsimp only); go_keep | (go_split_ands; refine ⟨?_, ?_, ?_, ?_, ?_⟩ <;> first | exact keepO bo1 (by first | (simp; done) | (simp; omega)) (by assumption) | exact keepW bg1 (by first | (simp; done) | (simp; omega)) (by assumption) | assumption))
          clear hK K hHeld
          have hHeld := hHeld2
          clear hHeld2
          try simp only [Act.put, lyA, lyB, lyC]
          refine tkW 5 71 rfl rfl (by kernel_rfl) hHeld (by intro w hSw; (try dsimp only at hSw); go_simp; try with_reducible rfl) ?_ (fun _ _ _ h => h)
          simp only [Act.put, lyA, lyB, lyC]
          refine tkW 6 72 rfl rfl (by kernel_rfl) hHeld (by intro w hSw; (try dsimp only at hSw); go_simp; try with_reducible rfl) ?_ (fun _ _ _ h => h)
          simp only [Act.put, lyA, lyB, lyC]
          refine wpAnyH_ready (rs := [7]) (by kernel_rfl) (by simp) ?_
          refine AllReadyH.cons (o := ⟨none, _, _, _, _, _⟩) rfl (fun K hK => ?_) AllReadyH.nil
          go_simp
          refine hK.out _ _ ?_ (fun hHeld2 => ?_)
          · (first | (try dsimp only); go_keep | (go_split_ands; refine ⟨?_, ?_, ?_, ?_, ?_⟩ <;> first | exact keepO bo1 (by first | (simp; done) | (simp; omega)) (by assumption) | exact keepW bg1 (by first | (simp; done) | (simp; omega)) (by assumption) | assumption))
          clear hK K hHeld
          have hHeld := hHeld2
          clear hHeld2
          try simp only [Act.put, lyA, lyB, lyC]
          refine wpAnyH_done (by kernel_rfl) ?_ _
          clear hr7 hgr7 bo1
          go_wp2
          refine bodyPost_ret (v := .agg #[.int .i64 1, .int .i64 lb, .int .i64 l, .int .i64 m1, .int .i64 f, .int .i64 m3, .int .i64 (1 + x)]) (by simp [results, Tryz.results98, go_sem, *]) rfl ⟨⟨1, lb, l, m1, f, m3, 1 + x⟩, k + 1 + 1 + 4 + 1 + 1, rfl, v64_mk ⟨by omega, by omega⟩ ⟨by omega, by omega⟩ ⟨by omega, by omega⟩ ⟨by omega, by omega⟩ ⟨by omega, by omega⟩ ⟨by omega, by omega⟩ ⟨by omega, by omega⟩, by omega, ?_, ?_⟩
          · exact (((((((hrx.set ⟨by show B ≤ w.heap.size + 1; omega, by show ¬ w.heap.size + 1 = g; omega⟩ _).set ⟨by show B ≤ w.heap.size + 1; omega, by show ¬ w.heap.size + 1 = g; omega⟩ _).set ⟨by show B ≤ w.heap.size + 1; omega, by show ¬ w.heap.size + 1 = g; omega⟩ _).set ⟨by show B ≤ w.heap.size + 1; omega, by show ¬ w.heap.size + 1 = g; omega⟩ _).set ⟨by show B ≤ w.heap.size + 1; omega, by show ¬ w.heap.size + 1 = g; omega⟩ _).set ⟨by show B ≤ w.heap.size + 1; omega, by show ¬ w.heap.size + 1 = g; omega⟩ _).set ⟨by show B ≤ w.heap.size + 1; omega, by show ¬ w.heap.size + 1 = g; omega⟩ _)
          · exact (grown_setCell (grown_setCell (grown_setCell (grown_setCell (grown_setCell (grown_setCell (grown_setCell hgx (by show w.heap.size ≤ w.heap.size + 1; omega) _) (by show w.heap.size ≤ w.heap.size + 1; omega) _) (by show w.heap.size ≤ w.heap.size + 1; omega) _) (by show w.heap.size ≤ w.heap.size + 1; omega) _) (by show w.heap.size ≤ w.heap.size + 1; omega) _) (by show w.heap.size ≤ w.heap.size + 1; omega) _) (by show w.heap.size ≤ w.heap.size + 1; omega) _)
        have e0 : (y6 == 0) = false := beq_f hy
        clear hy
        by_cases hy : y6 = 1
        · have ey : (y6 == 1) = true := beq_t hy
          clear hy
          go_upto_region 8 with fail
          go_cut [] (fun wx => ∃ m1 : Int, (0 ≤ m1 ∧ m1 ≤ 3000) ∧ wx = w6.setCell ⟨P, 1, none⟩ (.int .i64 m1))
          case first =>
            go_wp2_with fail
            all_goals (go_meet; exact ⟨_, by omega, rfl⟩)
          case rest =>
          obtain ⟨m1, hm1r, rfl⟩ := hcut
          go_upto_region 9 with fail
          go_cut [] (fun wx => ∃ m3 : Int, (0 ≤ m3 ∧ m3 ≤ 3000) ∧ wx = (w6.setCell ⟨P, 1, none⟩ (.int .i64 m1)).setCell ⟨P, 3, none⟩ (.int .i64 m3))
          case first =>
            go_wp2_with fail
            all_goals (go_meet; exact ⟨_, by omega, rfl⟩)
          case rest =>
          obtain ⟨m3, hm3r, rfl⟩ := hcut
          go_wp2_with fail
          obtain ⟨w7, hw7⟩ : ∃ w7, w7 = (w6.setCell ⟨P, 1, none⟩ (.int .i64 m1)).setCell ⟨P, 3, none⟩ (.int .i64 m3) := ⟨_, rfl⟩
          have hr7 : Rdr w7 B (k + 1 + 1 + 4 + 1) g (.pointer gg) := by rw [hw7]; exact ((hrc.set ⟨by show B ≤ P; omega, by show ¬ P = g; omega⟩ _).set ⟨by show B ≤ P; omega, by show ¬ P = g; omega⟩ _)
          have hgr7 : w.grownBy w7 (some g) := by rw [hw7]; exact (grown_setCell (grown_setCell hgrc (by show w.heap.size ≤ P; omega) _) (by show w.heap.size ≤ P; omega) _)
          have ex : ∀ q, ¬ P = q → w7.heap[q]? = w6.heap[q]? := fun q hq => by rw [hw7]; simp only [World.setCell, Array.getElem?_modify, if_neg hq]
          replace c10 := cell_same (ex _ (by omega)) c10
          replace c11 := cell_same (ex _ (by omega)) c11
          replace c12 := cell_same (ex _ (by omega)) c12
          replace c13 := cell_same (ex _ (by omega)) c13
          replace c14 := cell_same (ex _ (by omega)) c14
          replace c15 := cell_same (ex _ (by omega)) c15
          replace c16 := cell_same (ex _ (by omega)) c16
          replace f10 := frozen_same (ex _ (by omega)) f10
          replace f11 := frozen_same (ex _ (by omega)) f11
          replace f12 := frozen_same (ex _ (by omega)) f12
          replace f13 := frozen_same (ex _ (by omega)) f13
          replace f14 := frozen_same (ex _ (by omega)) f14
          replace f15 := frozen_same (ex _ (by omega)) f15
          replace f16 := frozen_same (ex _ (by omega)) f16
          replace q0 := cell_same (ex _ (by omega)) q0
          have y0 : w7.cell? ⟨P, 0, none⟩ = some (.int .i64 l) := by rw [hw7]; go_simp
          have y1 : w7.cell? ⟨P, 1, none⟩ = some (.int .i64 m1) := by rw [hw7]; go_simp
          have y2 : w7.cell? ⟨P, 2, none⟩ = some (.int .i64 f) := by rw [hw7]; go_simp
          have y3 : w7.cell? ⟨P, 3, none⟩ = some (.int .i64 m3) := by rw [hw7]; go_simp
          rw [← hw7]
          clear hw7 ex q1 q2 q3 q4 p0 p1 p2 p3 fp0 fp1 fp2 fp3 hrc hgrc
          refine wp_region_held_drew (S := fun w' => w'.cell? ⟨N, 0, none⟩ = some (.int .i64 lb) ∧ w'.cell? ⟨P, 0, none⟩ = some (.int .i64 l) ∧ w'.cell? ⟨P, 1, none⟩ = some (.int .i64 m1) ∧ w'.cell? ⟨P, 2, none⟩ = some (.int .i64 f) ∧ w'.cell? ⟨P, 3, none⟩ = some (.int .i64 m3)) (by kernel_rfl) ?_ (fun hHeld => ?_)
          · (first | (try dsimp only); go_keep | (go_split_ands; refine ⟨?_, ?_, ?_, ?_, ?_⟩ <;> first | exact keepO bo1 (by first | (simp; done) | (simp; omega)) (by assumption) | exact keepW bg1 (by first | (simp; done) | (simp; omega)) (by assumption) | assumption))
          refine tkW 0 66 rfl rfl (by kernel_rfl) hHeld (by intro w hSw; (try dsimp only at hSw); go_simp; try with_reducible rfl) ?_ (fun _ _ _ h => h)
          simp only [Act.put, lyA, lyB, lyC]
          refine tkW 1 67 rfl rfl (by kernel_rfl) hHeld (by intro w hSw; (try dsimp only at hSw); go_simp; try with_reducible rfl) ?_ (fun _ _ _ h => h)
          simp only [Act.put, lyA, lyB, lyC]
          refine tkW 2 68 rfl rfl (by kernel_rfl) hHeld (by intro w hSw; (try dsimp only at hSw); go_simp; try with_reducible rfl) ?_ (fun _ _ _ h => h)
          simp only [Act.put, lyA, lyB, lyC]
          refine tkW 3 69 rfl rfl (by kernel_rfl) hHeld (by intro w hSw; (try dsimp only at hSw); go_simp; try with_reducible rfl) ?_ (fun _ _ _ h => h)
          simp only [Act.put, lyA, lyB, lyC]
          refine wpAnyH_ready (rs := [4]) (by kernel_rfl) (by simp) ?_
          refine AllReadyH.cons (o := ⟨some 70, _, _, _, _, _⟩) rfl (fun K hK => ?_) AllReadyH.nil
          go_simp
          go_at_call 26
          refine (pick_any B (k + 1 + 1 + 4 + 1) g _ 9 _ hr7.drew (by omega) (by omega)).mono ?_
          rintro e x7 ⟨x, rfl, hm9, hrx, bo9⟩
          have xr := hm9.rng (m := 9) (by omega) (by omega)
          have bo1 := only_drew bo9
          replace c10 := keepO bo1 (by first | (simp; done) | (simp; omega)) c10; replace c11 := keepO bo1 (by first | (simp; done) | (simp; omega)) c11; replace c12 := keepO bo1 (by first | (simp; done) | (simp; omega)) c12; replace c13 := keepO bo1 (by first | (simp; done) | (simp; omega)) c13; replace c14 := keepO bo1 (by first | (simp; done) | (simp; omega)) c14; replace c15 := keepO bo1 (by first | (simp; done) | (simp; omega)) c15; replace c16 := keepO bo1 (by first | (simp; done) | (simp; omega)) c16; replace q0 := keepO bo1 (by first | (simp; done) | (simp; omega)) q0; replace y0 := keepO bo1 (by first | (simp; done) | (simp; omega)) y0; replace y1 := keepO bo1 (by first | (simp; done) | (simp; omega)) y1; replace y2 := keepO bo1 (by first | (simp; done) | (simp; omega)) y2; replace y3 := keepO bo1 (by first | (simp; done) | (simp; omega)) y3
          replace f10 := keepOF bo1 (by first | (simp; done) | (simp; omega)) f10; replace f11 := keepOF bo1 (by first | (simp; done) | (simp; omega)) f11; replace f12 := keepOF bo1 (by first | (simp; done) | (simp; omega)) f12; replace f13 := keepOF bo1 (by first | (simp; done) | (simp; omega)) f13; replace f14 := keepOF bo1 (by first | (simp; done) | (simp; omega)) f14; replace f15 := keepOF bo1 (by first | (simp; done) | (simp; omega)) f15; replace f16 := keepOF bo1 (by first | (simp; done) | (simp; omega)) f16
          have hgx := grown_trans hgr7 (grown_only bo1)
          have g3 : IntKind.i64.wrap (1 + x) = 1 + x := IntWalk.i64_in _ (by omega)
          clear hm9 bo9
          go_wp2_with fail
          refine hK.out _ _ ?_ (fun hHeld2 => ?_)
          · (first | (try dsimp only); go_keep | (go_split_ands; refine ⟨?_, ?_, ?_, ?_, ?_⟩ <;> first | exact keepO bo1 (by first | (simp; done) | (simp; omega)) (by assumption) | exact keepW bg1 (by first | (simp; done) | (simp; omega)) (by assumption) | assumption))
          clear hK K hHeld
          have hHeld := hHeld2
          clear hHeld2
          try simp only [Act.put, lyA, lyB, lyC]
          refine tkW 5 71 rfl rfl (by kernel_rfl) hHeld (by intro w hSw; (try dsimp only at hSw); go_simp; try with_reducible rfl) ?_ (fun _ _ _ h => h)
          simp only [Act.put, lyA, lyB, lyC]
          refine tkW 6 72 rfl rfl (by kernel_rfl) hHeld (by intro w hSw; (try dsimp only at hSw); go_simp; try with_reducible rfl) ?_ (fun _ _ _ h => h)
          simp only [Act.put, lyA, lyB, lyC]
          refine wpAnyH_ready (rs := [7]) (by kernel_rfl) (by simp) ?_
          refine AllReadyH.cons (o := ⟨none, _, _, _, _, _⟩) rfl (fun K hK => ?_) AllReadyH.nil
          go_simp
          refine hK.out _ _ ?_ (fun hHeld2 => ?_)
          · (first | (try dsimp only); go_keep | (go_split_ands; refine ⟨?_, ?_, ?_, ?_, ?_⟩ <;> first | exact keepO bo1 (by first | (simp; done) | (simp; omega)) (by assumption) | exact keepW bg1 (by first | (simp; done) | (simp; omega)) (by assumption) | assumption))
          clear hK K hHeld
          have hHeld := hHeld2
          clear hHeld2
          try simp only [Act.put, lyA, lyB, lyC]
          refine wpAnyH_done (by kernel_rfl) ?_ _
          clear hr7 hgr7 bo1
          go_wp2
          refine bodyPost_ret (v := .agg #[.int .i64 1, .int .i64 lb, .int .i64 l, .int .i64 m1, .int .i64 f, .int .i64 m3, .int .i64 (1 + x)]) (by simp [results, Tryz.results98, go_sem, *]) rfl ⟨⟨1, lb, l, m1, f, m3, 1 + x⟩, k + 1 + 1 + 4 + 1 + 1, rfl, v64_mk ⟨by omega, by omega⟩ ⟨by omega, by omega⟩ ⟨by omega, by omega⟩ ⟨by omega, by omega⟩ ⟨by omega, by omega⟩ ⟨by omega, by omega⟩ ⟨by omega, by omega⟩, by omega, ?_, ?_⟩
          · exact (((((((hrx.set ⟨by show B ≤ w.heap.size + 1; omega, by show ¬ w.heap.size + 1 = g; omega⟩ _).set ⟨by show B ≤ w.heap.size + 1; omega, by show ¬ w.heap.size + 1 = g; omega⟩ _).set ⟨by show B ≤ w.heap.size + 1; omega, by show ¬ w.heap.size + 1 = g; omega⟩ _).set ⟨by show B ≤ w.heap.size + 1; omega, by show ¬ w.heap.size + 1 = g; omega⟩ _).set ⟨by show B ≤ w.heap.size + 1; omega, by show ¬ w.heap.size + 1 = g; omega⟩ _).set ⟨by show B ≤ w.heap.size + 1; omega, by show ¬ w.heap.size + 1 = g; omega⟩ _).set ⟨by show B ≤ w.heap.size + 1; omega, by show ¬ w.heap.size + 1 = g; omega⟩ _)
          · exact (grown_setCell (grown_setCell (grown_setCell (grown_setCell (grown_setCell (grown_setCell (grown_setCell hgx (by show w.heap.size ≤ w.heap.size + 1; omega) _) (by show w.heap.size ≤ w.heap.size + 1; omega) _) (by show w.heap.size ≤ w.heap.size + 1; omega) _) (by show w.heap.size ≤ w.heap.size + 1; omega) _) (by show w.heap.size ≤ w.heap.size + 1; omega) _) (by show w.heap.size ≤ w.heap.size + 1; omega) _) (by show w.heap.size ≤ w.heap.size + 1; omega) _)
        have e1 : (y6 == 1) = false := beq_f hy
        clear hy
        by_cases hy : y6 = 2
        · have e2 : (y6 == 2) = true := beq_t hy
          have hr7 := hrc
          have hgr7 := hgrc
          clear hrc hgrc hy
          go_wp2_with fail
          refine (pick_any B (k + 1 + 1 + 4 + 1) g _ 3 w6 hr7 (by omega) (by omega)).mono ?_
          rintro e w7 ⟨y3, rfl, hm9, hr8, bo9⟩
          have y3_r := hm9.rng (m := 3) (by omega) (by omega)
          replace c10 := keepO bo9 (by first | (simp; done) | (simp; omega)) c10; replace c11 := keepO bo9 (by first | (simp; done) | (simp; omega)) c11; replace c12 := keepO bo9 (by first | (simp; done) | (simp; omega)) c12; replace c13 := keepO bo9 (by first | (simp; done) | (simp; omega)) c13; replace c14 := keepO bo9 (by first | (simp; done) | (simp; omega)) c14; replace c15 := keepO bo9 (by first | (simp; done) | (simp; omega)) c15; replace c16 := keepO bo9 (by first | (simp; done) | (simp; omega)) c16; replace q0 := keepO bo9 (by first | (simp; done) | (simp; omega)) q0; replace q1 := keepO bo9 (by first | (simp; done) | (simp; omega)) q1; replace q2 := keepO bo9 (by first | (simp; done) | (simp; omega)) q2; replace q3 := keepO bo9 (by first | (simp; done) | (simp; omega)) q3; replace q4 := keepO bo9 (by first | (simp; done) | (simp; omega)) q4; replace p0 := keepO bo9 (by first | (simp; done) | (simp; omega)) p0; replace p1 := keepO bo9 (by first | (simp; done) | (simp; omega)) p1; replace p2 := keepO bo9 (by first | (simp; done) | (simp; omega)) p2; replace p3 := keepO bo9 (by first | (simp; done) | (simp; omega)) p3
          replace f10 := keepOF bo9 (by first | (simp; done) | (simp; omega)) f10; replace f11 := keepOF bo9 (by first | (simp; done) | (simp; omega)) f11; replace f12 := keepOF bo9 (by first | (simp; done) | (simp; omega)) f12; replace f13 := keepOF bo9 (by first | (simp; done) | (simp; omega)) f13; replace f14 := keepOF bo9 (by first | (simp; done) | (simp; omega)) f14; replace f15 := keepOF bo9 (by first | (simp; done) | (simp; omega)) f15; replace f16 := keepOF bo9 (by first | (simp; done) | (simp; omega)) f16; replace fp0 := keepOF bo9 (by first | (simp; done) | (simp; omega)) fp0; replace fp1 := keepOF bo9 (by first | (simp; done) | (simp; omega)) fp1; replace fp2 := keepOF bo9 (by first | (simp; done) | (simp; omega)) fp2; replace fp3 := keepOF bo9 (by first | (simp; done) | (simp; omega)) fp3
          have hgr8 := grown_trans hgr7 (grown_only bo9)
          have hz_w7 : w.heap.size + 1 < w7.heap.size := by have := bo9.size; omega
          clear bo9 hm9 hr7 hgr7
          have hr7 := hr8
          have hgr7 := hgr8
          clear hr8 hgr8
          by_cases hy3 : y3 = 0
          · have e4 : (y3 == 0) = true := beq_t hy3
            clear hy3
            go_wp2_with fail
            refine wp_region_held_drew (S := fun w' => w'.cell? ⟨N, 0, none⟩ = some (.int .i64 lb) ∧ w'.cell? ⟨N, 1, none⟩ = some (.int .i64 W)) (by kernel_rfl) ?_ (fun hHeld => ?_)
            · (first | (try dsimp only); go_keep | (go_split_ands; refine ⟨?_, ?_⟩ <;> first | exact keepO bo1 (by first | (simp; done) | (simp; omega)) (by assumption) | exact keepW bg1 (by first | (simp; done) | (simp; omega)) (by assumption) | assumption))
            refine tkW 0 78 rfl rfl (by kernel_rfl) hHeld (by intro w hSw; (try dsimp only at hSw); go_simp; try with_reducible rfl) ?_ (fun _ _ _ h => h)
            simp only [Act.put, lyA, lyB, lyC]
            refine tkW 1 79 rfl rfl (by kernel_rfl) hHeld (by intro w hSw; (try dsimp only at hSw); go_simp; try with_reducible rfl) ?_ (fun _ _ _ h => h)
            simp only [Act.put, lyA, lyB, lyC]
            refine tkW 2 80 rfl rfl (by kernel_rfl) hHeld (by intro w hSw; (try dsimp only at hSw); go_simp; try with_reducible rfl) ?_ (fun _ _ _ h => h)
            simp only [Act.put, lyA, lyB, lyC]
            refine wpAnyH_ready (rs := [3]) (by kernel_rfl) (by simp) ?_
            refine AllReadyH.cons (o := ⟨some 81, _, _, _, _, _⟩) rfl (fun K hK => ?_) AllReadyH.nil
            go_simp
            go_at_call 26
            refine (pick_any B (k + 1 + 1 + 4 + 1 + 1) g _ 10 _ hr7.drew (by omega) (by omega)).mono ?_
            rintro e x7 ⟨x, rfl, hm9, hrx, bo9⟩
            have xr := hm9.rng (m := 10) (by omega) (by omega)
            have bo1 := only_drew bo9
            replace c10 := keepO bo1 (by first | (simp; done) | (simp; omega)) c10; replace c11 := keepO bo1 (by first | (simp; done) | (simp; omega)) c11; replace c12 := keepO bo1 (by first | (simp; done) | (simp; omega)) c12; replace c13 := keepO bo1 (by first | (simp; done) | (simp; omega)) c13; replace c14 := keepO bo1 (by first | (simp; done) | (simp; omega)) c14; replace c15 := keepO bo1 (by first | (simp; done) | (simp; omega)) c15; replace c16 := keepO bo1 (by first | (simp; done) | (simp; omega)) c16; replace q0 := keepO bo1 (by first | (simp; done) | (simp; omega)) q0; replace q1 := keepO bo1 (by first | (simp; done) | (simp; omega)) q1; replace q2 := keepO bo1 (by first | (simp; done) | (simp; omega)) q2; replace q3 := keepO bo1 (by first | (simp; done) | (simp; omega)) q3; replace q4 := keepO bo1 (by first | (simp; done) | (simp; omega)) q4; replace p0 := keepO bo1 (by first | (simp; done) | (simp; omega)) p0; replace p1 := keepO bo1 (by first | (simp; done) | (simp; omega)) p1; replace p2 := keepO bo1 (by first | (simp; done) | (simp; omega)) p2; replace p3 := keepO bo1 (by first | (simp; done) | (simp; omega)) p3
            replace f10 := keepOF bo1 (by first | (simp; done) | (simp; omega)) f10; replace f11 := keepOF bo1 (by first | (simp; done) | (simp; omega)) f11; replace f12 := keepOF bo1 (by first | (simp; done) | (simp; omega)) f12; replace f13 := keepOF bo1 (by first | (simp; done) | (simp; omega)) f13; replace f14 := keepOF bo1 (by first | (simp; done) | (simp; omega)) f14; replace f15 := keepOF bo1 (by first | (simp; done) | (simp; omega)) f15; replace f16 := keepOF bo1 (by first | (simp; done) | (simp; omega)) f16
            have hgx := grown_trans hgr7 (grown_only bo1)
            clear hm9 bo9
            go_wp2_with fail
            refine hK.out _ _ ?_ (fun hHeld2 => ?_)
            · (first | (try dsimp only); go_keep | (go_split_ands; refine ⟨?_, ?_⟩ <;> first | exact keepO bo1 (by first | (simp; done) | (simp; omega)) (by assumption) | exact keepW bg1 (by first | (simp; done) | (simp; omega)) (by assumption) | assumption))
            clear hK K hHeld
            have hHeld := hHeld2
            clear hHeld2
            try simp only [Act.put, lyA, lyB, lyC]
            refine tkW 4 82 rfl rfl (by kernel_rfl) hHeld (by intro w hSw; (try dsimp only at hSw); go_simp; try with_reducible rfl) ?_ (fun _ _ _ h => h)
            simp only [Act.put, lyA, lyB, lyC]
            refine wpAnyH_ready (rs := [5]) (by kernel_rfl) (by simp) ?_
            refine AllReadyH.cons (o := ⟨none, _, _, _, _, _⟩) rfl (fun K hK => ?_) AllReadyH.nil
            go_simp
            refine hK.out _ _ ?_ (fun hHeld2 => ?_)
            · (first | (try dsimp only); go_keep | (go_split_ands; refine ⟨?_, ?_⟩ <;> first | exact keepO bo1 (by first | (simp; done) | (simp; omega)) (by assumption) | exact keepW bg1 (by first | (simp; done) | (simp; omega)) (by assumption) | assumption))
            clear hK K hHeld
            have hHeld := hHeld2
            clear hHeld2
            try simp only [Act.put, lyA, lyB, lyC]
            refine wpAnyH_done (by kernel_rfl) ?_ _
            clear hr7 hgr7 bo1
            go_wp2
            refine bodyPost_ret (v := .agg #[.int .i64 3, .int .i64 lb, .int .i64 0, .int .i64 0, .int .i64 0, .int .i64 0, .int .i64 x]) (by simp [results, Tryz.results98, go_sem, *]) rfl ⟨⟨3, lb, 0, 0, 0, 0, x⟩, k + 1 + 1 + 4 + 1 + 1 + 1, rfl, v64_mk ⟨by omega, by omega⟩ ⟨by omega, by omega⟩ ⟨by omega, by omega⟩ ⟨by omega, by omega⟩ ⟨by omega, by omega⟩ ⟨by omega, by omega⟩ ⟨by omega, by omega⟩, by omega, ?_, ?_⟩
            · exact (((((((hrx.set ⟨by show B ≤ w.heap.size + 1; omega, by show ¬ w.heap.size + 1 = g; omega⟩ _).set ⟨by show B ≤ w.heap.size + 1; omega, by show ¬ w.heap.size + 1 = g; omega⟩ _).set ⟨by show B ≤ w.heap.size + 1; omega, by show ¬ w.heap.size + 1 = g; omega⟩ _).set ⟨by show B ≤ w.heap.size + 1; omega, by show ¬ w.heap.size + 1 = g; omega⟩ _).set ⟨by show B ≤ w.heap.size + 1; omega, by show ¬ w.heap.size + 1 = g; omega⟩ _).set ⟨by show B ≤ w.heap.size + 1; omega, by show ¬ w.heap.size + 1 = g; omega⟩ _).set ⟨by show B ≤ w.heap.size + 1; omega, by show ¬ w.heap.size + 1 = g; omega⟩ _)
            · exact (grown_setCell (grown_setCell (grown_setCell (grown_setCell (grown_setCell (grown_setCell (grown_setCell hgx (by show w.heap.size ≤ w.heap.size + 1; omega) _) (by show w.heap.size ≤ w.heap.size + 1; omega) _) (by show w.heap.size ≤ w.heap.size + 1; omega) _) (by show w.heap.size ≤ w.heap.size + 1; omega) _) (by show w.heap.size ≤ w.heap.size + 1; omega) _) (by show w.heap.size ≤ w.heap.size + 1; omega) _) (by show w.heap.size ≤ w.heap.size + 1; omega) _)
          have e4 : (y3 == 0) = false := beq_f hy3
          go_wp2
          refine bodyPost_ret (v := .agg #[.int .i64 2, .int .i64 lb, .int .i64 l, .int .i64 r, .int .i64 f, .int .i64 t, .int .i64 0]) (by simp [results, Tryz.results98, go_sem, *]) rfl ⟨⟨2, lb, l, r, f, t, 0⟩, k + 1 + 1 + 4 + 1 + 1, rfl, v64_mk ⟨by omega, by omega⟩ ⟨by omega, by omega⟩ ⟨by omega, by omega⟩ ⟨by omega, by omega⟩ ⟨by omega, by omega⟩ ⟨by omega, by omega⟩ ⟨by omega, by omega⟩, by omega, ?_, ?_⟩
          · exact (((((((hr7.set ⟨by show B ≤ w.heap.size + 1; omega, by show ¬ w.heap.size + 1 = g; omega⟩ _).set ⟨by show B ≤ w.heap.size + 1; omega, by show ¬ w.heap.size + 1 = g; omega⟩ _).set ⟨by show B ≤ w.heap.size + 1; omega, by show ¬ w.heap.size + 1 = g; omega⟩ _).set ⟨by show B ≤ w.heap.size + 1; omega, by show ¬ w.heap.size + 1 = g; omega⟩ _).set ⟨by show B ≤ w.heap.size + 1; omega, by show ¬ w.heap.size + 1 = g; omega⟩ _).set ⟨by show B ≤ w.heap.size + 1; omega, by show ¬ w.heap.size + 1 = g; omega⟩ _).set ⟨by show B ≤ w.heap.size + 1; omega, by show ¬ w.heap.size + 1 = g; omega⟩ _)
          · exact (grown_setCell (grown_setCell (grown_setCell (grown_setCell (grown_setCell (grown_setCell (grown_setCell hgr7 (by show w.heap.size ≤ w.heap.size + 1; omega) _) (by show w.heap.size ≤ w.heap.size + 1; omega) _) (by show w.heap.size ≤ w.heap.size + 1; omega) _) (by show w.heap.size ≤ w.heap.size + 1; omega) _) (by show w.heap.size ≤ w.heap.size + 1; omega) _) (by show w.heap.size ≤ w.heap.size + 1; omega) _) (by show w.heap.size ≤ w.heap.size + 1; omega) _)
        have e2 : (y6 == 2) = false := beq_f hy
        clear hy
        by_cases hy3 : y6 = 3
        · have e3 : (y6 == 3) = true := beq_t hy3
          clear hy3
          go_wp2
          refine bodyPost_ret (v := .agg #[.int .i64 2, .int .i64 lb, .int .i64 0, .int .i64 W, .int .i64 f, .int .i64 t, .int .i64 0]) (by simp [results, Tryz.results98, go_sem, *]) rfl ⟨⟨2, lb, 0, W, f, t, 0⟩, k + 1 + 1 + 4 + 1, rfl, v64_mk ⟨by omega, by omega⟩ ⟨by omega, by omega⟩ ⟨by omega, by omega⟩ ⟨by omega, by omega⟩ ⟨by omega, by omega⟩ ⟨by omega, by omega⟩ ⟨by omega, by omega⟩, by omega, ?_, ?_⟩
          · exact (((((((((hrc.set ⟨by show B ≤ P; omega, by show ¬ P = g; omega⟩ _).set ⟨by show B ≤ P; omega, by show ¬ P = g; omega⟩ _).set ⟨by show B ≤ w.heap.size + 1; omega, by show ¬ w.heap.size + 1 = g; omega⟩ _).set ⟨by show B ≤ w.heap.size + 1; omega, by show ¬ w.heap.size + 1 = g; omega⟩ _).set ⟨by show B ≤ w.heap.size + 1; omega, by show ¬ w.heap.size + 1 = g; omega⟩ _).set ⟨by show B ≤ w.heap.size + 1; omega, by show ¬ w.heap.size + 1 = g; omega⟩ _).set ⟨by show B ≤ w.heap.size + 1; omega, by show ¬ w.heap.size + 1 = g; omega⟩ _).set ⟨by show B ≤ w.heap.size + 1; omega, by show ¬ w.heap.size + 1 = g; omega⟩ _).set ⟨by show B ≤ w.heap.size + 1; omega, by show ¬ w.heap.size + 1 = g; omega⟩ _)
          · exact (grown_setCell (grown_setCell (grown_setCell (grown_setCell (grown_setCell (grown_setCell (grown_setCell (grown_setCell (grown_setCell hgrc (by show w.heap.size ≤ P; omega) _) (by show w.heap.size ≤ P; omega) _) (by show w.heap.size ≤ w.heap.size + 1; omega) _) (by show w.heap.size ≤ w.heap.size + 1; omega) _) (by show w.heap.size ≤ w.heap.size + 1; omega) _) (by show w.heap.size ≤ w.heap.size + 1; omega) _) (by show w.heap.size ≤ w.heap.size + 1; omega) _) (by show w.heap.size ≤ w.heap.size + 1; omega) _) (by show w.heap.size ≤ w.heap.size + 1; omega) _)
        have e3 : (y6 == 3) = false := beq_f hy3
        clear hy3
        go_wp2
        refine bodyPost_ret (v := .agg #[.int .i64 2, .int .i64 lb, .int .i64 l, .int .i64 r, .int .i64 f, .int .i64 t, .int .i64 0]) (by simp [results, Tryz.results98, go_sem, *]) rfl ⟨⟨2, lb, l, r, f, t, 0⟩, k + 1 + 1 + 4 + 1, rfl, v64_mk ⟨by omega, by omega⟩ ⟨by omega, by omega⟩ ⟨by omega, by omega⟩ ⟨by omega, by omega⟩ ⟨by omega, by omega⟩ ⟨by omega, by omega⟩ ⟨by omega, by omega⟩, by omega, ?_, ?_⟩
        · exact (((((((hrc.set ⟨by show B ≤ w.heap.size + 1; omega, by show ¬ w.heap.size + 1 = g; omega⟩ _).set ⟨by show B ≤ w.heap.size + 1; omega, by show ¬ w.heap.size + 1 = g; omega⟩ _).set ⟨by show B ≤ w.heap.size + 1; omega, by show ¬ w.heap.size + 1 = g; omega⟩ _).set ⟨by show B ≤ w.heap.size + 1; omega, by show ¬ w.heap.size + 1 = g; omega⟩ _).set ⟨by show B ≤ w.heap.size + 1; omega, by show ¬ w.heap.size + 1 = g; omega⟩ _).set ⟨by show B ≤ w.heap.size + 1; omega, by show ¬ w.heap.size + 1 = g; omega⟩ _).set ⟨by show B ≤ w.heap.size + 1; omega, by show ¬ w.heap.size + 1 = g; omega⟩ _)
        · exact (grown_setCell (grown_setCell (grown_setCell (grown_setCell (grown_setCell (grown_setCell (grown_setCell hgrc (by show w.heap.size ≤ w.heap.size + 1; omega) _) (by show w.heap.size ≤ w.heap.size + 1; omega) _) (by show w.heap.size ≤ w.heap.size + 1; omega) _) (by show w.heap.size ≤ w.heap.size + 1; omega) _) (by show w.heap.size ≤ w.heap.size + 1; omega) _) (by show w.heap.size ≤ w.heap.size + 1; omega) _) (by show w.heap.size ≤ w.heap.size + 1; omega) _)
end Go.Proofs.YtkgepklapglmdaaGreatDoor

namespace Go.Proofs.YtkgepklapglmdaaGreatDoor
open Go.RowKit
attribute [local go_sem ↓] Go.wp_at_zero Go.wp_at_succ

theorem ES.setFar {w : World} {lo hi : Nat} {v : Value} {es : List Ent} (h : ES w lo hi v es) {p : Addr} (hp : p.block < lo ∨ hi ≤ p.block) (u : Value) : ES (w.setCell p u) lo hi v es :=
  h.kept fun q h1 h2 => by simp only [World.setCell, Array.getElem?_modify, if_neg (show ¬ p.block = q by omega)]
/-- a book that was drawn, and the mill behind it -/
def BkPost (B k n g tE : Nat) (v : Value) (w : World) (e : Ending) (w' : World) : Prop :=
  ∃ (vs u : Value) (evs : List Evt) (m : Mil) (k2 : Nat), e = .returned (.tuple #[vs, .agg #[u, .int .i64 m.a, .int .i64 m.b, .int .i64 m.z]]) ∧ OwnT w' w.heap.size tE 7 vs (evT evs) ∧ ES w' w.heap.size w'.heap.size u m.es ∧
    runB Mil.nil evs = some m ∧ m.ok = true ∧ evs.length ≤ 20 ∧ k2 ≤ k + n ∧ Rdr w' B k2 g v ∧ w.grownBy w' (some g)
theorem wpList_appendT2 {P : Program} {t e : TypeId} {z : Value} {k bytes : Nat} (S : SlT P t e z k bytes) {ops : Array Oper} {rest : List Oper} {o : Oper} {a : Act} {Q : Exit → Act → World → Prop} (w : World) (hgd : o.guard = none) (s x : Operand)
    (ho : o.op = .call { callee := .builtin .append, args := #[s, x], argTypes := #[t, t] }) (y : List Int) (cs : Array Value) (hcs : cs = (y.map (Value.int .i64)).toArray)
    (base : Nat) (v : Value) (xss : List (List Int)) (hs : a.eval s = v) (hx : a.eval x = .slice (some ⟨w.heap.size, 0, none⟩) 1 1) (hown : OwnT w base e k v xss) (hy : y.length = k ∧ ∀ n ∈ y, I64 n)
    (hn : (xss.length + 1) * bytes ≤ 140737488355328) (hn2 : xss.length ≤ 1099511627776) (hb : base ≤ w.heap.size)
    (h : ∀ v' w', OwnT w' base e k v' (xss ++ [y]) → Grew base v v' w w' → (v'.ownBlock = v.ownBlock ∨ v'.ownBlock = some (w.heap.size + 1)) → wpList P ops Q rest (a.put o.dst v') w') :
    wpList P ops Q (o :: rest) a (w.alloc (.cells cs e)) :=
  wpList_plain hgd fun _ hK => wp_appendT' S w s x ho y cs hcs base v xss hs hx hown hy hn hn2 hb fun v' w' k1 k2 k3 => hK _ _ (h v' w' k1 k2 k3)
theorem i64_7 {k lb l r f t g : Int} (h : V64 ⟨k, lb, l, r, f, t, g⟩) : ∀ n ∈ [k, lb, l, r, f, t, g], I64 n := fun n hn => by
  obtain ⟨h1, h2, h3, h4, h5, h6, h7⟩ := h
  simp only [List.mem_cons, List.not_mem_nil, or_false] at hn
  rcases hn with rfl | rfl | rfl | rfl | rfl | rfl | rfl <;> assumption
theorem applyEvent_no (lo hi : Nat) (v : Value) (m : Mil) (ev : Evt) (w : World) (h : ES w lo hi v m.es) (hhi : hi ≤ w.heap.size) (hok : m.ok = true) (h64 : V64 ev) (hn : apE m ev = none) :
    Calls Tryz.prog 89 #[.agg #[v, .int .i64 m.a, .int .i64 m.b, .int .i64 m.z], .agg #[.int .i64 ev.k, .int .i64 ev.lb, .int .i64 ev.l, .int .i64 ev.r, .int .i64 ev.f, .int .i64 ev.t, .int .i64 ev.g]] w fun e w' =>
      ∃ A n c, e = .returned (.tuple #[.agg #[.slice A n c, .int .i64 0, .int .i64 0, .int .i64 0], .bool false]) ∧ Below w.heap.size w w' := by
  refine (applyEvent_any lo hi v m ev w h hhi hok h64).mono ?_
  rintro e w' ⟨u, rfl, he, hb⟩
  obtain ⟨A, c, rfl, _⟩ := he.form
  rw [hn]
  exact ⟨A, _, c, rfl, hb⟩
theorem applyEvent_yes (lo hi : Nat) (v : Value) (m m' : Mil) (ev : Evt) (w : World) (h : ES w lo hi v m.es) (hhi : hi ≤ w.heap.size) (hok : m.ok = true) (h64 : V64 ev) (hn : apE m ev = some m') :
    Calls Tryz.prog 89 #[.agg #[v, .int .i64 m.a, .int .i64 m.b, .int .i64 m.z], .agg #[.int .i64 ev.k, .int .i64 ev.lb, .int .i64 ev.l, .int .i64 ev.r, .int .i64 ev.f, .int .i64 ev.t, .int .i64 ev.g]] w fun e w' =>
      ∃ A n c, e = .returned (.tuple #[.agg #[.slice A n c, .int .i64 m'.a, .int .i64 m'.b, .int .i64 m'.z], .bool true]) ∧ n = m'.es.length ∧ ES w' w.heap.size w'.heap.size (.slice A n c) m'.es ∧ Below w.heap.size w w' := by
  refine (applyEvent_any lo hi v m ev w h hhi hok h64).mono ?_
  rintro e w' ⟨u, rfl, he, hb⟩
  obtain ⟨A, c, rfl, _⟩ := he.form
  rw [hn] at he ⊢
  exact ⟨A, _, c, rfl, rfl, he, hb⟩
theorem SlEvent : SlT Tryz.prog 29 40 (.agg #[.int .i64 0, .int .i64 0, .int .i64 0, .int .i64 0, .int .i64 0, .int .i64 0, .int .i64 0]) 7 56 := ⟨Tryz.underlying29, by kernel_rfl, rfl, by omega⟩
set_option maxRecDepth 100000 in
set_option maxHeartbeats 4000000 in
theorem someBook_any (B k g : Nat) (v : Value) (w : World) (h : Rdr w B k g v) (hk : k ≤ 600000) :
    Calls Tryz.prog 55 #[v] w fun e w' => BkPost B k 321 g 40 v w e w' := by
  have hg0 := h.lt
  have hva : ∃ gg, v = .pointer gg := by obtain ⟨_, _, _, _, e, _⟩ := h; exact ⟨_, e⟩
  obtain ⟨gg, rfl⟩ := hva
  have hr1 : ∀ w1, Below w.heap.size w w1 → Rdr w1 B k g (.pointer gg) := fun w1 hb => h.below hb
  have Hs := Lib.hid (show ∃ w1, w1 = ((w.alloc (.cells #[.slice none 0 0, .int .i64 0, .int .i64 0, .int .i64 0] 25)).alloc (.cells #[.slice none 0 0, .int .i64 0, .int .i64 0, .int .i64 0] 25)) ∧ Below w.heap.size w w1 ∧ w1.cell? ⟨w.heap.size, 0, none⟩ = some (.slice none 0 0) ∧ w1.cell? ⟨w.heap.size, 1, none⟩ = some (.int .i64 0) ∧ w1.cell? ⟨w.heap.size, 2, none⟩ = some (.int .i64 0) ∧ w1.cell? ⟨w.heap.size, 3, none⟩ = some (.int .i64 0) ∧ w1.frozen? ⟨w.heap.size, 0, none⟩ = false ∧ w1.frozen? ⟨w.heap.size, 1, none⟩ = false ∧ w1.frozen? ⟨w.heap.size, 2, none⟩ = false ∧ w1.frozen? ⟨w.heap.size, 3, none⟩ = false ∧ w1.cell? ⟨w.heap.size + 1, 0, none⟩ = some (.slice none 0 0) ∧ w1.cell? ⟨w.heap.size + 1, 1, none⟩ = some (.int .i64 0) ∧ w1.cell? ⟨w.heap.size + 1, 2, none⟩ = some (.int .i64 0) ∧ w1.cell? ⟨w.heap.size + 1, 3, none⟩ = some (.int .i64 0) ∧ w1.frozen? ⟨w.heap.size + 1, 0, none⟩ = false ∧ w1.frozen? ⟨w.heap.size + 1, 1, none⟩ = false ∧ w1.frozen? ⟨w.heap.size + 1, 2, none⟩ = false ∧ w1.frozen? ⟨w.heap.size + 1, 3, none⟩ = false ∧ w.heap.size + 1 < w1.heap.size from by
    have hb : Below w.heap.size w ((w.alloc (.cells #[.slice none 0 0, .int .i64 0, .int .i64 0, .int .i64 0] 25)).alloc (.cells #[.slice none 0 0, .int .i64 0, .int .i64 0, .int .i64 0] 25)) := ((Below.refl _ _).alloc (Nat.le_refl _) _).alloc (by simp) _
    exact ⟨_, rfl, hb, by go_simp, by go_simp, by go_simp, by go_simp, by go_simp, by go_simp, by go_simp, by go_simp, by go_simp, by go_simp, by go_simp, by go_simp, by go_simp, by go_simp, by go_simp, by go_simp, by simp⟩)
  go_enter Tryz.func55, Tryz.ntmps55
  go_wp2_with fail
  obtain ⟨w1, hw1, hb0, c00, c01, c02, c03, f00, f01, f02, f03, c10, c11, c12, c13, f10, f11, f12, f13, hz⟩ := Hs.out
  have HZ := Lib.hid (show w1.heap.size = w.heap.size + 1 + 1 by rw [hw1]; simp)
  rw [← hw1]
  clear hw1 Hs
  obtain ⟨w2, hw2⟩ : ∃ w2, w2 = w1.alloc (.cells #[] 40) := ⟨_, rfl⟩
  have HZ2 := Lib.hid (show w2.heap.size = w.heap.size + 1 + 1 + 1 by rw [hw2]; simp [HZ.out])
  have b2 : Below w1.heap.size w1 w2 := by rw [hw2]; exact (Below.refl _ _).alloc (Nat.le_refl _) _
  have oe : OwnT w2 (w.heap.size + 1 + 1) 40 7 (.slice (some ⟨w.heap.size + 1 + 1, 0, none⟩) 0 0) [] := by
    rw [hw2, ← HZ.out]; exact OwnT.empty w1 w1.heap.size _ 7 (Nat.le_refl _)
  rw [← hw2]
  clear hw2
  have hr2 := (hr1 w1 hb0).below b2
  have hgr2 := grown_trans (grown_below hb0 (some g)) (grown_below b2 (some g))
  replace c00 := keepB b2 c00; replace c01 := keepB b2 c01; replace c02 := keepB b2 c02; replace c03 := keepB b2 c03; replace c10 := keepB b2 c10; replace c11 := keepB b2 c11; replace c12 := keepB b2 c12; replace c13 := keepB b2 c13
  replace f00 := keepF b2 (by first | (simp; done) | (simp; omega)) f00; replace f01 := keepF b2 (by first | (simp; done) | (simp; omega)) f01; replace f02 := keepF b2 (by first | (simp; done) | (simp; omega)) f02; replace f03 := keepF b2 (by first | (simp; done) | (simp; omega)) f03; replace f10 := keepF b2 (by first | (simp; done) | (simp; omega)) f10; replace f11 := keepF b2 (by first | (simp; done) | (simp; omega)) f11; replace f12 := keepF b2 (by first | (simp; done) | (simp; omega)) f12; replace f13 := keepF b2 (by first | (simp; done) | (simp; omega)) f13
  clear hr1 h b2 hb0
  refine (one_lit B k g _ [8, 12, 5, 20, 0, 2] w2 _ _ _ hr2 (by omega) rfl rfl HZ2.out.symm (by simp) (by simp) (by unfold I64; simp)).mono ?_
  rintro e w3 ⟨n0, rfl, hn, hr3, bg1⟩
  have hn0 : 0 ≤ n0 ∧ n0 ≤ 20 := by simp only [List.mem_cons, List.not_mem_nil, or_false] at hn; omega
  obtain ⟨n0, rfl⟩ := Int.eq_ofNat_of_zero_le hn0.1
  have hz2 : w.heap.size + 1 + 1 < w2.heap.size := by have := HZ2.out; omega
  replace c00 := keepW bg1 (by first | (simp; done) | (simp; omega)) c00; replace c01 := keepW bg1 (by first | (simp; done) | (simp; omega)) c01; replace c02 := keepW bg1 (by first | (simp; done) | (simp; omega)) c02; replace c03 := keepW bg1 (by first | (simp; done) | (simp; omega)) c03; replace c10 := keepW bg1 (by first | (simp; done) | (simp; omega)) c10; replace c11 := keepW bg1 (by first | (simp; done) | (simp; omega)) c11; replace c12 := keepW bg1 (by first | (simp; done) | (simp; omega)) c12; replace c13 := keepW bg1 (by first | (simp; done) | (simp; omega)) c13
  replace f00 := keepWF bg1 (by first | (simp; done) | (simp; omega)) f00; replace f01 := keepWF bg1 (by first | (simp; done) | (simp; omega)) f01; replace f02 := keepWF bg1 (by first | (simp; done) | (simp; omega)) f02; replace f03 := keepWF bg1 (by first | (simp; done) | (simp; omega)) f03; replace f10 := keepWF bg1 (by first | (simp; done) | (simp; omega)) f10; replace f11 := keepWF bg1 (by first | (simp; done) | (simp; omega)) f11; replace f12 := keepWF bg1 (by first | (simp; done) | (simp; omega)) f12; replace f13 := keepWF bg1 (by first | (simp; done) | (simp; omega)) f13
  have oe3 := oe.kept (Kept.of_grown bg1 (by omega) (.inl (by omega)))
  have hgr3 := grown_trans hgr2 bg1
  have hz3 : w.heap.size + 1 + 1 < w3.heap.size := by have := bg1.size; omega
  clear hn hr2 bg1 hgr2 oe hz2 HZ2 hz
  go_wp2_with fail
  go_loopw [5, 6] (fun v5 i wr => ∃ (n k' : Nat) (evs : List Evt) (m : Mil) (lo hi : Nat) (u : Value), i = .int .i64 n ∧ evs.length + n ≤ 20 ∧ k' + 16 * n ≤ k + 321 ∧ Rdr wr B k' g (.pointer gg) ∧ OwnT wr (w.heap.size + 1 + 1) 40 7 v5 (evT evs) ∧ Hid (runB Mil.nil evs = some m) ∧ Hid (m.ok = true) ∧ ES wr lo hi u m.es ∧ w.heap.size + 1 + 1 ≤ lo ∧ hi ≤ wr.heap.size ∧ Hid (∀ q, v5.ownBlock = some q → q < lo ∨ hi ≤ q) ∧ w.grownBy wr (some g) ∧ w.heap.size + 1 + 1 < wr.heap.size ∧
    (wr.cell? ⟨w.heap.size + 1, 0, none⟩ = some u ∧ wr.cell? ⟨w.heap.size + 1, 1, none⟩ = some (.int .i64 m.a) ∧ wr.cell? ⟨w.heap.size + 1, 2, none⟩ = some (.int .i64 m.b) ∧ wr.cell? ⟨w.heap.size + 1, 3, none⟩ = some (.int .i64 m.z)) ∧
    (wr.frozen? ⟨w.heap.size + 1, 0, none⟩ = false ∧ wr.frozen? ⟨w.heap.size + 1, 1, none⟩ = false ∧ wr.frozen? ⟨w.heap.size + 1, 2, none⟩ = false ∧ wr.frozen? ⟨w.heap.size + 1, 3, none⟩ = false) ∧
    (wr.cell? ⟨w.heap.size, 0, none⟩ = some (.slice none 0 0) ∧ wr.cell? ⟨w.heap.size, 1, none⟩ = some (.int .i64 0) ∧ wr.cell? ⟨w.heap.size, 2, none⟩ = some (.int .i64 0) ∧ wr.cell? ⟨w.heap.size, 3, none⟩ = some (.int .i64 0)) ∧
    (wr.frozen? ⟨w.heap.size, 0, none⟩ = false ∧ wr.frozen? ⟨w.heap.size, 1, none⟩ = false ∧ wr.frozen? ⟨w.heap.size, 2, none⟩ = false ∧ wr.frozen? ⟨w.heap.size, 3, none⟩ = false)) (fun _ i _ => (intOf i).toNat)
  case atStart => exact ⟨n0, k + 1, [], Mil.nil, w.heap.size + 1 + 1, w.heap.size + 1 + 1, .slice none 0 0, rfl, by simp; omega, by omega, hr3, oe3, Lib.hid rfl, Lib.hid nil_ok, ES.nil _ _ _, by omega, by omega, Lib.hid (fun q hq => by have a1 : some (w.heap.size + 1 + 1) = some q := hq; injection a1 with a1; omega), hgr3, hz3, ⟨c10, c11, c12, c13⟩, ⟨f10, f11, f12, f13⟩, ⟨c00, c01, c02, c03⟩, ⟨f00, f01, f02, f03⟩⟩
  case round =>
    clear hr3 oe3 hgr3 hz3 c10 c11 c12 c13 f10 f11 f12 f13 c00 c01 c02 c03 f00 f01 f02 f03
    obtain ⟨n, k', evs, m, lo, hi, u, rfl, hln, hkk, hr, ho, HR, HK, hes, hlo, hhi, HO, hgr, hzr, ⟨c10, c11, c12, c13⟩, ⟨f10, f11, f12, f13⟩, ⟨c00, c01, c02, c03⟩, ⟨f00, f01, f02, f03⟩⟩ := hrel
    obtain ⟨A, c, rfl, hc, hm⟩ := hes.form
    by_cases hlt : 0 < n
    · obtain ⟨n1, rfl⟩ : ∃ n1, n = n1 + 1 := ⟨n - 1, by omega⟩
      have hltI : (0 : Int) < (n1 : Int) + 1 := by omega
      go_wp2_with fail
      refine (someEvent_any B k' g lo hi _ _ m.es m.a m.b m.z wr hr (by omega) hes hhi (by omega) (mill_sizes HK.out).1 (fun j hj => ((vMill_iff.1 HK.out).1 j hj).1)).mono ?_
      rintro e wa ⟨ev, k2, rfl, h64, hk2, hra, bg⟩
      replace c00 := keepW bg (by first | (simp; done) | (simp; omega)) c00; replace c01 := keepW bg (by first | (simp; done) | (simp; omega)) c01; replace c02 := keepW bg (by first | (simp; done) | (simp; omega)) c02; replace c03 := keepW bg (by first | (simp; done) | (simp; omega)) c03; replace c10 := keepW bg (by first | (simp; done) | (simp; omega)) c10; replace c11 := keepW bg (by first | (simp; done) | (simp; omega)) c11; replace c12 := keepW bg (by first | (simp; done) | (simp; omega)) c12; replace c13 := keepW bg (by first | (simp; done) | (simp; omega)) c13
      replace f00 := keepWF bg (by first | (simp; done) | (simp; omega)) f00; replace f01 := keepWF bg (by first | (simp; done) | (simp; omega)) f01; replace f02 := keepWF bg (by first | (simp; done) | (simp; omega)) f02; replace f03 := keepWF bg (by first | (simp; done) | (simp; omega)) f03; replace f10 := keepWF bg (by first | (simp; done) | (simp; omega)) f10; replace f11 := keepWF bg (by first | (simp; done) | (simp; omega)) f11; replace f12 := keepWF bg (by first | (simp; done) | (simp; omega)) f12; replace f13 := keepWF bg (by first | (simp; done) | (simp; omega)) f13
      have hea := hes.kept (Kept.of_grown bg hhi (.inl (by omega)))
      have hoa := ho.kept (Kept.of_grown bg (Nat.le_refl _) (.inl (by omega)))
      have hgra := grown_trans hgr bg
      have hza := bg.size
      have hza2 : w.heap.size + 1 + 1 < wa.heap.size := by omega
      have hza3 : w.heap.size + 1 < wa.heap.size := by omega
      have Hlt := Lib.hid ho.lt
      clear bg hr hes ho hgr
      obtain ⟨ek, elb, el, er, ef, et, eg⟩ := ev
      go_wp2_with fail
      obtain ⟨wb, hw1⟩ : ∃ wb, wb = wa.alloc (.cells #[.int .i64 ek, .int .i64 elb, .int .i64 el, .int .i64 er, .int .i64 ef, .int .i64 et, .int .i64 eg] 40) := ⟨_, rfl⟩
      have x0 : wb.cell? ⟨wa.heap.size, 0, none⟩ = some (.int .i64 ek) := by rw [hw1]; go_simp
      have x1 : wb.cell? ⟨wa.heap.size, 1, none⟩ = some (.int .i64 elb) := by rw [hw1]; go_simp
      have x2 : wb.cell? ⟨wa.heap.size, 2, none⟩ = some (.int .i64 el) := by rw [hw1]; go_simp
      have x3 : wb.cell? ⟨wa.heap.size, 3, none⟩ = some (.int .i64 er) := by rw [hw1]; go_simp
      have x4 : wb.cell? ⟨wa.heap.size, 4, none⟩ = some (.int .i64 ef) := by rw [hw1]; go_simp
      have x5 : wb.cell? ⟨wa.heap.size, 5, none⟩ = some (.int .i64 et) := by rw [hw1]; go_simp
      have x6 : wb.cell? ⟨wa.heap.size, 6, none⟩ = some (.int .i64 eg) := by rw [hw1]; go_simp
      have bx : Below wa.heap.size wa wb := by rw [hw1]; exact (Below.refl _ _).alloc (Nat.le_refl _) _
      have zx : wa.heap.size < wb.heap.size := by rw [hw1]; simp
      have HZx := Lib.hid (show wb.heap.size = wa.heap.size + 1 by rw [hw1]; simp)
      have fx0 : wb.frozen? ⟨wa.heap.size, 0, none⟩ = false := by rw [hw1]; go_simp
      have fx1 : wb.frozen? ⟨wa.heap.size, 1, none⟩ = false := by rw [hw1]; go_simp
      have fx2 : wb.frozen? ⟨wa.heap.size, 2, none⟩ = false := by rw [hw1]; go_simp
      have fx3 : wb.frozen? ⟨wa.heap.size, 3, none⟩ = false := by rw [hw1]; go_simp
      have fx4 : wb.frozen? ⟨wa.heap.size, 4, none⟩ = false := by rw [hw1]; go_simp
      have fx5 : wb.frozen? ⟨wa.heap.size, 5, none⟩ = false := by rw [hw1]; go_simp
      have fx6 : wb.frozen? ⟨wa.heap.size, 6, none⟩ = false := by rw [hw1]; go_simp
      have Hx := Lib.hid (show wb.heap[wa.heap.size]? = some (.cells #[.int .i64 ek, .int .i64 elb, .int .i64 el, .int .i64 er, .int .i64 ef, .int .i64 et, .int .i64 eg] 40) by rw [hw1]; exact heap_alloc_new wa _)
      rw [← hw1]
      clear hw1
      have hrb := hra.below bx
      have heb := hea.below bx (by omega)
      have hob := hoa.kept (.of_below bx (Nat.le_refl _))
      have hgrb := grown_trans hgra (grown_below bx (some g))
      replace c00 := keepB bx c00; replace c01 := keepB bx c01; replace c02 := keepB bx c02; replace c03 := keepB bx c03; replace c10 := keepB bx c10; replace c11 := keepB bx c11; replace c12 := keepB bx c12; replace c13 := keepB bx c13
      replace f00 := keepF bx (by first | (simp; done) | (simp; omega)) f00; replace f01 := keepF bx (by first | (simp; done) | (simp; omega)) f01; replace f02 := keepF bx (by first | (simp; done) | (simp; omega)) f02; replace f03 := keepF bx (by first | (simp; done) | (simp; omega)) f03; replace f10 := keepF bx (by first | (simp; done) | (simp; omega)) f10; replace f11 := keepF bx (by first | (simp; done) | (simp; omega)) f11; replace f12 := keepF bx (by first | (simp; done) | (simp; omega)) f12; replace f13 := keepF bx (by first | (simp; done) | (simp; omega)) f13
      have hzb : wa.heap.size < wb.heap.size := zx
      have hzb2 : wr.heap.size ≤ wa.heap.size := hza
      obtain ⟨X, hX⟩ : ∃ X, X = wa.heap.size := ⟨_, rfl⟩
      rw [← hX] at x0 x1 x2 x3 x4 x5 x6 hzb hzb2 hza2
      rw [← hX]
      clear bx hea hoa hgra hra hX Hx HZx fx0 fx1 fx2 fx3 fx4 fx5 fx6 zx hza hza3
      have hbL : w.heap.size + 1 < wb.heap.size := by omega
      cases hap : apE m ⟨ek, elb, el, er, ef, et, eg⟩ with
      | none =>
        have Hn := Lib.hid hap
        have HR2 := HR
        clear hap
        refine (applyEvent_no lo hi _ m ⟨ek, elb, el, er, ef, et, eg⟩ wb heb (by omega) HK.out h64 Hn.out).mono ?_
        rintro e wc ⟨A2, n2, c2, rfl, bc⟩
        replace c00 := keepB bc c00; replace c01 := keepB bc c01; replace c02 := keepB bc c02; replace c03 := keepB bc c03; replace c10 := keepB bc c10; replace c11 := keepB bc c11; replace c12 := keepB bc c12; replace c13 := keepB bc c13
        replace f00 := keepF bc (by first | (simp; done) | (simp; omega)) f00; replace f01 := keepF bc (by first | (simp; done) | (simp; omega)) f01; replace f02 := keepF bc (by first | (simp; done) | (simp; omega)) f02; replace f03 := keepF bc (by first | (simp; done) | (simp; omega)) f03; replace f10 := keepF bc (by first | (simp; done) | (simp; omega)) f10; replace f11 := keepF bc (by first | (simp; done) | (simp; omega)) f11; replace f12 := keepF bc (by first | (simp; done) | (simp; omega)) f12; replace f13 := keepF bc (by first | (simp; done) | (simp; omega)) f13
        have hrc := hrb.below bc
        have hoc := hob.kept (.of_below bc (Nat.le_refl _))
        have hgrc := grown_trans hgrb (grown_below bc (some g))
        have hzc := bc.size
        have hec := heb.below bc (by omega)
        have hcL : w.heap.size + 1 < wc.heap.size := by omega
        clear bc hrb hob hgrb heb x0 x1 x2 x3 x4 x5 x6 Hn
        go_wp2
        have bm : Below wc.heap.size wc (wc.alloc (.cells #[.slice A2 n2 c2, .int .i64 0, .int .i64 0, .int .i64 0] 25)) := (Below.refl _ _).alloc (Nat.le_refl _) _
        go_roundw
        case rel => exact ⟨n1, k2, evs, m, lo, hi, _, by go_num, by omega, by omega, hrc.below bm, hoc.kept (.of_below bm (Nat.le_refl _)), HR2, HK, hec.below bm (by omega), hlo, by have := bm.size; omega, HO, grown_trans hgrc (grown_below bm (some g)), by have := bm.size; omega, ⟨keepB bm c10, keepB bm c11, keepB bm c12, keepB bm c13⟩, ⟨keepF bm (by show w.heap.size + 1 < _; omega) f10, keepF bm (by show w.heap.size + 1 < _; omega) f11, keepF bm (by show w.heap.size + 1 < _; omega) f12, keepF bm (by show w.heap.size + 1 < _; omega) f13⟩, ⟨keepB bm c00, keepB bm c01, keepB bm c02, keepB bm c03⟩, ⟨keepF bm (by show w.heap.size < _; omega) f00, keepF bm (by show w.heap.size < _; omega) f01, keepF bm (by show w.heap.size < _; omega) f02, keepF bm (by show w.heap.size < _; omega) f03⟩⟩
        case measure => simp [intOf]
      | some m' =>
        have Hn := Lib.hid hap
        have HR2 := Lib.hid (runB_next HR.out hap)
        have HK2 := Lib.hid (apE_ok hap)
        clear hap HR
        refine (applyEvent_yes lo hi _ m m' ⟨ek, elb, el, er, ef, et, eg⟩ wb heb (by omega) HK.out h64 Hn.out).mono ?_
        rintro e wc ⟨A2, n2, c2, rfl, hn2, hec, bc⟩
        have Hn2 := Lib.hid hn2
        replace c00 := keepB bc c00; replace c01 := keepB bc c01; replace c02 := keepB bc c02; replace c03 := keepB bc c03; replace c10 := keepB bc c10; replace c11 := keepB bc c11; replace c12 := keepB bc c12; replace c13 := keepB bc c13; replace x0 := keepB bc x0; replace x1 := keepB bc x1; replace x2 := keepB bc x2; replace x3 := keepB bc x3; replace x4 := keepB bc x4; replace x5 := keepB bc x5; replace x6 := keepB bc x6
        replace f00 := keepF bc (by first | (simp; done) | (simp; omega)) f00; replace f01 := keepF bc (by first | (simp; done) | (simp; omega)) f01; replace f02 := keepF bc (by first | (simp; done) | (simp; omega)) f02; replace f03 := keepF bc (by first | (simp; done) | (simp; omega)) f03; replace f10 := keepF bc (by first | (simp; done) | (simp; omega)) f10; replace f11 := keepF bc (by first | (simp; done) | (simp; omega)) f11; replace f12 := keepF bc (by first | (simp; done) | (simp; omega)) f12; replace f13 := keepF bc (by first | (simp; done) | (simp; omega)) f13
        have hrc := hrb.below bc
        have hoc := hob.kept (.of_below bc (Nat.le_refl _))
        have hgrc := grown_trans hgrb (grown_below bc (some g))
        have hzc := bc.size
        have hcL : w.heap.size + 1 < wc.heap.size := by omega
        have hXc : X < wc.heap.size := by omega
        clear bc hrb hob hgrb heb hn2 HK Hn
        go_upto_region 10 with fail
        obtain ⟨ws, hws⟩ : ∃ ws, ws = ((((wc.setCell ⟨w.heap.size + 1, 0, none⟩ (.slice A2 n2 c2)).setCell ⟨w.heap.size + 1, 1, none⟩ (.int .i64 m'.a)).setCell ⟨w.heap.size + 1, 2, none⟩ (.int .i64 m'.b)).setCell ⟨w.heap.size + 1, 3, none⟩ (.int .i64 m'.z)) := ⟨_, rfl⟩
        have ex : ∀ q, ¬ w.heap.size + 1 = q → ws.heap[q]? = wc.heap[q]? := fun q hq => by rw [hws]; simp only [World.setCell, Array.getElem?_modify, if_neg hq]
        have hzs : ws.heap.size = wc.heap.size := by rw [hws]; simp [World.setCell]
        replace x0 := cell_same (ex _ (by omega)) x0
        replace x1 := cell_same (ex _ (by omega)) x1
        replace x2 := cell_same (ex _ (by omega)) x2
        replace x3 := cell_same (ex _ (by omega)) x3
        replace x4 := cell_same (ex _ (by omega)) x4
        replace x5 := cell_same (ex _ (by omega)) x5
        replace x6 := cell_same (ex _ (by omega)) x6
        replace c00 := cell_same (ex _ (by omega)) c00
        replace f00 := frozen_same (ex _ (by omega)) f00
        replace c01 := cell_same (ex _ (by omega)) c01
        replace f01 := frozen_same (ex _ (by omega)) f01
        replace c02 := cell_same (ex _ (by omega)) c02
        replace f02 := frozen_same (ex _ (by omega)) f02
        replace c03 := cell_same (ex _ (by omega)) c03
        replace f03 := frozen_same (ex _ (by omega)) f03
        have d10 : ws.cell? ⟨w.heap.size + 1, 0, none⟩ = some (.slice A2 n2 c2) := by rw [hws]; go_simp
        have fd0 : ws.frozen? ⟨w.heap.size + 1, 0, none⟩ = false := by rw [hws]; go_simp
        have d11 : ws.cell? ⟨w.heap.size + 1, 1, none⟩ = some (.int .i64 m'.a) := by rw [hws]; go_simp
        have fd1 : ws.frozen? ⟨w.heap.size + 1, 1, none⟩ = false := by rw [hws]; go_simp
        have d12 : ws.cell? ⟨w.heap.size + 1, 2, none⟩ = some (.int .i64 m'.b) := by rw [hws]; go_simp
        have fd2 : ws.frozen? ⟨w.heap.size + 1, 2, none⟩ = false := by rw [hws]; go_simp
        have d13 : ws.cell? ⟨w.heap.size + 1, 3, none⟩ = some (.int .i64 m'.z) := by rw [hws]; go_simp
        have fd3 : ws.frozen? ⟨w.heap.size + 1, 3, none⟩ = false := by rw [hws]; go_simp
        have hrs : Rdr ws B k2 g (.pointer gg) := by rw [hws]; exact ((((hrc.set (p := ⟨w.heap.size + 1, 0, none⟩) ⟨by show B ≤ w.heap.size + 1; omega, by show ¬ w.heap.size + 1 = g; omega⟩ _).set (p := ⟨w.heap.size + 1, 1, none⟩) ⟨by show B ≤ w.heap.size + 1; omega, by show ¬ w.heap.size + 1 = g; omega⟩ _).set (p := ⟨w.heap.size + 1, 2, none⟩) ⟨by show B ≤ w.heap.size + 1; omega, by show ¬ w.heap.size + 1 = g; omega⟩ _).set (p := ⟨w.heap.size + 1, 3, none⟩) ⟨by show B ≤ w.heap.size + 1; omega, by show ¬ w.heap.size + 1 = g; omega⟩ _)
        have hgrs : w.grownBy ws (some g) := by rw [hws]; exact (grown_setCell (grown_setCell (grown_setCell (grown_setCell hgrc (p := ⟨w.heap.size + 1, 0, none⟩) (by show w.heap.size ≤ w.heap.size + 1; omega) _) (p := ⟨w.heap.size + 1, 1, none⟩) (by show w.heap.size ≤ w.heap.size + 1; omega) _) (p := ⟨w.heap.size + 1, 2, none⟩) (by show w.heap.size ≤ w.heap.size + 1; omega) _) (p := ⟨w.heap.size + 1, 3, none⟩) (by show w.heap.size ≤ w.heap.size + 1; omega) _)
        have hos : OwnT ws (w.heap.size + 1 + 1) 40 7 u5 (evT evs) := hoc.kept (fun q hq _ => ex q (by omega))
        have hess : ES ws wb.heap.size wc.heap.size (.slice A2 n2 c2) m'.es := hec.kept (fun q hq _ => ex q (by omega))
        rw [show wc.heap.size = ws.heap.size from hzs.symm] at hess
        obtain ⟨w5, hw5⟩ : ∃ w5, w5 = ws.alloc (.cells #[.slice A2 n2 c2, .int .i64 m'.a, .int .i64 m'.b, .int .i64 m'.z] 25) := ⟨_, rfl⟩
        have bm : Below ws.heap.size ws w5 := by rw [hw5]; exact (Below.refl _ _).alloc (Nat.le_refl _) _
        replace c00 := keepB bm c00; replace c01 := keepB bm c01; replace c02 := keepB bm c02; replace c03 := keepB bm c03; replace d10 := keepB bm d10; replace d11 := keepB bm d11; replace d12 := keepB bm d12; replace d13 := keepB bm d13; replace x0 := keepB bm x0; replace x1 := keepB bm x1; replace x2 := keepB bm x2; replace x3 := keepB bm x3; replace x4 := keepB bm x4; replace x5 := keepB bm x5; replace x6 := keepB bm x6
        replace f00 := keepF bm (by first | (simp; done) | (simp; omega)) f00; replace f01 := keepF bm (by first | (simp; done) | (simp; omega)) f01; replace f02 := keepF bm (by first | (simp; done) | (simp; omega)) f02; replace f03 := keepF bm (by first | (simp; done) | (simp; omega)) f03; replace fd0 := keepF bm (by first | (simp; done) | (simp; omega)) fd0; replace fd1 := keepF bm (by first | (simp; done) | (simp; omega)) fd1; replace fd2 := keepF bm (by first | (simp; done) | (simp; omega)) fd2; replace fd3 := keepF bm (by first | (simp; done) | (simp; omega)) fd3
        have hr5 := hrs.below bm
        have hgr5 := grown_trans hgrs (grown_below bm (some g))
        have ho5 := hos.kept (.of_below bm (Nat.le_refl _))
        have He5 := Lib.hid (hess.below bm (Nat.le_refl _))
        have hz5b : ws.heap.size < w5.heap.size := by rw [hw5]; simp
        have hzs2 : wc.heap.size ≤ ws.heap.size := by omega
        rw [← hws, ← hw5]
        have HZs := Lib.hid hzs
        clear hw5 hws ex bm hrc hgrc hoc hec c10 c11 c12 c13 f10 f11 f12 f13 hrs hgrs hos hess hzs
        have Hoe := Lib.hid ho5
        have hel : (evT evs).length ≤ 20 := by rw [evT_len]; omega
        go_wp2_with (at_builtin; refine wpList_appendT2 SlEvent _ rfl (.tmp 30) (.tmp 32) rfl [ek, elb, el, er, ef, et, eg] _ rfl (w.heap.size + 1 + 1) _ _ rfl rfl Hoe.out ⟨rfl, i64_7 h64⟩ (by omega) (by omega) (by omega) ?_; intro v6 w6 ho6 hg6 hb6; have bA := hg6.below; replace c00 := keepC bA (by first | (simp; done) | (simp; omega)) c00; replace c01 := keepC bA (by first | (simp; done) | (simp; omega)) c01; replace c02 := keepC bA (by first | (simp; done) | (simp; omega)) c02; replace c03 := keepC bA (by first | (simp; done) | (simp; omega)) c03; replace d10 := keepC bA (by first | (simp; done) | (simp; omega)) d10; replace d11 := keepC bA (by first | (simp; done) | (simp; omega)) d11; replace d12 := keepC bA (by first | (simp; done) | (simp; omega)) d12; replace d13 := keepC bA (by first | (simp; done) | (simp; omega)) d13; replace f00 := keepF bA (by first | (simp; done) | (simp; omega)) f00; replace f01 := keepF bA (by first | (simp; done) | (simp; omega)) f01; replace f02 := keepF bA (by first | (simp; done) | (simp; omega)) f02; replace f03 := keepF bA (by first | (simp; done) | (simp; omega)) f03; replace fd0 := keepF bA (by first | (simp; done) | (simp; omega)) fd0; replace fd1 := keepF bA (by first | (simp; done) | (simp; omega)) fd1; replace fd2 := keepF bA (by first | (simp; done) | (simp; omega)) fd2; replace fd3 := keepF bA (by first | (simp; done) | (simp; omega)) fd3)
        go_roundw
        case rel => exact ⟨n1, k2, evs ++ [⟨ek, elb, el, er, ef, et, eg⟩], m', wb.heap.size, ws.heap.size, _, by go_num, by rw [List.length_append]; simp; omega, by omega, hr5.grew hg6 (by omega), by rw [evT_snoc]; exact ho6, HR2, HK2, He5.out.kept (fun q h1 h2 => hg6.other q (by omega) (fun e => by have := (Hlt.out q e.symm).2; omega)), by omega, by have := hg6.size; omega, Lib.hid (fun q hq => by rcases hb6 with e | e; exact .inl (by have := (Hlt.out q (e ▸ hq)).2; omega); exact .inr (by rw [e] at hq; injection hq with hq; omega)), grown_then hgr5 bA (by omega), by have := hg6.size; omega, ⟨d10, d11, d12, d13⟩, ⟨fd0, fd1, fd2, fd3⟩, ⟨c00, c01, c02, c03⟩, ⟨f00, f01, f02, f03⟩⟩
        case measure => simp [intOf]
    · obtain rfl : n = 0 := by omega
      have hr9 := hr.drew
      have HOut := Lib.hid ho
      have HEs := Lib.hid hes
      have hnPS : ¬ w.heap.size = w.heap.size + 1 := by omega
      have hnPS2 : ¬ w.heap.size + 1 = w.heap.size := by omega
      go_wp2_with fail
      refine wp_region_held_drew (S := fun w' => w'.cell? ⟨w.heap.size + 1, 0, none⟩ = some (.slice A m.es.length c) ∧ w'.cell? ⟨w.heap.size + 1, 1, none⟩ = some (.int .i64 (m.a)) ∧ w'.cell? ⟨w.heap.size + 1, 2, none⟩ = some (.int .i64 (m.b)) ∧ w'.cell? ⟨w.heap.size + 1, 3, none⟩ = some (.int .i64 (m.z))) (by kernel_rfl) ?_ (fun hHeld => ?_)
      · (first | (try dsimp only); go_keep | (go_split_ands; refine ⟨?_, ?_, ?_, ?_⟩ <;> first | exact keepW bg1 (by first | (simp; done) | (simp; omega)) (by assumption) | assumption))
      refine tkW 0 34 rfl rfl (by kernel_rfl) hHeld (by intro w hSw; (try dsimp only at hSw); go_simp; try with_reducible rfl) ?_ (fun _ _ _ h => h)
      simp only [Act.put, lyA, lyB, lyC]
      refine tkW 1 35 rfl rfl (by kernel_rfl) hHeld (by intro w hSw; (try dsimp only at hSw); go_simp; try with_reducible rfl) ?_ (fun _ _ _ h => h)
      simp only [Act.put, lyA, lyB, lyC]
      refine tkW 2 2 rfl rfl (by kernel_rfl) hHeld (by intro w hSw; (try dsimp only at hSw); go_simp; try with_reducible rfl) ?_ (fun _ _ _ h => h)
      simp only [Act.put, lyA, lyB, lyC]
      refine wpAnyH_ready (rs := [3]) (by kernel_rfl) (by simp) ?_
      refine AllReadyH.cons (o := ⟨none, _, _, _, _, _⟩) rfl (fun K hK => ?_) AllReadyH.nil
      go_simp
      refine hK.out _ _ ?_ (fun hHeld2 => ?_)
      · (first | (try dsimp only); go_keep | (go_split_ands; refine ⟨?_, ?_, ?_, ?_⟩ <;> first | exact keepW bg1 (by first | (simp; done) | (simp; omega)) (by assumption) | assumption))
      clear hK K hHeld
      have hHeld := hHeld2
      clear hHeld2
      try simp only [Act.put, lyA, lyB, lyC]
      refine wpAnyH_done (by kernel_rfl) ?_ _
      obtain ⟨A5, c5, rfl, _⟩ := ho.form
      obtain ⟨wq, hwq⟩ : ∃ wq, wq = ((((wr.setCell ⟨w.heap.size, 0, none⟩ (.slice A m.es.length c)).setCell ⟨w.heap.size, 1, none⟩ (.int .i64 m.a)).setCell ⟨w.heap.size, 2, none⟩ (.int .i64 m.b)).setCell ⟨w.heap.size, 3, none⟩ (.int .i64 m.z)) := ⟨_, rfl⟩
      have hrq : Rdr wq B k' g (.pointer gg) := by rw [hwq]; exact ((((hr.set (p := ⟨w.heap.size, 0, none⟩) ⟨by show B ≤ w.heap.size; omega, by show ¬ w.heap.size = g; omega⟩ _).set (p := ⟨w.heap.size, 1, none⟩) ⟨by show B ≤ w.heap.size; omega, by show ¬ w.heap.size = g; omega⟩ _).set (p := ⟨w.heap.size, 2, none⟩) ⟨by show B ≤ w.heap.size; omega, by show ¬ w.heap.size = g; omega⟩ _).set (p := ⟨w.heap.size, 3, none⟩) ⟨by show B ≤ w.heap.size; omega, by show ¬ w.heap.size = g; omega⟩ _)
      have hgq : w.grownBy wq (some g) := by rw [hwq]; exact (grown_setCell (grown_setCell (grown_setCell (grown_setCell hgr (p := ⟨w.heap.size, 0, none⟩) (by show w.heap.size ≤ w.heap.size; omega) _) (p := ⟨w.heap.size, 1, none⟩) (by show w.heap.size ≤ w.heap.size; omega) _) (p := ⟨w.heap.size, 2, none⟩) (by show w.heap.size ≤ w.heap.size; omega) _) (p := ⟨w.heap.size, 3, none⟩) (by show w.heap.size ≤ w.heap.size; omega) _)
      have hoq : OwnT wq (w.heap.size + 1 + 1) 40 7 (.slice A5 (evT evs).length c5) (evT evs) := by rw [hwq]; exact ((((HOut.out.setBelow (p := ⟨w.heap.size, 0, none⟩) (by show w.heap.size < _; omega) _).setBelow (p := ⟨w.heap.size, 1, none⟩) (by show w.heap.size < _; omega) _).setBelow (p := ⟨w.heap.size, 2, none⟩) (by show w.heap.size < _; omega) _).setBelow (p := ⟨w.heap.size, 3, none⟩) (by show w.heap.size < _; omega) _)
      have heq : ES wq lo hi (.slice A m.es.length c) m.es := by rw [hwq]; exact HEs.out.kept (fun q hq _ => by simp only [World.setCell, Array.getElem?_modify, if_neg (show ¬ w.heap.size = q by omega)])
      have hzq : wr.heap.size ≤ wq.heap.size := by rw [hwq]; simp [World.setCell]
      have e00 : wq.cell? ⟨w.heap.size, 0, none⟩ = some (.slice A m.es.length c) := by rw [hwq]; go_simp
      have e01 : wq.cell? ⟨w.heap.size, 1, none⟩ = some (.int .i64 m.a) := by rw [hwq]; go_simp
      have e02 : wq.cell? ⟨w.heap.size, 2, none⟩ = some (.int .i64 m.b) := by rw [hwq]; go_simp
      have e03 : wq.cell? ⟨w.heap.size, 3, none⟩ = some (.int .i64 m.z) := by rw [hwq]; go_simp
      rw [← hwq]
      clear hwq hHeld c00 c01 c02 c03 c10 c11 c12 c13 f00 f01 f02 f03 f10 f11 f12 f13 hr hgr ho hes hr9 HOut HEs
      go_wp2
      refine bodyPost_ret (v := .tuple #[.slice A5 (evT evs).length c5, .agg #[.slice A m.es.length c, .int .i64 m.a, .int .i64 m.b, .int .i64 m.z]]) (by simp [results, Tryz.results55, go_sem, *]) rfl ⟨_, _, evs, m, k', rfl, OwnT.base hoq (by omega), ?_, HR.out, HK.out, by omega, by omega, hrq, ⟨hgq.os, hgq.tape, hgq.output, hgq.size, hgq.block⟩⟩
      show ES wq w.heap.size wq.heap.size _ _
      exact (heq.wide (by omega) (by omega))
end Go.Proofs.YtkgepklapglmdaaGreatDoor

namespace Go.Proofs.YtkgepklapglmdaaGreatDoor
open Go.RowKit
attribute [local go_sem ↓] Go.wp_at_zero Go.wp_at_succ

/-- a mill that was drawn -/
def AmPost (B k n g : Nat) (v : Value) (w : World) (e : Ending) (w' : World) : Prop :=
  ∃ (u : Value) (es : List Ent) (a b z : Int) (k2 : Nat), e = .returned (.agg #[u, .int .i64 a, .int .i64 b, .int .i64 z]) ∧ ES w' w.heap.size w'.heap.size u es ∧ ((-1 ≤ a ∧ a ≤ 900001) ∧ (-1 ≤ b ∧ b ≤ 900001) ∧ (-1 ≤ z ∧ z ≤ 900001)) ∧
    es.length ≤ 12 ∧ (∀ j, j < es.length → vEnt (ge es j) = true) ∧ k2 ≤ k + n ∧ Rdr w' B k2 g v ∧ w.grownBy w' (some g)
set_option maxRecDepth 100000 in
set_option maxHeartbeats 4000000 in
theorem anyMill_any (B k g : Nat) (v : Value) (w : World) (h : Rdr w B k g v) (hk : k ≤ 500000) :
    Calls Tryz.prog 24 #[v] w fun e w' => AmPost B k 323 g v w e w' := by
  have hg0 := h.lt
  have hva : ∃ gg, v = .pointer gg := by obtain ⟨_, _, _, _, e, _⟩ := h; exact ⟨_, e⟩
  obtain ⟨gg, rfl⟩ := hva
  have hr1 : ∀ w1, Below w.heap.size w w1 → Rdr w1 B k g (.pointer gg) := fun w1 hb => h.below hb
  have Hs := Lib.hid (show ∃ w1, w1 = (w.alloc (.cells #[.slice none 0 0, .int .i64 0, .int .i64 0, .int .i64 0] 25)) ∧ Below w.heap.size w w1 ∧ w1.cell? ⟨w.heap.size, 0, none⟩ = some (.slice none 0 0) ∧ w1.cell? ⟨w.heap.size, 1, none⟩ = some (.int .i64 0) ∧ w1.cell? ⟨w.heap.size, 2, none⟩ = some (.int .i64 0) ∧ w1.cell? ⟨w.heap.size, 3, none⟩ = some (.int .i64 0) ∧ w1.frozen? ⟨w.heap.size, 0, none⟩ = false ∧ w1.frozen? ⟨w.heap.size, 1, none⟩ = false ∧ w1.frozen? ⟨w.heap.size, 2, none⟩ = false ∧ w1.frozen? ⟨w.heap.size, 3, none⟩ = false ∧ w.heap.size < w1.heap.size from by
    have hb : Below w.heap.size w (w.alloc (.cells #[.slice none 0 0, .int .i64 0, .int .i64 0, .int .i64 0] 25)) := (Below.refl _ _).alloc (Nat.le_refl _) _
    exact ⟨_, rfl, hb, by go_simp, by go_simp, by go_simp, by go_simp, by go_simp, by go_simp, by go_simp, by go_simp, by simp⟩)
  go_enter Tryz.func24, Tryz.ntmps24
  go_wp2_with fail
  obtain ⟨w1, hw1, hb0, c00, c01, c02, c03, f00, f01, f02, f03, hz⟩ := Hs.out
  have HZ := Lib.hid (show w1.heap.size = w.heap.size + 1 by rw [hw1]; simp)
  rw [← hw1]
  clear hw1 Hs
  have hr2 := hr1 w1 hb0
  have hgr2 := grown_below hb0 (some g)
  clear hr1 h hb0
  refine (someBook_any B k g _ w1 hr2 (by omega)).mono ?_
  rintro e w2 ⟨vs, u, evs, m, k2, rfl, hov, hes, _, hok, _, hk2, hr3, bg⟩
  obtain ⟨A, c, rfl, hc, hm⟩ := hes.form
  obtain ⟨A5, c5, rfl, _⟩ := hov.form
  replace c00 := keepW bg (by first | (simp; done) | (simp; omega)) c00; replace c01 := keepW bg (by first | (simp; done) | (simp; omega)) c01; replace c02 := keepW bg (by first | (simp; done) | (simp; omega)) c02; replace c03 := keepW bg (by first | (simp; done) | (simp; omega)) c03
  replace f00 := keepWF bg (by first | (simp; done) | (simp; omega)) f00; replace f01 := keepWF bg (by first | (simp; done) | (simp; omega)) f01; replace f02 := keepWF bg (by first | (simp; done) | (simp; omega)) f02; replace f03 := keepWF bg (by first | (simp; done) | (simp; omega)) f03
  have hgr3 := grown_trans hgr2 bg
  have hz2 : w.heap.size < w2.heap.size := by have := bg.size; omega
  have hz12 : w1.heap.size ≤ w2.heap.size := bg.size
  have hvm := vMill_iff.1 hok
  have hl12 := hvm.2.1
  have Hv := Lib.hid (fun j hj => (hvm.1 j hj).1)
  have ha := hvm.2.2.1
  have hb := hvm.2.2.2.1
  have hz' := hvm.2.2.2.2.1
  clear hvm hok hov bg hr2 hgr2
  go_wp2_with fail
  obtain ⟨w3, hw1⟩ : ∃ w3, w3 = w2.alloc (.cells #[.slice A m.es.length c, .int .i64 (m.a), .int .i64 (m.b), .int .i64 (m.z)] 25) := ⟨_, rfl⟩
  have x0 : w3.cell? ⟨w2.heap.size, 0, none⟩ = some (.slice A m.es.length c) := by rw [hw1]; go_simp
  have x1 : w3.cell? ⟨w2.heap.size, 1, none⟩ = some (.int .i64 (m.a)) := by rw [hw1]; go_simp
  have x2 : w3.cell? ⟨w2.heap.size, 2, none⟩ = some (.int .i64 (m.b)) := by rw [hw1]; go_simp
  have x3 : w3.cell? ⟨w2.heap.size, 3, none⟩ = some (.int .i64 (m.z)) := by rw [hw1]; go_simp
  have bx : Below w2.heap.size w2 w3 := by rw [hw1]; exact (Below.refl _ _).alloc (Nat.le_refl _) _
  have zx : w2.heap.size < w3.heap.size := by rw [hw1]; simp
  have HZx := Lib.hid (show w3.heap.size = w2.heap.size + 1 by rw [hw1]; simp)
  have fx0 : w3.frozen? ⟨w2.heap.size, 0, none⟩ = false := by rw [hw1]; go_simp
  have fx1 : w3.frozen? ⟨w2.heap.size, 1, none⟩ = false := by rw [hw1]; go_simp
  have fx2 : w3.frozen? ⟨w2.heap.size, 2, none⟩ = false := by rw [hw1]; go_simp
  have fx3 : w3.frozen? ⟨w2.heap.size, 3, none⟩ = false := by rw [hw1]; go_simp
  have Hx := Lib.hid (show w3.heap[w2.heap.size]? = some (.cells #[.slice A m.es.length c, .int .i64 (m.a), .int .i64 (m.b), .int .i64 (m.z)] 25) by rw [hw1]; exact heap_alloc_new w2 _)
  rw [← hw1]
  clear hw1
  have hr4 := hr3.below bx
  have hgr4 := grown_trans hgr3 (grown_below bx (some g))
  have he4 := hes.below bx (Nat.le_refl _)
  replace c00 := keepB bx c00; replace c01 := keepB bx c01; replace c02 := keepB bx c02; replace c03 := keepB bx c03
  replace f00 := keepF bx (by first | (simp; done) | (simp; omega)) f00; replace f01 := keepF bx (by first | (simp; done) | (simp; omega)) f01; replace f02 := keepF bx (by first | (simp; done) | (simp; omega)) f02; replace f03 := keepF bx (by first | (simp; done) | (simp; omega)) f03
  obtain ⟨X, hX⟩ : ∃ X, X = w2.heap.size := ⟨_, rfl⟩
  rw [← hX] at x0 x1 x2 x3 fx0 fx1 fx2 fx3 zx he4 hz2 hz12
  rw [← hX]
  have HX := Lib.hid hX
  clear bx hr3 hgr3 hes Hx HZx hX
  refine (pick_any B k2 g _ 20 w3 hr4 (by omega) (by omega)).mono ?_
  rintro e w4 ⟨q, rfl, hm9, hr5, bo9⟩
  have q_r := hm9.rng (m := 20) (by omega) (by omega)
  replace c00 := keepO bo9 (by first | (simp; done) | (simp; omega)) c00; replace c01 := keepO bo9 (by first | (simp; done) | (simp; omega)) c01; replace c02 := keepO bo9 (by first | (simp; done) | (simp; omega)) c02; replace c03 := keepO bo9 (by first | (simp; done) | (simp; omega)) c03; replace x0 := keepO bo9 (by first | (simp; done) | (simp; omega)) x0; replace x1 := keepO bo9 (by first | (simp; done) | (simp; omega)) x1; replace x2 := keepO bo9 (by first | (simp; done) | (simp; omega)) x2; replace x3 := keepO bo9 (by first | (simp; done) | (simp; omega)) x3
  replace f00 := keepOF bo9 (by first | (simp; done) | (simp; omega)) f00; replace f01 := keepOF bo9 (by first | (simp; done) | (simp; omega)) f01; replace f02 := keepOF bo9 (by first | (simp; done) | (simp; omega)) f02; replace f03 := keepOF bo9 (by first | (simp; done) | (simp; omega)) f03; replace fx0 := keepOF bo9 (by first | (simp; done) | (simp; omega)) fx0; replace fx1 := keepOF bo9 (by first | (simp; done) | (simp; omega)) fx1; replace fx2 := keepOF bo9 (by first | (simp; done) | (simp; omega)) fx2; replace fx3 := keepOF bo9 (by first | (simp; done) | (simp; omega)) fx3
  have hgr5 := grown_trans hgr4 (grown_only bo9)
  have he5 := he4.kept (bo9.kept (.inr (by omega)))
  have hz4 : X < w4.heap.size := by have := bo9.size; omega
  have hz4b : w.heap.size < w4.heap.size := by omega
  have hPX : ¬ w.heap.size = X := by omega
  have hPX2 : ¬ X = w.heap.size := by omega
  have hXg : ¬ X = g := by omega
  clear bo9 hm9 hr4 hgr4 he4
  by_cases hq0 : q = 0
  · have e0 : (q == 0) = true := beq_t hq0
    clear hq0
    obtain ⟨wq, hwq⟩ : ∃ wq, wq = (((((w4.setCell ⟨X, 1, none⟩ (.int .i64 (m.a + 1))).setCell ⟨w.heap.size, 0, none⟩ (.slice A m.es.length c)).setCell ⟨w.heap.size, 1, none⟩ (.int .i64 (m.a + 1))).setCell ⟨w.heap.size, 2, none⟩ (.int .i64 m.b)).setCell ⟨w.heap.size, 3, none⟩ (.int .i64 m.z)) := ⟨_, rfl⟩
    have Hrq := Lib.hid (show Rdr wq B (k2 + 1) g (.pointer gg) by rw [hwq]; exact (((((hr5.set (p := ⟨X, 1, none⟩) ⟨by show B ≤ X; omega, by show ¬ X = g; omega⟩ _).set (p := ⟨w.heap.size, 0, none⟩) ⟨by show B ≤ w.heap.size; omega, by show ¬ w.heap.size = g; omega⟩ _).set (p := ⟨w.heap.size, 1, none⟩) ⟨by show B ≤ w.heap.size; omega, by show ¬ w.heap.size = g; omega⟩ _).set (p := ⟨w.heap.size, 2, none⟩) ⟨by show B ≤ w.heap.size; omega, by show ¬ w.heap.size = g; omega⟩ _).set (p := ⟨w.heap.size, 3, none⟩) ⟨by show B ≤ w.heap.size; omega, by show ¬ w.heap.size = g; omega⟩ _))
    have Hgq := Lib.hid (show w.grownBy wq (some g) by rw [hwq]; exact (grown_setCell (grown_setCell (grown_setCell (grown_setCell (grown_setCell hgr5 (p := ⟨X, 1, none⟩) (by show w.heap.size ≤ X; omega) _) (p := ⟨w.heap.size, 0, none⟩) (by show w.heap.size ≤ w.heap.size; omega) _) (p := ⟨w.heap.size, 1, none⟩) (by show w.heap.size ≤ w.heap.size; omega) _) (p := ⟨w.heap.size, 2, none⟩) (by show w.heap.size ≤ w.heap.size; omega) _) (p := ⟨w.heap.size, 3, none⟩) (by show w.heap.size ≤ w.heap.size; omega) _))
    have Heq := Lib.hid (show ES wq w1.heap.size X (.slice A m.es.length c) m.es by rw [hwq]; exact (((((he5.setFar (p := ⟨X, 1, none⟩) (.inr (Nat.le_refl _)) _).setFar (p := ⟨w.heap.size, 0, none⟩) (.inl (by show w.heap.size < _; omega)) _).setFar (p := ⟨w.heap.size, 1, none⟩) (.inl (by show w.heap.size < _; omega)) _).setFar (p := ⟨w.heap.size, 2, none⟩) (.inl (by show w.heap.size < _; omega)) _).setFar (p := ⟨w.heap.size, 3, none⟩) (.inl (by show w.heap.size < _; omega)) _))
    have Hzq := Lib.hid (show w4.heap.size ≤ wq.heap.size by rw [hwq]; simp [World.setCell])
    have Hwq := Lib.hid hwq
    clear hwq
    go_wp2
    refine bodyPost_ret (v := .agg #[.slice A m.es.length c, .int .i64 (m.a + 1), .int .i64 m.b, .int .i64 m.z]) (by simp [results, Tryz.results24, go_sem, *]) rfl ?_
    rw [← Hwq.out]
    exact ⟨_, m.es, _, _, _, k2 + 1, rfl, Heq.out.wide (by omega) (by have := Hzq.out; omega), ⟨⟨by omega, by omega⟩, ⟨by omega, by omega⟩, ⟨by omega, by omega⟩⟩, hl12, Hv.out, by omega, Hrq.out, Hgq.out⟩
  · have e0 : (q == 0) = false := beq_f hq0
    clear hq0
    by_cases hq1 : q = 1
    · have e1 : (q == 1) = true := beq_t hq1
      clear hq1
      go_wp2_with fail
      refine (one_lit B (k2 + 1) g _ [-1, 900001] w4 _ _ _ hr5 (by omega) rfl rfl rfl (by simp) (by simp) (by unfold I64; simp)).mono ?_
      rintro e w5 ⟨y, rfl, hy, hr6, bg⟩
      have y_r : -1 ≤ y ∧ y ≤ 900001 := by simp only [List.mem_cons, List.not_mem_nil, or_false] at hy; omega
      replace c00 := keepW bg (by first | (simp; done) | (simp; omega)) c00; replace c01 := keepW bg (by first | (simp; done) | (simp; omega)) c01; replace c02 := keepW bg (by first | (simp; done) | (simp; omega)) c02; replace c03 := keepW bg (by first | (simp; done) | (simp; omega)) c03; replace x0 := keepW bg (by first | (simp; done) | (simp; omega)) x0; replace x1 := keepW bg (by first | (simp; done) | (simp; omega)) x1; replace x2 := keepW bg (by first | (simp; done) | (simp; omega)) x2; replace x3 := keepW bg (by first | (simp; done) | (simp; omega)) x3
      replace f00 := keepWF bg (by first | (simp; done) | (simp; omega)) f00; replace f01 := keepWF bg (by first | (simp; done) | (simp; omega)) f01; replace f02 := keepWF bg (by first | (simp; done) | (simp; omega)) f02; replace f03 := keepWF bg (by first | (simp; done) | (simp; omega)) f03; replace fx0 := keepWF bg (by first | (simp; done) | (simp; omega)) fx0; replace fx1 := keepWF bg (by first | (simp; done) | (simp; omega)) fx1; replace fx2 := keepWF bg (by first | (simp; done) | (simp; omega)) fx2; replace fx3 := keepWF bg (by first | (simp; done) | (simp; omega)) fx3
      have hgr6 := grown_trans hgr5 bg
      have he6 := he5.kept (Kept.of_grown bg (by omega) (.inl (by omega)))
      have hz5 : X < w5.heap.size := by have := bg.size; omega
      clear bg hy hr5 hgr5 he5
      obtain ⟨wq, hwq⟩ : ∃ wq, wq = (((((w5.setCell ⟨X, 3, none⟩ (.int .i64 y)).setCell ⟨w.heap.size, 0, none⟩ (.slice A m.es.length c)).setCell ⟨w.heap.size, 1, none⟩ (.int .i64 m.a)).setCell ⟨w.heap.size, 2, none⟩ (.int .i64 m.b)).setCell ⟨w.heap.size, 3, none⟩ (.int .i64 y)) := ⟨_, rfl⟩
      have Hrq := Lib.hid (show Rdr wq B (k2 + 1 + 1) g (.pointer gg) by rw [hwq]; exact (((((hr6.set (p := ⟨X, 3, none⟩) ⟨by show B ≤ X; omega, by show ¬ X = g; omega⟩ _).set (p := ⟨w.heap.size, 0, none⟩) ⟨by show B ≤ w.heap.size; omega, by show ¬ w.heap.size = g; omega⟩ _).set (p := ⟨w.heap.size, 1, none⟩) ⟨by show B ≤ w.heap.size; omega, by show ¬ w.heap.size = g; omega⟩ _).set (p := ⟨w.heap.size, 2, none⟩) ⟨by show B ≤ w.heap.size; omega, by show ¬ w.heap.size = g; omega⟩ _).set (p := ⟨w.heap.size, 3, none⟩) ⟨by show B ≤ w.heap.size; omega, by show ¬ w.heap.size = g; omega⟩ _))
      have Hgq := Lib.hid (show w.grownBy wq (some g) by rw [hwq]; exact (grown_setCell (grown_setCell (grown_setCell (grown_setCell (grown_setCell hgr6 (p := ⟨X, 3, none⟩) (by show w.heap.size ≤ X; omega) _) (p := ⟨w.heap.size, 0, none⟩) (by show w.heap.size ≤ w.heap.size; omega) _) (p := ⟨w.heap.size, 1, none⟩) (by show w.heap.size ≤ w.heap.size; omega) _) (p := ⟨w.heap.size, 2, none⟩) (by show w.heap.size ≤ w.heap.size; omega) _) (p := ⟨w.heap.size, 3, none⟩) (by show w.heap.size ≤ w.heap.size; omega) _))
      have Heq := Lib.hid (show ES wq w1.heap.size X (.slice A m.es.length c) m.es by rw [hwq]; exact (((((he6.setFar (p := ⟨X, 3, none⟩) (.inr (Nat.le_refl _)) _).setFar (p := ⟨w.heap.size, 0, none⟩) (.inl (by show w.heap.size < _; omega)) _).setFar (p := ⟨w.heap.size, 1, none⟩) (.inl (by show w.heap.size < _; omega)) _).setFar (p := ⟨w.heap.size, 2, none⟩) (.inl (by show w.heap.size < _; omega)) _).setFar (p := ⟨w.heap.size, 3, none⟩) (.inl (by show w.heap.size < _; omega)) _))
      have Hzq := Lib.hid (show w5.heap.size ≤ wq.heap.size by rw [hwq]; simp [World.setCell])
      have Hwq := Lib.hid hwq
      clear hwq
      go_wp2
      refine bodyPost_ret (v := .agg #[.slice A m.es.length c, .int .i64 m.a, .int .i64 m.b, .int .i64 y]) (by simp [results, Tryz.results24, go_sem, *]) rfl ?_
      rw [← Hwq.out]
      exact ⟨_, m.es, _, _, _, k2 + 1 + 1, rfl, Heq.out.wide (by omega) (by have := Hzq.out; omega), ⟨⟨by omega, by omega⟩, ⟨by omega, by omega⟩, ⟨by omega, by omega⟩⟩, hl12, Hv.out, by omega, Hrq.out, Hgq.out⟩
    · have e1 : (q == 1) = false := beq_f hq1
      clear hq1
      obtain ⟨wq, hwq⟩ : ∃ wq, wq = ((((w4.setCell ⟨w.heap.size, 0, none⟩ (.slice A m.es.length c)).setCell ⟨w.heap.size, 1, none⟩ (.int .i64 m.a)).setCell ⟨w.heap.size, 2, none⟩ (.int .i64 m.b)).setCell ⟨w.heap.size, 3, none⟩ (.int .i64 m.z)) := ⟨_, rfl⟩
      have Hrq := Lib.hid (show Rdr wq B (k2 + 1) g (.pointer gg) by rw [hwq]; exact ((((hr5.set (p := ⟨w.heap.size, 0, none⟩) ⟨by show B ≤ w.heap.size; omega, by show ¬ w.heap.size = g; omega⟩ _).set (p := ⟨w.heap.size, 1, none⟩) ⟨by show B ≤ w.heap.size; omega, by show ¬ w.heap.size = g; omega⟩ _).set (p := ⟨w.heap.size, 2, none⟩) ⟨by show B ≤ w.heap.size; omega, by show ¬ w.heap.size = g; omega⟩ _).set (p := ⟨w.heap.size, 3, none⟩) ⟨by show B ≤ w.heap.size; omega, by show ¬ w.heap.size = g; omega⟩ _))
      have Hgq := Lib.hid (show w.grownBy wq (some g) by rw [hwq]; exact (grown_setCell (grown_setCell (grown_setCell (grown_setCell hgr5 (p := ⟨w.heap.size, 0, none⟩) (by show w.heap.size ≤ w.heap.size; omega) _) (p := ⟨w.heap.size, 1, none⟩) (by show w.heap.size ≤ w.heap.size; omega) _) (p := ⟨w.heap.size, 2, none⟩) (by show w.heap.size ≤ w.heap.size; omega) _) (p := ⟨w.heap.size, 3, none⟩) (by show w.heap.size ≤ w.heap.size; omega) _))
      have Heq := Lib.hid (show ES wq w1.heap.size X (.slice A m.es.length c) m.es by rw [hwq]; exact ((((he5.setFar (p := ⟨w.heap.size, 0, none⟩) (.inl (by show w.heap.size < _; omega)) _).setFar (p := ⟨w.heap.size, 1, none⟩) (.inl (by show w.heap.size < _; omega)) _).setFar (p := ⟨w.heap.size, 2, none⟩) (.inl (by show w.heap.size < _; omega)) _).setFar (p := ⟨w.heap.size, 3, none⟩) (.inl (by show w.heap.size < _; omega)) _))
      have Hzq := Lib.hid (show w4.heap.size ≤ wq.heap.size by rw [hwq]; simp [World.setCell])
      have Hwq := Lib.hid hwq
      clear hwq
      go_wp2
      refine bodyPost_ret (v := .agg #[.slice A m.es.length c, .int .i64 m.a, .int .i64 m.b, .int .i64 m.z]) (by simp [results, Tryz.results24, go_sem, *]) rfl ?_
      rw [← Hwq.out]
      exact ⟨_, m.es, _, _, _, k2 + 1, rfl, Heq.out.wide (by omega) (by have := Hzq.out; omega), ⟨⟨by omega, by omega⟩, ⟨by omega, by omega⟩, ⟨by omega, by omega⟩⟩, hl12, Hv.out, by omega, Hrq.out, Hgq.out⟩
end Go.Proofs.YtkgepklapglmdaaGreatDoor
