/-
  Lemmas and contracts of single functions of this program, used by the proofs of its laws: what each call returns and what becomes of memory. Conditions: the hypotheses of each theorem.
-/
import Derived.Test.YtlabekemifccaaaDoorMillH
import Derived.Test.YtlabekemifccaaaDoorDrw1
import Derived.Deep.DeepCutAuto
namespace Go.Proofs.YtlabekemifccaaaDoor
open Go.RowKit
attribute [local go_sem ↓] Go.wp_at_zero Go.wp_at_succ

/-- an event that was drawn -/
def EvPost (B k n g : Nat) (v : Value) (w : World) (e : Ending) (w' : World) : Prop :=
  ∃ (ev : Evt) (k2 : Nat), e = .returned (.agg #[.int .i64 ev.k, .int .i64 ev.lb, .int .i64 ev.l, .int .i64 ev.r, .int .i64 ev.f, .int .i64 ev.t, .int .i64 ev.g]) ∧ V64 ev ∧ k2 ≤ k + n ∧ Rdr w' B k2 g v ∧ w.grownBy w' (some g)
theorem ES.cellAt {w : World} {lo hi n c b o : Nat} {es : List Ent} (h : ES w lo hi (.slice (some ⟨b, o, none⟩) n c) es) {k : Nat} (hk : k < es.length) :
    ∃ Ad cd Ap cp, w.cell? ⟨b, o + k * 5, none⟩ = some (.int .i64 (ge es k).lb) ∧ w.cell? ⟨b, o + k * 5 + 1, none⟩ = some (.int .i64 (ge es k).W) ∧ w.cell? ⟨b, o + k * 5 + 2, none⟩ = some (.int .i64 (ge es k).L) ∧
      w.cell? ⟨b, o + k * 5 + 3, none⟩ = some (.slice Ad (ge es k).ds.length cd) ∧ w.cell? ⟨b, o + k * 5 + 4, none⟩ = some (.slice Ap (ge es k).ps.length cp) := by
  obtain ⟨b', o', Ad, cd, Ap, cp, e, _, _, e0, e1, e2, e3, e4, _⟩ := h.cell hk
  injection e with e1'
  injection e1' with h1 h2
  subst h1; subst h2
  exact ⟨Ad, cd, Ap, cp, e0, e1, e2, e3, e4⟩
theorem v64_mk {k lb l r f t g : Int} (h1 : I64 k) (h2 : I64 lb) (h3 : I64 l) (h4 : I64 r) (h5 : I64 f) (h6 : I64 t) (h7 : I64 g) : V64 ⟨k, lb, l, r, f, t, g⟩ := ⟨h1, h2, h3, h4, h5, h6, h7⟩
set_option maxRecDepth 100000 in
set_option maxHeartbeats 8000000 in
theorem someEvent_any (B k g lo hi : Nat) (v u : Value) (es : List Ent) (a b z : Int) (w : World) (h : Rdr w B k g v) (hk : k ≤ 700000) (he : ES w lo hi u es) (hhi : hi ≤ w.heap.size) (hgl : g < lo) (hl : es.length ≤ 12) (hv : ∀ j, j < es.length → vEnt (ge es j) = true) :
    Calls Tryd.prog 52 #[v, .agg #[u, .int .i64 a, .int .i64 b, .int .i64 z]] w fun e w' => EvPost B k 16 g v w e w' := by
  have hg0 := h.lt
  have hva : ∃ gg, v = .pointer gg := by obtain ⟨_, _, _, _, e, _⟩ := h; exact ⟨_, e⟩
  obtain ⟨gg, rfl⟩ := hva
  obtain ⟨A, c, rfl, hc, hm⟩ := he.form
  have hr1 : ∀ w1, Below w.heap.size w w1 → Rdr w1 B k g (.pointer gg) := fun w1 hb => h.below hb
  have hes : ∀ w1, Below w.heap.size w w1 → ES w1 lo hi (.slice A es.length c) es := fun w1 hb => he.below hb hhi
  have HV := Lib.hid hv
  clear hv
  have Hs := Lib.hid (show ∃ w1, w1 = ((w.alloc (.cells #[.slice A es.length c, .int .i64 a, .int .i64 b, .int .i64 z] 52)).alloc (.cells #[.int .i64 0, .int .i64 0, .int .i64 0, .int .i64 0, .int .i64 0, .int .i64 0, .int .i64 0] 29)) ∧ Below w.heap.size w w1 ∧ w1.cell? ⟨w.heap.size, 0, none⟩ = some (.slice A es.length c) ∧ w1.cell? ⟨w.heap.size, 1, none⟩ = some (.int .i64 a) ∧ w1.cell? ⟨w.heap.size, 2, none⟩ = some (.int .i64 b) ∧ w1.cell? ⟨w.heap.size, 3, none⟩ = some (.int .i64 z) ∧ w1.cell? ⟨w.heap.size + 1, 0, none⟩ = some (.int .i64 0) ∧ w1.cell? ⟨w.heap.size + 1, 1, none⟩ = some (.int .i64 0) ∧ w1.cell? ⟨w.heap.size + 1, 2, none⟩ = some (.int .i64 0) ∧ w1.cell? ⟨w.heap.size + 1, 3, none⟩ = some (.int .i64 0) ∧ w1.cell? ⟨w.heap.size + 1, 4, none⟩ = some (.int .i64 0) ∧ w1.cell? ⟨w.heap.size + 1, 5, none⟩ = some (.int .i64 0) ∧ w1.cell? ⟨w.heap.size + 1, 6, none⟩ = some (.int .i64 0) ∧ w1.frozen? ⟨w.heap.size + 1, 0, none⟩ = false ∧ w1.frozen? ⟨w.heap.size + 1, 1, none⟩ = false ∧ w1.frozen? ⟨w.heap.size + 1, 2, none⟩ = false ∧ w1.frozen? ⟨w.heap.size + 1, 3, none⟩ = false ∧ w1.frozen? ⟨w.heap.size + 1, 4, none⟩ = false ∧ w1.frozen? ⟨w.heap.size + 1, 5, none⟩ = false ∧ w1.frozen? ⟨w.heap.size + 1, 6, none⟩ = false ∧ w.heap.size + 1 < w1.heap.size from by
    have hb : Below w.heap.size w ((w.alloc (.cells #[.slice A es.length c, .int .i64 a, .int .i64 b, .int .i64 z] 52)).alloc (.cells #[.int .i64 0, .int .i64 0, .int .i64 0, .int .i64 0, .int .i64 0, .int .i64 0, .int .i64 0] 29)) := ((Below.refl _ _).alloc (Nat.le_refl _) _).alloc (by simp) _
    exact ⟨_, rfl, hb, by go_simp, by go_simp, by go_simp, by go_simp, by go_simp, by go_simp, by go_simp, by go_simp, by go_simp, by go_simp, by go_simp, by go_simp, by go_simp, by go_simp, by go_simp, by go_simp, by go_simp, by go_simp, by simp⟩)
  by_cases h0 : ¬ 0 < es.length
  · have hl0 : ((es.length : Int) == 0) = true := beq_t (by omega)
    go_enter Tryd.func52, Tryd.ntmps52
    go_wp2_with fail
    obtain ⟨w1, hw1, hb0, c00, c01, c02, c03, c10, c11, c12, c13, c14, c15, c16, f10, f11, f12, f13, f14, f15, f16, hz⟩ := Hs.out
    rw [← hw1]
    clear hw1 Hs
    have hr2 := hr1 w1 hb0
    have hgr2 := grown_below hb0 (some g)
    clear hes hr1 h he h0 hb0
    go_wp2_with fail
    refine (pick_any B (k) g _ 50 w1 hr2 (by omega) (by omega)).mono ?_
    rintro e wa ⟨q, rfl, hm9, hra, bo9⟩
    have q_r := hm9.rng (m := 50) (by omega) (by omega)
    replace c10 := keepO bo9 (by first | (simp; done) | (simp; omega)) c10; replace c11 := keepO bo9 (by first | (simp; done) | (simp; omega)) c11; replace c12 := keepO bo9 (by first | (simp; done) | (simp; omega)) c12; replace c13 := keepO bo9 (by first | (simp; done) | (simp; omega)) c13; replace c14 := keepO bo9 (by first | (simp; done) | (simp; omega)) c14; replace c15 := keepO bo9 (by first | (simp; done) | (simp; omega)) c15; replace c16 := keepO bo9 (by first | (simp; done) | (simp; omega)) c16
    replace f10 := keepOF bo9 (by first | (simp; done) | (simp; omega)) f10; replace f11 := keepOF bo9 (by first | (simp; done) | (simp; omega)) f11; replace f12 := keepOF bo9 (by first | (simp; done) | (simp; omega)) f12; replace f13 := keepOF bo9 (by first | (simp; done) | (simp; omega)) f13; replace f14 := keepOF bo9 (by first | (simp; done) | (simp; omega)) f14; replace f15 := keepOF bo9 (by first | (simp; done) | (simp; omega)) f15; replace f16 := keepOF bo9 (by first | (simp; done) | (simp; omega)) f16
    have hgra := grown_trans hgr2 (grown_only bo9)
    have hz_wa : w.heap.size + 1 < wa.heap.size := by have := bo9.size; omega
    clear bo9 hm9 hr2 hgr2
    go_wp2_with fail
    refine (one_lit B (k + 1) g _ [1 + q, 7, 9999] wa _ _ _ hra (by omega) rfl rfl rfl (by simp) (by simp) (fun x hx => by simp only [List.mem_cons, List.not_mem_nil, or_false] at hx; unfold I64; omega)).mono ?_
    rintro e wb ⟨lb, rfl, hm9, hrb, bg9⟩
    have lb_r : 1 ≤ lb ∧ lb ≤ 9999 := by simp only [List.mem_cons, List.not_mem_nil, or_false] at hm9; omega
    replace c10 := keepW bg9 (by first | (simp; done) | (simp; omega)) c10; replace c11 := keepW bg9 (by first | (simp; done) | (simp; omega)) c11; replace c12 := keepW bg9 (by first | (simp; done) | (simp; omega)) c12; replace c13 := keepW bg9 (by first | (simp; done) | (simp; omega)) c13; replace c14 := keepW bg9 (by first | (simp; done) | (simp; omega)) c14; replace c15 := keepW bg9 (by first | (simp; done) | (simp; omega)) c15; replace c16 := keepW bg9 (by first | (simp; done) | (simp; omega)) c16
    replace f10 := keepWF bg9 (by first | (simp; done) | (simp; omega)) f10; replace f11 := keepWF bg9 (by first | (simp; done) | (simp; omega)) f11; replace f12 := keepWF bg9 (by first | (simp; done) | (simp; omega)) f12; replace f13 := keepWF bg9 (by first | (simp; done) | (simp; omega)) f13; replace f14 := keepWF bg9 (by first | (simp; done) | (simp; omega)) f14; replace f15 := keepWF bg9 (by first | (simp; done) | (simp; omega)) f15; replace f16 := keepWF bg9 (by first | (simp; done) | (simp; omega)) f16
    have hgrb := grown_trans hgra bg9
    have hz_wb : w.heap.size + 1 < wb.heap.size := by have := bg9.size; omega
    clear bg9 hm9 hra hgra
    go_wp2_with fail
    refine (one_lit B (k + 1 + 1) g _ [12, 20, 6] wb _ _ _ hrb (by omega) rfl rfl rfl (by simp) (by simp) (fun x hx => by simp only [List.mem_cons, List.not_mem_nil, or_false] at hx; unfold I64; omega)).mono ?_
    rintro e wc ⟨r, rfl, hm9, hrc, bg9⟩
    have r_r : 1 ≤ r ∧ r ≤ 60 := by simp only [List.mem_cons, List.not_mem_nil, or_false] at hm9; omega
    replace c10 := keepW bg9 (by first | (simp; done) | (simp; omega)) c10; replace c11 := keepW bg9 (by first | (simp; done) | (simp; omega)) c11; replace c12 := keepW bg9 (by first | (simp; done) | (simp; omega)) c12; replace c13 := keepW bg9 (by first | (simp; done) | (simp; omega)) c13; replace c14 := keepW bg9 (by first | (simp; done) | (simp; omega)) c14; replace c15 := keepW bg9 (by first | (simp; done) | (simp; omega)) c15; replace c16 := keepW bg9 (by first | (simp; done) | (simp; omega)) c16
    replace f10 := keepWF bg9 (by first | (simp; done) | (simp; omega)) f10; replace f11 := keepWF bg9 (by first | (simp; done) | (simp; omega)) f11; replace f12 := keepWF bg9 (by first | (simp; done) | (simp; omega)) f12; replace f13 := keepWF bg9 (by first | (simp; done) | (simp; omega)) f13; replace f14 := keepWF bg9 (by first | (simp; done) | (simp; omega)) f14; replace f15 := keepWF bg9 (by first | (simp; done) | (simp; omega)) f15; replace f16 := keepWF bg9 (by first | (simp; done) | (simp; omega)) f16
    have hgrc := grown_trans hgrb bg9
    have hz_wc : w.heap.size + 1 < wc.heap.size := by have := bg9.size; omega
    clear bg9 hm9 hrb hgrb
    go_wp2_with fail
    refine (one_lit B (k + 1 + 1 + 1) g _ [30, 20, 8] wc _ _ _ hrc (by omega) rfl rfl rfl (by simp) (by simp) (fun x hx => by simp only [List.mem_cons, List.not_mem_nil, or_false] at hx; unfold I64; omega)).mono ?_
    rintro e wd ⟨t, rfl, hm9, hrd, bg9⟩
    have t_r : 1 ≤ t ∧ t ≤ 400 := by simp only [List.mem_cons, List.not_mem_nil, or_false] at hm9; omega
    replace c10 := keepW bg9 (by first | (simp; done) | (simp; omega)) c10; replace c11 := keepW bg9 (by first | (simp; done) | (simp; omega)) c11; replace c12 := keepW bg9 (by first | (simp; done) | (simp; omega)) c12; replace c13 := keepW bg9 (by first | (simp; done) | (simp; omega)) c13; replace c14 := keepW bg9 (by first | (simp; done) | (simp; omega)) c14; replace c15 := keepW bg9 (by first | (simp; done) | (simp; omega)) c15; replace c16 := keepW bg9 (by first | (simp; done) | (simp; omega)) c16
    replace f10 := keepWF bg9 (by first | (simp; done) | (simp; omega)) f10; replace f11 := keepWF bg9 (by first | (simp; done) | (simp; omega)) f11; replace f12 := keepWF bg9 (by first | (simp; done) | (simp; omega)) f12; replace f13 := keepWF bg9 (by first | (simp; done) | (simp; omega)) f13; replace f14 := keepWF bg9 (by first | (simp; done) | (simp; omega)) f14; replace f15 := keepWF bg9 (by first | (simp; done) | (simp; omega)) f15; replace f16 := keepWF bg9 (by first | (simp; done) | (simp; omega)) f16
    have hgrd := grown_trans hgrc bg9
    have hz_wd : w.heap.size + 1 < wd.heap.size := by have := bg9.size; omega
    clear bg9 hm9 hrc hgrc
    have hBg : B ≤ w.heap.size := by omega
    go_wp2
    refine bodyPost_ret (v := .agg #[.int .i64 0, .int .i64 lb, .int .i64 0, .int .i64 r, .int .i64 0, .int .i64 t, .int .i64 0]) (by simp [results, Tryd.results52, go_sem, *]) rfl ⟨⟨0, lb, 0, r, 0, t, 0⟩, k + 1 + 1 + 1 + 1, rfl, v64_mk ⟨by omega, by omega⟩ ⟨by omega, by omega⟩ ⟨by omega, by omega⟩ ⟨by omega, by omega⟩ ⟨by omega, by omega⟩ ⟨by omega, by omega⟩ ⟨by omega, by omega⟩, by omega, ?_, ?_⟩
    · exact (((((((hrd.set ⟨by show B ≤ w.heap.size + 1; omega, by show ¬ w.heap.size + 1 = g; omega⟩ _).set ⟨by show B ≤ w.heap.size + 1; omega, by show ¬ w.heap.size + 1 = g; omega⟩ _).set ⟨by show B ≤ w.heap.size + 1; omega, by show ¬ w.heap.size + 1 = g; omega⟩ _).set ⟨by show B ≤ w.heap.size + 1; omega, by show ¬ w.heap.size + 1 = g; omega⟩ _).set ⟨by show B ≤ w.heap.size + 1; omega, by show ¬ w.heap.size + 1 = g; omega⟩ _).set ⟨by show B ≤ w.heap.size + 1; omega, by show ¬ w.heap.size + 1 = g; omega⟩ _).set ⟨by show B ≤ w.heap.size + 1; omega, by show ¬ w.heap.size + 1 = g; omega⟩ _)
    · exact (grown_setCell (grown_setCell (grown_setCell (grown_setCell (grown_setCell (grown_setCell (grown_setCell hgrd (by show w.heap.size ≤ w.heap.size + 1; omega) _) (by show w.heap.size ≤ w.heap.size + 1; omega) _) (by show w.heap.size ≤ w.heap.size + 1; omega) _) (by show w.heap.size ≤ w.heap.size + 1; omega) _) (by show w.heap.size ≤ w.heap.size + 1; omega) _) (by show w.heap.size ≤ w.heap.size + 1; omega) _) (by show w.heap.size ≤ w.heap.size + 1; omega) _)
  · have hl0 : ((es.length : Int) == 0) = false := beq_f (by omega)
    go_enter Tryd.func52, Tryd.ntmps52
    go_wp2_with fail
    obtain ⟨w1, hw1, hb0, c00, c01, c02, c03, c10, c11, c12, c13, c14, c15, c16, f10, f11, f12, f13, f14, f15, f16, hz⟩ := Hs.out
    rw [← hw1]
    clear hw1 Hs
    have hr2 := hr1 w1 hb0
    have hgr2 := grown_below hb0 (some g)
    have he2 := hes w1 hb0
    have hz1 : w.heap.size + 1 < w1.heap.size := hz
    clear hes hr1 h he hb0
    go_wp2_with fail
    refine (pick_any B (k) g _ 6 w1 hr2 (by omega) (by omega)).mono ?_
    rintro e w2 ⟨y, rfl, hm9, hr3, bo9⟩
    have y_r := hm9.rng (m := 6) (by omega) (by omega)
    replace c10 := keepO bo9 (by first | (simp; done) | (simp; omega)) c10; replace c11 := keepO bo9 (by first | (simp; done) | (simp; omega)) c11; replace c12 := keepO bo9 (by first | (simp; done) | (simp; omega)) c12; replace c13 := keepO bo9 (by first | (simp; done) | (simp; omega)) c13; replace c14 := keepO bo9 (by first | (simp; done) | (simp; omega)) c14; replace c15 := keepO bo9 (by first | (simp; done) | (simp; omega)) c15; replace c16 := keepO bo9 (by first | (simp; done) | (simp; omega)) c16; replace c00 := keepO bo9 (by first | (simp; done) | (simp; omega)) c00
    replace f10 := keepOF bo9 (by first | (simp; done) | (simp; omega)) f10; replace f11 := keepOF bo9 (by first | (simp; done) | (simp; omega)) f11; replace f12 := keepOF bo9 (by first | (simp; done) | (simp; omega)) f12; replace f13 := keepOF bo9 (by first | (simp; done) | (simp; omega)) f13; replace f14 := keepOF bo9 (by first | (simp; done) | (simp; omega)) f14; replace f15 := keepOF bo9 (by first | (simp; done) | (simp; omega)) f15; replace f16 := keepOF bo9 (by first | (simp; done) | (simp; omega)) f16
    have hg12 := grown_only bo9
    have hgr3 := grown_trans hgr2 (grown_only bo9)
    have hz_w2 : w.heap.size + 1 < w2.heap.size := by have := bo9.size; omega
    clear bo9 hm9 hr2 hgr2
    by_cases hy0 : y = 0
    · have hyb : (y == 0) = true := beq_t hy0
      clear h0 hy0
      go_wp2_with fail
      refine (pick_any B (k + 1) g _ 50 w2 hr3 (by omega) (by omega)).mono ?_
      rintro e wa ⟨q, rfl, hm9, hra, bo9⟩
      have q_r := hm9.rng (m := 50) (by omega) (by omega)
      replace c10 := keepO bo9 (by first | (simp; done) | (simp; omega)) c10; replace c11 := keepO bo9 (by first | (simp; done) | (simp; omega)) c11; replace c12 := keepO bo9 (by first | (simp; done) | (simp; omega)) c12; replace c13 := keepO bo9 (by first | (simp; done) | (simp; omega)) c13; replace c14 := keepO bo9 (by first | (simp; done) | (simp; omega)) c14; replace c15 := keepO bo9 (by first | (simp; done) | (simp; omega)) c15; replace c16 := keepO bo9 (by first | (simp; done) | (simp; omega)) c16
      replace f10 := keepOF bo9 (by first | (simp; done) | (simp; omega)) f10; replace f11 := keepOF bo9 (by first | (simp; done) | (simp; omega)) f11; replace f12 := keepOF bo9 (by first | (simp; done) | (simp; omega)) f12; replace f13 := keepOF bo9 (by first | (simp; done) | (simp; omega)) f13; replace f14 := keepOF bo9 (by first | (simp; done) | (simp; omega)) f14; replace f15 := keepOF bo9 (by first | (simp; done) | (simp; omega)) f15; replace f16 := keepOF bo9 (by first | (simp; done) | (simp; omega)) f16
      have hgra := grown_trans hgr3 (grown_only bo9)
      have hz_wa : w.heap.size + 1 < wa.heap.size := by have := bo9.size; omega
      clear bo9 hm9 hr3 hgr3
      go_wp2_with fail
      refine (one_lit B (k + 1 + 1) g _ [1 + q, 7, 9999] wa _ _ _ hra (by omega) rfl rfl rfl (by simp) (by simp) (fun x hx => by simp only [List.mem_cons, List.not_mem_nil, or_false] at hx; unfold I64; omega)).mono ?_
      rintro e wb ⟨lb, rfl, hm9, hrb, bg9⟩
      have lb_r : 1 ≤ lb ∧ lb ≤ 9999 := by simp only [List.mem_cons, List.not_mem_nil, or_false] at hm9; omega
      replace c10 := keepW bg9 (by first | (simp; done) | (simp; omega)) c10; replace c11 := keepW bg9 (by first | (simp; done) | (simp; omega)) c11; replace c12 := keepW bg9 (by first | (simp; done) | (simp; omega)) c12; replace c13 := keepW bg9 (by first | (simp; done) | (simp; omega)) c13; replace c14 := keepW bg9 (by first | (simp; done) | (simp; omega)) c14; replace c15 := keepW bg9 (by first | (simp; done) | (simp; omega)) c15; replace c16 := keepW bg9 (by first | (simp; done) | (simp; omega)) c16
      replace f10 := keepWF bg9 (by first | (simp; done) | (simp; omega)) f10; replace f11 := keepWF bg9 (by first | (simp; done) | (simp; omega)) f11; replace f12 := keepWF bg9 (by first | (simp; done) | (simp; omega)) f12; replace f13 := keepWF bg9 (by first | (simp; done) | (simp; omega)) f13; replace f14 := keepWF bg9 (by first | (simp; done) | (simp; omega)) f14; replace f15 := keepWF bg9 (by first | (simp; done) | (simp; omega)) f15; replace f16 := keepWF bg9 (by first | (simp; done) | (simp; omega)) f16
      have hgrb := grown_trans hgra bg9
      have hz_wb : w.heap.size + 1 < wb.heap.size := by have := bg9.size; omega
      clear bg9 hm9 hra hgra
      go_wp2_with fail
      refine (one_lit B (k + 1 + 1 + 1) g _ [12, 20, 6] wb _ _ _ hrb (by omega) rfl rfl rfl (by simp) (by simp) (fun x hx => by simp only [List.mem_cons, List.not_mem_nil, or_false] at hx; unfold I64; omega)).mono ?_
      rintro e wc ⟨r, rfl, hm9, hrc, bg9⟩
      have r_r : 1 ≤ r ∧ r ≤ 60 := by simp only [List.mem_cons, List.not_mem_nil, or_false] at hm9; omega
      replace c10 := keepW bg9 (by first | (simp; done) | (simp; omega)) c10; replace c11 := keepW bg9 (by first | (simp; done) | (simp; omega)) c11; replace c12 := keepW bg9 (by first | (simp; done) | (simp; omega)) c12; replace c13 := keepW bg9 (by first | (simp; done) | (simp; omega)) c13; replace c14 := keepW bg9 (by first | (simp; done) | (simp; omega)) c14; replace c15 := keepW bg9 (by first | (simp; done) | (simp; omega)) c15; replace c16 := keepW bg9 (by first | (simp; done) | (simp; omega)) c16
      replace f10 := keepWF bg9 (by first | (simp; done) | (simp; omega)) f10; replace f11 := keepWF bg9 (by first | (simp; done) | (simp; omega)) f11; replace f12 := keepWF bg9 (by first | (simp; done) | (simp; omega)) f12; replace f13 := keepWF bg9 (by first | (simp; done) | (simp; omega)) f13; replace f14 := keepWF bg9 (by first | (simp; done) | (simp; omega)) f14; replace f15 := keepWF bg9 (by first | (simp; done) | (simp; omega)) f15; replace f16 := keepWF bg9 (by first | (simp; done) | (simp; omega)) f16
      have hgrc := grown_trans hgrb bg9
      have hz_wc : w.heap.size + 1 < wc.heap.size := by have := bg9.size; omega
      clear bg9 hm9 hrb hgrb
      go_wp2_with fail
      refine (one_lit B (k + 1 + 1 + 1 + 1) g _ [30, 20, 8] wc _ _ _ hrc (by omega) rfl rfl rfl (by simp) (by simp) (fun x hx => by simp only [List.mem_cons, List.not_mem_nil, or_false] at hx; unfold I64; omega)).mono ?_
      rintro e wd ⟨t, rfl, hm9, hrd, bg9⟩
      have t_r : 1 ≤ t ∧ t ≤ 400 := by simp only [List.mem_cons, List.not_mem_nil, or_false] at hm9; omega
      replace c10 := keepW bg9 (by first | (simp; done) | (simp; omega)) c10; replace c11 := keepW bg9 (by first | (simp; done) | (simp; omega)) c11; replace c12 := keepW bg9 (by first | (simp; done) | (simp; omega)) c12; replace c13 := keepW bg9 (by first | (simp; done) | (simp; omega)) c13; replace c14 := keepW bg9 (by first | (simp; done) | (simp; omega)) c14; replace c15 := keepW bg9 (by first | (simp; done) | (simp; omega)) c15; replace c16 := keepW bg9 (by first | (simp; done) | (simp; omega)) c16
      replace f10 := keepWF bg9 (by first | (simp; done) | (simp; omega)) f10; replace f11 := keepWF bg9 (by first | (simp; done) | (simp; omega)) f11; replace f12 := keepWF bg9 (by first | (simp; done) | (simp; omega)) f12; replace f13 := keepWF bg9 (by first | (simp; done) | (simp; omega)) f13; replace f14 := keepWF bg9 (by first | (simp; done) | (simp; omega)) f14; replace f15 := keepWF bg9 (by first | (simp; done) | (simp; omega)) f15; replace f16 := keepWF bg9 (by first | (simp; done) | (simp; omega)) f16
      have hgrd := grown_trans hgrc bg9
      have hz_wd : w.heap.size + 1 < wd.heap.size := by have := bg9.size; omega
      clear bg9 hm9 hrc hgrc
      have hBg : B ≤ w.heap.size := by omega
      go_wp2
      refine bodyPost_ret (v := .agg #[.int .i64 0, .int .i64 lb, .int .i64 0, .int .i64 r, .int .i64 0, .int .i64 t, .int .i64 0]) (by simp [results, Tryd.results52, go_sem, *]) rfl ⟨⟨0, lb, 0, r, 0, t, 0⟩, k + 1 + 1 + 1 + 1 + 1, rfl, v64_mk ⟨by omega, by omega⟩ ⟨by omega, by omega⟩ ⟨by omega, by omega⟩ ⟨by omega, by omega⟩ ⟨by omega, by omega⟩ ⟨by omega, by omega⟩ ⟨by omega, by omega⟩, by omega, ?_, ?_⟩
      · exact (((((((hrd.set ⟨by show B ≤ w.heap.size + 1; omega, by show ¬ w.heap.size + 1 = g; omega⟩ _).set ⟨by show B ≤ w.heap.size + 1; omega, by show ¬ w.heap.size + 1 = g; omega⟩ _).set ⟨by show B ≤ w.heap.size + 1; omega, by show ¬ w.heap.size + 1 = g; omega⟩ _).set ⟨by show B ≤ w.heap.size + 1; omega, by show ¬ w.heap.size + 1 = g; omega⟩ _).set ⟨by show B ≤ w.heap.size + 1; omega, by show ¬ w.heap.size + 1 = g; omega⟩ _).set ⟨by show B ≤ w.heap.size + 1; omega, by show ¬ w.heap.size + 1 = g; omega⟩ _).set ⟨by show B ≤ w.heap.size + 1; omega, by show ¬ w.heap.size + 1 = g; omega⟩ _)
      · exact (grown_setCell (grown_setCell (grown_setCell (grown_setCell (grown_setCell (grown_setCell (grown_setCell hgrd (by show w.heap.size ≤ w.heap.size + 1; omega) _) (by show w.heap.size ≤ w.heap.size + 1; omega) _) (by show w.heap.size ≤ w.heap.size + 1; omega) _) (by show w.heap.size ≤ w.heap.size + 1; omega) _) (by show w.heap.size ≤ w.heap.size + 1; omega) _) (by show w.heap.size ≤ w.heap.size + 1; omega) _) (by show w.heap.size ≤ w.heap.size + 1; omega) _)
    · have hyb : (y == 0) = false := beq_f hy0
      have he3 : ES w2 lo hi (.slice A es.length c) es := he2.kept (Kept.of_grown hg12 (by omega) (.inl hgl))
      clear he2 hg12
      obtain ⟨b9, o, _, _, _, _, rfl, hl9, hh9, _⟩ := he3.cell (k := 0) (by omega)
      have Hes := Lib.hid he3
      have hpos : 0 < es.length := by omega
      clear h0 he3
      go_upto_region 3 with fail
      go_cut [5] (fun s5 wq => ∃ q : Nat, q < es.length ∧ s5 = .pointer (some ⟨w2.heap.size, 0, none⟩) ∧ Rdr wq B (k + 1 + 1) g (.pointer gg) ∧ w.grownBy wq (some g) ∧ w2.heap.size < wq.heap.size ∧
        (∃ Ad cd Ap cp, wq.cell? ⟨w2.heap.size, 0, none⟩ = some (.int .i64 (ge es q).lb) ∧ wq.cell? ⟨w2.heap.size, 1, none⟩ = some (.int .i64 (ge es q).W) ∧ wq.cell? ⟨w2.heap.size, 2, none⟩ = some (.int .i64 (ge es q).L) ∧ wq.cell? ⟨w2.heap.size, 3, none⟩ = some (.slice Ad (ge es q).ds.length cd) ∧ wq.cell? ⟨w2.heap.size, 4, none⟩ = some (.slice Ap (ge es q).ps.length cp)) ∧
        (wq.cell? ⟨w.heap.size + 1, 0, none⟩ = some (.int .i64 0) ∧ wq.cell? ⟨w.heap.size + 1, 1, none⟩ = some (.int .i64 0) ∧ wq.cell? ⟨w.heap.size + 1, 2, none⟩ = some (.int .i64 0) ∧ wq.cell? ⟨w.heap.size + 1, 3, none⟩ = some (.int .i64 0) ∧ wq.cell? ⟨w.heap.size + 1, 4, none⟩ = some (.int .i64 0) ∧ wq.cell? ⟨w.heap.size + 1, 5, none⟩ = some (.int .i64 0) ∧ wq.cell? ⟨w.heap.size + 1, 6, none⟩ = some (.int .i64 0)) ∧
        (wq.frozen? ⟨w.heap.size + 1, 0, none⟩ = false ∧ wq.frozen? ⟨w.heap.size + 1, 1, none⟩ = false ∧ wq.frozen? ⟨w.heap.size + 1, 2, none⟩ = false ∧ wq.frozen? ⟨w.heap.size + 1, 3, none⟩ = false ∧ wq.frozen? ⟨w.heap.size + 1, 4, none⟩ = false ∧ wq.frozen? ⟨w.heap.size + 1, 5, none⟩ = false ∧ wq.frozen? ⟨w.heap.size + 1, 6, none⟩ = false))
      case first =>
        have hbe : b9 < w2.heap.size := by omega
        have hna : ¬ w2.heap.size = w.heap.size := by omega
        have hnb : ¬ w2.heap.size = w.heap.size + 1 := by omega
        have hna2 : ¬ w.heap.size = w2.heap.size := by omega
        have hnb2 : ¬ w.heap.size + 1 = w2.heap.size := by omega
        have hNg : ¬ w2.heap.size = g := by omega
        have Hal := Lib.hid (show Below w2.heap.size w2 (w2.alloc (.cells #[.int .i64 0, .int .i64 0, .int .i64 0, .slice none 0 0, .slice none 0 0] 102)) from (Below.refl _ _).alloc (Nat.le_refl _) _)
        have HD0 := Lib.hid (show (w2.alloc (.cells #[.int .i64 0, .int .i64 0, .int .i64 0, .slice none 0 0, .slice none 0 0] 102)).cell? ⟨w2.heap.size, 0, none⟩ = some (.int .i64 0) by go_simp)
        have HF0 := Lib.hid (show (w2.alloc (.cells #[.int .i64 0, .int .i64 0, .int .i64 0, .slice none 0 0, .slice none 0 0] 102)).frozen? ⟨w2.heap.size, 0, none⟩ = false by go_simp)
        have HD1 := Lib.hid (show (w2.alloc (.cells #[.int .i64 0, .int .i64 0, .int .i64 0, .slice none 0 0, .slice none 0 0] 102)).cell? ⟨w2.heap.size, 1, none⟩ = some (.int .i64 0) by go_simp)
        have HF1 := Lib.hid (show (w2.alloc (.cells #[.int .i64 0, .int .i64 0, .int .i64 0, .slice none 0 0, .slice none 0 0] 102)).frozen? ⟨w2.heap.size, 1, none⟩ = false by go_simp)
        have HD2 := Lib.hid (show (w2.alloc (.cells #[.int .i64 0, .int .i64 0, .int .i64 0, .slice none 0 0, .slice none 0 0] 102)).cell? ⟨w2.heap.size, 2, none⟩ = some (.int .i64 0) by go_simp)
        have HF2 := Lib.hid (show (w2.alloc (.cells #[.int .i64 0, .int .i64 0, .int .i64 0, .slice none 0 0, .slice none 0 0] 102)).frozen? ⟨w2.heap.size, 2, none⟩ = false by go_simp)
        have HD3 := Lib.hid (show (w2.alloc (.cells #[.int .i64 0, .int .i64 0, .int .i64 0, .slice none 0 0, .slice none 0 0] 102)).cell? ⟨w2.heap.size, 3, none⟩ = some (.slice none 0 0) by go_simp)
        have HF3 := Lib.hid (show (w2.alloc (.cells #[.int .i64 0, .int .i64 0, .int .i64 0, .slice none 0 0, .slice none 0 0] 102)).frozen? ⟨w2.heap.size, 3, none⟩ = false by go_simp)
        have HD4 := Lib.hid (show (w2.alloc (.cells #[.int .i64 0, .int .i64 0, .int .i64 0, .slice none 0 0, .slice none 0 0] 102)).cell? ⟨w2.heap.size, 4, none⟩ = some (.slice none 0 0) by go_simp)
        have HF4 := Lib.hid (show (w2.alloc (.cells #[.int .i64 0, .int .i64 0, .int .i64 0, .slice none 0 0, .slice none 0 0] 102)).frozen? ⟨w2.heap.size, 4, none⟩ = false by go_simp)
        refine wp_region_held_drew (S := fun w' => w'.cell? ⟨w.heap.size, 0, none⟩ = some (.slice (some ⟨b9, o, none⟩) es.length c) ∧ w'.cell? ⟨w.heap.size + 1, 0, none⟩ = some (.int .i64 0)) (by kernel_rfl) ?_ (fun hHeld => ?_)
        · (first | (try dsimp only); go_keep | (go_split_ands; refine ⟨?_, ?_⟩ <;> first | exact keepB bx5 (by assumption) | exact keepB bx4 (by assumption) | exact keepB bx3 (by assumption) | exact keepB bx2 (by assumption) | exact keepB bx1 (by assumption) | exact keepO bo5 (by first | (simp; done) | (simp; omega)) (by assumption) | exact keepO bo4 (by first | (simp; done) | (simp; omega)) (by assumption) | exact keepO bo3 (by first | (simp; done) | (simp; omega)) (by assumption) | exact keepO bo2 (by first | (simp; done) | (simp; omega)) (by assumption) | exact keepO bo1 (by first | (simp; done) | (simp; omega)) (by assumption) | exact keepW bg2 (by first | (simp; done) | (simp; omega)) (by assumption) | exact keepW bg1 (by first | (simp; done) | (simp; omega)) (by assumption) | assumption))
        refine wpAnyH_take (i := 0) (oi := ⟨some 30, _, _, _, _, _⟩) (v := _) rfl (by kernel_rfl) (by kernel_rfl) (by kernel_rfl) (fun _ _ _ h => h) (Or.inl ⟨by kernel_rfl, by intro w hSw; (try dsimp only at hSw); go_simp; try with_reducible rfl⟩) (by assumption) ?_
        simp only [Act.put, List.setIfInBounds_toArray, List.set_cons_zero, List.set_cons_succ]
        refine wpAnyH_take (i := 1) (oi := ⟨some 31, _, _, _, _, _⟩) (v := _) rfl (by kernel_rfl) (by kernel_rfl) (by kernel_rfl) (fun _ _ _ h => h) (Or.inl ⟨by kernel_rfl, by intro w hSw; (try dsimp only at hSw); go_simp; try with_reducible rfl⟩) (by assumption) ?_
        simp only [Act.put, List.setIfInBounds_toArray, List.set_cons_zero, List.set_cons_succ]
        refine wpAnyH_take (i := 2) (oi := ⟨some 32, _, _, _, _, _⟩) (v := _) rfl (by kernel_rfl) (by kernel_rfl) (by kernel_rfl) (fun _ _ _ h => h) (Or.inl ⟨by kernel_rfl, by intro w hSw; (try dsimp only at hSw); go_simp; try with_reducible rfl⟩) (by assumption) ?_
        simp only [Act.put, List.setIfInBounds_toArray, List.set_cons_zero, List.set_cons_succ]
        refine wpAnyH_take (i := 3) (oi := ⟨some 33, _, _, _, _, _⟩) (v := _) rfl (by kernel_rfl) (by kernel_rfl) (by kernel_rfl) (fun _ _ _ h => h) (Or.inl ⟨by kernel_rfl, by intro w hSw; (try dsimp only at hSw); go_simp; try with_reducible rfl⟩) (by assumption) ?_
        simp only [Act.put, List.setIfInBounds_toArray, List.set_cons_zero, List.set_cons_succ]
        refine wpAnyH_take (i := 4) (oi := ⟨some 34, _, _, _, _, _⟩) (v := _) rfl (by kernel_rfl) (by kernel_rfl) (by kernel_rfl) (fun _ _ _ h => h) (Or.inl ⟨by kernel_rfl, by intro w hSw; (try dsimp only at hSw); go_simp; try with_reducible rfl⟩) (by assumption) ?_
        simp only [Act.put, List.setIfInBounds_toArray, List.set_cons_zero, List.set_cons_succ]
        refine wpAnyH_take (i := 5) (oi := ⟨some 35, _, _, _, _, _⟩) (v := _) rfl (by kernel_rfl) (by kernel_rfl) (by kernel_rfl) (fun _ _ _ h => h) (Or.inl ⟨by kernel_rfl, by intro w hSw; (try dsimp only at hSw); go_simp; try with_reducible rfl⟩) (by assumption) ?_
        simp only [Act.put, List.setIfInBounds_toArray, List.set_cons_zero, List.set_cons_succ]
        refine wpAnyH_ready (rs := [6, 9]) (by kernel_rfl) (by simp) (AllReadyH.cons (o := ⟨some 36, _, _, _, _, _⟩) rfl (fun K hK => ?_) (AllReadyH.cons (o := ⟨some 5, _, _, _, _, _⟩) rfl (fun K hK => ?_) (AllReadyH.nil)))
        focus
          go_simp
          go_at_call 53
          refine (pick_any B (k + 1) g _ _ _ hr3.drew (by omega) (by omega)).mono ?_
          rintro e x1 ⟨qi, rfl, hm9, hrx, bo9⟩
          have qr := hm9.2 (by omega)
          obtain ⟨q, rfl⟩ := Int.eq_ofNat_of_zero_le qr.1
          have hq1 : q < es.length := by omega
          have hq2 : (q : Int) < (es.length : Int) := by omega
          have hq0 : (0 : Int) ≤ (q : Int) := by omega
          have bo1 := only_drew bo9
          have bg1 := grown_only bo1
          replace c00 := keepW bg1 (by first | (simp; done) | (simp; omega)) c00; replace c10 := keepW bg1 (by first | (simp; done) | (simp; omega)) c10; replace c11 := keepW bg1 (by first | (simp; done) | (simp; omega)) c11; replace c12 := keepW bg1 (by first | (simp; done) | (simp; omega)) c12; replace c13 := keepW bg1 (by first | (simp; done) | (simp; omega)) c13; replace c14 := keepW bg1 (by first | (simp; done) | (simp; omega)) c14; replace c15 := keepW bg1 (by first | (simp; done) | (simp; omega)) c15; replace c16 := keepW bg1 (by first | (simp; done) | (simp; omega)) c16
          replace f10 := keepWF bg1 (by first | (simp; done) | (simp; omega)) f10; replace f11 := keepWF bg1 (by first | (simp; done) | (simp; omega)) f11; replace f12 := keepWF bg1 (by first | (simp; done) | (simp; omega)) f12; replace f13 := keepWF bg1 (by first | (simp; done) | (simp; omega)) f13; replace f14 := keepWF bg1 (by first | (simp; done) | (simp; omega)) f14; replace f15 := keepWF bg1 (by first | (simp; done) | (simp; omega)) f15; replace f16 := keepWF bg1 (by first | (simp; done) | (simp; omega)) f16
          obtain ⟨Ad, cd, Ap, cp, e0, e1, e2, e3, e4⟩ := (Hes.out.kept (Kept.of_grown bg1 (by omega) (.inl hgl))).cellAt hq1
          have Hgx := Lib.hid (grown_trans hgr3 bg1)
          have HX := Lib.hid bo1.size
          have hbx : b9 < x1.heap.size := by have := bo1.size; omega
          clear hm9 bo9 bo1 qr bg1
          go_wp2_with fail
          refine hK.out _ _ ?_ (fun hHeld2 => ?_)
          · (first | (try dsimp only); go_keep | (go_split_ands; refine ⟨?_, ?_⟩ <;> first | exact keepB bx5 (by assumption) | exact keepB bx4 (by assumption) | exact keepB bx3 (by assumption) | exact keepB bx2 (by assumption) | exact keepB bx1 (by assumption) | exact keepO bo5 (by first | (simp; done) | (simp; omega)) (by assumption) | exact keepO bo4 (by first | (simp; done) | (simp; omega)) (by assumption) | exact keepO bo3 (by first | (simp; done) | (simp; omega)) (by assumption) | exact keepO bo2 (by first | (simp; done) | (simp; omega)) (by assumption) | exact keepO bo1 (by first | (simp; done) | (simp; omega)) (by assumption) | exact keepW bg2 (by first | (simp; done) | (simp; omega)) (by assumption) | exact keepW bg1 (by first | (simp; done) | (simp; omega)) (by assumption) | assumption))
          clear hK K hHeld
          have hHeld := hHeld2
          clear hHeld2
          try simp only [Act.put, List.setIfInBounds_toArray, List.set_cons_zero, List.set_cons_succ]
          refine wpAnyH_take (i := 7) (oi := ⟨some 37, _, _, _, _, _⟩) (v := _) rfl (by kernel_rfl) (by kernel_rfl) (by kernel_rfl) (fun _ _ _ h => h) (Or.inl ⟨by kernel_rfl, by intro w hSw; (try dsimp only at hSw); go_simp; try with_reducible rfl⟩) (by assumption) ?_
          simp only [Act.put, List.setIfInBounds_toArray, List.set_cons_zero, List.set_cons_succ]
          refine wpAnyH_ready (rs := [8, 9]) (by kernel_rfl) (by simp) (AllReadyH.cons (o := ⟨some 38, _, _, _, _, _⟩) rfl (fun K hK => ?_) (AllReadyH.cons (o := ⟨some 5, _, _, _, _, _⟩) rfl (fun K hK => ?_) (AllReadyH.nil)))
          focus
            go_simp
            refine hK.out _ _ ?_ (fun hHeld2 => ?_)
            · (first | (try dsimp only); go_keep | (go_split_ands; refine ⟨?_, ?_⟩ <;> first | exact keepB bx5 (by assumption) | exact keepB bx4 (by assumption) | exact keepB bx3 (by assumption) | exact keepB bx2 (by assumption) | exact keepB bx1 (by assumption) | exact keepO bo5 (by first | (simp; done) | (simp; omega)) (by assumption) | exact keepO bo4 (by first | (simp; done) | (simp; omega)) (by assumption) | exact keepO bo3 (by first | (simp; done) | (simp; omega)) (by assumption) | exact keepO bo2 (by first | (simp; done) | (simp; omega)) (by assumption) | exact keepO bo1 (by first | (simp; done) | (simp; omega)) (by assumption) | exact keepW bg2 (by first | (simp; done) | (simp; omega)) (by assumption) | exact keepW bg1 (by first | (simp; done) | (simp; omega)) (by assumption) | assumption))
            clear hK K hHeld
            have hHeld := hHeld2
            clear hHeld2
            try simp only [Act.put, List.setIfInBounds_toArray, List.set_cons_zero, List.set_cons_succ]
            refine wpAnyH_ready (rs := [9]) (by kernel_rfl) (by simp) ?_
            refine AllReadyH.cons (o := ⟨some 5, _, _, _, _, _⟩) rfl (fun K hK => ?_) AllReadyH.nil
            go_simp
            refine hK.out _ _ ?_ (fun hHeld2 => ?_)
            · (first | (try dsimp only); go_keep | (go_split_ands; refine ⟨?_, ?_⟩ <;> first | exact keepB bx5 (by assumption) | exact keepB bx4 (by assumption) | exact keepB bx3 (by assumption) | exact keepB bx2 (by assumption) | exact keepB bx1 (by assumption) | exact keepO bo5 (by first | (simp; done) | (simp; omega)) (by assumption) | exact keepO bo4 (by first | (simp; done) | (simp; omega)) (by assumption) | exact keepO bo3 (by first | (simp; done) | (simp; omega)) (by assumption) | exact keepO bo2 (by first | (simp; done) | (simp; omega)) (by assumption) | exact keepO bo1 (by first | (simp; done) | (simp; omega)) (by assumption) | exact keepW bg2 (by first | (simp; done) | (simp; omega)) (by assumption) | exact keepW bg1 (by first | (simp; done) | (simp; omega)) (by assumption) | assumption))
            clear hK K hHeld
            have hHeld := hHeld2
            clear hHeld2
            try simp only [Act.put, List.setIfInBounds_toArray, List.set_cons_zero, List.set_cons_succ]
            refine wpAnyH_ready (rs := [10]) (by kernel_rfl) (by simp) ?_
            refine AllReadyH.cons (o := ⟨none, _, _, _, _, _⟩) rfl (fun K hK => ?_) AllReadyH.nil
            go_simp
            refine hK.out _ _ ?_ (fun hHeld2 => ?_)
            · (first | (try dsimp only); go_keep | (go_split_ands; refine ⟨?_, ?_⟩ <;> first | exact keepB bx5 (by assumption) | exact keepB bx4 (by assumption) | exact keepB bx3 (by assumption) | exact keepB bx2 (by assumption) | exact keepB bx1 (by assumption) | exact keepO bo5 (by first | (simp; done) | (simp; omega)) (by assumption) | exact keepO bo4 (by first | (simp; done) | (simp; omega)) (by assumption) | exact keepO bo3 (by first | (simp; done) | (simp; omega)) (by assumption) | exact keepO bo2 (by first | (simp; done) | (simp; omega)) (by assumption) | exact keepO bo1 (by first | (simp; done) | (simp; omega)) (by assumption) | exact keepW bg2 (by first | (simp; done) | (simp; omega)) (by assumption) | exact keepW bg1 (by first | (simp; done) | (simp; omega)) (by assumption) | assumption))
            clear hK K hHeld
            have hHeld := hHeld2
            clear hHeld2
            try simp only [Act.put, List.setIfInBounds_toArray, List.set_cons_zero, List.set_cons_succ]
            refine wpAnyH_done (by kernel_rfl) ?_ _
          rotate_left 1
          focus
            go_simp
            refine hK.out _ _ ?_ (fun hHeld2 => ?_)
            · (first | (try dsimp only); go_keep | (go_split_ands; refine ⟨?_, ?_⟩ <;> first | exact keepB bx5 (by assumption) | exact keepB bx4 (by assumption) | exact keepB bx3 (by assumption) | exact keepB bx2 (by assumption) | exact keepB bx1 (by assumption) | exact keepO bo5 (by first | (simp; done) | (simp; omega)) (by assumption) | exact keepO bo4 (by first | (simp; done) | (simp; omega)) (by assumption) | exact keepO bo3 (by first | (simp; done) | (simp; omega)) (by assumption) | exact keepO bo2 (by first | (simp; done) | (simp; omega)) (by assumption) | exact keepO bo1 (by first | (simp; done) | (simp; omega)) (by assumption) | exact keepW bg2 (by first | (simp; done) | (simp; omega)) (by assumption) | exact keepW bg1 (by first | (simp; done) | (simp; omega)) (by assumption) | assumption))
            clear hK K hHeld
            have hHeld := hHeld2
            clear hHeld2
            try simp only [Act.put, List.setIfInBounds_toArray, List.set_cons_zero, List.set_cons_succ]
            refine wpAnyH_ready (rs := [8]) (by kernel_rfl) (by simp) ?_
            refine AllReadyH.cons (o := ⟨some 38, _, _, _, _, _⟩) rfl (fun K hK => ?_) AllReadyH.nil
            go_simp
            refine hK.out _ _ ?_ (fun hHeld2 => ?_)
            · (first | (try dsimp only); go_keep | (go_split_ands; refine ⟨?_, ?_⟩ <;> first | exact keepB bx5 (by assumption) | exact keepB bx4 (by assumption) | exact keepB bx3 (by assumption) | exact keepB bx2 (by assumption) | exact keepB bx1 (by assumption) | exact keepO bo5 (by first | (simp; done) | (simp; omega)) (by assumption) | exact keepO bo4 (by first | (simp; done) | (simp; omega)) (by assumption) | exact keepO bo3 (by first | (simp; done) | (simp; omega)) (by assumption) | exact keepO bo2 (by first | (simp; done) | (simp; omega)) (by assumption) | exact keepO bo1 (by first | (simp; done) | (simp; omega)) (by assumption) | exact keepW bg2 (by first | (simp; done) | (simp; omega)) (by assumption) | exact keepW bg1 (by first | (simp; done) | (simp; omega)) (by assumption) | assumption))
            clear hK K hHeld
            have hHeld := hHeld2
            clear hHeld2
            try simp only [Act.put, List.setIfInBounds_toArray, List.set_cons_zero, List.set_cons_succ]
            refine wpAnyH_ready (rs := [10]) (by kernel_rfl) (by simp) ?_
            refine AllReadyH.cons (o := ⟨none, _, _, _, _, _⟩) rfl (fun K hK => ?_) AllReadyH.nil
            go_simp
            refine hK.out _ _ ?_ (fun hHeld2 => ?_)
            · (first | (try dsimp only); go_keep | (go_split_ands; refine ⟨?_, ?_⟩ <;> first | exact keepB bx5 (by assumption) | exact keepB bx4 (by assumption) | exact keepB bx3 (by assumption) | exact keepB bx2 (by assumption) | exact keepB bx1 (by assumption) | exact keepO bo5 (by first | (simp; done) | (simp; omega)) (by assumption) | exact keepO bo4 (by first | (simp; done) | (simp; omega)) (by assumption) | exact keepO bo3 (by first | (simp; done) | (simp; omega)) (by assumption) | exact keepO bo2 (by first | (simp; done) | (simp; omega)) (by assumption) | exact keepO bo1 (by first | (simp; done) | (simp; omega)) (by assumption) | exact keepW bg2 (by first | (simp; done) | (simp; omega)) (by assumption) | exact keepW bg1 (by first | (simp; done) | (simp; omega)) (by assumption) | assumption))
            clear hK K hHeld
            have hHeld := hHeld2
            clear hHeld2
            try simp only [Act.put, List.setIfInBounds_toArray, List.set_cons_zero, List.set_cons_succ]
            refine wpAnyH_done (by kernel_rfl) ?_ _
          rotate_left 1
        rotate_left 2
        focus
          go_simp
          refine hK.out _ _ ?_ (fun hHeld2 => ?_)
          · (first | (try dsimp only); go_keep | (go_split_ands; refine ⟨?_, ?_⟩ <;> first | exact keepB bx5 (by assumption) | exact keepB bx4 (by assumption) | exact keepB bx3 (by assumption) | exact keepB bx2 (by assumption) | exact keepB bx1 (by assumption) | exact keepO bo5 (by first | (simp; done) | (simp; omega)) (by assumption) | exact keepO bo4 (by first | (simp; done) | (simp; omega)) (by assumption) | exact keepO bo3 (by first | (simp; done) | (simp; omega)) (by assumption) | exact keepO bo2 (by first | (simp; done) | (simp; omega)) (by assumption) | exact keepO bo1 (by first | (simp; done) | (simp; omega)) (by assumption) | exact keepW bg2 (by first | (simp; done) | (simp; omega)) (by assumption) | exact keepW bg1 (by first | (simp; done) | (simp; omega)) (by assumption) | assumption))
          clear hK K hHeld
          have hHeld := hHeld2
          clear hHeld2
          try simp only [Act.put, List.setIfInBounds_toArray, List.set_cons_zero, List.set_cons_succ]
          refine wpAnyH_ready (rs := [6]) (by kernel_rfl) (by simp) ?_
          refine AllReadyH.cons (o := ⟨some 36, _, _, _, _, _⟩) rfl (fun K hK => ?_) AllReadyH.nil
          go_simp
          go_at_call 53
          refine (pick_any B (k + 1) g _ _ _ (hr3.below Hal.out).drew (by omega) (by omega)).mono ?_
          rintro e x1 ⟨qi, rfl, hm9, hrx, bo9⟩
          have qr := hm9.2 (by omega)
          obtain ⟨q, rfl⟩ := Int.eq_ofNat_of_zero_le qr.1
          have hq1 : q < es.length := by omega
          have hq2 : (q : Int) < (es.length : Int) := by omega
          have hq0 : (0 : Int) ≤ (q : Int) := by omega
          have bo1 := only_drew bo9
          have bg1 := grown_trans (grown_below Hal.out (some g)) (grown_only bo1)
          have d0 := keepO bo1 (by simp; omega) HD0.out
          have d1 := keepO bo1 (by simp; omega) HD1.out
          have d2 := keepO bo1 (by simp; omega) HD2.out
          have d3 := keepO bo1 (by simp; omega) HD3.out
          have d4 := keepO bo1 (by simp; omega) HD4.out
          have fd0 := keepOF bo1 (a := ⟨w2.heap.size, 0, none⟩) (by simp; omega) HF0.out
          have fd1 := keepOF bo1 (a := ⟨w2.heap.size, 1, none⟩) (by simp; omega) HF1.out
          have fd2 := keepOF bo1 (a := ⟨w2.heap.size, 2, none⟩) (by simp; omega) HF2.out
          have fd3 := keepOF bo1 (a := ⟨w2.heap.size, 3, none⟩) (by simp; omega) HF3.out
          have fd4 := keepOF bo1 (a := ⟨w2.heap.size, 4, none⟩) (by simp; omega) HF4.out
          replace c00 := keepW bg1 (by first | (simp; done) | (simp; omega)) c00; replace c10 := keepW bg1 (by first | (simp; done) | (simp; omega)) c10; replace c11 := keepW bg1 (by first | (simp; done) | (simp; omega)) c11; replace c12 := keepW bg1 (by first | (simp; done) | (simp; omega)) c12; replace c13 := keepW bg1 (by first | (simp; done) | (simp; omega)) c13; replace c14 := keepW bg1 (by first | (simp; done) | (simp; omega)) c14; replace c15 := keepW bg1 (by first | (simp; done) | (simp; omega)) c15; replace c16 := keepW bg1 (by first | (simp; done) | (simp; omega)) c16
          replace f10 := keepWF bg1 (by first | (simp; done) | (simp; omega)) f10; replace f11 := keepWF bg1 (by first | (simp; done) | (simp; omega)) f11; replace f12 := keepWF bg1 (by first | (simp; done) | (simp; omega)) f12; replace f13 := keepWF bg1 (by first | (simp; done) | (simp; omega)) f13; replace f14 := keepWF bg1 (by first | (simp; done) | (simp; omega)) f14; replace f15 := keepWF bg1 (by first | (simp; done) | (simp; omega)) f15; replace f16 := keepWF bg1 (by first | (simp; done) | (simp; omega)) f16
          obtain ⟨Ad, cd, Ap, cp, e0, e1, e2, e3, e4⟩ := (Hes.out.kept (Kept.of_grown bg1 (by omega) (.inl hgl))).cellAt hq1
          have Hgx := Lib.hid (grown_trans hgr3 bg1)
          have HX := Lib.hid (show x1.heap.size = w2.heap.size + 1 from bo1.size.trans (by simp))
          clear hm9 bo9 bo1 qr bg1
          go_wp2_with fail
          refine hK.out _ _ ?_ (fun hHeld2 => ?_)
          · (first | (try dsimp only); go_keep | (go_split_ands; refine ⟨?_, ?_⟩ <;> first | exact keepB bx5 (by assumption) | exact keepB bx4 (by assumption) | exact keepB bx3 (by assumption) | exact keepB bx2 (by assumption) | exact keepB bx1 (by assumption) | exact keepO bo5 (by first | (simp; done) | (simp; omega)) (by assumption) | exact keepO bo4 (by first | (simp; done) | (simp; omega)) (by assumption) | exact keepO bo3 (by first | (simp; done) | (simp; omega)) (by assumption) | exact keepO bo2 (by first | (simp; done) | (simp; omega)) (by assumption) | exact keepO bo1 (by first | (simp; done) | (simp; omega)) (by assumption) | exact keepW bg2 (by first | (simp; done) | (simp; omega)) (by assumption) | exact keepW bg1 (by first | (simp; done) | (simp; omega)) (by assumption) | assumption))
          clear hK K hHeld
          have hHeld := hHeld2
          clear hHeld2
          try simp only [Act.put, List.setIfInBounds_toArray, List.set_cons_zero, List.set_cons_succ]
          refine wpAnyH_take (i := 7) (oi := ⟨some 37, _, _, _, _, _⟩) (v := _) rfl (by kernel_rfl) (by kernel_rfl) (by kernel_rfl) (fun _ _ _ h => h) (Or.inl ⟨by kernel_rfl, by intro w hSw; (try dsimp only at hSw); go_simp; try with_reducible rfl⟩) (by assumption) ?_
          simp only [Act.put, List.setIfInBounds_toArray, List.set_cons_zero, List.set_cons_succ]
          refine wpAnyH_ready (rs := [8]) (by kernel_rfl) (by simp) ?_
          refine AllReadyH.cons (o := ⟨some 38, _, _, _, _, _⟩) rfl (fun K hK => ?_) AllReadyH.nil
          go_simp
          refine hK.out _ _ ?_ (fun hHeld2 => ?_)
          · (first | (try dsimp only); go_keep | (go_split_ands; refine ⟨?_, ?_⟩ <;> first | exact keepB bx5 (by assumption) | exact keepB bx4 (by assumption) | exact keepB bx3 (by assumption) | exact keepB bx2 (by assumption) | exact keepB bx1 (by assumption) | exact keepO bo5 (by first | (simp; done) | (simp; omega)) (by assumption) | exact keepO bo4 (by first | (simp; done) | (simp; omega)) (by assumption) | exact keepO bo3 (by first | (simp; done) | (simp; omega)) (by assumption) | exact keepO bo2 (by first | (simp; done) | (simp; omega)) (by assumption) | exact keepO bo1 (by first | (simp; done) | (simp; omega)) (by assumption) | exact keepW bg2 (by first | (simp; done) | (simp; omega)) (by assumption) | exact keepW bg1 (by first | (simp; done) | (simp; omega)) (by assumption) | assumption))
          clear hK K hHeld
          have hHeld := hHeld2
          clear hHeld2
          try simp only [Act.put, List.setIfInBounds_toArray, List.set_cons_zero, List.set_cons_succ]
          refine wpAnyH_ready (rs := [10]) (by kernel_rfl) (by simp) ?_
          refine AllReadyH.cons (o := ⟨none, _, _, _, _, _⟩) rfl (fun K hK => ?_) AllReadyH.nil
          go_simp
          refine hK.out _ _ ?_ (fun hHeld2 => ?_)
          · (first | (try dsimp only); go_keep | (go_split_ands; refine ⟨?_, ?_⟩ <;> first | exact keepB bx5 (by assumption) | exact keepB bx4 (by assumption) | exact keepB bx3 (by assumption) | exact keepB bx2 (by assumption) | exact keepB bx1 (by assumption) | exact keepO bo5 (by first | (simp; done) | (simp; omega)) (by assumption) | exact keepO bo4 (by first | (simp; done) | (simp; omega)) (by assumption) | exact keepO bo3 (by first | (simp; done) | (simp; omega)) (by assumption) | exact keepO bo2 (by first | (simp; done) | (simp; omega)) (by assumption) | exact keepO bo1 (by first | (simp; done) | (simp; omega)) (by assumption) | exact keepW bg2 (by first | (simp; done) | (simp; omega)) (by assumption) | exact keepW bg1 (by first | (simp; done) | (simp; omega)) (by assumption) | assumption))
          clear hK K hHeld
          have hHeld := hHeld2
          clear hHeld2
          try simp only [Act.put, List.setIfInBounds_toArray, List.set_cons_zero, List.set_cons_succ]
          refine wpAnyH_done (by kernel_rfl) ?_ _
        rotate_left 1
        · have Hxa := Lib.hid (show Below x1.heap.size x1 (x1.alloc (.cells #[.int .i64 (ge es q).lb, .int .i64 (ge es q).W, .int .i64 (ge es q).L, .slice Ad (ge es q).ds.length cd, .slice Ap (ge es q).ps.length cp] 102)) from (Below.refl _ _).alloc (Nat.le_refl _) _)
          go_wp2_with fail
          go_meet
          refine ⟨q, hq1, by rw [HX.out], hrx.below Hxa.out, grown_trans Hgx.out (grown_below Hxa.out _), by rw [← HX.out]; simp, ⟨Ad, cd, Ap, cp, ?_, ?_, ?_, ?_, ?_⟩, ⟨keepB Hxa.out c10, keepB Hxa.out c11, keepB Hxa.out c12, keepB Hxa.out c13, keepB Hxa.out c14, keepB Hxa.out c15, keepB Hxa.out c16⟩, ⟨keepF Hxa.out (by have := HX.out; show w.heap.size + 1 < x1.heap.size; omega) f10, keepF Hxa.out (by have := HX.out; show w.heap.size + 1 < x1.heap.size; omega) f11, keepF Hxa.out (by have := HX.out; show w.heap.size + 1 < x1.heap.size; omega) f12, keepF Hxa.out (by have := HX.out; show w.heap.size + 1 < x1.heap.size; omega) f13, keepF Hxa.out (by have := HX.out; show w.heap.size + 1 < x1.heap.size; omega) f14, keepF Hxa.out (by have := HX.out; show w.heap.size + 1 < x1.heap.size; omega) f15, keepF Hxa.out (by have := HX.out; show w.heap.size + 1 < x1.heap.size; omega) f16⟩⟩
          all_goals (rw [← HX.out]; go_simp)
        · have Hxa := Lib.hid (show Below x1.heap.size x1 (x1.alloc (.cells #[.int .i64 (ge es q).lb, .int .i64 (ge es q).W, .int .i64 (ge es q).L, .slice Ad (ge es q).ds.length cd, .slice Ap (ge es q).ps.length cp] 102)) from (Below.refl _ _).alloc (Nat.le_refl _) _)
          go_wp2_with fail
          go_meet
          refine ⟨q, hq1, by rw [HX.out], hrx.below Hxa.out, grown_trans Hgx.out (grown_below Hxa.out _), by rw [← HX.out]; simp, ⟨Ad, cd, Ap, cp, ?_, ?_, ?_, ?_, ?_⟩, ⟨keepB Hxa.out c10, keepB Hxa.out c11, keepB Hxa.out c12, keepB Hxa.out c13, keepB Hxa.out c14, keepB Hxa.out c15, keepB Hxa.out c16⟩, ⟨keepF Hxa.out (by have := HX.out; show w.heap.size + 1 < x1.heap.size; omega) f10, keepF Hxa.out (by have := HX.out; show w.heap.size + 1 < x1.heap.size; omega) f11, keepF Hxa.out (by have := HX.out; show w.heap.size + 1 < x1.heap.size; omega) f12, keepF Hxa.out (by have := HX.out; show w.heap.size + 1 < x1.heap.size; omega) f13, keepF Hxa.out (by have := HX.out; show w.heap.size + 1 < x1.heap.size; omega) f14, keepF Hxa.out (by have := HX.out; show w.heap.size + 1 < x1.heap.size; omega) f15, keepF Hxa.out (by have := HX.out; show w.heap.size + 1 < x1.heap.size; omega) f16⟩⟩
          all_goals (rw [← HX.out]; go_simp)
        · go_wp2_with fail
          go_meet
          exact ⟨q, hq1, rfl, (((((hrx.set ⟨by show B ≤ w2.heap.size; omega, by show ¬ w2.heap.size = g; omega⟩ _).set ⟨by show B ≤ w2.heap.size; omega, by show ¬ w2.heap.size = g; omega⟩ _).set ⟨by show B ≤ w2.heap.size; omega, by show ¬ w2.heap.size = g; omega⟩ _).set ⟨by show B ≤ w2.heap.size; omega, by show ¬ w2.heap.size = g; omega⟩ _).set ⟨by show B ≤ w2.heap.size; omega, by show ¬ w2.heap.size = g; omega⟩ _), (grown_setCell (grown_setCell (grown_setCell (grown_setCell (grown_setCell Hgx.out (by show w.heap.size ≤ w2.heap.size; omega) _) (by show w.heap.size ≤ w2.heap.size; omega) _) (by show w.heap.size ≤ w2.heap.size; omega) _) (by show w.heap.size ≤ w2.heap.size; omega) _) (by show w.heap.size ≤ w2.heap.size; omega) _), by have := HX.out; simp only [World.setCell, Array.size_modify]; omega, ⟨Ad, cd, Ap, cp, by go_simp, by go_simp, by go_simp, by go_simp, by go_simp⟩, ⟨by go_simp, by go_simp, by go_simp, by go_simp, by go_simp, by go_simp, by go_simp⟩, ⟨by go_simp, by go_simp, by go_simp, by go_simp, by go_simp, by go_simp, by go_simp⟩⟩
      case rest =>
        obtain ⟨q, hq, rfl, hrq, hgrq, hNz, ⟨Ad, cd, Ap, cp, q0, q1, q2, q3, q4⟩, ⟨c10, c11, c12, c13, c14, c15, c16⟩, ⟨f10, f11, f12, f13, f14, f15, f16⟩⟩ := hcut
        have hve := HV.out q hq
        obtain ⟨lb, hlb⟩ : ∃ x, x = (ge es q).lb := ⟨_, rfl⟩
        obtain ⟨W, hW⟩ : ∃ x, x = (ge es q).W := ⟨_, rfl⟩
        obtain ⟨L, hL⟩ : ∃ x, x = (ge es q).L := ⟨_, rfl⟩
        have hlr : 1 ≤ lb ∧ lb ≤ 9999 := by rw [hlb]; exact ⟨(vEnt_iff.1 hve).1, (vEnt_iff.1 hve).2.1⟩
        have hWL : (1 ≤ W ∧ W ≤ 60) ∧ (1 ≤ L ∧ L ≤ 400) := by have := vReel_rng (vCuts_iff.1 (vEnt_iff.1 hve).2.2).1; rw [hW, hL]; omega
        rw [← hlb] at q0
        rw [← hW] at q1
        rw [← hL] at q2
        clear hve hlb hW hL hr3 hgr3 c00 c01 c02 c03 hl0 hyb hy0
        obtain ⟨N, hN⟩ : ∃ N, N = w2.heap.size := ⟨_, rfl⟩
        rw [← hN] at q0 q1 q2 q3 q4 hNz
        rw [← hN]
        have hNg : ¬ N = g := by omega
        have hN1 : w.heap.size + 1 < N := by omega
        have hNw : ¬ N = w.heap.size + 1 := by omega
        have hNw2 : ¬ w.heap.size + 1 = N := by omega
        clear hN
        have hzq : w.heap.size + 1 < wc.heap.size := by omega
        go_wp2_with fail
        refine (somePart_any B (k + 1 + 1) g _ W L wc hrq (by omega) (by omega) (by omega) (by omega) (by omega)).mono ?_
        rintro e wa ⟨l, r, f, t, rfl, hp, hra, bg⟩
        replace c10 := keepW bg (by first | (simp; done) | (simp; omega)) c10; replace c11 := keepW bg (by first | (simp; done) | (simp; omega)) c11; replace c12 := keepW bg (by first | (simp; done) | (simp; omega)) c12; replace c13 := keepW bg (by first | (simp; done) | (simp; omega)) c13; replace c14 := keepW bg (by first | (simp; done) | (simp; omega)) c14; replace c15 := keepW bg (by first | (simp; done) | (simp; omega)) c15; replace c16 := keepW bg (by first | (simp; done) | (simp; omega)) c16; replace q0 := keepW bg (by first | (simp; done) | (simp; omega)) q0; replace q1 := keepW bg (by first | (simp; done) | (simp; omega)) q1; replace q2 := keepW bg (by first | (simp; done) | (simp; omega)) q2; replace q3 := keepW bg (by first | (simp; done) | (simp; omega)) q3; replace q4 := keepW bg (by first | (simp; done) | (simp; omega)) q4
        replace f10 := keepWF bg (by first | (simp; done) | (simp; omega)) f10; replace f11 := keepWF bg (by first | (simp; done) | (simp; omega)) f11; replace f12 := keepWF bg (by first | (simp; done) | (simp; omega)) f12; replace f13 := keepWF bg (by first | (simp; done) | (simp; omega)) f13; replace f14 := keepWF bg (by first | (simp; done) | (simp; omega)) f14; replace f15 := keepWF bg (by first | (simp; done) | (simp; omega)) f15; replace f16 := keepWF bg (by first | (simp; done) | (simp; omega)) f16
        have hgra := grown_trans hgrq bg
        have hza : wc.heap.size ≤ wa.heap.size := bg.size
        clear bg hrq hgrq
        go_wp2_with fail
        obtain ⟨wb, hw1⟩ : ∃ wb, wb = wa.alloc (.cells #[.int .i64 l, .int .i64 r, .int .i64 f, .int .i64 t] 27) := ⟨_, rfl⟩
        have p0 : wb.cell? ⟨wa.heap.size, 0, none⟩ = some (.int .i64 l) := by rw [hw1]; go_simp
        have p1 : wb.cell? ⟨wa.heap.size, 1, none⟩ = some (.int .i64 r) := by rw [hw1]; go_simp
        have p2 : wb.cell? ⟨wa.heap.size, 2, none⟩ = some (.int .i64 f) := by rw [hw1]; go_simp
        have p3 : wb.cell? ⟨wa.heap.size, 3, none⟩ = some (.int .i64 t) := by rw [hw1]; go_simp
        have bp : Below wa.heap.size wa wb := by rw [hw1]; exact (Below.refl _ _).alloc (Nat.le_refl _) _
        have zp : wa.heap.size < wb.heap.size := by rw [hw1]; simp
        have HZp := Lib.hid (show wb.heap.size = wa.heap.size + 1 by rw [hw1]; simp)
        have fp0 : wb.frozen? ⟨wa.heap.size, 0, none⟩ = false := by rw [hw1]; go_simp
        have fp1 : wb.frozen? ⟨wa.heap.size, 1, none⟩ = false := by rw [hw1]; go_simp
        have fp2 : wb.frozen? ⟨wa.heap.size, 2, none⟩ = false := by rw [hw1]; go_simp
        have fp3 : wb.frozen? ⟨wa.heap.size, 3, none⟩ = false := by rw [hw1]; go_simp
        have Hp := Lib.hid (show wb.heap[wa.heap.size]? = some (.cells #[.int .i64 l, .int .i64 r, .int .i64 f, .int .i64 t] 27) by rw [hw1]; exact heap_alloc_new wa _)
        rw [← hw1]
        clear hw1
        have hrb := hra.below bp
        have hgrb := grown_trans hgra (grown_below bp (some g))
        replace c10 := keepB bp c10; replace c11 := keepB bp c11; replace c12 := keepB bp c12; replace c13 := keepB bp c13; replace c14 := keepB bp c14; replace c15 := keepB bp c15; replace c16 := keepB bp c16; replace q0 := keepB bp q0; replace q1 := keepB bp q1; replace q2 := keepB bp q2; replace q3 := keepB bp q3; replace q4 := keepB bp q4
        replace f10 := keepF bp (by first | (simp; done) | (simp; omega)) f10; replace f11 := keepF bp (by first | (simp; done) | (simp; omega)) f11; replace f12 := keepF bp (by first | (simp; done) | (simp; omega)) f12; replace f13 := keepF bp (by first | (simp; done) | (simp; omega)) f13; replace f14 := keepF bp (by first | (simp; done) | (simp; omega)) f14; replace f15 := keepF bp (by first | (simp; done) | (simp; omega)) f15; replace f16 := keepF bp (by first | (simp; done) | (simp; omega)) f16
        obtain ⟨P, hP⟩ : ∃ P, P = wa.heap.size := ⟨_, rfl⟩
        rw [← hP] at p0 p1 p2 p3 fp0 fp1 fp2 fp3 zp
        rw [← hP]
        have hPN : N < P := by omega
        have hPg : ¬ P = g := by omega
        have hPw : ¬ P = w.heap.size + 1 := by omega
        have hPw2 : ¬ w.heap.size + 1 = P := by omega
        have hPN1 : ¬ P = N := by omega
        have hPN2 : ¬ N = P := by omega
        have hzb : w.heap.size + 1 < wb.heap.size := by omega
        clear hP bp hra hgra HZp
        obtain ⟨hl0, hl1, hr0, hr1, hf0, hf1, ht0, ht1⟩ := hp
        have hBg : B ≤ w.heap.size := by omega
        go_wp2_with fail
        refine (pick_any B (k + 1 + 1 + 4) g _ 6 wb hrb (by omega) (by omega)).mono ?_
        rintro e w6 ⟨y6, rfl, hm9, hrc, bo9⟩
        have y6_r := hm9.rng (m := 6) (by omega) (by omega)
        replace c10 := keepO bo9 (by first | (simp; done) | (simp; omega)) c10; replace c11 := keepO bo9 (by first | (simp; done) | (simp; omega)) c11; replace c12 := keepO bo9 (by first | (simp; done) | (simp; omega)) c12; replace c13 := keepO bo9 (by first | (simp; done) | (simp; omega)) c13; replace c14 := keepO bo9 (by first | (simp; done) | (simp; omega)) c14; replace c15 := keepO bo9 (by first | (simp; done) | (simp; omega)) c15; replace c16 := keepO bo9 (by first | (simp; done) | (simp; omega)) c16; replace q0 := keepO bo9 (by first | (simp; done) | (simp; omega)) q0; replace q1 := keepO bo9 (by first | (simp; done) | (simp; omega)) q1; replace q2 := keepO bo9 (by first | (simp; done) | (simp; omega)) q2; replace q3 := keepO bo9 (by first | (simp; done) | (simp; omega)) q3; replace q4 := keepO bo9 (by first | (simp; done) | (simp; omega)) q4; replace p0 := keepO bo9 (by first | (simp; done) | (simp; omega)) p0; replace p1 := keepO bo9 (by first | (simp; done) | (simp; omega)) p1; replace p2 := keepO bo9 (by first | (simp; done) | (simp; omega)) p2; replace p3 := keepO bo9 (by first | (simp; done) | (simp; omega)) p3
        replace f10 := keepOF bo9 (by first | (simp; done) | (simp; omega)) f10; replace f11 := keepOF bo9 (by first | (simp; done) | (simp; omega)) f11; replace f12 := keepOF bo9 (by first | (simp; done) | (simp; omega)) f12; replace f13 := keepOF bo9 (by first | (simp; done) | (simp; omega)) f13; replace f14 := keepOF bo9 (by first | (simp; done) | (simp; omega)) f14; replace f15 := keepOF bo9 (by first | (simp; done) | (simp; omega)) f15; replace f16 := keepOF bo9 (by first | (simp; done) | (simp; omega)) f16; replace fp0 := keepOF bo9 (by first | (simp; done) | (simp; omega)) fp0; replace fp1 := keepOF bo9 (by first | (simp; done) | (simp; omega)) fp1; replace fp2 := keepOF bo9 (by first | (simp; done) | (simp; omega)) fp2; replace fp3 := keepOF bo9 (by first | (simp; done) | (simp; omega)) fp3
        have hgrc := grown_trans hgrb (grown_only bo9)
        have hz_w6 : w.heap.size + 1 < w6.heap.size := by have := bo9.size; omega
        clear bo9 hm9 hrb hgrb
        by_cases hy : y6 = 0
        · have ey : (y6 == 0) = true := beq_t hy
          clear hy
          go_upto_region 8 with fail
          go_cut [] (fun wx => ∃ m1 : Int, (0 ≤ m1 ∧ m1 ≤ 3000) ∧ wx = w6.setCell ⟨P, 1, none⟩ (.int .i64 m1))
          case first =>
            go_wp2_with fail
            all_goals (go_meet; exact ⟨_, by omega, rfl⟩)
          case rest =>
          obtain ⟨m1, hm1r, rfl⟩ := hcut
          go_upto_region 9 with fail
          go_cut [] (fun wx => ∃ m3 : Int, (0 ≤ m3 ∧ m3 ≤ 3000) ∧ wx = (w6.setCell ⟨P, 1, none⟩ (.int .i64 m1)).setCell ⟨P, 3, none⟩ (.int .i64 m3))
          case first =>
            go_wp2_with fail
            all_goals (go_meet; exact ⟨_, by omega, rfl⟩)
          case rest =>
          obtain ⟨m3, hm3r, rfl⟩ := hcut
          go_wp2_with fail
          obtain ⟨w7, hw7⟩ : ∃ w7, w7 = (w6.setCell ⟨P, 1, none⟩ (.int .i64 m1)).setCell ⟨P, 3, none⟩ (.int .i64 m3) := ⟨_, rfl⟩
          have hr7 : Rdr w7 B (k + 1 + 1 + 4 + 1) g (.pointer gg) := by rw [hw7]; exact ((hrc.set ⟨by show B ≤ P; omega, by show ¬ P = g; omega⟩ _).set ⟨by show B ≤ P; omega, by show ¬ P = g; omega⟩ _)
          have hgr7 : w.grownBy w7 (some g) := by rw [hw7]; exact (grown_setCell (grown_setCell hgrc (by show w.heap.size ≤ P; omega) _) (by show w.heap.size ≤ P; omega) _)
          have ex : ∀ q, ¬ P = q → w7.heap[q]? = w6.heap[q]? := fun q hq => by rw [hw7]; simp only [World.setCell, Array.getElem?_modify, if_neg hq]
          replace c10 := cell_same (ex _ (by omega)) c10
          replace c11 := cell_same (ex _ (by omega)) c11
          replace c12 := cell_same (ex _ (by omega)) c12
          replace c13 := cell_same (ex _ (by omega)) c13
          replace c14 := cell_same (ex _ (by omega)) c14
          replace c15 := cell_same (ex _ (by omega)) c15
          replace c16 := cell_same (ex _ (by omega)) c16
          replace f10 := frozen_same (ex _ (by omega)) f10
          replace f11 := frozen_same (ex _ (by omega)) f11
          replace f12 := frozen_same (ex _ (by omega)) f12
          replace f13 := frozen_same (ex _ (by omega)) f13
          replace f14 := frozen_same (ex _ (by omega)) f14
          replace f15 := frozen_same (ex _ (by omega)) f15
          replace f16 := frozen_same (ex _ (by omega)) f16
          replace q0 := cell_same (ex _ (by omega)) q0
          have y0 : w7.cell? ⟨P, 0, none⟩ = some (.int .i64 l) := by rw [hw7]; go_simp
          have y1 : w7.cell? ⟨P, 1, none⟩ = some (.int .i64 m1) := by rw [hw7]; go_simp
          have y2 : w7.cell? ⟨P, 2, none⟩ = some (.int .i64 f) := by rw [hw7]; go_simp
          have y3 : w7.cell? ⟨P, 3, none⟩ = some (.int .i64 m3) := by rw [hw7]; go_simp
          rw [← hw7]
          clear hw7 ex q1 q2 q3 q4 p0 p1 p2 p3 fp0 fp1 fp2 fp3 hrc hgrc
          refine wp_region_held_drew (S := fun w' => w'.cell? ⟨N, 0, none⟩ = some (.int .i64 lb) ∧ w'.cell? ⟨P, 0, none⟩ = some (.int .i64 l) ∧ w'.cell? ⟨P, 1, none⟩ = some (.int .i64 m1) ∧ w'.cell? ⟨P, 2, none⟩ = some (.int .i64 f) ∧ w'.cell? ⟨P, 3, none⟩ = some (.int .i64 m3)) (by kernel_rfl) ?_ (fun hHeld => ?_)
          · (first | (try dsimp only); go_keep | (go_split_ands; refine ⟨?_, ?_, ?_, ?_, ?_⟩ <;> first | exact keepB bx5 (by assumption) | exact keepB bx4 (by assumption) | exact keepB bx3 (by assumption) | exact keepB bx2 (by assumption) | exact keepB bx1 (by assumption) | exact keepO bo5 (by first | (simp; done) | (simp; omega)) (by assumption) | exact keepO bo4 (by first | (simp; done) | (simp; omega)) (by assumption) | exact keepO bo3 (by first | (simp; done) | (simp; omega)) (by assumption) | exact keepO bo2 (by first | (simp; done) | (simp; omega)) (by assumption) | exact keepO bo1 (by first | (simp; done) | (simp; omega)) (by assumption) | exact keepW bg2 (by first | (simp; done) | (simp; omega)) (by assumption) | exact keepW bg1 (by first | (simp; done) | (simp; omega)) (by assumption) | assumption))
          refine wpAnyH_take (i := 0) (oi := ⟨some 66, _, _, _, _, _⟩) (v := _) rfl (by kernel_rfl) (by kernel_rfl) (by kernel_rfl) (fun _ _ _ h => h) (Or.inl ⟨by kernel_rfl, by intro w hSw; (try dsimp only at hSw); go_simp; try with_reducible rfl⟩) (by assumption) ?_
          simp only [Act.put, List.setIfInBounds_toArray, List.set_cons_zero, List.set_cons_succ]
          refine wpAnyH_take (i := 1) (oi := ⟨some 67, _, _, _, _, _⟩) (v := _) rfl (by kernel_rfl) (by kernel_rfl) (by kernel_rfl) (fun _ _ _ h => h) (Or.inl ⟨by kernel_rfl, by intro w hSw; (try dsimp only at hSw); go_simp; try with_reducible rfl⟩) (by assumption) ?_
          simp only [Act.put, List.setIfInBounds_toArray, List.set_cons_zero, List.set_cons_succ]
          refine wpAnyH_take (i := 2) (oi := ⟨some 68, _, _, _, _, _⟩) (v := _) rfl (by kernel_rfl) (by kernel_rfl) (by kernel_rfl) (fun _ _ _ h => h) (Or.inl ⟨by kernel_rfl, by intro w hSw; (try dsimp only at hSw); go_simp; try with_reducible rfl⟩) (by assumption) ?_
          simp only [Act.put, List.setIfInBounds_toArray, List.set_cons_zero, List.set_cons_succ]
          refine wpAnyH_take (i := 3) (oi := ⟨some 69, _, _, _, _, _⟩) (v := _) rfl (by kernel_rfl) (by kernel_rfl) (by kernel_rfl) (fun _ _ _ h => h) (Or.inl ⟨by kernel_rfl, by intro w hSw; (try dsimp only at hSw); go_simp; try with_reducible rfl⟩) (by assumption) ?_
          simp only [Act.put, List.setIfInBounds_toArray, List.set_cons_zero, List.set_cons_succ]
          refine wpAnyH_ready (rs := [4]) (by kernel_rfl) (by simp) ?_
          refine AllReadyH.cons (o := ⟨some 70, _, _, _, _, _⟩) rfl (fun K hK => ?_) AllReadyH.nil
          go_simp
          go_at_call 53
          refine (pick_any B (k + 1 + 1 + 4 + 1) g _ 9 _ hr7.drew (by omega) (by omega)).mono ?_
          rintro e x7 ⟨x, rfl, hm9, hrx, bo9⟩
          have xr := hm9.rng (m := 9) (by omega) (by omega)
          have bo1 := only_drew bo9
          replace c10 := keepO bo1 (by first | (simp; done) | (simp; omega)) c10; replace c11 := keepO bo1 (by first | (simp; done) | (simp; omega)) c11; replace c12 := keepO bo1 (by first | (simp; done) | (simp; omega)) c12; replace c13 := keepO bo1 (by first | (simp; done) | (simp; omega)) c13; replace c14 := keepO bo1 (by first | (simp; done) | (simp; omega)) c14; replace c15 := keepO bo1 (by first | (simp; done) | (simp; omega)) c15; replace c16 := keepO bo1 (by first | (simp; done) | (simp; omega)) c16; replace q0 := keepO bo1 (by first | (simp; done) | (simp; omega)) q0; replace y0 := keepO bo1 (by first | (simp; done) | (simp; omega)) y0; replace y1 := keepO bo1 (by first | (simp; done) | (simp; omega)) y1; replace y2 := keepO bo1 (by first | (simp; done) | (simp; omega)) y2; replace y3 := keepO bo1 (by first | (simp; done) | (simp; omega)) y3
          replace f10 := keepOF bo1 (by first | (simp; done) | (simp; omega)) f10; replace f11 := keepOF bo1 (by first | (simp; done) | (simp; omega)) f11; replace f12 := keepOF bo1 (by first | (simp; done) | (simp; omega)) f12; replace f13 := keepOF bo1 (by first | (simp; done) | (simp; omega)) f13; replace f14 := keepOF bo1 (by first | (simp; done) | (simp; omega)) f14; replace f15 := keepOF bo1 (by first | (simp; done) | (simp; omega)) f15; replace f16 := keepOF bo1 (by first | (simp; done) | (simp; omega)) f16
          have hgx := grown_trans hgr7 (grown_only bo1)
          have g3 : IntKind.i64.wrap (1 + x) = 1 + x := IntWalk.i64_in _ (by omega)
          clear hm9 bo9
          go_wp2_with fail
          refine hK.out _ _ ?_ (fun hHeld2 => ?_)
          · (first | (try dsimp only); go_keep | (go_split_ands; refine ⟨?_, ?_, ?_, ?_, ?_⟩ <;> first | exact keepB bx5 (by assumption) | exact keepB bx4 (by assumption) | exact keepB bx3 (by assumption) | exact keepB bx2 (by assumption) | exact keepB bx1 (by assumption) | exact keepO bo5 (by first | (simp; done) | (simp; omega)) (by assumption) | exact keepO bo4 (by first | (simp; done) | (simp; omega)) (by assumption) | exact keepO bo3 (by first | (simp; done) | (simp; omega)) (by assumption) | exact keepO bo2 (by first | (simp; done) | (simp; omega)) (by assumption) | exact keepO bo1 (by first | (simp; done) | (simp; omega)) (by assumption) | exact keepW bg2 (by first | (simp; done) | (simp; omega)) (by assumption) | exact keepW bg1 (by first | (simp; done) | (simp; omega)) (by assumption) | assumption))
          clear hK K hHeld
          have hHeld := hHeld2
          clear hHeld2
          try simp only [Act.put, List.setIfInBounds_toArray, List.set_cons_zero, List.set_cons_succ]
          refine wpAnyH_take (i := 5) (oi := ⟨some 71, _, _, _, _, _⟩) (v := _) rfl (by kernel_rfl) (by kernel_rfl) (by kernel_rfl) (fun _ _ _ h => h) (Or.inl ⟨by kernel_rfl, by intro w hSw; (try dsimp only at hSw); go_simp; try with_reducible rfl⟩) (by assumption) ?_
          simp only [Act.put, List.setIfInBounds_toArray, List.set_cons_zero, List.set_cons_succ]
          refine wpAnyH_take (i := 6) (oi := ⟨some 72, _, _, _, _, _⟩) (v := _) rfl (by kernel_rfl) (by kernel_rfl) (by kernel_rfl) (fun _ _ _ h => h) (Or.inl ⟨by kernel_rfl, by intro w hSw; (try dsimp only at hSw); go_simp; try with_reducible rfl⟩) (by assumption) ?_
          simp only [Act.put, List.setIfInBounds_toArray, List.set_cons_zero, List.set_cons_succ]
          refine wpAnyH_ready (rs := [7]) (by kernel_rfl) (by simp) ?_
          refine AllReadyH.cons (o := ⟨none, _, _, _, _, _⟩) rfl (fun K hK => ?_) AllReadyH.nil
          go_simp
          refine hK.out _ _ ?_ (fun hHeld2 => ?_)
          · (first | (try dsimp only); go_keep | (go_split_ands; refine ⟨?_, ?_, ?_, ?_, ?_⟩ <;> first | exact keepB bx5 (by assumption) | exact keepB bx4 (by assumption) | exact keepB bx3 (by assumption) | exact keepB bx2 (by assumption) | exact keepB bx1 (by assumption) | exact keepO bo5 (by first | (simp; done) | (simp; omega)) (by assumption) | exact keepO bo4 (by first | (simp; done) | (simp; omega)) (by assumption) | exact keepO bo3 (by first | (simp; done) | (simp; omega)) (by assumption) | exact keepO bo2 (by first | (simp; done) | (simp; omega)) (by assumption) | exact keepO bo1 (by first | (simp; done) | (simp; omega)) (by assumption) | exact keepW bg2 (by first | (simp; done) | (simp; omega)) (by assumption) | exact keepW bg1 (by first | (simp; done) | (simp; omega)) (by assumption) | assumption))
          clear hK K hHeld
          have hHeld := hHeld2
          clear hHeld2
          try simp only [Act.put, List.setIfInBounds_toArray, List.set_cons_zero, List.set_cons_succ]
          refine wpAnyH_done (by kernel_rfl) ?_ _
          clear hr7 hgr7 bo1
          go_wp2
          refine bodyPost_ret (v := .agg #[.int .i64 1, .int .i64 lb, .int .i64 l, .int .i64 m1, .int .i64 f, .int .i64 m3, .int .i64 (1 + x)]) (by simp [results, Tryd.results52, go_sem, *]) rfl ⟨⟨1, lb, l, m1, f, m3, 1 + x⟩, k + 1 + 1 + 4 + 1 + 1, rfl, v64_mk ⟨by omega, by omega⟩ ⟨by omega, by omega⟩ ⟨by omega, by omega⟩ ⟨by omega, by omega⟩ ⟨by omega, by omega⟩ ⟨by omega, by omega⟩ ⟨by omega, by omega⟩, by omega, ?_, ?_⟩
          · exact (((((((hrx.set ⟨by show B ≤ w.heap.size + 1; omega, by show ¬ w.heap.size + 1 = g; omega⟩ _).set ⟨by show B ≤ w.heap.size + 1; omega, by show ¬ w.heap.size + 1 = g; omega⟩ _).set ⟨by show B ≤ w.heap.size + 1; omega, by show ¬ w.heap.size + 1 = g; omega⟩ _).set ⟨by show B ≤ w.heap.size + 1; omega, by show ¬ w.heap.size + 1 = g; omega⟩ _).set ⟨by show B ≤ w.heap.size + 1; omega, by show ¬ w.heap.size + 1 = g; omega⟩ _).set ⟨by show B ≤ w.heap.size + 1; omega, by show ¬ w.heap.size + 1 = g; omega⟩ _).set ⟨by show B ≤ w.heap.size + 1; omega, by show ¬ w.heap.size + 1 = g; omega⟩ _)
          · exact (grown_setCell (grown_setCell (grown_setCell (grown_setCell (grown_setCell (grown_setCell (grown_setCell hgx (by show w.heap.size ≤ w.heap.size + 1; omega) _) (by show w.heap.size ≤ w.heap.size + 1; omega) _) (by show w.heap.size ≤ w.heap.size + 1; omega) _) (by show w.heap.size ≤ w.heap.size + 1; omega) _) (by show w.heap.size ≤ w.heap.size + 1; omega) _) (by show w.heap.size ≤ w.heap.size + 1; omega) _) (by show w.heap.size ≤ w.heap.size + 1; omega) _)
        have e0 : (y6 == 0) = false := beq_f hy
        clear hy
        by_cases hy : y6 = 1
        · have ey : (y6 == 1) = true := beq_t hy
          clear hy
          go_upto_region 8 with fail
          go_cut [] (fun wx => ∃ m1 : Int, (0 ≤ m1 ∧ m1 ≤ 3000) ∧ wx = w6.setCell ⟨P, 1, none⟩ (.int .i64 m1))
          case first =>
            go_wp2_with fail
            all_goals (go_meet; exact ⟨_, by omega, rfl⟩)
          case rest =>
          obtain ⟨m1, hm1r, rfl⟩ := hcut
          go_upto_region 9 with fail
          go_cut [] (fun wx => ∃ m3 : Int, (0 ≤ m3 ∧ m3 ≤ 3000) ∧ wx = (w6.setCell ⟨P, 1, none⟩ (.int .i64 m1)).setCell ⟨P, 3, none⟩ (.int .i64 m3))
          case first =>
            go_wp2_with fail
            all_goals (go_meet; exact ⟨_, by omega, rfl⟩)
          case rest =>
          obtain ⟨m3, hm3r, rfl⟩ := hcut
          go_wp2_with fail
          obtain ⟨w7, hw7⟩ : ∃ w7, w7 = (w6.setCell ⟨P, 1, none⟩ (.int .i64 m1)).setCell ⟨P, 3, none⟩ (.int .i64 m3) := ⟨_, rfl⟩
          have hr7 : Rdr w7 B (k + 1 + 1 + 4 + 1) g (.pointer gg) := by rw [hw7]; exact ((hrc.set ⟨by show B ≤ P; omega, by show ¬ P = g; omega⟩ _).set ⟨by show B ≤ P; omega, by show ¬ P = g; omega⟩ _)
          have hgr7 : w.grownBy w7 (some g) := by rw [hw7]; exact (grown_setCell (grown_setCell hgrc (by show w.heap.size ≤ P; omega) _) (by show w.heap.size ≤ P; omega) _)
          have ex : ∀ q, ¬ P = q → w7.heap[q]? = w6.heap[q]? := fun q hq => by rw [hw7]; simp only [World.setCell, Array.getElem?_modify, if_neg hq]
          replace c10 := cell_same (ex _ (by omega)) c10
          replace c11 := cell_same (ex _ (by omega)) c11
          replace c12 := cell_same (ex _ (by omega)) c12
          replace c13 := cell_same (ex _ (by omega)) c13
          replace c14 := cell_same (ex _ (by omega)) c14
          replace c15 := cell_same (ex _ (by omega)) c15
          replace c16 := cell_same (ex _ (by omega)) c16
          replace f10 := frozen_same (ex _ (by omega)) f10
          replace f11 := frozen_same (ex _ (by omega)) f11
          replace f12 := frozen_same (ex _ (by omega)) f12
          replace f13 := frozen_same (ex _ (by omega)) f13
          replace f14 := frozen_same (ex _ (by omega)) f14
          replace f15 := frozen_same (ex _ (by omega)) f15
          replace f16 := frozen_same (ex _ (by omega)) f16
          replace q0 := cell_same (ex _ (by omega)) q0
          have y0 : w7.cell? ⟨P, 0, none⟩ = some (.int .i64 l) := by rw [hw7]; go_simp
          have y1 : w7.cell? ⟨P, 1, none⟩ = some (.int .i64 m1) := by rw [hw7]; go_simp
          have y2 : w7.cell? ⟨P, 2, none⟩ = some (.int .i64 f) := by rw [hw7]; go_simp
          have y3 : w7.cell? ⟨P, 3, none⟩ = some (.int .i64 m3) := by rw [hw7]; go_simp
          rw [← hw7]
          clear hw7 ex q1 q2 q3 q4 p0 p1 p2 p3 fp0 fp1 fp2 fp3 hrc hgrc
          refine wp_region_held_drew (S := fun w' => w'.cell? ⟨N, 0, none⟩ = some (.int .i64 lb) ∧ w'.cell? ⟨P, 0, none⟩ = some (.int .i64 l) ∧ w'.cell? ⟨P, 1, none⟩ = some (.int .i64 m1) ∧ w'.cell? ⟨P, 2, none⟩ = some (.int .i64 f) ∧ w'.cell? ⟨P, 3, none⟩ = some (.int .i64 m3)) (by kernel_rfl) ?_ (fun hHeld => ?_)
          · (first | (try dsimp only); go_keep | (go_split_ands; refine ⟨?_, ?_, ?_, ?_, ?_⟩ <;> first | exact keepB bx5 (by assumption) | exact keepB bx4 (by assumption) | exact keepB bx3 (by assumption) | exact keepB bx2 (by assumption) | exact keepB bx1 (by assumption) | exact keepO bo5 (by first | (simp; done) | (simp; omega)) (by assumption) | exact keepO bo4 (by first | (simp; done) | (simp; omega)) (by assumption) | exact keepO bo3 (by first | (simp; done) | (simp; omega)) (by assumption) | exact keepO bo2 (by first | (simp; done) | (simp; omega)) (by assumption) | exact keepO bo1 (by first | (simp; done) | (simp; omega)) (by assumption) | exact keepW bg2 (by first | (simp; done) | (simp; omega)) (by assumption) | exact keepW bg1 (by first | (simp; done) | (simp; omega)) (by assumption) | assumption))
          refine wpAnyH_take (i := 0) (oi := ⟨some 66, _, _, _, _, _⟩) (v := _) rfl (by kernel_rfl) (by kernel_rfl) (by kernel_rfl) (fun _ _ _ h => h) (Or.inl ⟨by kernel_rfl, by intro w hSw; (try dsimp only at hSw); go_simp; try with_reducible rfl⟩) (by assumption) ?_
          simp only [Act.put, List.setIfInBounds_toArray, List.set_cons_zero, List.set_cons_succ]
          refine wpAnyH_take (i := 1) (oi := ⟨some 67, _, _, _, _, _⟩) (v := _) rfl (by kernel_rfl) (by kernel_rfl) (by kernel_rfl) (fun _ _ _ h => h) (Or.inl ⟨by kernel_rfl, by intro w hSw; (try dsimp only at hSw); go_simp; try with_reducible rfl⟩) (by assumption) ?_
          simp only [Act.put, List.setIfInBounds_toArray, List.set_cons_zero, List.set_cons_succ]
          refine wpAnyH_take (i := 2) (oi := ⟨some 68, _, _, _, _, _⟩) (v := _) rfl (by kernel_rfl) (by kernel_rfl) (by kernel_rfl) (fun _ _ _ h => h) (Or.inl ⟨by kernel_rfl, by intro w hSw; (try dsimp only at hSw); go_simp; try with_reducible rfl⟩) (by assumption) ?_
          simp only [Act.put, List.setIfInBounds_toArray, List.set_cons_zero, List.set_cons_succ]
          refine wpAnyH_take (i := 3) (oi := ⟨some 69, _, _, _, _, _⟩) (v := _) rfl (by kernel_rfl) (by kernel_rfl) (by kernel_rfl) (fun _ _ _ h => h) (Or.inl ⟨by kernel_rfl, by intro w hSw; (try dsimp only at hSw); go_simp; try with_reducible rfl⟩) (by assumption) ?_
          simp only [Act.put, List.setIfInBounds_toArray, List.set_cons_zero, List.set_cons_succ]
          refine wpAnyH_ready (rs := [4]) (by kernel_rfl) (by simp) ?_
          refine AllReadyH.cons (o := ⟨some 70, _, _, _, _, _⟩) rfl (fun K hK => ?_) AllReadyH.nil
          go_simp
          go_at_call 53
          refine (pick_any B (k + 1 + 1 + 4 + 1) g _ 9 _ hr7.drew (by omega) (by omega)).mono ?_
          rintro e x7 ⟨x, rfl, hm9, hrx, bo9⟩
          have xr := hm9.rng (m := 9) (by omega) (by omega)
          have bo1 := only_drew bo9
          replace c10 := keepO bo1 (by first | (simp; done) | (simp; omega)) c10; replace c11 := keepO bo1 (by first | (simp; done) | (simp; omega)) c11; replace c12 := keepO bo1 (by first | (simp; done) | (simp; omega)) c12; replace c13 := keepO bo1 (by first | (simp; done) | (simp; omega)) c13; replace c14 := keepO bo1 (by first | (simp; done) | (simp; omega)) c14; replace c15 := keepO bo1 (by first | (simp; done) | (simp; omega)) c15; replace c16 := keepO bo1 (by first | (simp; done) | (simp; omega)) c16; replace q0 := keepO bo1 (by first | (simp; done) | (simp; omega)) q0; replace y0 := keepO bo1 (by first | (simp; done) | (simp; omega)) y0; replace y1 := keepO bo1 (by first | (simp; done) | (simp; omega)) y1; replace y2 := keepO bo1 (by first | (simp; done) | (simp; omega)) y2; replace y3 := keepO bo1 (by first | (simp; done) | (simp; omega)) y3
          replace f10 := keepOF bo1 (by first | (simp; done) | (simp; omega)) f10; replace f11 := keepOF bo1 (by first | (simp; done) | (simp; omega)) f11; replace f12 := keepOF bo1 (by first | (simp; done) | (simp; omega)) f12; replace f13 := keepOF bo1 (by first | (simp; done) | (simp; omega)) f13; replace f14 := keepOF bo1 (by first | (simp; done) | (simp; omega)) f14; replace f15 := keepOF bo1 (by first | (simp; done) | (simp; omega)) f15; replace f16 := keepOF bo1 (by first | (simp; done) | (simp; omega)) f16
          have hgx := grown_trans hgr7 (grown_only bo1)
          have g3 : IntKind.i64.wrap (1 + x) = 1 + x := IntWalk.i64_in _ (by omega)
          clear hm9 bo9
          go_wp2_with fail
          refine hK.out _ _ ?_ (fun hHeld2 => ?_)
          · (first | (try dsimp only); go_keep | (go_split_ands; refine ⟨?_, ?_, ?_, ?_, ?_⟩ <;> first | exact keepB bx5 (by assumption) | exact keepB bx4 (by assumption) | exact keepB bx3 (by assumption) | exact keepB bx2 (by assumption) | exact keepB bx1 (by assumption) | exact keepO bo5 (by first | (simp; done) | (simp; omega)) (by assumption) | exact keepO bo4 (by first | (simp; done) | (simp; omega)) (by assumption) | exact keepO bo3 (by first | (simp; done) | (simp; omega)) (by assumption) | exact keepO bo2 (by first | (simp; done) | (simp; omega)) (by assumption) | exact keepO bo1 (by first | (simp; done) | (simp; omega)) (by assumption) | exact keepW bg2 (by first | (simp; done) | (simp; omega)) (by assumption) | exact keepW bg1 (by first | (simp; done) | (simp; omega)) (by assumption) | assumption))
          clear hK K hHeld
          have hHeld := hHeld2
          clear hHeld2
          try simp only [Act.put, List.setIfInBounds_toArray, List.set_cons_zero, List.set_cons_succ]
          refine wpAnyH_take (i := 5) (oi := ⟨some 71, _, _, _, _, _⟩) (v := _) rfl (by kernel_rfl) (by kernel_rfl) (by kernel_rfl) (fun _ _ _ h => h) (Or.inl ⟨by kernel_rfl, by intro w hSw; (try dsimp only at hSw); go_simp; try with_reducible rfl⟩) (by assumption) ?_
          simp only [Act.put, List.setIfInBounds_toArray, List.set_cons_zero, List.set_cons_succ]
          refine wpAnyH_take (i := 6) (oi := ⟨some 72, _, _, _, _, _⟩) (v := _) rfl (by kernel_rfl) (by kernel_rfl) (by kernel_rfl) (fun _ _ _ h => h) (Or.inl ⟨by kernel_rfl, by intro w hSw; (try dsimp only at hSw); go_simp; try with_reducible rfl⟩) (by assumption) ?_
          simp only [Act.put, List.setIfInBounds_toArray, List.set_cons_zero, List.set_cons_succ]
          refine wpAnyH_ready (rs := [7]) (by kernel_rfl) (by simp) ?_
          refine AllReadyH.cons (o := ⟨none, _, _, _, _, _⟩) rfl (fun K hK => ?_) AllReadyH.nil
          go_simp
          refine hK.out _ _ ?_ (fun hHeld2 => ?_)
          · (first | (try dsimp only); go_keep | (go_split_ands; refine ⟨?_, ?_, ?_, ?_, ?_⟩ <;> first | exact keepB bx5 (by assumption) | exact keepB bx4 (by assumption) | exact keepB bx3 (by assumption) | exact keepB bx2 (by assumption) | exact keepB bx1 (by assumption) | exact keepO bo5 (by first | (simp; done) | (simp; omega)) (by assumption) | exact keepO bo4 (by first | (simp; done) | (simp; omega)) (by assumption) | exact keepO bo3 (by first | (simp; done) | (simp; omega)) (by assumption) | exact keepO bo2 (by first | (simp; done) | (simp; omega)) (by assumption) | exact keepO bo1 (by first | (simp; done) | (simp; omega)) (by assumption) | exact keepW bg2 (by first | (simp; done) | (simp; omega)) (by assumption) | exact keepW bg1 (by first | (simp; done) | (simp; omega)) (by assumption) | assumption))
          clear hK K hHeld
          have hHeld := hHeld2
          clear hHeld2
          try simp only [Act.put, List.setIfInBounds_toArray, List.set_cons_zero, List.set_cons_succ]
          refine wpAnyH_done (by kernel_rfl) ?_ _
          clear hr7 hgr7 bo1
          go_wp2
          refine bodyPost_ret (v := .agg #[.int .i64 1, .int .i64 lb, .int .i64 l, .int .i64 m1, .int .i64 f, .int .i64 m3, .int .i64 (1 + x)]) (by simp [results, Tryd.results52, go_sem, *]) rfl ⟨⟨1, lb, l, m1, f, m3, 1 + x⟩, k + 1 + 1 + 4 + 1 + 1, rfl, v64_mk ⟨by omega, by omega⟩ ⟨by omega, by omega⟩ ⟨by omega, by omega⟩ ⟨by omega, by omega⟩ ⟨by omega, by omega⟩ ⟨by omega, by omega⟩ ⟨by omega, by omega⟩, by omega, ?_, ?_⟩
          · exact (((((((hrx.set ⟨by show B ≤ w.heap.size + 1; omega, by show ¬ w.heap.size + 1 = g; omega⟩ _).set ⟨by show B ≤ w.heap.size + 1; omega, by show ¬ w.heap.size + 1 = g; omega⟩ _).set ⟨by show B ≤ w.heap.size + 1; omega, by show ¬ w.heap.size + 1 = g; omega⟩ _).set ⟨by show B ≤ w.heap.size + 1; omega, by show ¬ w.heap.size + 1 = g; omega⟩ _).set ⟨by show B ≤ w.heap.size + 1; omega, by show ¬ w.heap.size + 1 = g; omega⟩ _).set ⟨by show B ≤ w.heap.size + 1; omega, by show ¬ w.heap.size + 1 = g; omega⟩ _).set ⟨by show B ≤ w.heap.size + 1; omega, by show ¬ w.heap.size + 1 = g; omega⟩ _)
          · exact (grown_setCell (grown_setCell (grown_setCell (grown_setCell (grown_setCell (grown_setCell (grown_setCell hgx (by show w.heap.size ≤ w.heap.size + 1; omega) _) (by show w.heap.size ≤ w.heap.size + 1; omega) _) (by show w.heap.size ≤ w.heap.size + 1; omega) _) (by show w.heap.size ≤ w.heap.size + 1; omega) _) (by show w.heap.size ≤ w.heap.size + 1; omega) _) (by show w.heap.size ≤ w.heap.size + 1; omega) _) (by show w.heap.size ≤ w.heap.size + 1; omega) _)
        have e1 : (y6 == 1) = false := beq_f hy
        clear hy
        by_cases hy : y6 = 2
        · have e2 : (y6 == 2) = true := beq_t hy
          have hr7 := hrc
          have hgr7 := hgrc
          clear hrc hgrc hy
          go_wp2_with fail
          refine (pick_any B (k + 1 + 1 + 4 + 1) g _ 3 w6 hr7 (by omega) (by omega)).mono ?_
          rintro e w7 ⟨y3, rfl, hm9, hr8, bo9⟩
          have y3_r := hm9.rng (m := 3) (by omega) (by omega)
          replace c10 := keepO bo9 (by first | (simp; done) | (simp; omega)) c10; replace c11 := keepO bo9 (by first | (simp; done) | (simp; omega)) c11; replace c12 := keepO bo9 (by first | (simp; done) | (simp; omega)) c12; replace c13 := keepO bo9 (by first | (simp; done) | (simp; omega)) c13; replace c14 := keepO bo9 (by first | (simp; done) | (simp; omega)) c14; replace c15 := keepO bo9 (by first | (simp; done) | (simp; omega)) c15; replace c16 := keepO bo9 (by first | (simp; done) | (simp; omega)) c16; replace q0 := keepO bo9 (by first | (simp; done) | (simp; omega)) q0; replace q1 := keepO bo9 (by first | (simp; done) | (simp; omega)) q1; replace q2 := keepO bo9 (by first | (simp; done) | (simp; omega)) q2; replace q3 := keepO bo9 (by first | (simp; done) | (simp; omega)) q3; replace q4 := keepO bo9 (by first | (simp; done) | (simp; omega)) q4; replace p0 := keepO bo9 (by first | (simp; done) | (simp; omega)) p0; replace p1 := keepO bo9 (by first | (simp; done) | (simp; omega)) p1; replace p2 := keepO bo9 (by first | (simp; done) | (simp; omega)) p2; replace p3 := keepO bo9 (by first | (simp; done) | (simp; omega)) p3
          replace f10 := keepOF bo9 (by first | (simp; done) | (simp; omega)) f10; replace f11 := keepOF bo9 (by first | (simp; done) | (simp; omega)) f11; replace f12 := keepOF bo9 (by first | (simp; done) | (simp; omega)) f12; replace f13 := keepOF bo9 (by first | (simp; done) | (simp; omega)) f13; replace f14 := keepOF bo9 (by first | (simp; done) | (simp; omega)) f14; replace f15 := keepOF bo9 (by first | (simp; done) | (simp; omega)) f15; replace f16 := keepOF bo9 (by first | (simp; done) | (simp; omega)) f16; replace fp0 := keepOF bo9 (by first | (simp; done) | (simp; omega)) fp0; replace fp1 := keepOF bo9 (by first | (simp; done) | (simp; omega)) fp1; replace fp2 := keepOF bo9 (by first | (simp; done) | (simp; omega)) fp2; replace fp3 := keepOF bo9 (by first | (simp; done) | (simp; omega)) fp3
          have hgr8 := grown_trans hgr7 (grown_only bo9)
          have hz_w7 : w.heap.size + 1 < w7.heap.size := by have := bo9.size; omega
          clear bo9 hm9 hr7 hgr7
          have hr7 := hr8
          have hgr7 := hgr8
          clear hr8 hgr8
          by_cases hy3 : y3 = 0
          · have e4 : (y3 == 0) = true := beq_t hy3
            clear hy3
            go_wp2_with fail
            refine wp_region_held_drew (S := fun w' => w'.cell? ⟨N, 0, none⟩ = some (.int .i64 lb) ∧ w'.cell? ⟨N, 1, none⟩ = some (.int .i64 W)) (by kernel_rfl) ?_ (fun hHeld => ?_)
            · (first | (try dsimp only); go_keep | (go_split_ands; refine ⟨?_, ?_⟩ <;> first | exact keepB bx5 (by assumption) | exact keepB bx4 (by assumption) | exact keepB bx3 (by assumption) | exact keepB bx2 (by assumption) | exact keepB bx1 (by assumption) | exact keepO bo5 (by first | (simp; done) | (simp; omega)) (by assumption) | exact keepO bo4 (by first | (simp; done) | (simp; omega)) (by assumption) | exact keepO bo3 (by first | (simp; done) | (simp; omega)) (by assumption) | exact keepO bo2 (by first | (simp; done) | (simp; omega)) (by assumption) | exact keepO bo1 (by first | (simp; done) | (simp; omega)) (by assumption) | exact keepW bg2 (by first | (simp; done) | (simp; omega)) (by assumption) | exact keepW bg1 (by first | (simp; done) | (simp; omega)) (by assumption) | assumption))
            refine wpAnyH_take (i := 0) (oi := ⟨some 78, _, _, _, _, _⟩) (v := _) rfl (by kernel_rfl) (by kernel_rfl) (by kernel_rfl) (fun _ _ _ h => h) (Or.inl ⟨by kernel_rfl, by intro w hSw; (try dsimp only at hSw); go_simp; try with_reducible rfl⟩) (by assumption) ?_
            simp only [Act.put, List.setIfInBounds_toArray, List.set_cons_zero, List.set_cons_succ]
            refine wpAnyH_take (i := 1) (oi := ⟨some 79, _, _, _, _, _⟩) (v := _) rfl (by kernel_rfl) (by kernel_rfl) (by kernel_rfl) (fun _ _ _ h => h) (Or.inl ⟨by kernel_rfl, by intro w hSw; (try dsimp only at hSw); go_simp; try with_reducible rfl⟩) (by assumption) ?_
            simp only [Act.put, List.setIfInBounds_toArray, List.set_cons_zero, List.set_cons_succ]
            refine wpAnyH_take (i := 2) (oi := ⟨some 80, _, _, _, _, _⟩) (v := _) rfl (by kernel_rfl) (by kernel_rfl) (by kernel_rfl) (fun _ _ _ h => h) (Or.inl ⟨by kernel_rfl, by intro w hSw; (try dsimp only at hSw); go_simp; try with_reducible rfl⟩) (by assumption) ?_
            simp only [Act.put, List.setIfInBounds_toArray, List.set_cons_zero, List.set_cons_succ]
            refine wpAnyH_ready (rs := [3]) (by kernel_rfl) (by simp) ?_
            refine AllReadyH.cons (o := ⟨some 81, _, _, _, _, _⟩) rfl (fun K hK => ?_) AllReadyH.nil
            go_simp
            go_at_call 53
            refine (pick_any B (k + 1 + 1 + 4 + 1 + 1) g _ 10 _ hr7.drew (by omega) (by omega)).mono ?_
            rintro e x7 ⟨x, rfl, hm9, hrx, bo9⟩
            have xr := hm9.rng (m := 10) (by omega) (by omega)
            have bo1 := only_drew bo9
            replace c10 := keepO bo1 (by first | (simp; done) | (simp; omega)) c10; replace c11 := keepO bo1 (by first | (simp; done) | (simp; omega)) c11; replace c12 := keepO bo1 (by first | (simp; done) | (simp; omega)) c12; replace c13 := keepO bo1 (by first | (simp; done) | (simp; omega)) c13; replace c14 := keepO bo1 (by first | (simp; done) | (simp; omega)) c14; replace c15 := keepO bo1 (by first | (simp; done) | (simp; omega)) c15; replace c16 := keepO bo1 (by first | (simp; done) | (simp; omega)) c16; replace q0 := keepO bo1 (by first | (simp; done) | (simp; omega)) q0; replace q1 := keepO bo1 (by first | (simp; done) | (simp; omega)) q1; replace q2 := keepO bo1 (by first | (simp; done) | (simp; omega)) q2; replace q3 := keepO bo1 (by first | (simp; done) | (simp; omega)) q3; replace q4 := keepO bo1 (by first | (simp; done) | (simp; omega)) q4; replace p0 := keepO bo1 (by first | (simp; done) | (simp; omega)) p0; replace p1 := keepO bo1 (by first | (simp; done) | (simp; omega)) p1; replace p2 := keepO bo1 (by first | (simp; done) | (simp; omega)) p2; replace p3 := keepO bo1 (by first | (simp; done) | (simp; omega)) p3
            replace f10 := keepOF bo1 (by first | (simp; done) | (simp; omega)) f10; replace f11 := keepOF bo1 (by first | (simp; done) | (simp; omega)) f11; replace f12 := keepOF bo1 (by first | (simp; done) | (simp; omega)) f12; replace f13 := keepOF bo1 (by first | (simp; done) | (simp; omega)) f13; replace f14 := keepOF bo1 (by first | (simp; done) | (simp; omega)) f14; replace f15 := keepOF bo1 (by first | (simp; done) | (simp; omega)) f15; replace f16 := keepOF bo1 (by first | (simp; done) | (simp; omega)) f16
            have hgx := grown_trans hgr7 (grown_only bo1)
            clear hm9 bo9
            go_wp2_with fail
            refine hK.out _ _ ?_ (fun hHeld2 => ?_)
            · (first | (try dsimp only); go_keep | (go_split_ands; refine ⟨?_, ?_⟩ <;> first | exact keepB bx5 (by assumption) | exact keepB bx4 (by assumption) | exact keepB bx3 (by assumption) | exact keepB bx2 (by assumption) | exact keepB bx1 (by assumption) | exact keepO bo5 (by first | (simp; done) | (simp; omega)) (by assumption) | exact keepO bo4 (by first | (simp; done) | (simp; omega)) (by assumption) | exact keepO bo3 (by first | (simp; done) | (simp; omega)) (by assumption) | exact keepO bo2 (by first | (simp; done) | (simp; omega)) (by assumption) | exact keepO bo1 (by first | (simp; done) | (simp; omega)) (by assumption) | exact keepW bg2 (by first | (simp; done) | (simp; omega)) (by assumption) | exact keepW bg1 (by first | (simp; done) | (simp; omega)) (by assumption) | assumption))
            clear hK K hHeld
            have hHeld := hHeld2
            clear hHeld2
            try simp only [Act.put, List.setIfInBounds_toArray, List.set_cons_zero, List.set_cons_succ]
            refine wpAnyH_take (i := 4) (oi := ⟨some 82, _, _, _, _, _⟩) (v := _) rfl (by kernel_rfl) (by kernel_rfl) (by kernel_rfl) (fun _ _ _ h => h) (Or.inl ⟨by kernel_rfl, by intro w hSw; (try dsimp only at hSw); go_simp; try with_reducible rfl⟩) (by assumption) ?_
            simp only [Act.put, List.setIfInBounds_toArray, List.set_cons_zero, List.set_cons_succ]
            refine wpAnyH_ready (rs := [5]) (by kernel_rfl) (by simp) ?_
            refine AllReadyH.cons (o := ⟨none, _, _, _, _, _⟩) rfl (fun K hK => ?_) AllReadyH.nil
            go_simp
            refine hK.out _ _ ?_ (fun hHeld2 => ?_)
            · (first | (try dsimp only); go_keep | (go_split_ands; refine ⟨?_, ?_⟩ <;> first | exact keepB bx5 (by assumption) | exact keepB bx4 (by assumption) | exact keepB bx3 (by assumption) | exact keepB bx2 (by assumption) | exact keepB bx1 (by assumption) | exact keepO bo5 (by first | (simp; done) | (simp; omega)) (by assumption) | exact keepO bo4 (by first | (simp; done) | (simp; omega)) (by assumption) | exact keepO bo3 (by first | (simp; done) | (simp; omega)) (by assumption) | exact keepO bo2 (by first | (simp; done) | (simp; omega)) (by assumption) | exact keepO bo1 (by first | (simp; done) | (simp; omega)) (by assumption) | exact keepW bg2 (by first | (simp; done) | (simp; omega)) (by assumption) | exact keepW bg1 (by first | (simp; done) | (simp; omega)) (by assumption) | assumption))
            clear hK K hHeld
            have hHeld := hHeld2
            clear hHeld2
            try simp only [Act.put, List.setIfInBounds_toArray, List.set_cons_zero, List.set_cons_succ]
            refine wpAnyH_done (by kernel_rfl) ?_ _
            clear hr7 hgr7 bo1
            go_wp2
            refine bodyPost_ret (v := .agg #[.int .i64 3, .int .i64 lb, .int .i64 0, .int .i64 0, .int .i64 0, .int .i64 0, .int .i64 x]) (by simp [results, Tryd.results52, go_sem, *]) rfl ⟨⟨3, lb, 0, 0, 0, 0, x⟩, k + 1 + 1 + 4 + 1 + 1 + 1, rfl, v64_mk ⟨by omega, by omega⟩ ⟨by omega, by omega⟩ ⟨by omega, by omega⟩ ⟨by omega, by omega⟩ ⟨by omega, by omega⟩ ⟨by omega, by omega⟩ ⟨by omega, by omega⟩, by omega, ?_, ?_⟩
            · exact (((((((hrx.set ⟨by show B ≤ w.heap.size + 1; omega, by show ¬ w.heap.size + 1 = g; omega⟩ _).set ⟨by show B ≤ w.heap.size + 1; omega, by show ¬ w.heap.size + 1 = g; omega⟩ _).set ⟨by show B ≤ w.heap.size + 1; omega, by show ¬ w.heap.size + 1 = g; omega⟩ _).set ⟨by show B ≤ w.heap.size + 1; omega, by show ¬ w.heap.size + 1 = g; omega⟩ _).set ⟨by show B ≤ w.heap.size + 1; omega, by show ¬ w.heap.size + 1 = g; omega⟩ _).set ⟨by show B ≤ w.heap.size + 1; omega, by show ¬ w.heap.size + 1 = g; omega⟩ _).set ⟨by show B ≤ w.heap.size + 1; omega, by show ¬ w.heap.size + 1 = g; omega⟩ _)
            · exact (grown_setCell (grown_setCell (grown_setCell (grown_setCell (grown_setCell (grown_setCell (grown_setCell hgx (by show w.heap.size ≤ w.heap.size + 1; omega) _) (by show w.heap.size ≤ w.heap.size + 1; omega) _) (by show w.heap.size ≤ w.heap.size + 1; omega) _) (by show w.heap.size ≤ w.heap.size + 1; omega) _) (by show w.heap.size ≤ w.heap.size + 1; omega) _) (by show w.heap.size ≤ w.heap.size + 1; omega) _) (by show w.heap.size ≤ w.heap.size + 1; omega) _)
          have e4 : (y3 == 0) = false := beq_f hy3
          go_wp2
          refine bodyPost_ret (v := .agg #[.int .i64 2, .int .i64 lb, .int .i64 l, .int .i64 r, .int .i64 f, .int .i64 t, .int .i64 0]) (by simp [results, Tryd.results52, go_sem, *]) rfl ⟨⟨2, lb, l, r, f, t, 0⟩, k + 1 + 1 + 4 + 1 + 1, rfl, v64_mk ⟨by omega, by omega⟩ ⟨by omega, by omega⟩ ⟨by omega, by omega⟩ ⟨by omega, by omega⟩ ⟨by omega, by omega⟩ ⟨by omega, by omega⟩ ⟨by omega, by omega⟩, by omega, ?_, ?_⟩
          · exact (((((((hr7.set ⟨by show B ≤ w.heap.size + 1; omega, by show ¬ w.heap.size + 1 = g; omega⟩ _).set ⟨by show B ≤ w.heap.size + 1; omega, by show ¬ w.heap.size + 1 = g; omega⟩ _).set ⟨by show B ≤ w.heap.size + 1; omega, by show ¬ w.heap.size + 1 = g; omega⟩ _).set ⟨by show B ≤ w.heap.size + 1; omega, by show ¬ w.heap.size + 1 = g; omega⟩ _).set ⟨by show B ≤ w.heap.size + 1; omega, by show ¬ w.heap.size + 1 = g; omega⟩ _).set ⟨by show B ≤ w.heap.size + 1; omega, by show ¬ w.heap.size + 1 = g; omega⟩ _).set ⟨by show B ≤ w.heap.size + 1; omega, by show ¬ w.heap.size + 1 = g; omega⟩ _)
          · exact (grown_setCell (grown_setCell (grown_setCell (grown_setCell (grown_setCell (grown_setCell (grown_setCell hgr7 (by show w.heap.size ≤ w.heap.size + 1; omega) _) (by show w.heap.size ≤ w.heap.size + 1; omega) _) (by show w.heap.size ≤ w.heap.size + 1; omega) _) (by show w.heap.size ≤ w.heap.size + 1; omega) _) (by show w.heap.size ≤ w.heap.size + 1; omega) _) (by show w.heap.size ≤ w.heap.size + 1; omega) _) (by show w.heap.size ≤ w.heap.size + 1; omega) _)
        have e2 : (y6 == 2) = false := beq_f hy
        clear hy
        by_cases hy3 : y6 = 3
        · have e3 : (y6 == 3) = true := beq_t hy3
          clear hy3
          go_wp2
          refine bodyPost_ret (v := .agg #[.int .i64 2, .int .i64 lb, .int .i64 0, .int .i64 W, .int .i64 f, .int .i64 t, .int .i64 0]) (by simp [results, Tryd.results52, go_sem, *]) rfl ⟨⟨2, lb, 0, W, f, t, 0⟩, k + 1 + 1 + 4 + 1, rfl, v64_mk ⟨by omega, by omega⟩ ⟨by omega, by omega⟩ ⟨by omega, by omega⟩ ⟨by omega, by omega⟩ ⟨by omega, by omega⟩ ⟨by omega, by omega⟩ ⟨by omega, by omega⟩, by omega, ?_, ?_⟩
          · exact (((((((((hrc.set ⟨by show B ≤ P; omega, by show ¬ P = g; omega⟩ _).set ⟨by show B ≤ P; omega, by show ¬ P = g; omega⟩ _).set ⟨by show B ≤ w.heap.size + 1; omega, by show ¬ w.heap.size + 1 = g; omega⟩ _).set ⟨by show B ≤ w.heap.size + 1; omega, by show ¬ w.heap.size + 1 = g; omega⟩ _).set ⟨by show B ≤ w.heap.size + 1; omega, by show ¬ w.heap.size + 1 = g; omega⟩ _).set ⟨by show B ≤ w.heap.size + 1; omega, by show ¬ w.heap.size + 1 = g; omega⟩ _).set ⟨by show B ≤ w.heap.size + 1; omega, by show ¬ w.heap.size + 1 = g; omega⟩ _).set ⟨by show B ≤ w.heap.size + 1; omega, by show ¬ w.heap.size + 1 = g; omega⟩ _).set ⟨by show B ≤ w.heap.size + 1; omega, by show ¬ w.heap.size + 1 = g; omega⟩ _)
          · exact (grown_setCell (grown_setCell (grown_setCell (grown_setCell (grown_setCell (grown_setCell (grown_setCell (grown_setCell (grown_setCell hgrc (by show w.heap.size ≤ P; omega) _) (by show w.heap.size ≤ P; omega) _) (by show w.heap.size ≤ w.heap.size + 1; omega) _) (by show w.heap.size ≤ w.heap.size + 1; omega) _) (by show w.heap.size ≤ w.heap.size + 1; omega) _) (by show w.heap.size ≤ w.heap.size + 1; omega) _) (by show w.heap.size ≤ w.heap.size + 1; omega) _) (by show w.heap.size ≤ w.heap.size + 1; omega) _) (by show w.heap.size ≤ w.heap.size + 1; omega) _)
        have e3 : (y6 == 3) = false := beq_f hy3
        clear hy3
        go_wp2
        refine bodyPost_ret (v := .agg #[.int .i64 2, .int .i64 lb, .int .i64 l, .int .i64 r, .int .i64 f, .int .i64 t, .int .i64 0]) (by simp [results, Tryd.results52, go_sem, *]) rfl ⟨⟨2, lb, l, r, f, t, 0⟩, k + 1 + 1 + 4 + 1, rfl, v64_mk ⟨by omega, by omega⟩ ⟨by omega, by omega⟩ ⟨by omega, by omega⟩ ⟨by omega, by omega⟩ ⟨by omega, by omega⟩ ⟨by omega, by omega⟩ ⟨by omega, by omega⟩, by omega, ?_, ?_⟩
        · exact (((((((hrc.set ⟨by show B ≤ w.heap.size + 1; omega, by show ¬ w.heap.size + 1 = g; omega⟩ _).set ⟨by show B ≤ w.heap.size + 1; omega, by show ¬ w.heap.size + 1 = g; omega⟩ _).set ⟨by show B ≤ w.heap.size + 1; omega, by show ¬ w.heap.size + 1 = g; omega⟩ _).set ⟨by show B ≤ w.heap.size + 1; omega, by show ¬ w.heap.size + 1 = g; omega⟩ _).set ⟨by show B ≤ w.heap.size + 1; omega, by show ¬ w.heap.size + 1 = g; omega⟩ _).set ⟨by show B ≤ w.heap.size + 1; omega, by show ¬ w.heap.size + 1 = g; omega⟩ _).set ⟨by show B ≤ w.heap.size + 1; omega, by show ¬ w.heap.size + 1 = g; omega⟩ _)
        · exact (grown_setCell (grown_setCell (grown_setCell (grown_setCell (grown_setCell (grown_setCell (grown_setCell hgrc (by show w.heap.size ≤ w.heap.size + 1; omega) _) (by show w.heap.size ≤ w.heap.size + 1; omega) _) (by show w.heap.size ≤ w.heap.size + 1; omega) _) (by show w.heap.size ≤ w.heap.size + 1; omega) _) (by show w.heap.size ≤ w.heap.size + 1; omega) _) (by show w.heap.size ≤ w.heap.size + 1; omega) _) (by show w.heap.size ≤ w.heap.size + 1; omega) _)
end Go.Proofs.YtlabekemifccaaaDoor
