/-
  Lemmas and contracts of single functions of this program, used by the proofs of its laws: what each call returns and what becomes of memory. Conditions: the hypotheses of each theorem.
-/
import Derived.Test.YtcebdokdekgeaaaReelF
namespace Go.Proofs.Ytcebdokdekgeaaa
open Go.RowKit
attribute [local go_sem ↓] Go.wp_at_zero Go.wp_at_succ

def pv (p : List Int) (W L : Int) : Bool := insB (gi p 0) (gi p 1) (gi p 2) (gi p 3) W L
set_option maxHeartbeats 1000000 in
theorem ValidPart_any (lo hi : Nat) (W L : Int) (v : Value) (ds : List (List Int)) (l r f t : Int) (w : World) (h : TS w lo hi 5 v ds) (hhi : hi ≤ w.heap.size) :
    Calls Try.prog 82 #[.agg #[.int .i64 W, .int .i64 L, v], .agg #[.int .i64 l, .int .i64 r, .int .i64 f, .int .i64 t]] w fun e w' => e = .returned (.bool (vReel W L ds && insB l r f t W L)) ∧ Below w.heap.size w w' := by
  obtain ⟨A, c, rfl, hc, hm⟩ := h.form
  have Hs := Lib.hid (show ∃ w1, w1 = ((w.alloc (.cells #[.int .i64 W, .int .i64 L, .slice A ds.length c] 32)).alloc (.cells #[.int .i64 l, .int .i64 r, .int .i64 f, .int .i64 t] 38)) ∧ Below w.heap.size w w1 ∧ w1.cell? ⟨w.heap.size, 0, none⟩ = some (.int .i64 W) ∧ w1.cell? ⟨w.heap.size, 1, none⟩ = some (.int .i64 L) ∧ w1.cell? ⟨w.heap.size, 2, none⟩ = some (.slice A ds.length c) ∧ w1.cell? ⟨w.heap.size + 1, 0, none⟩ = some (.int .i64 l) ∧ w1.cell? ⟨w.heap.size + 1, 1, none⟩ = some (.int .i64 r) ∧ w1.cell? ⟨w.heap.size + 1, 2, none⟩ = some (.int .i64 f) ∧ w1.cell? ⟨w.heap.size + 1, 3, none⟩ = some (.int .i64 t) ∧ TS w1 lo hi 5 (.slice A ds.length c) ds ∧ w.heap.size + 1 < w1.heap.size from by
    have hb : Below w.heap.size w ((w.alloc (.cells #[.int .i64 W, .int .i64 L, .slice A ds.length c] 32)).alloc (.cells #[.int .i64 l, .int .i64 r, .int .i64 f, .int .i64 t] 38)) := ((Below.refl _ _).alloc (Nat.le_refl _) _).alloc (by simp) _
    exact ⟨_, rfl, hb, by go_simp, by go_simp, by go_simp, by go_simp, by go_simp, by go_simp, by go_simp, h.below hb hhi, by simp⟩)
  go_enter Try.func82, Try.ntmps82
  go_wp2_with (fail)
  obtain ⟨w1, hw1, hb0, c00, c01, c02, c10, c11, c12, c13, hT0, hz⟩ := Hs.out
  rw [← hw1]
  clear hw1 Hs
  refine (ValidReel_any lo hi W L _ ds w1 hT0 (by omega)).mono ?_
  rintro e x1 ⟨rfl, bx1⟩
  replace c00 := keepB bx1 c00; replace c01 := keepB bx1 c01; replace c10 := keepB bx1 c10; replace c11 := keepB bx1 c11; replace c12 := keepB bx1 c12; replace c13 := keepB bx1 c13
  go_wp2_with (go_at_call 66; refine (inside_any _ _ _ _ _ _ x1).mono ?_; rintro e x2 ⟨rfl, bx2⟩)
  all_goals go_ret
  · exact ⟨ret_bool (by simp [*]), hb0.trans ((bx1.mono (by omega)).trans (bx2.mono (by have := bx1.size; omega)))⟩
  · exact ⟨ret_bool (by simp [*]), hb0.trans (bx1.mono (by omega))⟩
set_option maxRecDepth 100000 in
set_option maxHeartbeats 1000000 in
theorem WorstOf_any (lo hi : Nat) (W L : Int) (v : Value) (ds : List (List Int)) (l r f t : Int) (w : World) (h : TS w lo hi 5 v ds) (hhi : hi ≤ w.heap.size) :
    Calls Try.prog 56 #[.agg #[.int .i64 W, .int .i64 L, v], .agg #[.int .i64 l, .int .i64 r, .int .i64 f, .int .i64 t]] w fun e w' => e = .returned (.int .i64 (if (vReel W L ds && insB l r f t W L) = true then worstL ds [l, r, f, t] else -1)) ∧ Below w.heap.size w w' := by
  obtain ⟨A, c, rfl, hc, hm⟩ := h.form
  obtain ⟨R, hR⟩ : ∃ R, R = if (vReel W L ds && insB l r f t W L) = true then worstL ds [l, r, f, t] else -1 := ⟨_, rfl⟩
  have HR := Lib.hid hR
  rw [← hR]
  clear hR
  have Hs := Lib.hid (show ∃ w1, w1 = ((w.alloc (.cells #[.int .i64 W, .int .i64 L, .slice A ds.length c] 32)).alloc (.cells #[.int .i64 l, .int .i64 r, .int .i64 f, .int .i64 t] 38)) ∧ Below w.heap.size w w1 ∧ w1.cell? ⟨w.heap.size, 0, none⟩ = some (.int .i64 W) ∧ w1.cell? ⟨w.heap.size, 1, none⟩ = some (.int .i64 L) ∧ w1.cell? ⟨w.heap.size, 2, none⟩ = some (.slice A ds.length c) ∧ w1.cell? ⟨w.heap.size + 1, 0, none⟩ = some (.int .i64 l) ∧ w1.cell? ⟨w.heap.size + 1, 1, none⟩ = some (.int .i64 r) ∧ w1.cell? ⟨w.heap.size + 1, 2, none⟩ = some (.int .i64 f) ∧ w1.cell? ⟨w.heap.size + 1, 3, none⟩ = some (.int .i64 t) ∧ TS w1 lo hi 5 (.slice A ds.length c) ds ∧ w.heap.size + 1 < w1.heap.size from by
    have hb : Below w.heap.size w ((w.alloc (.cells #[.int .i64 W, .int .i64 L, .slice A ds.length c] 32)).alloc (.cells #[.int .i64 l, .int .i64 r, .int .i64 f, .int .i64 t] 38)) := ((Below.refl _ _).alloc (Nat.le_refl _) _).alloc (by simp) _
    exact ⟨_, rfl, hb, by go_simp, by go_simp, by go_simp, by go_simp, by go_simp, by go_simp, by go_simp, h.below hb hhi, by simp⟩)
  go_enter Try.func56, Try.ntmps56
  go_wp2_with (fail)
  obtain ⟨w1, hw1, hb0, c00, c01, c02, c10, c11, c12, c13, hT0, hz⟩ := Hs.out
  rw [← hw1]
  clear hw1 Hs
  refine (ValidPart_any lo hi W L _ ds l r f t w1 hT0 (by omega)).mono ?_
  obtain ⟨vp, hvp⟩ : ∃ vp, vp = (vReel W L ds && insB l r f t W L) := ⟨_, rfl⟩
  rw [← hvp]
  have HR2 := Lib.hid (show R = if vp = true then worstL ds [l, r, f, t] else -1 by rw [hvp]; exact HR.out)
  clear hvp HR
  rintro e x1 ⟨rfl, bx1⟩
  replace c00 := keepB bx1 c00; replace c01 := keepB bx1 c01; replace c02 := keepB bx1 c02; replace c10 := keepB bx1 c10; replace c11 := keepB bx1 c11; replace c12 := keepB bx1 c12; replace c13 := keepB bx1 c13
  have h1 := hT0.below bx1 (by omega)
  have bz1 := bx1.size
  have Hb1 := Lib.hid (hb0.trans (bx1.mono (Nat.le_trans (Nat.le_succ _) (Nat.le_of_lt hz))))
  clear bx1 hT0 hb0
  cases vp
  · go_wp2
    go_ret
    exact ⟨ret_int (by rw [HR2.out]; rfl), Hb1.out⟩
  · go_wp2
    go_loopw [5, 15] (fun m i wr => ∃ k : Nat, k ≤ ds.length ∧ i = .int .i64 k ∧ m = .int .i64 (worstL (ds.take k) [l, r, f, t]) ∧ Below x1.heap.size x1 wr) (fun _ i _ => ds.length - (intOf i).toNat)
    case atStart => exact ⟨0, by omega, rfl, rfl, Below.refl _ _⟩
    case round =>
      obtain ⟨k, hk, rfl, rfl, bw⟩ := hrel
      have hzr := bw.size
      by_cases hlt : k < ds.length
      · replace c00 := keepB bw c00; replace c01 := keepB bw c01; replace c02 := keepB bw c02; replace c10 := keepB bw c10; replace c11 := keepB bw c11; replace c12 := keepB bw c12; replace c13 := keepB bw c13
        obtain ⟨b, o, rfl, hb2, hb3, e0, e1, e2, e3, e4⟩ := (h1.below bw (by omega)).c5 hlt
        have Hst := Lib.hid (show worstL (ds.take (k + 1)) [l, r, f, t] = if meetB (gi (gr ds k) 0) (gi (gr ds k) 1) (gi (gr ds k) 2) (gi (gr ds k) 3) l r f t = true then _ else _ from worst_succ (p := [l, r, f, t]) hlt)
        have h0a : ∀ x ∈ ds, ∀ y ∈ x, I64 y := fun x hx => (h1.all x hx).2
        have i4 := gi_i64 (h0a _ (gr_mem hlt)) 4
        have hk0 : (0 : Int) ≤ (k : Int) := by omega
        have hk1 : (k : Int) < (ds.length : Int) := by omega
        clear h1 h0a
        go_wp2
        obtain ⟨wd, hw1⟩ : ∃ wd, wd = wr.alloc (.cells #[.int .i64 (gi (gr ds k) 0), .int .i64 (gi (gr ds k) 1), .int .i64 (gi (gr ds k) 2), .int .i64 (gi (gr ds k) 3), .int .i64 (gi (gr ds k) 4)] 82) := ⟨_, rfl⟩
        have d0 : wd.cell? ⟨wr.heap.size, 0, none⟩ = some (.int .i64 (gi (gr ds k) 0)) := by rw [hw1]; go_simp
        have d1 : wd.cell? ⟨wr.heap.size, 1, none⟩ = some (.int .i64 (gi (gr ds k) 1)) := by rw [hw1]; go_simp
        have d2 : wd.cell? ⟨wr.heap.size, 2, none⟩ = some (.int .i64 (gi (gr ds k) 2)) := by rw [hw1]; go_simp
        have d3 : wd.cell? ⟨wr.heap.size, 3, none⟩ = some (.int .i64 (gi (gr ds k) 3)) := by rw [hw1]; go_simp
        have d4 : wd.cell? ⟨wr.heap.size, 4, none⟩ = some (.int .i64 (gi (gr ds k) 4)) := by rw [hw1]; go_simp
        have bd : Below wr.heap.size wr wd := by rw [hw1]; exact (Below.refl _ _).alloc (Nat.le_refl _) _
        have zd : wr.heap.size < wd.heap.size := by rw [hw1]; simp
        rw [← hw1]
        clear hw1
        replace c00 := keepB bd c00; replace c01 := keepB bd c01; replace c02 := keepB bd c02; replace c10 := keepB bd c10; replace c11 := keepB bd c11; replace c12 := keepB bd c12; replace c13 := keepB bd c13
        clear e0 e1 e2 e3 e4
        go_region_held3 (fun w' => w'.cell? ⟨wr.heap.size, 0, none⟩ = some (.int .i64 (gi (gr ds k) 0)) ∧ w'.cell? ⟨wr.heap.size, 1, none⟩ = some (.int .i64 (gi (gr ds k) 1)) ∧ w'.cell? ⟨wr.heap.size, 2, none⟩ = some (.int .i64 (gi (gr ds k) 2)) ∧ w'.cell? ⟨wr.heap.size, 3, none⟩ = some (.int .i64 (gi (gr ds k) 3)) ∧ w'.cell? ⟨wr.heap.size, 4, none⟩ = some (.int .i64 (gi (gr ds k) 4)) ∧ w'.cell? ⟨w.heap.size + 1, 0, none⟩ = some (.int .i64 l) ∧ w'.cell? ⟨w.heap.size + 1, 1, none⟩ = some (.int .i64 r) ∧ w'.cell? ⟨w.heap.size + 1, 2, none⟩ = some (.int .i64 f) ∧ w'.cell? ⟨w.heap.size + 1, 3, none⟩ = some (.int .i64 t)) (first | go_keep | (go_split_ands; refine ⟨?_, ?_, ?_, ?_, ?_, ?_, ?_, ?_, ?_⟩ <;> first | exact keepB bx5 (by assumption) | exact keepB bx4 (by assumption) | exact keepB bx3 (by assumption) | exact keepB bx2 (by assumption) | exact keepB bx1 (by assumption))) (first | (go_at_call 83; refine (partOf_any _ _ _ _ _ _).mono ?_; rintro e x2 ⟨rfl, bx1⟩) | (go_at_call 67; refine (meet_any _ _ _ _ _ _ _ _ _).mono ?_; rintro e x3 ⟨rfl, bx2⟩))
        have hbw : Below x1.heap.size x1 x3 := (bw.trans (bd.mono hzr)).trans (((of_drew bx1).mono (by omega)).trans (bx2.mono (by have := (of_drew bx1).size; omega)))
        have g4 := keepB bx2 (keepB (of_drew bx1) d4)
        clear d0 d1 d2 d3 d4 c00 c01 c02 c10 c11 c12 c13 bx1 bx2 bd bw
        go_wp2
        all_goals
          go_roundw
          case rel => exact ⟨k + 1, by omega, by go_num, congrArg (Value.int .i64) (by rw [Hst.out]; split <;> first | omega | (simp_all; done)), hbw⟩
          case measure => simp [intOf]; omega
      · have He := Lib.hid (show k = ds.length by omega)
        go_wp2
        go_ret
        exact ⟨ret_int (by rw [HR2.out, He.out, List.take_length]; rfl), Hb1.out.trans (bw.mono (by omega))⟩
end Go.Proofs.Ytcebdokdekgeaaa
