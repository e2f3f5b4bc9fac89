/-
  Lemmas and contracts of single functions of this program, used by the proofs of its laws: what each call returns and what becomes of memory. Conditions: the hypotheses of each theorem.
-/
import Derived.Test.YtodbgkflakfjpaaReelA
namespace Go.Proofs.Ytodbgkflakfjpaa
open Go.RowKit
attribute [local go_sem ↓] Go.wp_at_zero Go.wp_at_succ
set_option maxRecDepth 100000 in
set_option maxHeartbeats 2000000 in
theorem ValidReel_any (lo hi : Nat) (W L : Int) (v : Value) (ds : List (List Int)) (w : World) (h : TS w lo hi 5 v ds) (hhi : hi ≤ w.heap.size) :
    Calls Try.prog 83 #[.agg #[.int .i64 W, .int .i64 L, v]] w fun e w' => e = .returned (.bool (vReel W L ds)) ∧ Below w.heap.size w w' := by
  obtain ⟨A, c, rfl, hc, hm⟩ := h.form
  by_cases hb : 1 ≤ W ∧ W ≤ 60 ∧ 1 ≤ L ∧ L ≤ 400 ∧ ds.length ≤ 16
  · have Hb := Lib.hid hb
    obtain ⟨b1, b2, b3, b4, b5⟩ := hb
    have hb0 : Below w.heap.size w (w.alloc (.cells #[.int .i64 W, .int .i64 L, .slice A ds.length c] 30)) := (Below.refl _ _).alloc (Nat.le_refl _) _
    have c0 : (w.alloc (.cells #[.int .i64 W, .int .i64 L, .slice A ds.length c] 30)).cell? ⟨w.heap.size, 0, none⟩ = some (.int .i64 W) := by simp [World.cell?_alloc_new]
    have c1 : (w.alloc (.cells #[.int .i64 W, .int .i64 L, .slice A ds.length c] 30)).cell? ⟨w.heap.size, 1, none⟩ = some (.int .i64 L) := by simp [World.cell?_alloc_new]
    have hz : w.heap.size < (w.alloc (.cells #[.int .i64 W, .int .i64 L, .slice A ds.length c] 30)).heap.size := by simp
    have h0 := h.below hb0 hhi
    have Hs := Lib.hid (show Below w.heap.size w _ ∧ (_ : World).cell? _ = _ ∧ (_ : World).cell? _ = _ ∧ w.heap.size < (_ : World).heap.size ∧ TS _ lo hi 5 _ ds from ⟨hb0, c0, c1, hz, h0⟩)
    clear hb0 c0 c1 hz h0
    go_enter Try.func83, Try.ntmps83
    go_wp2
    obtain ⟨w1, hw1⟩ : ∃ w1, w1 = w.alloc (.cells #[.int .i64 W, .int .i64 L, .slice A ds.length c] 30) := ⟨_, rfl⟩
    rw [← hw1] at Hs ⊢
    obtain ⟨hb0, c0, c1, hz, h0⟩ := Hs.out
    clear hw1 Hs
    go_loopw [30, 4] (fun i _ wr => ∃ k : Nat, k ≤ ds.length ∧ i = .int .i64 k ∧ Below w1.heap.size w1 wr ∧ Hid (∀ j, j < k → dOk W L (gr ds j) = true)) (fun i _ _ => ds.length - (intOf i).toNat)
    case atStart => exact ⟨0, by omega, rfl, Below.refl _ _, fun j hj => absurd hj (by omega)⟩
    case round =>
      obtain ⟨k, hk, rfl, bw, HD⟩ := hrel
      have c0r := keepB bw c0
      have c1r := keepB bw c1
      have hr := h0.below bw (by omega)
      have hzr := bw.size
      by_cases hlt : k < ds.length
      · obtain ⟨b, o, rfl, hb2, hb3, hd0, hd1, hd2, hd3, hd4⟩ := hr.c5 hlt
        obtain ⟨d0, hd0'⟩ : ∃ d, d = gi (gr ds k) 0 := ⟨_, rfl⟩
        obtain ⟨d1, hd1'⟩ : ∃ d, d = gi (gr ds k) 1 := ⟨_, rfl⟩
        obtain ⟨d2, hd2'⟩ : ∃ d, d = gi (gr ds k) 2 := ⟨_, rfl⟩
        obtain ⟨d3, hd3'⟩ : ∃ d, d = gi (gr ds k) 3 := ⟨_, rfl⟩
        obtain ⟨d4, hd4'⟩ : ∃ d, d = gi (gr ds k) 4 := ⟨_, rfl⟩
        have HOk := Lib.hid (show dOk W L (gr ds k) = (insB d0 d1 d2 d3 W L && (decide (1 ≤ d4) && decide (d4 ≤ 9))) by rw [hd0', hd1', hd2', hd3', hd4']; rfl)
        rw [← hd0'] at hd0
        rw [← hd1'] at hd1
        rw [← hd2'] at hd2
        rw [← hd3'] at hd3
        rw [← hd4'] at hd4
        clear hd0' hd1' hd2' hd3' hd4'
        go_wp2
        obtain ⟨wd, hwd⟩ : ∃ wd, wd = wr.alloc (.cells #[.int .i64 d0, .int .i64 d1, .int .i64 d2, .int .i64 d3, .int .i64 d4] 68) := ⟨_, rfl⟩
        have e0 : wd.cell? ⟨wr.heap.size, 0, none⟩ = some (.int .i64 d0) := by rw [hwd]; simp [World.cell?_alloc_new]
        have e1 : wd.cell? ⟨wr.heap.size, 1, none⟩ = some (.int .i64 d1) := by rw [hwd]; simp [World.cell?_alloc_new]
        have e2 : wd.cell? ⟨wr.heap.size, 2, none⟩ = some (.int .i64 d2) := by rw [hwd]; simp [World.cell?_alloc_new]
        have e3 : wd.cell? ⟨wr.heap.size, 3, none⟩ = some (.int .i64 d3) := by rw [hwd]; simp [World.cell?_alloc_new]
        have e4 : wd.cell? ⟨wr.heap.size, 4, none⟩ = some (.int .i64 d4) := by rw [hwd]; simp [World.cell?_alloc_new]
        have bd : Below wr.heap.size wr wd := by rw [hwd]; exact (Below.refl _ _).alloc (Nat.le_refl _) _
        have f0 := keepB bd c0r
        have f1 := keepB bd c1r
        rw [← hwd]
        clear hwd hd0 hd1 hd2 hd3 hd4 c0r c1r hr
        have Hbw := Lib.hid (show Below w1.heap.size w1 wd from bw.trans (bd.mono bw.size))
        have hzd := bd.size
        clear bw bd
        have Hin0 : insB d0 d1 d2 d3 W L = false ∨ insB d0 d1 d2 d3 W L = true := by cases insB d0 d1 d2 d3 W L <;> simp
        rcases Hin0 with hin | hin
        · have Hno := Lib.hid (vReel_no (W := W) (L := L) hlt (by rw [HOk.out, hin]; rfl))
          have Hin := Lib.hid hin
          clear hin
          have hfin : ∀ x1 x2 : World, Below wd.heap.size wd x1 → Below x1.heap.size x1 x2 → Below w1.heap.size w1 x2 := fun x1 x2 a b => (Hbw.out.trans (a.mono (by omega))).trans (b.mono (by have := a.size; omega))
          have Hfin := Lib.hid hfin
          clear hfin Hbw HD HOk hk h h0 hb2 hb3 hc hm c0 c1 b1 b2 b3 b4 b5
          go_cut [51] from 34 to 51 (fun s51 wx => s51 = .bool true ∧ Hid (Below w1.heap.size w1 wx))
          case first =>
            first | go_region_with ((first | (go_at_call 79; refine (partOf_any _ _ _ _ _ wd.drew).mono ?_; rintro e x1 ⟨rfl, bx1⟩; have g5 := keepB (W := wd.drew) bx1 f0; have g6 := keepB (W := wd.drew) bx1 f1; have g4 := keepB (W := wd.drew) bx1 e4) | (go_at_call 95; refine (inside_any _ _ _ _ _ _ x1).mono ?_; rw [Hin.out]; rintro e x2 ⟨rfl, bx2⟩; have k4 := keepB bx2 g4))) | fail
            all_goals
              go_wp2
              go_meet
              exact ⟨rfl, Hfin.out x1 x2 (of_drew bx1) bx2⟩
          case rest =>
          obtain ⟨rfl, hx⟩ := hcut
          go_wp2
          go_ret
          exact ⟨ret_bool Hno.out.symm, hb0.trans (hx.out.mono (by omega))⟩
        · have Hin := Lib.hid hin
          clear hin
          by_cases h1 : d4 < 1
          · have Hno := Lib.hid (vReel_no (W := W) (L := L) hlt (by rw [HOk.out, decide_eq_false (show ¬ 1 ≤ d4 by omega)]; simp))
            have hd1 : decide (d4 < 1) = true := decide_eq_true h1
            have hfin : ∀ x1 x2 : World, Below wd.heap.size wd x1 → Below x1.heap.size x1 x2 → Below w1.heap.size w1 x2 := fun x1 x2 a b => (Hbw.out.trans (a.mono (by omega))).trans (b.mono (by have := a.size; omega))
            have Hfin := Lib.hid hfin
            clear hfin Hbw HD HOk hk h h0 hb2 hb3 hc hm c0 c1 b1 b2 b3 b4 b5
            go_cut [51] from 34 to 51 (fun s51 wx => s51 = .bool true ∧ Hid (Below w1.heap.size w1 wx))
            case first =>
              first | go_region_with ((first | (go_at_call 79; refine (partOf_any _ _ _ _ _ wd.drew).mono ?_; rintro e x1 ⟨rfl, bx1⟩; have g5 := keepB (W := wd.drew) bx1 f0; have g6 := keepB (W := wd.drew) bx1 f1; have g4 := keepB (W := wd.drew) bx1 e4) | (go_at_call 95; refine (inside_any _ _ _ _ _ _ x1).mono ?_; rw [Hin.out]; rintro e x2 ⟨rfl, bx2⟩; have k4 := keepB bx2 g4))) | fail
              all_goals
                go_wp2
                go_meet
                exact ⟨rfl, Hfin.out x1 x2 (of_drew bx1) bx2⟩
            case rest =>
            obtain ⟨rfl, hx⟩ := hcut
            go_wp2
            go_ret
            exact ⟨ret_bool Hno.out.symm, hb0.trans (hx.out.mono (by omega))⟩
          · have hd1 : decide (d4 < 1) = false := decide_eq_false h1
            by_cases h2 : 9 < d4
            · have Hno := Lib.hid (vReel_no (W := W) (L := L) hlt (by rw [HOk.out, decide_eq_false (show ¬ d4 ≤ 9 by omega)]; simp))
              have hd2 : decide (9 < d4) = true := decide_eq_true h2
              go_region_held3 (fun w' => w'.cell? ⟨wr.heap.size, 0, none⟩ = some (.int .i64 d0) ∧ w'.cell? ⟨wr.heap.size, 1, none⟩ = some (.int .i64 d1) ∧ w'.cell? ⟨wr.heap.size, 2, none⟩ = some (.int .i64 d2) ∧ w'.cell? ⟨wr.heap.size, 3, none⟩ = some (.int .i64 d3) ∧ w'.cell? ⟨wr.heap.size, 4, none⟩ = some (.int .i64 d4) ∧ w'.cell? ⟨w.heap.size, 0, none⟩ = some (.int .i64 W) ∧ w'.cell? ⟨w.heap.size, 1, none⟩ = some (.int .i64 L)) (first | go_keep | (go_split_ands; refine ⟨?_, ?_, ?_, ?_, ?_, ?_, ?_⟩ <;> first | exact keepB bx2 (by assumption) | exact keepB bx1 (by assumption))) (first | (go_at_call 79; refine (partOf_any _ _ _ _ _ _).mono ?_; rintro e x1 ⟨rfl, bx1⟩) | (go_at_call 95; refine (inside_any _ _ _ _ _ _ _).mono ?_; rw [Hin.out]; rintro e x2 ⟨rfl, bx2⟩))
              all_goals
                go_wp2
                go_ret
                exact ⟨ret_bool Hno.out.symm, hb0.trans (((Hbw.out.trans ((of_drew bx1).mono (by omega))).trans (bx2.mono (by have := (of_drew bx1).size; omega))).mono (by omega))⟩
            · have hd2 : decide (9 < d4) = false := decide_eq_false h2
              have Hyes := Lib.hid (show dOk W L (gr ds k) = true by rw [HOk.out, Hin.out, decide_eq_true (show 1 ≤ d4 by omega), decide_eq_true (show d4 ≤ 9 by omega)]; rfl)
              go_region_held3 (fun w' => w'.cell? ⟨wr.heap.size, 0, none⟩ = some (.int .i64 d0) ∧ w'.cell? ⟨wr.heap.size, 1, none⟩ = some (.int .i64 d1) ∧ w'.cell? ⟨wr.heap.size, 2, none⟩ = some (.int .i64 d2) ∧ w'.cell? ⟨wr.heap.size, 3, none⟩ = some (.int .i64 d3) ∧ w'.cell? ⟨wr.heap.size, 4, none⟩ = some (.int .i64 d4) ∧ w'.cell? ⟨w.heap.size, 0, none⟩ = some (.int .i64 W) ∧ w'.cell? ⟨w.heap.size, 1, none⟩ = some (.int .i64 L)) (first | go_keep | (go_split_ands; refine ⟨?_, ?_, ?_, ?_, ?_, ?_, ?_⟩ <;> first | exact keepB bx2 (by assumption) | exact keepB bx1 (by assumption))) (first | (go_at_call 79; refine (partOf_any _ _ _ _ _ _).mono ?_; rintro e x1 ⟨rfl, bx1⟩) | (go_at_call 95; refine (inside_any _ _ _ _ _ _ _).mono ?_; rw [Hin.out]; rintro e x2 ⟨rfl, bx2⟩))
              all_goals
                go_wp2
                go_roundw
                case rel =>
                  refine ⟨k + 1, by omega, by go_num, (Hbw.out.trans ((of_drew bx1).mono (by omega))).trans (bx2.mono (by have := (of_drew bx1).size; omega)), fun j hj => ?_⟩
                  rcases Nat.lt_or_ge j k with h' | h'
                  · exact HD.out j h'
                  · obtain rfl : j = k := by omega
                    exact Hyes.out
                case measure => simp [intOf]; omega
      · have Hv := Lib.hid (show vReel W L ds = true from vReel_iff.2 ⟨b1, b2, b3, b4, b5, fun d hd => by
          obtain ⟨j, hj, e⟩ := List.getElem_of_mem hd
          have := HD.out j (by omega)
          rw [gr_eq hj, e] at this
          exact this⟩)
        go_wp2
        go_ret
        exact ⟨ret_bool Hv.out.symm, hb0.trans (bw.mono (by omega))⟩
  · have Hb := Lib.hid (vReel_false hb)
    go_enter Try.func83, Try.ntmps83
    go_wp2
    all_goals first | (exfalso; omega) | skip
    all_goals go_ret
    all_goals exact ⟨ret_bool Hb.out.symm, (Below.refl _ _).alloc (Nat.le_refl _) _⟩
end Go.Proofs.Ytodbgkflakfjpaa
