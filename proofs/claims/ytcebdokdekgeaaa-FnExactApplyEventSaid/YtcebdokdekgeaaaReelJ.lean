/-
  Lemmas and contracts of single functions of this program, used by the proofs of its laws: what each call returns and what becomes of memory. Conditions: the hypotheses of each theorem.
-/
import Derived.Test.YtcebdokdekgeaaaReelI
namespace Go.Proofs.Ytcebdokdekgeaaa
open Go.RowKit
attribute [local go_sem ↓] Go.wp_at_zero Go.wp_at_succ

set_option maxRecDepth 100000 in
set_option maxHeartbeats 1600000 in
theorem ValidCuts_any (lo hi l2 h2 : Nat) (W L : Int) (v u : Value) (ds ps : List (List Int)) (w : World) (h : TS w lo hi 5 v ds) (hhi : hi ≤ w.heap.size) (hp : TS w l2 h2 4 u ps) (hh2 : h2 ≤ w.heap.size) :
    Calls Try.prog 39 #[.agg #[.int .i64 W, .int .i64 L, v], u] w fun e w' => e = .returned (.bool (vCuts W L ds ps)) ∧ Below w.heap.size w w' := by
  obtain ⟨A, c, rfl, hc, hm⟩ := h.form
  obtain ⟨B, c2, rfl, hc2, hm2⟩ := hp.form
  have Hs := Lib.hid (show ∃ w1, w1 = (w.alloc (.cells #[.int .i64 W, .int .i64 L, .slice A ds.length c] 32)) ∧ Below w.heap.size w w1 ∧ w1.cell? ⟨w.heap.size, 0, none⟩ = some (.int .i64 W) ∧ w1.cell? ⟨w.heap.size, 1, none⟩ = some (.int .i64 L) ∧ w1.cell? ⟨w.heap.size, 2, none⟩ = some (.slice A ds.length c) ∧ TS w1 lo hi 5 (.slice A ds.length c) ds ∧ TS w1 l2 h2 4 (.slice B ps.length c2) ps ∧ w.heap.size < w1.heap.size from by
    have hb : Below w.heap.size w (w.alloc (.cells #[.int .i64 W, .int .i64 L, .slice A ds.length c] 32)) := (Below.refl _ _).alloc (Nat.le_refl _) _
    exact ⟨_, rfl, hb, by go_simp, by go_simp, by go_simp, h.below hb hhi, hp.below hb hh2, by simp⟩)
  go_enter Try.func39, Try.ntmps39
  go_wp2_with (fail)
  obtain ⟨w1, hw1, hb0, c00, c01, c02, hT0, hT1, hz⟩ := Hs.out
  rw [← hw1]
  clear hw1 Hs
  refine (ValidReel_any lo hi W L _ ds w1 hT0 (by omega)).mono ?_
  rintro e x1 ⟨rfl, bx1⟩
  replace c00 := keepB bx1 c00; replace c01 := keepB bx1 c01; replace c02 := keepB bx1 c02
  have hP := hT1.below bx1 (by omega)
  have hz1 := bx1.size
  have Hb := Lib.hid (hb0.trans (bx1.mono (Nat.le_of_lt hz)))
  clear hT0 hT1 h hp bx1 hb0
  cases hv : vReel W L ds
  · have Hno := Lib.hid (show vCuts W L ds ps = false by unfold vCuts; rw [hv]; rfl)
    go_wp2
    go_ret
    exact ⟨ret_bool Hno.out.symm, Hb.out⟩
  · have Hv := Lib.hid hv
    clear hv
    by_cases hl : ps.length ≤ 60
    · have hl' : (60 : Int) < (ps.length : Int) ↔ False := by simp; omega
      go_wp2
      clear hl'
      go_loopw [19] (fun i wr => ∃ k : Nat, k ≤ ps.length ∧ i = .int .i64 k ∧ Below x1.heap.size x1 wr ∧ Hid (∀ j, j < k → cutOk W L ps j = true)) (fun i _ => ps.length - (intOf i).toNat)
      case atStart => exact ⟨0, by omega, rfl, Below.refl _ _, fun j hj => absurd hj (by omega)⟩
      case round =>
        obtain ⟨k, hk, rfl, bw, HD⟩ := hrel
        obtain ⟨wo, rfl⟩ : ∃ wo : World, wo = wr := ⟨_, rfl⟩
        have hzr := bw.size
        replace c00 := keepB bw c00; replace c01 := keepB bw c01; replace c02 := keepB bw c02
        by_cases hlt : k < ps.length
        · have hPr := hP.below bw (by omega)
          obtain ⟨b, o, rfl, hb2, hb3, e0, e1, e2, e3⟩ := hPr.c4 hlt
          have hk0 : (0 : Int) ≤ (k : Int) := by omega
          have hk1 : (k : Int) < (ps.length : Int) := by omega
          have hk2 : (k : Int) ≤ (c2 : Int) := by omega
          have HP := Lib.hid hPr
          clear hP hPr
          have hbd : Below wo.heap.size wo (wo.alloc (.cells #[.int .i64 (gi (gr ps k) 0), .int .i64 (gi (gr ps k) 1), .int .i64 (gi (gr ps k) 2), .int .i64 (gi (gr ps k) 3)] 38)) := (Below.refl _ _).alloc (Nat.le_refl _) _
          have x_c00 := keepB hbd c00
          have x_c01 := keepB hbd c01
          go_wp2_with (fail)
          clear hbd x_c00 x_c01
          obtain ⟨wd, hw1⟩ : ∃ wd, wd = wo.alloc (.cells #[.int .i64 (gi (gr ps k) 0), .int .i64 (gi (gr ps k) 1), .int .i64 (gi (gr ps k) 2), .int .i64 (gi (gr ps k) 3)] 38) := ⟨_, rfl⟩
          have d0 : wd.cell? ⟨wo.heap.size, 0, none⟩ = some (.int .i64 (gi (gr ps k) 0)) := by rw [hw1]; go_simp
          have d1 : wd.cell? ⟨wo.heap.size, 1, none⟩ = some (.int .i64 (gi (gr ps k) 1)) := by rw [hw1]; go_simp
          have d2 : wd.cell? ⟨wo.heap.size, 2, none⟩ = some (.int .i64 (gi (gr ps k) 2)) := by rw [hw1]; go_simp
          have d3 : wd.cell? ⟨wo.heap.size, 3, none⟩ = some (.int .i64 (gi (gr ps k) 3)) := by rw [hw1]; go_simp
          have bd : Below wo.heap.size wo wd := by rw [hw1]; exact (Below.refl _ _).alloc (Nat.le_refl _) _
          have zd : wo.heap.size < wd.heap.size := by rw [hw1]; simp
          rw [← hw1]
          clear hw1
          replace c00 := keepB bd c00; replace c01 := keepB bd c01; replace c02 := keepB bd c02
          refine (inside_any _ _ _ _ _ _ wd).mono ?_
          rintro e x2 ⟨rfl, bx2⟩
          replace c00 := keepB bx2 c00; replace c01 := keepB bx2 c01; replace c02 := keepB bx2 c02; replace d0 := keepB bx2 d0; replace d1 := keepB bx2 d1; replace d2 := keepB bx2 d2; replace d3 := keepB bx2 d3
          have hbw := bw.trans ((bd.mono hzr).trans (bx2.mono (by omega)))
          have HP1 := Lib.hid ((HP.out.below bd (by omega)).below bx2 (by omega))
          have hz2 := bx2.size
          clear e0 e1 e2 e3 HP bd bx2 bw
          cases hd : insB (gi (gr ps k) 0) (gi (gr ps k) 1) (gi (gr ps k) 2) (gi (gr ps k) 3) W L
          · have Hno := Lib.hid (vCuts_no (W := W) (L := L) (ds := ds) hlt fun _ => cut_part hd)
            go_wp2
            go_ret
            exact ⟨ret_bool Hno.out.symm, Hb.out.trans (hbw.mono (by omega))⟩
          · have Hd := Lib.hid (show pv (gr ps k) W L = true from hd)
            clear hd
            go_wp2
            go_loopw [35] (fun i wx => ∃ m : Nat, m ≤ k ∧ i = .int .i64 m ∧ Below x2.heap.size x2 wx ∧ Hid (∀ i, i < m → mT (gr ps k) (gr ps i) = false)) (fun i _ => k - (intOf i).toNat)
            case atStart => exact ⟨0, by omega, rfl, Below.refl _ _, fun j hj => absurd hj (by omega)⟩
            case round =>
              obtain ⟨m, hmk, rfl, bx, HM⟩ := hrel
              have hzx := bx.size
              replace c00 := keepB bx c00; replace c01 := keepB bx c01; replace c02 := keepB bx c02; replace d0 := keepB bx d0; replace d1 := keepB bx d1; replace d2 := keepB bx d2; replace d3 := keepB bx d3
              by_cases hlt2 : m < k
              · have hPx := HP1.out.below bx (by omega)
                obtain ⟨g0, g1, g2, g3⟩ := hPx.c4' (i := m) (by omega)
                have hm0 : (0 : Int) ≤ (m : Int) := by omega
                have hm1 : (m : Int) < (k : Int) := by omega
                clear hPx
                have hbd : Below wr.heap.size wr (wr.alloc (.cells #[.int .i64 (gi (gr ps m) 0), .int .i64 (gi (gr ps m) 1), .int .i64 (gi (gr ps m) 2), .int .i64 (gi (gr ps m) 3)] 38)) := (Below.refl _ _).alloc (Nat.le_refl _) _
                have x_c00 := keepB hbd c00
                have x_c01 := keepB hbd c01
                have x_d0 := keepB hbd d0
                have x_d1 := keepB hbd d1
                have x_d2 := keepB hbd d2
                have x_d3 := keepB hbd d3
                go_wp2_with (fail)
                clear hbd x_c00 x_c01 x_d0 x_d1 x_d2 x_d3
                obtain ⟨we, hw1⟩ : ∃ we, we = wr.alloc (.cells #[.int .i64 (gi (gr ps m) 0), .int .i64 (gi (gr ps m) 1), .int .i64 (gi (gr ps m) 2), .int .i64 (gi (gr ps m) 3)] 38) := ⟨_, rfl⟩
                have q0 : we.cell? ⟨wr.heap.size, 0, none⟩ = some (.int .i64 (gi (gr ps m) 0)) := by rw [hw1]; go_simp
                have q1 : we.cell? ⟨wr.heap.size, 1, none⟩ = some (.int .i64 (gi (gr ps m) 1)) := by rw [hw1]; go_simp
                have q2 : we.cell? ⟨wr.heap.size, 2, none⟩ = some (.int .i64 (gi (gr ps m) 2)) := by rw [hw1]; go_simp
                have q3 : we.cell? ⟨wr.heap.size, 3, none⟩ = some (.int .i64 (gi (gr ps m) 3)) := by rw [hw1]; go_simp
                have bq : Below wr.heap.size wr we := by rw [hw1]; exact (Below.refl _ _).alloc (Nat.le_refl _) _
                have zq : wr.heap.size < we.heap.size := by rw [hw1]; simp
                rw [← hw1]
                clear hw1
                replace c00 := keepB bq c00; replace c01 := keepB bq c01; replace c02 := keepB bq c02; replace d0 := keepB bq d0; replace d1 := keepB bq d1; replace d2 := keepB bq d2; replace d3 := keepB bq d3
                refine (meet_any _ _ _ _ _ _ _ _ we).mono ?_
                rintro e x3 ⟨rfl, bx3⟩
                replace c00 := keepB bx3 c00; replace c01 := keepB bx3 c01; replace c02 := keepB bx3 c02; replace d0 := keepB bx3 d0; replace d1 := keepB bx3 d1; replace d2 := keepB bx3 d2; replace d3 := keepB bx3 d3
                have hby := bx.trans ((bq.mono hzx).trans (bx3.mono (by omega)))
                clear g0 g1 g2 g3 q0 q1 q2 q3 bx bq bx3
                cases hd : meetB (gi (gr ps k) 0) (gi (gr ps k) 1) (gi (gr ps k) 2) (gi (gr ps k) 3) (gi (gr ps m) 0) (gi (gr ps m) 1) (gi (gr ps m) 2) (gi (gr ps m) 3)
                · have HM2 := Lib.hid (show mT (gr ps k) (gr ps m) = false from hd)
                  go_wp2
                  go_roundw
                  case rel =>
                    refine ⟨m + 1, by omega, by go_num, hby, fun j hj => ?_⟩
                    rcases Nat.lt_or_ge j m with h' | h'
                    · exact HM.out j h'
                    · obtain rfl : j = m := by omega
                      exact HM2.out
                  case measure => simp [intOf]; omega
                · have Hno := Lib.hid (vCuts_no (W := W) (L := L) (ds := ds) hlt fun _ => cut_meet hlt hlt2 hd)
                  go_wp2
                  go_ret
                  exact ⟨ret_bool Hno.out.symm, Hb.out.trans ((hbw.trans (hby.mono (by omega))).mono (by omega))⟩
              · have He := Lib.hid (show m = k by omega)
                go_wp2
                go_roundw
                case rel =>
                  refine ⟨k + 1, by omega, by go_num, hbw.trans (bx.mono (by omega)), fun j hj => ?_⟩
                  rcases Nat.lt_or_ge j k with h' | h'
                  · exact HD.out j h'
                  · obtain rfl : j = k := by omega
                    unfold cutOk
                    rw [Hd.out, (noMeet_iff (Nat.le_of_lt hlt)).2 fun i hi => HM.out i (by rw [He.out]; exact hi)]; rfl
                case measure => simp [intOf]; omega
        · have Hyes := Lib.hid (show vCuts W L ds ps = true from vCuts_iff.2 ⟨Hv.out, hl, fun j hj => HD.out j (by omega)⟩)
          go_wp2
          go_ret
          exact ⟨ret_bool Hyes.out.symm, Hb.out.trans (bw.mono (by omega))⟩
    · have Hno := Lib.hid (show vCuts W L ds ps = false by unfold vCuts; rw [decide_eq_false hl]; simp)
      have hl' : (60 : Int) < (ps.length : Int) := by omega
      go_wp2
      go_ret
      exact ⟨ret_bool Hno.out.symm, Hb.out⟩
end Go.Proofs.Ytcebdokdekgeaaa
