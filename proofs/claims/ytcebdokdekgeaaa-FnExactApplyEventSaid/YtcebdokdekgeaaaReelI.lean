/-
  Lemmas and contracts of single functions of this program, used by the proofs of its laws: what each call returns and what becomes of memory. Conditions: the hypotheses of each theorem.
-/
import Derived.Test.YtcebdokdekgeaaaReelH
namespace Go.Proofs.Ytcebdokdekgeaaa
open Go.RowKit
attribute [local go_sem ↓] Go.wp_at_zero Go.wp_at_succ

theorem spB_pv {W L : Int} {ds ps : List (List Int)} {k : Nat} (h : vReel W L ds = true) : spB (gi (gr ps k) 0) (gi (gr ps k) 1) (gi (gr ps k) 2) (gi (gr ps k) 3) W L = pv (gr ps k) W L := by
  obtain ⟨a, b, c, d⟩ := vReel_rng h
  rw [spB_ins a b c d]; rfl
set_option maxRecDepth 100000 in
set_option maxHeartbeats 1600000 in
theorem validCuts_any (lo hi l2 h2 : Nat) (W L : Int) (v u : Value) (ds ps : List (List Int)) (w : World) (h : TS w lo hi 5 v ds) (hhi : hi ≤ w.heap.size) (hp : TS w l2 h2 4 u ps) (hh2 : h2 ≤ w.heap.size) :
    Calls Try.prog 92 #[.agg #[.int .i64 W, .int .i64 L, v], u] w fun e w' => e = .returned (.bool (vCuts W L ds ps)) ∧ Below w.heap.size w w' := by
  obtain ⟨A, c, rfl, hc, hm⟩ := h.form
  obtain ⟨B, c2, rfl, hc2, hm2⟩ := hp.form
  have Hs := Lib.hid (show ∃ w1, w1 = (w.alloc (.cells #[.int .i64 W, .int .i64 L, .slice A ds.length c] 32)) ∧ Below w.heap.size w w1 ∧ w1.cell? ⟨w.heap.size, 0, none⟩ = some (.int .i64 W) ∧ w1.cell? ⟨w.heap.size, 1, none⟩ = some (.int .i64 L) ∧ w1.cell? ⟨w.heap.size, 2, none⟩ = some (.slice A ds.length c) ∧ TS w1 lo hi 5 (.slice A ds.length c) ds ∧ TS w1 l2 h2 4 (.slice B ps.length c2) ps ∧ w.heap.size < w1.heap.size from by
    have hb : Below w.heap.size w (w.alloc (.cells #[.int .i64 W, .int .i64 L, .slice A ds.length c] 32)) := (Below.refl _ _).alloc (Nat.le_refl _) _
    exact ⟨_, rfl, hb, by go_simp, by go_simp, by go_simp, h.below hb hhi, hp.below hb hh2, by simp⟩)
  go_enter Try.func92, Try.ntmps92
  go_wp2_with (fail)
  obtain ⟨w1, hw1, hb0, c00, c01, c02, hT0, hT1, hz⟩ := Hs.out
  rw [← hw1]
  clear hw1 Hs
  go_loopw [5] (fun i wr => ∃ k : Nat, k ≤ ps.length ∧ i = .int .i64 k ∧ Below w1.heap.size w1 wr ∧ Hid (vReel W L ds = true → ∀ j, j < k → cutOk W L ps j = true)) (fun i _ => ps.length - (intOf i).toNat)
  case atStart => exact ⟨0, by omega, rfl, Below.refl _ _, fun _ j hj => absurd hj (by omega)⟩
  case round =>
    obtain ⟨k, hk, rfl, bw, HD⟩ := hrel
    have hzr := bw.size
    replace c00 := keepB bw c00; replace c01 := keepB bw c01; replace c02 := keepB bw c02
    by_cases hlt : k < ps.length
    · have hPr := hT1.below bw (by omega)
      obtain ⟨b, o, rfl, hb2, hb3, e0, e1, e2, e3⟩ := hPr.c4 hlt
      have hk0 : (0 : Int) ≤ (k : Int) := by omega
      have hk1 : (k : Int) < (ps.length : Int) := by omega
      have HP := Lib.hid hPr
      clear hT0 h hp hT1 hPr
      go_wp2
      go_region_held3 (fun w' => w'.cell? ⟨w.heap.size, 0, none⟩ = some (.int .i64 W) ∧ w'.cell? ⟨w.heap.size, 1, none⟩ = some (.int .i64 L) ∧ w'.cell? ⟨w.heap.size, 2, none⟩ = some (.slice A ds.length c) ∧ w'.cell? ⟨b, o + k * 4, none⟩ = some (.int .i64 (gi (gr ps k) 0)) ∧ w'.cell? ⟨b, o + k * 4 + 1, none⟩ = some (.int .i64 (gi (gr ps k) 1)) ∧ w'.cell? ⟨b, o + k * 4 + 2, none⟩ = some (.int .i64 (gi (gr ps k) 2)) ∧ w'.cell? ⟨b, o + k * 4 + 3, none⟩ = some (.int .i64 (gi (gr ps k) 3))) (first | go_keep | (go_split_ands; refine ⟨?_, ?_, ?_, ?_, ?_, ?_, ?_⟩ <;> first | exact keepB bx5 (by assumption) | exact keepB bx4 (by assumption) | exact keepB bx3 (by assumption) | exact keepB bx2 (by assumption) | exact keepB bx1 (by assumption))) (first | (go_at_call 103; refine (validPart_any _ _ _ _ _ _ _ _ _ _).mono ?_; rintro e x1 ⟨rfl, bx1⟩))
      have bx2 := of_drew bx1
      have hbw := bw.trans (bx2.mono hzr)
      have HP1 := Lib.hid (HP.out.below bx2 (by omega))
      replace c00 := keepB bx2 c00; replace c01 := keepB bx2 c01; replace c02 := keepB bx2 c02
      have hz1 := bx2.size
      cases hd : spB (gi (gr ps k) 0) (gi (gr ps k) 1) (gi (gr ps k) 2) (gi (gr ps k) 3) W L
      · have Hno := Lib.hid (vCuts_no (W := W) (L := L) (ds := ds) hlt fun hr => cut_part (by rw [← spB_pv hr]; exact hd))
        clear e0 e1 e2 e3 HP HP1 bx1
        go_wp2
        go_ret
        exact ⟨ret_bool Hno.out.symm, hb0.trans (hbw.mono (by omega))⟩
      · have Hd := Lib.hid (show vReel W L ds = true → pv (gr ps k) W L = true from fun hr => by rw [← spB_pv hr]; exact hd)
        clear e0 e1 e2 e3 HP bx1 hd
        simp only [Bool.not_true]
        go_wp2
        go_loopw [6] (fun i wx => ∃ m : Nat, m ≤ k ∧ i = .int .i64 m ∧ Below x1.heap.size x1 wx ∧ Hid (∀ i, i < m → mT (gr ps k) (gr ps i) = false)) (fun i _ => k - (intOf i).toNat)
        case atStart => exact ⟨0, by omega, rfl, Below.refl _ _, fun j hj => absurd hj (by omega)⟩
        case round =>
          obtain ⟨m, hmk, rfl, bx, HM⟩ := hrel
          have hzx := bx.size
          replace c00 := keepB bx c00; replace c01 := keepB bx c01; replace c02 := keepB bx c02
          by_cases hlt2 : m < k
          · have hPx := HP1.out.below bx (by omega)
            obtain ⟨f0, f1, f2, f3⟩ := hPx.c4' hlt
            obtain ⟨g0, g1, g2, g3⟩ := hPx.c4' (i := m) (by omega)
            have hm0 : (0 : Int) ≤ (m : Int) := by omega
            have hm1 : (m : Int) < (ps.length : Int) := by omega
            clear hPx
            go_wp2
            go_region_held3 (fun w' => w'.cell? ⟨b, o + k * 4, none⟩ = some (.int .i64 (gi (gr ps k) 0)) ∧ w'.cell? ⟨b, o + k * 4 + 1, none⟩ = some (.int .i64 (gi (gr ps k) 1)) ∧ w'.cell? ⟨b, o + k * 4 + 2, none⟩ = some (.int .i64 (gi (gr ps k) 2)) ∧ w'.cell? ⟨b, o + k * 4 + 3, none⟩ = some (.int .i64 (gi (gr ps k) 3)) ∧ w'.cell? ⟨b, o + m * 4, none⟩ = some (.int .i64 (gi (gr ps m) 0)) ∧ w'.cell? ⟨b, o + m * 4 + 1, none⟩ = some (.int .i64 (gi (gr ps m) 1)) ∧ w'.cell? ⟨b, o + m * 4 + 2, none⟩ = some (.int .i64 (gi (gr ps m) 2)) ∧ w'.cell? ⟨b, o + m * 4 + 3, none⟩ = some (.int .i64 (gi (gr ps m) 3))) (first | go_keep | (go_split_ands; refine ⟨?_, ?_, ?_, ?_, ?_, ?_, ?_, ?_⟩ <;> first | exact keepB bx5 (by assumption) | exact keepB bx4 (by assumption) | exact keepB bx3 (by assumption) | exact keepB bx2 (by assumption) | exact keepB bx1 (by assumption))) (first | (go_at_call 104; refine (partsMeet_any _ _ _ _ _ _ _ _ _).mono ?_; rintro e x2 ⟨rfl, bx1⟩))
            have bx3 := of_drew bx1
            have hby := bx.trans (bx3.mono hzx)
            replace c00 := keepB bx3 c00; replace c01 := keepB bx3 c01; replace c02 := keepB bx3 c02
            cases hd : meetB (gi (gr ps k) 0) (gi (gr ps k) 1) (gi (gr ps k) 2) (gi (gr ps k) 3) (gi (gr ps m) 0) (gi (gr ps m) 1) (gi (gr ps m) 2) (gi (gr ps m) 3)
            · have HM2 := Lib.hid (show mT (gr ps k) (gr ps m) = false from hd)
              clear f0 f1 f2 f3 g0 g1 g2 g3
              go_wp2
              go_roundw
              case rel =>
                refine ⟨m + 1, by omega, by go_num, hby, fun j hj => ?_⟩
                rcases Nat.lt_or_ge j m with h' | h'
                · exact HM.out j h'
                · obtain rfl : j = m := by omega
                  exact HM2.out
              case measure => simp [intOf]; omega
            · have Hno := Lib.hid (vCuts_no (W := W) (L := L) (ds := ds) hlt fun _ => cut_meet hlt hlt2 hd)
              clear f0 f1 f2 f3 g0 g1 g2 g3
              go_wp2
              go_ret
              exact ⟨ret_bool Hno.out.symm, hb0.trans ((hbw.trans (hby.mono (by omega))).mono (by omega))⟩
          · have He := Lib.hid (show m = k by omega)
            go_wp2
            go_roundw
            case rel =>
              refine ⟨k + 1, by omega, by go_num, hbw.trans (bx.mono (by omega)), fun hr j hj => ?_⟩
              rcases Nat.lt_or_ge j k with h' | h'
              · exact HD.out hr j h'
              · obtain rfl : j = k := by omega
                unfold cutOk
                rw [Hd.out hr, (noMeet_iff (Nat.le_of_lt hlt)).2 fun i hi => HM.out i (by rw [He.out]; exact hi)]; rfl
            case measure => simp [intOf]; omega
    · have hTr := hT0.below bw (by omega)
      have HR : Hid (vCuts W L ds ps = (vReel W L ds && decide (ps.length ≤ 60))) := by
        rw [Bool.eq_iff_iff, vCuts_iff, Bool.and_eq_true, decide_eq_true_eq]
        exact ⟨fun ⟨a, b, _⟩ => ⟨a, b⟩, fun ⟨a, b⟩ => ⟨a, b, fun j hj => HD.out a j (by omega)⟩⟩
      go_wp2_with (go_at_call 105; refine (validReel_any lo hi W L _ ds _ hTr (by omega)).mono ?_; rintro e x1 ⟨rfl, bx1⟩)
      all_goals go_ret
      all_goals exact ⟨ret_bool (by rw [HR.out]; simp [*] <;> omega), hb0.trans ((bw.trans (bx1.mono (by omega))).mono (by omega))⟩
end Go.Proofs.Ytcebdokdekgeaaa
