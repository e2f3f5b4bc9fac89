/-
  Lemmas and contracts of single functions of this program, used by the proofs of its laws: what each call returns and what becomes of memory. Conditions: the hypotheses of each theorem.
-/
import Derived.Test.YtcebdokdekgeaaaReelL
namespace Go.Proofs.Ytcebdokdekgeaaa
open Go.RowKit
attribute [local go_sem ↓] Go.wp_at_zero Go.wp_at_succ
set_option maxRecDepth 100000 in
set_option maxHeartbeats 1600000 in
theorem BadRolls_any (lo hi l2 h2 : Nat) (W L : Int) (v u : Value) (ds ps : List (List Int)) (m : Int) (w : World) (h : TS w lo hi 5 v ds) (hhi : hi ≤ w.heap.size) (hp : TS w l2 h2 4 u ps) (hh2 : h2 ≤ w.heap.size) :
    Calls Try.prog 26 #[.agg #[.int .i64 W, .int .i64 L, v], u, .int .i64 m] w fun e w' => ∃ v', e = .returned v' ∧ OwnI w' w.heap.size 3 v' (brL W L ds ps m) ∧ Below w.heap.size w w' := by
  obtain ⟨A, c, rfl, hc, hm⟩ := h.form
  obtain ⟨B, c2, rfl, hc2, hm2⟩ := hp.form
  have Hs := Lib.hid (show ∃ w1, w1 = (w.alloc (.cells #[.int .i64 W, .int .i64 L, .slice A ds.length c] 32)) ∧ Below w.heap.size w w1 ∧ w1.cell? ⟨w.heap.size, 0, none⟩ = some (.int .i64 W) ∧ w1.cell? ⟨w.heap.size, 1, none⟩ = some (.int .i64 L) ∧ w1.cell? ⟨w.heap.size, 2, none⟩ = some (.slice A ds.length c) ∧ TS w1 lo hi 5 (.slice A ds.length c) ds ∧ TS w1 l2 h2 4 (.slice B ps.length c2) ps ∧ w.heap.size < w1.heap.size from by
    have hb : Below w.heap.size w (w.alloc (.cells #[.int .i64 W, .int .i64 L, .slice A ds.length c] 32)) := (Below.refl _ _).alloc (Nat.le_refl _) _
    exact ⟨_, rfl, hb, by go_simp, by go_simp, by go_simp, h.below hb hhi, hp.below hb hh2, by simp⟩)
  obtain ⟨R, hR⟩ : ∃ R, R = brL W L ds ps m := ⟨_, rfl⟩
  rw [← hR]
  have HR := Lib.hid hR
  clear hR
  go_enter Try.func26, Try.ntmps26
  go_wp2_with (fail)
  obtain ⟨w1, hw1, hb0, c00, c01, c02, hT0, hT1, hz⟩ := Hs.out
  rw [← hw1]
  clear hw1 Hs
  refine (ValidCuts_any lo hi l2 h2 W L _ _ ds ps w1 hT0 (by omega) hT1 (by omega)).mono ?_
  rintro e x1 ⟨rfl, bx1⟩
  replace c00 := keepB bx1 c00; replace c01 := keepB bx1 c01; replace c02 := keepB bx1 c02
  have hD := hT0.below bx1 (by omega)
  have hP := hT1.below bx1 (by omega)
  have hz1 := bx1.size
  have Hb := Lib.hid (hb0.trans (bx1.mono (Nat.le_of_lt hz)))
  clear hT0 hT1 h hp bx1 hb0
  cases hv : vCuts W L ds ps
  · have Hno := Lib.hid (show R = [] by rw [HR.out]; unfold brL; rw [hv]; exact if_neg (by simp))
    go_wp2
    go_ret
    exact ⟨_, rfl, by rw [Hno.out]; exact OwnI.nil _ _ _, Hb.out⟩
  · have Hv := Lib.hid hv
    clear hv
    have Hyes := Lib.hid (show R = selL (fun i => decide (m < worstL ds (gr ps i))) ps.length by rw [HR.out]; unfold brL; rw [if_pos Hv.out])
    have hlp : ps.length ≤ 60 := (vCuts_iff.1 Hv.out).2.1
    go_wp2
    go_loopw [7, 16] (fun v i wr => ∃ k : Nat, k ≤ ps.length ∧ i = .int .i64 k ∧ OwnI wr x1.heap.size 3 v (selL (fun i => decide (m < worstL ds (gr ps i))) k) ∧ Below x1.heap.size x1 wr) (fun _ i _ => ps.length - (intOf i).toNat)
    case atStart => exact ⟨0, by omega, rfl, OwnI.nil _ _ _, Below.refl _ _⟩
    case round =>
      obtain ⟨k, hk, rfl, ho, bw⟩ := hrel
      have hzr := bw.size
      by_cases hlt : k < ps.length
      · replace c00 := keepB bw c00; replace c01 := keepB bw c01; replace c02 := keepB bw c02
        obtain ⟨b, o, rfl, hb2, hb3, e0, e1, e2, e3⟩ := (hP.below bw (by omega)).c4 hlt
        have hDr := hD.below bw (by omega)
        have hk0 : (0 : Int) ≤ (k : Int) := by omega
        have hk1 : (k : Int) < (ps.length : Int) := by omega
        have hsl := selL_len (fun i => decide (m < worstL ds (gr ps i))) k
        have HS := Lib.hid (selL_succ (P := fun i => decide (m < worstL ds (gr ps i))) (n := k))
        have Ho := Lib.hid ho
        obtain ⟨q, hq⟩ : ∃ q, q = selL (fun i => decide (m < worstL ds (gr ps i))) k := ⟨_, rfl⟩
        rw [← hq] at HS Ho hsl
        have HW := Lib.hid (show worstL ds [gi (gr ps k) 0, gi (gr ps k) 1, gi (gr ps k) 2, gi (gr ps k) 3] = worstL ds (gr ps k) from rfl)
        obtain ⟨y, hy⟩ : ∃ y, y = worstL ds (gr ps k) := ⟨_, rfl⟩
        rw [← hy] at HW HS
        have HY := Lib.hid hy
        have HV := Lib.hid (show (vReel W L ds && insB (gi (gr ps k) 0) (gi (gr ps k) 1) (gi (gr ps k) 2) (gi (gr ps k) 3) W L) = true by
          have hh := vCuts_iff.1 Hv.out
          have h3 := hh.2.2 k hlt
          unfold cutOk at h3
          rw [Bool.and_eq_true] at h3 ⊢
          exact ⟨hh.1, h3.1⟩)
        clear hq hy ho hP hD
        have hbd : Below wr.heap.size wr (wr.alloc (.cells #[.int .i64 (gi (gr ps k) 0), .int .i64 (gi (gr ps k) 1), .int .i64 (gi (gr ps k) 2), .int .i64 (gi (gr ps k) 3)] 38)) := (Below.refl _ _).alloc (Nat.le_refl _) _
        have x_c00 := keepB hbd c00
        have x_c01 := keepB hbd c01
        have x_c02 := keepB hbd c02
        go_wp2_with (fail)
        clear hbd x_c00 x_c01 x_c02
        obtain ⟨wd, hw1⟩ : ∃ wd, wd = wr.alloc (.cells #[.int .i64 (gi (gr ps k) 0), .int .i64 (gi (gr ps k) 1), .int .i64 (gi (gr ps k) 2), .int .i64 (gi (gr ps k) 3)] 38) := ⟨_, rfl⟩
        have p0 : wd.cell? ⟨wr.heap.size, 0, none⟩ = some (.int .i64 (gi (gr ps k) 0)) := by rw [hw1]; go_simp
        have p1 : wd.cell? ⟨wr.heap.size, 1, none⟩ = some (.int .i64 (gi (gr ps k) 1)) := by rw [hw1]; go_simp
        have p2 : wd.cell? ⟨wr.heap.size, 2, none⟩ = some (.int .i64 (gi (gr ps k) 2)) := by rw [hw1]; go_simp
        have p3 : wd.cell? ⟨wr.heap.size, 3, none⟩ = some (.int .i64 (gi (gr ps k) 3)) := by rw [hw1]; go_simp
        have bp : Below wr.heap.size wr wd := by rw [hw1]; exact (Below.refl _ _).alloc (Nat.le_refl _) _
        have zp : wr.heap.size < wd.heap.size := by rw [hw1]; simp
        rw [← hw1]
        clear hw1
        refine (WorstOf_any lo hi W L _ ds _ _ _ _ wd (hDr.below bp (by omega)) (by omega)).mono ?_
        rw [if_pos HV.out, HW.out]
        rintro e x2 ⟨rfl, bx2⟩
        have hbz := bp.trans (bx2.mono (by omega))
        have hz3 := hbz.size
        have hbw := bw.trans (hbz.mono (by omega))
        have hox := Ho.out.kept (.of_below hbz (Nat.le_refl _))
        clear e0 e1 e2 e3 p0 p1 p2 p3 bx2 bp hDr bw c00 c01 c02 hbz
        by_cases hm4 : m < y
        · have Hd := Lib.hid (show decide (m < y) = true by simp [hm4])
          go_wp2_with (at_builtin; refine wpList_appendI SlI _ rfl (.tmp 26) (.tmp 28) rfl _ x1.heap.size _ _ rfl rfl hox ⟨by omega, by omega⟩ (by omega) (by omega) ?_; intro v' w3 ho3 hg3)
          go_roundw
          case rel => exact ⟨k + 1, by omega, by go_num, by rw [HS.out, if_pos Hd.out]; exact ho3, hbw.trans hg3.below⟩
          case measure => simp [intOf]; omega
        · have Hd := Lib.hid (show decide (m < y) = false by simp; omega)
          go_wp2
          go_roundw
          case rel => exact ⟨k + 1, by omega, by go_num, by rw [HS.out, if_neg (by rw [Hd.out]; simp)]; exact hox, hbw⟩
          case measure => simp [intOf]; omega
      · have He := Lib.hid (show k = ps.length by omega)
        go_wp2
        go_ret
        exact ⟨_, rfl, by rw [Hyes.out, ← He.out]; exact ho.base (by omega), Hb.out.trans (bw.mono (by omega))⟩
end Go.Proofs.Ytcebdokdekgeaaa
