/-
  Lemmas and contracts of single functions of this program, used by the proofs of its laws: what each call returns and what becomes of memory. Conditions: the hypotheses of each theorem.
-/
import Derived.Test.YtkgepklapglmdaaMReel
import Derived.BigQuiet
namespace Go.Proofs.Ytkgepklapglmdaa
open Go.RowKit
attribute [local go_sem ↓] Go.wp_at_zero Go.wp_at_succ

def areaT (p : List Int) : Int := (gi p 1 - gi p 0) * (gi p 3 - gi p 2)
def areaL (ps : List (List Int)) : Nat → Int
  | 0 => 0
  | k + 1 => areaL ps k + areaT (gr ps k)
theorem pv_rng {p : List Int} {W L : Int} (h : pv p W L = true) : 0 ≤ gi p 0 ∧ gi p 0 < gi p 1 ∧ gi p 1 ≤ W ∧ 0 ≤ gi p 2 ∧ gi p 2 < gi p 3 ∧ gi p 3 ≤ L := insB_true h
theorem areaT_rng {p : List Int} {W L : Int} (h : pv p W L = true) (hW : W ≤ 60) (hL : L ≤ 400) : 0 ≤ areaT p ∧ areaT p ≤ 24000 := by
  have := pv_rng h
  unfold areaT
  exact ⟨Int.mul_nonneg (by omega) (by omega), Int.le_trans (Int.mul_le_mul (show gi p 1 - gi p 0 ≤ 60 by omega) (show gi p 3 - gi p 2 ≤ 400 by omega) (by omega) (by omega)) (by decide)⟩
theorem areaL_rng {ps : List (List Int)} {n : Nat} (h : ∀ j, j < n → 0 ≤ areaT (gr ps j) ∧ areaT (gr ps j) ≤ 24000) : ∀ {k : Nat}, k ≤ n → 0 ≤ areaL ps k ∧ areaL ps k ≤ 24000 * k
  | 0, _ => by simp [areaL]
  | k + 1, hk => by
    have h1 := areaL_rng h (k := k) (by omega)
    have h2 := h k (by omega)
    show 0 ≤ areaL ps k + areaT (gr ps k) ∧ areaL ps k + areaT (gr ps k) ≤ _
    omega
theorem cut_pv {W L : Int} {ds ps : List (List Int)} (h : vCuts W L ds ps = true) {j : Nat} (hj : j < ps.length) : pv (gr ps j) W L = true := by
  have := (vCuts_iff.1 h).2.2 j hj
  unfold cutOk at this
  rw [Bool.and_eq_true] at this
  exact this.1
set_option maxRecDepth 100000 in
set_option maxHeartbeats 1600000 in
theorem AreaLeft_any (lo hi l2 h2 : Nat) (W L : Int) (v u : Value) (ds ps : List (List Int)) (w : World) (h : TS w lo hi 5 v ds) (hhi : hi ≤ w.heap.size) (hp : TS w l2 h2 4 u ps) (hh2 : h2 ≤ w.heap.size) :
    Calls Try.prog 22 #[.agg #[.int .i64 W, .int .i64 L, v], u] w fun e w' => e = .returned (.int .i64 (if vCuts W L ds ps = true then W * L - areaL ps ps.length else -1)) ∧ Below w.heap.size w w' := by
  obtain ⟨A, c, rfl, hc, hm⟩ := h.form
  obtain ⟨B, c2, rfl, hc2, hm2⟩ := hp.form
  have Hs := Lib.hid (show ∃ w1, w1 = (w.alloc (.cells #[.int .i64 W, .int .i64 L, .slice A ds.length c] 53)) ∧ Below w.heap.size w w1 ∧ w1.cell? ⟨w.heap.size, 0, none⟩ = some (.int .i64 W) ∧ w1.cell? ⟨w.heap.size, 1, none⟩ = some (.int .i64 L) ∧ w1.cell? ⟨w.heap.size, 2, none⟩ = some (.slice A ds.length c) ∧ TS w1 lo hi 5 (.slice A ds.length c) ds ∧ TS w1 l2 h2 4 (.slice B ps.length c2) ps ∧ w.heap.size < w1.heap.size from by
    have hb : Below w.heap.size w (w.alloc (.cells #[.int .i64 W, .int .i64 L, .slice A ds.length c] 53)) := (Below.refl _ _).alloc (Nat.le_refl _) _
    exact ⟨_, rfl, hb, by go_simp, by go_simp, by go_simp, h.below hb hhi, hp.below hb hh2, by simp⟩)
  obtain ⟨R, hR⟩ : ∃ R, R = if vCuts W L ds ps = true then W * L - areaL ps ps.length else -1 := ⟨_, rfl⟩
  rw [← hR]
  have HR := Lib.hid hR
  clear hR
  go_enter Try.func22, Try.ntmps22
  go_wp2_with (fail)
  obtain ⟨w1, hw1, hb0, c00, c01, c02, hT0, hT1, hz⟩ := Hs.out
  rw [← hw1]
  clear hw1 Hs
  refine (ValidCuts_any lo hi l2 h2 W L _ _ ds ps w1 hT0 (by omega) hT1 (by omega)).mono ?_
  rintro e x1 ⟨rfl, bx1⟩
  replace c00 := keepB bx1 c00; replace c01 := keepB bx1 c01; replace c02 := keepB bx1 c02
  have hP := hT1.below bx1 (by omega)
  have hz1 := bx1.size
  have Hb := Lib.hid (hb0.trans (bx1.mono (Nat.le_of_lt hz)))
  clear hT0 hT1 h hp bx1 hb0
  cases hv : vCuts W L ds ps
  · have Hno := Lib.hid (show R = -1 by rw [HR.out, hv]; rfl)
    go_wp2
    go_ret
    exact ⟨ret_int Hno.out.symm, Hb.out⟩
  · have hrg := vReel_rng (vCuts_iff.1 hv).1
    have hlp : ps.length ≤ 60 := (vCuts_iff.1 hv).2.1
    have HPV := Lib.hid (show ∀ j, j < ps.length → pv (gr ps j) W L = true from fun j hj => cut_pv hv hj)
    have HAR := Lib.hid (show ∀ j, j < ps.length → 0 ≤ areaT (gr ps j) ∧ areaT (gr ps j) ≤ 24000 from fun j hj => areaT_rng (HPV.out j hj) (by omega) (by omega))
    have Hyes := Lib.hid (show R = W * L - areaL ps ps.length by rw [HR.out, hv]; rfl)
    have hm0 : 0 ≤ W * L := Int.mul_nonneg (by omega) (by omega)
    have hm1 : W * L ≤ 60 * 400 := Int.mul_le_mul (by omega) (by omega) (by omega) (by omega)
    obtain ⟨M, hM⟩ : ∃ M, W * L = M := ⟨_, rfl⟩
    rw [hM] at hm0 hm1 Hyes
    have g1 : wrap64 (W * L) = M := (congrArg wrap64 hM).trans (w64 ⟨by omega, by omega⟩)
    clear hv hM
    have HG := Lib.hid g1
    clear g1
    go_wp2
    go_loopw [5, 19] (fun s i wr => ∃ k : Nat, k ≤ ps.length ∧ i = .int .i64 k ∧ s = .int .i64 (M - areaL ps k) ∧ Below x1.heap.size x1 wr) (fun _ i _ => ps.length - (intOf i).toNat)
    case atStart => exact ⟨0, by omega, rfl, by rw [HG.out]; simp [areaL], Below.refl _ _⟩
    case round =>
      obtain ⟨k, hk, rfl, rfl, bw⟩ := hrel
      have hzr := bw.size
      by_cases hlt : k < ps.length
      · obtain ⟨b, o, rfl, hb2, hb3, e0, e1, e2, e3⟩ := (hP.below bw (by omega)).c4 hlt
        have hk0 : (0 : Int) ≤ (k : Int) := by omega
        have hk1 : (k : Int) < (ps.length : Int) := by omega
        have hr1 := pv_rng (HPV.out k hlt)
        have ha := areaL_rng (n := ps.length) HAR.out hk
        have ht := HAR.out k hlt
        have HT := Lib.hid (show (gi (gr ps k) 1 - gi (gr ps k) 0) * (gi (gr ps k) 3 - gi (gr ps k) 2) = areaT (gr ps k) from rfl)
        go_wp2_with (fail)
        obtain ⟨wd, hw1⟩ : ∃ wd, wd = wr.alloc (.cells #[.int .i64 (gi (gr ps k) 0), .int .i64 (gi (gr ps k) 1), .int .i64 (gi (gr ps k) 2), .int .i64 (gi (gr ps k) 3)] 48) := ⟨_, rfl⟩
        have p0 : wd.cell? ⟨wr.heap.size, 0, none⟩ = some (.int .i64 (gi (gr ps k) 0)) := by rw [hw1]; go_simp
        have p1 : wd.cell? ⟨wr.heap.size, 1, none⟩ = some (.int .i64 (gi (gr ps k) 1)) := by rw [hw1]; go_simp
        have p2 : wd.cell? ⟨wr.heap.size, 2, none⟩ = some (.int .i64 (gi (gr ps k) 2)) := by rw [hw1]; go_simp
        have p3 : wd.cell? ⟨wr.heap.size, 3, none⟩ = some (.int .i64 (gi (gr ps k) 3)) := by rw [hw1]; go_simp
        have bp : Below wr.heap.size wr wd := by rw [hw1]; exact (Below.refl _ _).alloc (Nat.le_refl _) _
        have zp : wr.heap.size < wd.heap.size := by rw [hw1]; simp
        rw [← hw1]
        clear hw1
        refine (areaOf_any _ _ _ _ wd (by omega) (by omega) (by omega) (by omega) (by omega) (by omega)).mono ?_
        rw [HT.out]
        rintro e x2 ⟨rfl, bx2⟩
        have hbw := bw.trans ((bp.trans (bx2.mono (by omega))).mono (by omega))
        clear e0 e1 e2 e3 p0 p1 p2 p3 bp bx2 hr1
        go_wp2
        go_roundw
        case rel => exact ⟨k + 1, by omega, by go_num, congrArg (Value.int .i64) (by show M - areaL ps k - areaT (gr ps k) = M - (areaL ps k + areaT (gr ps k)); omega), hbw⟩
        case measure => simp [intOf]; omega
      · have He := Lib.hid (show k = ps.length by omega)
        go_wp2
        go_ret
        exact ⟨ret_int (by rw [Hyes.out, He.out]), Hb.out.trans (bw.mono (by omega))⟩
end Go.Proofs.Ytkgepklapglmdaa
