/-
  Lemmas and contracts of single functions of this program, used by the proofs of its laws: what each call returns and what becomes of memory. Conditions: the hypotheses of each theorem.
-/
import Derived.Test.YtodbgkflakfjpaaBoolA
namespace Go.Proofs.Ytodbgkflakfjpaa
open Go.RowKit
attribute [local go_sem ↓] Go.wp_at_zero Go.wp_at_succ

set_option maxHeartbeats 800000 in
theorem lanesOf_any (lo hi : Nat) (W L : Int) (v : Value) (ds : List (List Int)) (l r : Int) (w : World) (h : TS w lo hi 5 v ds) (hhi : hi ≤ w.heap.size) :
    Calls Try.prog 70 #[.agg #[.int .i64 W, .int .i64 L, v], .int .i64 l, .int .i64 r] w fun e w' => e = .returned (.bool (vReel W L ds && (decide (0 ≤ l) && (decide (l < r) && decide (r ≤ W))))) ∧ Below w.heap.size w w' := by
  obtain ⟨A, c, rfl, hc, hm⟩ := h.form
  have Hs := Lib.hid (show ∃ w1, w1 = (w.alloc (.cells #[.int .i64 W, .int .i64 L, .slice A ds.length c] 30)) ∧ Below w.heap.size w w1 ∧ w1.cell? ⟨w.heap.size, 0, none⟩ = some (.int .i64 W) ∧ w1.cell? ⟨w.heap.size, 1, none⟩ = some (.int .i64 L) ∧ w1.cell? ⟨w.heap.size, 2, none⟩ = some (.slice A ds.length c) ∧ TS w1 lo hi 5 (.slice A ds.length c) ds ∧ w.heap.size < w1.heap.size from by
    have hb : Below w.heap.size w (w.alloc (.cells #[.int .i64 W, .int .i64 L, .slice A ds.length c] 30)) := (Below.refl _ _).alloc (Nat.le_refl _) _
    exact ⟨_, rfl, hb, by go_simp, by go_simp, by go_simp, h.below hb hhi, by simp⟩)
  go_enter Try.func70, Try.ntmps70
  go_wp2_with (fail)
  obtain ⟨w1, hw1, hb0, c00, c01, c02, hT0, hz⟩ := Hs.out
  rw [← hw1]
  clear hw1 Hs
  refine (ValidReel_any lo hi W L _ ds w1 hT0 (by omega)).mono ?_
  rintro e x1 ⟨rfl, bx1⟩
  replace c00 := keepB bx1 c00
  have Hb := Lib.hid (hb0.trans (bx1.mono (Nat.le_of_lt hz)))
  clear h hT0 bx1 hb0 c01 c02
  cases hv : vReel W L ds
  · have HV := Lib.hid hv
    clear hv
    go_wp2
    go_ret
    exact ⟨ret_bool (by rw [HV.out]; rfl), Hb.out⟩
  · have HV := Lib.hid hv
    clear hv
    go_wp2
    all_goals go_ret
    all_goals exact ⟨ret_bool (by rw [HV.out]; simp [*] <;> omega), Hb.out⟩
set_option maxRecDepth 100000 in
set_option maxHeartbeats 1600000 in
theorem GoodStretches_any (lo hi : Nat) (W L : Int) (v : Value) (ds : List (List Int)) (l r m : Int) (w : World) (h : TS w lo hi 5 v ds) (hhi : hi ≤ w.heap.size) :
    Calls Try.prog 18 #[.agg #[.int .i64 W, .int .i64 L, v], .int .i64 l, .int .i64 r, .int .i64 m] w fun e w' => ∃ v', e = .returned v' ∧ OwnT w' w.heap.size 96 2 v' (gsL W L ds l r m) ∧ Below w.heap.size w w' := by
  obtain ⟨A, c, rfl, hc, hm⟩ := h.form
  have Hs := Lib.hid (show ∃ w1, w1 = (w.alloc (.cells #[.int .i64 W, .int .i64 L, .slice A ds.length c] 30)) ∧ Below w.heap.size w w1 ∧ w1.cell? ⟨w.heap.size, 0, none⟩ = some (.int .i64 W) ∧ w1.cell? ⟨w.heap.size, 1, none⟩ = some (.int .i64 L) ∧ w1.cell? ⟨w.heap.size, 2, none⟩ = some (.slice A ds.length c) ∧ TS w1 lo hi 5 (.slice A ds.length c) ds ∧ w.heap.size < w1.heap.size from by
    have hb : Below w.heap.size w (w.alloc (.cells #[.int .i64 W, .int .i64 L, .slice A ds.length c] 30)) := (Below.refl _ _).alloc (Nat.le_refl _) _
    exact ⟨_, rfl, hb, by go_simp, by go_simp, by go_simp, h.below hb hhi, by simp⟩)
  obtain ⟨R, hR⟩ : ∃ R, R = gsL W L ds l r m := ⟨_, rfl⟩
  rw [← hR]
  have HR := Lib.hid hR
  clear hR
  go_enter Try.func18, Try.ntmps18
  go_wp2_with (fail)
  obtain ⟨w1, hw1, hb0, c00, c01, c02, hT0, hz⟩ := Hs.out
  rw [← hw1]
  clear hw1 Hs
  refine (lanesOf_any lo hi W L _ ds l r w1 hT0 (by omega)).mono ?_
  obtain ⟨q, hq⟩ : ∃ q, q = (vReel W L ds && (decide (0 ≤ l) && (decide (l < r) && decide (r ≤ W)))) := ⟨_, rfl⟩
  have HQ := Lib.hid hq
  rw [← hq]
  clear hq
  rintro e x1 ⟨rfl, bx1⟩
  replace c00 := keepB bx1 c00; replace c01 := keepB bx1 c01; replace c02 := keepB bx1 c02
  have hD := hT0.below bx1 (by omega)
  have hz1 := bx1.size
  have Hb := Lib.hid (hb0.trans (bx1.mono (Nat.le_of_lt hz)))
  clear h hT0 bx1 hb0
  cases q
  · have Hno := Lib.hid (show R = [] by rw [HR.out]; unfold gsL; refine if_neg fun hh => ?_; have := HQ.out; rw [hh.1, decide_eq_true hh.2.1, decide_eq_true hh.2.2.1, decide_eq_true hh.2.2.2] at this; cases this)
    go_wp2
    go_ret
    exact ⟨_, rfl, by rw [Hno.out]; exact OwnT.nil _ _ _ _, Hb.out⟩
  · have Hc := Lib.hid (show vReel W L ds = true ∧ 0 ≤ l ∧ l < r ∧ r ≤ W by have := HQ.out; simp at this; exact ⟨this.1, this.2.1, this.2.2.1, this.2.2.2⟩)
    have Hyes := Lib.hid (show R = stL (bpP L.toNat ds l r m ds.length) by rw [HR.out]; unfold gsL; exact if_pos Hc.out)
    have hrg := vReel_rng Hc.out.1
    obtain ⟨n, rfl⟩ : ∃ n : Nat, L = (n : Int) := ⟨L.toNat, by omega⟩
    rw [Int.toNat_natCast] at Hyes
    go_wp2_with (fail)
    refine (badPlaces_any lo hi W (n : Int) _ ds l r m x1 hD (by omega) Hc.out.1).mono ?_
    rw [Int.toNat_natCast]
    rintro e x2 ⟨vb, rfl, hb, bx2⟩
    replace c00 := keepB bx2 c00; replace c01 := keepB bx2 c01; replace c02 := keepB bx2 c02
    have hz2 := bx2.size
    have Hb2 := Lib.hid (Hb.out.trans (bx2.mono (by omega)))
    have hbl := bpP_len n ds l r m ds.length
    obtain ⟨bs, hbs⟩ : ∃ bs, bs = bpP n ds l r m ds.length := ⟨_, rfl⟩
    rw [← hbs] at hb hbl Hyes
    clear hbs bx2 hD
    have hB := hb.bls
    clear hb
    obtain ⟨A2, c2, rfl, hc2, hm2⟩ := hB.form
    rw [hbl] at hc2
    have HBL := Lib.hid hbl
    rw [hbl]
    rw [hbl] at hB
    clear hbl
    go_wp2
    go_loopw [9, 10, 24] (fun u f i wr => ∃ k : Nat, k ≤ n ∧ i = .int .i64 k ∧ f = .int .i64 (iS bs k).2 ∧ OwnT wr x2.heap.size 96 2 u (iS bs k).1 ∧ Below x2.heap.size x2 wr) (fun _ _ i _ => n - (intOf i).toNat)
    case atStart => exact ⟨0, by omega, rfl, rfl, OwnT.nil _ _ _ _, Below.refl _ _⟩
    case round =>
      obtain ⟨k, hk, rfl, rfl, ho, bw⟩ := hrel
      have hzr := bw.size
      have hir := iS_rng bs k
      obtain ⟨i0, i1, i2⟩ := hir
      by_cases hlt : k < n
      · obtain ⟨b, o, rfl, _, _, hcell⟩ := (hB.below bw (by omega)).cell (k := k) (by rw [HBL.out]; exact hlt)
        have hk0 : (0 : Int) ≤ (k : Int) := by omega
        have hk1 : (k : Int) < (n : Int) := by omega
        have HS := Lib.hid (show iS bs (k + 1) = if gb bs k = true then (if (iS bs k).2 < k then (iS bs k).1 ++ [[(iS bs k).2, (k : Int)]] else (iS bs k).1, (k : Int) + 1) else iS bs k from rfl)
        obtain ⟨s, hs⟩ : ∃ s, s = iS bs k := ⟨_, rfl⟩
        rw [← hs] at i0 i1 i2 ho HS
        rw [← hs]
        obtain ⟨xs, f⟩ := s
        have HO := Lib.hid ho
        clear hs ho
        dsimp only at i0 i1 i2 HO HS ⊢
        cases hg : gb bs k
        · rw [hg] at hcell
          have HS2 := Lib.hid (show iS bs (k + 1) = (xs, f) by rw [HS.out, hg]; rfl)
          clear HS hg
          go_wp2
          go_roundw
          case rel => exact ⟨k + 1, by omega, by go_num, by rw [HS2.out], by rw [HS2.out]; exact HO.out, bw⟩
          case measure => simp [intOf]; omega
        · rw [hg] at hcell
          by_cases hf : f < k
          · have HS2 := Lib.hid (show iS bs (k + 1) = (xs ++ [[f, (k : Int)]], (k : Int) + 1) by rw [HS.out, hg, if_pos rfl, if_pos hf])
            clear HS hg
            go_wp2_with (at_builtin; refine wpList_appendT SlStretch _ rfl (.tmp 34) (.tmp 38) rfl [f, (k : Int)] _ rfl x2.heap.size _ _ rfl rfl HO.out ⟨rfl, i64_2 ⟨by omega, by omega⟩ ⟨by omega, by omega⟩⟩ (by omega) (by omega) (by omega) ?_; intro v' w3 ho3 hg3)
            go_roundw
            case rel => exact ⟨k + 1, by omega, by go_num, by rw [HS2.out], by rw [HS2.out]; exact ho3, bw.trans hg3.below⟩
            case measure => simp [intOf]; omega
          · have HS2 := Lib.hid (show iS bs (k + 1) = (xs, (k : Int) + 1) by rw [HS.out, hg, if_pos rfl, if_neg hf])
            clear HS hg
            go_wp2
            go_roundw
            case rel => exact ⟨k + 1, by omega, by go_num, by rw [HS2.out], by rw [HS2.out]; exact HO.out, bw⟩
            case measure => simp [intOf]; omega
      · have He := Lib.hid (show k = n by omega)
        replace c00 := keepB bw c00; replace c01 := keepB bw c01; replace c02 := keepB bw c02
        have HST := Lib.hid (show R = if (iS bs n).2 < n then (iS bs n).1 ++ [[(iS bs n).2, (n : Int)]] else (iS bs n).1 by rw [Hyes.out]; unfold stL; rw [HBL.out])
        have hkn : k = n := He.out
        subst hkn
        obtain ⟨s, hs⟩ : ∃ s, s = iS bs k := ⟨_, rfl⟩
        rw [← hs] at i0 i1 i2 ho HST
        rw [← hs]
        obtain ⟨xs, f⟩ := s
        have HO := Lib.hid ho
        clear hs ho He
        dsimp only at i0 i1 i2 HO HST ⊢
        by_cases hf : f < k
        · have HR2 := Lib.hid (show R = xs ++ [[f, (k : Int)]] by rw [HST.out, if_pos hf])
          go_wp2_with (at_builtin; refine wpList_appendT SlStretch _ rfl (.tmp 47) (.tmp 52) rfl [f, (k : Int)] _ rfl x2.heap.size _ _ rfl rfl HO.out ⟨rfl, i64_2 ⟨by omega, by omega⟩ ⟨by omega, by omega⟩⟩ (by omega) (by omega) (by omega) ?_; intro v' w3 ho3 hg3)
          go_ret
          exact ⟨_, rfl, by rw [HR2.out]; exact ho3.base (by omega), Hb2.out.trans ((bw.trans hg3.below).mono (by omega))⟩
        · have HR2 := Lib.hid (show R = xs by rw [HST.out, if_neg hf])
          go_wp2
          go_ret
          exact ⟨_, rfl, by rw [HR2.out]; exact HO.out.base (by omega), Hb2.out.trans (bw.mono (by omega))⟩
end Go.Proofs.Ytodbgkflakfjpaa
