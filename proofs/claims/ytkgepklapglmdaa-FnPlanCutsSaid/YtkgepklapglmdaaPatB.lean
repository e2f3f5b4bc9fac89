/-
  Lemmas and contracts of single functions of this program, used by the proofs of its laws: what each call returns and what becomes of memory. Conditions: the hypotheses of each theorem.
-/
import Derived.Test.YtkgepklapglmdaaPatA
namespace Go.Proofs.Ytkgepklapglmdaa
open Go.RowKit

theorem vPat_len {W : Int} {ws cs : List Int} (h : ¬ cs.length = ws.length) : vPat W ws cs = false := by
  cases hv : vPat W ws cs
  · rfl
  · exact absurd (vPat_iff.1 hv).2.1 h
theorem vPat_wid {W : Int} {ws cs : List Int} (h : vWid W ws = false) : vPat W ws cs = false := by
  unfold vPat; rw [h]; rfl
theorem vPat_neg {W : Int} {ws cs : List Int} {k : Nat} (hk : k < cs.length) (h : gi cs k < 0) : vPat W ws cs = false := by
  cases hv : vPat W ws cs
  · rfl
  · have := (vPat_iff.1 hv).2.2.1 k hk; omega
theorem vPat_used {W : Int} {ws cs : List Int} {k : Nat} (hk : k ≤ cs.length) (h : W < usedL ws cs k) : vPat W ws cs = false := by
  cases hv : vPat W ws cs
  · rfl
  · obtain ⟨a, b, c, d⟩ := vPat_iff.1 hv
    have := used_step (ws := ws) (cs := cs) (n := cs.length) (fun i hi => ⟨(c i hi).1, by have := vWid_w a (i := i) (by omega); omega⟩) hk (m := cs.length) hk (Nat.le_refl _)
    omega
theorem vPat_mk {W : Int} {ws cs : List Int} (hw : vWid W ws = true) (hl : cs.length = ws.length) (h0 : ∀ i, i < cs.length → 0 ≤ gi cs i) (hu : usedL ws cs cs.length ≤ W) : vPat W ws cs = true := by
  refine vPat_iff.2 ⟨hw, hl, fun i hi => ⟨h0 i hi, ?_⟩, hu⟩
  have hx := vWid_w hw (i := i) (by omega)
  have hn : ∀ j, j < cs.length → 0 ≤ gi cs j ∧ 0 ≤ gi ws j := fun j hj => ⟨h0 j hj, by have := vWid_w hw (i := j) (by omega); omega⟩
  have h1 := used_step (ws := ws) (cs := cs) hn (k := i + 1) (by omega) (m := cs.length) (by omega) (Nat.le_refl _)
  have h2 := used_nonneg (ws := ws) (cs := cs) hn (m := i) (by omega)
  have h3 : gi cs i * 1 ≤ gi cs i * gi ws i := Int.mul_le_mul_of_nonneg_left hx.1 (h0 i hi)
  have h4 : usedL ws cs (i + 1) = usedL ws cs i + gi cs i * gi ws i := rfl
  omega
theorem quo_lt {a n q : Int} (_h0 : 0 ≤ a) (hq : 1 ≤ q) : a / q < n ↔ a < n * q := by
  rw [Int.ediv_lt_iff_lt_mul (by omega)]
set_option maxHeartbeats 800000 in
theorem validPattern_any (lo hi l2 h2 : Nat) (W : Int) (v u : Value) (ws cs : List Int) (w : World) (h : Ints w lo hi v ws) (hy : Ints w l2 h2 u cs) :
    Calls Try.prog 62 #[.int .i64 W, v, u] w fun e w' => e = .returned (.bool (vPat W ws cs)) ∧ Qt w w' := by
  obtain ⟨A, c, rfl, hc, hm⟩ := h.form
  obtain ⟨B, d, rfl, hd, hm2⟩ := hy.form
  obtain ⟨R, hR⟩ : ∃ R, R = vPat W ws cs := ⟨_, rfl⟩
  rw [← hR]
  have HR := Lib.hid hR
  clear hR
  go_enter Try.func62, Try.ntmps62
  go_wp2_with fail
  refine (validWidths_any lo hi W _ ws w h).mono ?_
  rintro e w1 ⟨rfl, hq⟩
  cases x1 : vWid W ws
  · have Hno := Lib.hid (show R = false by rw [HR.out]; exact vPat_wid x1)
    go_wp2
    go_ret
    exact ⟨ret_bool Hno.out.symm, hq⟩
  · by_cases x2 : cs.length = ws.length
    · have X2 := Lib.hid x2
      have x2' : (cs.length : Int) = (ws.length : Int) := by omega
      have Hwid := Lib.hid (vWid_iff.1 x1)
      have HW := Lib.hid x1
      have e2 : ((cs.length : Int) == (ws.length : Int)) = true := beq_t x2'
      clear x1 x2 x2'
      go_wp2_with fail
      clear e2
      refine (allIn_any l2 h2 _ cs 0 W w1 (hy.qt hq)).mono ?_
      rintro e w' ⟨rfl, rfl⟩
      cases x3 : allR 0 W cs
      · have Hno := Lib.hid (show R = false by rw [HR.out]; unfold vPat; rw [x3]; simp)
        go_wp2
        go_ret
        exact ⟨ret_bool Hno.out.symm, hq⟩
      · have HA := Lib.hid (allR_iff.1 x3)
        clear x3
        go_wp2_with fail
        refine (used_any lo hi l2 h2 _ _ ws cs w1 (h.qt hq) (hy.qt hq) (by have := X2.out; omega) (by have := Hwid.out; have := X2.out; omega) (fun i hi => by have h1 := HA.out i hi; have h2 := vWid_w HW.out (i := i) (by have := X2.out; omega); have h3 := Hwid.out; omega)).mono ?_
        rintro e w2 ⟨rfl, hq2⟩
        by_cases x4 : usedL ws cs cs.length ≤ W
        · have Hyes := Lib.hid (show R = true by rw [HR.out]; exact vPat_iff.2 ⟨HW.out, X2.out, HA.out, x4⟩)
          go_wp2
          go_ret
          exact ⟨ret_bool Hyes.out.symm, hq.trans hq2⟩
        · have Hno := Lib.hid (show R = false by rw [HR.out]; exact vPat_used (Nat.le_refl _) (by omega))
          go_wp2
          go_ret
          exact ⟨ret_bool (by rw [Hno.out]; simp [x4]), hq.trans hq2⟩
    · have Hno := Lib.hid (show R = false by rw [HR.out]; exact vPat_len x2)
      have e2 : ((cs.length : Int) == (ws.length : Int)) = false := beq_f (by omega)
      go_wp2
      go_ret
      exact ⟨ret_bool Hno.out.symm, hq⟩
set_option maxHeartbeats 800000 in
theorem ValidPattern_any (lo hi l2 h2 : Nat) (W : Int) (v u : Value) (ws cs : List Int) (w : World) (h : Ints w lo hi v ws) (hy : Ints w l2 h2 u cs) :
    Calls Try.prog 54 #[.int .i64 W, v, u] w fun e w' => e = .returned (.bool (vPat W ws cs)) ∧ w = w' := by
  obtain ⟨A, c, rfl, hc, hm⟩ := h.form
  obtain ⟨B, d, rfl, hd, hm2⟩ := hy.form
  obtain ⟨R, hR⟩ : ∃ R, R = vPat W ws cs := ⟨_, rfl⟩
  rw [← hR]
  have HR := Lib.hid hR
  clear hR
  go_enter Try.func54, Try.ntmps54
  go_wp2_with fail
  refine (ValidWidths_any lo hi W _ ws w h).mono ?_
  rintro e w1 ⟨rfl, rfl⟩
  cases x1 : vWid W ws
  · have Hno := Lib.hid (show R = false by rw [HR.out]; exact vPat_wid x1)
    go_wp2
    go_ret
    exact ⟨ret_bool Hno.out.symm, rfl⟩
  · by_cases x2 : cs.length = ws.length
    · have X2 := Lib.hid x2
      have e2 : ((cs.length : Int) != (ws.length : Int)) = false := bne_f (by omega)
      have hlw : cs.length ≤ ws.length := by omega
      have Hwid := Lib.hid (vWid_iff.1 x1)
      have HW := Lib.hid x1
      have hW1 : 1 ≤ W := by have := Hwid.out; omega
      have hW2 : W ≤ 60 := by have := Hwid.out; omega
      clear x1 x2
      go_wp2
      clear e2
      go_loop [7, 24] (fun l i => ∃ k : Nat, ∃ z : Int, k ≤ cs.length ∧ i = .int .i64 k ∧ l = .int .i64 z ∧ 0 ≤ z ∧ z ≤ W ∧ Hid (z = W - usedL ws cs k ∧ ∀ j, j < k → 0 ≤ gi cs j)) (fun _ i => cs.length - (intOf i).toNat)
      case atStart => exact ⟨0, W, by omega, rfl, rfl, by omega, by omega, by simp [usedL], fun j hj => absurd hj (by omega)⟩
      case round =>
        obtain ⟨k, z, hk, rfl, rfl, hz0, hz1, HD⟩ := hrel
        by_cases hlt : k < cs.length
        · obtain ⟨b, o, rfl, _, _, hcell, h64⟩ := h.cell (k := k) (by omega)
          obtain ⟨b2, o2, rfl, _, _, hcell2, h642⟩ := hy.cell hlt
          have hx := vWid_w HW.out (i := k) (by omega)
          have hk0 : (0 : Int) ≤ (k : Int) := by omega
          have hk1 : (k : Int) < (ws.length : Int) := by omega
          have hxa := hx.1
          have hxb := hx.2
          clear hx
          by_cases y1 : gi cs k < 0
          · have Hno := Lib.hid (show R = false by rw [HR.out]; exact vPat_neg hlt y1)
            go_wp2
            go_ret
            exact ⟨ret_bool Hno.out.symm, rfl⟩
          · have y1' : 0 ≤ gi cs k := by omega
            obtain ⟨q, hq⟩ : ∃ q, q = z / gi ws k := ⟨_, rfl⟩
            have HQ := Lib.hid (show q < gi cs k ↔ z < gi cs k * gi ws k by rw [hq]; exact quo_lt hz0 hxa)
            have hq2 : z / gi ws k = q := hq.symm
            clear hq
            by_cases y2 : q < gi cs k
            · have Hno := Lib.hid (show R = false by
                rw [HR.out]
                refine vPat_used (k := k + 1) (by omega) ?_
                have h1 := HQ.out.1 y2
                have h2 := HD.out.1
                show W < usedL ws cs k + gi cs k * gi ws k
                omega)
              go_wp2
              go_ret
              exact ⟨ret_bool Hno.out.symm, rfl⟩
            · have hp : gi cs k * gi ws k ≤ z := by have h1 := HQ.out; omega
              have hp0 : 0 ≤ gi cs k * gi ws k := Int.mul_nonneg y1' (by omega)
              obtain ⟨p, hp9⟩ : ∃ p, p = gi cs k * gi ws k := ⟨_, rfl⟩
              have HP := Lib.hid hp9
              have g1 : wrap64 (gi cs k * gi ws k) = p := by rw [← hp9] at hp hp0 ⊢; unfold wrap64; omega
              rw [← hp9] at hp hp0
              clear hp9
              go_wp2
              clear g1 hq2
              go_round
              case rel =>
                refine ⟨k + 1, z - p, by omega, by go_num, rfl, by omega, by omega, ?_, fun j hj => ?_⟩
                · have h1 := HD.out.1
                  have h2 := HP.out
                  show z - p = W - (usedL ws cs k + gi cs k * gi ws k)
                  omega
                · rcases Nat.lt_or_ge j k with h' | h'
                  · exact HD.out.2 j h'
                  · obtain rfl : j = k := by omega
                    exact y1'
              case measure => simp [intOf]; omega
        · have Hyes := Lib.hid (show R = true by
            rw [HR.out]
            have h1 := HD.out.1
            obtain rfl : k = cs.length := by omega
            exact vPat_mk HW.out X2.out HD.out.2 (by omega))
          go_wp2
          go_ret
          exact ⟨ret_bool Hyes.out.symm, rfl⟩
    · have Hno := Lib.hid (show R = false by rw [HR.out]; exact vPat_len x2)
      have e2 : ((cs.length : Int) != (ws.length : Int)) = true := bne_t (by omega)
      go_wp2
      go_ret
      exact ⟨ret_bool Hno.out.symm, rfl⟩
end Go.Proofs.Ytkgepklapglmdaa
