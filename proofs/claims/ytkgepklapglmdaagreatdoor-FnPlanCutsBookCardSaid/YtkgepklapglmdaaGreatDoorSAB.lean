/-
  Texts merged into one: what each function does, and plain lemmas. No condition.
-/
import Derived.Test.YtkgepklapglmdaaGreatDoorPaX
import Derived.Test.YtkgepklapglmdaaGreatDoorMReel
namespace Go.Proofs.YtkgepklapglmdaaGreatDoor
open Go.RowKit
attribute [local go_sem ↓] Go.wp_at_zero Go.wp_at_succ

/-- m rolls of the width w from the lane a on -/
def rowsOf (w a fr til : Int) : Nat → List (List Int)
  | 0 => []
  | m + 1 => rowsOf w a fr til m ++ [[a + m * w, a + m * w + w, fr, til]]
/-- the rolls of the first k widths -/
def slitT (ws cs : List Int) (fr til : Int) : Nat → List (List Int)
  | 0 => []
  | k + 1 => slitT ws cs fr til k ++ rowsOf (gi ws k) (usedL ws cs k) fr til (gi cs k).toNat
def slL (W L : Int) (ds : List (List Int)) (ws cs : List Int) (fr til : Int) : List (List Int) :=
  if vReel W L ds = true ∧ vPat W ws cs = true ∧ 0 ≤ fr ∧ fr < til ∧ til ≤ L then slitT ws cs fr til cs.length else []
theorem slL_no {W L : Int} {ds : List (List Int)} {ws cs : List Int} {fr til : Int} (h : ¬ (vReel W L ds = true ∧ vPat W ws cs = true ∧ 0 ≤ fr ∧ fr < til ∧ til ≤ L)) : slL W L ds ws cs fr til = [] := if_neg h
theorem slL_yes {W L : Int} {ds : List (List Int)} {ws cs : List Int} {fr til : Int} (h : vReel W L ds = true ∧ vPat W ws cs = true ∧ 0 ≤ fr ∧ fr < til ∧ til ≤ L) : slL W L ds ws cs fr til = slitT ws cs fr til cs.length := if_pos h
theorem rowsOf_len (w a fr til : Int) : ∀ m, (rowsOf w a fr til m).length = m
  | 0 => rfl
  | m + 1 => by rw [rowsOf, List.length_append, rowsOf_len w a fr til m]; rfl
theorem pat_used {W : Int} {ws cs : List Int} (h : vPat W ws cs = true) {k : Nat} (hk : k ≤ cs.length) : 0 ≤ usedL ws cs k ∧ usedL ws cs k ≤ W ∧ W ≤ 60 := by
  obtain ⟨a, b, c, d⟩ := vPat_iff.1 h
  have hn : ∀ j, j < cs.length → 0 ≤ gi cs j ∧ 0 ≤ gi ws j := fun j hj => ⟨(c j hj).1, by have := vWid_w a (i := j) (by omega); omega⟩
  have h1 := used_nonneg (ws := ws) (cs := cs) hn hk
  have h2 := used_step (ws := ws) (cs := cs) hn hk (m := cs.length) hk (Nat.le_refl _)
  have h3 := (vWid_iff.1 a).2.1
  omega
theorem slitT_len {W : Int} {ws cs : List Int} (fr til : Int) (h : vPat W ws cs = true) : ∀ {k : Nat}, k ≤ cs.length → ((slitT ws cs fr til k).length : Int) ≤ usedL ws cs k
  | 0, _ => by simp [slitT, usedL]
  | k + 1, hk => by
    have h1 := slitT_len fr til h (k := k) (by omega)
    obtain ⟨a, b, c, d⟩ := vPat_iff.1 h
    have h2 := c k (by omega)
    have h3 := vWid_w a (i := k) (by omega)
    have h4 : gi cs k * 1 ≤ gi cs k * gi ws k := Int.mul_le_mul_of_nonneg_left h3.1 h2.1
    rw [slitT, List.length_append, rowsOf_len]
    show _ ≤ usedL ws cs k + gi cs k * gi ws k
    omega
theorem slL_len (W L : Int) (ds : List (List Int)) (ws cs : List Int) (fr til : Int) : (slL W L ds ws cs fr til).length ≤ 60 := by
  by_cases h : vReel W L ds = true ∧ vPat W ws cs = true ∧ 0 ≤ fr ∧ fr < til ∧ til ≤ L
  · rw [slL_yes h]
    have h1 := slitT_len fr til h.2.1 (k := cs.length) (Nat.le_refl _)
    have h2 := pat_used h.2.1 (k := cs.length) (Nat.le_refl _)
    omega
  · rw [slL_no h]; simp
/-- in the midst of the rolls of one width -/
theorem slit_mid {W : Int} {ws cs : List Int} (h : vPat W ws cs = true) {k m : Nat} (hk : k < cs.length) (hm : (m : Int) < gi cs k) : 1 ≤ gi ws k ∧ gi ws k ≤ 60 ∧ 0 ≤ usedL ws cs k + m * gi ws k ∧ usedL ws cs k + m * gi ws k + gi ws k ≤ 60 := by
  have h1 := pat_used h (k := k) (by omega)
  have h2 := pat_used h (k := k + 1) (by omega)
  obtain ⟨a, b, c, d⟩ := vPat_iff.1 h
  have h3 := vWid_w a (i := k) (by omega)
  have h4 : (m : Int) * gi ws k + gi ws k ≤ gi cs k * gi ws k := by
    have : ((m : Int) + 1) * gi ws k ≤ gi cs k * gi ws k := Int.mul_le_mul_of_nonneg_right (by omega) (by omega)
    rwa [Int.add_mul, Int.one_mul] at this
  have h5 : (0 : Int) ≤ m * gi ws k := Int.mul_nonneg (by omega) (by omega)
  have h6 : usedL ws cs (k + 1) = usedL ws cs k + gi cs k * gi ws k := rfl
  omega
theorem slit_end {ws cs : List Int} {fr til : Int} {k m : Nat} (hm : ¬ (m : Int) < gi cs k) (hm2 : (m : Int) ≤ gi cs k) : slitT ws cs fr til k ++ rowsOf (gi ws k) (usedL ws cs k) fr til m = slitT ws cs fr til (k + 1) ∧ usedL ws cs k + m * gi ws k = usedL ws cs (k + 1) := by
  have e : (m : Int) = gi cs k := by omega
  have e2 : (gi cs k).toNat = m := by omega
  exact ⟨by rw [slitT, e2], by rw [e]; rfl⟩
set_option maxRecDepth 100000 in
set_option maxHeartbeats 1600000 in
theorem SlitReel_any (lo hi l2 h2 l3 h3 : Nat) (W L : Int) (v u z : Value) (ds : List (List Int)) (ws cs : List Int) (fr til : Int) (w : World) (h : TS w lo hi 5 v ds) (hhi : hi ≤ w.heap.size) (hw : Ints w l2 h2 u ws) (hh2 : h2 ≤ w.heap.size) (hcs : Ints w l3 h3 z cs) (hh3 : h3 ≤ w.heap.size) (_hfr : I64 fr) (_hto : I64 til) :
    Calls Tryz.prog 32 #[.agg #[.int .i64 W, .int .i64 L, v], u, z, .int .i64 fr, .int .i64 til] w fun e w' => ∃ v', e = .returned v' ∧ OwnT w' w.heap.size 38 4 v' (slL W L ds ws cs fr til) ∧ Below w.heap.size w w' := by
  obtain ⟨A, c, rfl, hc, hm⟩ := h.form
  obtain ⟨B, c2, rfl, hc2, hm2⟩ := hw.form
  obtain ⟨C, c3, rfl, hc3, hm3⟩ := hcs.form
  have Hs := Lib.hid (show ∃ w1, w1 = (w.alloc (.cells #[.int .i64 W, .int .i64 L, .slice A ds.length c] 55)) ∧ Below w.heap.size w w1 ∧ w1.cell? ⟨w.heap.size, 0, none⟩ = some (.int .i64 W) ∧ w1.cell? ⟨w.heap.size, 1, none⟩ = some (.int .i64 L) ∧ w1.cell? ⟨w.heap.size, 2, none⟩ = some (.slice A ds.length c) ∧ TS w1 lo hi 5 (.slice A ds.length c) ds ∧ Ints w1 l2 h2 (.slice B ws.length c2) ws ∧ Ints w1 l3 h3 (.slice C cs.length c3) cs ∧ w.heap.size < w1.heap.size from by
    have hb : Below w.heap.size w (w.alloc (.cells #[.int .i64 W, .int .i64 L, .slice A ds.length c] 55)) := (Below.refl _ _).alloc (Nat.le_refl _) _
    exact ⟨_, rfl, hb, by go_simp, by go_simp, by go_simp, h.below hb hhi, hw.below hb hh2, hcs.below hb hh3, by simp⟩)
  obtain ⟨R, hR⟩ : ∃ R, R = slL W L ds ws cs fr til := ⟨_, rfl⟩
  rw [← hR]
  have HR := Lib.hid hR
  clear hR
  go_enter Tryz.func32, Tryz.ntmps32
  go_wp2_with (fail)
  obtain ⟨w1, hw1, hb0, c00, c01, c02, hT0, hT1, hT2, hz⟩ := Hs.out
  rw [← hw1]
  clear hw1 Hs
  refine (ValidReel_any lo hi W L _ ds w1 hT0 (by omega)).mono ?_
  rintro e x0 ⟨rfl, bx1⟩
  replace c00 := keepB bx1 c00; replace c01 := keepB bx1 c01; replace c02 := keepB bx1 c02
  have hWs := hT1.below bx1 (by omega)
  have hCs := hT2.below bx1 (by omega)
  have hz1 := bx1.size
  have Hb := Lib.hid (hb0.trans (bx1.mono (Nat.le_of_lt hz)))
  clear hT0 hT1 hT2 h hw hcs bx1 hb0
  cases hv : vReel W L ds
  · have Hno := Lib.hid (show R = [] by rw [HR.out]; exact slL_no (by rw [hv]; simp))
    go_wp2
    go_ret
    exact ⟨_, rfl, by rw [Hno.out]; exact OwnT.nil _ _ _ _, Hb.out⟩
  · have Hv := Lib.hid hv
    have hrg := vReel_rng hv
    clear hv
    go_wp2_with (fail)
    refine (ValidPattern_any l2 h2 l3 h3 W _ _ ws cs x0 hWs hCs).mono ?_
    cases hp : vPat W ws cs
    · have Hno := Lib.hid (show R = [] by rw [HR.out]; exact slL_no (by rw [hp]; simp))
      rintro e x1 ⟨rfl, rfl⟩
      go_wp2
      go_ret
      exact ⟨_, rfl, by rw [Hno.out]; exact OwnT.nil _ _ _ _, Hb.out⟩
    · have Hp := Lib.hid hp
      clear hp
      rintro e x1 ⟨rfl, rfl⟩
      by_cases hf : 0 ≤ fr ∧ fr < til ∧ til ≤ L
      · have Hyes := Lib.hid (show R = slitT ws cs fr til cs.length by rw [HR.out]; exact slL_yes ⟨Hv.out, Hp.out, hf⟩)
        obtain ⟨f1, f2, f3⟩ := hf
        have hlw : cs.length ≤ ws.length := by have := (vPat_iff.1 Hp.out).2.1; omega
        go_wp2
        obtain ⟨y0, hy0⟩ : ∃ y0, y0 = x0 := ⟨_, rfl⟩
        rw [← hy0] at hWs hCs Hb c00 c01 c02 hz1 ⊢
        clear hy0
        go_loopw [11, 12, 41] (fun v a i wr => ∃ k : Nat, k ≤ cs.length ∧ i = .int .i64 k ∧ a = .int .i64 (usedL ws cs k) ∧ OwnT wr y0.heap.size 38 4 v (slitT ws cs fr til k) ∧ Below y0.heap.size y0 wr) (fun _ _ i _ => cs.length - (intOf i).toNat)
        case atStart => exact ⟨0, by omega, rfl, rfl, OwnT.nil _ _ _ _, Below.refl _ _⟩
        case round =>
          obtain ⟨k, hk, rfl, rfl, ho, bw⟩ := hrel
          obtain ⟨wo, rfl⟩ : ∃ wo : World, wo = wr := ⟨_, rfl⟩
          have hzr := bw.size
          by_cases hlt : k < cs.length
          · obtain ⟨b2, o2, rfl, _, _, hcell2, h642⟩ := (hCs.below bw (by omega)).cell hlt
            have hk0 : (0 : Int) ≤ (k : Int) := by omega
            have hk1 : (k : Int) < (ws.length : Int) := by omega
            have hk2 : (k : Int) < (cs.length : Int) := by omega
            have hn0 : 0 ≤ gi cs k := ((vPat_iff.1 Hp.out).2.2.1 k hlt).1
            have hn1 : gi cs k ≤ 60 := by have h1 := ((vPat_iff.1 Hp.out).2.2.1 k hlt).2; have h2 := (vWid_iff.1 (vPat_iff.1 Hp.out).1).2.1; omega
            have hls := slitT_len fr til Hp.out (k := k) hk
            have hus := pat_used Hp.out (k := k) hk
            go_wp2
            clear hcell2
            go_loopw [11, 12, 47] (fun v a i wr => ∃ m : Nat, (m : Int) ≤ gi cs k ∧ i = .int .i64 m ∧ a = .int .i64 (usedL ws cs k + m * gi ws k) ∧ OwnT wr y0.heap.size 38 4 v (slitT ws cs fr til k ++ rowsOf (gi ws k) (usedL ws cs k) fr til m) ∧ Below y0.heap.size y0 wr) (fun _ _ i _ => (gi cs k).toNat - (intOf i).toNat)
            case atStart => exact ⟨0, by omega, rfl, by go_num, by simpa [rowsOf] using ho, bw⟩
            case round =>
              obtain ⟨m, hmk, rfl, rfl, ho, bw⟩ := hrel
              have hzr := bw.size
              by_cases hlt2 : (m : Int) < gi cs k
              · obtain ⟨b1, o1, rfl, _, _, hcell, h64⟩ := (hWs.below bw (by omega)).cell (k := k) (by omega)
                have hmid := slit_mid Hp.out hlt hlt2
                obtain ⟨g1, g2, g3, g4⟩ := hmid
                obtain ⟨a, ha⟩ : ∃ a, a = usedL ws cs k + m * gi ws k := ⟨_, rfl⟩
                have HA := Lib.hid ha
                have HL := Lib.hid (show (slitT ws cs fr til k ++ rowsOf (gi ws k) (usedL ws cs k) fr til m).length ≤ 120 by rw [List.length_append, rowsOf_len]; have h7 : (m : Int) * 1 ≤ m * gi ws k := Int.mul_le_mul_of_nonneg_left g1 (by omega); omega)
                have HN := Lib.hid (show slitT ws cs fr til k ++ rowsOf (gi ws k) (usedL ws cs k) fr til m ++ [[a, a + gi ws k, fr, til]] = slitT ws cs fr til k ++ rowsOf (gi ws k) (usedL ws cs k) fr til (m + 1) by rw [rowsOf, List.append_assoc, ha])
                have HU := Lib.hid (show a + gi ws k = usedL ws cs k + ((m + 1 : Nat) : Int) * gi ws k by rw [ha, Int.natCast_succ, Int.add_mul, Int.one_mul, Int.add_assoc])
                rw [← ha] at g3 g4
                rw [← ha]
                have Ho := Lib.hid ho
                clear ha ho hls hus
                go_wp2_with (at_builtin; refine wpList_appendT SlPart _ rfl (.tmp 49) (.tmp 60) rfl [a, a + gi ws k, fr, til] _ rfl y0.heap.size _ _ rfl rfl Ho.out ⟨rfl, by simp [I64]; omega⟩ (by have := HL.out; omega) (by have := HL.out; omega) (by omega) ?_; intro v' w3 ho3 hg3; have bw3 := bw.trans hg3.below; have hcell9 := (hWs.below bw3 (by omega)).cell' (k := k) (by omega))
                go_roundw
                case rel => exact ⟨m + 1, by omega, by go_num, congrArg (Value.int .i64) HU.out, by rw [← HN.out]; exact ho3, bw3⟩
                case measure => simp [intOf]; omega
              · have HE := Lib.hid (slit_end (ws := ws) (fr := fr) (til := til) hlt2 hmk)
                go_wp2
                go_roundw
                case rel => exact ⟨k + 1, by omega, by go_num, by rw [HE.out.2], by rw [← HE.out.1]; exact ho, bw⟩
                case measure => simp [intOf]; omega
          · have He := Lib.hid (show k = cs.length by omega)
            go_wp2
            go_ret
            exact ⟨_, rfl, by rw [Hyes.out, ← He.out]; exact ho.base (by omega), Hb.out.trans (bw.mono (by omega))⟩
      · have Hno := Lib.hid (show R = [] by rw [HR.out]; exact slL_no (fun hh => hf hh.2.2))
        have hfo : ¬ (0 ≤ fr ∧ fr < til) ∨ L < til := by omega
        clear hf
        by_cases q1 : fr < 0
        · go_wp2
          go_ret
          exact ⟨_, rfl, by rw [Hno.out]; exact OwnT.nil _ _ _ _, Hb.out⟩
        · by_cases q2 : til ≤ fr
          · go_wp2
            go_ret
            exact ⟨_, rfl, by rw [Hno.out]; exact OwnT.nil _ _ _ _, Hb.out⟩
          · have q3 : L < til := by omega
            go_wp2
            all_goals go_ret
            all_goals exact ⟨_, rfl, by rw [Hno.out]; exact OwnT.nil _ _ _ _, Hb.out⟩
set_option maxRecDepth 100000 in
set_option maxHeartbeats 1600000 in
theorem sSlitReel_any (lo hi l2 h2 l3 h3 : Nat) (W L : Int) (v u z : Value) (ds : List (List Int)) (ws cs : List Int) (fr til : Int) (w : World) (h : TS w lo hi 5 v ds) (hhi : hi ≤ w.heap.size) (hw : Ints w l2 h2 u ws) (hh2 : h2 ≤ w.heap.size) (hcs : Ints w l3 h3 z cs) (hh3 : h3 ≤ w.heap.size) (_hfr : I64 fr) (_hto : I64 til) :
    Calls Tryz.prog 37 #[.agg #[.int .i64 W, .int .i64 L, v], u, z, .int .i64 fr, .int .i64 til] w fun e w' => ∃ v', e = .returned v' ∧ OwnT w' w.heap.size 38 4 v' (slL W L ds ws cs fr til) ∧ Below w.heap.size w w' := by
  obtain ⟨A, c, rfl, hc, hm⟩ := h.form
  obtain ⟨B, c2, rfl, hc2, hm2⟩ := hw.form
  obtain ⟨C, c3, rfl, hc3, hm3⟩ := hcs.form
  have Hs := Lib.hid (show ∃ w1, w1 = (w.alloc (.cells #[.int .i64 W, .int .i64 L, .slice A ds.length c] 55)) ∧ Below w.heap.size w w1 ∧ w1.cell? ⟨w.heap.size, 0, none⟩ = some (.int .i64 W) ∧ w1.cell? ⟨w.heap.size, 1, none⟩ = some (.int .i64 L) ∧ w1.cell? ⟨w.heap.size, 2, none⟩ = some (.slice A ds.length c) ∧ TS w1 lo hi 5 (.slice A ds.length c) ds ∧ Ints w1 l2 h2 (.slice B ws.length c2) ws ∧ Ints w1 l3 h3 (.slice C cs.length c3) cs ∧ w.heap.size < w1.heap.size from by
    have hb : Below w.heap.size w (w.alloc (.cells #[.int .i64 W, .int .i64 L, .slice A ds.length c] 55)) := (Below.refl _ _).alloc (Nat.le_refl _) _
    exact ⟨_, rfl, hb, by go_simp, by go_simp, by go_simp, h.below hb hhi, hw.below hb hh2, hcs.below hb hh3, by simp⟩)
  obtain ⟨R, hR⟩ : ∃ R, R = slL W L ds ws cs fr til := ⟨_, rfl⟩
  rw [← hR]
  have HR := Lib.hid hR
  clear hR
  go_enter Tryz.func37, Tryz.ntmps37
  go_wp2_with (fail)
  obtain ⟨w1, hw1, hb0, c00, c01, c02, hT0, hT1, hT2, hz⟩ := Hs.out
  rw [← hw1]
  clear hw1 Hs
  refine (validReel_any lo hi W L _ ds w1 hT0 (by omega)).mono ?_
  rintro e x0 ⟨rfl, bx1⟩
  replace c00 := keepB bx1 c00; replace c01 := keepB bx1 c01; replace c02 := keepB bx1 c02
  have hWs := hT1.below bx1 (by omega)
  have hCs := hT2.below bx1 (by omega)
  have hz1 := bx1.size
  have Hb := Lib.hid (hb0.trans (bx1.mono (Nat.le_of_lt hz)))
  clear hT0 hT1 hT2 h hw hcs bx1 hb0
  cases hv : vReel W L ds
  · have Hno := Lib.hid (show R = [] by rw [HR.out]; exact slL_no (by rw [hv]; simp))
    go_wp2
    go_ret
    exact ⟨_, rfl, by rw [Hno.out]; exact OwnT.nil _ _ _ _, Hb.out⟩
  · have Hv := Lib.hid hv
    have hrg := vReel_rng hv
    clear hv
    go_wp2_with (fail)
    refine (validPattern_any l2 h2 l3 h3 W _ _ ws cs x0 hWs hCs).mono ?_
    cases hp : vPat W ws cs
    · have Hno := Lib.hid (show R = [] by rw [HR.out]; exact slL_no (by rw [hp]; simp))
      rintro e x1 ⟨rfl, hq⟩
      have bq := hq.below x0.heap.size
      replace c00 := keepB bq c00; replace c01 := keepB bq c01; replace c02 := keepB bq c02
      replace hWs := hWs.qt hq
      replace hCs := hCs.qt hq
      have hzq := bq.size
      have Hb1 := Lib.hid (Hb.out.trans (bq.mono (by omega)))
      clear bq hq
      go_wp2
      go_ret
      exact ⟨_, rfl, by rw [Hno.out]; exact OwnT.nil _ _ _ _, Hb1.out⟩
    · have Hp := Lib.hid hp
      clear hp
      rintro e x1 ⟨rfl, hq⟩
      have bq := hq.below x0.heap.size
      replace c00 := keepB bq c00; replace c01 := keepB bq c01; replace c02 := keepB bq c02
      replace hWs := hWs.qt hq
      replace hCs := hCs.qt hq
      have hzq := bq.size
      have Hb1 := Lib.hid (Hb.out.trans (bq.mono (by omega)))
      clear bq hq
      by_cases hf : 0 ≤ fr ∧ fr < til ∧ til ≤ L
      · have Hyes := Lib.hid (show R = slitT ws cs fr til cs.length by rw [HR.out]; exact slL_yes ⟨Hv.out, Hp.out, hf⟩)
        obtain ⟨f1, f2, f3⟩ := hf
        have hlw : cs.length ≤ ws.length := by have := (vPat_iff.1 Hp.out).2.1; omega
        have r1 : inR 0 (L - 1) fr = true := inR_mk (by omega)
        have r2 : inR (fr + 1) L til = true := inR_mk (by omega)
        go_wp2_with (go_at_call 68; refine (inRange_any _ _ _ _).mono ?_; rintro e w' ⟨rfl, rfl⟩)
        clear r1 r2
        obtain ⟨y0, hy0⟩ : ∃ y0, y0 = x1.alloc (.cells #[] 38) := ⟨_, rfl⟩
        have by0 : Below x1.heap.size x1 y0 := by rw [hy0]; exact (Below.refl _ _).alloc (Nat.le_refl _) _
        have ho0 : OwnT y0 x1.heap.size 38 4 (.slice (some ⟨x1.heap.size, 0, none⟩) 0 0) [] := by rw [hy0]; exact OwnT.empty x1 x1.heap.size _ 4 (Nat.le_refl _)
        have hz2 : x1.heap.size < y0.heap.size := by rw [hy0]; simp
        rw [← hy0]
        clear hy0
        replace c00 := keepB by0 c00; replace c01 := keepB by0 c01; replace c02 := keepB by0 c02
        replace hWs := hWs.below by0 (by omega)
        replace hCs := hCs.below by0 (by omega)
        go_loopw [11, 12, 13] (fun v a i wr => ∃ k : Nat, k ≤ cs.length ∧ i = .int .i64 k ∧ a = .int .i64 (usedL ws cs k) ∧ OwnT wr x1.heap.size 38 4 v (slitT ws cs fr til k) ∧ Below x1.heap.size y0 wr) (fun _ _ i _ => cs.length - (intOf i).toNat)
        case atStart => exact ⟨0, by omega, rfl, rfl, ho0, Below.refl _ _⟩
        case round =>
          obtain ⟨k, hk, rfl, rfl, ho, bw⟩ := hrel
          obtain ⟨wo, rfl⟩ : ∃ wo : World, wo = wr := ⟨_, rfl⟩
          have hzr := bw.size
          by_cases hlt : k < cs.length
          · obtain ⟨b2, o2, rfl, _, _, hcell2, h642⟩ := (hCs.below bw (by omega)).cell hlt
            have hk0 : (0 : Int) ≤ (k : Int) := by omega
            have hk1 : (k : Int) < (ws.length : Int) := by omega
            have hk2 : (k : Int) < (cs.length : Int) := by omega
            have hn0 : 0 ≤ gi cs k := ((vPat_iff.1 Hp.out).2.2.1 k hlt).1
            have hn1 : gi cs k ≤ 60 := by have h1 := ((vPat_iff.1 Hp.out).2.2.1 k hlt).2; have h2 := (vWid_iff.1 (vPat_iff.1 Hp.out).1).2.1; omega
            have hls := slitT_len fr til Hp.out (k := k) hk
            have hus := pat_used Hp.out (k := k) hk
            go_wp2
            clear hcell2
            go_loopw [11, 12, 14] (fun v a i wr => ∃ m : Nat, (m : Int) ≤ gi cs k ∧ i = .int .i64 m ∧ a = .int .i64 (usedL ws cs k + m * gi ws k) ∧ OwnT wr x1.heap.size 38 4 v (slitT ws cs fr til k ++ rowsOf (gi ws k) (usedL ws cs k) fr til m) ∧ Below x1.heap.size y0 wr) (fun _ _ i _ => (gi cs k).toNat - (intOf i).toNat)
            case atStart => exact ⟨0, by omega, rfl, by go_num, by simpa [rowsOf] using ho, bw⟩
            case round =>
              obtain ⟨m, hmk, rfl, rfl, ho, bw⟩ := hrel
              have hzr := bw.size
              by_cases hlt2 : (m : Int) < gi cs k
              · obtain ⟨b1, o1, rfl, _, _, hcell, h64⟩ := (hWs.below bw (by omega)).cell (k := k) (by omega)
                have hcell5 := (hCs.below bw (by omega)).cell' hlt
                have hmid := slit_mid Hp.out hlt hlt2
                obtain ⟨g1, g2, g3, g4⟩ := hmid
                obtain ⟨a, ha⟩ : ∃ a, a = usedL ws cs k + m * gi ws k := ⟨_, rfl⟩
                have HA := Lib.hid ha
                have HL := Lib.hid (show (slitT ws cs fr til k ++ rowsOf (gi ws k) (usedL ws cs k) fr til m).length ≤ 120 by rw [List.length_append, rowsOf_len]; have h7 : (m : Int) * 1 ≤ m * gi ws k := Int.mul_le_mul_of_nonneg_left g1 (by omega); omega)
                have HN := Lib.hid (show slitT ws cs fr til k ++ rowsOf (gi ws k) (usedL ws cs k) fr til m ++ [[a, a + gi ws k, fr, til]] = slitT ws cs fr til k ++ rowsOf (gi ws k) (usedL ws cs k) fr til (m + 1) by rw [rowsOf, List.append_assoc, ha])
                have HU := Lib.hid (show a + gi ws k = usedL ws cs k + ((m + 1 : Nat) : Int) * gi ws k by rw [ha, Int.natCast_succ, Int.add_mul, Int.one_mul, Int.add_assoc])
                rw [← ha] at g3 g4
                rw [← ha]
                have Ho := Lib.hid ho
                clear ha ho hls hus
                go_wp2_with (at_builtin; refine wpList_appendT SlPart _ rfl (.tmp 58) (.tmp 69) rfl [a, a + gi ws k, fr, til] _ rfl x1.heap.size _ _ rfl rfl Ho.out ⟨rfl, by simp [I64]; omega⟩ (by have := HL.out; omega) (by have := HL.out; omega) (by omega) ?_; intro v' w3 ho3 hg3; have bw3 := bw.trans hg3.below; have hcell9 := (hWs.below bw3 (by omega)).cell' (k := k) (by omega))
                go_roundw
                case rel => exact ⟨m + 1, by omega, by go_num, congrArg (Value.int .i64) HU.out, by rw [← HN.out]; exact ho3, bw3⟩
                case measure => simp [intOf]; omega
              · have HE := Lib.hid (slit_end (ws := ws) (fr := fr) (til := til) hlt2 hmk)
                have hcell5 := (hCs.below bw (by omega)).cell' hlt
                go_wp2
                go_roundw
                case rel => exact ⟨k + 1, by omega, by go_num, by rw [HE.out.2], by rw [← HE.out.1]; exact ho, bw⟩
                case measure => simp [intOf]; omega
          · have He := Lib.hid (show k = cs.length by omega)
            go_wp2
            go_ret
            exact ⟨_, rfl, by rw [Hyes.out, ← He.out]; exact ho.base (by omega), (Hb1.out.trans (by0.mono (by omega))).trans (bw.mono (by omega))⟩
      · have Hno := Lib.hid (show R = [] by rw [HR.out]; exact slL_no (fun hh => hf hh.2.2))
        have hfo : ¬ (0 ≤ fr ∧ fr < til) ∨ L < til := by omega
        clear hf
        by_cases q1 : 0 ≤ fr ∧ fr ≤ L - 1
        · have r1 : inR 0 (L - 1) fr = true := inR_mk q1
          have r2 : inR (fr + 1) L til = false := inR_no (by omega)
          go_wp2_with (go_at_call 68; refine (inRange_any _ _ _ _).mono ?_; rintro e w' ⟨rfl, rfl⟩)
          go_ret
          exact ⟨_, rfl, by rw [Hno.out]; exact OwnT.nil _ _ _ _, Hb1.out⟩
        · have r1 : inR 0 (L - 1) fr = false := inR_no q1
          go_wp2_with (go_at_call 68; refine (inRange_any _ _ _ _).mono ?_; rintro e w' ⟨rfl, rfl⟩)
          go_ret
          exact ⟨_, rfl, by rw [Hno.out]; exact OwnT.nil _ _ _ _, Hb1.out⟩
end Go.Proofs.YtkgepklapglmdaaGreatDoor

namespace Go.Proofs.YtkgepklapglmdaaGreatDoor
open Go.RowKit
attribute [local go_sem ↓] Go.wp_at_zero Go.wp_at_succ

def sumI (xs : List Int) : Nat → Int
  | 0 => 0
  | k + 1 => sumI xs k + gi xs k
theorem sumI_rng {xs : List Int} {n : Nat} {b : Int} (h : ∀ i, i < n → 0 ≤ gi xs i ∧ gi xs i ≤ b) : ∀ {k : Nat}, k ≤ n → 0 ≤ sumI xs k ∧ sumI xs k ≤ b * k
  | 0, _ => by simp [sumI]
  | k + 1, hk => by
    have h1 := sumI_rng h (k := k) (by omega)
    have h2 := h k (by omega)
    have h3 : b * ((k + 1 : Nat) : Int) = b * k + b := by rw [Int.natCast_succ, Int.mul_add, Int.mul_one]
    rw [h3]
    show 0 ≤ sumI xs k + gi xs k ∧ sumI xs k + gi xs k ≤ _
    omega
theorem slitT_sum {W : Int} {ws cs : List Int} (fr til : Int) (h : vPat W ws cs = true) : ∀ {k : Nat}, k ≤ cs.length → ((slitT ws cs fr til k).length : Int) = sumI cs k
  | 0, _ => rfl
  | k + 1, hk => by
    have h1 := slitT_sum fr til h (k := k) (by omega)
    have h2 := (vPat_iff.1 h).2.2.1 k (by omega)
    rw [slitT, List.length_append, rowsOf_len]
    show _ = sumI cs k + gi cs k
    omega
theorem sumOf_any (lo hi : Nat) (v : Value) (xs : List Int) (w : World) (h : Ints w lo hi v xs) (hl : xs.length ≤ 1000) (hb : ∀ i, i < xs.length → 0 ≤ gi xs i ∧ gi xs i ≤ 1000) :
    Calls Tryz.prog 64 #[v] w fun e w' => e = .returned (.int .i64 (sumI xs xs.length)) ∧ w = w' := by
  obtain ⟨A, c, rfl, hc, hm⟩ := h.form
  have HB := Lib.hid hb
  clear hb
  go_enter Tryz.func64, Tryz.ntmps64
  go_wp2
  go_loop [3, 8] (fun s i => ∃ k : Nat, k ≤ xs.length ∧ i = .int .i64 k ∧ s = .int .i64 (sumI xs k)) (fun _ i => xs.length - (intOf i).toNat)
  case atStart => exact ⟨0, by omega, rfl, rfl⟩
  case round =>
    obtain ⟨k, hk, rfl, rfl⟩ := hrel
    by_cases hlt : k < xs.length
    · obtain ⟨b, o, rfl, _, _, hcell, _⟩ := h.cell hlt
      have hs := sumI_rng HB.out hk
      have hx := HB.out k hlt
      go_wp2
      go_round
      case rel => exact ⟨k + 1, by omega, by go_num, rfl⟩
      case measure => simp [intOf]; omega
    · have He := Lib.hid (show k = xs.length by omega)
      go_wp2
      go_ret
      exact ⟨ret_int (by rw [He.out]), rfl⟩
end Go.Proofs.YtkgepklapglmdaaGreatDoor
