/-
  Lemmas and contracts of single functions of this program, used by the proofs of its laws: what each call returns and what becomes of memory. Conditions: the hypotheses of each theorem.
-/
import Derived.Test.YtodbgkflakfjpaaSlitA
import Derived.Test.YtodbgkflakfjpaaReelJ
namespace Go.Proofs.Ytodbgkflakfjpaa
open Go.RowKit
attribute [local go_sem ↓] Go.wp_at_zero Go.wp_at_succ

def sumI (xs : List Int) : Nat → Int
  | 0 => 0
  | k + 1 => sumI xs k + gi xs k
theorem sumI_rng {xs : List Int} {n : Nat} {b : Int} (h : ∀ i, i < n → 0 ≤ gi xs i ∧ gi xs i ≤ b) : ∀ {k : Nat}, k ≤ n → 0 ≤ sumI xs k ∧ sumI xs k ≤ b * k
  | 0, _ => by simp [sumI]
  | k + 1, hk => by
    have h1 := sumI_rng h (k := k) (by omega)
    have h2 := h k (by omega)
    have h3 : b * ((k + 1 : Nat) : Int) = b * k + b := by rw [Int.natCast_succ, Int.mul_add, Int.mul_one]
    rw [h3]
    show 0 ≤ sumI xs k + gi xs k ∧ sumI xs k + gi xs k ≤ _
    omega
theorem slitT_sum {W : Int} {ws cs : List Int} (fr til : Int) (h : vPat W ws cs = true) : ∀ {k : Nat}, k ≤ cs.length → ((slitT ws cs fr til k).length : Int) = sumI cs k
  | 0, _ => rfl
  | k + 1, hk => by
    have h1 := slitT_sum fr til h (k := k) (by omega)
    have h2 := (vPat_iff.1 h).2.2.1 k (by omega)
    rw [slitT, List.length_append, rowsOf_len]
    show _ = sumI cs k + gi cs k
    omega
theorem ltotal_any (lo hi : Nat) (v : Value) (xs : List Int) (w : World) (h : Ints w lo hi v xs) (hl : xs.length ≤ 1000) (hb : ∀ i, i < xs.length → 0 ≤ gi xs i ∧ gi xs i ≤ 1000) :
    Calls Try.prog 46 #[v] w fun e w' => e = .returned (.int .i64 (sumI xs xs.length)) ∧ w = w' := by
  obtain ⟨A, c, rfl, hc, hm⟩ := h.form
  have HB := Lib.hid hb
  clear hb
  go_enter Try.func46, Try.ntmps46
  go_wp2
  go_loop [3, 4] (fun s i => ∃ k : Nat, k ≤ xs.length ∧ i = .int .i64 k ∧ s = .int .i64 (sumI xs k)) (fun _ i => xs.length - (intOf i).toNat)
  case atStart => exact ⟨0, by omega, rfl, rfl⟩
  case round =>
    obtain ⟨k, hk, rfl, rfl⟩ := hrel
    by_cases hlt : k < xs.length
    · obtain ⟨b, o, rfl, _, _, hcell, _⟩ := h.cell hlt
      have hs := sumI_rng HB.out hk
      have hx := HB.out k hlt
      go_wp2
      go_round
      case rel => exact ⟨k + 1, by omega, by go_num, rfl⟩
      case measure => simp [intOf]; omega
    · have He := Lib.hid (show k = xs.length by omega)
      go_wp2
      go_ret
      exact ⟨ret_int (by rw [He.out]), rfl⟩
theorem sumOf_any (lo hi : Nat) (v : Value) (xs : List Int) (w : World) (h : Ints w lo hi v xs) (hl : xs.length ≤ 1000) (hb : ∀ i, i < xs.length → 0 ≤ gi xs i ∧ gi xs i ≤ 1000) :
    Calls Try.prog 94 #[v] w fun e w' => e = .returned (.int .i64 (sumI xs xs.length)) ∧ w = w' := by
  obtain ⟨A, c, rfl, hc, hm⟩ := h.form
  have HB := Lib.hid hb
  clear hb
  go_enter Try.func94, Try.ntmps94
  go_wp2
  go_loop [3, 8] (fun s i => ∃ k : Nat, k ≤ xs.length ∧ i = .int .i64 k ∧ s = .int .i64 (sumI xs k)) (fun _ i => xs.length - (intOf i).toNat)
  case atStart => exact ⟨0, by omega, rfl, rfl⟩
  case round =>
    obtain ⟨k, hk, rfl, rfl⟩ := hrel
    by_cases hlt : k < xs.length
    · obtain ⟨b, o, rfl, _, _, hcell, _⟩ := h.cell hlt
      have hs := sumI_rng HB.out hk
      have hx := HB.out k hlt
      go_wp2
      go_round
      case rel => exact ⟨k + 1, by omega, by go_num, rfl⟩
      case measure => simp [intOf]; omega
    · have He := Lib.hid (show k = xs.length by omega)
      go_wp2
      go_ret
      exact ⟨ret_int (by rw [He.out]), rfl⟩
set_option maxHeartbeats 800000 in
theorem TrimOf_any (lo hi l2 h2 : Nat) (W : Int) (v u : Value) (ws cs : List Int) (w : World) (h : Ints w lo hi v ws) (hy : Ints w l2 h2 u cs) :
    Calls Try.prog 44 #[.int .i64 W, v, u] w fun e w' => e = .returned (.int .i64 (if vPat W ws cs = true then W - usedL ws cs cs.length else -1)) ∧ w = w' := by
  obtain ⟨A, c, rfl, hc, hm⟩ := h.form
  obtain ⟨B, d, rfl, hd, hm2⟩ := hy.form
  obtain ⟨R, hR⟩ : ∃ R, R = if vPat W ws cs = true then W - usedL ws cs cs.length else -1 := ⟨_, rfl⟩
  rw [← hR]
  have HR := Lib.hid hR
  clear hR
  go_enter Try.func44, Try.ntmps44
  go_wp2_with fail
  refine (ValidPattern_any lo hi l2 h2 W _ _ ws cs w h hy).mono ?_
  rintro e w1 ⟨rfl, rfl⟩
  cases hp : vPat W ws cs
  · have Hno := Lib.hid (show R = -1 by rw [HR.out, hp]; rfl)
    go_wp2
    go_ret
    exact ⟨ret_int Hno.out.symm, rfl⟩
  · have Hp := Lib.hid hp
    have Hyes := Lib.hid (show R = W - usedL ws cs cs.length by rw [HR.out, hp]; rfl)
    have hlw : cs.length ≤ ws.length := by have := (vPat_iff.1 hp).2.1; omega
    clear hp
    go_wp2
    go_loop [7, 18] (fun s i => ∃ k : Nat, k ≤ cs.length ∧ i = .int .i64 k ∧ s = .int .i64 (W - usedL ws cs k)) (fun _ i => cs.length - (intOf i).toNat)
    case atStart => exact ⟨0, by omega, rfl, by simp [usedL]⟩
    case round =>
      obtain ⟨k, hk, rfl, rfl⟩ := hrel
      by_cases hlt : k < cs.length
      · obtain ⟨b, o, rfl, _, _, hcell, _⟩ := h.cell (k := k) (by omega)
        obtain ⟨b2, o2, rfl, _, _, hcell2, _⟩ := hy.cell hlt
        have hk0 : (0 : Int) ≤ (k : Int) := by omega
        have hk1 : (k : Int) < (ws.length : Int) := by omega
        have u1 := pat_used Hp.out (k := k) hk
        have u2 := pat_used Hp.out (k := k + 1) hlt
        have hu : usedL ws cs (k + 1) = usedL ws cs k + gi cs k * gi ws k := rfl
        rw [hu] at u2
        have HU := Lib.hid hu
        clear hu
        obtain ⟨p, hp⟩ : ∃ p, gi cs k * gi ws k = p := ⟨_, rfl⟩
        have g1 : wrap64 (gi cs k * gi ws k) = p := by rw [hp] at u2 ⊢; unfold wrap64; omega
        rw [hp] at u2 HU
        have HP := Lib.hid hp
        clear hp
        go_wp2
        clear g1
        go_round
        case rel => exact ⟨k + 1, by omega, by go_num, congrArg (Value.int .i64) (by rw [HU.out]; omega)⟩
        case measure => simp [intOf]; omega
      · have He := Lib.hid (show k = cs.length by omega)
        go_wp2
        go_ret
        exact ⟨ret_int (by rw [Hyes.out, He.out]), rfl⟩
/-- the knives -/
def knL (W : Int) (ws cs : List Int) : List Int := if vPat W ws cs = true ∧ 0 < sumI cs cs.length ∧ sumI cs cs.length + 1 ≤ 24 then 0 :: (slitT ws cs 0 0 cs.length).map (fun r => gi r 1) else []
set_option maxRecDepth 100000 in
set_option maxHeartbeats 1600000 in
theorem KnivesFor_any (lo hi l2 h2 : Nat) (W : Int) (v u : Value) (ws cs : List Int) (w : World) (h : Ints w lo hi v ws) (hhi : hi ≤ w.heap.size) (hy : Ints w l2 h2 u cs) (hh2 : h2 ≤ w.heap.size) :
    Calls Try.prog 43 #[.int .i64 W, v, u] w fun e w' => ∃ v', e = .returned v' ∧ OwnI w' w.heap.size 3 v' (knL W ws cs) ∧ Below w.heap.size w w' := by
  obtain ⟨A, c, rfl, hc, hm⟩ := h.form
  obtain ⟨B, d, rfl, hd, hm2⟩ := hy.form
  obtain ⟨R, hR⟩ : ∃ R, R = knL W ws cs := ⟨_, rfl⟩
  rw [← hR]
  have HR := Lib.hid hR
  clear hR
  go_enter Try.func43, Try.ntmps43
  go_wp2_with fail
  refine (ValidPattern_any lo hi l2 h2 W _ _ ws cs w h hy).mono ?_
  rintro e w1 ⟨rfl, rfl⟩
  cases hp : vPat W ws cs
  · have Hno := Lib.hid (show R = [] by rw [HR.out]; unfold knL; rw [hp]; exact if_neg (by simp))
    go_wp2
    go_ret
    exact ⟨_, rfl, by rw [Hno.out]; exact OwnI.nil _ _ _, Below.refl _ _⟩
  · have Hp := Lib.hid hp
    have hlw : cs.length ≤ ws.length := by have := (vPat_iff.1 hp).2.1; omega
    have hw6 := (vWid_iff.1 (vPat_iff.1 hp).1)
    have hcr : ∀ i, i < cs.length → 0 ≤ gi cs i ∧ gi cs i ≤ 60 := fun i hi => by have := (vPat_iff.1 hp).2.2.1 i hi; omega
    have hl6 : cs.length ≤ 6 := by have := (vPat_iff.1 hp).2.1; omega
    have HC := Lib.hid hcr
    have hsr := sumI_rng hcr (k := cs.length) (Nat.le_refl _)
    have hs6 : sumI cs cs.length ≤ 1000 := by omega
    have hs0 := hsr.1
    clear hp hw6 hcr hsr
    go_wp2_with fail
    refine (sumOf_any l2 h2 _ cs w hy (by omega) (fun i hi => by have := HC.out i hi; omega)).mono ?_
    rintro e w1 ⟨rfl, rfl⟩
    obtain ⟨S, hS⟩ : ∃ S, S = sumI cs cs.length := ⟨_, rfl⟩
    rw [← hS] at hs0 hs6 ⊢
    have HS := Lib.hid hS
    clear hS
    by_cases s0 : S = 0
    · have Hno := Lib.hid (show R = [] by rw [HR.out]; unfold knL; rw [← HS.out]; exact if_neg (by omega))
      have e0 : (S == 0) = true := beq_t s0
      clear s0
      go_wp2
      go_ret
      exact ⟨_, rfl, by rw [Hno.out]; exact OwnI.nil _ _ _, Below.refl _ _⟩
    · have e0 : (S == 0) = false := beq_f s0
      by_cases s1 : 24 < S + 1
      · have Hno := Lib.hid (show R = [] by rw [HR.out]; unfold knL; rw [← HS.out]; exact if_neg (by omega))
        clear s0
        go_wp2
        go_ret
        exact ⟨_, rfl, by rw [Hno.out]; exact OwnI.nil _ _ _, Below.refl _ _⟩
      · have Hyes := Lib.hid (show R = 0 :: (slitT ws cs 0 0 cs.length).map (fun r => gi r 1) by rw [HR.out]; unfold knL; rw [← HS.out]; exact if_pos ⟨Hp.out, by omega, by omega⟩)
        clear s0
        go_wp2
        clear e0
        obtain ⟨y0, hy0⟩ : ∃ y0, y0 = w.alloc (.cells #[.int .i64 0] 3) := ⟨_, rfl⟩
        have by0 : Below w.heap.size w y0 := by rw [hy0]; exact (Below.refl _ _).alloc (Nat.le_refl _) _
        have ho0 : OwnI y0 w.heap.size 3 (.slice (some ⟨w.heap.size, 0, none⟩) 1 1) [0] := by rw [hy0]; exact lit_own w 3 [0] (by simp) (fun x hx => by rw [List.mem_singleton.1 hx]; exact ⟨by omega, by omega⟩)
        have hz2 : w.heap.size < y0.heap.size := by rw [hy0]; simp
        rw [← hy0]
        clear hy0
        have hWs := h.below by0 hhi
        have hCs := hy.below by0 hh2
        clear h hy
        go_loopw [8, 9, 29] (fun v a i wr => ∃ k : Nat, k ≤ cs.length ∧ i = .int .i64 k ∧ a = .int .i64 (usedL ws cs k) ∧ OwnI wr w.heap.size 3 v (0 :: (slitT ws cs 0 0 k).map (fun r => gi r 1)) ∧ Below w.heap.size y0 wr) (fun _ _ i _ => cs.length - (intOf i).toNat)
        case atStart => exact ⟨0, by omega, rfl, rfl, ho0, Below.refl _ _⟩
        case round =>
          obtain ⟨k, hk, rfl, rfl, ho, bw⟩ := hrel
          obtain ⟨wo, rfl⟩ : ∃ wo : World, wo = wr := ⟨_, rfl⟩
          have hzr := bw.size
          by_cases hlt : k < cs.length
          · obtain ⟨b2, o2, rfl, _, _, hcell2, h642⟩ := (hCs.below bw hh2).cell hlt
            have hk0 : (0 : Int) ≤ (k : Int) := by omega
            have hk1 : (k : Int) < (ws.length : Int) := by omega
            have hn0 := (HC.out k hlt).1
            have hn1 := (HC.out k hlt).2
            have hls := slitT_len 0 0 Hp.out (k := k) hk
            have hus := pat_used Hp.out (k := k) hk
            go_wp2
            clear hcell2
            go_loopw [8, 9, 35] (fun v a i wr => ∃ m : Nat, (m : Int) ≤ gi cs k ∧ i = .int .i64 m ∧ a = .int .i64 (usedL ws cs k + m * gi ws k) ∧ OwnI wr w.heap.size 3 v (0 :: (slitT ws cs 0 0 k ++ rowsOf (gi ws k) (usedL ws cs k) 0 0 m).map (fun r => gi r 1)) ∧ Below w.heap.size y0 wr) (fun _ _ i _ => (gi cs k).toNat - (intOf i).toNat)
            case atStart => exact ⟨0, by omega, rfl, by go_num, by simpa [rowsOf] using ho, bw⟩
            case round =>
              obtain ⟨m, hmk, rfl, rfl, ho, bw⟩ := hrel
              have hzr := bw.size
              by_cases hlt2 : (m : Int) < gi cs k
              · obtain ⟨b1, o1, rfl, _, _, hcell, h64⟩ := (hWs.below bw hhi).cell (k := k) (by omega)
                obtain ⟨g1, g2, g3, g4⟩ := slit_mid Hp.out hlt hlt2
                obtain ⟨a, ha⟩ : ∃ a, a = usedL ws cs k + m * gi ws k := ⟨_, rfl⟩
                have HL := Lib.hid (show (0 :: (slitT ws cs 0 0 k ++ rowsOf (gi ws k) (usedL ws cs k) 0 0 m).map (fun r => gi r 1)).length ≤ 200 by rw [List.length_cons, List.length_map, List.length_append, rowsOf_len]; have h7 : (m : Int) * 1 ≤ m * gi ws k := Int.mul_le_mul_of_nonneg_left g1 (by omega); omega)
                have HN := Lib.hid (show 0 :: (slitT ws cs 0 0 k ++ rowsOf (gi ws k) (usedL ws cs k) 0 0 m).map (fun r => gi r 1) ++ [a + gi ws k] = 0 :: (slitT ws cs 0 0 k ++ rowsOf (gi ws k) (usedL ws cs k) 0 0 (m + 1)).map (fun r => gi r 1) by rw [rowsOf, ← List.append_assoc, List.map_append (l₂ := [_]), ha]; rfl)
                have HU := Lib.hid (show a + gi ws k = usedL ws cs k + ((m + 1 : Nat) : Int) * gi ws k by rw [ha, Int.natCast_succ, Int.add_mul, Int.one_mul, Int.add_assoc])
                rw [← ha] at g3 g4
                rw [← ha]
                have Ho := Lib.hid ho
                clear ha ho hls hus
                go_wp2_with (at_builtin; refine wpList_appendI SlI _ rfl (.tmp 43) (.tmp 45) rfl _ w.heap.size _ _ rfl rfl Ho.out ⟨by omega, by omega⟩ (by have := HL.out; omega) (by omega) ?_; intro v' w3 ho3 hg3; have bw3 := bw.trans hg3.below)
                go_roundw
                case rel => exact ⟨m + 1, by omega, by go_num, congrArg (Value.int .i64) HU.out, by rw [← HN.out]; exact ho3, bw3⟩
                case measure => simp [intOf]; omega
              · have HE := Lib.hid (slit_end (ws := ws) (fr := 0) (til := 0) hlt2 hmk)
                go_wp2
                go_roundw
                case rel => exact ⟨k + 1, by omega, by go_num, by rw [HE.out.2], by rw [← HE.out.1]; exact ho, bw⟩
                case measure => simp [intOf]; omega
          · have He := Lib.hid (show k = cs.length by omega)
            go_wp2
            go_ret
            exact ⟨_, rfl, by rw [Hyes.out, ← He.out]; exact ho, by0.trans bw⟩
end Go.Proofs.Ytodbgkflakfjpaa
