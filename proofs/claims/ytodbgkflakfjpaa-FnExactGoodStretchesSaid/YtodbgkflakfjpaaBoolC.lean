/-
  Lemmas and contracts of single functions of this program, used by the proofs of its laws: what each call returns and what becomes of memory. Conditions: the hypotheses of each theorem.
-/
import Derived.Test.YtodbgkflakfjpaaBoolA
import Derived.Test.YtodbgkflakfjpaaReelH
namespace Go.Proofs.Ytodbgkflakfjpaa
open Go.RowKit
attribute [local go_sem ↓] Go.wp_at_zero Go.wp_at_succ

/-- what the reference has collected before place k -/
def sS (bs : List Bool) (k : Nat) : List (List Int) := if (iS bs k).2 < k then (iS bs k).1 ++ [[(iS bs k).2, (k : Int)]] else (iS bs k).1
theorem sS_bad {bs : List Bool} {k : Nat} (h : gb bs k = true) : sS bs (k + 1) = sS bs k := by
  have := iS_rng bs k
  unfold sS
  rw [show iS bs (k + 1) = (if (iS bs k).2 < k then (iS bs k).1 ++ [[(iS bs k).2, (k : Int)]] else (iS bs k).1, (k : Int) + 1) by rw [iS, if_pos h]]
  simp
theorem sS_new {bs : List Bool} {k : Nat} (h : gb bs k = false) (hp : ¬ (iS bs k).2 < k) : sS bs (k + 1) = sS bs k ++ [[(k : Int), (k : Int) + 1]] := by
  have := iS_rng bs k
  have e : (iS bs k).2 = k := by omega
  unfold sS
  rw [show iS bs (k + 1) = iS bs k by rw [iS, h]; rfl, if_neg hp, if_pos (by omega), e]
  simp
theorem sS_on {bs : List Bool} {k : Nat} (h : gb bs k = false) (hp : (iS bs k).2 < k) : ∃ xs f, sS bs k = xs ++ [[f, (k : Int)]] ∧ sS bs (k + 1) = xs ++ [[f, (k : Int) + 1]] := by
  refine ⟨(iS bs k).1, (iS bs k).2, by unfold sS; rw [if_pos hp], ?_⟩
  unfold sS
  rw [show iS bs (k + 1) = iS bs k by rw [iS, h]; rfl, if_pos (by omega)]
  simp
theorem sS_len (bs : List Bool) (k : Nat) : (sS bs k).length ≤ k + 1 := by
  have := iS_rng bs k
  unfold sS
  split
  · simp; omega
  · omega
theorem set2_last (xs : List (List Int)) (f a b : Int) : set2 (xs ++ [[f, a]]) xs.length 1 b = xs ++ [[f, b]] := by
  unfold set2
  rw [gr_append_eq, List.set_append_right _ _ (Nat.le_refl _), Nat.sub_self]
  rfl
/-- the last tuple's second number, stored anew -/
theorem last_store {w : World} {base e : Nat} {v : Value} {q : List (List Int)} {a y b : Int} (h : OwnT w base e 2 v (q ++ [[a, y]])) (hb : I64 b) :
    ∃ g c z, v = .slice (some ⟨g, 0, none⟩) (q.length + 1) c ∧ q.length + 1 ≤ c ∧ c ≤ 2 ^ 63 - 1 ∧ base ≤ g ∧ w.cell? ⟨g, q.length * 2 + 1, none⟩ = some (.int .i64 z) ∧ w.frozen? ⟨g, q.length * 2 + 1, none⟩ = false ∧
      OwnT (w.setCell ⟨g, q.length * 2 + 1, none⟩ (.int .i64 b)) base e 2 (.slice (some ⟨g, 0, none⟩) (q.length + 1) c) (q ++ [[a, b]]) := by
  have hl : (q ++ [[a, y]]).length = q.length + 1 := by simp
  obtain ⟨A, c, rfl, hc, hm⟩ := h.form
  obtain ⟨g, rfl, hgb, hgs, hcell, hfr, hst⟩ := h.at_ (i := q.length) (by omega) (by omega)
  have h1 := hst 1 b (by omega) hb
  rw [set2_last, hl] at h1
  rw [hl] at hc ⊢
  exact ⟨g, c, _, rfl, hc, hm, hgb, hcell 1 (by omega), hfr 1, h1⟩
set_option maxRecDepth 100000 in
set_option maxHeartbeats 1600000 in
theorem stretches_any (lo hi : Nat) (v : Value) (bs : List Bool) (w : World) (h : Bls w lo hi v bs) (hhi : hi ≤ w.heap.size) (hl : bs.length ≤ 1000) :
    Calls Try.prog 67 #[v] w fun e w' => ∃ v', e = .returned v' ∧ OwnT w' w.heap.size 96 2 v' (stL bs) ∧ Below w.heap.size w w' := by
  obtain ⟨A, c, rfl, hc, hm⟩ := h.form
  go_enter Try.func67, Try.ntmps67
  go_wp2
  obtain ⟨y0, hy0⟩ : ∃ y0, y0 = w.alloc (.cells #[] 96) := ⟨_, rfl⟩
  have by0 : Below w.heap.size w y0 := by rw [hy0]; exact (Below.refl _ _).alloc (Nat.le_refl _) _
  have ho0 : OwnT y0 w.heap.size 96 2 (.slice (some ⟨w.heap.size, 0, none⟩) 0 0) [] := by rw [hy0]; exact OwnT.empty w w.heap.size _ 2 (Nat.le_refl _)
  have hz2 : w.heap.size < y0.heap.size := by rw [hy0]; simp
  rw [← hy0]
  clear hy0
  go_loopw [3, 4] (fun u i wr => ∃ k : Nat, k ≤ bs.length ∧ i = .int .i64 k ∧ OwnT wr w.heap.size 96 2 u (sS bs k) ∧ Below w.heap.size w wr) (fun _ i _ => bs.length - (intOf i).toNat)
  case atStart => exact ⟨0, by omega, rfl, by simpa [sS, iS] using ho0, by0⟩
  case round =>
    obtain ⟨k, hk, rfl, ho, bw⟩ := hrel
    have hzr := bw.size
    by_cases hlt : k < bs.length
    · have hBr := h.below bw hhi
      obtain ⟨b, o, rfl, _, _, hcell⟩ := hBr.cell hlt
      have hk0 : (0 : Int) ≤ (k : Int) := by omega
      have hk1 : (k : Int) < (bs.length : Int) := by omega
      have hsl := sS_len bs k
      cases hg : gb bs k
      · rw [hg] at hcell
        by_cases hp : (iS bs k).2 < k
        · obtain ⟨xs, f, h1, h2⟩ := sS_on hg hp
          have hkp : 0 < k := by have := iS_rng bs k; omega
          obtain ⟨j, rfl⟩ : ∃ j, k = j + 1 := ⟨k - 1, by omega⟩
          have hgj := (iS_prev bs j).1 hp
          have hcj : wr.cell? ⟨b, o + j, none⟩ = some (.bool false) := by
            obtain ⟨b', o', e', _, _, hc'⟩ := hBr.cell (k := j) (by omega)
            injection e' with e1
            injection e1 with e2 e3
            subst e2; subst e3
            rw [hc', hgj]
          rw [h1] at ho hsl
          have H2 := Lib.hid h2
          obtain ⟨g, c3, z, rfl, hc3, hm3, hgb, q1, q2, hst⟩ := last_store (b := (j : Int) + 1 + 1) ho ⟨by omega, by omega⟩
          have Hst := Lib.hid hst
          rw [List.length_append] at hsl
          have hsl2 : xs.length + 1 ≤ j + 1 + 1 := hsl
          clear hsl
          clear hst ho h1 h2 hg hp hgj
          go_wp2
          go_roundw
          case rel => exact ⟨j + 1 + 1, by omega, by go_num, by rw [H2.out]; simpa using Hst.out, bw.setCell hgb _⟩
          case measure => simp [intOf]; omega
        · have HN := Lib.hid (sS_new hg hp)
          obtain ⟨q, hq⟩ : ∃ q, q = sS bs k := ⟨_, rfl⟩
          rw [← hq] at HN ho hsl
          have HO := Lib.hid ho
          have hkk : (k : Int) ≤ 2000 := by omega
          have hg2 : k = 0 ∨ ∃ j, k = j + 1 ∧ wr.cell? ⟨b, o + j, none⟩ = some (.bool true) := by
            rcases k with _ | j
            · exact .inl rfl
            · refine .inr ⟨j, rfl, ?_⟩
              obtain ⟨b', o', e', _, _, hc'⟩ := hBr.cell (k := j) (by omega)
              injection e' with e1
              injection e1 with e2 e3
              subst e2; subst e3
              rw [hc']
              cases hh : gb bs j
              · exact absurd ((iS_prev bs j).2 hh) hp
              · rfl
          clear hq ho hg hp
          rcases hg2 with rfl | ⟨j, rfl, hcj⟩
          · rw [Nat.add_zero] at hcell
            rw [show ((0 : Nat) : Int) = 0 from rfl] at hk1 ⊢
            clear hk0 hkk
            go_wp2_with (at_builtin; refine wpList_appendT SlStretch _ rfl (.tmp 25) (.tmp 28) rfl [0, 0] _ rfl w.heap.size _ _ rfl rfl HO.out ⟨rfl, i64_2 ⟨by omega, by omega⟩ ⟨by omega, by omega⟩⟩ (by omega) (by omega) (by omega) ?_; intro v' w3 ho3 hg3; obtain ⟨g, c3, z, rfl, hc3, hm3, hgb, q1, q2, hst⟩ := last_store (b := 1) ho3 ⟨by omega, by omega⟩; have Hst := Lib.hid hst; clear hst ho3)
            go_roundw
            case rel => exact ⟨0 + 1, by omega, by go_num, by rw [HN.out]; simpa using Hst.out, (bw.trans hg3.below).setCell hgb _⟩
            case measure => simp [intOf]; omega
          · go_wp2_with (at_builtin; refine wpList_appendT SlStretch _ rfl (.tmp 25) (.tmp 28) rfl [(j : Int) + 1, 0] _ rfl w.heap.size _ _ rfl rfl HO.out ⟨rfl, i64_2 ⟨by omega, by omega⟩ ⟨by omega, by omega⟩⟩ (by omega) (by omega) (by omega) ?_; intro v' w3 ho3 hg3; obtain ⟨g, c3, z, rfl, hc3, hm3, hgb, q1, q2, hst⟩ := last_store (b := (j : Int) + 1 + 1) ho3 ⟨by omega, by omega⟩; have Hst := Lib.hid hst; clear hst ho3)
            go_roundw
            case rel => exact ⟨j + 1 + 1, by omega, by go_num, by rw [HN.out]; simpa using Hst.out, (bw.trans hg3.below).setCell hgb _⟩
            case measure => simp [intOf]; omega
      · rw [hg] at hcell
        have HS := Lib.hid (sS_bad hg)
        have HO := Lib.hid ho
        clear ho hg
        go_wp2
        go_roundw
        case rel => exact ⟨k + 1, by omega, by go_num, by rw [HS.out]; exact HO.out, bw⟩
        case measure => simp [intOf]; omega
    · have He := Lib.hid (show stL bs = sS bs k by obtain rfl : k = bs.length := by omega
                                                   rfl)
      go_wp2
      go_ret
      exact ⟨_, rfl, by rw [He.out]; exact ho, bw⟩
set_option maxRecDepth 100000 in
set_option maxHeartbeats 1600000 in
theorem sGoodStretches_any (lo hi : Nat) (W L : Int) (v : Value) (ds : List (List Int)) (l r m : Int) (w : World) (h : TS w lo hi 5 v ds) (hhi : hi ≤ w.heap.size) :
    Calls Try.prog 16 #[.agg #[.int .i64 W, .int .i64 L, v], .int .i64 l, .int .i64 r, .int .i64 m] w fun e w' => ∃ v', e = .returned v' ∧ OwnT w' w.heap.size 96 2 v' (gsL W L ds l r m) ∧ Below w.heap.size w w' := by
  obtain ⟨A, c, rfl, hc, hm⟩ := h.form
  have Hs := Lib.hid (show ∃ w1, w1 = (w.alloc (.cells #[.int .i64 W, .int .i64 L, .slice A ds.length c] 30)) ∧ Below w.heap.size w w1 ∧ w1.cell? ⟨w.heap.size, 0, none⟩ = some (.int .i64 W) ∧ w1.cell? ⟨w.heap.size, 1, none⟩ = some (.int .i64 L) ∧ w1.cell? ⟨w.heap.size, 2, none⟩ = some (.slice A ds.length c) ∧ TS w1 lo hi 5 (.slice A ds.length c) ds ∧ w.heap.size < w1.heap.size from by
    have hb : Below w.heap.size w (w.alloc (.cells #[.int .i64 W, .int .i64 L, .slice A ds.length c] 30)) := (Below.refl _ _).alloc (Nat.le_refl _) _
    exact ⟨_, rfl, hb, by go_simp, by go_simp, by go_simp, h.below hb hhi, by simp⟩)
  obtain ⟨R, hR⟩ : ∃ R, R = gsL W L ds l r m := ⟨_, rfl⟩
  rw [← hR]
  have HR := Lib.hid hR
  clear hR
  go_enter Try.func16, Try.ntmps16
  go_wp2_with (fail)
  obtain ⟨w1, hw1, hb0, c00, c01, c02, hT0, hz⟩ := Hs.out
  rw [← hw1]
  clear hw1 Hs
  refine (validReel_any lo hi W L _ ds w1 hT0 (by omega)).mono ?_
  rintro e x1 ⟨rfl, bx1⟩
  replace c00 := keepB bx1 c00; replace c01 := keepB bx1 c01; replace c02 := keepB bx1 c02
  have hD := hT0.below bx1 (by omega)
  have hz1 := bx1.size
  have Hb := Lib.hid (hb0.trans (bx1.mono (Nat.le_of_lt hz)))
  clear h hT0 bx1 hb0
  cases hv : vReel W L ds
  · have Hno := Lib.hid (show R = [] by rw [HR.out]; unfold gsL; rw [hv]; exact if_neg (by simp))
    go_wp2
    go_ret
    exact ⟨_, rfl, by rw [Hno.out]; exact OwnT.nil _ _ _ _, Hb.out⟩
  · have Hv := Lib.hid hv
    have hrg := vReel_rng hv
    clear hv
    by_cases q1 : 0 ≤ l ∧ l ≤ W - 1
    · have r1 : inR 0 (W - 1) l = true := inR_mk q1
      have q1a := q1.1
      have q1b := q1.2
      clear q1
      by_cases q2 : l + 1 ≤ r ∧ r ≤ W
      · have r2 : inR (l + 1) W r = true := inR_mk q2
        have Hyes := Lib.hid (show R = stL (bpP L.toNat ds l r m ds.length) by rw [HR.out]; unfold gsL; exact if_pos ⟨Hv.out, by omega, by omega, by omega⟩)
        go_wp2_with (go_at_call 66; refine (inRange_any _ _ _ _).mono ?_; rintro e w' ⟨rfl, rfl⟩)
        refine (sBadPlaces_any lo hi W L _ ds l r m x1 hD (by omega) Hv.out).mono ?_
        rintro e x2 ⟨vb, rfl, hb, bx2⟩
        have hz2 := bx2.size
        have Hb2 := Lib.hid (Hb.out.trans (bx2.mono (by omega)))
        go_wp2_with (fail)
        refine (stretches_any _ _ _ _ x2 (OwnB.bls hb) (Nat.le_refl _) (by rw [bpP_len]; omega)).mono ?_
        rintro e x3 ⟨vs, rfl, ho, bx3⟩
        go_wp2
        go_ret
        exact ⟨_, rfl, by rw [Hyes.out]; exact ho.base (by omega), Hb2.out.trans (bx3.mono (by omega))⟩
      · have r2 : inR (l + 1) W r = false := inR_no q2
        have Hno := Lib.hid (show R = [] by rw [HR.out]; unfold gsL; exact if_neg (by omega))
        go_wp2_with (go_at_call 66; refine (inRange_any _ _ _ _).mono ?_; rintro e w' ⟨rfl, rfl⟩)
        go_ret
        exact ⟨_, rfl, by rw [Hno.out]; exact OwnT.nil _ _ _ _, Hb.out⟩
    · have r1 : inR 0 (W - 1) l = false := inR_no q1
      have Hno := Lib.hid (show R = [] by rw [HR.out]; unfold gsL; exact if_neg (by omega))
      go_wp2_with (go_at_call 66; refine (inRange_any _ _ _ _).mono ?_; rintro e w' ⟨rfl, rfl⟩)
      go_ret
      exact ⟨_, rfl, by rw [Hno.out]; exact OwnT.nil _ _ _ _, Hb.out⟩
end Go.Proofs.Ytodbgkflakfjpaa
