/-
  Lemmas and contracts of single functions of this program, used by the proofs of its laws: what each call returns and what becomes of memory. Conditions: the hypotheses of each theorem.
-/
import Derived.Test.YtlmppbijgciaaaaLawM1
import Derived.Test.YtlmppbijgciaaaaSlitL
namespace Go.Proofs.Ytlmppbijgciaaaa
open Go.RowKit
attribute [local go_sem ↓] Go.wp_at_zero Go.wp_at_succ

set_option maxRecDepth 100000 in
set_option maxHeartbeats 4000000 in
theorem FnAreaHeld_walk (v : Value) (xs : List Int) (w : World) (h : Bytes w 0 w.heap.size v xs) :
    Calls Try.prog 4 #[v] w fun e w' => e = .returned (.bool true) ∧ Below w.heap.size w w' := by
  have hv : ∃ A c, v = .slice A xs.length c ∧ xs.length ≤ c ∧ c ≤ 2 ^ 63 - 1 := by obtain ⟨A, c, e, h1, h2, _⟩ := h; exact ⟨A, c, e, h1, by unfold maxLen at h2; omega⟩
  obtain ⟨A0, c0, rfl, hc0, hm0⟩ := hv
  by_cases hl : 1048576 < xs.length
  · have hl' : (1048576 : Int) < (xs.length : Int) := by omega
    go_enter Try.func4, Try.ntmps4
    go_wp2
    go_ret
    exact ⟨rfl, Below.refl _ _⟩
  · have hl' : ¬ (1048576 : Int) < (xs.length : Int) := by omega
    go_enter Try.func4, Try.ntmps4
    go_wp2_with fail
    refine (DrawAreaHeld_any _ xs w h).mono ?_
    rintro e w1 ⟨A, n, c, es, a, b, z, rfl, hn, hes, ⟨ha, hb, hz⟩, b1⟩
    subst hn
    obtain ⟨hc, hm⟩ : es.length ≤ c ∧ c ≤ 2 ^ 63 - 1 := by obtain ⟨A', c', e, q1, q2⟩ := hes.form; injection e with e1 e2 e3; subst e3; exact ⟨q1, q2⟩
    have hs1 := b1.size
    clear h hl hl'
    go_wp2_with fail
    obtain ⟨w2, hw1⟩ : ∃ w2, w2 = w1.alloc (.cells #[.slice A es.length c, .int .i64 a, .int .i64 b, .int .i64 z] 25) := ⟨_, rfl⟩
    have x0 : w2.cell? ⟨w1.heap.size, 0, none⟩ = some (.slice A es.length c) := by rw [hw1]; go_simp
    have x1 : w2.cell? ⟨w1.heap.size, 1, none⟩ = some (.int .i64 a) := by rw [hw1]; go_simp
    have x2 : w2.cell? ⟨w1.heap.size, 2, none⟩ = some (.int .i64 b) := by rw [hw1]; go_simp
    have x3 : w2.cell? ⟨w1.heap.size, 3, none⟩ = some (.int .i64 z) := by rw [hw1]; go_simp
    have bx : Below w1.heap.size w1 w2 := by rw [hw1]; exact (Below.refl _ _).alloc (Nat.le_refl _) _
    have zx : w1.heap.size < w2.heap.size := by rw [hw1]; simp
    rw [← hw1]
    clear hw1
    have B2 := b1.trans (bx.mono hs1)
    replace hes := hes.below bx (Nat.le_refl _)
    have hs2 := bx.size
    clear bx b1
    have h3 : I64 a ∧ I64 b ∧ I64 z := ⟨⟨by omega, by omega⟩, ⟨by omega, by omega⟩, ⟨by omega, by omega⟩⟩
    have h2 : I64 b ∧ I64 z := h3.2
    obtain ⟨V, hV⟩ : ∃ V, V = ahL es a b z := ⟨_, rfl⟩
    have HV := Lib.hid hV
    clear hV
    refine (AreaHeld_any _ _ _ es a b z w2 hes (by omega) h3).mono ?_
    rw [← HV.out]
    rintro e w3 ⟨rfl, bk⟩
    replace x0 := keepB bk x0; replace x1 := keepB bk x1; replace x2 := keepB bk x2; replace x3 := keepB bk x3
    have B3 := B2.trans (bk.mono (by omega))
    replace hes := hes.below bk (by omega)
    have hs3 := bk.size
    clear bk B2
    go_wp2_with fail
    refine (sAreaHeld_any _ _ _ es a b z w3 hes (by omega) h2).mono ?_
    rw [← HV.out]
    rintro e w4 ⟨rfl, bk⟩
    replace x0 := keepB bk x0; replace x1 := keepB bk x1; replace x2 := keepB bk x2; replace x3 := keepB bk x3
    have B4 := B3.trans (bk.mono (by omega))
    replace hes := hes.below bk (by omega)
    have hs4 := bk.size
    clear bk B3
    by_cases hV0 : V < 0
    · have hlt : V < 0 := hV0
      go_wp2_with fail
      refine (sAreaHeld_any _ _ _ es a b z w4 hes (by omega) h2).mono ?_
      rw [← HV.out]
      rintro e w5 ⟨rfl, bk⟩
      have B5 := B4.trans (bk.mono (by omega))
      clear bk B4
      go_wp2
      go_ret
      exact ⟨rfl, B5⟩
    · have hvm0 : vMill es a b z = true := by
        cases hm : vMill es a b z
        · exact absurd (show V < 0 by rw [HV.out]; unfold ahL; rw [hm, if_neg (by simp)]; decide) hV0
        · rfl
      have hvm := vMill_iff.1 hvm0
      have HH := Lib.hid (show V = heldL es by rw [HV.out]; exact ahL_yes hvm0)
      have Hv := Lib.hid (fun j hj => (hvm.1 j hj).1)
      have hl12 := hvm.2.1
      clear hvm hvm0
      have hH0 := held_rng Hv.out es.length (Nat.le_refl _)
      have Hes := Lib.hid (hes.below (Below.refl w4.heap.size w4) (by omega))
      have hlo4 : w1.heap.size ≤ w4.heap.size := by omega
      clear hes hH0
      go_wp2_with fail
      clear hV0
      go_loopw [5, 6] (fun n i wr => ∃ k : Nat, k ≤ es.length ∧ i = .int .i64 k ∧ n = .int .i64 (heldL (es.take k)) ∧ Below w4.heap.size w4 wr) (fun _ i _ => es.length - (intOf i).toNat)
      case atStart => exact ⟨0, by omega, rfl, rfl, Below.refl _ _⟩
      case round =>
        obtain ⟨k, hk, rfl, rfl, bw⟩ := hrel
        obtain ⟨wo, rfl⟩ : ∃ wo : World, wo = wr := ⟨_, rfl⟩
        have hzr := bw.size
        have y0 := keepB bw x0
        by_cases hlt : k < es.length
        · obtain ⟨b9, o, Ad, cd, Ap, cp, rfl, _, _, e0, e1, e2, e3, e4, hTd, hTp, _⟩ := (Hes.out.below bw (by omega)).cell hlt
          have hk0 : (0 : Int) ≤ (k : Int) := by omega
          have hk1 : (k : Int) < (es.length : Int) := by omega
          have har := area_rng (Hv.out k hlt)
          have hr := held_rng Hv.out k hk
          have HS := Lib.hid (held_succ hlt)
          have hcut := (vEnt_iff.1 (Hv.out k hlt)).2.2
          obtain ⟨E, hE⟩ : ∃ E, E = ge es k := ⟨_, rfl⟩
          rw [← hE] at e0 e1 e2 e3 e4 hTd hTp har HS hcut
          obtain ⟨lb, W, L, ds, ps⟩ := E
          dsimp only at e0 e1 e2 e3 e4 hTd hTp har HS hcut
          have hpl : ps.length ≤ 60 := (vCuts_iff.1 hcut).2.1
          have hrg := vReel_rng (vCuts_iff.1 hcut).1
          have HAR := Lib.hid (show ∀ j, j < ps.length → 0 ≤ areaT (gr ps j) ∧ areaT (gr ps j) ≤ 24000 from fun j hj => areaT_rng (cut_pv hcut hj) (by omega) (by omega))
          have HPV := Lib.hid (show ∀ j, j < ps.length → pv (gr ps j) W L = true from fun j hj => cut_pv hcut hj)
          have hS := areaL_rng (n := ps.length) HAR.out (Nat.le_refl _)
          obtain ⟨S, hS9⟩ : ∃ S, S = areaL ps ps.length := ⟨_, rfl⟩
          rw [← hS9] at hS
          obtain ⟨m, hm9⟩ : ∃ m, m = heldL (es.take k) := ⟨_, rfl⟩
          rw [← hm9] at hr HS ⊢
          obtain ⟨ar, har9⟩ : ∃ ar, W * L = ar := ⟨_, rfl⟩
          rw [har9] at har HS
          have HL := Lib.hid (show (if vCuts W L ds ps = true then W * L - areaL ps ps.length else -1) = ar - S by rw [if_pos hcut, ← hS9, har9])
          have HS9 := Lib.hid hS9
          clear hE hm9 hS9 har9 hcut
          go_wp2_with fail
          obtain ⟨wa, hw1⟩ : ∃ wa, wa = wo.alloc (.cells #[.int .i64 lb, .int .i64 W, .int .i64 L, .slice Ad ds.length cd, .slice Ap ps.length cp] 35) := ⟨_, rfl⟩
          have q0 : wa.cell? ⟨wo.heap.size, 0, none⟩ = some (.int .i64 lb) := by rw [hw1]; go_simp
          have q1 : wa.cell? ⟨wo.heap.size, 1, none⟩ = some (.int .i64 W) := by rw [hw1]; go_simp
          have q2 : wa.cell? ⟨wo.heap.size, 2, none⟩ = some (.int .i64 L) := by rw [hw1]; go_simp
          have q3 : wa.cell? ⟨wo.heap.size, 3, none⟩ = some (.slice Ad ds.length cd) := by rw [hw1]; go_simp
          have q4 : wa.cell? ⟨wo.heap.size, 4, none⟩ = some (.slice Ap ps.length cp) := by rw [hw1]; go_simp
          have bq : Below wo.heap.size wo wa := by rw [hw1]; exact (Below.refl _ _).alloc (Nat.le_refl _) _
          have zq : wo.heap.size < wa.heap.size := by rw [hw1]; simp
          rw [← hw1]
          clear hw1
          have bwa := bw.trans (bq.mono hzr)
          replace hTd := hTd.below bq (by omega)
          replace hTp := hTp.below bq (by omega)
          have hza := bq.size
          clear bq e0 e1 e2 e3 e4
          refine (AreaLeft_any _ _ _ _ W L _ _ ds ps wa hTd (by omega) hTp (by omega)).mono ?_
          rw [HL.out]
          rintro e wb ⟨rfl, bk⟩
          have hzb := bk.size
          have bwb := bwa.trans (bk.mono (by omega))
          replace hTp := hTp.below bk (by omega)
          have z4 := keepB bk q4
          have hk60 : (m + (ar - S)) + areaL ps 0 = m + (ar - S) := by simp [areaL]
          have g1 : wrap64 (m + (ar - S)) = m + (ar - S) := w64 (by omega)
          have HK60 := Lib.hid hk60
          clear bk bwa hTd q0 q1 q2 q3 q4 hk60
          go_wp2_with fail
          go_loopw [5, 8] (fun n i wr => ∃ j : Nat, j ≤ ps.length ∧ i = .int .i64 j ∧ n = .int .i64 (m + (ar - S) + areaL ps j) ∧ Below wb.heap.size wb wr) (fun _ i _ => ps.length - (intOf i).toNat)
          case atStart => exact ⟨0, by omega, rfl, by rw [HK60.out], Below.refl _ _⟩
          case round =>
            obtain ⟨j, hj, rfl, rfl, bv⟩ := hrel
            have hzv := bv.size
            have v4 := keepB bv z4
            by_cases hltj : j < ps.length
            · obtain ⟨b8, o8, rfl, _, _, p0, p1, p2, p3⟩ := (hTp.below bv (by omega)).c4 hltj
              have hj0 : (0 : Int) ≤ (j : Int) := by omega
              have hj1 : (j : Int) < (ps.length : Int) := by omega
              have hp9 := pv_rng (HPV.out j hltj)
              have hA9 := areaL_rng (n := ps.length) HAR.out (k := j) (by omega)
              have hT9 := HAR.out j hltj
              have HN := Lib.hid (show areaL ps (j + 1) = areaL ps j + (gi (gr ps j) 1 - gi (gr ps j) 0) * (gi (gr ps j) 3 - gi (gr ps j) 2) from rfl)
              unfold areaT at hT9
              obtain ⟨l, hl9⟩ : ∃ l, l = gi (gr ps j) 0 := ⟨_, rfl⟩
              obtain ⟨r, hr9⟩ : ∃ l, l = gi (gr ps j) 1 := ⟨_, rfl⟩
              obtain ⟨f, hf9⟩ : ∃ l, l = gi (gr ps j) 2 := ⟨_, rfl⟩
              obtain ⟨t, ht9⟩ : ∃ l, l = gi (gr ps j) 3 := ⟨_, rfl⟩
              rw [← hl9, ← hr9, ← hf9, ← ht9] at hp9 hT9 HN
              rw [← hl9] at p0
              rw [← hr9] at p1
              rw [← hf9] at p2
              rw [← ht9] at p3
              obtain ⟨q, hq9⟩ : ∃ q, q = areaL ps j := ⟨_, rfl⟩
              rw [← hq9] at hA9 HN ⊢
              obtain ⟨d, hd9⟩ : ∃ d, (r - l) * (t - f) = d := ⟨_, rfl⟩
              rw [hd9] at hT9 HN
              have HD := Lib.hid hd9
              clear hl9 hr9 hf9 ht9 hq9 hd9
              have u1 : (m + (ar - S) + q) + d = m + (ar - S) + (q + d) := by omega
              have HU := Lib.hid u1
              clear u1
              go_wp2_with fail
              have g1 : IntKind.i64.wrap (r - l) = r - l := IntWalk.i64_in _ (by omega)
              have g2 : IntKind.i64.wrap (t - f) = t - f := IntWalk.i64_in _ (by omega)
              have g4 : IntKind.i64.wrap d = d := IntWalk.i64_in _ (by omega)
              have g5 : IntKind.i64.wrap ((m + (ar - S) + q) + d) = (m + (ar - S) + q) + d := IntWalk.i64_in _ (by omega)
              have g3 := HD.out
              refine wp_region_held_drew (S := fun w' => w'.cell? ⟨wo.heap.size, 4, none⟩ = some (.slice (some ⟨b8, o8, none⟩) ps.length cp) ∧ w'.cell? ⟨b8, o8 + j * 4, none⟩ = some (.int .i64 l) ∧ w'.cell? ⟨b8, o8 + j * 4 + 1, none⟩ = some (.int .i64 r) ∧ w'.cell? ⟨b8, o8 + j * 4 + 2, none⟩ = some (.int .i64 f) ∧ w'.cell? ⟨b8, o8 + j * 4 + 3, none⟩ = some (.int .i64 t)) (by kernel_rfl) ?_ (fun hHeld => ?_)
              · (first | (try dsimp only); go_keep | (go_split_ands; refine ⟨?_, ?_, ?_, ?_, ?_⟩ <;> first | exact keepB bx5 (by assumption) | exact keepB bx4 (by assumption) | exact keepB bx3 (by assumption) | exact keepB bx2 (by assumption) | exact keepB bx1 (by assumption) | exact keepO bo5 (by first | (simp; done) | (simp; omega)) (by assumption) | exact keepO bo4 (by first | (simp; done) | (simp; omega)) (by assumption) | exact keepO bo3 (by first | (simp; done) | (simp; omega)) (by assumption) | exact keepO bo2 (by first | (simp; done) | (simp; omega)) (by assumption) | exact keepO bo1 (by first | (simp; done) | (simp; omega)) (by assumption) | exact keepW bg2 (by first | (simp; done) | (simp; omega)) (by assumption) | exact keepW bg1 (by first | (simp; done) | (simp; omega)) (by assumption) | assumption))
              refine wpAnyH_take (i := 0) (oi := ⟨some 54, _, _, _, _, _⟩) (v := _) rfl (by kernel_rfl) (by kernel_rfl) (by kernel_rfl) (fun _ _ _ h => h) (Or.inl ⟨by kernel_rfl, by intro w hSw; (try dsimp only at hSw); go_simp; try with_reducible rfl⟩) (by assumption) ?_
              simp only [Act.put, List.setIfInBounds_toArray, List.set_cons_zero, List.set_cons_succ]
              refine wpAnyH_take (i := 1) (oi := ⟨some 55, _, _, _, _, _⟩) (v := _) rfl (by kernel_rfl) (by kernel_rfl) (by kernel_rfl) (fun _ _ _ h => h) (Or.inl ⟨by kernel_rfl, by intro w hSw; (try dsimp only at hSw); go_simp; try with_reducible rfl⟩) (by assumption) ?_
              simp only [Act.put, List.setIfInBounds_toArray, List.set_cons_zero, List.set_cons_succ]
              refine wpAnyH_take (i := 2) (oi := ⟨some 56, _, _, _, _, _⟩) (v := _) rfl (by kernel_rfl) (by kernel_rfl) (by kernel_rfl) (fun _ _ _ h => h) (Or.inl ⟨by kernel_rfl, by intro w hSw; (try dsimp only at hSw); go_simp; try with_reducible rfl⟩) (by assumption) ?_
              simp only [Act.put, List.setIfInBounds_toArray, List.set_cons_zero, List.set_cons_succ]
              refine wpAnyH_take (i := 3) (oi := ⟨some 57, _, _, _, _, _⟩) (v := _) rfl (by kernel_rfl) (by kernel_rfl) (by kernel_rfl) (fun _ _ _ h => h) (Or.inl ⟨by kernel_rfl, by intro w hSw; (try dsimp only at hSw); go_simp; try with_reducible rfl⟩) (by assumption) ?_
              simp only [Act.put, List.setIfInBounds_toArray, List.set_cons_zero, List.set_cons_succ]
              refine wpAnyH_take (i := 4) (oi := ⟨some 58, _, _, _, _, _⟩) (v := _) rfl (by kernel_rfl) (by kernel_rfl) (by kernel_rfl) (fun _ _ _ h => h) (Or.inl ⟨by kernel_rfl, by intro w hSw; (try dsimp only at hSw); go_simp; try with_reducible rfl⟩) (by assumption) ?_
              simp only [Act.put, List.setIfInBounds_toArray, List.set_cons_zero, List.set_cons_succ]
              refine wpAnyH_take (i := 5) (oi := ⟨some 59, _, _, _, _, _⟩) (v := _) rfl (by kernel_rfl) (by kernel_rfl) (by kernel_rfl) (fun _ _ _ h => h) (Or.inl ⟨by kernel_rfl, by intro w hSw; (try dsimp only at hSw); go_simp; try with_reducible rfl⟩) (by assumption) ?_
              simp only [Act.put, List.setIfInBounds_toArray, List.set_cons_zero, List.set_cons_succ]
              refine wpAnyH_take (i := 6) (oi := ⟨some 60, _, _, _, _, _⟩) (v := _) rfl (by kernel_rfl) (by kernel_rfl) (by kernel_rfl) (fun _ _ _ h => h) (Or.inl ⟨by kernel_rfl, by intro w hSw; (try dsimp only at hSw); go_simp; try with_reducible rfl⟩) (by assumption) ?_
              simp only [Act.put, List.setIfInBounds_toArray, List.set_cons_zero, List.set_cons_succ]
              refine wpAnyH_take (i := 7) (oi := ⟨some 61, _, _, _, _, _⟩) (v := _) rfl (by kernel_rfl) (by kernel_rfl) (by kernel_rfl) (fun _ _ _ h => h) (Or.inl ⟨by kernel_rfl, by intro w hSw; (try dsimp only at hSw); go_simp; try with_reducible rfl⟩) (by assumption) ?_
              simp only [Act.put, List.setIfInBounds_toArray, List.set_cons_zero, List.set_cons_succ]
              refine wpAnyH_take (i := 8) (oi := ⟨some 62, _, _, _, _, _⟩) (v := _) rfl (by kernel_rfl) (by kernel_rfl) (by kernel_rfl) (fun _ _ _ h => h) (Or.inl ⟨by kernel_rfl, by intro w hSw; (try dsimp only at hSw); go_simp; try with_reducible rfl⟩) (by assumption) ?_
              simp only [Act.put, List.setIfInBounds_toArray, List.set_cons_zero, List.set_cons_succ]
              refine wpAnyH_take (i := 9) (oi := ⟨some 63, _, _, _, _, _⟩) (v := _) rfl (by kernel_rfl) (by kernel_rfl) (by kernel_rfl) (fun _ _ _ h => h) (Or.inl ⟨by kernel_rfl, by intro w hSw; (try dsimp only at hSw); go_simp; try with_reducible rfl⟩) (by assumption) ?_
              simp only [Act.put, List.setIfInBounds_toArray, List.set_cons_zero, List.set_cons_succ]
              refine wpAnyH_take (i := 10) (oi := ⟨some 64, _, _, _, _, _⟩) (v := _) rfl (by kernel_rfl) (by kernel_rfl) (by kernel_rfl) (fun _ _ _ h => h) (Or.inl ⟨by kernel_rfl, by intro w hSw; (try dsimp only at hSw); go_simp; try with_reducible rfl⟩) (by assumption) ?_
              simp only [Act.put, List.setIfInBounds_toArray, List.set_cons_zero, List.set_cons_succ]
              refine wpAnyH_take (i := 11) (oi := ⟨some 65, _, _, _, _, _⟩) (v := _) rfl (by kernel_rfl) (by kernel_rfl) (by kernel_rfl) (fun _ _ _ h => h) (Or.inl ⟨by kernel_rfl, by intro w hSw; (try dsimp only at hSw); go_simp; try with_reducible rfl⟩) (by assumption) ?_
              simp only [Act.put, List.setIfInBounds_toArray, List.set_cons_zero, List.set_cons_succ]
              refine wpAnyH_take (i := 12) (oi := ⟨some 66, _, _, _, _, _⟩) (v := _) rfl (by kernel_rfl) (by kernel_rfl) (by kernel_rfl) (fun _ _ _ h => h) (Or.inl ⟨by kernel_rfl, by intro w hSw; (try dsimp only at hSw); go_simp; try with_reducible rfl⟩) (by assumption) ?_
              simp only [Act.put, List.setIfInBounds_toArray, List.set_cons_zero, List.set_cons_succ]
              refine wpAnyH_take (i := 13) (oi := ⟨some 67, _, _, _, _, _⟩) (v := _) rfl (by kernel_rfl) (by kernel_rfl) (by kernel_rfl) (fun _ _ _ h => h) (Or.inl ⟨by kernel_rfl, by intro w hSw; (try dsimp only at hSw); go_simp; try with_reducible rfl⟩) (by assumption) ?_
              simp only [Act.put, List.setIfInBounds_toArray, List.set_cons_zero, List.set_cons_succ]
              refine wpAnyH_take (i := 14) (oi := ⟨some 68, _, _, _, _, _⟩) (v := _) rfl (by kernel_rfl) (by kernel_rfl) (by kernel_rfl) (fun _ _ _ h => h) (Or.inl ⟨by kernel_rfl, by intro w hSw; (try dsimp only at hSw); go_simp; try with_reducible rfl⟩) (by assumption) ?_
              simp only [Act.put, List.setIfInBounds_toArray, List.set_cons_zero, List.set_cons_succ]
              refine wpAnyH_take (i := 15) (oi := ⟨some 69, _, _, _, _, _⟩) (v := _) rfl (by kernel_rfl) (by kernel_rfl) (by kernel_rfl) (fun _ _ _ h => h) (Or.inl ⟨by kernel_rfl, by intro w hSw; (try dsimp only at hSw); go_simp; try with_reducible rfl⟩) (by assumption) ?_
              simp only [Act.put, List.setIfInBounds_toArray, List.set_cons_zero, List.set_cons_succ]
              refine wpAnyH_take (i := 16) (oi := ⟨some 70, _, _, _, _, _⟩) (v := _) rfl (by kernel_rfl) (by kernel_rfl) (by kernel_rfl) (fun _ _ _ h => h) (Or.inl ⟨by kernel_rfl, by intro w hSw; (try dsimp only at hSw); go_simp; try with_reducible rfl⟩) (by assumption) ?_
              simp only [Act.put, List.setIfInBounds_toArray, List.set_cons_zero, List.set_cons_succ]
              refine wpAnyH_take (i := 17) (oi := ⟨some 71, _, _, _, _, _⟩) (v := _) rfl (by kernel_rfl) (by kernel_rfl) (by kernel_rfl) (fun _ _ _ h => h) (Or.inl ⟨by kernel_rfl, by intro w hSw; (try dsimp only at hSw); go_simp; try with_reducible rfl⟩) (by assumption) ?_
              simp only [Act.put, List.setIfInBounds_toArray, List.set_cons_zero, List.set_cons_succ]
              refine wpAnyH_take (i := 18) (oi := ⟨some 72, _, _, _, _, _⟩) (v := _) rfl (by kernel_rfl) (by kernel_rfl) (by kernel_rfl) (fun _ _ _ h => h) (Or.inl ⟨by kernel_rfl, by intro w hSw; (try dsimp only at hSw); go_simp; try with_reducible rfl⟩) (by assumption) ?_
              simp only [Act.put, List.setIfInBounds_toArray, List.set_cons_zero, List.set_cons_succ]
              refine wpAnyH_take (i := 19) (oi := ⟨some 73, _, _, _, _, _⟩) (v := _) rfl (by kernel_rfl) (by kernel_rfl) (by kernel_rfl) (fun _ _ _ h => h) (Or.inl ⟨by kernel_rfl, by intro w hSw; (try dsimp only at hSw); go_simp; try with_reducible rfl⟩) (by assumption) ?_
              simp only [Act.put, List.setIfInBounds_toArray, List.set_cons_zero, List.set_cons_succ]
              refine wpAnyH_take (i := 20) (oi := ⟨some 74, _, _, _, _, _⟩) (v := _) rfl (by kernel_rfl) (by kernel_rfl) (by kernel_rfl) (fun _ _ _ h => h) (Or.inl ⟨by kernel_rfl, by intro w hSw; (try dsimp only at hSw); go_simp; try with_reducible rfl⟩) (by assumption) ?_
              simp only [Act.put, List.setIfInBounds_toArray, List.set_cons_zero, List.set_cons_succ]
              refine wpAnyH_take (i := 21) (oi := ⟨some 75, _, _, _, _, _⟩) (v := _) rfl (by kernel_rfl) (by kernel_rfl) (by kernel_rfl) (fun _ _ _ h => h) (Or.inl ⟨by kernel_rfl, by intro w hSw; (try dsimp only at hSw); go_simp; try with_reducible rfl⟩) (by assumption) ?_
              simp only [Act.put, List.setIfInBounds_toArray, List.set_cons_zero, List.set_cons_succ]
              refine wpAnyH_take (i := 22) (oi := ⟨some 76, _, _, _, _, _⟩) (v := _) rfl (by kernel_rfl) (by kernel_rfl) (by kernel_rfl) (fun _ _ _ h => h) (Or.inl ⟨by kernel_rfl, by intro w hSw; (try dsimp only at hSw); go_simp; try with_reducible rfl⟩) (by assumption) ?_
              simp only [Act.put, List.setIfInBounds_toArray, List.set_cons_zero, List.set_cons_succ]
              refine wpAnyH_take (i := 23) (oi := ⟨some 77, _, _, _, _, _⟩) (v := _) rfl (by kernel_rfl) (by kernel_rfl) (by kernel_rfl) (fun _ _ _ h => h) (Or.inl ⟨by kernel_rfl, by intro w hSw; (try dsimp only at hSw); go_simp; try with_reducible rfl⟩) (by assumption) ?_
              simp only [Act.put, List.setIfInBounds_toArray, List.set_cons_zero, List.set_cons_succ]
              refine wpAnyH_take (i := 24) (oi := ⟨some 78, _, _, _, _, _⟩) (v := _) rfl (by kernel_rfl) (by kernel_rfl) (by kernel_rfl) (fun _ _ _ h => h) (Or.inl ⟨by kernel_rfl, by intro w hSw; (try dsimp only at hSw); go_simp; try with_reducible rfl⟩) (by assumption) ?_
              simp only [Act.put, List.setIfInBounds_toArray, List.set_cons_zero, List.set_cons_succ]
              refine wpAnyH_take (i := 25) (oi := ⟨some 79, _, _, _, _, _⟩) (v := _) rfl (by kernel_rfl) (by kernel_rfl) (by kernel_rfl) (fun _ _ _ h => h) (Or.inl ⟨by kernel_rfl, by intro w hSw; (try dsimp only at hSw); go_simp; try with_reducible rfl⟩) (by assumption) ?_
              simp only [Act.put, List.setIfInBounds_toArray, List.set_cons_zero, List.set_cons_succ]
              refine wpAnyH_take (i := 26) (oi := ⟨some 80, _, _, _, _, _⟩) (v := _) rfl (by kernel_rfl) (by kernel_rfl) (by kernel_rfl) (fun _ _ _ h => h) (Or.inl ⟨by kernel_rfl, by intro w hSw; (try dsimp only at hSw); go_simp; try with_reducible rfl⟩) (by assumption) ?_
              simp only [Act.put, List.setIfInBounds_toArray, List.set_cons_zero, List.set_cons_succ]
              refine wpAnyH_take (i := 27) (oi := ⟨some 81, _, _, _, _, _⟩) (v := _) rfl (by kernel_rfl) (by kernel_rfl) (by kernel_rfl) (fun _ _ _ h => h) (Or.inl ⟨by kernel_rfl, by intro w hSw; (try dsimp only at hSw); go_simp; try with_reducible rfl⟩) (by assumption) ?_
              simp only [Act.put, List.setIfInBounds_toArray, List.set_cons_zero, List.set_cons_succ]
              refine wpAnyH_take (i := 28) (oi := ⟨some 82, _, _, _, _, _⟩) (v := _) rfl (by kernel_rfl) (by kernel_rfl) (by kernel_rfl) (fun _ _ _ h => h) (Or.inl ⟨by kernel_rfl, by intro w hSw; (try dsimp only at hSw); go_simp; try with_reducible rfl⟩) (by assumption) ?_
              simp only [Act.put, List.setIfInBounds_toArray, List.set_cons_zero, List.set_cons_succ]
              refine wpAnyH_take (i := 29) (oi := ⟨some 5, _, _, _, _, _⟩) (v := _) rfl (by kernel_rfl) (by kernel_rfl) (by kernel_rfl) (fun _ _ _ h => h) (Or.inl ⟨by kernel_rfl, by intro w hSw; (try dsimp only at hSw); go_simp; try with_reducible rfl⟩) (by assumption) ?_
              simp only [Act.put, List.setIfInBounds_toArray, List.set_cons_zero, List.set_cons_succ]
              refine wpAnyH_done (by kernel_rfl) ?_ _
              clear g1 g2 g3 g4 g5
              go_wp2
              go_roundw
              case rel => exact ⟨j + 1, by omega, by go_num, by rw [HN.out, ← HU.out], bv.trans ((Qt.one _ 1).below _ |>.mono (by omega))⟩
              case measure => simp [intOf]; omega
            · have hje : j = ps.length := by omega
              subst hje
              have HE := Lib.hid (show m + (ar - S) + areaL ps ps.length = m + ar by rw [← HS9.out]; omega)
              rw [HE.out]
              have hnlt : ¬ (ps.length : Int) < (ps.length : Int) := by omega
              go_wp2
              go_roundw
              case rel => exact ⟨k + 1, by omega, by go_num, by rw [HS.out], bwb.trans (bv.mono (by omega))⟩
              case measure => simp [intOf]; omega
        · have He := Lib.hid (show k = es.length by omega)
          have hle : ¬ (k : Int) < (es.length : Int) := by omega
          have HF := Lib.hid (show heldL (es.take k) = V by rw [He.out, List.take_length, HH.out])
          rw [HF.out]
          go_wp2
          go_ret
          exact ⟨rfl, B4.trans (bw.mono (by omega))⟩
end Go.Proofs.Ytlmppbijgciaaaa
