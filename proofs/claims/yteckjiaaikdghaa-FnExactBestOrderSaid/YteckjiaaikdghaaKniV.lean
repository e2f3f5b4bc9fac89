/-
  Lemmas and contracts of single functions of this program, used by the proofs of its laws: what each call returns and what becomes of memory. Conditions: the hypotheses of each theorem.
-/
import Derived.Test.YteckjiaaikdghaaKniU
namespace Go.Proofs.Yteckjiaaikdghaa
open Go.RowKit
attribute [local go_sem ↓] Go.wp_at_zero Go.wp_at_succ

theorem Ints.drew9 {w : World} {lo hi : Nat} {v : Value} {xs : List Int} (h : Ints w lo hi v xs) : Ints w.drew lo hi v xs := h
set_option maxRecDepth 100000 in
set_option maxHeartbeats 4000000 in
theorem CostOf_any (lo hi l2 h2 : Nat) (v u : Value) (L : List (List Int)) (o : List Int) (w : World) (h : IRows w lo hi v L) (hhi : hi ≤ w.heap.size) (hy : Ints w l2 h2 u o) (hh2 : h2 ≤ w.heap.size) (hv : vSets 10 L = true) (hb : Begun L.length o) (hl : o.length = L.length) :
    Calls Try.prog 33 #[v, u] w fun e w' => e = .returned (.int .i64 (cstL L o)) ∧ Below w.heap.size w w' := by
  obtain ⟨A, c, rfl, hc, hm⟩ := h.form
  obtain ⟨B, d, rfl, hd, hm2⟩ := hy.form
  have hL10 := (vSets_iff.1 hv).1
  have hol : o.length ≤ 10 := by omega
  have HVO := Lib.hid (validOrder_yes l2 h2 _ o L.length w hy hb hl (by omega))
  have HVS := Lib.hid (ivalidSets_any lo hi _ L 10 w h)
  rw [hv] at HVS
  have HH := Lib.hid h
  have HY := Lib.hid hy
  have HO := Lib.hid hb
  have HV := Lib.hid hv
  have HB0 := Lib.hid (Below.refl w.heap.size w)
  clear h hy hb hv hl
  go_enter Try.func33, Try.ntmps33
  go_wp2_with fail
  refine HVS.out.mono ?_
  rintro e w9 ⟨rfl, hw9⟩
  subst hw9
  go_wp2_with fail
  refine HVO.out.mono ?_
  rintro e w9 ⟨rfl, hw9⟩
  subst hw9
  clear HVS HVO
  go_wp2
  go_loopw [5, 6] (fun s i wr => ∃ k : Nat, (k < o.length ∨ k = 0) ∧ i = .int .i64 ((k + 1 : Nat) : Int) ∧ s = .int .i64 (cstK L o k) ∧ Hid (Below w.heap.size w wr)) (fun _ i _ => o.length - (intOf i).toNat)
  case atStart => exact ⟨0, .inr rfl, rfl, rfl, HB0.out⟩
  case round =>
    obtain ⟨k, hk, rfl, rfl, HB⟩ := hrel
    clear HB0
    have hzr := HB.out.size
    obtain ⟨K, hK⟩ : ∃ K, Hid (K = k + 1) := ⟨_, rfl⟩
    rw [show k + 1 = K from hK.out.symm]
    by_cases hlt : K < o.length
    · have hKk := hK.out
      obtain ⟨p, hp9, hpn⟩ := begun_at HO.out (k := k) (by omega)
      obtain ⟨r, hr9, hrn⟩ := begun_at HO.out (k := K) hlt
      have hio := (HY.out.below HB.out hh2)
      obtain ⟨bo, oo, hBo, _, _, ck, _⟩ := hio.cell (k := k) (by omega)
      subst hBo
      have cK := hio.cell' hlt
      have hiL := (HH.out.below HB.out hhi)
      obtain ⟨bl, ol, Ap, cp, hAl, _, _, cp0, hcp, hcp2, hpi⟩ := hiL.row hpn
      subst hAl
      obtain ⟨Ar, cr, cr0, hcr, hcr2, hri⟩ := hiL.row' hrn
      rw [hp9] at ck
      rw [hr9] at cK
      have hvp := (vSets_iff.1 HV.out).2 p hpn
      have hvr := (vSets_iff.1 HV.out).2 r hrn
      have HST := Lib.hid (show cstK L o K = cstK L o k + mvL (gr L p) (gr L r) by
        rw [hKk]
        show cstK L o k + mvL (gr L (gi o k).toNat) (gr L (gi o (k + 1)).toNat) = _
        rw [hp9, ← hKk, hr9, Int.toNat_natCast, Int.toNat_natCast])
      have hrg := cstK_rng (o := o) HV.out (fun j hj => by obtain ⟨i, hi, hin⟩ := begun_at HO.out hj; rw [hi, Int.toNat_natCast]; exact hin) k (.inl (by omega))
      have hmr := mvL_rng hvp hvr
      obtain ⟨Ra, hRa⟩ : ∃ R, R = gr L p := ⟨_, rfl⟩
      obtain ⟨Rb, hRb⟩ : ∃ R, R = gr L r := ⟨_, rfl⟩
      rw [← hRa] at cp0 hcp hpi hvp HST hmr
      rw [← hRb] at cr0 hcr hri hvr HST hmr
      obtain ⟨z, hz⟩ : ∃ z, z = mvL Ra Rb := ⟨_, rfl⟩
      obtain ⟨s, hs⟩ : ∃ z, z = cstK L o k := ⟨_, rfl⟩
      rw [← hz] at HST hmr
      rw [← hs] at HST hrg ⊢
      have Hz := Lib.hid hz
      have HPI := Lib.hid hpi
      have HRI := Lib.hid hri
      have HVP := Lib.hid hvp
      have HVR := Lib.hid hvr
      have hK1 : (K : Int) - 1 = (k : Int) := by omega
      have gk : IntKind.i64.wrap (k : Int) = (k : Int) := IntWalk.i64_in _ (by omega)
      have gs : IntKind.i64.wrap (s + z) = s + z := IntWalk.i64_in _ (by omega)
      have hK0 : (0 : Int) ≤ (K : Int) := by omega
      have hK2 : (K : Int) < (o.length : Int) := by omega
      have hk0 : (0 : Int) ≤ (k : Int) := by omega
      have hk2 : (k : Int) < (o.length : Int) := by omega
      have hp0 : (0 : Int) ≤ (p : Int) := by omega
      have hp2 : (p : Int) < (L.length : Int) := by omega
      have hr0 : (0 : Int) ≤ (r : Int) := by omega
      have hr2 : (r : Int) < (L.length : Int) := by omega
      clear hRa hRb hz hs hp9 hr9 hpi hri hvp hvr hio hiL hKk hK
      go_wp2
      refine wp_region_held_drew (S := fun w' => w'.cell? ⟨bo, oo + k, none⟩ = some (.int .i64 ((p : Int))) ∧ w'.cell? ⟨bo, oo + K, none⟩ = some (.int .i64 ((r : Int))) ∧ w'.cell? ⟨bl, ol + p, none⟩ = some (.slice Ap Ra.length cp) ∧ w'.cell? ⟨bl, ol + r, none⟩ = some (.slice Ar Rb.length cr)) (by kernel_rfl) ?_ (fun hHeld => ?_)
      · (first | (try dsimp only); go_keep | (go_split_ands; refine ⟨?_, ?_, ?_, ?_⟩ <;> first | exact keepB bx5 (by assumption) | exact keepB bx4 (by assumption) | exact keepB bx3 (by assumption) | exact keepB bx2 (by assumption) | exact keepB bx1 (by assumption) | exact keepO bo5 (by first | (simp; done) | (simp; omega)) (by assumption) | exact keepO bo4 (by first | (simp; done) | (simp; omega)) (by assumption) | exact keepO bo3 (by first | (simp; done) | (simp; omega)) (by assumption) | exact keepO bo2 (by first | (simp; done) | (simp; omega)) (by assumption) | exact keepO bo1 (by first | (simp; done) | (simp; omega)) (by assumption) | exact keepW bg2 (by first | (simp; done) | (simp; omega)) (by assumption) | exact keepW bg1 (by first | (simp; done) | (simp; omega)) (by assumption) | assumption))
      refine wpAnyH_take (i := 0) (oi := ⟨some 23, _, _, _, _, _⟩) (v := _) rfl (by kernel_rfl) (by kernel_rfl) (by kernel_rfl) (fun _ _ _ h => h) (Or.inl ⟨by kernel_rfl, by intro w hSw; (try dsimp only at hSw); go_simp; try with_reducible rfl⟩) (by assumption) ?_
      simp only [Act.put, List.setIfInBounds_toArray, List.set_cons_zero, List.set_cons_succ]
      refine wpAnyH_take (i := 1) (oi := ⟨some 24, _, _, _, _, _⟩) (v := _) rfl (by kernel_rfl) (by kernel_rfl) (by kernel_rfl) (fun _ _ _ h => h) (Or.inl ⟨by kernel_rfl, by intro w hSw; (try dsimp only at hSw); go_simp; try with_reducible rfl⟩) (by assumption) ?_
      simp only [Act.put, List.setIfInBounds_toArray, List.set_cons_zero, List.set_cons_succ]
      refine wpAnyH_take (i := 2) (oi := ⟨some 25, _, _, _, _, _⟩) (v := _) rfl (by kernel_rfl) (by kernel_rfl) (by kernel_rfl) (fun _ _ _ h => h) (Or.inl ⟨by kernel_rfl, by intro w hSw; (try dsimp only at hSw); go_simp; try with_reducible rfl⟩) (by assumption) ?_
      simp only [Act.put, List.setIfInBounds_toArray, List.set_cons_zero, List.set_cons_succ]
      refine wpAnyH_take (i := 3) (oi := ⟨some 26, _, _, _, _, _⟩) (v := _) rfl (by kernel_rfl) (by kernel_rfl) (by kernel_rfl) (fun _ _ _ h => h) (Or.inl ⟨by kernel_rfl, by intro w hSw; (try dsimp only at hSw); go_simp; try with_reducible rfl⟩) (by assumption) ?_
      simp only [Act.put, List.setIfInBounds_toArray, List.set_cons_zero, List.set_cons_succ]
      refine wpAnyH_take (i := 4) (oi := ⟨some 27, _, _, _, _, _⟩) (v := _) rfl (by kernel_rfl) (by kernel_rfl) (by kernel_rfl) (fun _ _ _ h => h) (Or.inl ⟨by kernel_rfl, by intro w hSw; (try dsimp only at hSw); go_simp; try with_reducible rfl⟩) (by assumption) ?_
      simp only [Act.put, List.setIfInBounds_toArray, List.set_cons_zero, List.set_cons_succ]
      refine wpAnyH_take (i := 5) (oi := ⟨some 28, _, _, _, _, _⟩) (v := _) rfl (by kernel_rfl) (by kernel_rfl) (by kernel_rfl) (fun _ _ _ h => h) (Or.inl ⟨by kernel_rfl, by intro w hSw; (try dsimp only at hSw); go_simp; try with_reducible rfl⟩) (by assumption) ?_
      simp only [Act.put, List.setIfInBounds_toArray, List.set_cons_zero, List.set_cons_succ]
      refine wpAnyH_take (i := 6) (oi := ⟨some 29, _, _, _, _, _⟩) (v := _) rfl (by kernel_rfl) (by kernel_rfl) (by kernel_rfl) (fun _ _ _ h => h) (Or.inl ⟨by kernel_rfl, by intro w hSw; (try dsimp only at hSw); go_simp; try with_reducible rfl⟩) (by assumption) ?_
      simp only [Act.put, List.setIfInBounds_toArray, List.set_cons_zero, List.set_cons_succ]
      refine wpAnyH_take (i := 7) (oi := ⟨some 30, _, _, _, _, _⟩) (v := _) rfl (by kernel_rfl) (by kernel_rfl) (by kernel_rfl) (fun _ _ _ h => h) (Or.inl ⟨by kernel_rfl, by intro w hSw; (try dsimp only at hSw); go_simp; try with_reducible rfl⟩) (by assumption) ?_
      simp only [Act.put, List.setIfInBounds_toArray, List.set_cons_zero, List.set_cons_succ]
      refine wpAnyH_take (i := 8) (oi := ⟨some 31, _, _, _, _, _⟩) (v := _) rfl (by kernel_rfl) (by kernel_rfl) (by kernel_rfl) (fun _ _ _ h => h) (Or.inl ⟨by kernel_rfl, by intro w hSw; (try dsimp only at hSw); go_simp; try with_reducible rfl⟩) (by assumption) ?_
      simp only [Act.put, List.setIfInBounds_toArray, List.set_cons_zero, List.set_cons_succ]
      refine wpAnyH_take (i := 9) (oi := ⟨some 32, _, _, _, _, _⟩) (v := _) rfl (by kernel_rfl) (by kernel_rfl) (by kernel_rfl) (fun _ _ _ h => h) (Or.inl ⟨by kernel_rfl, by intro w hSw; (try dsimp only at hSw); go_simp; try with_reducible rfl⟩) (by assumption) ?_
      simp only [Act.put, List.setIfInBounds_toArray, List.set_cons_zero, List.set_cons_succ]
      refine wpAnyH_take (i := 10) (oi := ⟨some 33, _, _, _, _, _⟩) (v := _) rfl (by kernel_rfl) (by kernel_rfl) (by kernel_rfl) (fun _ _ _ h => h) (Or.inl ⟨by kernel_rfl, by intro w hSw; (try dsimp only at hSw); go_simp; try with_reducible rfl⟩) (by assumption) ?_
      simp only [Act.put, List.setIfInBounds_toArray, List.set_cons_zero, List.set_cons_succ]
      refine wpAnyH_take (i := 11) (oi := ⟨some 34, _, _, _, _, _⟩) (v := _) rfl (by kernel_rfl) (by kernel_rfl) (by kernel_rfl) (fun _ _ _ h => h) (Or.inl ⟨by kernel_rfl, by intro w hSw; (try dsimp only at hSw); go_simp; try with_reducible rfl⟩) (by assumption) ?_
      simp only [Act.put, List.setIfInBounds_toArray, List.set_cons_zero, List.set_cons_succ]
      refine wpAnyH_take (i := 12) (oi := ⟨some 35, _, _, _, _, _⟩) (v := _) rfl (by kernel_rfl) (by kernel_rfl) (by kernel_rfl) (fun _ _ _ h => h) (Or.inl ⟨by kernel_rfl, by intro w hSw; (try dsimp only at hSw); go_simp; try with_reducible rfl⟩) (by assumption) ?_
      simp only [Act.put, List.setIfInBounds_toArray, List.set_cons_zero, List.set_cons_succ]
      refine wpAnyH_take (i := 13) (oi := ⟨some 36, _, _, _, _, _⟩) (v := _) rfl (by kernel_rfl) (by kernel_rfl) (by kernel_rfl) (fun _ _ _ h => h) (Or.inl ⟨by kernel_rfl, by intro w hSw; (try dsimp only at hSw); go_simp; try with_reducible rfl⟩) (by assumption) ?_
      simp only [Act.put, List.setIfInBounds_toArray, List.set_cons_zero, List.set_cons_succ]
      refine wpAnyH_take (i := 14) (oi := ⟨some 37, _, _, _, _, _⟩) (v := _) rfl (by kernel_rfl) (by kernel_rfl) (by kernel_rfl) (fun _ _ _ h => h) (Or.inl ⟨by kernel_rfl, by intro w hSw; (try dsimp only at hSw); go_simp; try with_reducible rfl⟩) (by assumption) ?_
      simp only [Act.put, List.setIfInBounds_toArray, List.set_cons_zero, List.set_cons_succ]
      refine wpAnyH_take (i := 15) (oi := ⟨some 38, _, _, _, _, _⟩) (v := _) rfl (by kernel_rfl) (by kernel_rfl) (by kernel_rfl) (fun _ _ _ h => h) (Or.inl ⟨by kernel_rfl, by intro w hSw; (try dsimp only at hSw); go_simp; try with_reducible rfl⟩) (by assumption) ?_
      simp only [Act.put, List.setIfInBounds_toArray, List.set_cons_zero, List.set_cons_succ]
      refine wpAnyH_ready (rs := [16]) (by kernel_rfl) (by simp) ?_
      refine AllReadyH.cons (o := ⟨some 39, _, _, _, _, _⟩) rfl (fun K hK => ?_) AllReadyH.nil
      go_simp
      go_at_call 70
      refine (MoveKnives_le lo hi lo hi _ _ Ra Rb _ HPI.out.drew9 (by simp; omega) HRI.out.drew9 (by simp; omega) HVP.out HVR.out).mono ?_
      rw [← Hz.out]
      rintro e x1 ⟨rfl, bx1⟩
      go_wp2_with fail
      refine hK.out _ _ ?_ (fun hHeld2 => ?_)
      · (first | (try dsimp only); go_keep | (go_split_ands; refine ⟨?_, ?_, ?_, ?_⟩ <;> first | exact keepB bx5 (by assumption) | exact keepB bx4 (by assumption) | exact keepB bx3 (by assumption) | exact keepB bx2 (by assumption) | exact keepB bx1 (by assumption) | exact keepO bo5 (by first | (simp; done) | (simp; omega)) (by assumption) | exact keepO bo4 (by first | (simp; done) | (simp; omega)) (by assumption) | exact keepO bo3 (by first | (simp; done) | (simp; omega)) (by assumption) | exact keepO bo2 (by first | (simp; done) | (simp; omega)) (by assumption) | exact keepO bo1 (by first | (simp; done) | (simp; omega)) (by assumption) | exact keepW bg2 (by first | (simp; done) | (simp; omega)) (by assumption) | exact keepW bg1 (by first | (simp; done) | (simp; omega)) (by assumption) | assumption))
      clear hK K hHeld
      have hHeld := hHeld2
      clear hHeld2
      try simp only [Act.put, List.setIfInBounds_toArray, List.set_cons_zero, List.set_cons_succ]
      refine wpAnyH_take (i := 17) (oi := ⟨some 40, _, _, _, _, _⟩) (v := _) rfl (by kernel_rfl) (by kernel_rfl) (by kernel_rfl) (fun _ _ _ h => h) (Or.inl ⟨by kernel_rfl, by intro w hSw; (try dsimp only at hSw); go_simp; try with_reducible rfl⟩) (by assumption) ?_
      simp only [Act.put, List.setIfInBounds_toArray, List.set_cons_zero, List.set_cons_succ]
      refine wpAnyH_take (i := 18) (oi := ⟨some 5, _, _, _, _, _⟩) (v := _) rfl (by kernel_rfl) (by kernel_rfl) (by kernel_rfl) (fun _ _ _ h => h) (Or.inl ⟨by kernel_rfl, by intro w hSw; (try dsimp only at hSw); go_simp; try with_reducible rfl⟩) (by assumption) ?_
      simp only [Act.put, List.setIfInBounds_toArray, List.set_cons_zero, List.set_cons_succ]
      refine wpAnyH_done (by kernel_rfl) ?_ _
      have HBx := Lib.hid (HB.out.trans ((of_drew bx1).mono hzr))
      clear bx1 hHeld
      go_wp2
      go_roundw
      case rel => exact ⟨K, .inl hlt, by go_num, by rw [HST.out], HBx.out⟩
      case measure => simp [intOf]; omega
    · have hni : ¬ (K : Int) < (o.length : Int) := by omega
      have HE := Lib.hid (show cstK L o k = cstL L o by
        have := hK.out
        unfold cstL
        congr 1
        omega)
      rw [HE.out]
      go_wp2
      go_ret
      exact ⟨rfl, HB.out⟩
set_option maxRecDepth 100000 in
set_option maxHeartbeats 4000000 in
theorem costOf_any (lo hi l2 h2 : Nat) (v u : Value) (L : List (List Int)) (o : List Int) (w : World) (h : IRows w lo hi v L) (hhi : hi ≤ w.heap.size) (hy : Ints w l2 h2 u o) (hh2 : h2 ≤ w.heap.size) (hv : vSets 10 L = true) (hb : Begun L.length o) (hl : o.length = L.length) :
    Calls Try.prog 95 #[v, u] w fun e w' => e = .returned (.int .i64 (cstL L o)) ∧ Below w.heap.size w w' := by
  obtain ⟨A, c, rfl, hc, hm⟩ := h.form
  obtain ⟨B, d, rfl, hd, hm2⟩ := hy.form
  have hL10 := (vSets_iff.1 hv).1
  have hol : o.length ≤ 10 := by omega
  have HH := Lib.hid h
  have HY := Lib.hid hy
  have HO := Lib.hid hb
  have HV := Lib.hid hv
  have HB0 := Lib.hid (Below.refl w.heap.size w)
  clear h hy hb hv hl
  go_enter Try.func95, Try.ntmps95
  go_wp2
  go_loopw [5, 6] (fun s i wr => ∃ k : Nat, (k < o.length ∨ k = 0) ∧ i = .int .i64 ((k + 1 : Nat) : Int) ∧ s = .int .i64 (cstK L o k) ∧ Hid (Below w.heap.size w wr)) (fun _ i _ => o.length - (intOf i).toNat)
  case atStart => exact ⟨0, .inr rfl, rfl, rfl, HB0.out⟩
  case round =>
    obtain ⟨k, hk, rfl, rfl, HB⟩ := hrel
    clear HB0
    have hzr := HB.out.size
    obtain ⟨K, hK⟩ : ∃ K, Hid (K = k + 1) := ⟨_, rfl⟩
    rw [show k + 1 = K from hK.out.symm]
    by_cases hlt : K < o.length
    · have hKk := hK.out
      obtain ⟨p, hp9, hpn⟩ := begun_at HO.out (k := k) (by omega)
      obtain ⟨r, hr9, hrn⟩ := begun_at HO.out (k := K) hlt
      have hio := (HY.out.below HB.out hh2)
      obtain ⟨bo, oo, hBo, _, _, ck, _⟩ := hio.cell (k := k) (by omega)
      subst hBo
      have cK := hio.cell' hlt
      have hiL := (HH.out.below HB.out hhi)
      obtain ⟨bl, ol, Ap, cp, hAl, _, _, cp0, hcp, hcp2, hpi⟩ := hiL.row hpn
      subst hAl
      obtain ⟨Ar, cr, cr0, hcr, hcr2, hri⟩ := hiL.row' hrn
      rw [hp9] at ck
      rw [hr9] at cK
      have hvp := (vSets_iff.1 HV.out).2 p hpn
      have hvr := (vSets_iff.1 HV.out).2 r hrn
      have HST := Lib.hid (show cstK L o K = cstK L o k + mvL (gr L p) (gr L r) by
        rw [hKk]
        show cstK L o k + mvL (gr L (gi o k).toNat) (gr L (gi o (k + 1)).toNat) = _
        rw [hp9, ← hKk, hr9, Int.toNat_natCast, Int.toNat_natCast])
      have hrg := cstK_rng (o := o) HV.out (fun j hj => by obtain ⟨i, hi, hin⟩ := begun_at HO.out hj; rw [hi, Int.toNat_natCast]; exact hin) k (.inl (by omega))
      have hmr := mvL_rng hvp hvr
      obtain ⟨Ra, hRa⟩ : ∃ R, R = gr L p := ⟨_, rfl⟩
      obtain ⟨Rb, hRb⟩ : ∃ R, R = gr L r := ⟨_, rfl⟩
      rw [← hRa] at cp0 hcp hpi hvp HST hmr
      rw [← hRb] at cr0 hcr hri hvr HST hmr
      obtain ⟨z, hz⟩ : ∃ z, z = mvL Ra Rb := ⟨_, rfl⟩
      obtain ⟨s, hs⟩ : ∃ z, z = cstK L o k := ⟨_, rfl⟩
      rw [← hz] at HST hmr
      rw [← hs] at HST hrg ⊢
      have Hz := Lib.hid hz
      have HPI := Lib.hid hpi
      have HRI := Lib.hid hri
      have HVP := Lib.hid hvp
      have HVR := Lib.hid hvr
      have hK1 : (K : Int) - 1 = (k : Int) := by omega
      have gk : IntKind.i64.wrap (k : Int) = (k : Int) := IntWalk.i64_in _ (by omega)
      have gs : IntKind.i64.wrap (s + z) = s + z := IntWalk.i64_in _ (by omega)
      have hK0 : (0 : Int) ≤ (K : Int) := by omega
      have hK2 : (K : Int) < (o.length : Int) := by omega
      have hk0 : (0 : Int) ≤ (k : Int) := by omega
      have hk2 : (k : Int) < (o.length : Int) := by omega
      have hp0 : (0 : Int) ≤ (p : Int) := by omega
      have hp2 : (p : Int) < (L.length : Int) := by omega
      have hr0 : (0 : Int) ≤ (r : Int) := by omega
      have hr2 : (r : Int) < (L.length : Int) := by omega
      clear hRa hRb hz hs hp9 hr9 hpi hri hvp hvr hio hiL hKk hK
      go_wp2
      refine wp_region_held_drew (S := fun w' => w'.cell? ⟨bo, oo + k, none⟩ = some (.int .i64 ((p : Int))) ∧ w'.cell? ⟨bo, oo + K, none⟩ = some (.int .i64 ((r : Int))) ∧ w'.cell? ⟨bl, ol + p, none⟩ = some (.slice Ap Ra.length cp) ∧ w'.cell? ⟨bl, ol + r, none⟩ = some (.slice Ar Rb.length cr)) (by kernel_rfl) ?_ (fun hHeld => ?_)
      · (first | (try dsimp only); go_keep | (go_split_ands; refine ⟨?_, ?_, ?_, ?_⟩ <;> first | exact keepB bx5 (by assumption) | exact keepB bx4 (by assumption) | exact keepB bx3 (by assumption) | exact keepB bx2 (by assumption) | exact keepB bx1 (by assumption) | exact keepO bo5 (by first | (simp; done) | (simp; omega)) (by assumption) | exact keepO bo4 (by first | (simp; done) | (simp; omega)) (by assumption) | exact keepO bo3 (by first | (simp; done) | (simp; omega)) (by assumption) | exact keepO bo2 (by first | (simp; done) | (simp; omega)) (by assumption) | exact keepO bo1 (by first | (simp; done) | (simp; omega)) (by assumption) | exact keepW bg2 (by first | (simp; done) | (simp; omega)) (by assumption) | exact keepW bg1 (by first | (simp; done) | (simp; omega)) (by assumption) | assumption))
      refine wpAnyH_take (i := 0) (oi := ⟨some 13, _, _, _, _, _⟩) (v := _) rfl (by kernel_rfl) (by kernel_rfl) (by kernel_rfl) (fun _ _ _ h => h) (Or.inl ⟨by kernel_rfl, by intro w hSw; (try dsimp only at hSw); go_simp; try with_reducible rfl⟩) (by assumption) ?_
      simp only [Act.put, List.setIfInBounds_toArray, List.set_cons_zero, List.set_cons_succ]
      refine wpAnyH_take (i := 1) (oi := ⟨some 14, _, _, _, _, _⟩) (v := _) rfl (by kernel_rfl) (by kernel_rfl) (by kernel_rfl) (fun _ _ _ h => h) (Or.inl ⟨by kernel_rfl, by intro w hSw; (try dsimp only at hSw); go_simp; try with_reducible rfl⟩) (by assumption) ?_
      simp only [Act.put, List.setIfInBounds_toArray, List.set_cons_zero, List.set_cons_succ]
      refine wpAnyH_take (i := 2) (oi := ⟨some 15, _, _, _, _, _⟩) (v := _) rfl (by kernel_rfl) (by kernel_rfl) (by kernel_rfl) (fun _ _ _ h => h) (Or.inl ⟨by kernel_rfl, by intro w hSw; (try dsimp only at hSw); go_simp; try with_reducible rfl⟩) (by assumption) ?_
      simp only [Act.put, List.setIfInBounds_toArray, List.set_cons_zero, List.set_cons_succ]
      refine wpAnyH_take (i := 3) (oi := ⟨some 16, _, _, _, _, _⟩) (v := _) rfl (by kernel_rfl) (by kernel_rfl) (by kernel_rfl) (fun _ _ _ h => h) (Or.inl ⟨by kernel_rfl, by intro w hSw; (try dsimp only at hSw); go_simp; try with_reducible rfl⟩) (by assumption) ?_
      simp only [Act.put, List.setIfInBounds_toArray, List.set_cons_zero, List.set_cons_succ]
      refine wpAnyH_take (i := 4) (oi := ⟨some 17, _, _, _, _, _⟩) (v := _) rfl (by kernel_rfl) (by kernel_rfl) (by kernel_rfl) (fun _ _ _ h => h) (Or.inl ⟨by kernel_rfl, by intro w hSw; (try dsimp only at hSw); go_simp; try with_reducible rfl⟩) (by assumption) ?_
      simp only [Act.put, List.setIfInBounds_toArray, List.set_cons_zero, List.set_cons_succ]
      refine wpAnyH_take (i := 5) (oi := ⟨some 18, _, _, _, _, _⟩) (v := _) rfl (by kernel_rfl) (by kernel_rfl) (by kernel_rfl) (fun _ _ _ h => h) (Or.inl ⟨by kernel_rfl, by intro w hSw; (try dsimp only at hSw); go_simp; try with_reducible rfl⟩) (by assumption) ?_
      simp only [Act.put, List.setIfInBounds_toArray, List.set_cons_zero, List.set_cons_succ]
      refine wpAnyH_take (i := 6) (oi := ⟨some 19, _, _, _, _, _⟩) (v := _) rfl (by kernel_rfl) (by kernel_rfl) (by kernel_rfl) (fun _ _ _ h => h) (Or.inl ⟨by kernel_rfl, by intro w hSw; (try dsimp only at hSw); go_simp; try with_reducible rfl⟩) (by assumption) ?_
      simp only [Act.put, List.setIfInBounds_toArray, List.set_cons_zero, List.set_cons_succ]
      refine wpAnyH_take (i := 7) (oi := ⟨some 20, _, _, _, _, _⟩) (v := _) rfl (by kernel_rfl) (by kernel_rfl) (by kernel_rfl) (fun _ _ _ h => h) (Or.inl ⟨by kernel_rfl, by intro w hSw; (try dsimp only at hSw); go_simp; try with_reducible rfl⟩) (by assumption) ?_
      simp only [Act.put, List.setIfInBounds_toArray, List.set_cons_zero, List.set_cons_succ]
      refine wpAnyH_take (i := 8) (oi := ⟨some 21, _, _, _, _, _⟩) (v := _) rfl (by kernel_rfl) (by kernel_rfl) (by kernel_rfl) (fun _ _ _ h => h) (Or.inl ⟨by kernel_rfl, by intro w hSw; (try dsimp only at hSw); go_simp; try with_reducible rfl⟩) (by assumption) ?_
      simp only [Act.put, List.setIfInBounds_toArray, List.set_cons_zero, List.set_cons_succ]
      refine wpAnyH_take (i := 9) (oi := ⟨some 22, _, _, _, _, _⟩) (v := _) rfl (by kernel_rfl) (by kernel_rfl) (by kernel_rfl) (fun _ _ _ h => h) (Or.inl ⟨by kernel_rfl, by intro w hSw; (try dsimp only at hSw); go_simp; try with_reducible rfl⟩) (by assumption) ?_
      simp only [Act.put, List.setIfInBounds_toArray, List.set_cons_zero, List.set_cons_succ]
      refine wpAnyH_take (i := 10) (oi := ⟨some 23, _, _, _, _, _⟩) (v := _) rfl (by kernel_rfl) (by kernel_rfl) (by kernel_rfl) (fun _ _ _ h => h) (Or.inl ⟨by kernel_rfl, by intro w hSw; (try dsimp only at hSw); go_simp; try with_reducible rfl⟩) (by assumption) ?_
      simp only [Act.put, List.setIfInBounds_toArray, List.set_cons_zero, List.set_cons_succ]
      refine wpAnyH_take (i := 11) (oi := ⟨some 24, _, _, _, _, _⟩) (v := _) rfl (by kernel_rfl) (by kernel_rfl) (by kernel_rfl) (fun _ _ _ h => h) (Or.inl ⟨by kernel_rfl, by intro w hSw; (try dsimp only at hSw); go_simp; try with_reducible rfl⟩) (by assumption) ?_
      simp only [Act.put, List.setIfInBounds_toArray, List.set_cons_zero, List.set_cons_succ]
      refine wpAnyH_take (i := 12) (oi := ⟨some 25, _, _, _, _, _⟩) (v := _) rfl (by kernel_rfl) (by kernel_rfl) (by kernel_rfl) (fun _ _ _ h => h) (Or.inl ⟨by kernel_rfl, by intro w hSw; (try dsimp only at hSw); go_simp; try with_reducible rfl⟩) (by assumption) ?_
      simp only [Act.put, List.setIfInBounds_toArray, List.set_cons_zero, List.set_cons_succ]
      refine wpAnyH_take (i := 13) (oi := ⟨some 26, _, _, _, _, _⟩) (v := _) rfl (by kernel_rfl) (by kernel_rfl) (by kernel_rfl) (fun _ _ _ h => h) (Or.inl ⟨by kernel_rfl, by intro w hSw; (try dsimp only at hSw); go_simp; try with_reducible rfl⟩) (by assumption) ?_
      simp only [Act.put, List.setIfInBounds_toArray, List.set_cons_zero, List.set_cons_succ]
      refine wpAnyH_take (i := 14) (oi := ⟨some 27, _, _, _, _, _⟩) (v := _) rfl (by kernel_rfl) (by kernel_rfl) (by kernel_rfl) (fun _ _ _ h => h) (Or.inl ⟨by kernel_rfl, by intro w hSw; (try dsimp only at hSw); go_simp; try with_reducible rfl⟩) (by assumption) ?_
      simp only [Act.put, List.setIfInBounds_toArray, List.set_cons_zero, List.set_cons_succ]
      refine wpAnyH_take (i := 15) (oi := ⟨some 28, _, _, _, _, _⟩) (v := _) rfl (by kernel_rfl) (by kernel_rfl) (by kernel_rfl) (fun _ _ _ h => h) (Or.inl ⟨by kernel_rfl, by intro w hSw; (try dsimp only at hSw); go_simp; try with_reducible rfl⟩) (by assumption) ?_
      simp only [Act.put, List.setIfInBounds_toArray, List.set_cons_zero, List.set_cons_succ]
      refine wpAnyH_ready (rs := [16]) (by kernel_rfl) (by simp) ?_
      refine AllReadyH.cons (o := ⟨some 29, _, _, _, _, _⟩) rfl (fun K hK => ?_) AllReadyH.nil
      go_simp
      go_at_call 112
      refine (moves_any lo hi lo hi _ _ Ra Rb _ HPI.out.drew9 (by simp; omega) HRI.out.drew9 (by simp; omega) HVP.out HVR.out).mono ?_
      rw [← Hz.out]
      rintro e x1 ⟨rfl, bx1⟩
      go_wp2_with fail
      refine hK.out _ _ ?_ (fun hHeld2 => ?_)
      · (first | (try dsimp only); go_keep | (go_split_ands; refine ⟨?_, ?_, ?_, ?_⟩ <;> first | exact keepB bx5 (by assumption) | exact keepB bx4 (by assumption) | exact keepB bx3 (by assumption) | exact keepB bx2 (by assumption) | exact keepB bx1 (by assumption) | exact keepO bo5 (by first | (simp; done) | (simp; omega)) (by assumption) | exact keepO bo4 (by first | (simp; done) | (simp; omega)) (by assumption) | exact keepO bo3 (by first | (simp; done) | (simp; omega)) (by assumption) | exact keepO bo2 (by first | (simp; done) | (simp; omega)) (by assumption) | exact keepO bo1 (by first | (simp; done) | (simp; omega)) (by assumption) | exact keepW bg2 (by first | (simp; done) | (simp; omega)) (by assumption) | exact keepW bg1 (by first | (simp; done) | (simp; omega)) (by assumption) | assumption))
      clear hK K hHeld
      have hHeld := hHeld2
      clear hHeld2
      try simp only [Act.put, List.setIfInBounds_toArray, List.set_cons_zero, List.set_cons_succ]
      refine wpAnyH_take (i := 17) (oi := ⟨some 30, _, _, _, _, _⟩) (v := _) rfl (by kernel_rfl) (by kernel_rfl) (by kernel_rfl) (fun _ _ _ h => h) (Or.inl ⟨by kernel_rfl, by intro w hSw; (try dsimp only at hSw); go_simp; try with_reducible rfl⟩) (by assumption) ?_
      simp only [Act.put, List.setIfInBounds_toArray, List.set_cons_zero, List.set_cons_succ]
      refine wpAnyH_take (i := 18) (oi := ⟨some 5, _, _, _, _, _⟩) (v := _) rfl (by kernel_rfl) (by kernel_rfl) (by kernel_rfl) (fun _ _ _ h => h) (Or.inl ⟨by kernel_rfl, by intro w hSw; (try dsimp only at hSw); go_simp; try with_reducible rfl⟩) (by assumption) ?_
      simp only [Act.put, List.setIfInBounds_toArray, List.set_cons_zero, List.set_cons_succ]
      refine wpAnyH_done (by kernel_rfl) ?_ _
      have HBx := Lib.hid (HB.out.trans ((of_drew bx1).mono hzr))
      clear bx1 hHeld
      go_wp2
      go_roundw
      case rel => exact ⟨K, .inl hlt, by go_num, by rw [HST.out], HBx.out⟩
      case measure => simp [intOf]; omega
    · have hni : ¬ (K : Int) < (o.length : Int) := by omega
      have HE := Lib.hid (show cstK L o k = cstL L o by
        have := hK.out
        unfold cstL
        congr 1
        omega)
      rw [HE.out]
      go_wp2
      go_ret
      exact ⟨rfl, HB.out⟩
/-- the order with the least cost -/
def boL (L : List (List Int)) : List Int := if vSets 5 L = true then bestO (cstL L) L.length L.length [] else []
theorem vSets_five {L : List (List Int)} : vSets 5 L = true ↔ vSets 10 L = true ∧ L.length ≤ 5 := by
  rw [vSets_iff, vSets_iff]
  constructor
  · rintro ⟨h1, h2⟩; exact ⟨⟨by omega, h2⟩, h1⟩
  · rintro ⟨⟨_, h2⟩, h1⟩; exact ⟨h1, h2⟩
theorem boL_len (L : List (List Int)) : (boL L).length ≤ 5 := by
  unfold boL
  split
  · rename_i h
    rcases Nat.eq_zero_or_pos L.length with h0 | h0
    · rw [h0]; simp [bestO]
    · rw [(best_least (cstL L) h0).1]; exact (vSets_five.1 h).2
  · simp
set_option maxHeartbeats 1000000 in
theorem costB_any (lo hi l3 h3 bp : Nat) (v x : Value) (L : List (List Int)) (o : List Int) (w : World) (h : IRows w lo hi v L) (hhi : hi ≤ w.heap.size) (hx : Ints w l3 h3 x o) (hh3 : h3 ≤ w.heap.size)
    (cP : w.cell? ⟨bp, 0, none⟩ = some v) (hv : vSets 10 L = true) (hb : Begun L.length o) (hl : o.length = L.length) :
    Calls Try.prog 57 #[x, .pointer (some ⟨bp, 0, none⟩)] w fun e w' => e = .returned (.int .i64 (cstL L o)) ∧ Below w.heap.size w w' := by
  have HC := Lib.hid (CostOf_any lo hi l3 h3 v x L o w h hhi hx hh3 hv hb hl)
  obtain ⟨A, c, rfl, hc, hm⟩ := h.form
  obtain ⟨C, f, rfl, hf, hm3⟩ := hx.form
  clear hl hb hv
  go_enter Try.func57, Try.ntmps57
  go_wp2_with fail
  refine HC.out.mono ?_
  rintro e w1 ⟨rfl, hb1⟩
  have HB1 := Lib.hid hb1
  clear hb1
  go_wp2
  go_ret
  exact ⟨rfl, HB1.out⟩
set_option maxRecDepth 100000 in
set_option maxHeartbeats 2000000 in
theorem BestOrder_any (lo hi : Nat) (v : Value) (L : List (List Int)) (w : World) (h : IRows w lo hi v L) (hhi : hi ≤ w.heap.size) :
    Calls Try.prog 21 #[v] w fun e w' => ∃ v', e = .returned v' ∧ OwnI w' w.heap.size 3 v' (boL L) ∧ Below w.heap.size w w' := by
  have hmf : ∀ (fn : Fn) (first cap : Array Value) (w : World), (Instr.makeFunc fn first cap).run Try.prog w = .ok (.func fn first cap) w := fun _ _ _ _ => rfl
  obtain ⟨A, c, rfl, hc, hm⟩ := h.form
  have HH := Lib.hid h
  have hL0 : ∀ w1, Below w.heap.size w w1 → IRows w1 lo hi (.slice A L.length c) L := fun w1 hb => h.below hb hhi
  have Hs := Lib.hid (show ∃ w1, w1 = (w.alloc (.cells #[.slice A L.length c] 27)) ∧ Below w.heap.size w w1 ∧ w1.cell? ⟨w.heap.size, 0, none⟩ = some (.slice A L.length c) ∧ w.heap.size < w1.heap.size from by
    have hb : Below w.heap.size w (w.alloc (.cells #[.slice A L.length c] 27)) := (Below.refl _ _).alloc (Nat.le_refl _) _
    exact ⟨_, rfl, hb, by go_simp, by simp⟩)
  go_enter Try.func21, Try.ntmps21
  go_wp2_with (fail)
  obtain ⟨w1, hw1, hb0, c00, hz⟩ := Hs.out
  rw [← hw1]
  clear hw1 Hs
  have HT0 := Lib.hid (hL0 w1 hb0)
  have Hb0 := Lib.hid hb0
  clear hL0 h hb0
  refine (ivalidSets_any lo hi _ L 5 w1 HT0.out).mono ?_
  rintro e x1 ⟨rfl, hx1⟩
  subst hx1
  cases hv : vSets 5 L
  · have HR := Lib.hid (show boL L = [] by unfold boL; rw [hv]; simp)
    go_wp2
    go_ret
    exact ⟨_, rfl, by rw [HR.out]; exact OwnI.nil _ _ _, Hb0.out⟩
  · have hl := (vSets_five.1 hv).2
    have HV := Lib.hid (vSets_five.1 hv).1
    have HR := Lib.hid (show boL L = firstO (cstL L) [] (allO L.length L.length []) by unfold boL; rw [hv, if_pos rfl, bestK_first])
    clear hv
    go_wp2_with fail
    refine (allOrders_any L.length hl w1).mono ?_
    rintro e w2 ⟨v2, rfl, ho2, hb2⟩
    have HO2 := Lib.hid ho2
    have HB2 := Lib.hid hb2
    have hz2 := hb2.size
    clear ho2 hb2
    go_wp2_with fail
    refine (firstLeastB_any w1.heap.size w2.heap.size v2 _ (cstL L) _ w2 HO2.out (Nat.le_refl _) allK_some (by have := allO_small hl; omega) (fun w' x o hb ho hm => ?_)).mono ?_
    · have hbo := HB2.out.trans (hb.mono hz2)
      have hao := allK_begun o hm
      exact costB_any lo hi _ _ _ _ _ L o w' (HT0.out.below hbo (by omega)) (by have := hbo.size; omega) ho.ints (Nat.le_refl _) (keepB hbo c00) HV.out hao.2 hao.1
    · rintro e w3 ⟨v3, rfl, ho3, hb3⟩
      have HO3 := Lib.hid ho3
      have HB3 := Lib.hid hb3
      clear ho3 hb3
      go_wp2
      go_ret
      exact ⟨_, rfl, by rw [HR.out]; exact HO3.out.base (by omega), Hb0.out.trans ((HB2.out.trans (HB3.out.mono hz2)).mono (by omega))⟩
set_option maxRecDepth 100000 in
set_option maxHeartbeats 4000000 in
theorem bestOrder_any (b0 lo hi : Nat) (v : Value) (L : List (List Int)) (hv : vSets 10 L = true) (hL5 : L.length ≤ 5) : ∀ (d : Nat) (l3 h3 : Nat) (x : Value) (pre : List Int) (w : World), IRows w lo hi v L → hi ≤ w.heap.size → Ints w l3 h3 x pre → h3 ≤ w.heap.size → Begun L.length pre → pre.length + d = L.length → b0 ≤ l3 → b0 ≤ w.heap.size →
    Calls Try.prog 55 #[v, x] w fun e w' => ∃ v', e = .returned v' ∧ Ints w' b0 w'.heap.size v' (bestO (cstL L) L.length d pre) ∧ Below w.heap.size w w'
  | 0, l3, h3, x, pre, w, h, hhi, hx, hh3, hb, hl, hb0, hbw => by
    obtain ⟨A, c, rfl, hc, hm⟩ := h.form
    obtain ⟨C, f, rfl, hf, hm3⟩ := hx.form
    have heq : ((pre.length : Int) == (L.length : Int)) = true := beq_t (by omega)
    have Hx := Lib.hid hx
    clear hl
    go_enter Try.func55, Try.ntmps55
    go_wp2
    go_ret
    exact ⟨_, rfl, Hx.out.wide hb0 hh3, Below.refl _ _⟩
  | d + 1, l3, h3, x, pre, w, h, hhi, hx, hh3, hb, hl, hb0, hbw => by
    have ih := bestOrder_any b0 lo hi v L hv hL5 d
    obtain ⟨A, c, rfl, hc, hm⟩ := h.form
    obtain ⟨C, f, rfl, hf, hm3⟩ := hx.form
    have heq : ((pre.length : Int) == (L.length : Int)) = false := beq_f (by omega)
    have hpl : pre.length < L.length := by omega
    have HL := Lib.hid hl
    have HIH := Lib.hid ih
    have HBG := Lib.hid hb
    have HH := Lib.hid h
    have HX := Lib.hid hx
    have HV := Lib.hid hv
    have hn0 : 0 < L.length := by omega
    have HE0 := Lib.hid (OwnI.empty w w.heap.size 3 (Nat.le_refl _)).ints
    have HB0 := Lib.hid (show Below w.heap.size w (w.alloc (.cells #[] 3)) from (Below.refl _ _).alloc (Nat.le_refl _) _)
    clear hl ih hb h hx hv
    go_enter Try.func55, Try.ntmps55
    go_wp2
    go_loopw [5, 6, 7] (fun b i _ wr => ∃ (k : Nat) (bl : List Int), k ≤ L.length ∧ i = .int .i64 k ∧ Ints wr b0 wr.heap.size b bl ∧ Below w.heap.size w wr ∧ Hid (bestO (cstL L) L.length (d + 1) pre = (restK L.length pre k).foldl (fun b x => stepO (cstL L) b (bestO (cstL L) L.length d (pre ++ [x]))) bl) ∧ Hid (bl = [] ∨ (bl.length = L.length ∧ Begun L.length bl))) (fun _ i _ _ => L.length - (intOf i).toNat)
    case atStart => exact ⟨0, [], Nat.zero_le _, rfl, HE0.out.wide hbw (Nat.le_refl _), HB0.out, rfl, .inl rfl⟩
    case round =>
      obtain ⟨k, bl, hk, rfl, hbi, hb, HE, HBL⟩ := hrel
      have hfo := hbi.form
      obtain ⟨D, g, rfl, hg, hm4⟩ := hfo
      have HBI := Lib.hid hbi
      have Hb := Lib.hid hb
      have hzr := hb.size
      clear hbi hb HE0 HB0
      by_cases hlt : k < L.length
      · have hk0 : (0 : Int) ≤ (k : Int) := by omega
        have hk1 : (k : Int) < (L.length : Int) := by omega
        have HK := Lib.hid (restK_step pre hlt)
        go_wp2_with fail
        refine (placeIn_any _ _ _ pre (k : Int) _ (HX.out.below Hb.out hh3)).mono ?_
        rintro e w1 ⟨rfl, rfl⟩
        cases hin : inL pre (k : Int)
        rotate_left
        · have hp0 : plc pre (k : Int) ≥ 0 := (plc_inL _ _).2 hin
          have HK2 := Lib.hid (show restK L.length pre k = restK L.length pre (k + 1) by rw [HK.out, hin]; rfl)
          obtain ⟨p, hp⟩ : ∃ p, p = plc pre (k : Int) := ⟨_, rfl⟩
          rw [← hp] at hp0 ⊢
          clear hin HK hp
          go_wp2
          go_roundw
          case rel => exact ⟨k + 1, bl, hlt, by go_num, HBI.out, Hb.out, by rw [← HK2.out]; exact HE.out, HBL.out⟩
          case measure => simp [intOf]; omega
        · have hp0 : ¬ plc pre (k : Int) ≥ 0 := fun h => by have := (plc_inL _ _).1 h; rw [hin] at this; cases this
          have HK2 := Lib.hid (show restK L.length pre k = (k : Int) :: restK L.length pre (k + 1) by rw [HK.out, hin]; rfl)
          have HNX := Lib.hid (HBG.out.next (x := (k : Int)) (restO_mem.2 ⟨⟨hk0, hk1⟩, hin⟩))
          obtain ⟨p, hp⟩ : ∃ p, p = plc pre (k : Int) := ⟨_, rfl⟩
          rw [← hp] at hp0 ⊢
          clear hin HK hp
          go_wp2_with fail
          refine (copyIntsK_any _ _ _ pre wr (HX.out.below Hb.out hh3) (by omega) (by omega)).mono ?_
          rintro e w2 ⟨v2, rfl, ho2, hb2⟩
          have hfo2 := ho2.form
          obtain ⟨A2, c2, rfl, _, _⟩ := hfo2
          have HO2 := Lib.hid ho2
          have HB2 := Lib.hid hb2
          have hz2 := hb2.size
          clear ho2 hb2
          go_wp2_with (at_builtin; refine wpList_appendI SlI _ rfl (.tmp 27) (.tmp 29) rfl (k : Int) wr.heap.size _ pre rfl rfl HO2.out ⟨by omega, by omega⟩ (by omega) hz2 ?_; intro v3 w3 ho3 hg3; have HO3 := Lib.hid ho3.ints; have HB3 := Lib.hid (Hb.out.trans ((HB2.out.trans hg3.below).mono hzr)); have HY3 := Lib.hid (HB2.out.trans hg3.below); clear ho3 hg3)
          have hz3 := HB3.out.size
          refine (HIH.out _ _ v3 (pre ++ [(k : Int)]) w3 (HH.out.below HB3.out hhi) (by omega) HO3.out (Nat.le_refl _) HNX.out (by have := HL.out; rw [List.length_append, List.length_singleton]; omega) (by omega) (by omega)).mono ?_
          have HOK := Lib.hid (bestK_ok (cstL L) hn0 (d := d) HNX.out (by have := HL.out; rw [List.length_append, List.length_singleton]; omega))
          have HE2 := Lib.hid (show bestO (cstL L) L.length (d + 1) pre = (restK L.length pre (k + 1)).foldl (fun b x => stepO (cstL L) b (bestO (cstL L) L.length d (pre ++ [x]))) (stepO (cstL L) bl (bestO (cstL L) L.length d (pre ++ [(k : Int)]))) by
            rw [HE.out, HK2.out, List.foldl_cons])
          obtain ⟨o, ho⟩ : ∃ o, o = bestO (cstL L) L.length d (pre ++ [(k : Int)]) := ⟨_, rfl⟩
          rw [← ho] at HOK HE2 ⊢
          clear ho HE HK2 HNX HO2 HB2 HO3
          rintro e w4 ⟨v4, rfl, ho4, hb4⟩
          have hfo4 := ho4.form
          obtain ⟨A4, c4, rfl, _, _⟩ := hfo4
          have HO4 := Lib.hid ho4
          have HB4 := Lib.hid (HB3.out.trans (hb4.mono hz3))
          have HBI4 := Lib.hid ((HBI.out.below (HY3.out.trans (hb4.mono HY3.out.size)) (Nat.le_refl _)).wide (Nat.le_refl _) (HY3.out.trans (hb4.mono HY3.out.size)).size)
          clear ho4 hb4 HY3 HBI Hb
          by_cases hbe : bl = []
          · subst hbe
            go_wp2
            go_roundw
            case rel => exact ⟨k + 1, o, hlt, by go_num, HO4.out, HB4.out, by have e : stepO (cstL L) [] o = o := if_pos (.inl rfl); rw [e] at HE2; exact HE2.out, .inr HOK.out⟩
            case measure => simp [intOf]; omega
          · have hbl0 : ((bl.length : Int) == 0) = false := beq_f (by have := List.length_pos_iff.2 hbe; omega)
            have HBL2 := Lib.hid (HBL.out.resolve_left hbe)
            have Hbe := Lib.hid hbe
            clear hbe HBL
            go_wp2_with fail
            refine (costOf_any lo hi _ _ _ _ L o w4 (HH.out.below HB4.out hhi) (by have := HB4.out.size; omega) HO4.out (Nat.le_refl _) HV.out HOK.out.2 HOK.out.1).mono ?_
            rintro e a1 ⟨rfl, ba1⟩
            have HBA1 := Lib.hid (HB4.out.trans (ba1.mono HB4.out.size))
            have HZ1 := Lib.hid ba1
            obtain ⟨x1, hx1⟩ : ∃ x, x = cstL L o := ⟨_, rfl⟩
            rw [← hx1]
            have HX1 := Lib.hid hx1
            clear hx1 ba1
            go_wp2_with fail
            refine (costOf_any lo hi _ _ _ _ L bl a1 (HH.out.below HBA1.out hhi) (by have := HBA1.out.size; omega) (HBI4.out.below HZ1.out (Nat.le_refl _)) HZ1.out.size HV.out HBL2.out.2 HBL2.out.1).mono ?_
            rintro e a2 ⟨rfl, ba2⟩
            have HBA2 := Lib.hid (HBA1.out.trans (ba2.mono HBA1.out.size))
            have HZ2 := Lib.hid (HZ1.out.trans (ba2.mono HZ1.out.size))
            obtain ⟨x2, hx2⟩ : ∃ x, x = cstL L bl := ⟨_, rfl⟩
            rw [← hx2]
            have HX2 := Lib.hid hx2
            clear hx2 ba2
            by_cases hlt2 : x1 < x2
            · have HN2 := Lib.hid (show stepO (cstL L) bl o = o from if_pos (.inr (by rw [← HX1.out, ← HX2.out]; exact hlt2)))
              go_wp2
              go_roundw
              case rel => exact ⟨k + 1, o, hlt, by go_num, (HO4.out.below HZ2.out (Nat.le_refl _)).wide (Nat.le_refl _) HZ2.out.size, HBA2.out, by rw [HN2.out] at HE2; exact HE2.out, .inr HOK.out⟩
              case measure => simp [intOf]; omega
            · have HN2 := Lib.hid (show stepO (cstL L) bl o = bl from if_neg fun h => h.elim Hbe.out fun h => hlt2 (by rw [HX1.out, HX2.out]; exact h))
              go_wp2
              go_roundw
              case rel => exact ⟨k + 1, bl, hlt, by go_num, (HBI4.out.below HZ2.out (Nat.le_refl _)).wide (Nat.le_refl _) HZ2.out.size, HBA2.out, by rw [HN2.out] at HE2; exact HE2.out, .inr HBL2.out⟩
              case measure => simp [intOf]; omega
      · have hni : ¬ (k : Int) < (L.length : Int) := by omega
        have HF := Lib.hid (show bestO (cstL L) L.length (d + 1) pre = bl by rw [HE.out, restK_end pre (by omega)]; rfl)
        go_wp2
        go_ret
        exact ⟨_, rfl, by rw [HF.out]; exact HBI.out, Hb.out⟩
set_option maxRecDepth 100000 in
set_option maxHeartbeats 2000000 in
theorem sBestOrder_any (lo hi : Nat) (v : Value) (L : List (List Int)) (w : World) (h : IRows w lo hi v L) (hhi : hi ≤ w.heap.size) :
    Calls Try.prog 19 #[v] w fun e w' => ∃ v', e = .returned v' ∧ Ints w' w.heap.size w'.heap.size v' (boL L) ∧ Below w.heap.size w w' := by
  obtain ⟨A, c, rfl, hc, hm⟩ := h.form
  have HH := Lib.hid h
  clear h
  have hnil : ∀ w1 : World, w.heap.size ≤ w1.heap.size → Ints w1 w.heap.size w1.heap.size (.slice none 0 0) [] := fun w1 hz => (OwnI.nil w1 w1.heap.size 3).ints.wide hz (Nat.le_refl _)
  go_enter Try.func19, Try.ntmps19
  go_wp2_with fail
  refine (svalidSets_any lo hi _ L w HH.out).mono ?_
  rintro e x1 ⟨rfl, q⟩
  have HQ := Lib.hid (q.below w.heap.size)
  have hzq := (q.below w.heap.size).size
  cases hv : vSets 10 L
  · have HR := Lib.hid (show boL L = [] by unfold boL; rw [if_neg fun h => by have := (vSets_five.1 h).1; rw [hv] at this; cases this])
    clear q
    go_wp2
    go_ret
    exact ⟨_, rfl, by rw [HR.out]; exact hnil _ hzq, HQ.out⟩
  · have HV := Lib.hid hv
    by_cases hl : L.length ≤ 5
    · have hl' : ¬ (5 : Int) < (L.length : Int) := by omega
      have HR := Lib.hid (show boL L = bestO (cstL L) L.length L.length [] by unfold boL; rw [if_pos (vSets_five.2 ⟨hv, hl⟩)])
      have HE0 := Lib.hid (OwnI.empty x1 x1.heap.size 3 (Nat.le_refl _)).ints
      have HB0 := Lib.hid (show Below x1.heap.size x1 (x1.alloc (.cells #[] 3)) from (Below.refl _ _).alloc (Nat.le_refl _) _)
      have HL1 := Lib.hid (HH.out.qt q)
      clear hnil hv q
      go_wp2_with fail
      refine (bestOrder_any w.heap.size lo hi _ L HV.out hl L.length _ _ _ [] _ (HL1.out.below HB0.out (by omega)) (by simp; omega) HE0.out (Nat.le_refl _) (begunK_nil _) (by simp) hzq (by simp; omega)).mono ?_
      rintro e w2 ⟨v2, rfl, ho2, hb2⟩
      have HO2 := Lib.hid ho2
      have HB2 := Lib.hid (HQ.out.trans ((HB0.out.trans (hb2.mono (by simp))).mono hzq))
      clear ho2 hb2
      go_wp2
      go_ret
      exact ⟨_, rfl, by rw [HR.out]; exact HO2.out, HB2.out⟩
    · have hl' : (5 : Int) < (L.length : Int) := by omega
      have HR := Lib.hid (show boL L = [] by unfold boL; rw [if_neg fun h => hl (vSets_five.1 h).2])
      clear q
      go_wp2
      go_ret
      exact ⟨_, rfl, by rw [HR.out]; exact hnil _ hzq, HQ.out⟩
end Go.Proofs.Yteckjiaaikdghaa
