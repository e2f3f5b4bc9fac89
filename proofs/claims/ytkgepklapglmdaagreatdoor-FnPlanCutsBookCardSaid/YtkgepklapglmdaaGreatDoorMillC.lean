/-
  Lemmas and contracts of single functions of this program, used by the proofs of its laws: what each call returns and what becomes of memory. Conditions: the hypotheses of each theorem.
-/
import Derived.Test.YtkgepklapglmdaaGreatDoorMillB
import Derived.Test.YtkgepklapglmdaaGreatDoorMReel
import Derived.Test.YtkgepklapglmdaaGreatDoorLitI
namespace Go.Proofs.YtkgepklapglmdaaGreatDoor
open Go.RowKit
attribute [local go_sem ↓] Go.wp_at_zero Go.wp_at_succ

theorem area_any (W L : Int) (A : Option Addr) (n c : Nat) (w : World) (h : 0 ≤ W * L ∧ W * L ≤ 24000) :
    Calls Tryz.prog 107 #[.agg #[.int .i64 W, .int .i64 L, .slice A n c]] w fun e w' => e = .returned (.int .i64 (W * L)) ∧ Below w.heap.size w w' := by
  have g1 : wrap64 (W * L) = W * L := w64 (by omega)
  have g2 : IntKind.i64.wrap (W * L) = W * L := IntWalk.i64_in _ (by omega)
  go_enter Tryz.func107, Tryz.ntmps107
  go_wp2
  go_ret
  exact ⟨ret_int (by first | rfl | exact g1 | exact g2), (Below.refl _ _).alloc (Nat.le_refl _) _⟩
set_option maxHeartbeats 1000000 in
theorem held_any (lo hi : Nat) (v : Value) (es : List Ent) (w : World) (h : ES w lo hi v es) (hhi : hi ≤ w.heap.size) (hl : es.length ≤ 12) (hv : ∀ k, k < es.length → vEnt (ge es k) = true) :
    Calls Tryz.prog 69 #[v] w fun e w' => e = .returned (.int .i64 (heldL es)) ∧ Below w.heap.size w w' := by
  obtain ⟨A, c, rfl, hc, hm⟩ := h.form
  have HV := Lib.hid hv
  clear hv
  go_enter Tryz.func69, Tryz.ntmps69
  go_wp2
  go_loopw [3, 4] (fun n i wr => ∃ k : Nat, k ≤ es.length ∧ i = .int .i64 k ∧ n = .int .i64 (heldL (es.take k)) ∧ Below w.heap.size w wr) (fun _ i _ => es.length - (intOf i).toNat)
  case atStart => exact ⟨0, by omega, rfl, rfl, Below.refl _ _⟩
  case round =>
    obtain ⟨k, hk, rfl, rfl, bw⟩ := hrel
    have hzr := bw.size
    by_cases hlt : k < es.length
    · obtain ⟨b, o, Ad, cd, Ap, cp, rfl, _, _, e0, e1, e2, e3, e4, _⟩ := (h.below bw hhi).cell hlt
      have hk0 : (0 : Int) ≤ (k : Int) := by omega
      have hk1 : (k : Int) < (es.length : Int) := by omega
      have har := area_rng (HV.out k hlt)
      have hr := held_rng HV.out k hk
      have HS := Lib.hid (held_succ hlt)
      obtain ⟨m, hm9⟩ : ∃ m, m = heldL (es.take k) := ⟨_, rfl⟩
      rw [← hm9] at hr HS ⊢
      clear hm9
      go_wp2_with fail
      refine (area_any _ _ _ _ _ wr har).mono ?_
      rintro e x1 ⟨rfl, bx⟩
      obtain ⟨ar, har9⟩ : ∃ ar, ar = (ge es k).W * (ge es k).L := ⟨_, rfl⟩
      rw [← har9] at har HS ⊢
      have g1 : wrap64 (m + ar) = m + ar := w64 (by omega)
      clear har9 e0 e1 e2 e3 e4
      go_wp2
      go_roundw
      case rel => exact ⟨k + 1, by omega, by go_num, by rw [HS.out], bw.trans (bx.mono (by omega))⟩
      case measure => simp [intOf]; omega
    · have He := Lib.hid (show k = es.length by omega)
      go_wp2
      go_ret
      exact ⟨ret_int (by rw [He.out, List.take_length]), bw⟩
set_option maxHeartbeats 1000000 in
theorem heldBy_any (lo hi : Nat) (v : Value) (es : List Ent) (a b z : Int) (w : World) (h : ES w lo hi v es) (hhi : hi ≤ w.heap.size) (hl : es.length ≤ 12) (hv : ∀ k, k < es.length → vEnt (ge es k) = true) :
    Calls Tryz.prog 48 #[.agg #[v, .int .i64 a, .int .i64 b, .int .i64 z]] w fun e w' => e = .returned (.int .i64 (heldL es)) ∧ Below w.heap.size w w' := by
  obtain ⟨A, c, rfl, hc, hm⟩ := h.form
  have HV := Lib.hid hv
  have hes : ∀ w1, Below w.heap.size w w1 → ES w1 lo hi (.slice A es.length c) es := fun w1 hb => h.below hb hhi
  clear hv
  have Hs := Lib.hid (show ∃ w1, w1 = (w.alloc (.cells #[.slice A es.length c, .int .i64 a, .int .i64 b, .int .i64 z] 25)) ∧ Below w.heap.size w w1 ∧ w1.cell? ⟨w.heap.size, 0, none⟩ = some (.slice A es.length c) ∧ w1.cell? ⟨w.heap.size, 1, none⟩ = some (.int .i64 a) ∧ w1.cell? ⟨w.heap.size, 2, none⟩ = some (.int .i64 b) ∧ w1.cell? ⟨w.heap.size, 3, none⟩ = some (.int .i64 z) ∧ w.heap.size < w1.heap.size from by
    have hb : Below w.heap.size w (w.alloc (.cells #[.slice A es.length c, .int .i64 a, .int .i64 b, .int .i64 z] 25)) := (Below.refl _ _).alloc (Nat.le_refl _) _
    exact ⟨_, rfl, hb, by go_simp, by go_simp, by go_simp, by go_simp, by simp⟩)
  go_enter Tryz.func48, Tryz.ntmps48
  go_wp2
  obtain ⟨w1, hw1, hb0, c00, c01, c02, c03, hz⟩ := Hs.out
  rw [← hw1]
  clear hw1 Hs
  have he1 := hes w1 hb0
  clear hes h
  go_loopw [3, 9] (fun n i wr => ∃ k : Nat, k ≤ es.length ∧ i = .int .i64 k ∧ n = .int .i64 (heldL (es.take k)) ∧ Below w1.heap.size w1 wr) (fun _ i _ => es.length - (intOf i).toNat)
  case atStart => exact ⟨0, by omega, rfl, rfl, Below.refl _ _⟩
  case round =>
    obtain ⟨k, hk, rfl, rfl, bw⟩ := hrel
    have hzr := bw.size
    by_cases hlt : k < es.length
    · obtain ⟨b, o, Ad, cd, Ap, cp, rfl, _, _, e0, e1, e2, e3, e4, _⟩ := (he1.below bw (by omega)).cell hlt
      have hk0 : (0 : Int) ≤ (k : Int) := by omega
      have hk1 : (k : Int) < (es.length : Int) := by omega
      have har := area_rng (HV.out k hlt)
      have hr := held_rng HV.out k hk
      have HS := Lib.hid (held_succ hlt)
      obtain ⟨m, hm9⟩ : ∃ m, m = heldL (es.take k) := ⟨_, rfl⟩
      rw [← hm9] at hr HS ⊢
      clear hm9
      obtain ⟨ar, har9⟩ : ∃ ar, (ge es k).W * (ge es k).L = ar := ⟨_, rfl⟩
      rw [har9] at har HS
      have g1 : wrap64 (m + ar) = m + ar := w64 (by omega)
      have g2 : wrap64 ar = ar := w64 (by omega)
      have g3 : IntKind.i64.wrap ar = ar := IntWalk.i64_in _ (by omega)
      have g4 : IntKind.i64.wrap (m + ar) = m + ar := IntWalk.i64_in _ (by omega)
      go_wp2
      go_roundw
      case rel => exact ⟨k + 1, by omega, by go_num, by rw [HS.out], bw.alloc (by omega) _⟩
      case measure => simp [intOf]; omega
    · have He := Lib.hid (show k = es.length by omega)
      go_wp2
      go_ret
      exact ⟨ret_int (by rw [He.out, List.take_length]), hb0.trans (bw.mono (by omega))⟩
set_option maxHeartbeats 1000000 in
theorem validEntry_any (lo hi : Nat) (lb W L : Int) (v u : Value) (ds ps : List (List Int)) (w : World) (h : TS w lo hi 5 v ds) (hp : TS w lo hi 4 u ps) (hhi : hi ≤ w.heap.size) :
    Calls Tryz.prog 67 #[.agg #[.int .i64 lb, .int .i64 W, .int .i64 L, v, u]] w fun e w' => e = .returned (.bool (vEnt ⟨lb, W, L, ds, ps⟩)) ∧ Below w.heap.size w w' := by
  obtain ⟨A, c, rfl, hc, hm⟩ := h.form
  obtain ⟨B, c2, rfl, hc2, hm2⟩ := hp.form
  have Hs := Lib.hid (show ∃ w1, w1 = (w.alloc (.cells #[.int .i64 lb, .int .i64 W, .int .i64 L, .slice A ds.length c, .slice B ps.length c2] 58)) ∧ Below w.heap.size w w1 ∧ w1.cell? ⟨w.heap.size, 0, none⟩ = some (.int .i64 lb) ∧ w1.cell? ⟨w.heap.size, 1, none⟩ = some (.int .i64 W) ∧ w1.cell? ⟨w.heap.size, 2, none⟩ = some (.int .i64 L) ∧ w1.cell? ⟨w.heap.size, 3, none⟩ = some (.slice A ds.length c) ∧ w1.cell? ⟨w.heap.size, 4, none⟩ = some (.slice B ps.length c2) ∧ TS w1 lo hi 5 (.slice A ds.length c) ds ∧ TS w1 lo hi 4 (.slice B ps.length c2) ps ∧ w.heap.size < w1.heap.size from by
    have hb : Below w.heap.size w (w.alloc (.cells #[.int .i64 lb, .int .i64 W, .int .i64 L, .slice A ds.length c, .slice B ps.length c2] 58)) := (Below.refl _ _).alloc (Nat.le_refl _) _
    exact ⟨_, rfl, hb, by go_simp, by go_simp, by go_simp, by go_simp, by go_simp, h.below hb hhi, hp.below hb hhi, by simp⟩)
  by_cases hr : 1 ≤ lb ∧ lb ≤ 9999
  · have r1 : inR 1 9999 lb = true := inR_mk hr
    have HE := Lib.hid (show vEnt ⟨lb, W, L, ds, ps⟩ = vCuts W L ds ps by unfold vEnt; simp [hr.1, hr.2])
    go_enter Tryz.func67, Tryz.ntmps67
    go_wp2_with (go_at_call 68; refine (inRange_any _ _ _ _).mono ?_; rintro e w' ⟨rfl, rfl⟩)
    obtain ⟨w1, hw1, hb0, c00, c01, c02, c03, c04, hT0, hT1, hz⟩ := Hs.out
    rw [← hw1]
    clear hw1 Hs
    refine (validCuts_any lo hi lo hi W L _ _ ds ps w1 hT0 (by omega) hT1 (by omega)).mono ?_
    rintro e x1 ⟨rfl, bx⟩
    go_wp2
    go_ret
    exact ⟨ret_bool (by first | (rw [HE.out]; done) | (rw [HE.out]; simp)), hb0.trans (bx.mono (by omega))⟩
  · have r1 : inR 1 9999 lb = false := inR_no hr
    have HE := Lib.hid (show vEnt ⟨lb, W, L, ds, ps⟩ = false by
      cases hv : vEnt ⟨lb, W, L, ds, ps⟩
      · rfl
      · have := vEnt_iff.1 hv; exact absurd ⟨this.1, this.2.1⟩ hr)
    go_enter Tryz.func67, Tryz.ntmps67
    go_wp2_with (go_at_call 68; refine (inRange_any _ _ _ _).mono ?_; rintro e w' ⟨rfl, rfl⟩)
    obtain ⟨w1, hw1, hb0, c00, c01, c02, c03, c04, hT0, hT1, hz⟩ := Hs.out
    rw [← hw1]
    clear hw1 Hs
    go_ret
    exact ⟨ret_bool (by rw [HE.out]), hb0⟩
set_option maxRecDepth 100000 in
set_option maxHeartbeats 4000000 in
theorem validMill_any (lo hi : Nat) (v : Value) (es : List Ent) (a b z : Int) (w : World) (h : ES w lo hi v es) (hhi : hi ≤ w.heap.size) (hin : I64 b ∧ I64 z) :
    Calls Tryz.prog 33 #[.agg #[v, .int .i64 a, .int .i64 b, .int .i64 z]] w fun e w' => e = .returned (.bool (vMill es a b z)) ∧ Below w.heap.size w w' := by
  obtain ⟨A, c, rfl, hc, hm⟩ := h.form
  have hes : ∀ w1, Below w.heap.size w w1 → ES w1 lo hi (.slice A es.length c) es := fun w1 hb => h.below hb hhi
  have Hs := Lib.hid (show ∃ w1, w1 = (w.alloc (.cells #[.slice A es.length c, .int .i64 a, .int .i64 b, .int .i64 z] 25)) ∧ Below w.heap.size w w1 ∧ w1.cell? ⟨w.heap.size, 0, none⟩ = some (.slice A es.length c) ∧ w1.cell? ⟨w.heap.size, 1, none⟩ = some (.int .i64 a) ∧ w1.cell? ⟨w.heap.size, 2, none⟩ = some (.int .i64 b) ∧ w1.cell? ⟨w.heap.size, 3, none⟩ = some (.int .i64 z) ∧ w.heap.size < w1.heap.size from by
    have hb : Below w.heap.size w (w.alloc (.cells #[.slice A es.length c, .int .i64 a, .int .i64 b, .int .i64 z] 25)) := (Below.refl _ _).alloc (Nat.le_refl _) _
    exact ⟨_, rfl, hb, by go_simp, by go_simp, by go_simp, by go_simp, by simp⟩)
  go_enter Tryz.func33, Tryz.ntmps33
  go_wp2
  obtain ⟨w1, hw1, hb0, c00, c01, c02, c03, hz⟩ := Hs.out
  rw [← hw1]
  clear hw1 Hs
  have he1 := hes w1 hb0
  clear hes h
  go_loopw [3] (fun i wr => ∃ k : Nat, k ≤ es.length ∧ i = .int .i64 k ∧ Below w1.heap.size w1 wr ∧ Hid (∀ j, j < k → vEnt (ge es j) = true ∧ ascE es j = true)) (fun i _ => es.length - (intOf i).toNat)
  case atStart => exact ⟨0, by omega, rfl, Below.refl _ _, fun j hj => absurd hj (by omega)⟩
  case round =>
    obtain ⟨k, hk, rfl, bw, HJ⟩ := hrel
    have hzr := bw.size
    replace c00 := keepB bw c00; replace c01 := keepB bw c01; replace c02 := keepB bw c02; replace c03 := keepB bw c03
    by_cases hlt : k < es.length
    · have hre := he1.below bw (by omega)
      obtain ⟨b9, o, Ad, cd, Ap, cp, rfl, _, _, e0, e1, e2, e3, e4, hd, hp, _⟩ := hre.cell hlt
      have hk0 : (0 : Int) ≤ (k : Int) := by omega
      have hk1 : (k : Int) < (es.length : Int) := by omega
      have Hd := Lib.hid hd
      have Hp := Lib.hid hp
      have HVE := Lib.hid (show vEnt ⟨(ge es k).lb, (ge es k).W, (ge es k).L, (ge es k).ds, (ge es k).ps⟩ = vEnt (ge es k) from rfl)
      clear hd hp
      cases hve : vEnt (ge es k)
      · have Hno := Lib.hid (vMill_ent (a := a) (b := b) (c := z) hlt (.inl hve))
        have HVE2 := Lib.hid (HVE.out.trans hve)
        clear hve hre
        go_wp2
        refine wp_region_held_drew (S := fun w' => w'.cell? ⟨w.heap.size, 0, none⟩ = some (.slice (some ⟨b9, o, none⟩) es.length c) ∧ w'.cell? ⟨b9, o + k * 5, none⟩ = some (.int .i64 (ge es k).lb) ∧ w'.cell? ⟨b9, o + k * 5 + 1, none⟩ = some (.int .i64 (ge es k).W) ∧ w'.cell? ⟨b9, o + k * 5 + 2, none⟩ = some (.int .i64 (ge es k).L) ∧ w'.cell? ⟨b9, o + k * 5 + 3, none⟩ = some (.slice Ad (ge es k).ds.length cd) ∧ w'.cell? ⟨b9, o + k * 5 + 4, none⟩ = some (.slice Ap (ge es k).ps.length cp)) (by kernel_rfl) ?_ (fun hHeld => ?_)
        · (first | (try dsimp only); go_keep | (go_split_ands; refine ⟨?_, ?_, ?_, ?_, ?_, ?_⟩ <;> first | exact keepB bx1 (by assumption) | assumption))
        refine tkW 0 11 rfl rfl (by kernel_rfl) hHeld (by intro w hSw; (try dsimp only at hSw); go_simp; try with_reducible rfl) ?_ (fun _ _ _ h => h)
        simp only [Act.put, lyA, lyB, lyC]
        refine tkW 1 12 rfl rfl (by kernel_rfl) hHeld (by intro w hSw; (try dsimp only at hSw); go_simp; try with_reducible rfl) ?_ (fun _ _ _ h => h)
        simp only [Act.put, lyA, lyB, lyC]
        refine tkW 2 13 rfl rfl (by kernel_rfl) hHeld (by intro w hSw; (try dsimp only at hSw); go_simp; try with_reducible rfl) ?_ (fun _ _ _ h => h)
        simp only [Act.put, lyA, lyB, lyC]
        refine tkW 3 14 rfl rfl (by kernel_rfl) hHeld (by intro w hSw; (try dsimp only at hSw); go_simp; try with_reducible rfl) ?_ (fun _ _ _ h => h)
        simp only [Act.put, lyA, lyB, lyC]
        refine tkW 4 15 rfl rfl (by kernel_rfl) hHeld (by intro w hSw; (try dsimp only at hSw); go_simp; try with_reducible rfl) ?_ (fun _ _ _ h => h)
        simp only [Act.put, lyA, lyB, lyC]
        refine wpAnyH_ready (rs := [5]) (by kernel_rfl) (by simp) ?_
        refine AllReadyH.cons (o := ⟨some 16, _, _, _, _, _⟩) rfl (fun K hK => ?_) AllReadyH.nil
        go_simp
        go_at_call 67
        refine (validEntry_any lo hi _ _ _ _ _ _ _ _ (Hd.out.drewN 1) (Hp.out.drewN 1) (by simp; omega)).mono ?_
        rw [HVE2.out]
        rintro e x1 ⟨rfl, bx1⟩
        go_wp2_with fail
        refine hK.out _ _ ?_ (fun hHeld2 => ?_)
        · (first | (try dsimp only); go_keep | (go_split_ands; refine ⟨?_, ?_, ?_, ?_, ?_, ?_⟩ <;> first | exact keepB bx1 (by assumption) | assumption))
        clear hK K hHeld
        have hHeld := hHeld2
        clear hHeld2
        try simp only [Act.put, lyA, lyB, lyC]
        refine tkW 6 17 rfl rfl (by kernel_rfl) hHeld (by intro w hSw; (try dsimp only at hSw); go_simp; try with_reducible rfl) ?_ (fun _ _ _ h => h)
        simp only [Act.put, lyA, lyB, lyC]
        refine tkW 7 18 rfl rfl (by kernel_rfl) hHeld (by intro w hSw; (try dsimp only at hSw); go_simp; try with_reducible rfl) ?_ (fun _ _ _ h => h)
        simp only [Act.put, lyA, lyB, lyC]
        refine wpAnyH_take (i := 8) (oi := ⟨some 19, _, _, _, _, _⟩) (v := undef) rfl (by kernel_rfl) (by kernel_rfl) (by kernel_rfl) (fun _ _ _ h => h) (Or.inr ⟨by kernel_rfl, rfl⟩) (by assumption) ?_
        simp only [Act.put, lyA, lyB, lyC]
        refine wpAnyH_take (i := 9) (oi := ⟨some 20, _, _, _, _, _⟩) (v := undef) rfl (by kernel_rfl) (by kernel_rfl) (by kernel_rfl) (fun _ _ _ h => h) (Or.inr ⟨by kernel_rfl, rfl⟩) (by assumption) ?_
        simp only [Act.put, lyA, lyB, lyC]
        refine wpAnyH_take (i := 10) (oi := ⟨some 21, _, _, _, _, _⟩) (v := undef) rfl (by kernel_rfl) (by kernel_rfl) (by kernel_rfl) (fun _ _ _ h => h) (Or.inr ⟨by kernel_rfl, rfl⟩) (by assumption) ?_
        simp only [Act.put, lyA, lyB, lyC]
        refine wpAnyH_take (i := 11) (oi := ⟨some 22, _, _, _, _, _⟩) (v := undef) rfl (by kernel_rfl) (by kernel_rfl) (by kernel_rfl) (fun _ _ _ h => h) (Or.inr ⟨by kernel_rfl, rfl⟩) (by assumption) ?_
        simp only [Act.put, lyA, lyB, lyC]
        refine wpAnyH_take (i := 12) (oi := ⟨some 23, _, _, _, _, _⟩) (v := undef) rfl (by kernel_rfl) (by kernel_rfl) (by kernel_rfl) (fun _ _ _ h => h) (Or.inr ⟨by kernel_rfl, rfl⟩) (by assumption) ?_
        simp only [Act.put, lyA, lyB, lyC]
        refine wpAnyH_take (i := 13) (oi := ⟨some 24, _, _, _, _, _⟩) (v := undef) rfl (by kernel_rfl) (by kernel_rfl) (by kernel_rfl) (fun _ _ _ h => h) (Or.inr ⟨by kernel_rfl, rfl⟩) (by assumption) ?_
        simp only [Act.put, lyA, lyB, lyC]
        refine wpAnyH_take (i := 14) (oi := ⟨some 25, _, _, _, _, _⟩) (v := undef) rfl (by kernel_rfl) (by kernel_rfl) (by kernel_rfl) (fun _ _ _ h => h) (Or.inr ⟨by kernel_rfl, rfl⟩) (by assumption) ?_
        simp only [Act.put, lyA, lyB, lyC]
        refine wpAnyH_take (i := 15) (oi := ⟨some 26, _, _, _, _, _⟩) (v := undef) rfl (by kernel_rfl) (by kernel_rfl) (by kernel_rfl) (fun _ _ _ h => h) (Or.inr ⟨by kernel_rfl, rfl⟩) (by assumption) ?_
        simp only [Act.put, lyA, lyB, lyC]
        refine wpAnyH_take (i := 16) (oi := ⟨some 27, _, _, _, _, _⟩) (v := undef) rfl (by kernel_rfl) (by kernel_rfl) (by kernel_rfl) (fun _ _ _ h => h) (Or.inr ⟨by kernel_rfl, rfl⟩) (by assumption) ?_
        simp only [Act.put, lyA, lyB, lyC]
        refine wpAnyH_take (i := 17) (oi := ⟨some 28, _, _, _, _, _⟩) (v := undef) rfl (by kernel_rfl) (by kernel_rfl) (by kernel_rfl) (fun _ _ _ h => h) (Or.inr ⟨by kernel_rfl, rfl⟩) (by assumption) ?_
        simp only [Act.put, lyA, lyB, lyC]
        refine wpAnyH_take (i := 18) (oi := ⟨some 29, _, _, _, _, _⟩) (v := undef) rfl (by kernel_rfl) (by kernel_rfl) (by kernel_rfl) (fun _ _ _ h => h) (Or.inr ⟨by kernel_rfl, rfl⟩) (by assumption) ?_
        simp only [Act.put, lyA, lyB, lyC]
        refine wpAnyH_take (i := 19) (oi := ⟨some 30, _, _, _, _, _⟩) (v := undef) rfl (by kernel_rfl) (by kernel_rfl) (by kernel_rfl) (fun _ _ _ h => h) (Or.inr ⟨by kernel_rfl, rfl⟩) (by assumption) ?_
        simp only [Act.put, lyA, lyB, lyC]
        refine wpAnyH_take (i := 20) (oi := ⟨some 31, _, _, _, _, _⟩) (v := undef) rfl (by kernel_rfl) (by kernel_rfl) (by kernel_rfl) (fun _ _ _ h => h) (Or.inr ⟨by kernel_rfl, rfl⟩) (by assumption) ?_
        simp only [Act.put, lyA, lyB, lyC]
        refine wpAnyH_take (i := 21) (oi := ⟨some 32, _, _, _, _, _⟩) (v := undef) rfl (by kernel_rfl) (by kernel_rfl) (by kernel_rfl) (fun _ _ _ h => h) (Or.inr ⟨by kernel_rfl, rfl⟩) (by assumption) ?_
        simp only [Act.put, lyA, lyB, lyC]
        refine wpAnyH_take (i := 22) (oi := ⟨some 33, _, _, _, _, _⟩) (v := undef) rfl (by kernel_rfl) (by kernel_rfl) (by kernel_rfl) (fun _ _ _ h => h) (Or.inr ⟨by kernel_rfl, rfl⟩) (by assumption) ?_
        simp only [Act.put, lyA, lyB, lyC]
        refine wpAnyH_take (i := 23) (oi := ⟨some 34, _, _, _, _, _⟩) (v := undef) rfl (by kernel_rfl) (by kernel_rfl) (by kernel_rfl) (fun _ _ _ h => h) (Or.inr ⟨by kernel_rfl, rfl⟩) (by assumption) ?_
        simp only [Act.put, lyA, lyB, lyC]
        refine wpAnyH_take (i := 24) (oi := ⟨some 35, _, _, _, _, _⟩) (v := undef) rfl (by kernel_rfl) (by kernel_rfl) (by kernel_rfl) (fun _ _ _ h => h) (Or.inr ⟨by kernel_rfl, rfl⟩) (by assumption) ?_
        simp only [Act.put, lyA, lyB, lyC]
        refine wpAnyH_take (i := 25) (oi := ⟨some 36, _, _, _, _, _⟩) (v := undef) rfl (by kernel_rfl) (by kernel_rfl) (by kernel_rfl) (fun _ _ _ h => h) (Or.inr ⟨by kernel_rfl, rfl⟩) (by assumption) ?_
        simp only [Act.put, lyA, lyB, lyC]
        refine tkW 26 37 rfl rfl (by kernel_rfl) hHeld (by intro w hSw; (try dsimp only at hSw); go_simp; try with_reducible rfl) ?_ (fun _ _ _ h => h)
        simp only [Act.put, lyA, lyB, lyC]
        refine wpAnyH_done (by kernel_rfl) ?_ _
        go_wp2
        go_ret
        exact ⟨ret_bool (by rw [Hno.out]), hb0.trans ((bw.trans ((of_drew bx1).mono hzr)).mono (by omega))⟩
      · have HVE2 := Lib.hid (HVE.out.trans hve)
        have Hve := Lib.hid hve
        clear hve
        by_cases hk9 : k = 0
        · have hng : decide ((0 : Int) < (k : Int)) = false := decide_eq_false (by omega)
          have hng2 : decide (0 < k) = false := decide_eq_false (by omega)
          have HJ2 : Hid (∀ j, j < k + 1 → vEnt (ge es j) = true ∧ ascE es j = true) := fun j hj => by
            have : j = k := by omega
            subst this
            exact ⟨Hve.out, by unfold ascE; rw [decide_eq_true hk9]; rfl⟩
          clear hre hk9
          go_wp2
          refine wp_region_held_drew (S := fun w' => w'.cell? ⟨w.heap.size, 0, none⟩ = some (.slice (some ⟨b9, o, none⟩) es.length c) ∧ w'.cell? ⟨b9, o + k * 5, none⟩ = some (.int .i64 (ge es k).lb) ∧ w'.cell? ⟨b9, o + k * 5 + 1, none⟩ = some (.int .i64 (ge es k).W) ∧ w'.cell? ⟨b9, o + k * 5 + 2, none⟩ = some (.int .i64 (ge es k).L) ∧ w'.cell? ⟨b9, o + k * 5 + 3, none⟩ = some (.slice Ad (ge es k).ds.length cd) ∧ w'.cell? ⟨b9, o + k * 5 + 4, none⟩ = some (.slice Ap (ge es k).ps.length cp)) (by kernel_rfl) ?_ (fun hHeld => ?_)
          · (first | (try dsimp only); go_keep | (go_split_ands; refine ⟨?_, ?_, ?_, ?_, ?_, ?_⟩ <;> first | exact keepB bx1 (by assumption) | assumption))
          refine tkW 0 11 rfl rfl (by kernel_rfl) hHeld (by intro w hSw; (try dsimp only at hSw); go_simp; try with_reducible rfl) ?_ (fun _ _ _ h => h)
          simp only [Act.put, lyA, lyB, lyC]
          refine tkW 1 12 rfl rfl (by kernel_rfl) hHeld (by intro w hSw; (try dsimp only at hSw); go_simp; try with_reducible rfl) ?_ (fun _ _ _ h => h)
          simp only [Act.put, lyA, lyB, lyC]
          refine tkW 2 13 rfl rfl (by kernel_rfl) hHeld (by intro w hSw; (try dsimp only at hSw); go_simp; try with_reducible rfl) ?_ (fun _ _ _ h => h)
          simp only [Act.put, lyA, lyB, lyC]
          refine tkW 3 14 rfl rfl (by kernel_rfl) hHeld (by intro w hSw; (try dsimp only at hSw); go_simp; try with_reducible rfl) ?_ (fun _ _ _ h => h)
          simp only [Act.put, lyA, lyB, lyC]
          refine tkW 4 15 rfl rfl (by kernel_rfl) hHeld (by intro w hSw; (try dsimp only at hSw); go_simp; try with_reducible rfl) ?_ (fun _ _ _ h => h)
          simp only [Act.put, lyA, lyB, lyC]
          refine wpAnyH_ready (rs := [5]) (by kernel_rfl) (by simp) ?_
          refine AllReadyH.cons (o := ⟨some 16, _, _, _, _, _⟩) rfl (fun K hK => ?_) AllReadyH.nil
          go_simp
          go_at_call 67
          refine (validEntry_any lo hi _ _ _ _ _ _ _ _ (Hd.out.drewN 1) (Hp.out.drewN 1) (by simp; omega)).mono ?_
          rw [HVE2.out]
          rintro e x1 ⟨rfl, bx1⟩
          go_wp2_with fail
          refine hK.out _ _ ?_ (fun hHeld2 => ?_)
          · (first | (try dsimp only); go_keep | (go_split_ands; refine ⟨?_, ?_, ?_, ?_, ?_, ?_⟩ <;> first | exact keepB bx1 (by assumption) | assumption))
          clear hK K hHeld
          have hHeld := hHeld2
          clear hHeld2
          try simp only [Act.put, lyA, lyB, lyC]
          refine tkW 6 17 rfl rfl (by kernel_rfl) hHeld (by intro w hSw; (try dsimp only at hSw); go_simp; try with_reducible rfl) ?_ (fun _ _ _ h => h)
          simp only [Act.put, lyA, lyB, lyC]
          refine tkW 7 18 rfl rfl (by kernel_rfl) hHeld (by intro w hSw; (try dsimp only at hSw); go_simp; try with_reducible rfl) ?_ (fun _ _ _ h => h)
          simp only [Act.put, lyA, lyB, lyC]
          refine tkW 8 19 rfl rfl (by kernel_rfl) hHeld (by intro w hSw; (try dsimp only at hSw); go_simp; try with_reducible rfl) ?_ (fun _ _ _ h => h)
          simp only [Act.put, lyA, lyB, lyC]
          refine tkW 9 20 rfl rfl (by kernel_rfl) hHeld (by intro w hSw; (try dsimp only at hSw); go_simp; try with_reducible rfl) ?_ (fun _ _ _ h => h)
          simp only [Act.put, lyA, lyB, lyC]
          refine tkW 10 21 rfl rfl (by kernel_rfl) hHeld (by intro w hSw; (try dsimp only at hSw); go_simp; try with_reducible rfl) ?_ (fun _ _ _ h => h)
          simp only [Act.put, lyA, lyB, lyC]
          refine wpAnyH_take (i := 11) (oi := ⟨some 22, _, _, _, _, _⟩) (v := undef) rfl (by kernel_rfl) (by kernel_rfl) (by kernel_rfl) (fun _ _ _ h => h) (Or.inr ⟨by kernel_rfl, rfl⟩) (by assumption) ?_
          simp only [Act.put, lyA, lyB, lyC]
          refine wpAnyH_take (i := 12) (oi := ⟨some 23, _, _, _, _, _⟩) (v := undef) rfl (by kernel_rfl) (by kernel_rfl) (by kernel_rfl) (fun _ _ _ h => h) (Or.inr ⟨by kernel_rfl, rfl⟩) (by assumption) ?_
          simp only [Act.put, lyA, lyB, lyC]
          refine wpAnyH_take (i := 13) (oi := ⟨some 24, _, _, _, _, _⟩) (v := undef) rfl (by kernel_rfl) (by kernel_rfl) (by kernel_rfl) (fun _ _ _ h => h) (Or.inr ⟨by kernel_rfl, rfl⟩) (by assumption) ?_
          simp only [Act.put, lyA, lyB, lyC]
          refine wpAnyH_take (i := 14) (oi := ⟨some 25, _, _, _, _, _⟩) (v := undef) rfl (by kernel_rfl) (by kernel_rfl) (by kernel_rfl) (fun _ _ _ h => h) (Or.inr ⟨by kernel_rfl, rfl⟩) (by assumption) ?_
          simp only [Act.put, lyA, lyB, lyC]
          refine wpAnyH_take (i := 15) (oi := ⟨some 26, _, _, _, _, _⟩) (v := undef) rfl (by kernel_rfl) (by kernel_rfl) (by kernel_rfl) (fun _ _ _ h => h) (Or.inr ⟨by kernel_rfl, rfl⟩) (by assumption) ?_
          simp only [Act.put, lyA, lyB, lyC]
          refine wpAnyH_take (i := 16) (oi := ⟨some 27, _, _, _, _, _⟩) (v := undef) rfl (by kernel_rfl) (by kernel_rfl) (by kernel_rfl) (fun _ _ _ h => h) (Or.inr ⟨by kernel_rfl, rfl⟩) (by assumption) ?_
          simp only [Act.put, lyA, lyB, lyC]
          refine wpAnyH_take (i := 17) (oi := ⟨some 28, _, _, _, _, _⟩) (v := undef) rfl (by kernel_rfl) (by kernel_rfl) (by kernel_rfl) (fun _ _ _ h => h) (Or.inr ⟨by kernel_rfl, rfl⟩) (by assumption) ?_
          simp only [Act.put, lyA, lyB, lyC]
          refine wpAnyH_take (i := 18) (oi := ⟨some 29, _, _, _, _, _⟩) (v := undef) rfl (by kernel_rfl) (by kernel_rfl) (by kernel_rfl) (fun _ _ _ h => h) (Or.inr ⟨by kernel_rfl, rfl⟩) (by assumption) ?_
          simp only [Act.put, lyA, lyB, lyC]
          refine wpAnyH_take (i := 19) (oi := ⟨some 30, _, _, _, _, _⟩) (v := undef) rfl (by kernel_rfl) (by kernel_rfl) (by kernel_rfl) (fun _ _ _ h => h) (Or.inr ⟨by kernel_rfl, rfl⟩) (by assumption) ?_
          simp only [Act.put, lyA, lyB, lyC]
          refine wpAnyH_take (i := 20) (oi := ⟨some 31, _, _, _, _, _⟩) (v := undef) rfl (by kernel_rfl) (by kernel_rfl) (by kernel_rfl) (fun _ _ _ h => h) (Or.inr ⟨by kernel_rfl, rfl⟩) (by assumption) ?_
          simp only [Act.put, lyA, lyB, lyC]
          refine wpAnyH_take (i := 21) (oi := ⟨some 32, _, _, _, _, _⟩) (v := undef) rfl (by kernel_rfl) (by kernel_rfl) (by kernel_rfl) (fun _ _ _ h => h) (Or.inr ⟨by kernel_rfl, rfl⟩) (by assumption) ?_
          simp only [Act.put, lyA, lyB, lyC]
          refine wpAnyH_take (i := 22) (oi := ⟨some 33, _, _, _, _, _⟩) (v := undef) rfl (by kernel_rfl) (by kernel_rfl) (by kernel_rfl) (fun _ _ _ h => h) (Or.inr ⟨by kernel_rfl, rfl⟩) (by assumption) ?_
          simp only [Act.put, lyA, lyB, lyC]
          refine wpAnyH_take (i := 23) (oi := ⟨some 34, _, _, _, _, _⟩) (v := undef) rfl (by kernel_rfl) (by kernel_rfl) (by kernel_rfl) (fun _ _ _ h => h) (Or.inr ⟨by kernel_rfl, rfl⟩) (by assumption) ?_
          simp only [Act.put, lyA, lyB, lyC]
          refine wpAnyH_take (i := 24) (oi := ⟨some 35, _, _, _, _, _⟩) (v := undef) rfl (by kernel_rfl) (by kernel_rfl) (by kernel_rfl) (fun _ _ _ h => h) (Or.inr ⟨by kernel_rfl, rfl⟩) (by assumption) ?_
          simp only [Act.put, lyA, lyB, lyC]
          refine tkW 25 36 rfl rfl (by kernel_rfl) hHeld (by intro w hSw; (try dsimp only at hSw); go_simp; try with_reducible rfl) ?_ (fun _ _ _ h => h)
          simp only [Act.put, lyA, lyB, lyC]
          refine tkW 26 37 rfl rfl (by kernel_rfl) hHeld (by intro w hSw; (try dsimp only at hSw); go_simp; try with_reducible rfl) ?_ (fun _ _ _ h => h)
          simp only [Act.put, lyA, lyB, lyC]
          refine wpAnyH_done (by kernel_rfl) ?_ _
          have bd9 := of_drew bx1
          go_wp2
          clear hng hng2
          go_roundw
          case rel => exact ⟨k + 1, by omega, by go_num, bw.trans (bd9.mono (by omega)), HJ2⟩
          case measure => simp [intOf]; omega
        · have hg0 : 0 < k := by omega
          obtain ⟨j, hj⟩ : ∃ j, j + 1 = k := ⟨k - 1, by omega⟩
          have q0 := hre.lbl (k := j) (by omega)
          have g1 : IntKind.i64.wrap ((k : Int) - 1) = (j : Int) := by rw [show (k : Int) - 1 = (j : Int) by omega]; exact IntWalk.i64_in _ (by omega)
          have g2 : wrap64 ((k : Int) - 1) = (j : Int) := by rw [show (k : Int) - 1 = (j : Int) by omega]; exact w64 (by omega)
          have hj0 : (0 : Int) ≤ (j : Int) := by omega
          have hj1 : (j : Int) < (es.length : Int) := by omega
          have HA := Lib.hid (show ascE es k = decide ((ge es j).lb < (ge es k).lb) by unfold ascE; rw [decide_eq_false hk9, Bool.false_or, show k - 1 = j by omega])
          have Hjk := Lib.hid hj
          clear hre hk9 hj
          by_cases hle : (ge es k).lb ≤ (ge es j).lb
          · have Hno := Lib.hid (vMill_ent (a := a) (b := b) (c := z) hlt (.inr (by rw [HA.out]; exact decide_eq_false (by omega))))
            go_wp2
            refine wp_region_held_drew (S := fun w' => w'.cell? ⟨w.heap.size, 0, none⟩ = some (.slice (some ⟨b9, o, none⟩) es.length c) ∧ w'.cell? ⟨b9, o + k * 5, none⟩ = some (.int .i64 (ge es k).lb) ∧ w'.cell? ⟨b9, o + k * 5 + 1, none⟩ = some (.int .i64 (ge es k).W) ∧ w'.cell? ⟨b9, o + k * 5 + 2, none⟩ = some (.int .i64 (ge es k).L) ∧ w'.cell? ⟨b9, o + k * 5 + 3, none⟩ = some (.slice Ad (ge es k).ds.length cd) ∧ w'.cell? ⟨b9, o + k * 5 + 4, none⟩ = some (.slice Ap (ge es k).ps.length cp) ∧ w'.cell? ⟨b9, o + j * 5, none⟩ = some (.int .i64 ((ge es j).lb))) (by kernel_rfl) ?_ (fun hHeld => ?_)
            · (first | (try dsimp only); go_keep | (go_split_ands; refine ⟨?_, ?_, ?_, ?_, ?_, ?_, ?_⟩ <;> first | exact keepB bx1 (by assumption) | assumption))
            refine tkW 0 11 rfl rfl (by kernel_rfl) hHeld (by intro w hSw; (try dsimp only at hSw); go_simp; try with_reducible rfl) ?_ (fun _ _ _ h => h)
            simp only [Act.put, lyA, lyB, lyC]
            refine tkW 1 12 rfl rfl (by kernel_rfl) hHeld (by intro w hSw; (try dsimp only at hSw); go_simp; try with_reducible rfl) ?_ (fun _ _ _ h => h)
            simp only [Act.put, lyA, lyB, lyC]
            refine tkW 2 13 rfl rfl (by kernel_rfl) hHeld (by intro w hSw; (try dsimp only at hSw); go_simp; try with_reducible rfl) ?_ (fun _ _ _ h => h)
            simp only [Act.put, lyA, lyB, lyC]
            refine tkW 3 14 rfl rfl (by kernel_rfl) hHeld (by intro w hSw; (try dsimp only at hSw); go_simp; try with_reducible rfl) ?_ (fun _ _ _ h => h)
            simp only [Act.put, lyA, lyB, lyC]
            refine tkW 4 15 rfl rfl (by kernel_rfl) hHeld (by intro w hSw; (try dsimp only at hSw); go_simp; try with_reducible rfl) ?_ (fun _ _ _ h => h)
            simp only [Act.put, lyA, lyB, lyC]
            refine wpAnyH_ready (rs := [5]) (by kernel_rfl) (by simp) ?_
            refine AllReadyH.cons (o := ⟨some 16, _, _, _, _, _⟩) rfl (fun K hK => ?_) AllReadyH.nil
            go_simp
            go_at_call 67
            refine (validEntry_any lo hi _ _ _ _ _ _ _ _ (Hd.out.drewN 1) (Hp.out.drewN 1) (by simp; omega)).mono ?_
            rw [HVE2.out]
            rintro e x1 ⟨rfl, bx1⟩
            go_wp2_with fail
            refine hK.out _ _ ?_ (fun hHeld2 => ?_)
            · (first | (try dsimp only); go_keep | (go_split_ands; refine ⟨?_, ?_, ?_, ?_, ?_, ?_, ?_⟩ <;> first | exact keepB bx1 (by assumption) | assumption))
            clear hK K hHeld
            have hHeld := hHeld2
            clear hHeld2
            try simp only [Act.put, lyA, lyB, lyC]
            refine tkW 6 17 rfl rfl (by kernel_rfl) hHeld (by intro w hSw; (try dsimp only at hSw); go_simp; try with_reducible rfl) ?_ (fun _ _ _ h => h)
            simp only [Act.put, lyA, lyB, lyC]
            refine tkW 7 18 rfl rfl (by kernel_rfl) hHeld (by intro w hSw; (try dsimp only at hSw); go_simp; try with_reducible rfl) ?_ (fun _ _ _ h => h)
            simp only [Act.put, lyA, lyB, lyC]
            refine tkW 8 19 rfl rfl (by kernel_rfl) hHeld (by intro w hSw; (try dsimp only at hSw); go_simp; try with_reducible rfl) ?_ (fun _ _ _ h => h)
            simp only [Act.put, lyA, lyB, lyC]
            refine tkW 9 20 rfl rfl (by kernel_rfl) hHeld (by intro w hSw; (try dsimp only at hSw); go_simp; try with_reducible rfl) ?_ (fun _ _ _ h => h)
            simp only [Act.put, lyA, lyB, lyC]
            refine tkW 10 21 rfl rfl (by kernel_rfl) hHeld (by intro w hSw; (try dsimp only at hSw); go_simp; try with_reducible rfl) ?_ (fun _ _ _ h => h)
            simp only [Act.put, lyA, lyB, lyC]
            refine tkW 11 22 rfl rfl (by kernel_rfl) hHeld (by intro w hSw; (try dsimp only at hSw); go_simp; try with_reducible rfl) ?_ (fun _ _ _ h => h)
            simp only [Act.put, lyA, lyB, lyC]
            refine tkW 12 23 rfl rfl (by kernel_rfl) hHeld (by intro w hSw; (try dsimp only at hSw); go_simp; try with_reducible rfl) ?_ (fun _ _ _ h => h)
            simp only [Act.put, lyA, lyB, lyC]
            refine tkW 13 24 rfl rfl (by kernel_rfl) hHeld (by intro w hSw; (try dsimp only at hSw); go_simp; try with_reducible rfl) ?_ (fun _ _ _ h => h)
            simp only [Act.put, lyA, lyB, lyC]
            refine tkW 14 25 rfl rfl (by kernel_rfl) hHeld (by intro w hSw; (try dsimp only at hSw); go_simp; try with_reducible rfl) ?_ (fun _ _ _ h => h)
            simp only [Act.put, lyA, lyB, lyC]
            refine tkW 15 26 rfl rfl (by kernel_rfl) hHeld (by intro w hSw; (try dsimp only at hSw); go_simp; try with_reducible rfl) ?_ (fun _ _ _ h => h)
            simp only [Act.put, lyA, lyB, lyC]
            refine tkW 16 27 rfl rfl (by kernel_rfl) hHeld (by intro w hSw; (try dsimp only at hSw); go_simp; try with_reducible rfl) ?_ (fun _ _ _ h => h)
            simp only [Act.put, lyA, lyB, lyC]
            refine tkW 17 28 rfl rfl (by kernel_rfl) hHeld (by intro w hSw; (try dsimp only at hSw); go_simp; try with_reducible rfl) ?_ (fun _ _ _ h => h)
            simp only [Act.put, lyA, lyB, lyC]
            refine tkW 18 29 rfl rfl (by kernel_rfl) hHeld (by intro w hSw; (try dsimp only at hSw); go_simp; try with_reducible rfl) ?_ (fun _ _ _ h => h)
            simp only [Act.put, lyA, lyB, lyC]
            refine tkW 19 30 rfl rfl (by kernel_rfl) hHeld (by intro w hSw; (try dsimp only at hSw); go_simp; try with_reducible rfl) ?_ (fun _ _ _ h => h)
            simp only [Act.put, lyA, lyB, lyC]
            refine tkW 20 31 rfl rfl (by kernel_rfl) hHeld (by intro w hSw; (try dsimp only at hSw); go_simp; try with_reducible rfl) ?_ (fun _ _ _ h => h)
            simp only [Act.put, lyA, lyB, lyC]
            refine tkW 21 32 rfl rfl (by kernel_rfl) hHeld (by intro w hSw; (try dsimp only at hSw); go_simp; try with_reducible rfl) ?_ (fun _ _ _ h => h)
            simp only [Act.put, lyA, lyB, lyC]
            refine tkW 22 33 rfl rfl (by kernel_rfl) hHeld (by intro w hSw; (try dsimp only at hSw); go_simp; try with_reducible rfl) ?_ (fun _ _ _ h => h)
            simp only [Act.put, lyA, lyB, lyC]
            refine tkW 23 34 rfl rfl (by kernel_rfl) hHeld (by intro w hSw; (try dsimp only at hSw); go_simp; try with_reducible rfl) ?_ (fun _ _ _ h => h)
            simp only [Act.put, lyA, lyB, lyC]
            refine tkW 24 35 rfl rfl (by kernel_rfl) hHeld (by intro w hSw; (try dsimp only at hSw); go_simp; try with_reducible rfl) ?_ (fun _ _ _ h => h)
            simp only [Act.put, lyA, lyB, lyC]
            refine tkW 25 36 rfl rfl (by kernel_rfl) hHeld (by intro w hSw; (try dsimp only at hSw); go_simp; try with_reducible rfl) ?_ (fun _ _ _ h => h)
            simp only [Act.put, lyA, lyB, lyC]
            refine tkW 26 37 rfl rfl (by kernel_rfl) hHeld (by intro w hSw; (try dsimp only at hSw); go_simp; try with_reducible rfl) ?_ (fun _ _ _ h => h)
            simp only [Act.put, lyA, lyB, lyC]
            refine wpAnyH_done (by kernel_rfl) ?_ _
            go_wp2
            go_ret
            exact ⟨ret_bool (by rw [Hno.out]), hb0.trans ((bw.trans ((of_drew bx1).mono hzr)).mono (by omega))⟩
          · have HJ2 : Hid (∀ j, j < k + 1 → vEnt (ge es j) = true ∧ ascE es j = true) := fun i hi => by
              by_cases hik : i = k
              · subst hik; exact ⟨Hve.out, by rw [HA.out]; exact decide_eq_true (by omega)⟩
              · exact HJ.out i (by omega)
            go_wp2
            refine wp_region_held_drew (S := fun w' => w'.cell? ⟨w.heap.size, 0, none⟩ = some (.slice (some ⟨b9, o, none⟩) es.length c) ∧ w'.cell? ⟨b9, o + k * 5, none⟩ = some (.int .i64 (ge es k).lb) ∧ w'.cell? ⟨b9, o + k * 5 + 1, none⟩ = some (.int .i64 (ge es k).W) ∧ w'.cell? ⟨b9, o + k * 5 + 2, none⟩ = some (.int .i64 (ge es k).L) ∧ w'.cell? ⟨b9, o + k * 5 + 3, none⟩ = some (.slice Ad (ge es k).ds.length cd) ∧ w'.cell? ⟨b9, o + k * 5 + 4, none⟩ = some (.slice Ap (ge es k).ps.length cp) ∧ w'.cell? ⟨b9, o + j * 5, none⟩ = some (.int .i64 ((ge es j).lb))) (by kernel_rfl) ?_ (fun hHeld => ?_)
            · (first | (try dsimp only); go_keep | (go_split_ands; refine ⟨?_, ?_, ?_, ?_, ?_, ?_, ?_⟩ <;> first | exact keepB bx1 (by assumption) | assumption))
            refine tkW 0 11 rfl rfl (by kernel_rfl) hHeld (by intro w hSw; (try dsimp only at hSw); go_simp; try with_reducible rfl) ?_ (fun _ _ _ h => h)
            simp only [Act.put, lyA, lyB, lyC]
            refine tkW 1 12 rfl rfl (by kernel_rfl) hHeld (by intro w hSw; (try dsimp only at hSw); go_simp; try with_reducible rfl) ?_ (fun _ _ _ h => h)
            simp only [Act.put, lyA, lyB, lyC]
            refine tkW 2 13 rfl rfl (by kernel_rfl) hHeld (by intro w hSw; (try dsimp only at hSw); go_simp; try with_reducible rfl) ?_ (fun _ _ _ h => h)
            simp only [Act.put, lyA, lyB, lyC]
            refine tkW 3 14 rfl rfl (by kernel_rfl) hHeld (by intro w hSw; (try dsimp only at hSw); go_simp; try with_reducible rfl) ?_ (fun _ _ _ h => h)
            simp only [Act.put, lyA, lyB, lyC]
            refine tkW 4 15 rfl rfl (by kernel_rfl) hHeld (by intro w hSw; (try dsimp only at hSw); go_simp; try with_reducible rfl) ?_ (fun _ _ _ h => h)
            simp only [Act.put, lyA, lyB, lyC]
            refine wpAnyH_ready (rs := [5]) (by kernel_rfl) (by simp) ?_
            refine AllReadyH.cons (o := ⟨some 16, _, _, _, _, _⟩) rfl (fun K hK => ?_) AllReadyH.nil
            go_simp
            go_at_call 67
            refine (validEntry_any lo hi _ _ _ _ _ _ _ _ (Hd.out.drewN 1) (Hp.out.drewN 1) (by simp; omega)).mono ?_
            rw [HVE2.out]
            rintro e x1 ⟨rfl, bx1⟩
            go_wp2_with fail
            refine hK.out _ _ ?_ (fun hHeld2 => ?_)
            · (first | (try dsimp only); go_keep | (go_split_ands; refine ⟨?_, ?_, ?_, ?_, ?_, ?_, ?_⟩ <;> first | exact keepB bx1 (by assumption) | assumption))
            clear hK K hHeld
            have hHeld := hHeld2
            clear hHeld2
            try simp only [Act.put, lyA, lyB, lyC]
            refine tkW 6 17 rfl rfl (by kernel_rfl) hHeld (by intro w hSw; (try dsimp only at hSw); go_simp; try with_reducible rfl) ?_ (fun _ _ _ h => h)
            simp only [Act.put, lyA, lyB, lyC]
            refine tkW 7 18 rfl rfl (by kernel_rfl) hHeld (by intro w hSw; (try dsimp only at hSw); go_simp; try with_reducible rfl) ?_ (fun _ _ _ h => h)
            simp only [Act.put, lyA, lyB, lyC]
            refine tkW 8 19 rfl rfl (by kernel_rfl) hHeld (by intro w hSw; (try dsimp only at hSw); go_simp; try with_reducible rfl) ?_ (fun _ _ _ h => h)
            simp only [Act.put, lyA, lyB, lyC]
            refine tkW 9 20 rfl rfl (by kernel_rfl) hHeld (by intro w hSw; (try dsimp only at hSw); go_simp; try with_reducible rfl) ?_ (fun _ _ _ h => h)
            simp only [Act.put, lyA, lyB, lyC]
            refine tkW 10 21 rfl rfl (by kernel_rfl) hHeld (by intro w hSw; (try dsimp only at hSw); go_simp; try with_reducible rfl) ?_ (fun _ _ _ h => h)
            simp only [Act.put, lyA, lyB, lyC]
            refine tkW 11 22 rfl rfl (by kernel_rfl) hHeld (by intro w hSw; (try dsimp only at hSw); go_simp; try with_reducible rfl) ?_ (fun _ _ _ h => h)
            simp only [Act.put, lyA, lyB, lyC]
            refine tkW 12 23 rfl rfl (by kernel_rfl) hHeld (by intro w hSw; (try dsimp only at hSw); go_simp; try with_reducible rfl) ?_ (fun _ _ _ h => h)
            simp only [Act.put, lyA, lyB, lyC]
            refine tkW 13 24 rfl rfl (by kernel_rfl) hHeld (by intro w hSw; (try dsimp only at hSw); go_simp; try with_reducible rfl) ?_ (fun _ _ _ h => h)
            simp only [Act.put, lyA, lyB, lyC]
            refine tkW 14 25 rfl rfl (by kernel_rfl) hHeld (by intro w hSw; (try dsimp only at hSw); go_simp; try with_reducible rfl) ?_ (fun _ _ _ h => h)
            simp only [Act.put, lyA, lyB, lyC]
            refine tkW 15 26 rfl rfl (by kernel_rfl) hHeld (by intro w hSw; (try dsimp only at hSw); go_simp; try with_reducible rfl) ?_ (fun _ _ _ h => h)
            simp only [Act.put, lyA, lyB, lyC]
            refine tkW 16 27 rfl rfl (by kernel_rfl) hHeld (by intro w hSw; (try dsimp only at hSw); go_simp; try with_reducible rfl) ?_ (fun _ _ _ h => h)
            simp only [Act.put, lyA, lyB, lyC]
            refine tkW 17 28 rfl rfl (by kernel_rfl) hHeld (by intro w hSw; (try dsimp only at hSw); go_simp; try with_reducible rfl) ?_ (fun _ _ _ h => h)
            simp only [Act.put, lyA, lyB, lyC]
            refine tkW 18 29 rfl rfl (by kernel_rfl) hHeld (by intro w hSw; (try dsimp only at hSw); go_simp; try with_reducible rfl) ?_ (fun _ _ _ h => h)
            simp only [Act.put, lyA, lyB, lyC]
            refine tkW 19 30 rfl rfl (by kernel_rfl) hHeld (by intro w hSw; (try dsimp only at hSw); go_simp; try with_reducible rfl) ?_ (fun _ _ _ h => h)
            simp only [Act.put, lyA, lyB, lyC]
            refine tkW 20 31 rfl rfl (by kernel_rfl) hHeld (by intro w hSw; (try dsimp only at hSw); go_simp; try with_reducible rfl) ?_ (fun _ _ _ h => h)
            simp only [Act.put, lyA, lyB, lyC]
            refine tkW 21 32 rfl rfl (by kernel_rfl) hHeld (by intro w hSw; (try dsimp only at hSw); go_simp; try with_reducible rfl) ?_ (fun _ _ _ h => h)
            simp only [Act.put, lyA, lyB, lyC]
            refine tkW 22 33 rfl rfl (by kernel_rfl) hHeld (by intro w hSw; (try dsimp only at hSw); go_simp; try with_reducible rfl) ?_ (fun _ _ _ h => h)
            simp only [Act.put, lyA, lyB, lyC]
            refine tkW 23 34 rfl rfl (by kernel_rfl) hHeld (by intro w hSw; (try dsimp only at hSw); go_simp; try with_reducible rfl) ?_ (fun _ _ _ h => h)
            simp only [Act.put, lyA, lyB, lyC]
            refine tkW 24 35 rfl rfl (by kernel_rfl) hHeld (by intro w hSw; (try dsimp only at hSw); go_simp; try with_reducible rfl) ?_ (fun _ _ _ h => h)
            simp only [Act.put, lyA, lyB, lyC]
            refine tkW 25 36 rfl rfl (by kernel_rfl) hHeld (by intro w hSw; (try dsimp only at hSw); go_simp; try with_reducible rfl) ?_ (fun _ _ _ h => h)
            simp only [Act.put, lyA, lyB, lyC]
            refine tkW 26 37 rfl rfl (by kernel_rfl) hHeld (by intro w hSw; (try dsimp only at hSw); go_simp; try with_reducible rfl) ?_ (fun _ _ _ h => h)
            simp only [Act.put, lyA, lyB, lyC]
            refine wpAnyH_done (by kernel_rfl) ?_ _
            have bd9 := of_drew bx1
            clear g1 g2 q0 e0 e1 e2 e3 e4 hg0
            go_wp2
            go_roundw
            case rel => exact ⟨k + 1, by omega, by go_num, bw.trans (bd9.mono (by omega)), HJ2⟩
            case measure => simp [intOf]; omega
    · have HE := Lib.hid (show ∀ j, j < es.length → vEnt (ge es j) = true ∧ ascE es j = true from fun j hj => HJ.out j (by omega))
      have HER := Lib.hid (he1.below bw (by omega))
      by_cases hl : es.length ≤ 12
      · have hl12 : decide ((es.length : Int) ≤ 12) = true := decide_eq_true (by omega)
        by_cases ha : 0 ≤ a ∧ a ≤ 900000
        · have r1 : inR 0 900000 a = true := inR_mk ha
          by_cases hb9 : 0 ≤ b ∧ b ≤ 900000
          · have r2 : inR 0 900000 b = true := inR_mk hb9
            by_cases hz9 : 0 ≤ z ∧ z ≤ 900000
            · have r3 : inR 0 900000 z = true := inR_mk hz9
              have hr := held_rng (fun k hk => (HE.out k hk).1) es.length (Nat.le_refl _)
              rw [List.take_length] at hr
              have HM := Lib.hid (show vMill es a b z = (heldL es + b + z == a) by
                rw [Bool.eq_iff_iff, vMill_iff, beq_iff_eq]
                exact ⟨fun h => h.2.2.2.2.2, fun h => ⟨HE.out, hl, ha, hb9, hz9, h⟩⟩)
              obtain ⟨hd9, hhd⟩ : ∃ q, q = heldL es := ⟨_, rfl⟩
              rw [← hhd] at hr HM
              have HH := Lib.hid hhd
              clear hhd
              have g1 : IntKind.i64.wrap (hd9 + b) = hd9 + b := IntWalk.i64_in _ (by omega)
              have g2 : IntKind.i64.wrap (hd9 + b + z) = hd9 + b + z := IntWalk.i64_in _ (by omega)
              have g3 : wrap64 (hd9 + b) = hd9 + b := w64 (by omega)
              have g4 : wrap64 (hd9 + b + z) = hd9 + b + z := w64 (by omega)
              go_wp2
              refine wp_region_held_drew (S := fun w' => w'.cell? ⟨w.heap.size, 0, none⟩ = some (.slice A es.length c) ∧ w'.cell? ⟨w.heap.size, 1, none⟩ = some (.int .i64 a) ∧ w'.cell? ⟨w.heap.size, 2, none⟩ = some (.int .i64 b) ∧ w'.cell? ⟨w.heap.size, 3, none⟩ = some (.int .i64 z)) (by kernel_rfl) ?_ (fun hHeld => ?_)
              · (first | (try dsimp only); go_keep | (go_split_ands; refine ⟨?_, ?_, ?_, ?_⟩ <;> first | exact keepB bx1 (by assumption) | assumption))
              refine tkW 0 38 rfl rfl (by kernel_rfl) hHeld (by intro w hSw; (try dsimp only at hSw); go_simp; try with_reducible rfl) ?_ (fun _ _ _ h => h)
              simp only [Act.put, lyA, lyB, lyC]
              refine tkW 1 39 rfl rfl (by kernel_rfl) hHeld (by intro w hSw; (try dsimp only at hSw); go_simp; try with_reducible rfl) ?_ (fun _ _ _ h => h)
              simp only [Act.put, lyA, lyB, lyC]
              refine tkW 2 40 rfl rfl (by kernel_rfl) hHeld (by intro w hSw; (try dsimp only at hSw); go_simp; try with_reducible rfl) ?_ (fun _ _ _ h => h)
              simp only [Act.put, lyA, lyB, lyC]
              refine tkW 3 41 rfl rfl (by kernel_rfl) hHeld (by intro w hSw; (try dsimp only at hSw); go_simp; try with_reducible rfl) ?_ (fun _ _ _ h => h)
              simp only [Act.put, lyA, lyB, lyC]
              refine tkW 4 42 rfl rfl (by kernel_rfl) hHeld (by intro w hSw; (try dsimp only at hSw); go_simp; try with_reducible rfl) ?_ (fun _ _ _ h => h)
              simp only [Act.put, lyA, lyB, lyC]
              refine tkW 5 43 rfl rfl (by kernel_rfl) hHeld (by intro w hSw; (try dsimp only at hSw); go_simp; try with_reducible rfl) ?_ (fun _ _ _ h => h)
              simp only [Act.put, lyA, lyB, lyC]
              refine tkW 6 44 rfl rfl (by kernel_rfl) hHeld (by intro w hSw; (try dsimp only at hSw); go_simp; try with_reducible rfl) ?_ (fun _ _ _ h => h)
              simp only [Act.put, lyA, lyB, lyC]
              refine wpAnyH_ready (rs := [7]) (by kernel_rfl) (by simp) ?_
              refine AllReadyH.cons (o := ⟨some 45, _, _, _, _, _⟩) rfl (fun K hK => ?_) AllReadyH.nil
              go_simp
              go_at_call 68
              refine (inRange_any _ _ _ _).mono ?_
              rintro e y1 ⟨rfl, rfl⟩
              go_wp2_with fail
              refine hK.out _ _ ?_ (fun hHeld2 => ?_)
              · (first | (try dsimp only); go_keep | (go_split_ands; refine ⟨?_, ?_, ?_, ?_⟩ <;> first | exact keepB bx1 (by assumption) | assumption))
              clear hK K hHeld
              have hHeld := hHeld2
              clear hHeld2
              try simp only [Act.put, lyA, lyB, lyC]
              refine tkW 8 46 rfl rfl (by kernel_rfl) hHeld (by intro w hSw; (try dsimp only at hSw); go_simp; try with_reducible rfl) ?_ (fun _ _ _ h => h)
              simp only [Act.put, lyA, lyB, lyC]
              refine tkW 9 47 rfl rfl (by kernel_rfl) hHeld (by intro w hSw; (try dsimp only at hSw); go_simp; try with_reducible rfl) ?_ (fun _ _ _ h => h)
              simp only [Act.put, lyA, lyB, lyC]
              refine tkW 10 48 rfl rfl (by kernel_rfl) hHeld (by intro w hSw; (try dsimp only at hSw); go_simp; try with_reducible rfl) ?_ (fun _ _ _ h => h)
              simp only [Act.put, lyA, lyB, lyC]
              refine tkW 11 49 rfl rfl (by kernel_rfl) hHeld (by intro w hSw; (try dsimp only at hSw); go_simp; try with_reducible rfl) ?_ (fun _ _ _ h => h)
              simp only [Act.put, lyA, lyB, lyC]
              refine wpAnyH_ready (rs := [12]) (by kernel_rfl) (by simp) ?_
              refine AllReadyH.cons (o := ⟨some 50, _, _, _, _, _⟩) rfl (fun K hK => ?_) AllReadyH.nil
              go_simp
              go_at_call 68
              refine (inRange_any _ _ _ _).mono ?_
              rintro e y2 ⟨rfl, rfl⟩
              go_wp2_with fail
              refine hK.out _ _ ?_ (fun hHeld2 => ?_)
              · (first | (try dsimp only); go_keep | (go_split_ands; refine ⟨?_, ?_, ?_, ?_⟩ <;> first | exact keepB bx1 (by assumption) | assumption))
              clear hK K hHeld
              have hHeld := hHeld2
              clear hHeld2
              try simp only [Act.put, lyA, lyB, lyC]
              refine tkW 13 51 rfl rfl (by kernel_rfl) hHeld (by intro w hSw; (try dsimp only at hSw); go_simp; try with_reducible rfl) ?_ (fun _ _ _ h => h)
              simp only [Act.put, lyA, lyB, lyC]
              refine tkW 14 52 rfl rfl (by kernel_rfl) hHeld (by intro w hSw; (try dsimp only at hSw); go_simp; try with_reducible rfl) ?_ (fun _ _ _ h => h)
              simp only [Act.put, lyA, lyB, lyC]
              refine tkW 15 53 rfl rfl (by kernel_rfl) hHeld (by intro w hSw; (try dsimp only at hSw); go_simp; try with_reducible rfl) ?_ (fun _ _ _ h => h)
              simp only [Act.put, lyA, lyB, lyC]
              refine tkW 16 54 rfl rfl (by kernel_rfl) hHeld (by intro w hSw; (try dsimp only at hSw); go_simp; try with_reducible rfl) ?_ (fun _ _ _ h => h)
              simp only [Act.put, lyA, lyB, lyC]
              refine wpAnyH_ready (rs := [17]) (by kernel_rfl) (by simp) ?_
              refine AllReadyH.cons (o := ⟨some 55, _, _, _, _, _⟩) rfl (fun K hK => ?_) AllReadyH.nil
              go_simp
              go_at_call 68
              refine (inRange_any _ _ _ _).mono ?_
              rintro e y3 ⟨rfl, rfl⟩
              go_wp2_with fail
              refine hK.out _ _ ?_ (fun hHeld2 => ?_)
              · (first | (try dsimp only); go_keep | (go_split_ands; refine ⟨?_, ?_, ?_, ?_⟩ <;> first | exact keepB bx1 (by assumption) | assumption))
              clear hK K hHeld
              have hHeld := hHeld2
              clear hHeld2
              try simp only [Act.put, lyA, lyB, lyC]
              refine tkW 18 56 rfl rfl (by kernel_rfl) hHeld (by intro w hSw; (try dsimp only at hSw); go_simp; try with_reducible rfl) ?_ (fun _ _ _ h => h)
              simp only [Act.put, lyA, lyB, lyC]
              refine tkW 19 57 rfl rfl (by kernel_rfl) hHeld (by intro w hSw; (try dsimp only at hSw); go_simp; try with_reducible rfl) ?_ (fun _ _ _ h => h)
              simp only [Act.put, lyA, lyB, lyC]
              refine tkW 20 58 rfl rfl (by kernel_rfl) hHeld (by intro w hSw; (try dsimp only at hSw); go_simp; try with_reducible rfl) ?_ (fun _ _ _ h => h)
              simp only [Act.put, lyA, lyB, lyC]
              refine tkW 21 59 rfl rfl (by kernel_rfl) hHeld (by intro w hSw; (try dsimp only at hSw); go_simp; try with_reducible rfl) ?_ (fun _ _ _ h => h)
              simp only [Act.put, lyA, lyB, lyC]
              refine tkW 23 61 rfl rfl (by kernel_rfl) hHeld (by intro w hSw; (try dsimp only at hSw); go_simp; try with_reducible rfl) ?_ (fun _ _ _ h => h)
              simp only [Act.put, lyA, lyB, lyC]
              refine tkW 24 62 rfl rfl (by kernel_rfl) hHeld (by intro w hSw; (try dsimp only at hSw); go_simp; try with_reducible rfl) ?_ (fun _ _ _ h => h)
              simp only [Act.put, lyA, lyB, lyC]
              refine tkW 26 64 rfl rfl (by kernel_rfl) hHeld (by intro w hSw; (try dsimp only at hSw); go_simp; try with_reducible rfl) ?_ (fun _ _ _ h => h)
              simp only [Act.put, lyA, lyB, lyC]
              refine tkW 27 65 rfl rfl (by kernel_rfl) hHeld (by intro w hSw; (try dsimp only at hSw); go_simp; try with_reducible rfl) ?_ (fun _ _ _ h => h)
              simp only [Act.put, lyA, lyB, lyC]
              refine tkW 29 67 rfl rfl (by kernel_rfl) hHeld (by intro w hSw; (try dsimp only at hSw); go_simp; try with_reducible rfl) ?_ (fun _ _ _ h => h)
              simp only [Act.put, lyA, lyB, lyC]
              refine tkW 30 68 rfl rfl (by kernel_rfl) hHeld (by intro w hSw; (try dsimp only at hSw); go_simp; try with_reducible rfl) ?_ (fun _ _ _ h => h)
              simp only [Act.put, lyA, lyB, lyC]
              refine wpAnyH_ready (rs := [22]) (by kernel_rfl) (by simp) ?_
              refine AllReadyH.cons (o := ⟨some 60, _, _, _, _, _⟩) rfl (fun K hK => ?_) AllReadyH.nil
              go_simp
              go_at_call 69
              refine (held_any lo hi _ es _ (HER.out.drewN 1) (by simp; omega) hl (fun k hk => (HE.out k hk).1)).mono ?_
              rw [← HH.out]
              rintro e x4 ⟨rfl, bx1⟩
              go_wp2_with fail
              refine hK.out _ _ ?_ (fun hHeld2 => ?_)
              · (first | (try dsimp only); go_keep | (go_split_ands; refine ⟨?_, ?_, ?_, ?_⟩ <;> first | exact keepB bx1 (by assumption) | assumption))
              clear hK K hHeld
              have hHeld := hHeld2
              clear hHeld2
              try simp only [Act.put, lyA, lyB, lyC]
              refine tkW 25 63 rfl rfl (by kernel_rfl) hHeld (by intro w hSw; (try dsimp only at hSw); go_simp; try with_reducible rfl) ?_ (fun _ _ _ h => h)
              simp only [Act.put, lyA, lyB, lyC]
              refine tkW 28 66 rfl rfl (by kernel_rfl) hHeld (by intro w hSw; (try dsimp only at hSw); go_simp; try with_reducible rfl) ?_ (fun _ _ _ h => h)
              simp only [Act.put, lyA, lyB, lyC]
              refine tkW 31 69 rfl rfl (by kernel_rfl) hHeld (by intro w hSw; (try dsimp only at hSw); go_simp; try with_reducible rfl) ?_ (fun _ _ _ h => h)
              simp only [Act.put, lyA, lyB, lyC]
              refine tkW 32 70 rfl rfl (by kernel_rfl) hHeld (by intro w hSw; (try dsimp only at hSw); go_simp; try with_reducible rfl) ?_ (fun _ _ _ h => h)
              simp only [Act.put, lyA, lyB, lyC]
              refine tkW 33 2 rfl rfl (by kernel_rfl) hHeld (by intro w hSw; (try dsimp only at hSw); go_simp; try with_reducible rfl) ?_ (fun _ _ _ h => h)
              simp only [Act.put, lyA, lyB, lyC]
              refine wpAnyH_done (by kernel_rfl) ?_ _
              go_wp2
              go_ret
              exact ⟨ret_bool (by rw [HM.out]), hb0.trans ((bw.trans ((of_drew bx1).mono hzr)).mono (by omega))⟩
            · have r3 : inR 0 900000 z = false := inR_no hz9
              have Hno := Lib.hid (vMill_no (es := es) (a := a) (b := b) (c := z) fun hh => hz9 hh.2.2.2.2.1)
              go_wp2
              refine wp_region_held_drew (S := fun w' => w'.cell? ⟨w.heap.size, 0, none⟩ = some (.slice A es.length c) ∧ w'.cell? ⟨w.heap.size, 1, none⟩ = some (.int .i64 a) ∧ w'.cell? ⟨w.heap.size, 2, none⟩ = some (.int .i64 b) ∧ w'.cell? ⟨w.heap.size, 3, none⟩ = some (.int .i64 z)) (by kernel_rfl) ?_ (fun hHeld => ?_)
              · (first | (try dsimp only); go_keep | (go_split_ands; refine ⟨?_, ?_, ?_, ?_⟩ <;> first | exact keepB bx1 (by assumption) | assumption))
              refine tkW 0 38 rfl rfl (by kernel_rfl) hHeld (by intro w hSw; (try dsimp only at hSw); go_simp; try with_reducible rfl) ?_ (fun _ _ _ h => h)
              simp only [Act.put, lyA, lyB, lyC]
              refine tkW 1 39 rfl rfl (by kernel_rfl) hHeld (by intro w hSw; (try dsimp only at hSw); go_simp; try with_reducible rfl) ?_ (fun _ _ _ h => h)
              simp only [Act.put, lyA, lyB, lyC]
              refine tkW 2 40 rfl rfl (by kernel_rfl) hHeld (by intro w hSw; (try dsimp only at hSw); go_simp; try with_reducible rfl) ?_ (fun _ _ _ h => h)
              simp only [Act.put, lyA, lyB, lyC]
              refine tkW 3 41 rfl rfl (by kernel_rfl) hHeld (by intro w hSw; (try dsimp only at hSw); go_simp; try with_reducible rfl) ?_ (fun _ _ _ h => h)
              simp only [Act.put, lyA, lyB, lyC]
              refine tkW 4 42 rfl rfl (by kernel_rfl) hHeld (by intro w hSw; (try dsimp only at hSw); go_simp; try with_reducible rfl) ?_ (fun _ _ _ h => h)
              simp only [Act.put, lyA, lyB, lyC]
              refine tkW 5 43 rfl rfl (by kernel_rfl) hHeld (by intro w hSw; (try dsimp only at hSw); go_simp; try with_reducible rfl) ?_ (fun _ _ _ h => h)
              simp only [Act.put, lyA, lyB, lyC]
              refine tkW 6 44 rfl rfl (by kernel_rfl) hHeld (by intro w hSw; (try dsimp only at hSw); go_simp; try with_reducible rfl) ?_ (fun _ _ _ h => h)
              simp only [Act.put, lyA, lyB, lyC]
              refine wpAnyH_ready (rs := [7]) (by kernel_rfl) (by simp) ?_
              refine AllReadyH.cons (o := ⟨some 45, _, _, _, _, _⟩) rfl (fun K hK => ?_) AllReadyH.nil
              go_simp
              go_at_call 68
              refine (inRange_any _ _ _ _).mono ?_
              rintro e y1 ⟨rfl, rfl⟩
              go_wp2_with fail
              refine hK.out _ _ ?_ (fun hHeld2 => ?_)
              · (first | (try dsimp only); go_keep | (go_split_ands; refine ⟨?_, ?_, ?_, ?_⟩ <;> first | exact keepB bx1 (by assumption) | assumption))
              clear hK K hHeld
              have hHeld := hHeld2
              clear hHeld2
              try simp only [Act.put, lyA, lyB, lyC]
              refine tkW 8 46 rfl rfl (by kernel_rfl) hHeld (by intro w hSw; (try dsimp only at hSw); go_simp; try with_reducible rfl) ?_ (fun _ _ _ h => h)
              simp only [Act.put, lyA, lyB, lyC]
              refine tkW 9 47 rfl rfl (by kernel_rfl) hHeld (by intro w hSw; (try dsimp only at hSw); go_simp; try with_reducible rfl) ?_ (fun _ _ _ h => h)
              simp only [Act.put, lyA, lyB, lyC]
              refine tkW 10 48 rfl rfl (by kernel_rfl) hHeld (by intro w hSw; (try dsimp only at hSw); go_simp; try with_reducible rfl) ?_ (fun _ _ _ h => h)
              simp only [Act.put, lyA, lyB, lyC]
              refine tkW 11 49 rfl rfl (by kernel_rfl) hHeld (by intro w hSw; (try dsimp only at hSw); go_simp; try with_reducible rfl) ?_ (fun _ _ _ h => h)
              simp only [Act.put, lyA, lyB, lyC]
              refine wpAnyH_ready (rs := [12]) (by kernel_rfl) (by simp) ?_
              refine AllReadyH.cons (o := ⟨some 50, _, _, _, _, _⟩) rfl (fun K hK => ?_) AllReadyH.nil
              go_simp
              go_at_call 68
              refine (inRange_any _ _ _ _).mono ?_
              rintro e y2 ⟨rfl, rfl⟩
              go_wp2_with fail
              refine hK.out _ _ ?_ (fun hHeld2 => ?_)
              · (first | (try dsimp only); go_keep | (go_split_ands; refine ⟨?_, ?_, ?_, ?_⟩ <;> first | exact keepB bx1 (by assumption) | assumption))
              clear hK K hHeld
              have hHeld := hHeld2
              clear hHeld2
              try simp only [Act.put, lyA, lyB, lyC]
              refine tkW 13 51 rfl rfl (by kernel_rfl) hHeld (by intro w hSw; (try dsimp only at hSw); go_simp; try with_reducible rfl) ?_ (fun _ _ _ h => h)
              simp only [Act.put, lyA, lyB, lyC]
              refine tkW 14 52 rfl rfl (by kernel_rfl) hHeld (by intro w hSw; (try dsimp only at hSw); go_simp; try with_reducible rfl) ?_ (fun _ _ _ h => h)
              simp only [Act.put, lyA, lyB, lyC]
              refine tkW 15 53 rfl rfl (by kernel_rfl) hHeld (by intro w hSw; (try dsimp only at hSw); go_simp; try with_reducible rfl) ?_ (fun _ _ _ h => h)
              simp only [Act.put, lyA, lyB, lyC]
              refine tkW 16 54 rfl rfl (by kernel_rfl) hHeld (by intro w hSw; (try dsimp only at hSw); go_simp; try with_reducible rfl) ?_ (fun _ _ _ h => h)
              simp only [Act.put, lyA, lyB, lyC]
              refine wpAnyH_ready (rs := [17]) (by kernel_rfl) (by simp) ?_
              refine AllReadyH.cons (o := ⟨some 55, _, _, _, _, _⟩) rfl (fun K hK => ?_) AllReadyH.nil
              go_simp
              go_at_call 68
              refine (inRange_any _ _ _ _).mono ?_
              rintro e y3 ⟨rfl, rfl⟩
              go_wp2_with fail
              refine hK.out _ _ ?_ (fun hHeld2 => ?_)
              · (first | (try dsimp only); go_keep | (go_split_ands; refine ⟨?_, ?_, ?_, ?_⟩ <;> first | exact keepB bx1 (by assumption) | assumption))
              clear hK K hHeld
              have hHeld := hHeld2
              clear hHeld2
              try simp only [Act.put, lyA, lyB, lyC]
              refine tkW 18 56 rfl rfl (by kernel_rfl) hHeld (by intro w hSw; (try dsimp only at hSw); go_simp; try with_reducible rfl) ?_ (fun _ _ _ h => h)
              simp only [Act.put, lyA, lyB, lyC]
              refine tkW 19 57 rfl rfl (by kernel_rfl) hHeld (by intro w hSw; (try dsimp only at hSw); go_simp; try with_reducible rfl) ?_ (fun _ _ _ h => h)
              simp only [Act.put, lyA, lyB, lyC]
              refine wpAnyH_take (i := 20) (oi := ⟨some 58, _, _, _, _, _⟩) (v := undef) rfl (by kernel_rfl) (by kernel_rfl) (by kernel_rfl) (fun _ _ _ h => h) (Or.inr ⟨by kernel_rfl, rfl⟩) (by assumption) ?_
              simp only [Act.put, lyA, lyB, lyC]
              refine wpAnyH_take (i := 21) (oi := ⟨some 59, _, _, _, _, _⟩) (v := undef) rfl (by kernel_rfl) (by kernel_rfl) (by kernel_rfl) (fun _ _ _ h => h) (Or.inr ⟨by kernel_rfl, rfl⟩) (by assumption) ?_
              simp only [Act.put, lyA, lyB, lyC]
              refine wpAnyH_take (i := 22) (oi := ⟨some 60, _, _, _, _, _⟩) (v := undef) rfl (by kernel_rfl) (by kernel_rfl) (by kernel_rfl) (fun _ _ _ h => h) (Or.inr ⟨by kernel_rfl, rfl⟩) (by assumption) ?_
              simp only [Act.put, lyA, lyB, lyC]
              refine wpAnyH_take (i := 23) (oi := ⟨some 61, _, _, _, _, _⟩) (v := undef) rfl (by kernel_rfl) (by kernel_rfl) (by kernel_rfl) (fun _ _ _ h => h) (Or.inr ⟨by kernel_rfl, rfl⟩) (by assumption) ?_
              simp only [Act.put, lyA, lyB, lyC]
              refine wpAnyH_take (i := 24) (oi := ⟨some 62, _, _, _, _, _⟩) (v := undef) rfl (by kernel_rfl) (by kernel_rfl) (by kernel_rfl) (fun _ _ _ h => h) (Or.inr ⟨by kernel_rfl, rfl⟩) (by assumption) ?_
              simp only [Act.put, lyA, lyB, lyC]
              refine wpAnyH_take (i := 25) (oi := ⟨some 63, _, _, _, _, _⟩) (v := undef) rfl (by kernel_rfl) (by kernel_rfl) (by kernel_rfl) (fun _ _ _ h => h) (Or.inr ⟨by kernel_rfl, rfl⟩) (by assumption) ?_
              simp only [Act.put, lyA, lyB, lyC]
              refine wpAnyH_take (i := 26) (oi := ⟨some 64, _, _, _, _, _⟩) (v := undef) rfl (by kernel_rfl) (by kernel_rfl) (by kernel_rfl) (fun _ _ _ h => h) (Or.inr ⟨by kernel_rfl, rfl⟩) (by assumption) ?_
              simp only [Act.put, lyA, lyB, lyC]
              refine wpAnyH_take (i := 27) (oi := ⟨some 65, _, _, _, _, _⟩) (v := undef) rfl (by kernel_rfl) (by kernel_rfl) (by kernel_rfl) (fun _ _ _ h => h) (Or.inr ⟨by kernel_rfl, rfl⟩) (by assumption) ?_
              simp only [Act.put, lyA, lyB, lyC]
              refine wpAnyH_take (i := 28) (oi := ⟨some 66, _, _, _, _, _⟩) (v := undef) rfl (by kernel_rfl) (by kernel_rfl) (by kernel_rfl) (fun _ _ _ h => h) (Or.inr ⟨by kernel_rfl, rfl⟩) (by assumption) ?_
              simp only [Act.put, lyA, lyB, lyC]
              refine wpAnyH_take (i := 29) (oi := ⟨some 67, _, _, _, _, _⟩) (v := undef) rfl (by kernel_rfl) (by kernel_rfl) (by kernel_rfl) (fun _ _ _ h => h) (Or.inr ⟨by kernel_rfl, rfl⟩) (by assumption) ?_
              simp only [Act.put, lyA, lyB, lyC]
              refine wpAnyH_take (i := 30) (oi := ⟨some 68, _, _, _, _, _⟩) (v := undef) rfl (by kernel_rfl) (by kernel_rfl) (by kernel_rfl) (fun _ _ _ h => h) (Or.inr ⟨by kernel_rfl, rfl⟩) (by assumption) ?_
              simp only [Act.put, lyA, lyB, lyC]
              refine wpAnyH_take (i := 31) (oi := ⟨some 69, _, _, _, _, _⟩) (v := undef) rfl (by kernel_rfl) (by kernel_rfl) (by kernel_rfl) (fun _ _ _ h => h) (Or.inr ⟨by kernel_rfl, rfl⟩) (by assumption) ?_
              simp only [Act.put, lyA, lyB, lyC]
              refine tkW 32 70 rfl rfl (by kernel_rfl) hHeld (by intro w hSw; (try dsimp only at hSw); go_simp; try with_reducible rfl) ?_ (fun _ _ _ h => h)
              simp only [Act.put, lyA, lyB, lyC]
              refine tkW 33 2 rfl rfl (by kernel_rfl) hHeld (by intro w hSw; (try dsimp only at hSw); go_simp; try with_reducible rfl) ?_ (fun _ _ _ h => h)
              simp only [Act.put, lyA, lyB, lyC]
              refine wpAnyH_done (by kernel_rfl) ?_ _
              go_wp2
              go_ret
              exact ⟨ret_bool (by rw [Hno.out]), hb0.trans ((bw.trans (((Qt.one wr 1).below _).mono (Nat.le_refl _))).mono (by omega))⟩
          · have r2 : inR 0 900000 b = false := inR_no hb9
            have Hno := Lib.hid (vMill_no (es := es) (a := a) (b := b) (c := z) fun hh => hb9 hh.2.2.2.1)
            go_wp2
            refine wp_region_held_drew (S := fun w' => w'.cell? ⟨w.heap.size, 0, none⟩ = some (.slice A es.length c) ∧ w'.cell? ⟨w.heap.size, 1, none⟩ = some (.int .i64 a) ∧ w'.cell? ⟨w.heap.size, 2, none⟩ = some (.int .i64 b) ∧ w'.cell? ⟨w.heap.size, 3, none⟩ = some (.int .i64 z)) (by kernel_rfl) ?_ (fun hHeld => ?_)
            · (first | (try dsimp only); go_keep | (go_split_ands; refine ⟨?_, ?_, ?_, ?_⟩ <;> first | exact keepB bx1 (by assumption) | assumption))
            refine tkW 0 38 rfl rfl (by kernel_rfl) hHeld (by intro w hSw; (try dsimp only at hSw); go_simp; try with_reducible rfl) ?_ (fun _ _ _ h => h)
            simp only [Act.put, lyA, lyB, lyC]
            refine tkW 1 39 rfl rfl (by kernel_rfl) hHeld (by intro w hSw; (try dsimp only at hSw); go_simp; try with_reducible rfl) ?_ (fun _ _ _ h => h)
            simp only [Act.put, lyA, lyB, lyC]
            refine tkW 2 40 rfl rfl (by kernel_rfl) hHeld (by intro w hSw; (try dsimp only at hSw); go_simp; try with_reducible rfl) ?_ (fun _ _ _ h => h)
            simp only [Act.put, lyA, lyB, lyC]
            refine tkW 3 41 rfl rfl (by kernel_rfl) hHeld (by intro w hSw; (try dsimp only at hSw); go_simp; try with_reducible rfl) ?_ (fun _ _ _ h => h)
            simp only [Act.put, lyA, lyB, lyC]
            refine tkW 4 42 rfl rfl (by kernel_rfl) hHeld (by intro w hSw; (try dsimp only at hSw); go_simp; try with_reducible rfl) ?_ (fun _ _ _ h => h)
            simp only [Act.put, lyA, lyB, lyC]
            refine tkW 5 43 rfl rfl (by kernel_rfl) hHeld (by intro w hSw; (try dsimp only at hSw); go_simp; try with_reducible rfl) ?_ (fun _ _ _ h => h)
            simp only [Act.put, lyA, lyB, lyC]
            refine tkW 6 44 rfl rfl (by kernel_rfl) hHeld (by intro w hSw; (try dsimp only at hSw); go_simp; try with_reducible rfl) ?_ (fun _ _ _ h => h)
            simp only [Act.put, lyA, lyB, lyC]
            refine wpAnyH_ready (rs := [7]) (by kernel_rfl) (by simp) ?_
            refine AllReadyH.cons (o := ⟨some 45, _, _, _, _, _⟩) rfl (fun K hK => ?_) AllReadyH.nil
            go_simp
            go_at_call 68
            refine (inRange_any _ _ _ _).mono ?_
            rintro e y1 ⟨rfl, rfl⟩
            go_wp2_with fail
            refine hK.out _ _ ?_ (fun hHeld2 => ?_)
            · (first | (try dsimp only); go_keep | (go_split_ands; refine ⟨?_, ?_, ?_, ?_⟩ <;> first | exact keepB bx1 (by assumption) | assumption))
            clear hK K hHeld
            have hHeld := hHeld2
            clear hHeld2
            try simp only [Act.put, lyA, lyB, lyC]
            refine tkW 8 46 rfl rfl (by kernel_rfl) hHeld (by intro w hSw; (try dsimp only at hSw); go_simp; try with_reducible rfl) ?_ (fun _ _ _ h => h)
            simp only [Act.put, lyA, lyB, lyC]
            refine tkW 9 47 rfl rfl (by kernel_rfl) hHeld (by intro w hSw; (try dsimp only at hSw); go_simp; try with_reducible rfl) ?_ (fun _ _ _ h => h)
            simp only [Act.put, lyA, lyB, lyC]
            refine tkW 10 48 rfl rfl (by kernel_rfl) hHeld (by intro w hSw; (try dsimp only at hSw); go_simp; try with_reducible rfl) ?_ (fun _ _ _ h => h)
            simp only [Act.put, lyA, lyB, lyC]
            refine tkW 11 49 rfl rfl (by kernel_rfl) hHeld (by intro w hSw; (try dsimp only at hSw); go_simp; try with_reducible rfl) ?_ (fun _ _ _ h => h)
            simp only [Act.put, lyA, lyB, lyC]
            refine wpAnyH_ready (rs := [12]) (by kernel_rfl) (by simp) ?_
            refine AllReadyH.cons (o := ⟨some 50, _, _, _, _, _⟩) rfl (fun K hK => ?_) AllReadyH.nil
            go_simp
            go_at_call 68
            refine (inRange_any _ _ _ _).mono ?_
            rintro e y2 ⟨rfl, rfl⟩
            go_wp2_with fail
            refine hK.out _ _ ?_ (fun hHeld2 => ?_)
            · (first | (try dsimp only); go_keep | (go_split_ands; refine ⟨?_, ?_, ?_, ?_⟩ <;> first | exact keepB bx1 (by assumption) | assumption))
            clear hK K hHeld
            have hHeld := hHeld2
            clear hHeld2
            try simp only [Act.put, lyA, lyB, lyC]
            refine tkW 13 51 rfl rfl (by kernel_rfl) hHeld (by intro w hSw; (try dsimp only at hSw); go_simp; try with_reducible rfl) ?_ (fun _ _ _ h => h)
            simp only [Act.put, lyA, lyB, lyC]
            refine tkW 14 52 rfl rfl (by kernel_rfl) hHeld (by intro w hSw; (try dsimp only at hSw); go_simp; try with_reducible rfl) ?_ (fun _ _ _ h => h)
            simp only [Act.put, lyA, lyB, lyC]
            refine wpAnyH_take (i := 15) (oi := ⟨some 53, _, _, _, _, _⟩) (v := undef) rfl (by kernel_rfl) (by kernel_rfl) (by kernel_rfl) (fun _ _ _ h => h) (Or.inr ⟨by kernel_rfl, rfl⟩) (by assumption) ?_
            simp only [Act.put, lyA, lyB, lyC]
            refine wpAnyH_take (i := 16) (oi := ⟨some 54, _, _, _, _, _⟩) (v := undef) rfl (by kernel_rfl) (by kernel_rfl) (by kernel_rfl) (fun _ _ _ h => h) (Or.inr ⟨by kernel_rfl, rfl⟩) (by assumption) ?_
            simp only [Act.put, lyA, lyB, lyC]
            refine wpAnyH_take (i := 17) (oi := ⟨some 55, _, _, _, _, _⟩) (v := undef) rfl (by kernel_rfl) (by kernel_rfl) (by kernel_rfl) (fun _ _ _ h => h) (Or.inr ⟨by kernel_rfl, rfl⟩) (by assumption) ?_
            simp only [Act.put, lyA, lyB, lyC]
            refine tkW 18 56 rfl rfl (by kernel_rfl) hHeld (by intro w hSw; (try dsimp only at hSw); go_simp; try with_reducible rfl) ?_ (fun _ _ _ h => h)
            simp only [Act.put, lyA, lyB, lyC]
            refine tkW 19 57 rfl rfl (by kernel_rfl) hHeld (by intro w hSw; (try dsimp only at hSw); go_simp; try with_reducible rfl) ?_ (fun _ _ _ h => h)
            simp only [Act.put, lyA, lyB, lyC]
            refine wpAnyH_take (i := 20) (oi := ⟨some 58, _, _, _, _, _⟩) (v := undef) rfl (by kernel_rfl) (by kernel_rfl) (by kernel_rfl) (fun _ _ _ h => h) (Or.inr ⟨by kernel_rfl, rfl⟩) (by assumption) ?_
            simp only [Act.put, lyA, lyB, lyC]
            refine wpAnyH_take (i := 21) (oi := ⟨some 59, _, _, _, _, _⟩) (v := undef) rfl (by kernel_rfl) (by kernel_rfl) (by kernel_rfl) (fun _ _ _ h => h) (Or.inr ⟨by kernel_rfl, rfl⟩) (by assumption) ?_
            simp only [Act.put, lyA, lyB, lyC]
            refine wpAnyH_take (i := 22) (oi := ⟨some 60, _, _, _, _, _⟩) (v := undef) rfl (by kernel_rfl) (by kernel_rfl) (by kernel_rfl) (fun _ _ _ h => h) (Or.inr ⟨by kernel_rfl, rfl⟩) (by assumption) ?_
            simp only [Act.put, lyA, lyB, lyC]
            refine wpAnyH_take (i := 23) (oi := ⟨some 61, _, _, _, _, _⟩) (v := undef) rfl (by kernel_rfl) (by kernel_rfl) (by kernel_rfl) (fun _ _ _ h => h) (Or.inr ⟨by kernel_rfl, rfl⟩) (by assumption) ?_
            simp only [Act.put, lyA, lyB, lyC]
            refine wpAnyH_take (i := 24) (oi := ⟨some 62, _, _, _, _, _⟩) (v := undef) rfl (by kernel_rfl) (by kernel_rfl) (by kernel_rfl) (fun _ _ _ h => h) (Or.inr ⟨by kernel_rfl, rfl⟩) (by assumption) ?_
            simp only [Act.put, lyA, lyB, lyC]
            refine wpAnyH_take (i := 25) (oi := ⟨some 63, _, _, _, _, _⟩) (v := undef) rfl (by kernel_rfl) (by kernel_rfl) (by kernel_rfl) (fun _ _ _ h => h) (Or.inr ⟨by kernel_rfl, rfl⟩) (by assumption) ?_
            simp only [Act.put, lyA, lyB, lyC]
            refine wpAnyH_take (i := 26) (oi := ⟨some 64, _, _, _, _, _⟩) (v := undef) rfl (by kernel_rfl) (by kernel_rfl) (by kernel_rfl) (fun _ _ _ h => h) (Or.inr ⟨by kernel_rfl, rfl⟩) (by assumption) ?_
            simp only [Act.put, lyA, lyB, lyC]
            refine wpAnyH_take (i := 27) (oi := ⟨some 65, _, _, _, _, _⟩) (v := undef) rfl (by kernel_rfl) (by kernel_rfl) (by kernel_rfl) (fun _ _ _ h => h) (Or.inr ⟨by kernel_rfl, rfl⟩) (by assumption) ?_
            simp only [Act.put, lyA, lyB, lyC]
            refine wpAnyH_take (i := 28) (oi := ⟨some 66, _, _, _, _, _⟩) (v := undef) rfl (by kernel_rfl) (by kernel_rfl) (by kernel_rfl) (fun _ _ _ h => h) (Or.inr ⟨by kernel_rfl, rfl⟩) (by assumption) ?_
            simp only [Act.put, lyA, lyB, lyC]
            refine wpAnyH_take (i := 29) (oi := ⟨some 67, _, _, _, _, _⟩) (v := undef) rfl (by kernel_rfl) (by kernel_rfl) (by kernel_rfl) (fun _ _ _ h => h) (Or.inr ⟨by kernel_rfl, rfl⟩) (by assumption) ?_
            simp only [Act.put, lyA, lyB, lyC]
            refine wpAnyH_take (i := 30) (oi := ⟨some 68, _, _, _, _, _⟩) (v := undef) rfl (by kernel_rfl) (by kernel_rfl) (by kernel_rfl) (fun _ _ _ h => h) (Or.inr ⟨by kernel_rfl, rfl⟩) (by assumption) ?_
            simp only [Act.put, lyA, lyB, lyC]
            refine wpAnyH_take (i := 31) (oi := ⟨some 69, _, _, _, _, _⟩) (v := undef) rfl (by kernel_rfl) (by kernel_rfl) (by kernel_rfl) (fun _ _ _ h => h) (Or.inr ⟨by kernel_rfl, rfl⟩) (by assumption) ?_
            simp only [Act.put, lyA, lyB, lyC]
            refine tkW 32 70 rfl rfl (by kernel_rfl) hHeld (by intro w hSw; (try dsimp only at hSw); go_simp; try with_reducible rfl) ?_ (fun _ _ _ h => h)
            simp only [Act.put, lyA, lyB, lyC]
            refine tkW 33 2 rfl rfl (by kernel_rfl) hHeld (by intro w hSw; (try dsimp only at hSw); go_simp; try with_reducible rfl) ?_ (fun _ _ _ h => h)
            simp only [Act.put, lyA, lyB, lyC]
            refine wpAnyH_done (by kernel_rfl) ?_ _
            go_wp2
            go_ret
            exact ⟨ret_bool (by rw [Hno.out]), hb0.trans ((bw.trans (((Qt.one wr 1).below _).mono (Nat.le_refl _))).mono (by omega))⟩
        · have r1 : inR 0 900000 a = false := inR_no ha
          have Hno := Lib.hid (vMill_no (es := es) (a := a) (b := b) (c := z) fun hh => ha hh.2.2.1)
          go_wp2
          refine wp_region_held_drew (S := fun w' => w'.cell? ⟨w.heap.size, 0, none⟩ = some (.slice A es.length c) ∧ w'.cell? ⟨w.heap.size, 1, none⟩ = some (.int .i64 a) ∧ w'.cell? ⟨w.heap.size, 2, none⟩ = some (.int .i64 b) ∧ w'.cell? ⟨w.heap.size, 3, none⟩ = some (.int .i64 z)) (by kernel_rfl) ?_ (fun hHeld => ?_)
          · (first | (try dsimp only); go_keep | (go_split_ands; refine ⟨?_, ?_, ?_, ?_⟩ <;> first | exact keepB bx1 (by assumption) | assumption))
          refine tkW 0 38 rfl rfl (by kernel_rfl) hHeld (by intro w hSw; (try dsimp only at hSw); go_simp; try with_reducible rfl) ?_ (fun _ _ _ h => h)
          simp only [Act.put, lyA, lyB, lyC]
          refine tkW 1 39 rfl rfl (by kernel_rfl) hHeld (by intro w hSw; (try dsimp only at hSw); go_simp; try with_reducible rfl) ?_ (fun _ _ _ h => h)
          simp only [Act.put, lyA, lyB, lyC]
          refine tkW 2 40 rfl rfl (by kernel_rfl) hHeld (by intro w hSw; (try dsimp only at hSw); go_simp; try with_reducible rfl) ?_ (fun _ _ _ h => h)
          simp only [Act.put, lyA, lyB, lyC]
          refine tkW 3 41 rfl rfl (by kernel_rfl) hHeld (by intro w hSw; (try dsimp only at hSw); go_simp; try with_reducible rfl) ?_ (fun _ _ _ h => h)
          simp only [Act.put, lyA, lyB, lyC]
          refine tkW 4 42 rfl rfl (by kernel_rfl) hHeld (by intro w hSw; (try dsimp only at hSw); go_simp; try with_reducible rfl) ?_ (fun _ _ _ h => h)
          simp only [Act.put, lyA, lyB, lyC]
          refine tkW 5 43 rfl rfl (by kernel_rfl) hHeld (by intro w hSw; (try dsimp only at hSw); go_simp; try with_reducible rfl) ?_ (fun _ _ _ h => h)
          simp only [Act.put, lyA, lyB, lyC]
          refine tkW 6 44 rfl rfl (by kernel_rfl) hHeld (by intro w hSw; (try dsimp only at hSw); go_simp; try with_reducible rfl) ?_ (fun _ _ _ h => h)
          simp only [Act.put, lyA, lyB, lyC]
          refine wpAnyH_ready (rs := [7]) (by kernel_rfl) (by simp) ?_
          refine AllReadyH.cons (o := ⟨some 45, _, _, _, _, _⟩) rfl (fun K hK => ?_) AllReadyH.nil
          go_simp
          go_at_call 68
          refine (inRange_any _ _ _ _).mono ?_
          rintro e y1 ⟨rfl, rfl⟩
          go_wp2_with fail
          refine hK.out _ _ ?_ (fun hHeld2 => ?_)
          · (first | (try dsimp only); go_keep | (go_split_ands; refine ⟨?_, ?_, ?_, ?_⟩ <;> first | exact keepB bx1 (by assumption) | assumption))
          clear hK K hHeld
          have hHeld := hHeld2
          clear hHeld2
          try simp only [Act.put, lyA, lyB, lyC]
          refine tkW 8 46 rfl rfl (by kernel_rfl) hHeld (by intro w hSw; (try dsimp only at hSw); go_simp; try with_reducible rfl) ?_ (fun _ _ _ h => h)
          simp only [Act.put, lyA, lyB, lyC]
          refine tkW 9 47 rfl rfl (by kernel_rfl) hHeld (by intro w hSw; (try dsimp only at hSw); go_simp; try with_reducible rfl) ?_ (fun _ _ _ h => h)
          simp only [Act.put, lyA, lyB, lyC]
          refine wpAnyH_take (i := 10) (oi := ⟨some 48, _, _, _, _, _⟩) (v := undef) rfl (by kernel_rfl) (by kernel_rfl) (by kernel_rfl) (fun _ _ _ h => h) (Or.inr ⟨by kernel_rfl, rfl⟩) (by assumption) ?_
          simp only [Act.put, lyA, lyB, lyC]
          refine wpAnyH_take (i := 11) (oi := ⟨some 49, _, _, _, _, _⟩) (v := undef) rfl (by kernel_rfl) (by kernel_rfl) (by kernel_rfl) (fun _ _ _ h => h) (Or.inr ⟨by kernel_rfl, rfl⟩) (by assumption) ?_
          simp only [Act.put, lyA, lyB, lyC]
          refine wpAnyH_take (i := 12) (oi := ⟨some 50, _, _, _, _, _⟩) (v := undef) rfl (by kernel_rfl) (by kernel_rfl) (by kernel_rfl) (fun _ _ _ h => h) (Or.inr ⟨by kernel_rfl, rfl⟩) (by assumption) ?_
          simp only [Act.put, lyA, lyB, lyC]
          refine tkW 13 51 rfl rfl (by kernel_rfl) hHeld (by intro w hSw; (try dsimp only at hSw); go_simp; try with_reducible rfl) ?_ (fun _ _ _ h => h)
          simp only [Act.put, lyA, lyB, lyC]
          refine tkW 14 52 rfl rfl (by kernel_rfl) hHeld (by intro w hSw; (try dsimp only at hSw); go_simp; try with_reducible rfl) ?_ (fun _ _ _ h => h)
          simp only [Act.put, lyA, lyB, lyC]
          refine wpAnyH_take (i := 15) (oi := ⟨some 53, _, _, _, _, _⟩) (v := undef) rfl (by kernel_rfl) (by kernel_rfl) (by kernel_rfl) (fun _ _ _ h => h) (Or.inr ⟨by kernel_rfl, rfl⟩) (by assumption) ?_
          simp only [Act.put, lyA, lyB, lyC]
          refine wpAnyH_take (i := 16) (oi := ⟨some 54, _, _, _, _, _⟩) (v := undef) rfl (by kernel_rfl) (by kernel_rfl) (by kernel_rfl) (fun _ _ _ h => h) (Or.inr ⟨by kernel_rfl, rfl⟩) (by assumption) ?_
          simp only [Act.put, lyA, lyB, lyC]
          refine wpAnyH_take (i := 17) (oi := ⟨some 55, _, _, _, _, _⟩) (v := undef) rfl (by kernel_rfl) (by kernel_rfl) (by kernel_rfl) (fun _ _ _ h => h) (Or.inr ⟨by kernel_rfl, rfl⟩) (by assumption) ?_
          simp only [Act.put, lyA, lyB, lyC]
          refine tkW 18 56 rfl rfl (by kernel_rfl) hHeld (by intro w hSw; (try dsimp only at hSw); go_simp; try with_reducible rfl) ?_ (fun _ _ _ h => h)
          simp only [Act.put, lyA, lyB, lyC]
          refine tkW 19 57 rfl rfl (by kernel_rfl) hHeld (by intro w hSw; (try dsimp only at hSw); go_simp; try with_reducible rfl) ?_ (fun _ _ _ h => h)
          simp only [Act.put, lyA, lyB, lyC]
          refine wpAnyH_take (i := 20) (oi := ⟨some 58, _, _, _, _, _⟩) (v := undef) rfl (by kernel_rfl) (by kernel_rfl) (by kernel_rfl) (fun _ _ _ h => h) (Or.inr ⟨by kernel_rfl, rfl⟩) (by assumption) ?_
          simp only [Act.put, lyA, lyB, lyC]
          refine wpAnyH_take (i := 21) (oi := ⟨some 59, _, _, _, _, _⟩) (v := undef) rfl (by kernel_rfl) (by kernel_rfl) (by kernel_rfl) (fun _ _ _ h => h) (Or.inr ⟨by kernel_rfl, rfl⟩) (by assumption) ?_
          simp only [Act.put, lyA, lyB, lyC]
          refine wpAnyH_take (i := 22) (oi := ⟨some 60, _, _, _, _, _⟩) (v := undef) rfl (by kernel_rfl) (by kernel_rfl) (by kernel_rfl) (fun _ _ _ h => h) (Or.inr ⟨by kernel_rfl, rfl⟩) (by assumption) ?_
          simp only [Act.put, lyA, lyB, lyC]
          refine wpAnyH_take (i := 23) (oi := ⟨some 61, _, _, _, _, _⟩) (v := undef) rfl (by kernel_rfl) (by kernel_rfl) (by kernel_rfl) (fun _ _ _ h => h) (Or.inr ⟨by kernel_rfl, rfl⟩) (by assumption) ?_
          simp only [Act.put, lyA, lyB, lyC]
          refine wpAnyH_take (i := 24) (oi := ⟨some 62, _, _, _, _, _⟩) (v := undef) rfl (by kernel_rfl) (by kernel_rfl) (by kernel_rfl) (fun _ _ _ h => h) (Or.inr ⟨by kernel_rfl, rfl⟩) (by assumption) ?_
          simp only [Act.put, lyA, lyB, lyC]
          refine wpAnyH_take (i := 25) (oi := ⟨some 63, _, _, _, _, _⟩) (v := undef) rfl (by kernel_rfl) (by kernel_rfl) (by kernel_rfl) (fun _ _ _ h => h) (Or.inr ⟨by kernel_rfl, rfl⟩) (by assumption) ?_
          simp only [Act.put, lyA, lyB, lyC]
          refine wpAnyH_take (i := 26) (oi := ⟨some 64, _, _, _, _, _⟩) (v := undef) rfl (by kernel_rfl) (by kernel_rfl) (by kernel_rfl) (fun _ _ _ h => h) (Or.inr ⟨by kernel_rfl, rfl⟩) (by assumption) ?_
          simp only [Act.put, lyA, lyB, lyC]
          refine wpAnyH_take (i := 27) (oi := ⟨some 65, _, _, _, _, _⟩) (v := undef) rfl (by kernel_rfl) (by kernel_rfl) (by kernel_rfl) (fun _ _ _ h => h) (Or.inr ⟨by kernel_rfl, rfl⟩) (by assumption) ?_
          simp only [Act.put, lyA, lyB, lyC]
          refine wpAnyH_take (i := 28) (oi := ⟨some 66, _, _, _, _, _⟩) (v := undef) rfl (by kernel_rfl) (by kernel_rfl) (by kernel_rfl) (fun _ _ _ h => h) (Or.inr ⟨by kernel_rfl, rfl⟩) (by assumption) ?_
          simp only [Act.put, lyA, lyB, lyC]
          refine wpAnyH_take (i := 29) (oi := ⟨some 67, _, _, _, _, _⟩) (v := undef) rfl (by kernel_rfl) (by kernel_rfl) (by kernel_rfl) (fun _ _ _ h => h) (Or.inr ⟨by kernel_rfl, rfl⟩) (by assumption) ?_
          simp only [Act.put, lyA, lyB, lyC]
          refine wpAnyH_take (i := 30) (oi := ⟨some 68, _, _, _, _, _⟩) (v := undef) rfl (by kernel_rfl) (by kernel_rfl) (by kernel_rfl) (fun _ _ _ h => h) (Or.inr ⟨by kernel_rfl, rfl⟩) (by assumption) ?_
          simp only [Act.put, lyA, lyB, lyC]
          refine wpAnyH_take (i := 31) (oi := ⟨some 69, _, _, _, _, _⟩) (v := undef) rfl (by kernel_rfl) (by kernel_rfl) (by kernel_rfl) (fun _ _ _ h => h) (Or.inr ⟨by kernel_rfl, rfl⟩) (by assumption) ?_
          simp only [Act.put, lyA, lyB, lyC]
          refine tkW 32 70 rfl rfl (by kernel_rfl) hHeld (by intro w hSw; (try dsimp only at hSw); go_simp; try with_reducible rfl) ?_ (fun _ _ _ h => h)
          simp only [Act.put, lyA, lyB, lyC]
          refine tkW 33 2 rfl rfl (by kernel_rfl) hHeld (by intro w hSw; (try dsimp only at hSw); go_simp; try with_reducible rfl) ?_ (fun _ _ _ h => h)
          simp only [Act.put, lyA, lyB, lyC]
          refine wpAnyH_done (by kernel_rfl) ?_ _
          go_wp2
          go_ret
          exact ⟨ret_bool (by rw [Hno.out]), hb0.trans ((bw.trans (((Qt.one wr 1).below _).mono (Nat.le_refl _))).mono (by omega))⟩
      · have hl12 : decide ((es.length : Int) ≤ 12) = false := decide_eq_false (by omega)
        have Hno := Lib.hid (vMill_no (es := es) (a := a) (b := b) (c := z) fun hh => hl hh.2.1)
        go_wp2
        refine wp_region_held_drew (S := fun w' => w'.cell? ⟨w.heap.size, 0, none⟩ = some (.slice A es.length c) ∧ w'.cell? ⟨w.heap.size, 1, none⟩ = some (.int .i64 a) ∧ w'.cell? ⟨w.heap.size, 2, none⟩ = some (.int .i64 b) ∧ w'.cell? ⟨w.heap.size, 3, none⟩ = some (.int .i64 z)) (by kernel_rfl) ?_ (fun hHeld => ?_)
        · (first | (try dsimp only); go_keep | (go_split_ands; refine ⟨?_, ?_, ?_, ?_⟩ <;> first | exact keepB bx1 (by assumption) | assumption))
        refine tkW 0 38 rfl rfl (by kernel_rfl) hHeld (by intro w hSw; (try dsimp only at hSw); go_simp; try with_reducible rfl) ?_ (fun _ _ _ h => h)
        simp only [Act.put, lyA, lyB, lyC]
        refine tkW 1 39 rfl rfl (by kernel_rfl) hHeld (by intro w hSw; (try dsimp only at hSw); go_simp; try with_reducible rfl) ?_ (fun _ _ _ h => h)
        simp only [Act.put, lyA, lyB, lyC]
        refine tkW 2 40 rfl rfl (by kernel_rfl) hHeld (by intro w hSw; (try dsimp only at hSw); go_simp; try with_reducible rfl) ?_ (fun _ _ _ h => h)
        simp only [Act.put, lyA, lyB, lyC]
        refine tkW 3 41 rfl rfl (by kernel_rfl) hHeld (by intro w hSw; (try dsimp only at hSw); go_simp; try with_reducible rfl) ?_ (fun _ _ _ h => h)
        simp only [Act.put, lyA, lyB, lyC]
        refine tkW 4 42 rfl rfl (by kernel_rfl) hHeld (by intro w hSw; (try dsimp only at hSw); go_simp; try with_reducible rfl) ?_ (fun _ _ _ h => h)
        simp only [Act.put, lyA, lyB, lyC]
        refine wpAnyH_take (i := 5) (oi := ⟨some 43, _, _, _, _, _⟩) (v := undef) rfl (by kernel_rfl) (by kernel_rfl) (by kernel_rfl) (fun _ _ _ h => h) (Or.inr ⟨by kernel_rfl, rfl⟩) (by assumption) ?_
        simp only [Act.put, lyA, lyB, lyC]
        refine wpAnyH_take (i := 6) (oi := ⟨some 44, _, _, _, _, _⟩) (v := undef) rfl (by kernel_rfl) (by kernel_rfl) (by kernel_rfl) (fun _ _ _ h => h) (Or.inr ⟨by kernel_rfl, rfl⟩) (by assumption) ?_
        simp only [Act.put, lyA, lyB, lyC]
        refine wpAnyH_take (i := 7) (oi := ⟨some 45, _, _, _, _, _⟩) (v := undef) rfl (by kernel_rfl) (by kernel_rfl) (by kernel_rfl) (fun _ _ _ h => h) (Or.inr ⟨by kernel_rfl, rfl⟩) (by assumption) ?_
        simp only [Act.put, lyA, lyB, lyC]
        refine tkW 8 46 rfl rfl (by kernel_rfl) hHeld (by intro w hSw; (try dsimp only at hSw); go_simp; try with_reducible rfl) ?_ (fun _ _ _ h => h)
        simp only [Act.put, lyA, lyB, lyC]
        refine tkW 9 47 rfl rfl (by kernel_rfl) hHeld (by intro w hSw; (try dsimp only at hSw); go_simp; try with_reducible rfl) ?_ (fun _ _ _ h => h)
        simp only [Act.put, lyA, lyB, lyC]
        refine wpAnyH_take (i := 10) (oi := ⟨some 48, _, _, _, _, _⟩) (v := undef) rfl (by kernel_rfl) (by kernel_rfl) (by kernel_rfl) (fun _ _ _ h => h) (Or.inr ⟨by kernel_rfl, rfl⟩) (by assumption) ?_
        simp only [Act.put, lyA, lyB, lyC]
        refine wpAnyH_take (i := 11) (oi := ⟨some 49, _, _, _, _, _⟩) (v := undef) rfl (by kernel_rfl) (by kernel_rfl) (by kernel_rfl) (fun _ _ _ h => h) (Or.inr ⟨by kernel_rfl, rfl⟩) (by assumption) ?_
        simp only [Act.put, lyA, lyB, lyC]
        refine wpAnyH_take (i := 12) (oi := ⟨some 50, _, _, _, _, _⟩) (v := undef) rfl (by kernel_rfl) (by kernel_rfl) (by kernel_rfl) (fun _ _ _ h => h) (Or.inr ⟨by kernel_rfl, rfl⟩) (by assumption) ?_
        simp only [Act.put, lyA, lyB, lyC]
        refine tkW 13 51 rfl rfl (by kernel_rfl) hHeld (by intro w hSw; (try dsimp only at hSw); go_simp; try with_reducible rfl) ?_ (fun _ _ _ h => h)
        simp only [Act.put, lyA, lyB, lyC]
        refine tkW 14 52 rfl rfl (by kernel_rfl) hHeld (by intro w hSw; (try dsimp only at hSw); go_simp; try with_reducible rfl) ?_ (fun _ _ _ h => h)
        simp only [Act.put, lyA, lyB, lyC]
        refine wpAnyH_take (i := 15) (oi := ⟨some 53, _, _, _, _, _⟩) (v := undef) rfl (by kernel_rfl) (by kernel_rfl) (by kernel_rfl) (fun _ _ _ h => h) (Or.inr ⟨by kernel_rfl, rfl⟩) (by assumption) ?_
        simp only [Act.put, lyA, lyB, lyC]
        refine wpAnyH_take (i := 16) (oi := ⟨some 54, _, _, _, _, _⟩) (v := undef) rfl (by kernel_rfl) (by kernel_rfl) (by kernel_rfl) (fun _ _ _ h => h) (Or.inr ⟨by kernel_rfl, rfl⟩) (by assumption) ?_
        simp only [Act.put, lyA, lyB, lyC]
        refine wpAnyH_take (i := 17) (oi := ⟨some 55, _, _, _, _, _⟩) (v := undef) rfl (by kernel_rfl) (by kernel_rfl) (by kernel_rfl) (fun _ _ _ h => h) (Or.inr ⟨by kernel_rfl, rfl⟩) (by assumption) ?_
        simp only [Act.put, lyA, lyB, lyC]
        refine tkW 18 56 rfl rfl (by kernel_rfl) hHeld (by intro w hSw; (try dsimp only at hSw); go_simp; try with_reducible rfl) ?_ (fun _ _ _ h => h)
        simp only [Act.put, lyA, lyB, lyC]
        refine tkW 19 57 rfl rfl (by kernel_rfl) hHeld (by intro w hSw; (try dsimp only at hSw); go_simp; try with_reducible rfl) ?_ (fun _ _ _ h => h)
        simp only [Act.put, lyA, lyB, lyC]
        refine wpAnyH_take (i := 20) (oi := ⟨some 58, _, _, _, _, _⟩) (v := undef) rfl (by kernel_rfl) (by kernel_rfl) (by kernel_rfl) (fun _ _ _ h => h) (Or.inr ⟨by kernel_rfl, rfl⟩) (by assumption) ?_
        simp only [Act.put, lyA, lyB, lyC]
        refine wpAnyH_take (i := 21) (oi := ⟨some 59, _, _, _, _, _⟩) (v := undef) rfl (by kernel_rfl) (by kernel_rfl) (by kernel_rfl) (fun _ _ _ h => h) (Or.inr ⟨by kernel_rfl, rfl⟩) (by assumption) ?_
        simp only [Act.put, lyA, lyB, lyC]
        refine wpAnyH_take (i := 22) (oi := ⟨some 60, _, _, _, _, _⟩) (v := undef) rfl (by kernel_rfl) (by kernel_rfl) (by kernel_rfl) (fun _ _ _ h => h) (Or.inr ⟨by kernel_rfl, rfl⟩) (by assumption) ?_
        simp only [Act.put, lyA, lyB, lyC]
        refine wpAnyH_take (i := 23) (oi := ⟨some 61, _, _, _, _, _⟩) (v := undef) rfl (by kernel_rfl) (by kernel_rfl) (by kernel_rfl) (fun _ _ _ h => h) (Or.inr ⟨by kernel_rfl, rfl⟩) (by assumption) ?_
        simp only [Act.put, lyA, lyB, lyC]
        refine wpAnyH_take (i := 24) (oi := ⟨some 62, _, _, _, _, _⟩) (v := undef) rfl (by kernel_rfl) (by kernel_rfl) (by kernel_rfl) (fun _ _ _ h => h) (Or.inr ⟨by kernel_rfl, rfl⟩) (by assumption) ?_
        simp only [Act.put, lyA, lyB, lyC]
        refine wpAnyH_take (i := 25) (oi := ⟨some 63, _, _, _, _, _⟩) (v := undef) rfl (by kernel_rfl) (by kernel_rfl) (by kernel_rfl) (fun _ _ _ h => h) (Or.inr ⟨by kernel_rfl, rfl⟩) (by assumption) ?_
        simp only [Act.put, lyA, lyB, lyC]
        refine wpAnyH_take (i := 26) (oi := ⟨some 64, _, _, _, _, _⟩) (v := undef) rfl (by kernel_rfl) (by kernel_rfl) (by kernel_rfl) (fun _ _ _ h => h) (Or.inr ⟨by kernel_rfl, rfl⟩) (by assumption) ?_
        simp only [Act.put, lyA, lyB, lyC]
        refine wpAnyH_take (i := 27) (oi := ⟨some 65, _, _, _, _, _⟩) (v := undef) rfl (by kernel_rfl) (by kernel_rfl) (by kernel_rfl) (fun _ _ _ h => h) (Or.inr ⟨by kernel_rfl, rfl⟩) (by assumption) ?_
        simp only [Act.put, lyA, lyB, lyC]
        refine wpAnyH_take (i := 28) (oi := ⟨some 66, _, _, _, _, _⟩) (v := undef) rfl (by kernel_rfl) (by kernel_rfl) (by kernel_rfl) (fun _ _ _ h => h) (Or.inr ⟨by kernel_rfl, rfl⟩) (by assumption) ?_
        simp only [Act.put, lyA, lyB, lyC]
        refine wpAnyH_take (i := 29) (oi := ⟨some 67, _, _, _, _, _⟩) (v := undef) rfl (by kernel_rfl) (by kernel_rfl) (by kernel_rfl) (fun _ _ _ h => h) (Or.inr ⟨by kernel_rfl, rfl⟩) (by assumption) ?_
        simp only [Act.put, lyA, lyB, lyC]
        refine wpAnyH_take (i := 30) (oi := ⟨some 68, _, _, _, _, _⟩) (v := undef) rfl (by kernel_rfl) (by kernel_rfl) (by kernel_rfl) (fun _ _ _ h => h) (Or.inr ⟨by kernel_rfl, rfl⟩) (by assumption) ?_
        simp only [Act.put, lyA, lyB, lyC]
        refine wpAnyH_take (i := 31) (oi := ⟨some 69, _, _, _, _, _⟩) (v := undef) rfl (by kernel_rfl) (by kernel_rfl) (by kernel_rfl) (fun _ _ _ h => h) (Or.inr ⟨by kernel_rfl, rfl⟩) (by assumption) ?_
        simp only [Act.put, lyA, lyB, lyC]
        refine tkW 32 70 rfl rfl (by kernel_rfl) hHeld (by intro w hSw; (try dsimp only at hSw); go_simp; try with_reducible rfl) ?_ (fun _ _ _ h => h)
        simp only [Act.put, lyA, lyB, lyC]
        refine tkW 33 2 rfl rfl (by kernel_rfl) hHeld (by intro w hSw; (try dsimp only at hSw); go_simp; try with_reducible rfl) ?_ (fun _ _ _ h => h)
        simp only [Act.put, lyA, lyB, lyC]
        refine wpAnyH_done (by kernel_rfl) ?_ _
        go_wp2
        go_ret
        exact ⟨ret_bool (by rw [Hno.out]), hb0.trans ((bw.trans (((Qt.one wr 1).below _).mono (Nat.le_refl _))).mono (by omega))⟩
/-- what AreaHeld returns -/
def ahL (es : List Ent) (a b z : Int) : Int := if vMill es a b z = true then heldL es else -1
set_option maxRecDepth 100000 in
set_option maxHeartbeats 4000000 in
theorem ValidMill_any (lo hi : Nat) (v : Value) (es : List Ent) (a b z : Int) (w : World) (h : ES w lo hi v es) (hhi : hi ≤ w.heap.size) (hin : I64 a ∧ I64 b ∧ I64 z) :
    Calls Tryz.prog 29 #[.agg #[v, .int .i64 a, .int .i64 b, .int .i64 z]] w fun e w' => e = .returned (.bool (vMill es a b z)) ∧ Below w.heap.size w w' := by
  obtain ⟨A, c, rfl, hc, hm⟩ := h.form
  have hes : ∀ w1, Below w.heap.size w w1 → ES w1 lo hi (.slice A es.length c) es := fun w1 hb => h.below hb hhi
  have Hs := Lib.hid (show ∃ w1, w1 = (w.alloc (.cells #[.slice A es.length c, .int .i64 a, .int .i64 b, .int .i64 z] 25)) ∧ Below w.heap.size w w1 ∧ w1.cell? ⟨w.heap.size, 0, none⟩ = some (.slice A es.length c) ∧ w1.cell? ⟨w.heap.size, 1, none⟩ = some (.int .i64 a) ∧ w1.cell? ⟨w.heap.size, 2, none⟩ = some (.int .i64 b) ∧ w1.cell? ⟨w.heap.size, 3, none⟩ = some (.int .i64 z) ∧ w.heap.size < w1.heap.size from by
    have hb : Below w.heap.size w (w.alloc (.cells #[.slice A es.length c, .int .i64 a, .int .i64 b, .int .i64 z] 25)) := (Below.refl _ _).alloc (Nat.le_refl _) _
    exact ⟨_, rfl, hb, by go_simp, by go_simp, by go_simp, by go_simp, by simp⟩)
  by_cases hl : es.length ≤ 12
  · have hl12 : ¬ (12 : Int) < (es.length : Int) := by omega
    go_enter Tryz.func29, Tryz.ntmps29
    go_wp2
    obtain ⟨w1, hw1, hb0, c00, c01, c02, c03, hz⟩ := Hs.out
    have HZ := Lib.hid (show w1.heap.size = w.heap.size + 1 by rw [hw1]; simp)
    rw [← hw1]
    clear hw1 Hs
    obtain ⟨y0, hy0⟩ : ∃ y0, y0 = w1.alloc (.cells #[.int .i64 a, .int .i64 b, .int .i64 z] 3) := ⟨_, rfl⟩
    have by0 : Below w1.heap.size w1 y0 := by rw [hy0]; exact (Below.refl _ _).alloc (Nat.le_refl _) _
    have ho0 : OwnI y0 w1.heap.size 3 (.slice (some ⟨w1.heap.size, 0, none⟩) 3 3) [a, b, z] := by rw [hy0]; exact lit_own w1 3 [a, b, z] (by simp) (fun x hx => by
      simp only [List.mem_cons, List.not_mem_nil, or_false] at hx
      rcases hx with rfl | rfl | rfl
      · exact hin.1
      · exact hin.2.1
      · exact hin.2.2)
    have hz0 : w1.heap.size < y0.heap.size := by rw [hy0]; simp
    rw [← hy0]
    clear hy0
    replace c00 := keepB by0 c00; replace c01 := keepB by0 c01; replace c02 := keepB by0 c02; replace c03 := keepB by0 c03
    have he1 := (hes w1 hb0).below by0 (by omega)
    have hb1 := hb0.trans (by0.mono (by omega))
    have hi0 := ho0.ints
    rw [HZ.out] at hi0
    clear hes h hb0 by0 ho0
    go_loopw [20] (fun i wr => ∃ k : Nat, k ≤ 3 ∧ i = .int .i64 k ∧ y0 = wr ∧ Hid (∀ j, j < k → 0 ≤ gi [a, b, z] j ∧ gi [a, b, z] j ≤ 900000)) (fun i _ => 3 - (intOf i).toNat)
    case atStart => exact ⟨0, by omega, rfl, rfl, fun j hj => absurd hj (by omega)⟩
    case round =>
      obtain ⟨k, hk, rfl, rfl, HJ⟩ := hrel
      by_cases hlt : k < 3
      · have e0 := hi0.cell' (k := k) (by simpa using hlt)
        rw [Nat.zero_add] at e0
        have hk0 : (0 : Int) ≤ (k : Int) := by omega
        have hk1 : (k : Int) < 3 := by omega
        obtain ⟨x, hx⟩ : ∃ x, x = gi [a, b, z] k := ⟨_, rfl⟩
        rw [← hx] at e0
        by_cases hok : 0 ≤ x ∧ x ≤ 900000
        · have hn1 : ¬ x < 0 := by omega
          have hn2 : ¬ (900000 : Int) < x := by omega
          have hd1 : decide (x < 0) = false := decide_eq_false hn1
          have hd2 : decide ((900000 : Int) < x) = false := decide_eq_false hn2
          have HJ2 : Hid (∀ j, j < k + 1 → 0 ≤ gi [a, b, z] j ∧ gi [a, b, z] j ≤ 900000) := fun j hj => by
            by_cases hjk : j = k
            · subst hjk; rw [← hx]; exact hok
            · exact HJ.out j (by omega)
          clear hx
          go_wp2
          go_roundw
          case rel => exact ⟨k + 1, by omega, by go_num, by first | rfl | trivial, HJ2⟩
          case measure => simp [intOf]; omega
        · have Hno := Lib.hid (vMill_no (es := es) (a := a) (b := b) (c := z) fun hh => hok (by
            rw [hx]
            have h3 := hh.2.2
            match k, hlt with
            | 0, _ => exact h3.1
            | 1, _ => exact h3.2.1
            | 2, _ => exact h3.2.2.1))
          clear hx
          by_cases hn1 : x < 0
          · go_wp2
            go_ret
            exact ⟨ret_bool (by rw [Hno.out]), hb1⟩
          · have hn2 : (900000 : Int) < x := by omega
            go_wp2
            go_ret
            exact ⟨ret_bool (by rw [Hno.out]), hb1⟩
      · have HR := Lib.hid (show (0 ≤ a ∧ a ≤ 900000) ∧ (0 ≤ b ∧ b ≤ 900000) ∧ (0 ≤ z ∧ z ≤ 900000) from ⟨HJ.out 0 (by omega), HJ.out 1 (by omega), HJ.out 2 (by omega)⟩)
        go_wp2
        go_loopw [5, 34] (fun l i wr => ∃ k : Nat, k ≤ es.length ∧ i = .int .i64 k ∧ l = .int .i64 (if k = 0 then 0 else (ge es (k - 1)).lb) ∧ Below y0.heap.size y0 wr ∧ Hid (∀ j, j < k → vEnt (ge es j) = true ∧ ascE es j = true)) (fun _ i _ => es.length - (intOf i).toNat)
        case atStart => exact ⟨0, by omega, rfl, rfl, Below.refl _ _, fun j hj => absurd hj (by omega)⟩
        case round =>
          clear hlt hk
          obtain ⟨k, hk, rfl, rfl, bw, HJ⟩ := hrel
          have hzr := bw.size
          replace c00 := keepB bw c00; replace c01 := keepB bw c01; replace c02 := keepB bw c02; replace c03 := keepB bw c03
          obtain ⟨q, hq⟩ : ∃ q, q = (if k = 0 then 0 else (ge es (k - 1)).lb) := ⟨_, rfl⟩
          rw [← hq]
          have HQ := Lib.hid hq
          clear hq
          by_cases hlt : k < es.length
          · have hre := he1.below bw (by omega)
            obtain ⟨b9, o, Ad, cd, Ap, cp, rfl, _, _, e0, e1, e2, e3, e4, hd, hp, _⟩ := hre.cell hlt
            have hk0 : (0 : Int) ≤ (k : Int) := by omega
            have hk1 : (k : Int) < (es.length : Int) := by omega
            have Hd := Lib.hid hd
            have Hp := Lib.hid hp
            have HAS := Lib.hid (show 1 ≤ (ge es k).lb → (ascE es k = true ↔ q < (ge es k).lb) from fun h1 => by
              rw [HQ.out]
              unfold ascE
              by_cases h0 : k = 0
              · rw [if_pos h0, decide_eq_true h0]; simp; omega
              · rw [if_neg h0, decide_eq_false h0, Bool.false_or, decide_eq_true_eq])
            have HA0 := Lib.hid (show q < (ge es k).lb → 1 ≤ (ge es k).lb from fun h1 => by
              rw [HQ.out] at h1
              by_cases h0 : k = 0
              · rw [if_pos h0] at h1; omega
              · rw [if_neg h0] at h1
                have := (vEnt_iff.1 (HJ.out (k - 1) (by omega)).1).1
                omega)
            clear hd hp hre
            by_cases h1 : (ge es k).lb ≤ q
            · have Hno := Lib.hid (vMill_ent (a := a) (b := b) (c := z) hlt (by
                by_cases h9 : 1 ≤ (ge es k).lb
                · right
                  cases ha9 : ascE es k
                  · rfl
                  · have := (HAS.out h9).1 ha9; omega
                · left
                  cases hv9 : vEnt (ge es k)
                  · rfl
                  · have := (vEnt_iff.1 hv9).1; omega))
              go_wp2
              go_ret
              exact ⟨ret_bool (by rw [Hno.out]), hb1.trans ((bw.alloc (by omega) _).mono (by omega))⟩
            · by_cases h2 : (9999 : Int) < (ge es k).lb
              · have Hno := Lib.hid (vMill_ent (a := a) (b := b) (c := z) hlt (.inl (by
                  cases hv9 : vEnt (ge es k)
                  · rfl
                  · have := (vEnt_iff.1 hv9).2.1; omega)))
                go_wp2
                go_ret
                exact ⟨ret_bool (by rw [Hno.out]), hb1.trans ((bw.alloc (by omega) _).mono (by omega))⟩
              · have hlb : 1 ≤ (ge es k).lb := HA0.out (by omega)
                go_wp2_with fail
                refine (ValidCuts_any lo hi lo hi (ge es k).W (ge es k).L _ _ (ge es k).ds (ge es k).ps _ (Hd.out.below ((Below.refl wr.heap.size wr).alloc (Nat.le_refl _) _) (by omega)) (by simp; omega) (Hp.out.below ((Below.refl wr.heap.size wr).alloc (Nat.le_refl _) _) (by omega)) (by simp; omega)).mono ?_
                rintro e x1 ⟨rfl, bx⟩
                have bx9 : Below wr.heap.size wr x1 := ((Below.refl wr.heap.size wr).alloc (Nat.le_refl _) _).trans (bx.mono (by simp))
                have l0 : x1.cell? ⟨wr.heap.size, 0, none⟩ = some (.int .i64 (ge es k).lb) := keepB bx (by go_simp)
                have HVE := Lib.hid (show vEnt (ge es k) = vCuts (ge es k).W (ge es k).L (ge es k).ds (ge es k).ps by
                  unfold vEnt
                  rw [decide_eq_true hlb, decide_eq_true (show (ge es k).lb ≤ 9999 by omega)]; rfl)
                clear bx e0 e1 e2 e3 e4
                cases hvc : vCuts (ge es k).W (ge es k).L (ge es k).ds (ge es k).ps
                · have Hno := Lib.hid (vMill_ent (a := a) (b := b) (c := z) hlt (.inl (HVE.out.trans hvc)))
                  clear hvc
                  go_wp2
                  go_ret
                  exact ⟨ret_bool (by rw [Hno.out]), hb1.trans ((bw.trans (bx9.mono (by omega))).mono (by omega))⟩
                · have HJ2 : Hid (∀ j, j < k + 1 → vEnt (ge es j) = true ∧ ascE es j = true) := fun i hi => by
                    by_cases hik : i = k
                    · subst hik; exact ⟨HVE.out.trans hvc, (HAS.out hlb).2 (by omega)⟩
                    · exact HJ.out i (by omega)
                  clear hvc
                  go_wp2
                  go_roundw
                  case rel => exact ⟨k + 1, by omega, by go_num, by rw [if_neg (by omega), Nat.add_sub_cancel], bw.trans (bx9.mono (by omega)), HJ2⟩
                  case measure => simp [intOf]; omega
          · have HE := Lib.hid (show ∀ j, j < es.length → vEnt (ge es j) = true ∧ ascE es j = true from fun j hj => HJ.out j (by omega))
            have HER := Lib.hid (he1.below bw (by omega))
            have hr := held_rng (fun k hk => (HE.out k hk).1) es.length (Nat.le_refl _)
            rw [List.take_length] at hr
            have HM := Lib.hid (show vMill es a b z = (heldL es + b + z == a) by
              rw [Bool.eq_iff_iff, vMill_iff, beq_iff_eq]
              exact ⟨fun h => h.2.2.2.2.2, fun h => ⟨HE.out, hl, HR.out.1, HR.out.2.1, HR.out.2.2, h⟩⟩)
            obtain ⟨hd9, hhd⟩ : ∃ q, q = heldL es := ⟨_, rfl⟩
            rw [← hhd] at hr HM
            have HH := Lib.hid hhd
            have hr2 := HR.out
            clear hhd
            have g1 : IntKind.i64.wrap (hd9 + b) = hd9 + b := IntWalk.i64_in _ (by omega)
            have g2 : IntKind.i64.wrap (hd9 + b + z) = hd9 + b + z := IntWalk.i64_in _ (by omega)
            have g3 : wrap64 (hd9 + b) = hd9 + b := w64 (by omega)
            have g4 : wrap64 (hd9 + b + z) = hd9 + b + z := w64 (by omega)
            go_wp2
            refine wp_region_held_drew (S := fun w' => w'.cell? ⟨w.heap.size, 0, none⟩ = some (.slice A es.length c) ∧ w'.cell? ⟨w.heap.size, 1, none⟩ = some (.int .i64 a) ∧ w'.cell? ⟨w.heap.size, 2, none⟩ = some (.int .i64 b) ∧ w'.cell? ⟨w.heap.size, 3, none⟩ = some (.int .i64 z)) (by kernel_rfl) ?_ (fun hHeld => ?_)
            · (first | (try dsimp only); go_keep | (go_split_ands; refine ⟨?_, ?_, ?_, ?_⟩ <;> first | exact keepB bx1 (by assumption) | assumption))
            refine tkW 0 58 rfl rfl (by kernel_rfl) hHeld (by intro w hSw; (try dsimp only at hSw); go_simp; try with_reducible rfl) ?_ (fun _ _ _ h => h)
            simp only [Act.put, lyA, lyB, lyC]
            refine tkW 2 60 rfl rfl (by kernel_rfl) hHeld (by intro w hSw; (try dsimp only at hSw); go_simp; try with_reducible rfl) ?_ (fun _ _ _ h => h)
            simp only [Act.put, lyA, lyB, lyC]
            refine tkW 3 61 rfl rfl (by kernel_rfl) hHeld (by intro w hSw; (try dsimp only at hSw); go_simp; try with_reducible rfl) ?_ (fun _ _ _ h => h)
            simp only [Act.put, lyA, lyB, lyC]
            refine tkW 5 63 rfl rfl (by kernel_rfl) hHeld (by intro w hSw; (try dsimp only at hSw); go_simp; try with_reducible rfl) ?_ (fun _ _ _ h => h)
            simp only [Act.put, lyA, lyB, lyC]
            refine tkW 6 64 rfl rfl (by kernel_rfl) hHeld (by intro w hSw; (try dsimp only at hSw); go_simp; try with_reducible rfl) ?_ (fun _ _ _ h => h)
            simp only [Act.put, lyA, lyB, lyC]
            refine tkW 8 66 rfl rfl (by kernel_rfl) hHeld (by intro w hSw; (try dsimp only at hSw); go_simp; try with_reducible rfl) ?_ (fun _ _ _ h => h)
            simp only [Act.put, lyA, lyB, lyC]
            refine tkW 9 67 rfl rfl (by kernel_rfl) hHeld (by intro w hSw; (try dsimp only at hSw); go_simp; try with_reducible rfl) ?_ (fun _ _ _ h => h)
            simp only [Act.put, lyA, lyB, lyC]
            refine wpAnyH_ready (rs := [1]) (by kernel_rfl) (by simp) ?_
            refine AllReadyH.cons (o := ⟨some 59, _, _, _, _, _⟩) rfl (fun K hK => ?_) AllReadyH.nil
            go_simp
            go_at_call 48
            refine (heldBy_any lo hi _ es a b z _ (HER.out.drewN 1) (by simp; omega) hl (fun k hk => (HE.out k hk).1)).mono ?_
            rw [← HH.out]
            rintro e x4 ⟨rfl, bx1⟩
            go_wp2_with fail
            refine hK.out _ _ ?_ (fun hHeld2 => ?_)
            · (first | (try dsimp only); go_keep | (go_split_ands; refine ⟨?_, ?_, ?_, ?_⟩ <;> first | exact keepB bx1 (by assumption) | assumption))
            clear hK K hHeld
            have hHeld := hHeld2
            clear hHeld2
            try simp only [Act.put, lyA, lyB, lyC]
            refine tkW 4 62 rfl rfl (by kernel_rfl) hHeld (by intro w hSw; (try dsimp only at hSw); go_simp; try with_reducible rfl) ?_ (fun _ _ _ h => h)
            simp only [Act.put, lyA, lyB, lyC]
            refine tkW 7 65 rfl rfl (by kernel_rfl) hHeld (by intro w hSw; (try dsimp only at hSw); go_simp; try with_reducible rfl) ?_ (fun _ _ _ h => h)
            simp only [Act.put, lyA, lyB, lyC]
            refine tkW 10 68 rfl rfl (by kernel_rfl) hHeld (by intro w hSw; (try dsimp only at hSw); go_simp; try with_reducible rfl) ?_ (fun _ _ _ h => h)
            simp only [Act.put, lyA, lyB, lyC]
            refine tkW 11 2 rfl rfl (by kernel_rfl) hHeld (by intro w hSw; (try dsimp only at hSw); go_simp; try with_reducible rfl) ?_ (fun _ _ _ h => h)
            simp only [Act.put, lyA, lyB, lyC]
            refine wpAnyH_done (by kernel_rfl) ?_ _
            go_wp2
            go_ret
            exact ⟨ret_bool (by rw [HM.out]), hb1.trans ((bw.trans ((of_drew bx1).mono hzr)).mono (by omega))⟩
  · have hl12 : (12 : Int) < (es.length : Int) := by omega
    have Hno := Lib.hid (vMill_no (es := es) (a := a) (b := b) (c := z) fun hh => hl hh.2.1)
    go_enter Tryz.func29, Tryz.ntmps29
    go_wp2
    obtain ⟨w1, hw1, hb0, c00, c01, c02, c03, hz⟩ := Hs.out
    rw [← hw1]
    clear hw1 Hs
    go_ret
    exact ⟨ret_bool (by rw [Hno.out]), hb0⟩
theorem AreaHeld_any (lo hi : Nat) (v : Value) (es : List Ent) (a b z : Int) (w : World) (h : ES w lo hi v es) (hhi : hi ≤ w.heap.size) (hin : I64 a ∧ I64 b ∧ I64 z) :
    Calls Tryz.prog 14 #[.agg #[v, .int .i64 a, .int .i64 b, .int .i64 z]] w fun e w' => e = .returned (.int .i64 (ahL es a b z)) ∧ Below w.heap.size w w' := by
  obtain ⟨A, c, rfl, hc, hm⟩ := h.form
  have hes : ∀ w1, Below w.heap.size w w1 → ES w1 lo hi (.slice A es.length c) es := fun w1 hb => h.below hb hhi
  have Hs := Lib.hid (show ∃ w1, w1 = (w.alloc (.cells #[.slice A es.length c, .int .i64 a, .int .i64 b, .int .i64 z] 25)) ∧ Below w.heap.size w w1 ∧ w1.cell? ⟨w.heap.size, 0, none⟩ = some (.slice A es.length c) ∧ w1.cell? ⟨w.heap.size, 1, none⟩ = some (.int .i64 a) ∧ w1.cell? ⟨w.heap.size, 2, none⟩ = some (.int .i64 b) ∧ w1.cell? ⟨w.heap.size, 3, none⟩ = some (.int .i64 z) ∧ w.heap.size < w1.heap.size from by
    have hb : Below w.heap.size w (w.alloc (.cells #[.slice A es.length c, .int .i64 a, .int .i64 b, .int .i64 z] 25)) := (Below.refl _ _).alloc (Nat.le_refl _) _
    exact ⟨_, rfl, hb, by go_simp, by go_simp, by go_simp, by go_simp, by simp⟩)
  go_enter Tryz.func14, Tryz.ntmps14
  go_wp2_with fail
  obtain ⟨w1, hw1, hb0, c00, c01, c02, c03, hz⟩ := Hs.out
  rw [← hw1]
  clear hw1 Hs
  have he1 := hes w1 hb0
  refine (ValidMill_any lo hi _ es a b z w1 he1 (by omega) hin).mono ?_
  rintro e x1 ⟨rfl, bx⟩
  replace c00 := keepB bx c00; replace c01 := keepB bx c01; replace c02 := keepB bx c02; replace c03 := keepB bx c03
  cases hv : vMill es a b z
  · have Hno := Lib.hid (show ahL es a b z = -1 by unfold ahL; rw [hv]; exact if_neg (by simp))
    clear hv
    go_wp2
    go_ret
    exact ⟨ret_int (by rw [Hno.out]), hb0.trans (bx.mono (by omega))⟩
  · have Hyes := Lib.hid (show ahL es a b z = heldL es by unfold ahL; rw [hv]; exact if_pos rfl)
    have hvm := vMill_iff.1 hv
    clear hv
    go_wp2_with fail
    refine (heldBy_any lo hi _ es a b z x1 (he1.below bx (by omega)) (by have := bx.size; omega) hvm.2.1 (fun k hk => (hvm.1 k hk).1)).mono ?_
    rintro e x2 ⟨rfl, bx2⟩
    go_wp2
    go_ret
    exact ⟨ret_int (by rw [Hyes.out]), hb0.trans ((bx.trans (bx2.mono bx.size)).mono (by omega))⟩
end Go.Proofs.YtkgepklapglmdaaGreatDoor
