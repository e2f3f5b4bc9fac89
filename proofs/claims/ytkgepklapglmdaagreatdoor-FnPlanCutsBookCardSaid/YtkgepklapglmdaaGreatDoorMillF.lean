/-
  Lemmas and contracts of single functions of this program, used by the proofs of its laws: what each call returns and what becomes of memory. Conditions: the hypotheses of each theorem.
-/
import Derived.Test.YtkgepklapglmdaaGreatDoorMillE
import Derived.Test.YtkgepklapglmdaaGreatDoorMillC
namespace Go.Proofs.YtkgepklapglmdaaGreatDoor
open Go.RowKit
attribute [local go_sem ↓] Go.wp_at_zero Go.wp_at_succ

/-- 's[m:]': where nothing is left of the room, the address stays -/
theorem ES.dropIf {w : World} {lo hi n c b o : Nat} {es : List Ent} (h : ES w lo hi (.slice (some ⟨b, o, none⟩) n c) es) {m : Nat} (hm : m ≤ es.length) : ES w lo hi (.slice (if c = m then some ⟨b, o, none⟩ else some ⟨b, o + m * 5, none⟩) (es.length - m) (c - m)) (es.drop m) := by
  by_cases hc : c = m
  · rw [if_pos hc]
    obtain ⟨A, c', cs, e, h1, h2, hr, hx⟩ := h
    injection e with e1 e2 e3
    have hl : es.length = m := by omega
    have he : es.drop m = [] := List.drop_eq_nil_of_le (by omega)
    rw [he, show es.length - m = ([] : List Ent).length by simp; omega]
    exact ⟨_, c - m, [], rfl, by simp, by omega, ⟨by simp, fun h => absurd h (by simp)⟩, fun k hk => absurd hk (by simp)⟩
  · rw [if_neg hc]
    exact h.drop hm
theorem cut_pvM {W L : Int} {ds ps : List (List Int)} (h : vCuts W L ds ps = true) {j : Nat} (hj : j < ps.length) : pv (gr ps j) W L = true := by
  have := (vCuts_iff.1 h).2.2 j hj
  unfold cutOk at this
  rw [Bool.and_eq_true] at this
  exact this.1
theorem part_of {p : List Int} (h : p.length = 4) : p = [gi p 0, gi p 1, gi p 2, gi p 3] := by
  match p, h with
  | [_, _, _, _], _ => rfl
set_option maxRecDepth 100000 in
set_option maxHeartbeats 4000000 in
theorem shipReel_any (lo hi : Nat) (v : Value) (es : List Ent) (a b z g : Int) (i : Nat) (w : World) (h : ES w lo hi v es) (hhi : hi ≤ w.heap.size) (hl : es.length ≤ 1000) (hi9 : i < es.length) (hve : vEnt (ge es i) = true) (hb9 : 0 ≤ b ∧ b ≤ 900000) (hz9 : 0 ≤ z ∧ z ≤ 900000) :
    Calls Tryz.prog 119 #[.agg #[v, .int .i64 a, .int .i64 b, .int .i64 z], .int .i64 i, .int .i64 g] w fun e w' => ∃ v', e = .returned (.agg #[v', .int .i64 a, .int .i64 (b + goodA (ge es i) g), .int .i64 (z + ((ge es i).W * (ge es i).L - goodA (ge es i) g))]) ∧ OwnX w' w.heap.size lo hi 58 v' (es.eraseIdx i) ∧ Below w.heap.size w w' := by
  obtain ⟨A, c, rfl, hc, hm⟩ := h.form
  have hes : ∀ w1, Below w.heap.size w w1 → ES w1 lo hi (.slice A es.length c) es := fun w1 hb => h.below hb hhi
  obtain ⟨b9, o, Ad, cd, Ap, cp, rfl, hl9, hh9, e0, e1, e2, e3, e4, hd, hp, _⟩ := h.cell hi9
  have hbw9 : b9 < w.heap.size := by omega
  have hi0 : (0 : Int) ≤ (i : Int) := by omega
  have hi1 : (i : Int) < (es.length : Int) := by omega
  obtain ⟨E, hE⟩ : ∃ E, E = ge es i := ⟨_, rfl⟩
  rw [← hE] at e0 e1 e2 e3 e4 hd hp hve
  have HE := Lib.hid hE
  clear hE
  have hcu := (vEnt_iff.1 hve).2.2
  have hlp : E.ps.length ≤ 60 := (vCuts_iff.1 hcu).2.1
  have har := area_rng hve
  have HG := Lib.hid (fun k hk => goodK_rng hve g k hk)
  have HVE := Lib.hid hve
  have Hcu := Lib.hid hcu
  clear hve hcu
  have Hs := Lib.hid (show ∃ w1, w1 = ((w.alloc (.cells #[.slice (some ⟨b9, o, none⟩) es.length c, .int .i64 a, .int .i64 b, .int .i64 z] 25)).alloc (.cells #[.slice none 0 0, .int .i64 0, .int .i64 0, .int .i64 0] 25)) ∧ Below w.heap.size w w1 ∧ w1.cell? ⟨w.heap.size, 0, none⟩ = some (.slice (some ⟨b9, o, none⟩) es.length c) ∧ w1.cell? ⟨w.heap.size, 1, none⟩ = some (.int .i64 a) ∧ w1.cell? ⟨w.heap.size, 2, none⟩ = some (.int .i64 b) ∧ w1.cell? ⟨w.heap.size, 3, none⟩ = some (.int .i64 z) ∧ w1.frozen? ⟨w.heap.size, 0, none⟩ = false ∧ w1.frozen? ⟨w.heap.size, 1, none⟩ = false ∧ w1.frozen? ⟨w.heap.size, 2, none⟩ = false ∧ w1.frozen? ⟨w.heap.size, 3, none⟩ = false ∧ w1.cell? ⟨w.heap.size + 1, 0, none⟩ = some (.slice none 0 0) ∧ w1.cell? ⟨w.heap.size + 1, 1, none⟩ = some (.int .i64 0) ∧ w1.cell? ⟨w.heap.size + 1, 2, none⟩ = some (.int .i64 0) ∧ w1.cell? ⟨w.heap.size + 1, 3, none⟩ = some (.int .i64 0) ∧ w1.frozen? ⟨w.heap.size + 1, 0, none⟩ = false ∧ w1.frozen? ⟨w.heap.size + 1, 1, none⟩ = false ∧ w1.frozen? ⟨w.heap.size + 1, 2, none⟩ = false ∧ w1.frozen? ⟨w.heap.size + 1, 3, none⟩ = false ∧ w.heap.size + 1 < w1.heap.size from by
    have hb : Below w.heap.size w ((w.alloc (.cells #[.slice (some ⟨b9, o, none⟩) es.length c, .int .i64 a, .int .i64 b, .int .i64 z] 25)).alloc (.cells #[.slice none 0 0, .int .i64 0, .int .i64 0, .int .i64 0] 25)) := ((Below.refl _ _).alloc (Nat.le_refl _) _).alloc (by simp) _
    exact ⟨_, rfl, hb, by go_simp, by go_simp, by go_simp, by go_simp, by go_simp, by go_simp, by go_simp, by go_simp, by go_simp, by go_simp, by go_simp, by go_simp, by go_simp, by go_simp, by go_simp, by go_simp, by simp⟩)
  go_enter Tryz.func119, Tryz.ntmps119
  go_wp2
  obtain ⟨w1, hw1, hb0, c00, c01, c02, c03, f00, f01, f02, f03, c10, c11, c12, c13, f10, f11, f12, f13, hz⟩ := Hs.out
  have HZ := Lib.hid (show w1.heap.size = w.heap.size + 1 + 1 by rw [hw1]; simp)
  rw [← hw1]
  clear hw1 Hs
  obtain ⟨w2, hw2⟩ : ∃ w2, w2 = w1.alloc (.cells #[.int .i64 E.lb, .int .i64 E.W, .int .i64 E.L, .slice Ad E.ds.length cd, .slice Ap E.ps.length cp] 58) := ⟨_, rfl⟩
  have b2 : Below w1.heap.size w1 w2 := by rw [hw2]; exact (Below.refl _ _).alloc (Nat.le_refl _) _
  have k0 : w2.cell? ⟨w1.heap.size, 0, none⟩ = some (.int .i64 E.lb) := by rw [hw2]; go_simp
  have k1 : w2.cell? ⟨w1.heap.size, 1, none⟩ = some (.int .i64 E.W) := by rw [hw2]; go_simp
  have k2 : w2.cell? ⟨w1.heap.size, 2, none⟩ = some (.int .i64 E.L) := by rw [hw2]; go_simp
  have k3 : w2.cell? ⟨w1.heap.size, 3, none⟩ = some (.slice Ad E.ds.length cd) := by rw [hw2]; go_simp
  have k4 : w2.cell? ⟨w1.heap.size, 4, none⟩ = some (.slice Ap E.ps.length cp) := by rw [hw2]; go_simp
  have hz2 : w1.heap.size < w2.heap.size := by rw [hw2]; simp
  rw [HZ.out] at k0 k1 k2 k3 k4
  replace c00 := keepB b2 c00; replace c01 := keepB b2 c01; replace c02 := keepB b2 c02; replace c03 := keepB b2 c03; replace c10 := keepB b2 c10; replace c11 := keepB b2 c11; replace c12 := keepB b2 c12; replace c13 := keepB b2 c13
  replace f00 := keepF b2 (by first | (simp; done) | (simp; omega)) f00; replace f01 := keepF b2 (by first | (simp; done) | (simp; omega)) f01; replace f02 := keepF b2 (by first | (simp; done) | (simp; omega)) f02; replace f03 := keepF b2 (by first | (simp; done) | (simp; omega)) f03; replace f10 := keepF b2 (by first | (simp; done) | (simp; omega)) f10; replace f11 := keepF b2 (by first | (simp; done) | (simp; omega)) f11; replace f12 := keepF b2 (by first | (simp; done) | (simp; omega)) f12; replace f13 := keepF b2 (by first | (simp; done) | (simp; omega)) f13
  have hb2 := hb0.trans (b2.mono (by omega))
  have hs2 := hes w2 hb2
  have hd2 := hd.below hb2 hhi
  have hp2 := hp.below hb2 hhi
  rw [← hw2]
  clear hw2 b2 hb0 hes h hd hp e0 e1 e2 e3 e4
  go_loopw [8, 9] (fun gd j wr => ∃ k : Nat, k ≤ E.ps.length ∧ j = .int .i64 k ∧ gd = .int .i64 (goodK E g k) ∧ Below w2.heap.size w2 wr) (fun _ j _ => E.ps.length - (intOf j).toNat)
  case atStart => exact ⟨0, by omega, rfl, rfl, Below.refl _ _⟩
  case round =>
    obtain ⟨k, hk, rfl, rfl, bw⟩ := hrel
    have hzr := bw.size
    replace c00 := keepB bw c00; replace c01 := keepB bw c01; replace c02 := keepB bw c02; replace c03 := keepB bw c03; replace c10 := keepB bw c10; replace c11 := keepB bw c11; replace c12 := keepB bw c12; replace c13 := keepB bw c13; replace k0 := keepB bw k0; replace k1 := keepB bw k1; replace k2 := keepB bw k2; replace k3 := keepB bw k3; replace k4 := keepB bw k4
    have hgr := HG.out k hk
    by_cases hlt : k < E.ps.length
    · have hpr := hp2.below bw (by omega)
      have hp64 := (hpr.all _ (gr_mem hlt)).1
      obtain ⟨b8, o8, rfl, _, _, p0, p1, p2, p3⟩ := hpr.c4 hlt
      have Hdr := Lib.hid (hd2.below bw (by omega))
      have hpv := insB_true (cut_pvM Hcu.out hlt)
      have hWL := vReel_rng (vCuts_iff.1 Hcu.out).1
      have harea := areaP_rng HVE.out hlt
      have HS := Lib.hid (goodK_succ (e := E) (g := g) hlt)
      have HP := Lib.hid (part_of hp64)
      have hk0 : (0 : Int) ≤ (k : Int) := by omega
      have hk1 : (k : Int) < (E.ps.length : Int) := by omega
      obtain ⟨l, hl8⟩ : ∃ l, l = gi (gr E.ps k) 0 := ⟨_, rfl⟩
      obtain ⟨r, hr8⟩ : ∃ l, l = gi (gr E.ps k) 1 := ⟨_, rfl⟩
      obtain ⟨f, hf8⟩ : ∃ l, l = gi (gr E.ps k) 2 := ⟨_, rfl⟩
      obtain ⟨t, ht8⟩ : ∃ l, l = gi (gr E.ps k) 3 := ⟨_, rfl⟩
      rw [← hl8, ← hr8, ← hf8, ← ht8] at HP hpv
      rw [← hl8] at p0
      rw [← hr8] at p1
      rw [← hf8] at p2
      rw [← ht8] at p3
      obtain ⟨q, hq⟩ : ∃ q, q = worstL E.ds [l, r, f, t] := ⟨_, rfl⟩
      have HQ := Lib.hid hq
      have HAr := Lib.hid (show areaP (gr E.ps k) = (r - l) * (t - f) by unfold areaP; rw [← hl8, ← hr8, ← hf8, ← ht8])
      rw [HP.out, ← hq] at HS
      rw [← HP.out] at HS
      obtain ⟨m, hm8⟩ : ∃ m, m = goodK E g k := ⟨_, rfl⟩
      rw [← hm8] at HS hgr ⊢
      have Hb := Lib.hid bw
      clear hq hl8 hr8 hf8 ht8 hm8 hpr hp64 bw
      by_cases hqg : q ≤ g
      · have HS2 := Lib.hid (HS.out.trans (if_pos hqg))
        obtain ⟨ar, har8⟩ : ∃ x, x = areaP (gr E.ps k) := ⟨_, rfl⟩
        rw [← har8] at HS2 harea HAr
        clear HS har8
        go_wp2
        refine wp_region_held_drew (S := fun w' => w'.cell? ⟨w.heap.size + 1 + 1, 0, none⟩ = some (.int .i64 (E.lb)) ∧ w'.cell? ⟨w.heap.size + 1 + 1, 1, none⟩ = some (.int .i64 (E.W)) ∧ w'.cell? ⟨w.heap.size + 1 + 1, 2, none⟩ = some (.int .i64 (E.L)) ∧ w'.cell? ⟨w.heap.size + 1 + 1, 3, none⟩ = some (.slice Ad E.ds.length cd) ∧ w'.cell? ⟨w.heap.size + 1 + 1, 4, none⟩ = some (.slice (some ⟨b8, o8, none⟩) E.ps.length cp) ∧ w'.cell? ⟨b8, o8 + k * 4, none⟩ = some (.int .i64 l) ∧ w'.cell? ⟨b8, o8 + k * 4 + 1, none⟩ = some (.int .i64 r) ∧ w'.cell? ⟨b8, o8 + k * 4 + 2, none⟩ = some (.int .i64 f) ∧ w'.cell? ⟨b8, o8 + k * 4 + 3, none⟩ = some (.int .i64 t)) (by kernel_rfl) ?_ (fun hHeld => ?_)
        · (first | (try dsimp only); go_keep | (go_split_ands; refine ⟨?_, ?_, ?_, ?_, ?_, ?_, ?_, ?_, ?_⟩ <;> first | exact keepB bx2 (by assumption) | exact keepB bx1 (by assumption) | assumption))
        refine tkW 0 22 rfl rfl (by kernel_rfl) hHeld (by intro w hSw; (try dsimp only at hSw); go_simp; try with_reducible rfl) ?_ (fun _ _ _ h => h)
        simp only [Act.put, lyA, lyB, lyC]
        refine tkW 1 23 rfl rfl (by kernel_rfl) hHeld (by intro w hSw; (try dsimp only at hSw); go_simp; try with_reducible rfl) ?_ (fun _ _ _ h => h)
        simp only [Act.put, lyA, lyB, lyC]
        refine tkW 2 24 rfl rfl (by kernel_rfl) hHeld (by intro w hSw; (try dsimp only at hSw); go_simp; try with_reducible rfl) ?_ (fun _ _ _ h => h)
        simp only [Act.put, lyA, lyB, lyC]
        refine tkW 3 25 rfl rfl (by kernel_rfl) hHeld (by intro w hSw; (try dsimp only at hSw); go_simp; try with_reducible rfl) ?_ (fun _ _ _ h => h)
        simp only [Act.put, lyA, lyB, lyC]
        refine tkW 4 26 rfl rfl (by kernel_rfl) hHeld (by intro w hSw; (try dsimp only at hSw); go_simp; try with_reducible rfl) ?_ (fun _ _ _ h => h)
        simp only [Act.put, lyA, lyB, lyC]
        refine tkW 5 27 rfl rfl (by kernel_rfl) hHeld (by intro w hSw; (try dsimp only at hSw); go_simp; try with_reducible rfl) ?_ (fun _ _ _ h => h)
        simp only [Act.put, lyA, lyB, lyC]
        refine tkW 6 28 rfl rfl (by kernel_rfl) hHeld (by intro w hSw; (try dsimp only at hSw); go_simp; try with_reducible rfl) ?_ (fun _ _ _ h => h)
        simp only [Act.put, lyA, lyB, lyC]
        refine tkW 8 30 rfl rfl (by kernel_rfl) hHeld (by intro w hSw; (try dsimp only at hSw); go_simp; try with_reducible rfl) ?_ (fun _ _ _ h => h)
        simp only [Act.put, lyA, lyB, lyC]
        refine wpAnyH_ready (rs := [7]) (by kernel_rfl) (by simp) ?_
        refine AllReadyH.cons (o := ⟨some 29, _, _, _, _, _⟩) rfl (fun K hK => ?_) AllReadyH.nil
        go_simp
        go_at_call 145
        refine (worst_any lo hi E.W E.L _ E.ds _ _ _ _ _ (Hdr.out.drewN 1) (by simp; omega)).mono ?_
        rw [← HQ.out]
        rintro e x1 ⟨rfl, bx1⟩
        go_wp2_with fail
        refine hK.out _ _ ?_ (fun hHeld2 => ?_)
        · (first | (try dsimp only); go_keep | (go_split_ands; refine ⟨?_, ?_, ?_, ?_, ?_, ?_, ?_, ?_, ?_⟩ <;> first | exact keepB bx2 (by assumption) | exact keepB bx1 (by assumption) | assumption))
        clear hK K hHeld
        have hHeld := hHeld2
        clear hHeld2
        try simp only [Act.put, lyA, lyB, lyC]
        refine tkW 9 31 rfl rfl (by kernel_rfl) hHeld (by intro w hSw; (try dsimp only at hSw); go_simp; try with_reducible rfl) ?_ (fun _ _ _ h => h)
        simp only [Act.put, lyA, lyB, lyC]
        refine wpAnyH_done (by kernel_rfl) ?_ _
        have bx2 := of_drew bx1
        have Hb2 := Lib.hid (Hb.out.trans (bx2.mono hzr))
        obtain ⟨k0, k1, k2, k3, k4, p0, p1, p2, p3⟩ := hHeld
        clear bx1 bx2 Hb c00 c01 c02 c03 c10 c11 c12 c13
        have g9 : wrap64 (m + ar) = m + ar := w64 (by omega)
        have g8 : IntKind.i64.wrap (m + ar) = m + ar := IntWalk.i64_in _ (by omega)
        go_wp2_with fail
        refine (partArea_any l r f t x1 (by omega) (by omega) (by omega) (by omega) (by omega) (by omega)).mono ?_
        rw [← HAr.out]
        rintro e x2 ⟨rfl, bx⟩
        have Hb3 := Lib.hid (Hb2.out.trans (bx.mono Hb2.out.size))
        clear bx k0 k1 k2 k3 k4 p0 p1 p2 p3
        go_wp2
        go_roundw
        case rel => exact ⟨k + 1, by omega, by go_num, by rw [HS2.out], Hb3.out⟩
        case measure => simp [intOf]; omega
      · have HS2 := Lib.hid (HS.out.trans (if_neg hqg))
        clear HS
        go_wp2
        refine wp_region_held_drew (S := fun w' => w'.cell? ⟨w.heap.size + 1 + 1, 0, none⟩ = some (.int .i64 (E.lb)) ∧ w'.cell? ⟨w.heap.size + 1 + 1, 1, none⟩ = some (.int .i64 (E.W)) ∧ w'.cell? ⟨w.heap.size + 1 + 1, 2, none⟩ = some (.int .i64 (E.L)) ∧ w'.cell? ⟨w.heap.size + 1 + 1, 3, none⟩ = some (.slice Ad E.ds.length cd) ∧ w'.cell? ⟨w.heap.size + 1 + 1, 4, none⟩ = some (.slice (some ⟨b8, o8, none⟩) E.ps.length cp) ∧ w'.cell? ⟨b8, o8 + k * 4, none⟩ = some (.int .i64 l) ∧ w'.cell? ⟨b8, o8 + k * 4 + 1, none⟩ = some (.int .i64 r) ∧ w'.cell? ⟨b8, o8 + k * 4 + 2, none⟩ = some (.int .i64 f) ∧ w'.cell? ⟨b8, o8 + k * 4 + 3, none⟩ = some (.int .i64 t)) (by kernel_rfl) ?_ (fun hHeld => ?_)
        · (first | (try dsimp only); go_keep | (go_split_ands; refine ⟨?_, ?_, ?_, ?_, ?_, ?_, ?_, ?_, ?_⟩ <;> first | exact keepB bx2 (by assumption) | exact keepB bx1 (by assumption) | assumption))
        refine tkW 0 22 rfl rfl (by kernel_rfl) hHeld (by intro w hSw; (try dsimp only at hSw); go_simp; try with_reducible rfl) ?_ (fun _ _ _ h => h)
        simp only [Act.put, lyA, lyB, lyC]
        refine tkW 1 23 rfl rfl (by kernel_rfl) hHeld (by intro w hSw; (try dsimp only at hSw); go_simp; try with_reducible rfl) ?_ (fun _ _ _ h => h)
        simp only [Act.put, lyA, lyB, lyC]
        refine tkW 2 24 rfl rfl (by kernel_rfl) hHeld (by intro w hSw; (try dsimp only at hSw); go_simp; try with_reducible rfl) ?_ (fun _ _ _ h => h)
        simp only [Act.put, lyA, lyB, lyC]
        refine tkW 3 25 rfl rfl (by kernel_rfl) hHeld (by intro w hSw; (try dsimp only at hSw); go_simp; try with_reducible rfl) ?_ (fun _ _ _ h => h)
        simp only [Act.put, lyA, lyB, lyC]
        refine tkW 4 26 rfl rfl (by kernel_rfl) hHeld (by intro w hSw; (try dsimp only at hSw); go_simp; try with_reducible rfl) ?_ (fun _ _ _ h => h)
        simp only [Act.put, lyA, lyB, lyC]
        refine tkW 5 27 rfl rfl (by kernel_rfl) hHeld (by intro w hSw; (try dsimp only at hSw); go_simp; try with_reducible rfl) ?_ (fun _ _ _ h => h)
        simp only [Act.put, lyA, lyB, lyC]
        refine tkW 6 28 rfl rfl (by kernel_rfl) hHeld (by intro w hSw; (try dsimp only at hSw); go_simp; try with_reducible rfl) ?_ (fun _ _ _ h => h)
        simp only [Act.put, lyA, lyB, lyC]
        refine tkW 8 30 rfl rfl (by kernel_rfl) hHeld (by intro w hSw; (try dsimp only at hSw); go_simp; try with_reducible rfl) ?_ (fun _ _ _ h => h)
        simp only [Act.put, lyA, lyB, lyC]
        refine wpAnyH_ready (rs := [7]) (by kernel_rfl) (by simp) ?_
        refine AllReadyH.cons (o := ⟨some 29, _, _, _, _, _⟩) rfl (fun K hK => ?_) AllReadyH.nil
        go_simp
        go_at_call 145
        refine (worst_any lo hi E.W E.L _ E.ds _ _ _ _ _ (Hdr.out.drewN 1) (by simp; omega)).mono ?_
        rw [← HQ.out]
        rintro e x1 ⟨rfl, bx1⟩
        go_wp2_with fail
        refine hK.out _ _ ?_ (fun hHeld2 => ?_)
        · (first | (try dsimp only); go_keep | (go_split_ands; refine ⟨?_, ?_, ?_, ?_, ?_, ?_, ?_, ?_, ?_⟩ <;> first | exact keepB bx2 (by assumption) | exact keepB bx1 (by assumption) | assumption))
        clear hK K hHeld
        have hHeld := hHeld2
        clear hHeld2
        try simp only [Act.put, lyA, lyB, lyC]
        refine tkW 9 31 rfl rfl (by kernel_rfl) hHeld (by intro w hSw; (try dsimp only at hSw); go_simp; try with_reducible rfl) ?_ (fun _ _ _ h => h)
        simp only [Act.put, lyA, lyB, lyC]
        refine wpAnyH_done (by kernel_rfl) ?_ _
        have bx2 := of_drew bx1
        have Hb2 := Lib.hid (Hb.out.trans (bx2.mono hzr))
        clear bx1 bx2 Hb c00 c01 c02 c03 c10 c11 c12 c13
        go_wp2
        go_roundw
        case rel => exact ⟨k + 1, by omega, by go_num, by rw [HS2.out], Hb2.out⟩
        case measure => simp [intOf]; omega
    · obtain ⟨G, hG⟩ : ∃ G, G = goodA E g := ⟨_, rfl⟩
      have HGd := Lib.hid (show goodK E g k = G by rw [hG, show k = E.ps.length by omega]; exact goodK_all E g)
      have hGr := good_le HVE.out g
      rw [← hG] at hGr
      rw [HGd.out]
      have Hb := Lib.hid bw
      have hsr := hs2.below bw (by omega)
      replace f00 := keepF bw (by first | (simp; done) | (simp; omega)) f00; replace f01 := keepF bw (by first | (simp; done) | (simp; omega)) f01; replace f02 := keepF bw (by first | (simp; done) | (simp; omega)) f02; replace f03 := keepF bw (by first | (simp; done) | (simp; omega)) f03; replace f10 := keepF bw (by first | (simp; done) | (simp; omega)) f10; replace f11 := keepF bw (by first | (simp; done) | (simp; omega)) f11; replace f12 := keepF bw (by first | (simp; done) | (simp; omega)) f12; replace f13 := keepF bw (by first | (simp; done) | (simp; omega)) f13
      clear bw hs2 hd2 hp2 hG hgr
      have g1 : IntKind.i64.wrap ((i : Int) + 1) = (i : Int) + 1 := IntWalk.i64_in _ (by omega)
      have g2 : ((i : Int) + 1).toNat = i + 1 := by omega
      have g3 : (0 : Int) ≤ (i : Int) + 1 := by omega
      have g4 : (i : Int) + 1 ≤ (es.length : Int) := by omega
      have g5 : i + 1 ≤ es.length := by omega
      have g6 : i ≤ es.length := by omega
      have g7 : i ≤ c := by omega
      have g8 : i + 1 ≤ c := by omega
      have bal : Below wr.heap.size wr (wr.alloc (.cells #[] 58)) := (Below.refl _ _).alloc (Nat.le_refl _) _
      have HOX := Lib.hid (OwnX.empty wr wr.heap.size lo hi 58 (Nat.le_refl _))
      have HS1 := Lib.hid ((hsr.below bal (by omega)).take g6)
      have HS2 := Lib.hid (hsr.dropIf g5)
      have HLn := Lib.hid (show (es.take i ++ es.drop (i + 1)) = es.eraseIdx i from (List.eraseIdx_eq_take_drop_succ es i).symm)
      have htl : (es.take i).length ≤ 1000 := by rw [List.length_take]; omega
      have hdl : (es.drop (i + 1)).length ≤ 1000 := by rw [List.length_drop]; omega
      have Hbal := Lib.hid bal
      clear bal hsr
      go_wp2
      refine wp_region_last (S := fun w' => w'.cell? ⟨w.heap.size, 0, none⟩ = some (.slice (some ⟨b9, o, none⟩) es.length c) ∧ w'.cell? ⟨w.heap.size, 1, none⟩ = some (.int .i64 a) ∧ w'.cell? ⟨w.heap.size, 2, none⟩ = some (.int .i64 b) ∧ w'.cell? ⟨w.heap.size, 3, none⟩ = some (.int .i64 z)) 13 (by kernel_rfl) ?_ (fun hHeld => ?_)
      · (first | (try dsimp only); go_keep | (go_split_ands; refine ⟨?_, ?_, ?_, ?_⟩ <;> first | exact keepB bx2 (by assumption) | exact keepB bx1 (by assumption) | assumption))
      refine AnyL.take (i := 1) (oi := ⟨some 41, _, _, _, _, _⟩) (v := _) rfl (by kernel_rfl) (by kernel_rfl) (by kernel_rfl) (by kernel_rfl) (fun _ _ _ h => h) (Or.inl ⟨by kernel_rfl, by intro w hSw; (try dsimp only at hSw); go_simp; try with_reducible rfl⟩) (by assumption) ?_
      simp only [Act.put, lyA, lyB, lyC]
      refine AnyL.take (i := 2) (oi := ⟨some 42, _, _, _, _, _⟩) (v := _) rfl (by kernel_rfl) (by kernel_rfl) (by kernel_rfl) (by kernel_rfl) (fun _ _ _ h => h) (Or.inl ⟨by kernel_rfl, by intro w hSw; (try dsimp only at hSw); go_simp; try with_reducible rfl⟩) (by assumption) ?_
      simp only [Act.put, lyA, lyB, lyC]
      refine AnyL.take (i := 3) (oi := ⟨some 43, _, _, _, _, _⟩) (v := _) rfl (by kernel_rfl) (by kernel_rfl) (by kernel_rfl) (by kernel_rfl) (fun _ _ _ h => h) (Or.inl ⟨by kernel_rfl, by intro w hSw; (try dsimp only at hSw); go_simp; try with_reducible rfl⟩) (by assumption) ?_
      simp only [Act.put, lyA, lyB, lyC]
      refine AnyL.take (i := 4) (oi := ⟨some 44, _, _, _, _, _⟩) (v := _) rfl (by kernel_rfl) (by kernel_rfl) (by kernel_rfl) (by kernel_rfl) (fun _ _ _ h => h) (Or.inl ⟨by kernel_rfl, by intro w hSw; (try dsimp only at hSw); go_simp; try with_reducible rfl⟩) (by assumption) ?_
      simp only [Act.put, lyA, lyB, lyC]
      refine AnyL.take (i := 6) (oi := ⟨some 46, _, _, _, _, _⟩) (v := _) rfl (by kernel_rfl) (by kernel_rfl) (by kernel_rfl) (by kernel_rfl) (fun _ _ _ h => h) (Or.inl ⟨by kernel_rfl, by intro w hSw; (try dsimp only at hSw); go_simp; try with_reducible rfl⟩) (by assumption) ?_
      simp only [Act.put, lyA, lyB, lyC]
      refine AnyL.take (i := 7) (oi := ⟨some 47, _, _, _, _, _⟩) (v := _) rfl (by kernel_rfl) (by kernel_rfl) (by kernel_rfl) (by kernel_rfl) (fun _ _ _ h => h) (Or.inl ⟨by kernel_rfl, by intro w hSw; (try dsimp only at hSw); go_simp; try with_reducible rfl⟩) (by assumption) ?_
      simp only [Act.put, lyA, lyB, lyC]
      refine AnyL.take (i := 8) (oi := ⟨some 48, _, _, _, _, _⟩) (v := _) rfl (by kernel_rfl) (by kernel_rfl) (by kernel_rfl) (by kernel_rfl) (fun _ _ _ h => h) (Or.inl ⟨by kernel_rfl, by intro w hSw; (try dsimp only at hSw); go_simp; try with_reducible rfl⟩) (by assumption) ?_
      simp only [Act.put, lyA, lyB, lyC]
      refine AnyL.take (i := 9) (oi := ⟨some 49, _, _, _, _, _⟩) (v := _) rfl (by kernel_rfl) (by kernel_rfl) (by kernel_rfl) (by kernel_rfl) (fun _ _ _ h => h) (Or.inl ⟨by kernel_rfl, by intro w hSw; (try dsimp only at hSw); go_simp; try with_reducible rfl⟩) (by assumption) ?_
      simp only [Act.put, lyA, lyB, lyC]
      refine AnyL.take (i := 10) (oi := ⟨some 50, _, _, _, _, _⟩) (v := _) rfl (by kernel_rfl) (by kernel_rfl) (by kernel_rfl) (by kernel_rfl) (fun _ _ _ h => h) (Or.inl ⟨by kernel_rfl, by intro w hSw; (try dsimp only at hSw); go_simp; try with_reducible rfl⟩) (by assumption) ?_
      simp only [Act.put, lyA, lyB, lyC]
      refine AnyL.one (i := 0) (o := ⟨some 40, _, _, _, _, _⟩) (by kernel_rfl) rfl (fun K hK => ?_)
      go_simp
      refine hK.out _ _ ?_ (fun hHeld2 => ?_)
      · (first | (try dsimp only); go_keep | (go_split_ands; refine ⟨?_, ?_, ?_, ?_⟩ <;> first | exact keepB bx2 (by assumption) | exact keepB bx1 (by assumption) | assumption))
      clear hK K hHeld
      have hHeld := hHeld2
      clear hHeld2
      try simp only [Act.put, lyA, lyB, lyC]
      refine AnyL.one (i := 5) (o := ⟨some 45, _, _, _, _, _⟩) (by kernel_rfl) rfl (fun K hK => ?_)
      refine step_appendXs' SlEntry _ rfl (.tmp 40) (.tmp 44) rfl wr.heap.size lo hi (.slice (some ⟨b9, o, none⟩) i c) (.slice (some ⟨wr.heap.size, 0, none⟩) 0 0) [] (es.take i) (by rfl) (by rfl) HOX.out HS1.out (by simp) (by omega) (by simp; omega) ?_
      intro v1 w5 ho1 hg1 hb1
      rw [List.nil_append] at ho1
      obtain ⟨A1, c1, hv1, _⟩ := ho1.form
      obtain ⟨n1, hn1⟩ : ∃ n1, n1 = (es.take i).length := ⟨_, rfl⟩
      rw [← hn1] at hv1
      subst hv1
      clear hn1
      have b5 : Below wr.heap.size wr w5 := Hbal.out.trans (below_drew hg1.below)
      replace c00 := keepB b5 c00; replace c01 := keepB b5 c01; replace c02 := keepB b5 c02; replace c03 := keepB b5 c03; replace c10 := keepB b5 c10; replace c11 := keepB b5 c11; replace c12 := keepB b5 c12; replace c13 := keepB b5 c13; replace k0 := keepB b5 k0; replace k1 := keepB b5 k1; replace k2 := keepB b5 k2; replace k3 := keepB b5 k3; replace k4 := keepB b5 k4
      replace f00 := keepF b5 (by first | (simp; done) | (simp; omega)) f00; replace f01 := keepF b5 (by first | (simp; done) | (simp; omega)) f01; replace f02 := keepF b5 (by first | (simp; done) | (simp; omega)) f02; replace f03 := keepF b5 (by first | (simp; done) | (simp; omega)) f03; replace f10 := keepF b5 (by first | (simp; done) | (simp; omega)) f10; replace f11 := keepF b5 (by first | (simp; done) | (simp; omega)) f11; replace f12 := keepF b5 (by first | (simp; done) | (simp; omega)) f12; replace f13 := keepF b5 (by first | (simp; done) | (simp; omega)) f13
      have hz5 := b5.size
      have Hb5 := Lib.hid (Hb.out.trans (b5.mono hzr))
      have HS3 := Lib.hid (HS2.out.below b5 (by omega))
      have Ho5 := Lib.hid ho1
      clear ho1 hg1 hb1 b5 HOX HS1 HS2
      refine hK.out _ _ ?_ (fun hHeld2 => ?_)
      · (first | (try dsimp only); go_keep | (go_split_ands; refine ⟨?_, ?_, ?_, ?_⟩ <;> first | exact keepB bx2 (by assumption) | exact keepB bx1 (by assumption) | assumption))
      clear hK K hHeld
      have hHeld := hHeld2
      clear hHeld2
      try simp only [Act.put, lyA, lyB, lyC]
      refine AnyL.one (i := 11) (o := ⟨some 51, _, _, _, _, _⟩) (by kernel_rfl) rfl (fun K hK => ?_)
      refine step_appendXs' SlEntry w5 rfl (.tmp 45) (.tmp 50) rfl wr.heap.size lo hi (.slice (if c = i + 1 then some ⟨b9, o, none⟩ else some ⟨b9, o + (i + 1) * 5, none⟩) (es.length - (i + 1)) (c - (i + 1))) (.slice A1 n1 c1) (es.take i) (es.drop (i + 1)) (by rfl) (by rfl) Ho5.out HS3.out (by omega) (by omega) (by omega) ?_
      intro v2 w6 ho2 hg2 hb2
      rw [HLn.out] at ho2
      obtain ⟨A2, c2, hv2, _⟩ := ho2.form
      obtain ⟨n2, hn2⟩ : ∃ n2, n2 = (es.eraseIdx i).length := ⟨_, rfl⟩
      rw [← hn2] at hv2
      subst hv2
      clear hn2
      have b6 := hg2.below
      replace c00 := keepC b6 (by first | (simp; done) | (simp; omega)) c00; replace c01 := keepC b6 (by first | (simp; done) | (simp; omega)) c01; replace c02 := keepC b6 (by first | (simp; done) | (simp; omega)) c02; replace c03 := keepC b6 (by first | (simp; done) | (simp; omega)) c03; replace c10 := keepC b6 (by first | (simp; done) | (simp; omega)) c10; replace c11 := keepC b6 (by first | (simp; done) | (simp; omega)) c11; replace c12 := keepC b6 (by first | (simp; done) | (simp; omega)) c12; replace c13 := keepC b6 (by first | (simp; done) | (simp; omega)) c13; replace k0 := keepC b6 (by first | (simp; done) | (simp; omega)) k0; replace k1 := keepC b6 (by first | (simp; done) | (simp; omega)) k1; replace k2 := keepC b6 (by first | (simp; done) | (simp; omega)) k2; replace k3 := keepC b6 (by first | (simp; done) | (simp; omega)) k3; replace k4 := keepC b6 (by first | (simp; done) | (simp; omega)) k4
      replace f00 := keepF b6 (by first | (simp; done) | (simp; omega)) f00; replace f01 := keepF b6 (by first | (simp; done) | (simp; omega)) f01; replace f02 := keepF b6 (by first | (simp; done) | (simp; omega)) f02; replace f03 := keepF b6 (by first | (simp; done) | (simp; omega)) f03; replace f10 := keepF b6 (by first | (simp; done) | (simp; omega)) f10; replace f11 := keepF b6 (by first | (simp; done) | (simp; omega)) f11; replace f12 := keepF b6 (by first | (simp; done) | (simp; omega)) f12; replace f13 := keepF b6 (by first | (simp; done) | (simp; omega)) f13
      have hz6 := hg2.size
      have Hb6 := Lib.hid (Hb5.out.trans (b6.mono (by omega)))
      have Ho6 := Lib.hid ho2
      clear ho2 hg2 hb2 b6 Ho5 Hb5 HS3
      refine hK.out _ _ ?_ (fun hHeld2 => ?_)
      · (first | (try dsimp only); go_keep | (go_split_ands; refine ⟨?_, ?_, ?_, ?_⟩ <;> first | exact keepB bx2 (by assumption) | exact keepB bx1 (by assumption) | assumption))
      clear hK K hHeld
      have hHeld := hHeld2
      clear hHeld2
      try simp only [Act.put, lyA, lyB, lyC]
      refine AnyL.take (i := 12) (oi := ⟨some 52, _, _, _, _, _⟩) (v := _) rfl (by kernel_rfl) (by kernel_rfl) (by kernel_rfl) (by kernel_rfl) (fun _ _ _ h => h) (Or.inl ⟨by kernel_rfl, by intro w hSw; (try dsimp only at hSw); go_simp; try with_reducible rfl⟩) (by assumption) ?_
      simp only [Act.put, lyA, lyB, lyC]
      refine AnyL.last (o := ⟨none, _, _, _, _, _⟩) (by kernel_rfl) rfl (by kernel_rfl) (fun K hK => ?_)
      go_simp
      refine hK.out _ _ ?_
      clear hK K hHeld
      generalize (if c = i + 1 then some ⟨b9, o, none⟩ else some ⟨b9, o + (i + 1) * 5, none⟩ : Option Addr) = Az
      clear g1 g2
      have Hbz := Lib.hid (hb2.trans (Hb6.out.mono (by omega)))
      have g9 : wrap64 (b + G) = b + G := w64 (by omega)
      have g10 : IntKind.i64.wrap (b + G) = b + G := IntWalk.i64_in _ (by omega)
      go_wp2
      obtain ⟨w7, hw7⟩ : ∃ w7, w7 = (w6.setCell ⟨w.heap.size, 0, none⟩ (.slice A2 n2 c2)).setCell ⟨w.heap.size, 2, none⟩ (.int .i64 (b + G)) := ⟨_, rfl⟩
      have c00 : w7.cell? ⟨w.heap.size, 0, none⟩ = some (.slice A2 n2 c2) := by rw [hw7]; go_simp
      have c01 : w7.cell? ⟨w.heap.size, 1, none⟩ = some (.int .i64 a) := by rw [hw7]; go_simp
      have c02 : w7.cell? ⟨w.heap.size, 2, none⟩ = some (.int .i64 (b + G)) := by rw [hw7]; go_simp
      have c03 : w7.cell? ⟨w.heap.size, 3, none⟩ = some (.int .i64 z) := by rw [hw7]; go_simp
      have f03 : w7.frozen? ⟨w.heap.size, 3, none⟩ = false := by rw [hw7]; go_simp
      have ex : ∀ q, ¬ w.heap.size = q → w7.heap[q]? = w6.heap[q]? := fun q hq => by rw [hw7]; simp only [World.setCell, Array.getElem?_modify, if_neg hq]
      have zx : w7.heap.size = w6.heap.size := by rw [hw7]; simp [World.setCell]
      replace k1 := cell_same (ex _ (by omega)) k1
      replace k2 := cell_same (ex _ (by omega)) k2
      replace k3 := cell_same (ex _ (by omega)) k3
      replace c10 := cell_same (ex _ (by omega)) c10
      replace c11 := cell_same (ex _ (by omega)) c11
      replace c12 := cell_same (ex _ (by omega)) c12
      replace c13 := cell_same (ex _ (by omega)) c13
      replace f10 := frozen_same (ex _ (by omega)) f10
      replace f11 := frozen_same (ex _ (by omega)) f11
      replace f12 := frozen_same (ex _ (by omega)) f12
      replace f13 := frozen_same (ex _ (by omega)) f13
      have Ho7 := Lib.hid (Ho6.out.kept (w' := w7) (fun q hq _ => ex q (by omega)) (fun q _ hq => ex q (by omega)))
      have Hb7 := Lib.hid (show Below w.heap.size w w7 by rw [hw7]; exact (Hbz.out.setCell (p := ⟨_, _, _⟩) (by simp) _).setCell (p := ⟨_, _, _⟩) (by simp) _)
      have hz7 : w.heap.size + 1 + 1 < w7.heap.size := by have := HZ.out; omega
      rw [← hw7]
      clear hw7 ex zx Ho6 Hbz Hb6 g9 g10 k0 k4 f00 f01 f02
      obtain ⟨WL, hWL⟩ : ∃ x, x = E.W * E.L := ⟨_, rfl⟩
      have Hwl := Lib.hid (area_any E.W E.L (some ⟨b9, 0, none⟩) 0 0 w7)
      have HarA := Lib.hid har
      rw [← hWL] at har hGr
      have HWL := Lib.hid hWL
      clear hWL Hwl
      have g9 : IntKind.i64.wrap (z + WL) = z + WL := IntWalk.i64_in _ (by omega)
      have g10 : IntKind.i64.wrap (z + WL - G) = z + WL - G := IntWalk.i64_in _ (by omega)
      refine wp_region_last (S := fun w' => w'.cell? ⟨w.heap.size, 0, none⟩ = some (.slice A2 n2 c2) ∧ w'.cell? ⟨w.heap.size, 1, none⟩ = some (.int .i64 a) ∧ w'.cell? ⟨w.heap.size, 2, none⟩ = some (.int .i64 (b + G)) ∧ w'.cell? ⟨w.heap.size, 3, none⟩ = some (.int .i64 z) ∧ w'.cell? ⟨w.heap.size + 1 + 1, 1, none⟩ = some (.int .i64 (E.W)) ∧ w'.cell? ⟨w.heap.size + 1 + 1, 2, none⟩ = some (.int .i64 (E.L)) ∧ w'.cell? ⟨w.heap.size + 1 + 1, 3, none⟩ = some (.slice Ad E.ds.length cd)) 9 (by kernel_rfl) ?_ (fun hHeld => ?_)
      · (first | (try dsimp only); go_keep | (go_split_ands; refine ⟨?_, ?_, ?_, ?_, ?_, ?_, ?_⟩ <;> first | exact keepB bx2 (by assumption) | exact keepB bx1 (by assumption) | assumption))
      refine AnyL.take (i := 0) (oi := ⟨some 58, _, _, _, _, _⟩) (v := _) rfl (by kernel_rfl) (by kernel_rfl) (by kernel_rfl) (by kernel_rfl) (fun _ _ _ h => h) (Or.inl ⟨by kernel_rfl, by intro w hSw; (try dsimp only at hSw); go_simp; try with_reducible rfl⟩) (by assumption) ?_
      simp only [Act.put, lyA, lyB, lyC]
      refine AnyL.take (i := 1) (oi := ⟨some 59, _, _, _, _, _⟩) (v := _) rfl (by kernel_rfl) (by kernel_rfl) (by kernel_rfl) (by kernel_rfl) (fun _ _ _ h => h) (Or.inl ⟨by kernel_rfl, by intro w hSw; (try dsimp only at hSw); go_simp; try with_reducible rfl⟩) (by assumption) ?_
      simp only [Act.put, lyA, lyB, lyC]
      refine AnyL.take (i := 2) (oi := ⟨some 60, _, _, _, _, _⟩) (v := _) rfl (by kernel_rfl) (by kernel_rfl) (by kernel_rfl) (by kernel_rfl) (fun _ _ _ h => h) (Or.inl ⟨by kernel_rfl, by intro w hSw; (try dsimp only at hSw); go_simp; try with_reducible rfl⟩) (by assumption) ?_
      simp only [Act.put, lyA, lyB, lyC]
      refine AnyL.take (i := 3) (oi := ⟨some 61, _, _, _, _, _⟩) (v := _) rfl (by kernel_rfl) (by kernel_rfl) (by kernel_rfl) (by kernel_rfl) (fun _ _ _ h => h) (Or.inl ⟨by kernel_rfl, by intro w hSw; (try dsimp only at hSw); go_simp; try with_reducible rfl⟩) (by assumption) ?_
      simp only [Act.put, lyA, lyB, lyC]
      refine AnyL.take (i := 6) (oi := ⟨some 64, _, _, _, _, _⟩) (v := _) rfl (by kernel_rfl) (by kernel_rfl) (by kernel_rfl) (by kernel_rfl) (fun _ _ _ h => h) (Or.inl ⟨by kernel_rfl, by intro w hSw; (try dsimp only at hSw); go_simp; try with_reducible rfl⟩) (by assumption) ?_
      simp only [Act.put, lyA, lyB, lyC]
      refine AnyL.one (i := 4) (o := ⟨some 62, _, _, _, _, _⟩) (by kernel_rfl) rfl (fun K hK => ?_)
      go_simp
      go_at_call 107
      refine (area_any E.W E.L _ _ _ _ HarA.out).mono ?_
      rw [← HWL.out]
      rintro e x1 ⟨rfl, bx1⟩
      have by1 : Below w7.heap.size w7 x1 := below_drew bx1
      replace c00 := keepB by1 c00; replace c01 := keepB by1 c01; replace c02 := keepB by1 c02; replace c03 := keepB by1 c03; replace c10 := keepB by1 c10; replace c11 := keepB by1 c11; replace c12 := keepB by1 c12; replace c13 := keepB by1 c13; replace k1 := keepB by1 k1; replace k2 := keepB by1 k2; replace k3 := keepB by1 k3
      replace f03 := keepF by1 (by first | (simp; done) | (simp; omega)) f03; replace f10 := keepF by1 (by first | (simp; done) | (simp; omega)) f10; replace f11 := keepF by1 (by first | (simp; done) | (simp; omega)) f11; replace f12 := keepF by1 (by first | (simp; done) | (simp; omega)) f12; replace f13 := keepF by1 (by first | (simp; done) | (simp; omega)) f13
      go_wp2_with fail
      refine hK.out _ _ ?_ (fun hHeld2 => ?_)
      · (first | (try dsimp only); go_keep | (go_split_ands; refine ⟨?_, ?_, ?_, ?_, ?_, ?_, ?_⟩ <;> first | exact keepB bx2 (by assumption) | exact keepB bx1 (by assumption) | assumption))
      clear hK K hHeld
      have hHeld := hHeld2
      clear hHeld2
      try simp only [Act.put, lyA, lyB, lyC]
      refine AnyL.take (i := 5) (oi := ⟨some 63, _, _, _, _, _⟩) (v := _) rfl (by kernel_rfl) (by kernel_rfl) (by kernel_rfl) (by kernel_rfl) (fun _ _ _ h => h) (Or.inl ⟨by kernel_rfl, by intro w hSw; (try dsimp only at hSw); go_simp; try with_reducible rfl⟩) (by assumption) ?_
      simp only [Act.put, lyA, lyB, lyC]
      refine AnyL.take (i := 7) (oi := ⟨some 65, _, _, _, _, _⟩) (v := _) rfl (by kernel_rfl) (by kernel_rfl) (by kernel_rfl) (by kernel_rfl) (fun _ _ _ h => h) (Or.inl ⟨by kernel_rfl, by intro w hSw; (try dsimp only at hSw); go_simp; try with_reducible rfl⟩) (by assumption) ?_
      simp only [Act.put, lyA, lyB, lyC]
      refine AnyL.take (i := 8) (oi := ⟨some 66, _, _, _, _, _⟩) (v := _) rfl (by kernel_rfl) (by kernel_rfl) (by kernel_rfl) (by kernel_rfl) (fun _ _ _ h => h) (Or.inl ⟨by kernel_rfl, by intro w hSw; (try dsimp only at hSw); go_simp; try with_reducible rfl⟩) (by assumption) ?_
      simp only [Act.put, lyA, lyB, lyC]
      refine AnyL.last (o := ⟨none, _, _, _, _, _⟩) (by kernel_rfl) rfl (by kernel_rfl) (fun K hK => ?_)
      go_simp
      refine hK.out _ _ ?_
      clear hK K hHeld
      have Ho8 := Lib.hid (Ho7.out.kept (.of_below by1 (Nat.le_refl _)) (.of_below by1 (by omega)))
      have Hb8 := Lib.hid (Hb7.out.trans (by1.mono (by omega)))
      have HEW := Lib.hid (show z + WL - G = z + ((ge es i).W * (ge es i).L - goodA (ge es i) g) by rw [← HE.out, ← HWL.out, ← goodK_all E g, ← HGd.out, show k = E.ps.length by omega]; omega)
      have HGE := Lib.hid (show G = goodA (ge es i) g by rw [← HE.out, ← goodK_all E g, ← HGd.out, show k = E.ps.length by omega])
      clear bx1 by1 Ho7 Hb7 g9 g10
      go_wp2
      refine bodyPost_ret (v := .agg #[.slice A2 n2 c2, .int .i64 a, .int .i64 (b + G), .int .i64 (z + WL - G)]) (by simp [results, Tryz.results119, go_sem, *]) rfl ⟨_, by rw [HEW.out, HGE.out], ?_, ?_⟩
      · exact (Ho8.out.kept (w' := (((((x1.setCell ⟨w.heap.size, 3, none⟩ (.int .i64 (z + WL - G))).setCell ⟨w.heap.size + 1, 0, none⟩ (.slice A2 n2 c2)).setCell ⟨w.heap.size + 1, 1, none⟩ (.int .i64 a)).setCell ⟨w.heap.size + 1, 2, none⟩ (.int .i64 (b + G))).setCell ⟨w.heap.size + 1, 3, none⟩ (.int .i64 (z + WL - G)))) (fun q hq _ => by simp only [World.setCell, Array.getElem?_modify, if_neg (show ¬ w.heap.size = q by omega), if_neg (show ¬ w.heap.size + 1 = q by omega)]) (fun q _ hq => by simp only [World.setCell, Array.getElem?_modify, if_neg (show ¬ w.heap.size = q by omega), if_neg (show ¬ w.heap.size + 1 = q by omega)])).base (by omega)
      · exact ((((Hb8.out.setCell (p := ⟨_, _, _⟩) (by simp) _).setCell (p := ⟨_, _, _⟩) (by simp) _).setCell (p := ⟨_, _, _⟩) (by simp) _).setCell (p := ⟨_, _, _⟩) (by simp) _).setCell (p := ⟨_, _, _⟩) (by simp) _
end Go.Proofs.YtkgepklapglmdaaGreatDoor
